/- What the reference draws of queues: a list of groups of the call's own, a number of seats; only the cursor's own block turns; no conditions but that the cursor has not gone very far. -/
import Derived.Test.YtalabohacedgnaaVee
import Derived.Test.YtalabohacedgnaaSplit
namespace Go.Proofs.Ytalabohacedgnaa
open Go.RowKit

theorem seats_c (gc K : Nat) (w : World) (h : Cur w gc K) (hK : K ≤ 1000000) : Calls Try.prog 72 #[.pointer (some ⟨gc, 0, none⟩)] w (Drew gc (K + 2) 0 11 w) := by
  have HC := Lib.hid h
  clear h
  go_enter Try.func72, Try.ntmps72
  go_wp2_with fail
  refine (among_c [4, 6, 8, 8, 8, 10, 10, 2, 1, 0, 11] 0 11 gc K _ _ _ HC.out (by omega) rfl rfl (by decide) (by decide) (by decide)).mono ?_
  rintro e w1 ⟨v, rfl, v1, v2, hc1, hg1⟩
  have H1 := Lib.hid hc1
  have G1 := Lib.hid hg1
  clear hc1 hg1
  go_wp2_with fail
  go_ret
  exact ⟨v, rfl, v1, v2, H1.out, G1.out⟩
/-- What is drawn: a list of the call's own. -/
def GroupsD (gc K : Nat) (w : World) (e : Ending) (w' : World) : Prop := ∃ (A : Option Addr) (cap : Nat) (l : List Gro), e = .returned (.slice A l.length cap) ∧ l.length ≤ 14 ∧ Own w' w.heap.size 52 2 Gro.cells A l ∧ Cur w' gc K ∧ w.grownBy w' (some gc)

set_option maxHeartbeats 4000000 in
theorem queue_c (gc K : Nat) (w : World) (h : Cur w gc K) (hK : K ≤ 100000) : Calls Try.prog 71 #[.pointer (some ⟨gc, 0, none⟩)] w (GroupsD gc (K + 150) w) := by
  have HC := Lib.hid h
  have HLT := Lib.hid h.lt
  clear h
  go_enter Try.func71, Try.ntmps71
  go_wp2_with fail
  refine (pick_c 9 gc K _ (HC.out.alloc _) (by omega) (by omega) (by omega)).mono ?_
  rintro e w1 ⟨n, rfl, n1, n2, hcw1, hgw1⟩
  have HCw1 := Lib.hid hcw1
  have HGw1 := Lib.hid hgw1
  clear hcw1 hgw1
  have HO1 := Lib.hid (owns_grown (ownsRow_empty w 52 2) HGw1.out HLT.out)
  have HB1 := Lib.hid (but_trans (but_alloc _) HGw1.out)
  clear HGw1
  obtain ⟨n, rfl⟩ : ∃ n' : Nat, n = (n' : Int) := ⟨n.toNat, by omega⟩
  go_wp2_with fail
  go_loopw [3, 4] (fun v i wr => ∃ (l : List Gro) (k j : Nat), j + k ≤ 8 ∧ l.length ≤ j ∧ i = .int .i64 k ∧ wr.ownsRow w.heap.size 52 2 v l.length ((l.map Gro.cells).flatten) ∧ Cur wr gc (K + 2 + 10 * j) ∧ w.grownBy wr (some gc)) (fun _ i _ => (intOf i).toNat)
  case atStart => exact ⟨[], n, 0, by omega, Nat.le_refl _, rfl, HO1.out, HCw1.out, HB1.out⟩
  case round =>
    obtain ⟨l, k, j, hjk, hl, rfl, hown, hcur, hbut⟩ := hrel
    have HO := Lib.hid hown
    have HB := Lib.hid hbut
    have HR := Lib.hid hcur
    obtain ⟨A3, cap3, rfl⟩ := ownsRow_shape hown
    clear hown hbut hcur
    rcases k with _ | k
    · go_wp2_with fail
      refine (pick_c 32 gc _ _ HR.out (by omega) (by omega) (by omega)).mono ?_
      rintro e w2 ⟨m, rfl, m1, m2, hcw2, hgw2⟩
      have HCw2 := Lib.hid hcw2
      have HGw2 := Lib.hid hgw2
      clear hcw2 hgw2
      have HO2 := Lib.hid (owns_grown HO.out HGw2.out HLT.out)
      have HB2 := Lib.hid (but_trans HB.out HGw2.out)
      clear HGw2 HO HB HR
      have hcase : m = 0 ∨ m = 1 ∨ (m ≠ 0 ∧ m ≠ 1) := by omega
      rcases hcase with rfl | rfl | ⟨q0, q1⟩
      · go_wp2_with fail
        refine (among_c [0, 9] 0 9 gc _ _ _ _ HCw2.out (by omega) rfl rfl (by decide) (by decide) (by decide)).mono ?_
        rintro e w7 ⟨s, rfl, s1, s2, hcw7, hgw7⟩
        have HCw7 := Lib.hid hcw7
        have HGw7 := Lib.hid hgw7
        clear hcw7 hgw7
        have HO7 := Lib.hid (owns_grown HO2.out HGw7.out HLT.out)
        have HB7 := Lib.hid (but_trans HB2.out HGw7.out)
        have z7 := HB7.out.size
        clear HGw7 HO2 HB2
        go_wp2_with (at_builtin; refine wpList_push2 _ rfl _ _ 25 rfl w.heap.size 52 (.agg #[.int .i64 0, .bool false]) 2 16 Try.underlying25 info_gro rfl (by decide) (by decide) _ _ _ rfl (HO7.out.alloc _) w7.heap.size (Gro.cells ⟨s, false⟩) rfl rfl ?c1 ?c2 ?c3 ?c4 ?_)
        try case c1 =>
          intro j u hj
          match j, hj with
          | 0, hj => simp [Gro.cells] at hj; subst hj; simp [go_sem]
          | 1, hj => simp [Gro.cells] at hj; subst hj; simp [go_sem]
        case c2 => intro u hu; simp [Gro.cells] at hu; rcases hu with rfl | rfl <;> rfl
        case c3 => omega
        case c4 => first | omega | (simp; omega)
        intro v' w' hown' hb' _
        rw [flat_push] at hown'
        obtain ⟨e1, e2⟩ := push_end HB7.out HCw7.out HLT.out (((Below.refl _ _).alloc z7 _).trans hb')
        have E1 := Lib.hid e1
        have E2 := Lib.hid e2
        have E3 := Lib.hid hown'
        obtain ⟨A8, cap8, rfl⟩ := ownsRow_shape hown'
        clear e1 e2 hown' hb'
        go_wp2_with fail
        go_ret
        exact ⟨A8, cap8, l ++ [⟨s, false⟩], by simp, by simp; omega, Own.of_row' E3.out (by simp) rfl (fun _ => rfl), E1.out.mono (by omega), E2.out⟩
      · go_wp2_with fail
        go_loopw [3] (fun v wi => ∃ l : List Gro, l.length ≤ 13 ∧ wi.ownsRow w.heap.size 52 2 v l.length ((l.map Gro.cells).flatten) ∧ Cur wi gc (K + 110 + 2 * l.length) ∧ w.grownBy wi (some gc)) (fun v _ => match v with | .slice _ n _ => 14 - n | _ => 0)
        case atStart => exact ⟨l, by omega, HO2.out, HCw2.out.mono (by omega), HB2.out⟩
        case round =>
          obtain ⟨l, hl, hown, hcur, hbut⟩ := hrel
          have HO := Lib.hid hown
          have HB := Lib.hid hbut
          have HR := Lib.hid hcur
          obtain ⟨A4, cap4, rfl⟩ := ownsRow_shape hown
          clear hown hbut hcur
          go_wp2_with fail
          refine (pick_c 2 gc _ _ HR.out (by omega) (by omega) (by omega)).mono ?_
          rintro e w3 ⟨m, rfl, m1, m2, hcw3, hgw3⟩
          have HCw3 := Lib.hid hcw3
          have HGw3 := Lib.hid hgw3
          clear hcw3 hgw3
          have HO3 := Lib.hid (owns_grown HO.out HGw3.out HLT.out)
          have HB3 := Lib.hid (but_trans HB.out HGw3.out)
          have z3 := HB3.out.size
          clear HGw3 HO HB HR
          by_cases hlt : (l.length : Int) < 12 + m
          · have z3' := z3
            go_wp2_with (at_builtin; refine wpList_push2 _ rfl _ _ 25 rfl w.heap.size 52 (.agg #[.int .i64 0, .bool false]) 2 16 Try.underlying25 info_gro rfl (by decide) (by decide) _ _ _ rfl (HO3.out.alloc _) w3.heap.size (Gro.cells ⟨1, false⟩) rfl rfl ?c1 ?c2 ?c3 ?c4 ?_)
            try case c1 =>
              intro j u hj
              match j, hj with
              | 0, hj => simp [Gro.cells] at hj; subst hj; simp [go_sem]
              | 1, hj => simp [Gro.cells] at hj; subst hj; simp [go_sem]
            case c2 => intro u hu; simp [Gro.cells] at hu; rcases hu with rfl | rfl <;> rfl
            case c3 => omega
            case c4 => first | omega | (simp; omega)
            intro v' w' hown' hb' _
            rw [flat_push] at hown'
            obtain ⟨e1, e2⟩ := push_end HB3.out HCw3.out HLT.out (((Below.refl _ _).alloc z3 _).trans hb')
            have E1 := Lib.hid e1
            have E2 := Lib.hid e2
            have E3 := Lib.hid hown'
            obtain ⟨A5, cap5, rfl⟩ := ownsRow_shape hown'
            clear e1 e2 hown' hb'
            go_wp2_with fail
            go_roundw
            case rel => exact ⟨l ++ [⟨1, false⟩], by simp; omega, by simpa using E3.out, E1.out.mono (by simp; omega), E2.out⟩
            case measure => simp; omega
          · go_wp2_with fail
            go_ret
            exact ⟨A4, cap4, l, rfl, by omega, Own.of_row' HO3.out rfl rfl (fun _ => rfl), HCw3.out.mono (by omega), HB3.out⟩
      · go_wp2_with fail
        go_ret
        exact ⟨A3, cap3, l, rfl, by omega, Own.of_row' HO2.out rfl rfl (fun _ => rfl), HCw2.out.mono (by omega), HB2.out⟩
    · go_wp2_with fail
      refine (among_c [1, 1, 2, 2, 2, 3, 4, 4, 5, 6, 8] 1 8 gc _ _ _ _ HR.out (by omega) rfl rfl (by decide) (by decide) (by decide)).mono ?_
      rintro e w2 ⟨s, rfl, s1, s2, hcw2, hgw2⟩
      have HCw2 := Lib.hid hcw2
      have HGw2 := Lib.hid hgw2
      clear hcw2 hgw2
      go_wp2_with fail
      refine (one_c 4 gc _ _ HCw2.out (by omega) (by omega) (by omega)).mono ?_
      rintro e w3 ⟨q, rfl, hcw3, hgw3⟩
      have HCw3 := Lib.hid hcw3
      have HGw3 := Lib.hid hgw3
      clear hcw3 hgw3
      have HG := Lib.hid (but_trans HGw2.out HGw3.out)
      have HO3 := Lib.hid (owns_grown HO.out HG.out HLT.out)
      have HB3 := Lib.hid (but_trans HB.out HG.out)
      have z3 := HB3.out.size
      clear HGw2 HGw3 HG HO HB
      go_wp2_with (at_builtin; refine wpList_push2 _ rfl _ _ 25 rfl w.heap.size 52 (.agg #[.int .i64 0, .bool false]) 2 16 Try.underlying25 info_gro rfl (by decide) (by decide) _ _ _ rfl (HO3.out.alloc _) w3.heap.size (Gro.cells ⟨s, q⟩) rfl rfl ?c1 ?c2 ?c3 ?c4 ?_)
      try case c1 =>
        intro j u hj
        match j, hj with
        | 0, hj => simp [Gro.cells] at hj; subst hj; simp [go_sem]
        | 1, hj => simp [Gro.cells] at hj; subst hj; simp [go_sem]
      case c2 => intro u hu; simp [Gro.cells] at hu; rcases hu with rfl | rfl <;> rfl
      case c3 => omega
      case c4 => first | omega | (simp; omega)
      intro v' w' hown' hb' _
      rw [flat_push] at hown'
      obtain ⟨e1, e2⟩ := push_end HB3.out HCw3.out HLT.out (((Below.refl _ _).alloc z3 _).trans hb')
      have E1 := Lib.hid e1
      have E2 := Lib.hid e2
      have E3 := Lib.hid hown'
      clear e1 e2 hown' hb'
      go_wp2_with fail
      go_roundw
      case rel => exact ⟨l ++ [⟨s, q⟩], k, j + 1, by omega, by simp; omega, by go_num, by simpa using E3.out, E1.out.mono (by omega), E2.out⟩
      case measure => simp [intOf]
end Go.Proofs.Ytalabohacedgnaa
