/- The journey that the reference draws: rides, a list of the rides' numbers, two stops; no conditions. -/
import Derived.Test.YtddnemmdlijgiaaRidesDraw
namespace Go.Proofs.Ytddnemmdlijgiaa
open Go.RowKit

def JourArgs (w : World) (e : Ending) (w' : World) : Prop := ∃ (A : Option Addr) (c : Nat) (l : List Rid) (B : Option Addr) (d : Nat) (js : List Int) (f t : Int), e = .returned (.tuple #[.slice A l.length c, .slice B js.length d, .int .i64 f, .int .i64 t]) ∧ l.length ≤ 14 ∧ js.length ≤ 4 ∧
  Own w' w.heap.size 52 5 Rid.cells A l ∧ Own w' w.heap.size 3 1 intCells B js ∧ Below w.heap.size w w'

set_option maxRecDepth 100000 in
set_option maxHeartbeats 4000000 in
theorem drawIsJourney_c (A : Option Addr) (n cap : Nat) (w : World) (hk : Codes w A n) : Calls Try.prog 47 #[.slice A n cap] w (JourArgs w) := by
  have HK := Lib.hid hk
  clear hk
  go_enter Try.func47, Try.ntmps47
  go_wp2_with fail
  refine (rides_c w.heap.size 0 _ HK.out.cur (by omega)).mono ?_
  rintro e w1 ⟨A1, c1, l, rfl, hl, ho1, hcw1, hgw1⟩
  have HO := Lib.hid ho1
  have HCw1 := Lib.hid hcw1
  have HGw1 := Lib.hid hgw1
  have HLT := Lib.hid (show w.heap.size < w1.heap.size by have := hcw1.lt; omega)
  clear ho1 hcw1 hgw1
  go_wp2_with fail
  refine (stop_c _ _ _ (HCw1.out.alloc _) (by omega)).mono ?_
  rintro e w2 ⟨f, rfl, f1, f2, hcw2, hgw2⟩
  have HCw2 := Lib.hid hcw2
  have HGw2 := Lib.hid hgw2
  clear hcw2 hgw2
  go_wp2_with fail
  refine (pick_c 4 _ _ _ HCw2.out (by omega) (by omega) (by omega)).mono ?_
  rintro e w3 ⟨p, rfl, p1, p2, hcw3, hgw3⟩
  have HCw3 := Lib.hid hcw3
  have HGw3 := Lib.hid hgw3
  clear hcw3 hgw3
  have HG3 := Lib.hid (but_trans HGw2.out HGw3.out)
  have HO3 := Lib.hid (owns_grown (ownsRow_empty w1 3 1) HG3.out HLT.out)
  have HB3 := Lib.hid (but_trans (but_alloc _) HG3.out)
  clear HGw2 HGw3 HG3 HCw1 HCw2
  obtain ⟨p, rfl⟩ : ∃ p' : Nat, p = (p' : Int) := ⟨p.toNat, by omega⟩
  go_wp2_with fail
  go_loopw [8, 10, 11, 12] (fun v a t i wr => ∃ (js : List Int) (k : Nat) (a0 t0 : Int), js.length + k ≤ 3 ∧ a = .int .i64 a0 ∧ t = .int .i64 t0 ∧ i = .int .i64 k ∧ wr.ownsRow w1.heap.size 3 1 v js.length (js.map (Value.int .i64)) ∧ Cur wr w.heap.size 200 ∧ w1.grownBy wr (some w.heap.size)) (fun _ _ _ i _ => (intOf i).toNat)
  case atStart => exact ⟨[], p, f, 0, by simp; omega, rfl, rfl, rfl, HO3.out, HCw3.out.mono (by omega), HB3.out⟩
  case round =>
    obtain ⟨js, k, a0, t0, hjk, rfl, rfl, rfl, hown, hcur, hbut⟩ := hrel
    have HO4 := Lib.hid hown
    have HB4 := Lib.hid hbut
    have HC4 := Lib.hid hcur
    obtain ⟨A3, cap3, rfl⟩ := ownsRow_shape hown
    have z4 := hbut.size
    clear hown hbut hcur
    rcases k with _ | k
    · go_wp2_with fail
      refine (one_c 6 _ _ _ HC4.out (by omega) (by omega) (by omega)).mono ?_
      rintro e w5 ⟨o, rfl, hcw5, hgw5⟩
      have HCw5 := Lib.hid hcw5
      have HGw5 := Lib.hid hgw5
      clear hcw5 hgw5
      have HO5 := Lib.hid (owns_grown HO4.out HGw5.out HLT.out)
      have HB5 := Lib.hid (but_trans HB4.out HGw5.out)
      rcases o with _ | _
      · have HR := Lib.hid (HO.out.grown HB5.out (by simp))
        go_wp2_with fail
        exact bodyPost_ret (v := .tuple #[.slice A1 l.length c1, .slice A3 js.length cap3, .int .i64 f, .int .i64 a0]) (by simp [results, Try.results47, go_sem]) rfl
          ⟨A1, c1, l, A3, cap3, js, f, a0, rfl, hl, by omega, HR.out.less (by simp), (Own.of_row' HO5.out rfl (flat_ints js).symm (fun _ => rfl)).less (Nat.le_of_lt HLT.out), draw_end (but_trans HGw1.out HB5.out)⟩
      · go_wp2_with fail
        refine (pick_c ((l.length : Int) + 1) _ _ _ HCw5.out (by omega) (by omega) (by omega)).mono ?_
        rintro e w6 ⟨r, rfl, r1, r2, hcw6, hgw6⟩
        have HCw6 := Lib.hid hcw6
        have HGw6 := Lib.hid hgw6
        clear hcw6 hgw6
        have HO6 := Lib.hid (owns_grown HO5.out HGw6.out HLT.out)
        have HB6 := Lib.hid (but_trans HB5.out HGw6.out)
        have z6 := HB6.out.size
        go_wp2_with (at_builtin; refine wpList_push2 _ rfl _ _ 32 rfl w1.heap.size 3 (.int .i64 0) 1 8 Try.underlying32 info_int rfl (by decide) (by decide) _ _ _ rfl (HO6.out.alloc _) w6.heap.size [.int .i64 (r)] rfl rfl ?c1 ?c2 ?c3 ?c4 ?_)
        try case c1 =>
          intro j u hj
          match j, hj with
          | 0, hj => simp at hj; subst hj; simp [go_sem]
        case c2 => first | rfl | (intro u hu; simp at hu; subst hu; rfl) | (simp; done) | (simp; rfl)
        case c3 => omega
        case c4 => first | omega | (simp; omega)
        intro v' w' hown' hb' _
        rw [show js.map (Value.int .i64) ++ [.int .i64 (r)] = (js ++ [r]).map (Value.int .i64) by simp] at hown'
        obtain ⟨e1, e2⟩ := push_end HB6.out HCw6.out HLT.out (((Below.refl _ _).alloc z6 _).trans hb')
        have E1 := Lib.hid e1
        have E2 := Lib.hid e2
        have E3 := Lib.hid hown'
        obtain ⟨A7, cap7, rfl⟩ := ownsRow_shape hown'
        clear e1 e2 hown' hb'
        go_wp2_with fail
        refine (stop_c _ _ _ E1.out (by omega)).mono ?_
        rintro e w8 ⟨t, rfl, t1, t2, hcw8, hgw8⟩
        have HCw8 := Lib.hid hcw8
        have HGw8 := Lib.hid hgw8
        clear hcw8 hgw8
        have HO8 := Lib.hid (owns_grown E3.out HGw8.out HLT.out)
        have HB8 := Lib.hid (but_trans E2.out HGw8.out)
        have HR := Lib.hid (HO.out.grown HB8.out (by simp))
        go_wp2_with fail
        exact bodyPost_ret (v := .tuple #[.slice A1 l.length c1, .slice A7 (js.length + 1) cap7, .int .i64 f, .int .i64 t]) (by simp [results, Try.results47, go_sem]) rfl
          ⟨A1, c1, l, A7, cap7, js ++ [r], f, t, by simp, hl, by simp; omega, HR.out.less (by simp), (Own.of_row' HO8.out (by simp) (flat_ints _).symm (fun _ => rfl)).less (Nat.le_of_lt HLT.out), draw_end (but_trans HGw1.out HB8.out)⟩
    · go_wp2_with fail
      go_loop [8, 10, 11, 13] (fun v a t i => ∃ q : Nat, q ≤ l.length ∧ i = .int .i64 q ∧ v = .slice A3 js.length cap3 ∧ a = .int .i64 a0 ∧ t = .int .i64 t0) (fun _ _ _ i => l.length - (intOf i).toNat)
      case atStart => exact ⟨0, Nat.zero_le _, rfl, rfl, rfl, rfl⟩
      case round =>
        obtain ⟨q, hq, rfl, rfl, rfl, rfl⟩ := hrel
        by_cases hlt : q < l.length
        · obtain ⟨r, hr⟩ : ∃ r : Nat, ((q : Int) + ((k : Int) + 1)) % (l.length : Int) = r := ⟨(((q : Int) + ((k : Int) + 1)) % (l.length : Int)).toNat, by have := Int.emod_nonneg ((q : Int) + ((k : Int) + 1)) (show (l.length : Int) ≠ 0 by omega); omega⟩
          have hrl : r < l.length := by have := Int.emod_lt_of_pos ((q : Int) + ((k : Int) + 1)) (show (0 : Int) < l.length by omega); omega
          obtain ⟨b, off, rfl, hb1, hcs⟩ := Rid.rd ((HO.out.grown HB4.out (by simp)).rd (fun _ => rfl)) hrl
          have hrl2 : (r : Int) < l.length := by omega
          by_cases hyes : (nth l r).f = a0 ∧ t0 ≤ (nth l r).d
          · obtain ⟨y1, y2⟩ := hyes
            have y3 : ((nth l r).f == a0) = true := by simp [y1]
            have HY := Lib.hid y1
            clear y1
            go_wp2_with (at_builtin; refine wpList_push2 _ rfl _ _ 32 rfl w1.heap.size 3 (.int .i64 0) 1 8 Try.underlying32 info_int rfl (by decide) (by decide) _ _ _ rfl (HO4.out.alloc _) wr.heap.size [.int .i64 ((r : Int))] rfl rfl ?c1 ?c2 ?c3 ?c4 ?_)
            try case c1 =>
              intro j u hj
              match j, hj with
              | 0, hj => simp at hj; subst hj; simp [go_sem]
            case c2 => first | rfl | (intro u hu; simp at hu; subst hu; rfl) | (simp; done) | (simp; rfl)
            case c3 => omega
            case c4 => first | omega | (simp; omega)
            intro v' w' hown' hb' _
            rw [show js.map (Value.int .i64) ++ [.int .i64 ((r : Int))] = (js ++ [(r : Int)]).map (Value.int .i64) by simp] at hown'
            have hbA : Below w1.heap.size wr w' := ((Below.refl _ _).alloc z4 _).trans hb'
            obtain ⟨e1, e2⟩ := push_end HB4.out HC4.out HLT.out hbA
            obtain ⟨b', off', e', _, hcs'⟩ := Rid.rd ((HO.out.grown e2 (by simp)).rd (fun _ => rfl)) hrl
            cases e'
            have E1 := Lib.hid e1
            have E2 := Lib.hid e2
            have E3 := Lib.hid hown'
            clear e1 e2 hown' hb' hbA hcs
            go_wp2_with fail
            go_roundw
            case rel => exact ⟨js ++ [(r : Int)], k, _, _, by simp; omega, rfl, rfl, by go_num, by simpa using E3.out, E1.out, E2.out⟩
            case measure => simp [intOf]
          · by_cases y1 : (nth l r).f = a0
            · have y2 : ¬ t0 ≤ (nth l r).d := fun h => hyes ⟨y1, h⟩
              have y3 : ((nth l r).f == a0) = true := by simp [y1]
              have HY := Lib.hid y1
              clear y1 hyes
              go_wp2_with fail
              go_round
              case rel => exact ⟨q + 1, by omega, by go_num, rfl, rfl, rfl⟩
              case measure => simp [intOf]; omega
            · have y3 : ((nth l r).f == a0) = false := by simp [y1]
              clear y1 hyes
              go_wp2_with fail
              go_round
              case rel => exact ⟨q + 1, by omega, by go_num, rfl, rfl, rfl⟩
              case measure => simp [intOf]; omega
        · go_wp2_with fail
          go_roundw
          case rel => exact ⟨js, k, a0, t0, by omega, rfl, rfl, by go_num, HO4.out, HC4.out, HB4.out⟩
          case measure => simp [intOf]
end Go.Proofs.Ytddnemmdlijgiaa
