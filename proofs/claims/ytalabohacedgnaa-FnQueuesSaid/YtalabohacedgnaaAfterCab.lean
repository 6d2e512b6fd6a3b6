/- AfterCabin of the program and of the reference return one Lean function; no conditions but the length. -/
import Derived.Test.YtalabohacedgnaaAfter
namespace Go.Proofs.Ytalabohacedgnaa
open Go.RowKit

def aftF (l : List Gro) (s : Int) : List Gro × Int × Bool := if fitG l s then (restTo l (fillL l s) l.length, inTo l (fillL l s) l.length, true) else ([], 0, false)
def AfcPost (p : List Gro × Int × Bool) (w : World) (e : Ending) (w' : World) : Prop := ∃ A cap, e = .returned (.tuple #[.slice A p.1.length cap, .int .i64 p.2.1, .bool p.2.2]) ∧ Own w' w.heap.size 52 2 Gro.cells A p.1 ∧ Below w.heap.size w w'
theorem ret3 {A : Option Addr} {n m cap : Nat} {i j : Int} {b c : Bool} (h : n = m) (h2 : i = j) (h3 : b = c) : Ending.returned (.tuple #[.slice A n cap, .int .i64 i, .bool b]) = .returned (.tuple #[.slice A m cap, .int .i64 j, .bool c]) := by rw [h, h2, h3]
theorem implAfterCabin_c (l : List Gro) (A : Option Addr) (cap : Nat) (s : Int) (w : World) (hl : l.length ≤ 1048576) (hr : Rd w w.heap.size 2 Gro.cells A l) :
    Calls Try.prog 33 #[.slice A l.length cap, .int .i64 s] w (AfcPost (aftF l s) w) := by
  rcases hg : fitG l s with _ | _
  · have H := Lib.hid (show aftF l s = ([], 0, false) by simp [aftF, hg])
    go_enter Try.func33, Try.ntmps33
    go_wp2_with fail
    refine (fits_c l _ _ _ _ hl hr).mono ?_
    rintro e w1 ⟨rfl, hb1⟩
    go_wp2_with fail
    go_ret3
    exact ⟨none, 0, ret3 (by rw [H.out]; rfl) (by rw [H.out]) (by rw [H.out]), by rw [H.out]; exact Own.nil, hb1⟩
  have hf12 := fillL_len hg
  obtain ⟨h1, ⟨h2, h3⟩, _⟩ := fitG_true hg
  have HG := Lib.hid h1
  have H := Lib.hid (show aftF l s = (restTo l (fillL l s) l.length, inTo l (fillL l s) l.length, true) by simp [aftF, hg])
  clear h1
  go_enter Try.func33, Try.ntmps33
  go_wp2_with fail
  refine (fits_c l _ _ _ _ hl hr).mono ?_
  rintro e w1 ⟨rfl, hb1⟩
  have hr1 := hr.carry hb1
  have HB1 := Lib.hid hb1
  clear hb1
  go_wp2_with fail
  refine (fill_c l _ _ s _ hr1 HG.out (by omega) (by omega)).mono ?_
  rintro e w2 ⟨g, gc, rfl, hgb, harr, hb2⟩
  have hr2 := hr1.carry hb2
  have hv2 := (harr.own hgb).rd (fun _ => rfl)
  have HB2 := Lib.hid (HB1.out.trans (hb2.mono HB1.out.size))
  clear harr hb2
  go_wp2_with fail
  refine (after_c l (fillL l s) _ _ _ _ _ hr2 hv2 (by omega) HG.out).mono ?_
  rintro e w3 ⟨A3, cap3, rfl, ho3, hb3⟩
  have HO3 := Lib.hid ho3
  have HB3 := Lib.hid (HB2.out.trans (hb3.mono HB2.out.size))
  clear ho3 hb3
  go_wp2_with fail
  go_ret3
  exact ⟨A3, cap3, ret3 (by rw [H.out]) (by rw [H.out]) (by rw [H.out]), by rw [H.out]; exact HO3.out.less HB2.out.size, HB3.out⟩
theorem cell_heap {w w' : World} {b o : Nat} (h : w'.heap[b]? = w.heap[b]?) : w'.cell? ⟨b, o, none⟩ = w.cell? ⟨b, o, none⟩ := by
  unfold World.cell?; rw [h]
set_option maxHeartbeats 1600000 in
set_option maxRecDepth 100000 in
theorem specAfterCabin_c (l : List Gro) (A : Option Addr) (cap : Nat) (s : Int) (w : World) (hl : l.length ≤ 1048576) (hr : Rd w w.heap.size 2 Gro.cells A l) :
    Calls Try.prog 32 #[.slice A l.length cap, .int .i64 s] w (AfcPost (aftF l s) w) := by
  rcases hg : fitG l s with _ | _
  · have H := Lib.hid (show aftF l s = ([], 0, false) by simp [aftF, hg])
    go_enter Try.func32, Try.ntmps32
    go_wp2_with fail
    refine (l13Asked_c l _ _ _ _ hl (hr.alloc _)).mono ?_
    rintro e w1 ⟨rfl, rfl⟩
    go_wp2_with fail
    go_ret3
    exact ⟨_, 0, ret3 (by rw [H.out]; rfl) (by rw [H.out]) (by rw [H.out]), by rw [H.out]; exact Own.nil, (by repeat (first | (with_reducible exact Below.refl _ _) | ((with_reducible refine alloc_ ?_ ?_); (focus (first | exact Nat.le_refl _ | (simp; done) | (simp; omega) | omega))) | ((with_reducible refine set_ ?_ ?_); (focus (first | exact Nat.le_refl _ | (simp; done) | (simp; omega) | omega))) | (with_reducible refine Below.drew ?_) | ((with_reducible refine after_ ?_ (by assumption) ?_); (rotate_left; (focus (first | exact Nat.le_refl _ | (simp; done) | (simp; omega) | omega))))))⟩
  have hf12 := fillL_len hg
  obtain ⟨h1, ⟨h2, h3⟩, _⟩ := fitG_true hg
  have HG := Lib.hid h1
  have HI := Lib.hid (inTo_bd (l := l) (u := fillL l s) h1.2)
  have hl12 := h1.1
  have H := Lib.hid (show aftF l s = (restTo l (fillL l s) l.length, inTo l (fillL l s) l.length, true) by simp [aftF, hg])
  clear h1
  go_enter Try.func32, Try.ntmps32
  go_wp2_with fail
  refine (l13Asked_c l _ _ _ _ hl (hr.alloc _)).mono ?_
  rintro e w1 ⟨rfl, rfl⟩
  go_wp2_with fail
  refine (l13Fill_c l _ _ s _ (hr.alloc _) HG.out (by omega) (by omega)).mono ?_
  rintro e w2 ⟨g, gc, rfl, hgb, harr, hb2⟩
  obtain ⟨u, hu⟩ : ∃ u, fillL l s = u := ⟨_, rfl⟩
  rw [hu] at hf12 harr ⊢
  have hr2 := (hr.alloc (.cells #[] 52)).carry hb2
  have HA2 := Lib.hid harr
  have HI := Lib.hid (show ∀ k, k ≤ l.length → 0 ≤ inTo l u k ∧ inTo l u k ≤ 8 * k by rw [← hu]; exact HI.out)
  have H := Lib.hid (show aftF l s = (restTo l u l.length, inTo l u l.length, true) by rw [H.out, hu])
  have HB2 := Lib.hid (show Below w.heap.size w w2 from (by repeat (first | (with_reducible exact Below.refl _ _) | ((with_reducible refine alloc_ ?_ ?_); (focus (first | exact Nat.le_refl _ | (simp; done) | (simp; omega) | omega))) | ((with_reducible refine set_ ?_ ?_); (focus (first | exact Nat.le_refl _ | (simp; done) | (simp; omega) | omega))) | (with_reducible refine Below.drew ?_) | ((with_reducible refine after_ ?_ (by assumption) ?_); (rotate_left; (focus (first | exact Nat.le_refl _ | (simp; done) | (simp; omega) | omega)))))))
  have HE2 := Lib.hid (ownsRow_below (ownsRow_empty w 52 2) hb2)
  have hgb' : w.heap.size + 1 ≤ g := by simpa using hgb
  clear harr hb2 hu hgb
  go_wp2_with fail
  go_loopw [7, 8, 10] (fun v p i wr => ∃ k : Nat, k ≤ l.length ∧ i = .int .i64 k ∧ p = .int .i64 (inTo l u k) ∧ wr.ownsRow w.heap.size 52 2 v (restTo l u k).length (((restTo l u k).map Gro.cells).flatten) ∧ v.ownBlock ≠ some g ∧ Arr wr g u ∧ Below w.heap.size w wr) (fun _ _ i _ => l.length - (intOf i).toNat)
  case atStart => exact ⟨0, Nat.zero_le _, rfl, rfl, HE2.out, by simp [Value.ownBlock]; omega, HA2.out, HB2.out⟩
  case round =>
    obtain ⟨k, hk, rfl, rfl, hown, hne, harr, hbel⟩ := hrel
    have HB := Lib.hid hbel
    have HO := Lib.hid hown
    have HN := Lib.hid hne
    have HA := Lib.hid harr
    have z1 := hbel.size
    by_cases hlt : k < l.length
    · obtain ⟨b, off, rfl, hb1, hcs⟩ := Gro.rd (hr.below hbel (Nat.le_refl _)) hlt
      obtain ⟨g1, g2⟩ := HG.out.2 k hlt
      obtain ⟨p1, p2⟩ := HI.out k hk
      have hle := restTo_len (l := l) (u := u) k
      have l1 : b < wr.heap.size := by omega
      have hlg := harr.lt
      have hsb := Lib.hid harr.rd
      obtain ⟨A3, cap3, rfl⟩ := ownsRow_shape hown
      clear hbel hown harr hne
      rcases hh : hasI u k with _ | _
      · have H1 := Lib.hid (show restTo l u (k + 1) = restTo l u k ++ [nth l k] by rw [restTo, if_neg (by simp [hh])])
        have H2 := Lib.hid (show inTo l u (k + 1) = inTo l u k by rw [inTo, if_neg (by simp [hh])])
        go_wp2_with (first | (go_at_call 66; refine (l1Has_c u _ _ _ _ (by omega) hsb.out).mono ?_; rintro e w' ⟨rfl, rfl⟩) | (at_builtin; refine wpList_push2 _ rfl _ _ 25 rfl w.heap.size 52 (.agg #[.int .i64 0, .bool false]) 2 16 Try.underlying25 info_gro rfl (by decide) (by decide) _ _ _ rfl (HO.out.alloc _) wr.heap.size [.int .i64 (nth l k).s, .bool (nth l k).q] rfl rfl ?c1 ?c2 ?c3 ?c4 ?_))
        try case c1 =>
          intro j u hj
          match j, hj with
          | 0, hj => simp at hj; subst hj; simp [go_sem]
          | 1, hj => simp at hj; subst hj; simp [go_sem]
        case c2 => first | exact ⟨rfl, rfl⟩ | (intro u hu; simp at hu; rcases hu with rfl | rfl <;> rfl) | (simp; exact ⟨rfl, rfl⟩)
        case c3 => omega
        case c4 => first | omega | (simp; omega)
        intro v' w' hown' hb' hk'
        have HO' := Lib.hid hown'
        have HB' := Lib.hid ((HB.out.alloc z1 (.cells #[.int .i64 (nth l k).s, .bool (nth l k).q] 52)).trans hb')
        have HK := Lib.hid (hk' g (by first | omega | (simp; omega)) HN.out)
        have HA' := Lib.hid ((HA.out.carry ((Below.refl _ _).alloc (Nat.le_refl _) (.cells #[.int .i64 (nth l k).s, .bool (nth l k).q] 52))).keep HK.out.1)
        clear hown' hb' hk'
        go_wp2_with fail
        go_roundw
        case rel => exact ⟨k + 1, by omega, by go_num, by rw [H2.out], by rw [H1.out, ← flat_push, List.length_append]; exact HO'.out, HK.out.2, HA'.out, HB'.out⟩
        case measure => simp [intOf]; omega
      · have H1 := Lib.hid (show restTo l u (k + 1) = restTo l u k by rw [restTo, if_pos hh])
        have H2 := Lib.hid (show inTo l u (k + 1) = inTo l u k + (nth l k).s by rw [inTo, if_pos hh])
        go_wp2_with (go_at_call 66; refine (l1Has_c u _ _ _ _ (by omega) hsb.out).mono ?_; rintro e w' ⟨rfl, rfl⟩)
        go_roundw
        case rel => exact ⟨k + 1, by omega, by go_num, by rw [H2.out], by rw [H1.out]; exact HO.out, HN.out, HA.out, HB.out⟩
        case measure => simp [intOf]; omega
    · obtain rfl : k = l.length := by omega
      clear hbel
      obtain ⟨A', cap'', rfl⟩ := ownsRow_shape hown
      clear hown hne harr
      go_wp2_with fail
      go_ret3
      exact ⟨A', cap'', ret3 (by rw [H.out]) (by rw [H.out]) (by rw [H.out]), by rw [H.out]; exact Own.of_row' HO.out rfl rfl fun _ => rfl, HB.out⟩
end Go.Proofs.Ytalabohacedgnaa
