/- SeatsOnLine, CabinsIn, NextOut and CabinLoad of the program and of the reference return one Lean function each; no conditions but the length. -/
import Derived.Test.YteoajaichjojdaaDoorCbnWays
import Derived.Test.YteoajaichjojdaaDoorOwn
import Derived.Test.YteoajaichjojdaaDoorPush
import Derived.Test.YteoajaichjojdaaDoorInts
namespace Go.Proofs.YteoajaichjojdaaDoor
open Go.RowKit

theorem rett2 {p : Int × Bool} {a b : Int} {c d : Bool} (h : p = (b, d)) (h1 : a = b) (h2 : c = d) : Ending.returned (.tuple #[.int .i64 a, .bool c]) = .returned (.tuple #[.int .i64 p.1, .bool p.2]) := by rw [h, h1, h2]
def ListPost (p : List Int × Bool) (w : World) (e : Ending) (w' : World) : Prop := ∃ A cap, e = .returned (.tuple #[.slice A p.1.length cap, .bool p.2]) ∧ Own w' w.heap.size 3 1 intCells A p.1 ∧ Below w.heap.size w w'

set_option maxHeartbeats 1000000 in
theorem implCabinsIn_c (l : List Cbn) (A : Option Addr) (cap : Nat) (t : Int) (w : World) (hl : l.length ≤ 1048576) (hr : Rd w w.heap.size 5 Cbn.cells A l) :
    Calls Tryd.prog 17 #[.slice A l.length cap, .int .i64 t] w (ListPost (cabsIn l t) w) := by
  rcases hg : goodC l with _ | _
  · have H := Lib.hid (show cabsIn l t = ([], false) by simp [cabsIn, hg])
    go_enter Tryd.func17, Tryd.ntmps17
    go_wp2_with fail
    refine (AreCabins_c l _ _ _ hl hr).mono ?_
    rintro e w1 ⟨rfl, hb1⟩
    go_wp2_with fail
    go_ret2
    exact ⟨none, 0, retl H.out, by rw [H.out]; exact Own.nil, hb1⟩
  rcases h1 : inR t 0 3 with _ | _
  · have H := Lib.hid (show cabsIn l t = ([], false) by simp [cabsIn, h1])
    go_enter Tryd.func17, Tryd.ntmps17
    go_wp2_with fail
    refine (AreCabins_c l _ _ _ hl hr).mono ?_
    rintro e w1 ⟨rfl, hb1⟩
    go_wp2_with (go_at_call 24; refine (within_c _ _ _ _).mono ?_; rintro e w' ⟨rfl, rfl⟩)
    go_ret2
    exact ⟨none, 0, retl H.out, by rw [H.out]; exact Own.nil, hb1⟩
  have H := Lib.hid (show cabsIn l t = (stTo l t l.length, true) by simp [cabsIn, hg, h1])
  have hl12 := (goodC_true hg).1
  go_enter Tryd.func17, Tryd.ntmps17
  go_wp2_with fail
  refine (AreCabins_c l _ _ _ hl hr).mono ?_
  rintro e w1 ⟨rfl, hb1⟩
  have hr1 := hr.carry hb1
  have HB1 := Lib.hid hb1
  clear hb1
  go_wp2_with (go_at_call 24; refine (within_c _ _ _ _).mono ?_; rintro e w' ⟨rfl, rfl⟩)
  clear hg h1
  go_loopw [6, 8, 20] (fun v _ i wr => ∃ k : Nat, k ≤ l.length ∧ i = .int .i64 k ∧ wr.ownsRow w1.heap.size 3 1 v (stTo l t k).length ((stTo l t k).map (Value.int .i64)) ∧ Below w1.heap.size w1 wr) (fun _ _ i _ => l.length - (intOf i).toNat)
  case atStart => exact ⟨0, Nat.zero_le _, rfl, ownsRow_empty w1 3 1, (by repeat (first | (with_reducible exact Below.refl _ _) | ((with_reducible refine alloc_ ?_ ?_); (focus (first | exact Nat.le_refl _ | (simp; done) | (simp; omega) | omega))) | ((with_reducible refine set_ ?_ ?_); (focus (first | exact Nat.le_refl _ | (simp; done) | (simp; omega) | omega))) | (with_reducible refine Below.drew ?_) | ((with_reducible refine after_ ?_ (by assumption) ?_); (rotate_left; (focus (first | exact Nat.le_refl _ | (simp; done) | (simp; omega) | omega))))))⟩
  case round =>
    obtain ⟨k, hk, rfl, hown, hbel⟩ := hrel
    have HB := Lib.hid hbel
    have HO := Lib.hid hown
    have z1 := hbel.size
    by_cases hlt : k < l.length
    · obtain ⟨b, off, rfl, hb1, hc0, hc1, hc2, hc3, hc4⟩ := Cbn.rd (hr1.below hbel (Nat.le_refl _)) hlt
      have hle := stTo_len (l := l) (t := t) k
      have l1 : b < wr.heap.size := by omega
      clear hbel hown
      by_cases hq : (nth l k).t = t
      · have HY := Lib.hid (show stTo l t (k + 1) = stTo l t k ++ [(nth l k).n] by simp [stTo, hq])
        have hq' : ((nth l k).t == t) = true := by simp [hq]
        clear hq
        obtain ⟨x, hx⟩ : ∃ x, (nth l k).n = x := ⟨_, rfl⟩
        rw [hx] at HY
        go_wp2_with (at_builtin; refine wpList_push _ rfl _ _ 41 rfl w1.heap.size 3 (.int .i64 0) 1 8 Tryd.underlying41 info_int rfl (by decide) (by decide) _ _ _ rfl ((ownsRow_below HO.out (by repeat (first | (with_reducible exact Below.refl _ _) | ((with_reducible refine alloc_ ?_ ?_); (focus (first | exact Nat.le_refl _ | (simp; done) | (simp; omega) | omega))) | ((with_reducible refine set_ ?_ ?_); (focus (first | exact Nat.le_refl _ | (simp; done) | (simp; omega) | omega))) | (with_reducible refine Below.drew ?_) | ((with_reducible refine after_ ?_ (by assumption) ?_); (rotate_left; (focus (first | exact Nat.le_refl _ | (simp; done) | (simp; omega) | omega))))))).alloc _) (wr.heap.size + 1) [.int .i64 x] rfl rfl ?c1 ?c2 ?c3 ?c4 ?_)
        try case c1 =>
          intro j u hj
          match j, hj with
          | 0, hj => simp at hj; subst hj; simp [go_sem]
        case c2 => first | rfl | (intro u hu; simp at hu; subst hu; rfl)
        case c3 => omega
        case c4 => first | omega | (simp; omega)
        intro v' w' hown' hb'
        have HO' := Lib.hid hown'
        have HB' := Lib.hid (show Below w1.heap.size w1 w' from HB.out.trans (((((Below.refl _ _).alloc (Nat.le_refl _) _).alloc (by simp) _).mono z1).trans (hb'.mono (by simp))))
        clear hown' hb'
        go_wp2_with fail
        go_roundw
        case rel => exact ⟨k + 1, by omega, by go_num, by rw [HY.out]; simpa using HO'.out, HB'.out⟩
        case measure => simp [intOf]; omega
      · have HY := Lib.hid (show stTo l t (k + 1) = stTo l t k by simp [stTo, hq])
        have hq' : ((nth l k).t == t) = false := by rw [beq_eq_false_iff_ne]; exact hq
        clear hq
        go_wp2_with fail
        go_roundw
        case rel => exact ⟨k + 1, by omega, by go_num, by rw [HY.out]; exact ownsRow_below HO.out (by repeat (first | (with_reducible exact Below.refl _ _) | ((with_reducible refine alloc_ ?_ ?_); (focus (first | exact Nat.le_refl _ | (simp; done) | (simp; omega) | omega))) | ((with_reducible refine set_ ?_ ?_); (focus (first | exact Nat.le_refl _ | (simp; done) | (simp; omega) | omega))) | (with_reducible refine Below.drew ?_) | ((with_reducible refine after_ ?_ (by assumption) ?_); (rotate_left; (focus (first | exact Nat.le_refl _ | (simp; done) | (simp; omega) | omega)))))), (HB.out.trans (Below.mono (B := wr.heap.size) (by repeat (first | (with_reducible exact Below.refl _ _) | ((with_reducible refine alloc_ ?_ ?_); (focus (first | exact Nat.le_refl _ | (simp; done) | (simp; omega) | omega))) | ((with_reducible refine set_ ?_ ?_); (focus (first | exact Nat.le_refl _ | (simp; done) | (simp; omega) | omega))) | (with_reducible refine Below.drew ?_) | ((with_reducible refine after_ ?_ (by assumption) ?_); (rotate_left; (focus (first | exact Nat.le_refl _ | (simp; done) | (simp; omega) | omega)))))) z1))⟩
        case measure => simp [intOf]; omega
    · obtain rfl : k = l.length := by omega
      clear hbel
      obtain ⟨A', cap', rfl⟩ := ownsRow_shape hown
      clear hown
      go_wp2_with fail
      go_ret2
      exact ⟨A', cap', retl H.out, by rw [H.out]; exact (Own.of_row' HO.out rfl (flat_ints _).symm fun _ => rfl).less HB1.out.size, HB1.out.trans (HB.out.mono HB1.out.size)⟩
end Go.Proofs.YteoajaichjojdaaDoor
