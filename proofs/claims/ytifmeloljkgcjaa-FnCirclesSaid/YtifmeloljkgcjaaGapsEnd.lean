/- GapsOf and SmallestGap of the program and of the reference return one Lean function each; no conditions but the length and that the ring's length is not far off. -/
import Derived.Test.YtifmeloljkgcjaaGaps
namespace Go.Proofs.Ytifmeloljkgcjaa
open Go.RowKit

def gapsP (L s : Int) (l : List Int) : List Int × Bool := if goodC L s l then (gapsL L l, true) else ([], false)
def smallP (L s : Int) (l : List Int) : Int × Bool := if goodC L s l && decide (0 < l.length) then (Lib.minOf (gapsL L l), true) else (0, false)
def ListP (p : List Int × Bool) (w : World) (e : Ending) (w' : World) : Prop := ∃ A cap, e = .returned (.tuple #[.slice A p.1.length cap, .bool p.2]) ∧ Own w' w.heap.size 3 1 intCells A p.1 ∧ Below w.heap.size w w'
def NumP (p : Int × Bool) (w : World) (e : Ending) (w' : World) : Prop := e = .returned (.tuple #[.int .i64 p.1, .bool p.2]) ∧ Below w.heap.size w w'
theorem retn {p : Int × Bool} {v : Int} {b : Bool} (h : p = (v, b)) : Ending.returned (.tuple #[.int .i64 v, .bool b]) = .returned (.tuple #[.int .i64 p.1, .bool p.2]) := by rw [h]
theorem implGapsOf_c (L s : Int) (l : List Int) (A : Option Addr) (cap : Nat) (w : World) (hL : NearC L) (hl : l.length ≤ 1000) (hr : Rd w w.heap.size 1 intCells A l) :
    Calls Try.prog 11 #[.agg #[.int .i64 L, .int .i64 s, .slice A l.length cap]] w (ListP (gapsP L s l) w) := by
  have HX := Lib.hid (Box.new w [.int .i64 L, .int .i64 s, .slice A l.length cap] 26)
  have HR := Lib.hid (hr.alloc (.cells #[.int .i64 L, .int .i64 s, .slice A l.length cap] 26))
  clear hr
  rcases hg : goodC L s l with _ | _
  · have H := Lib.hid (show gapsP L s l = ([], false) by simp [gapsP, hg])
    go_enter Try.func11, Try.ntmps11
    go_wp2_with fail
    refine (isCircle_c L s l _ _ _  hl HR.out).mono ?_
    rintro e w1 ⟨rfl, hb1⟩
    have HB := Lib.hid (show Below w.heap.size w w1 from (by repeat (first | (with_reducible exact Below.refl _ _) | ((with_reducible refine alloc_ ?_ ?_); (focus (first | exact Nat.le_refl _ | (simp; done) | (simp; omega) | omega))) | ((with_reducible refine set_ ?_ ?_); (focus (first | exact Nat.le_refl _ | (simp; done) | (simp; omega) | omega))) | (with_reducible refine Below.drew ?_) | ((with_reducible refine after_ ?_ (by assumption) ?_); (rotate_left; (focus (first | exact Nat.le_refl _ | (simp; done) | (simp; omega) | omega)))))))
    clear hb1
    go_wp2_with fail
    go_ret2
    exact ⟨_, _, retl H.out, by rw [H.out]; exact Own.nil, by have h := HB.out; have z := h.size; exact (by repeat (first | (with_reducible exact Below.refl _ _) | ((with_reducible refine alloc_ ?_ ?_); (focus (first | exact Nat.le_refl _ | (simp; done) | (simp; omega) | omega))) | ((with_reducible refine set_ ?_ ?_); (focus (first | exact Nat.le_refl _ | (simp; done) | (simp; omega) | omega))) | (with_reducible refine Below.drew ?_) | ((with_reducible refine after_ ?_ (by assumption) ?_); (rotate_left; (focus (first | exact Nat.le_refl _ | (simp; done) | (simp; omega) | omega))))))⟩
  · have H := Lib.hid (show gapsP L s l = (gapsL L l, true) by simp [gapsP, hg])
    have HW := Lib.hid (goodC_of hg)
    go_enter Try.func11, Try.ntmps11
    go_wp2_with fail
    refine (isCircle_c L s l _ _ _  hl HR.out).mono ?_
    rintro e w1 ⟨rfl, hb1⟩
    have HB := Lib.hid (show Below w.heap.size w w1 from (by repeat (first | (with_reducible exact Below.refl _ _) | ((with_reducible refine alloc_ ?_ ?_); (focus (first | exact Nat.le_refl _ | (simp; done) | (simp; omega) | omega))) | ((with_reducible refine set_ ?_ ?_); (focus (first | exact Nat.le_refl _ | (simp; done) | (simp; omega) | omega))) | (with_reducible refine Below.drew ?_) | ((with_reducible refine after_ ?_ (by assumption) ?_); (rotate_left; (focus (first | exact Nat.le_refl _ | (simp; done) | (simp; omega) | omega)))))))
    have hx := HX.out.carry hb1
    have HR1 := Lib.hid (HR.out.carry hb1)
    have x0 := hx.cell (j := 0) rfl
    have x1 := hx.cell (j := 1) rfl
    have x2 := hx.cell (j := 2) rfl
    clear hb1 hx
    go_wp2_with fail
    refine (gapsOf_c L s l _ _ _ HW.out HR1.out).mono ?_
    rintro e w2 ⟨A2, c2, rfl, ho, hb2⟩
    have HO := Lib.hid ho
    have HB2 := Lib.hid (HB.out.trans (hb2.mono HB.out.size))
    clear ho hb2 x0 x1 x2
    go_wp2_with fail
    go_ret2
    exact ⟨A2, c2, retl H.out, by rw [H.out]; exact HO.out.less HB.out.size, HB2.out⟩
theorem specGapsOf_c (L s : Int) (l : List Int) (A : Option Addr) (cap : Nat) (w : World) (hL : NearC L) (hl : l.length ≤ 1000) (hr : Rd w w.heap.size 1 intCells A l) :
    Calls Try.prog 12 #[.agg #[.int .i64 L, .int .i64 s, .slice A l.length cap]] w (ListP (gapsP L s l) w) := by
  have HX := Lib.hid (Box.new w [.int .i64 L, .int .i64 s, .slice A l.length cap] 26)
  have HR := Lib.hid (hr.alloc (.cells #[.int .i64 L, .int .i64 s, .slice A l.length cap] 26))
  clear hr
  rcases hg : goodC L s l with _ | _
  · have H := Lib.hid (show gapsP L s l = ([], false) by simp [gapsP, hg])
    go_enter Try.func12, Try.ntmps12
    go_wp2_with fail
    refine (l8Good_c L s l _ _ _ hL hl HR.out).mono ?_
    rintro e w1 ⟨rfl, hb1⟩
    have HB := Lib.hid (show Below w.heap.size w w1 from (by repeat (first | (with_reducible exact Below.refl _ _) | ((with_reducible refine alloc_ ?_ ?_); (focus (first | exact Nat.le_refl _ | (simp; done) | (simp; omega) | omega))) | ((with_reducible refine set_ ?_ ?_); (focus (first | exact Nat.le_refl _ | (simp; done) | (simp; omega) | omega))) | (with_reducible refine Below.drew ?_) | ((with_reducible refine after_ ?_ (by assumption) ?_); (rotate_left; (focus (first | exact Nat.le_refl _ | (simp; done) | (simp; omega) | omega)))))))
    clear hb1
    go_wp2_with fail
    go_ret2
    exact ⟨_, _, retl H.out, by rw [H.out]; exact Own.nil, by have h := HB.out; have z := h.size; exact (by repeat (first | (with_reducible exact Below.refl _ _) | ((with_reducible refine alloc_ ?_ ?_); (focus (first | exact Nat.le_refl _ | (simp; done) | (simp; omega) | omega))) | ((with_reducible refine set_ ?_ ?_); (focus (first | exact Nat.le_refl _ | (simp; done) | (simp; omega) | omega))) | (with_reducible refine Below.drew ?_) | ((with_reducible refine after_ ?_ (by assumption) ?_); (rotate_left; (focus (first | exact Nat.le_refl _ | (simp; done) | (simp; omega) | omega))))))⟩
  · have H := Lib.hid (show gapsP L s l = (gapsL L l, true) by simp [gapsP, hg])
    have HW := Lib.hid (goodC_of hg)
    go_enter Try.func12, Try.ntmps12
    go_wp2_with fail
    refine (l8Good_c L s l _ _ _ hL hl HR.out).mono ?_
    rintro e w1 ⟨rfl, hb1⟩
    have HB := Lib.hid (show Below w.heap.size w w1 from (by repeat (first | (with_reducible exact Below.refl _ _) | ((with_reducible refine alloc_ ?_ ?_); (focus (first | exact Nat.le_refl _ | (simp; done) | (simp; omega) | omega))) | ((with_reducible refine set_ ?_ ?_); (focus (first | exact Nat.le_refl _ | (simp; done) | (simp; omega) | omega))) | (with_reducible refine Below.drew ?_) | ((with_reducible refine after_ ?_ (by assumption) ?_); (rotate_left; (focus (first | exact Nat.le_refl _ | (simp; done) | (simp; omega) | omega)))))))
    have hx := HX.out.carry hb1
    have HR1 := Lib.hid (HR.out.carry hb1)
    have x0 := hx.cell (j := 0) rfl
    have x1 := hx.cell (j := 1) rfl
    have x2 := hx.cell (j := 2) rfl
    clear hb1 hx
    go_wp2_with fail
    refine (l8Gaps_c L s l _ _ _ HW.out HR1.out).mono ?_
    rintro e w2 ⟨A2, c2, rfl, ho, hb2⟩
    have HO := Lib.hid ho
    have HB2 := Lib.hid (HB.out.trans (hb2.mono HB.out.size))
    clear ho hb2 x0 x1 x2
    go_wp2_with fail
    go_ret2
    exact ⟨A2, c2, retl H.out, by rw [H.out]; exact HO.out.less HB.out.size, HB2.out⟩
theorem implSmallestGap_c (L s : Int) (l : List Int) (A : Option Addr) (cap : Nat) (w : World) (hL : NearC L) (hl : l.length ≤ 1000) (hr : Rd w w.heap.size 1 intCells A l) :
    Calls Try.prog 15 #[.agg #[.int .i64 L, .int .i64 s, .slice A l.length cap]] w (NumP (smallP L s l) w) := by
  have HX := Lib.hid (Box.new w [.int .i64 L, .int .i64 s, .slice A l.length cap] 26)
  have HR := Lib.hid (hr.alloc (.cells #[.int .i64 L, .int .i64 s, .slice A l.length cap] 26))
  clear hr
  rcases hg : goodC L s l with _ | _
  · have H := Lib.hid (show smallP L s l = (0, false) by simp [smallP, hg])
    go_enter Try.func15, Try.ntmps15
    go_wp2_with fail
    refine (isCircle_c L s l _ _ _  hl HR.out).mono ?_
    rintro e w1 ⟨rfl, hb1⟩
    have HB := Lib.hid (show Below w.heap.size w w1 from (by repeat (first | (with_reducible exact Below.refl _ _) | ((with_reducible refine alloc_ ?_ ?_); (focus (first | exact Nat.le_refl _ | (simp; done) | (simp; omega) | omega))) | ((with_reducible refine set_ ?_ ?_); (focus (first | exact Nat.le_refl _ | (simp; done) | (simp; omega) | omega))) | (with_reducible refine Below.drew ?_) | ((with_reducible refine after_ ?_ (by assumption) ?_); (rotate_left; (focus (first | exact Nat.le_refl _ | (simp; done) | (simp; omega) | omega)))))))
    clear hb1
    go_wp2_with fail
    go_ret2
    exact ⟨retn H.out, HB.out⟩
  by_cases h0 : l.length = 0
  · have H := Lib.hid (show smallP L s l = (0, false) by simp [smallP, h0])
    have q0 : ((l.length : Int) == 0) = true := by simp [h0]
    clear h0
    go_enter Try.func15, Try.ntmps15
    go_wp2_with fail
    refine (isCircle_c L s l _ _ _  hl HR.out).mono ?_
    rintro e w1 ⟨rfl, hb1⟩
    have HB := Lib.hid (show Below w.heap.size w w1 from (by repeat (first | (with_reducible exact Below.refl _ _) | ((with_reducible refine alloc_ ?_ ?_); (focus (first | exact Nat.le_refl _ | (simp; done) | (simp; omega) | omega))) | ((with_reducible refine set_ ?_ ?_); (focus (first | exact Nat.le_refl _ | (simp; done) | (simp; omega) | omega))) | (with_reducible refine Below.drew ?_) | ((with_reducible refine after_ ?_ (by assumption) ?_); (rotate_left; (focus (first | exact Nat.le_refl _ | (simp; done) | (simp; omega) | omega)))))))
    have hx := HX.out.carry hb1
    have x0 := hx.cell (j := 0) rfl
    have x1 := hx.cell (j := 1) rfl
    have x2 := hx.cell (j := 2) rfl
    clear hb1 hx
    go_wp2_with fail
    go_ret2
    exact ⟨retn H.out, HB.out⟩
  · have hp : 0 < l.length := by omega
    have H := Lib.hid (show smallP L s l = (Lib.minOf (gapsL L l), true) by simp [smallP, hg, hp])
    have HW := Lib.hid (goodC_of hg)
    have q0 : ((l.length : Int) == 0) = false := by rw [beq_eq_false_iff_ne]; omega
    obtain ⟨m, hm⟩ : ∃ m, Lib.minOf (gapsL L l) = m := ⟨_, rfl⟩
    have HM := Lib.hid hm
    clear hm h0
    go_enter Try.func15, Try.ntmps15
    go_wp2_with fail
    refine (isCircle_c L s l _ _ _  hl HR.out).mono ?_
    rintro e w1 ⟨rfl, hb1⟩
    have HB := Lib.hid (show Below w.heap.size w w1 from (by repeat (first | (with_reducible exact Below.refl _ _) | ((with_reducible refine alloc_ ?_ ?_); (focus (first | exact Nat.le_refl _ | (simp; done) | (simp; omega) | omega))) | ((with_reducible refine set_ ?_ ?_); (focus (first | exact Nat.le_refl _ | (simp; done) | (simp; omega) | omega))) | (with_reducible refine Below.drew ?_) | ((with_reducible refine after_ ?_ (by assumption) ?_); (rotate_left; (focus (first | exact Nat.le_refl _ | (simp; done) | (simp; omega) | omega)))))))
    have hx := HX.out.carry hb1
    have HR1 := Lib.hid (HR.out.carry hb1)
    have x0 := hx.cell (j := 0) rfl
    have x1 := hx.cell (j := 1) rfl
    have x2 := hx.cell (j := 2) rfl
    clear hb1 hx
    go_wp2_with fail
    refine (gapsOf_c L s l _ _ _ HW.out HR1.out).mono ?_
    rintro e w2 ⟨A2, c2, rfl, ho, hb2⟩
    have HO := Lib.hid ho
    have HB2 := Lib.hid (HB.out.trans (hb2.mono HB.out.size))
    have HG := Lib.hid (show 0 < (gapsL L l).length by rw [gapsL_len]; exact hp)
    have HG2 := Lib.hid (show (gapsL L l).length ≤ 1048576 by rw [gapsL_len]; omega)
    clear ho hb2 x0 x1 x2
    go_wp2_with fail
    refine (min_c (gapsL L l) _ _ _ HG2.out HG.out (HO.out.rd int_one')).mono ?_
    rw [HM.out]
    rintro e w3 ⟨rfl, rfl⟩
    go_wp2_with fail
    go_ret2
    exact ⟨retn (by rw [H.out, HM.out]), HB2.out⟩
theorem specSmallestGap_c (L s : Int) (l : List Int) (A : Option Addr) (cap : Nat) (w : World) (hL : NearC L) (hl : l.length ≤ 1000) (hr : Rd w w.heap.size 1 intCells A l) :
    Calls Try.prog 23 #[.agg #[.int .i64 L, .int .i64 s, .slice A l.length cap]] w (NumP (smallP L s l) w) := by
  have HX := Lib.hid (Box.new w [.int .i64 L, .int .i64 s, .slice A l.length cap] 26)
  have HR := Lib.hid (hr.alloc (.cells #[.int .i64 L, .int .i64 s, .slice A l.length cap] 26))
  clear hr
  rcases hg : goodC L s l with _ | _
  · have H := Lib.hid (show smallP L s l = (0, false) by simp [smallP, hg])
    go_enter Try.func23, Try.ntmps23
    go_wp2_with fail
    refine (l8Good_c L s l _ _ _ hL hl HR.out).mono ?_
    rintro e w1 ⟨rfl, hb1⟩
    have HB := Lib.hid (show Below w.heap.size w w1 from (by repeat (first | (with_reducible exact Below.refl _ _) | ((with_reducible refine alloc_ ?_ ?_); (focus (first | exact Nat.le_refl _ | (simp; done) | (simp; omega) | omega))) | ((with_reducible refine set_ ?_ ?_); (focus (first | exact Nat.le_refl _ | (simp; done) | (simp; omega) | omega))) | (with_reducible refine Below.drew ?_) | ((with_reducible refine after_ ?_ (by assumption) ?_); (rotate_left; (focus (first | exact Nat.le_refl _ | (simp; done) | (simp; omega) | omega)))))))
    clear hb1
    go_wp2_with fail
    go_ret2
    exact ⟨retn H.out, HB.out⟩
  by_cases h0 : l.length = 0
  · have H := Lib.hid (show smallP L s l = (0, false) by simp [smallP, h0])
    have q0 : ((l.length : Int) == 0) = true := by simp [h0]
    clear h0
    go_enter Try.func23, Try.ntmps23
    go_wp2_with fail
    refine (l8Good_c L s l _ _ _ hL hl HR.out).mono ?_
    rintro e w1 ⟨rfl, hb1⟩
    have HB := Lib.hid (show Below w.heap.size w w1 from (by repeat (first | (with_reducible exact Below.refl _ _) | ((with_reducible refine alloc_ ?_ ?_); (focus (first | exact Nat.le_refl _ | (simp; done) | (simp; omega) | omega))) | ((with_reducible refine set_ ?_ ?_); (focus (first | exact Nat.le_refl _ | (simp; done) | (simp; omega) | omega))) | (with_reducible refine Below.drew ?_) | ((with_reducible refine after_ ?_ (by assumption) ?_); (rotate_left; (focus (first | exact Nat.le_refl _ | (simp; done) | (simp; omega) | omega)))))))
    have hx := HX.out.carry hb1
    have x0 := hx.cell (j := 0) rfl
    have x1 := hx.cell (j := 1) rfl
    have x2 := hx.cell (j := 2) rfl
    clear hb1 hx
    go_wp2_with fail
    go_ret2
    exact ⟨retn H.out, HB.out⟩
  · have hp : 0 < l.length := by omega
    have H := Lib.hid (show smallP L s l = (Lib.minOf (gapsL L l), true) by simp [smallP, hg, hp])
    have HW := Lib.hid (goodC_of hg)
    have q0 : ((l.length : Int) == 0) = false := by rw [beq_eq_false_iff_ne]; omega
    obtain ⟨m, hm⟩ : ∃ m, Lib.minOf (gapsL L l) = m := ⟨_, rfl⟩
    have HM := Lib.hid hm
    clear hm h0
    go_enter Try.func23, Try.ntmps23
    go_wp2_with fail
    refine (l8Good_c L s l _ _ _ hL hl HR.out).mono ?_
    rintro e w1 ⟨rfl, hb1⟩
    have HB := Lib.hid (show Below w.heap.size w w1 from (by repeat (first | (with_reducible exact Below.refl _ _) | ((with_reducible refine alloc_ ?_ ?_); (focus (first | exact Nat.le_refl _ | (simp; done) | (simp; omega) | omega))) | ((with_reducible refine set_ ?_ ?_); (focus (first | exact Nat.le_refl _ | (simp; done) | (simp; omega) | omega))) | (with_reducible refine Below.drew ?_) | ((with_reducible refine after_ ?_ (by assumption) ?_); (rotate_left; (focus (first | exact Nat.le_refl _ | (simp; done) | (simp; omega) | omega)))))))
    have hx := HX.out.carry hb1
    have HR1 := Lib.hid (HR.out.carry hb1)
    have x0 := hx.cell (j := 0) rfl
    have x1 := hx.cell (j := 1) rfl
    have x2 := hx.cell (j := 2) rfl
    clear hb1 hx
    go_wp2_with fail
    refine (l8Smallest_c L s l _ _ _ HW.out hp HR1.out).mono ?_
    rw [HM.out]
    rintro e w2 ⟨rfl, hb2⟩
    have HB2 := Lib.hid (HB.out.trans (hb2.mono HB.out.size))
    clear hb2 x0 x1 x2
    go_wp2_with fail
    go_ret2
    exact ⟨retn (by rw [H.out, HM.out]), HB2.out⟩
end Go.Proofs.Ytifmeloljkgcjaa
