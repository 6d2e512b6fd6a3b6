/- FillCabin of the program and of the reference return one Lean function; no conditions but the length. -/
import Derived.Test.YtalabohacedgnaaFill
namespace Go.Proofs.Ytalabohacedgnaa
open Go.RowKit

/-- What a call hands back: a list of its own, and whether there is one. -/
def ListPost (p : List Int × Bool) (w : World) (e : Ending) (w' : World) : Prop := ∃ A cap, e = .returned (.tuple #[.slice A p.1.length cap, .bool p.2]) ∧ Own w' w.heap.size 3 1 intCells A p.1 ∧ Below w.heap.size w w'

def cabF (l : List Gro) (s : Int) : List Int × Bool := if fitG l s then (fillL l s, true) else ([], false)
theorem fillL_len {l : List Gro} {s : Int} (h : fitG l s = true) : (fillL l s).length ≤ 12 := by
  obtain ⟨⟨h1, h2⟩, ⟨h3, _⟩, _⟩ := fitG_true h
  have hg := fun i hi => (h2 i hi).1
  have hw := way_to hg (way_lane (s := s) (by omega) hg 1 (by omega)) l.length (Nat.le_refl _)
  have e : lanes l s 2 = laneTo l false (lanes l s 1) l.length := rfl
  rw [fillL, isort_len, e]
  have := hw.len
  simp only [show decide ((1 : Nat) = 0) = false from rfl] at this
  omega
theorem implFillCabin_c (l : List Gro) (A : Option Addr) (cap : Nat) (s : Int) (w : World) (hl : l.length ≤ 1048576) (hr : Rd w w.heap.size 2 Gro.cells A l) :
    Calls Try.prog 28 #[.slice A l.length cap, .int .i64 s] w (ListPost (cabF l s) w) := by
  rcases hg : fitG l s with _ | _
  · have H := Lib.hid (show cabF l s = ([], false) by simp [cabF, hg])
    go_enter Try.func28, Try.ntmps28
    go_wp2_with fail
    refine (fits_c l _ _ _ _ hl hr).mono ?_
    rintro e w1 ⟨rfl, hb1⟩
    go_wp2_with fail
    go_ret2
    exact ⟨none, 0, retl H.out, by rw [H.out]; exact Own.nil, hb1⟩
  obtain ⟨h1, ⟨h2, h3⟩, _⟩ := fitG_true hg
  have HG := Lib.hid h1
  have H := Lib.hid (show cabF l s = (fillL l s, true) by simp [cabF, hg])
  clear h1
  go_enter Try.func28, Try.ntmps28
  go_wp2_with fail
  refine (fits_c l _ _ _ _ hl hr).mono ?_
  rintro e w1 ⟨rfl, hb1⟩
  have hr1 := hr.carry hb1
  have HB1 := Lib.hid hb1
  clear hb1
  go_wp2_with fail
  refine (fill_c l _ _ s _ hr1 HG.out (by omega) (by omega)).mono ?_
  rintro e w2 ⟨g, gc, rfl, hgb, harr, hb2⟩
  have HA := Lib.hid harr
  have HB2 := Lib.hid (HB1.out.trans (hb2.mono HB1.out.size))
  clear harr hb2
  go_wp2_with fail
  go_ret2
  exact ⟨_, _, retl H.out, by rw [H.out]; exact HA.out.own (Nat.le_trans HB1.out.size hgb), HB2.out⟩
theorem specFillCabin_c (l : List Gro) (A : Option Addr) (cap : Nat) (s : Int) (w : World) (hl : l.length ≤ 1048576) (hr : Rd w w.heap.size 2 Gro.cells A l) :
    Calls Try.prog 27 #[.slice A l.length cap, .int .i64 s] w (ListPost (cabF l s) w) := by
  rcases hg : fitG l s with _ | _
  · have H := Lib.hid (show cabF l s = ([], false) by simp [cabF, hg])
    go_enter Try.func27, Try.ntmps27
    go_wp2_with fail
    refine (l13Asked_c l _ _ _ _ hl hr).mono ?_
    rintro e w1 ⟨rfl, rfl⟩
    go_wp2_with fail
    go_ret2
    exact ⟨_, 0, retl H.out, by rw [H.out]; exact Own.nil, (by repeat (first | (with_reducible exact Below.refl _ _) | ((with_reducible refine alloc_ ?_ ?_); (focus (first | exact Nat.le_refl _ | (simp; done) | (simp; omega) | omega))) | ((with_reducible refine set_ ?_ ?_); (focus (first | exact Nat.le_refl _ | (simp; done) | (simp; omega) | omega))) | (with_reducible refine Below.drew ?_) | ((with_reducible refine after_ ?_ (by assumption) ?_); (rotate_left; (focus (first | exact Nat.le_refl _ | (simp; done) | (simp; omega) | omega))))))⟩
  obtain ⟨h1, ⟨h2, h3⟩, _⟩ := fitG_true hg
  have HG := Lib.hid h1
  have H := Lib.hid (show cabF l s = (fillL l s, true) by simp [cabF, hg])
  clear h1
  go_enter Try.func27, Try.ntmps27
  go_wp2_with fail
  refine (l13Asked_c l _ _ _ _ hl hr).mono ?_
  rintro e w1 ⟨rfl, rfl⟩
  go_wp2_with fail
  refine (l13Fill_c l _ _ s _ hr HG.out (by omega) (by omega)).mono ?_
  rintro e w2 ⟨g, gc, rfl, hgb, harr, hb2⟩
  have HA := Lib.hid harr
  have HB2 := Lib.hid hb2
  clear harr hb2
  go_wp2_with fail
  go_ret2
  exact ⟨_, _, retl H.out, by rw [H.out]; exact HA.out.own hgb, HB2.out⟩
end Go.Proofs.Ytalabohacedgnaa
