/- The reference's PlanByDue returns the plain answer; no conditions but the length. -/
import Derived.Test.YtokddcnkfeimkaaDueSpec
namespace Go.Proofs.Ytokddcnkfeimkaa
open Go.RowKit

theorem specPlanByDue_c (l : List Tsk) (A : Option Addr) (cap : Nat) (w : World) (hl : l.length ≤ 1048576) (hr : Rd w w.heap.size 4 Tsk.cells A l) :
    Calls Try.prog 36 #[.slice A l.length cap] w (ListPost (dueP l) w) := by
  rcases hg : goodK l with _ | _
  · have H := Lib.hid (dueP_no hg)
    go_enter Try.func36, Try.ntmps36
    go_wp2_with fail
    refine (l16Good_c l _ _ _ hl hr).mono ?_
    rintro e w1 ⟨rfl, hb1⟩
    have HB1 := Lib.hid hb1
    clear hb1
    go_wp2_with fail
    go_ret2
    exact ⟨_, 0, retl H.out, by rw [H.out]; exact Own.nil, HB1.out.alloc HB1.out.size _⟩
  have HG := Lib.hid (goodK_true hg)
  have H := Lib.hid (show dueP l = if planB l (byDue l) then (byDue l, true) else ([], false) by simp [dueP, hg])
  have HL := Lib.hid (due_rounds HG.out.2 l.length (Nat.le_refl _)).len
  have hl8 := HG.out.1
  go_enter Try.func36, Try.ntmps36
  go_wp2_with fail
  refine (l16Good_c l _ _ _ hl hr).mono ?_
  rintro e w0 ⟨rfl, hb0⟩
  have hr0 := hr.carry hb0
  have HB0 := Lib.hid hb0
  clear hb0
  go_wp2_with fail
  refine (l16ByDue_c l _ _ _ hr0 HG.out).mono ?_
  rintro e w1 ⟨g, gc, rfl, hge, ha1, hb1⟩
  have hr1 := hr0.carry hb1
  have hv := ha1.rd
  have HB1 := Lib.hid (HB0.out.trans (hb1.mono HB0.out.size))
  clear hb1 ha1
  go_wp2_with fail
  refine (l16Plan_c l (byDue l) _ _ _ _ _ hr1 hv (by have : (byDue l).length = l.length := HL.out; omega) HG.out).mono ?_
  rintro e w2 ⟨rfl, hb2⟩
  have hr2 := hr1.carry hb2
  have HB2 := Lib.hid (HB1.out.trans (hb2.mono HB1.out.size))
  clear hb2 hv
  rcases hp : planB l (byDue l) with _ | _
  · have H1 := Lib.hid (H.out.trans (if_neg (by simp [hp])))
    go_wp2_with fail
    go_ret2
    exact ⟨_, 0, retl H1.out, by rw [H1.out]; exact Own.nil, HB2.out.alloc HB2.out.size _⟩
  · have H1 := Lib.hid (H.out.trans (if_pos hp))
    go_wp2_with fail
    refine (l16ByDue_c l _ _ _ hr2 HG.out).mono ?_
    rintro e w3 ⟨g3, gc3, rfl, hge3, ha3, hb3⟩
    have HA3 := Lib.hid ha3
    have HB3 := Lib.hid (HB2.out.trans (hb3.mono HB2.out.size))
    clear ha3 hb3
    go_wp2_with fail
    go_ret2
    exact ⟨_, _, retl H1.out, by rw [H1.out]; exact HA3.out.own (Nat.le_trans HB2.out.size hge3), HB3.out⟩
end Go.Proofs.Ytokddcnkfeimkaa
