/- The reference's PlanByDue returns the plain answer; no conditions but the length. -/
import Derived.Test.YtokddcnkfeimkaaDueSpec
namespace Go.Proofs.Ytokddcnkfeimkaa
open Go.RowKit

/-- The reference's plan, as a slice that can be appended to. -/
def DueX (p : List Int × Bool) (w : World) (e : Ending) (w' : World) : Prop := ∃ A cap, e = .returned (.tuple #[.slice A p.1.length cap, .bool p.2]) ∧ w'.ownsRow w.heap.size 3 1 (.slice A p.1.length cap) p.1.length (p.1.map (Value.int .i64)) ∧ Below w.heap.size w w'
theorem retx {w' : World} {B : Nat} {p : List Int × Bool} {A : Option Addr} {cap : Nat} {l : List Int} {b : Bool} (h : p = (l, b)) (ho : w'.ownsRow B 3 1 (.slice A l.length cap) l.length (l.map (Value.int .i64))) : Ending.returned (.tuple #[.slice A l.length cap, .bool b]) = .returned (.tuple #[.slice A p.1.length cap, .bool p.2]) ∧ w'.ownsRow B 3 1 (.slice A p.1.length cap) p.1.length (p.1.map (Value.int .i64)) := by subst h; exact ⟨rfl, ho⟩
theorem specPlanByDue_x (l : List Tsk) (A : Option Addr) (cap : Nat) (w : World) (hl : l.length ≤ 1048576) (hr : Rd w w.heap.size 4 Tsk.cells A l) :
    Calls Try.prog 36 #[.slice A l.length cap] w (DueX (dueP l) w) := by
  rcases hg : goodK l with _ | _
  · have H := Lib.hid (dueP_no hg)
    go_enter Try.func36, Try.ntmps36
    go_wp2_with fail
    refine (l16Good_c l _ _ _ hl hr).mono ?_
    rintro e w1 ⟨rfl, hb1⟩
    have HB1 := Lib.hid hb1
    clear hb1
    go_wp2_with fail
    go_ret2
    have HR := retx (A := some ⟨w1.heap.size, 0, none⟩) (cap := 0) H.out (Joins.ownsRow_le (ownsRow_empty w1 3 1) HB1.out.size)
    exact ⟨_, 0, HR.1, HR.2, HB1.out.alloc HB1.out.size _⟩
  have HG := Lib.hid (goodK_true hg)
  have H := Lib.hid (show dueP l = if planB l (byDue l) then (byDue l, true) else ([], false) by simp [dueP, hg])
  have HL := Lib.hid (due_rounds HG.out.2 l.length (Nat.le_refl _)).len
  have hl8 := HG.out.1
  go_enter Try.func36, Try.ntmps36
  go_wp2_with fail
  refine (l16Good_c l _ _ _ hl hr).mono ?_
  rintro e w0 ⟨rfl, hb0⟩
  have hr0 := hr.carry hb0
  have HB0 := Lib.hid hb0
  clear hb0
  go_wp2_with fail
  refine (l16ByDue_c l _ _ _ hr0 HG.out).mono ?_
  rintro e w1 ⟨g, gc, rfl, hge, ha1, hb1⟩
  have hr1 := hr0.carry hb1
  have hv := ha1.rd
  have HB1 := Lib.hid (HB0.out.trans (hb1.mono HB0.out.size))
  clear hb1 ha1
  go_wp2_with fail
  refine (l16Plan_c l (byDue l) _ _ _ _ _ hr1 hv (by have : (byDue l).length = l.length := HL.out; omega) HG.out).mono ?_
  rintro e w2 ⟨rfl, hb2⟩
  have hr2 := hr1.carry hb2
  have HB2 := Lib.hid (HB1.out.trans (hb2.mono HB1.out.size))
  clear hb2 hv
  rcases hp : planB l (byDue l) with _ | _
  · have H1 := Lib.hid (H.out.trans (if_neg (by simp [hp])))
    go_wp2_with fail
    go_ret2
    have HR := retx (A := some ⟨w2.heap.size, 0, none⟩) (cap := 0) H1.out (Joins.ownsRow_le (ownsRow_empty w2 3 1) HB2.out.size)
    exact ⟨_, 0, HR.1, HR.2, HB2.out.alloc HB2.out.size _⟩
  · have H1 := Lib.hid (H.out.trans (if_pos hp))
    go_wp2_with fail
    refine (l16ByDue_x l _ _ _ hr2 HG.out).mono ?_
    rintro e w3 ⟨g3, rfl, hge3, ha3, hb3⟩
    have HA3 := Lib.hid ha3
    have HB3 := Lib.hid (HB2.out.trans (hb3.mono HB2.out.size))
    clear ha3 hb3
    go_wp2_with fail
    go_ret2
    have HR := retx H1.out (HA3.out.owns (Nat.le_trans HB2.out.size hge3) (by have : (byDue l).length = l.length := HL.out; omega))
    exact ⟨_, _, HR.1, HR.2, HB3.out⟩
theorem specPlanByDue_c (l : List Tsk) (A : Option Addr) (cap : Nat) (w : World) (hl : l.length ≤ 1048576) (hr : Rd w w.heap.size 4 Tsk.cells A l) :
    Calls Try.prog 36 #[.slice A l.length cap] w (ListPost (dueP l) w) :=
  (specPlanByDue_x l A cap w hl hr).mono fun _ _ ⟨B, c, he, ho, hb⟩ => ⟨B, c, he, Own.of_row' ho rfl (flat_ints _).symm (fun _ => rfl), hb⟩
end Go.Proofs.Ytokddcnkfeimkaa
