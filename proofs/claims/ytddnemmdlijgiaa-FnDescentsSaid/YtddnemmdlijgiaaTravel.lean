/- The tests on what is asked of a timetable: the program's and the reference's return one Lean function; no conditions but the length. -/
import Derived.Test.YtddnemmdlijgiaaSeatsDown
namespace Go.Proofs.Ytddnemmdlijgiaa
open Go.RowKit
def okT (l : List Rid) (f t m : Int) : Bool := goodR l && inR f 0 5 && inR t 0 5 && inR m 0 1439
theorem isTravel_c (l : List Rid) (A : Option Addr) (cap : Nat) (f t m : Int) (w : World) (hl : l.length ≤ 1048576) (hr : Rd w w.heap.size 5 Rid.cells A l) :
    Calls Try.prog 60 #[.slice A l.length cap, .int .i64 f, .int .i64 t, .int .i64 m] w fun e w' => e = .returned (.bool (okT l f t m)) ∧ Below w.heap.size w w' := by
  go_enter Try.func60, Try.ntmps60
  go_wp2_with fail
  refine (IsTimetable_c l _ _ _ hl hr).mono ?_
  rintro e w1 ⟨rfl, hb1⟩
  have HB := Lib.hid hb1
  clear hb1
  go_wp2_with (first | (go_at_call 53; refine (isStop_c _ _).mono ?_; rintro e w' ⟨rfl, rfl⟩) | (go_at_call 54; refine (isMinute_c _ _).mono ?_; rintro e w' ⟨rfl, rfl⟩))
  all_goals (go_ret; exact ⟨retb (by simp [okT, *]), HB.out⟩)
theorem l15Asked_c (l : List Rid) (A : Option Addr) (cap : Nat) (f t m : Int) (w : World) (hl : l.length ≤ 1048576) (hr : Rd w w.heap.size 5 Rid.cells A l) :
    Calls Try.prog 61 #[.slice A l.length cap, .int .i64 f, .int .i64 t, .int .i64 m] w fun e w' => e = .returned (.bool (okT l f t m)) ∧ Below w.heap.size w w' := by
  go_enter Try.func61, Try.ntmps61
  go_wp2_with fail
  refine (l15Good_c l _ _ _ hl hr).mono ?_
  rintro e w1 ⟨rfl, hb1⟩
  have HB := Lib.hid hb1
  clear hb1
  go_wp2_with (first | (go_at_call 58; refine (l15Stop_c _ _).mono ?_; rintro e w' ⟨rfl, rfl⟩) | (go_at_call 57; refine (l15Minute_c _ _).mono ?_; rintro e w' ⟨rfl, rfl⟩))
  all_goals (go_ret; exact ⟨retb (by simp [okT, *]), HB.out⟩)
end Go.Proofs.Ytddnemmdlijgiaa
