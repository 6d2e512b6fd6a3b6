/- The program's and the reference's tests on ranges, and their least and greatest of two numbers, return what the Lean functions return; no conditions. -/
import Derived.Test.YtpchcblialkpcaaDoorRows
import Derived.Test.YtpchcblialkpcaaDoorBase
namespace Go.Proofs.YtpchcblialkpcaaDoor
open Go.RowKit

theorem within_c (n lo hi : Int) (w : World) : Calls Tryd.prog 22 #[.int .i64 n, .int .i64 lo, .int .i64 hi] w fun e w' => e = .returned (.bool (inR n lo hi)) ∧ w = w' := by
  go_enter Tryd.func22, Tryd.ntmps22
  go_wp2
  all_goals (go_ret; exact ⟨retb (by rw [Bool.eq_iff_iff]; simp [inR] <;> omega), rfl⟩)
theorem l1In_c (n lo hi : Int) (w : World) : Calls Tryd.prog 33 #[.int .i64 n, .int .i64 lo, .int .i64 hi] w fun e w' => e = .returned (.bool (inR n lo hi)) ∧ w = w' := by
  go_enter Tryd.func33, Tryd.ntmps33
  go_wp2
  all_goals (go_ret; exact ⟨retb (by rw [Bool.eq_iff_iff]; simp [inR] <;> omega), rfl⟩)
end Go.Proofs.YtpchcblialkpcaaDoor
