/- The program's and the reference's tests on ranges, and their least and greatest of two numbers, return what the Lean functions return; no conditions. -/
import Derived.Test.YtdhcmmdeickmnaaDoorRows
import Derived.Test.YtdhcmmdeickmnaaDoorBase
namespace Go.Proofs.YtdhcmmdeickmnaaDoor
open Go.RowKit

theorem within_c (n lo hi : Int) (w : World) : Calls Tryd.prog 12 #[.int .i64 n, .int .i64 lo, .int .i64 hi] w fun e w' => e = .returned (.bool (inR n lo hi)) ∧ w = w' := by
  go_enter Tryd.func12, Tryd.ntmps12
  go_wp2
  all_goals (go_ret; exact ⟨retb (by rw [Bool.eq_iff_iff]; simp [inR] <;> omega), rfl⟩)
theorem l1In_c (n lo hi : Int) (w : World) : Calls Tryd.prog 16 #[.int .i64 n, .int .i64 lo, .int .i64 hi] w fun e w' => e = .returned (.bool (inR n lo hi)) ∧ w = w' := by
  go_enter Tryd.func16, Tryd.ntmps16
  go_wp2
  all_goals (go_ret; exact ⟨retb (by rw [Bool.eq_iff_iff]; simp [inR] <;> omega), rfl⟩)
end Go.Proofs.YtdhcmmdeickmnaaDoor
