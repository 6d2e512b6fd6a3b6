/- The program's and the reference's tests on ranges, and their least and greatest of two numbers, return what the Lean functions return; no conditions. -/
import Derived.Test.YtokddcnkfeimkaaRows
import Derived.Test.YtokddcnkfeimkaaBase
namespace Go.Proofs.Ytokddcnkfeimkaa
open Go.RowKit

theorem within_c (n lo hi : Int) (w : World) : Calls Try.prog 65 #[.int .i64 n, .int .i64 lo, .int .i64 hi] w fun e w' => e = .returned (.bool (inR n lo hi)) ∧ w = w' := by
  go_enter Try.func65, Try.ntmps65
  go_wp2
  all_goals (go_ret; exact ⟨retb (by rw [Bool.eq_iff_iff]; simp [inR] <;> omega), rfl⟩)
theorem l1In_c (n lo hi : Int) (w : World) : Calls Try.prog 62 #[.int .i64 n, .int .i64 lo, .int .i64 hi] w fun e w' => e = .returned (.bool (inR n lo hi)) ∧ w = w' := by
  go_enter Try.func62, Try.ntmps62
  go_wp2
  all_goals (go_ret; exact ⟨retb (by rw [Bool.eq_iff_iff]; simp [inR] <;> omega), rfl⟩)
end Go.Proofs.Ytokddcnkfeimkaa
