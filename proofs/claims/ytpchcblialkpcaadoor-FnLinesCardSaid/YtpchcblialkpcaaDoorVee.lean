/- The tests that the statements over drawn arguments share: a code's length, two lists that are one, whether a list holds a number; no conditions but the length. -/
import Derived.Test.YtpchcblialkpcaaDoorCur
import Derived.Test.YtpchcblialkpcaaDoorHasI
namespace Go.Proofs.YtpchcblialkpcaaDoor
open Go.RowKit

/-- A code that came in: bytes in memory. -/
def Codes (w : World) (A : Option Addr) (n : Nat) : Prop := ∃ l, InBytes w A n l
theorem Codes.carry {w w' : World} {A : Option Addr} {n : Nat} (h : Codes w A n) (hb : Below w.heap.size w w') : Codes w' A n := by
  obtain ⟨l, h1, h2, h3, h4⟩ := h
  exact ⟨l, h1, h2, h3.carry hb, h4⟩
/-- The cursor that a Draw makes of a code. -/
theorem Codes.cur {w : World} {A : Option Addr} {n cap : Nat} (h : Codes w A n) : Cur (w.alloc (.cells #[.slice A n cap, .int .i64 0, .int .u64 0] 51)) w.heap.size 0 := by
  obtain ⟨l, rfl, h2, h3, h4⟩ := h
  exact Cur.new h2 h3 h4
/-- What a Draw leaves of what was there. -/
theorem draw_end {w w' : World} {o : Obj} (h : (w.alloc o).grownBy w' (some w.heap.size)) : Below w.heap.size w w' :=
  ((Below.refl _ _).alloc (Nat.le_refl _) o).trans (grown_below h (Nat.le_refl _) (by simp))
theorem vBig_c (A : Option Addr) (n cap : Nat) (w : World) : Calls Tryd.prog 4 #[.slice A n cap] w fun e w' => e = .returned (.bool (decide (65536 < (n : Int)))) ∧ w = w' := by
  go_enter Tryd.func4, Tryd.ntmps4
  go_wp2_with fail
  go_ret
  exact ⟨rfl, rfl⟩
end Go.Proofs.YtpchcblialkpcaaDoor
