/- Contracts restated at names of one's own; no conditions. -/
import Derived.Test.YtpchcblialkpcaaDoorVee
namespace Go.Proofs.YtpchcblialkpcaaDoor
open Go.RowKit

section
variable {f : FuncId} {args : Array Value} {W : World}
theorem nb_of {p : Int × Bool} {v : Int} {b : Bool} (h : Calls Tryd.prog f args W fun e w' => e = .returned (.tuple #[.int .i64 p.1, .bool p.2]) ∧ Below W.heap.size W w') (hp : p = (v, b)) : Calls Tryd.prog f args W fun e w' => e = .returned (.tuple #[.int .i64 v, .bool b]) ∧ Below W.heap.size W w' := by subst hp; exact h
theorem bb_of {p : Bool × Bool} {v b : Bool} (h : Calls Tryd.prog f args W fun e w' => e = .returned (.tuple #[.bool p.1, .bool p.2]) ∧ Below W.heap.size W w') (hp : p = (v, b)) : Calls Tryd.prog f args W fun e w' => e = .returned (.tuple #[.bool v, .bool b]) ∧ Below W.heap.size W w' := by subst hp; exact h
theorem b_of {p v : Bool} (h : Calls Tryd.prog f args W fun e w' => e = .returned (.bool p) ∧ Below W.heap.size W w') (hp : p = v) : Calls Tryd.prog f args W fun e w' => e = .returned (.bool v) ∧ Below W.heap.size W w' := by subst hp; exact h
end
end Go.Proofs.YtpchcblialkpcaaDoor
