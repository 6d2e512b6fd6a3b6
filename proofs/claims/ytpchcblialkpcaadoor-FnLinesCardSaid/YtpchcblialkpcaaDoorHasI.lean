/- Whether a list of ints holds a number: the reference's l1Has; no conditions but the length. -/
import Derived.Test.YtpchcblialkpcaaDoorRange
import Derived.Test.YtpchcblialkpcaaDoorSlice
import Derived.IntWalk
import Derived.Outline
namespace Go.Proofs.YtpchcblialkpcaaDoor
open Go.RowKit

def hasI (o : List Int) (x : Int) : Bool := decide (x ∈ o)
theorem hasI_yes {o : List Int} {x : Int} {k : Nat} (hk : k < o.length) (h : nth o k = x) : hasI o x = true := decide_eq_true (h ▸ nth_mem hk)
theorem hasI_no {o : List Int} {x : Int} (h : ∀ j, j < o.length → nth o j ≠ x) : hasI o x = false := decide_eq_false fun hm => by
  obtain ⟨j, hj, he⟩ := List.getElem_of_mem hm
  exact h j hj (by rw [nth_eq hj, he])
end Go.Proofs.YtpchcblialkpcaaDoor
