/- Small lemmas on worlds and on ranges of integers that the walks of this seat use; no conditions. -/
import Derived.WalkKit
import Derived.ProofKit
import Derived.Below
import Derived.Lib.SmallJoins
import Derived.Lib.Hide
namespace Go.Proofs.Ytjlgembpaalijaa
open Go.RowKit Go.Joins

/-- What a callee that makes memory leaves of what was there. -/
theorem bcell {B : Nat} {W w1 : World} (hb : Below B W w1) : (∀ b o, b < B → w1.cell? ⟨b, o, none⟩ = W.cell? ⟨b, o, none⟩) ∧ (∀ b o, b < B → w1.frozen? ⟨b, o, none⟩ = W.frozen? ⟨b, o, none⟩) ∧ W.heap.size ≤ w1.heap.size :=
  ⟨fun b o h => hb.cell (p := ⟨b, o, none⟩) h, fun b o h => hb.frozen (p := ⟨b, o, none⟩) h, hb.size⟩
/-- One more callee behind what went before. -/
theorem after_ {B B' : Nat} {a w w' : World} (h : Below B a w) (hb : Below B' w w') (hB : B ≤ B') : Below B a w' := h.trans (hb.mono hB)

theorem retb {a b : Bool} (h : a = b) : Ending.returned (.bool a) = .returned (.bool b) := by rw [h]
theorem reti {k : IntKind} {a b : Int} (h : a = b) : Ending.returned (.int k a) = .returned (.int k b) := by rw [h]

/-- x fits int. -/
def I64 (x : Int) : Prop := -9223372036854775808 ≤ x ∧ x ≤ 9223372036854775807
/-- x lies in a range. -/
def inR (x lo hi : Int) : Bool := decide (lo ≤ x) && decide (x ≤ hi)
theorem inR_true {x lo hi : Int} : inR x lo hi = true ↔ lo ≤ x ∧ x ≤ hi := by simp [inR]
theorem inR_false {x lo hi : Int} : inR x lo hi = false ↔ x < lo ∨ hi < x := by
  simp only [inR, Bool.and_eq_false_iff, decide_eq_false_iff_not]; omega
end Go.Proofs.Ytjlgembpaalijaa
