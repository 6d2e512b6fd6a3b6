/- Small lemmas on worlds and on ranges of integers that the walks of this seat use; no conditions. -/
import Derived.WalkKit
import Derived.ProofKit
import Derived.Below
import Derived.Lib.SmallJoins
import Derived.Lib.Hide
import Derived.BigQuiet
namespace Go.Proofs.YtpchcblialkpcaaDoor
open Go.RowKit Go.Joins

/-- What a callee that makes memory leaves of what was there. -/
theorem bcell {B : Nat} {W w1 : World} (hb : Below B W w1) : (∀ b o, b < B → w1.cell? ⟨b, o, none⟩ = W.cell? ⟨b, o, none⟩) ∧ (∀ b o, b < B → w1.frozen? ⟨b, o, none⟩ = W.frozen? ⟨b, o, none⟩) ∧ W.heap.size ≤ w1.heap.size :=
  ⟨fun b o h => hb.cell (p := ⟨b, o, none⟩) h, fun b o h => hb.frozen (p := ⟨b, o, none⟩) h, hb.size⟩
/-- A cell behind a store into it: it holds what was stored, if it is there. -/
@[go_sem] theorem cell_setCell_map (w : World) (a : Addr) (v : Value) : (w.setCell a v).cell? a = (w.cell? a).map fun _ => v := by
  rcases h : w.cell? a with _ | u
  · unfold World.cell? World.setCell at *
    rw [Array.getElem?_modify]
    rcases hb : w.heap[a.block]? with _ | o
    · simp
    · rw [hb] at h
      simp only [if_pos, Option.map_some, Option.map_none]
      cases o with
      | cells c t f =>
        simp only at h ⊢
        split at h <;> simp_all
      | _ => rfl
  · rw [World.cell?_setCell_same w a v h]; rfl
/-- One more callee behind what went before. -/
theorem alloc_ {B : Nat} {a w : World} {o : Obj} (hB : B ≤ w.heap.size) (h : Below B a w) : Below B a (w.alloc o) := h.alloc hB o
theorem set_ {B : Nat} {a w : World} {p : Addr} {u : Value} (hp : B ≤ p.block) (h : Below B a w) : Below B a (w.setCell p u) := h.setCell hp u
theorem after_ {B B' : Nat} {a w w' : World} (h : Below B a w) (hb : Below B' w w') (hB : B ≤ B') : Below B a w' := h.trans (hb.mono hB)

theorem retb {a b : Bool} (h : a = b) : Ending.returned (.bool a) = .returned (.bool b) := by rw [h]
theorem reti {k : IntKind} {a b : Int} (h : a = b) : Ending.returned (.int k a) = .returned (.int k b) := by rw [h]

/-- Go's min and max of ints, as the walk spells them. -/
@[go_sem] theorem ite_min (x y : Int) : (if y < x then y else x) = min x y := by omega
@[go_sem] theorem ite_max (x y : Int) : (if x < y then y else x) = max x y := by omega
/-- x fits int. -/
def I64 (x : Int) : Prop := -9223372036854775808 ≤ x ∧ x ≤ 9223372036854775807
/-- x lies in a range. -/
def inR (x lo hi : Int) : Bool := decide (lo ≤ x) && decide (x ≤ hi)
theorem inR_true {x lo hi : Int} : inR x lo hi = true ↔ lo ≤ x ∧ x ≤ hi := by simp [inR]
theorem inR_false {x lo hi : Int} : inR x lo hi = false ↔ x < lo ∨ hi < x := by
  simp only [inR, Bool.and_eq_false_iff, decide_eq_false_iff_not]; omega

/-! Regions that draw their order, whose operations read and whose callees may make memory: one walk serves every order. -/
/-- A world behind w0 in which all that w0 held is as it was. -/
structure WIn (w0 : World) where
  w : World
  ok : Below w0.heap.size w0 w
instance {w0 : World} : Nonempty (WIn w0) := ⟨⟨w0, Below.refl _ _⟩⟩
@[go_sem] theorem WIn.cell_ {w0 : World} (x : WIn w0) (b o : Nat) (h : b < w0.heap.size) : x.w.cell? ⟨b, o, none⟩ = w0.cell? ⟨b, o, none⟩ := x.ok.cell (p := ⟨b, o, none⟩) h
theorem wp_region_mem {P : Program} {id : Nat} {Q : Exit → Act → World → Prop} {a : Act} {w : World} {l : List Oper} (hm : P.follows .mixedOrders = true) (hB : Region.lexB .any l.toArray = true)
    (h : wpQuiet P l.toArray (fun w' => ∃ x : WIn w, w' = x.w) (fun a' => ∀ w', (∃ x : WIn w, w' = x.w) → Q .normal a' w') l a) : (Code.region id l.toArray true).wp P Q a w :=
  wp_region_quiet (C := fun w' => ∃ x : WIn w, w' = x.w) hm hB ⟨⟨w.drew, (Below.refl _ _).drew⟩, rfl⟩ (by simpa using h)
section
variable {P : Program} {f : FuncId} {args : Array Value} {w0 : World} {x : WIn w0}
theorem mem_of {v : Value} (h : Calls P f args x.w fun e w' => e = .returned v ∧ Below x.w.heap.size x.w w') : Calls P f args x.w fun e w'' => e = .returned v ∧ ∃ y : WIn w0, w'' = y.w :=
  h.mono fun _ w' ⟨he, hb⟩ => ⟨he, ⟨⟨w', x.ok.trans (hb.mono x.ok.size)⟩, rfl⟩⟩
theorem mem_same {v : Value} (h : Calls P f args x.w fun e w' => e = .returned v ∧ x.w = w') : Calls P f args x.w fun e w'' => e = .returned v ∧ ∃ y : WIn w0, w'' = y.w :=
  h.mono fun _ _ ⟨he, hb⟩ => ⟨he, ⟨x, hb.symm⟩⟩
theorem mem_bool {b c : Bool} (h : Calls P f args x.w fun e w' => e = .returned (.bool b) ∧ Below x.w.heap.size x.w w') (e : b = c) : Calls P f args x.w fun e w'' => e = .returned (.bool c) ∧ ∃ y : WIn w0, w'' = y.w := mem_of (e ▸ h)
theorem same_bool {b c : Bool} (h : Calls P f args x.w fun e w' => e = .returned (.bool b) ∧ x.w = w') (e : b = c) : Calls P f args x.w fun e w'' => e = .returned (.bool c) ∧ ∃ y : WIn w0, w'' = y.w := mem_same (e ▸ h)
end
end Go.Proofs.YtpchcblialkpcaaDoor
