/- A list of groups that came in as an argument; no conditions. -/
import Derived.Test.YtalabohacedgnaaQueue
import Derived.Test.YtalabohacedgnaaLaw
namespace Go.Proofs.Ytalabohacedgnaa
open Go.RowKit Go.Joins Go.ChangeShapes Go.WideShapes Go.ChangeAt Go.Deep
/-- A slice that came in. -/
def InGro (w : World) (A : Option Addr) (n : Nat) (l : List Gro) : Prop := n = l.length ∧ l.length ≤ maxLen ∧ Rd w w.heap.size 2 Gro.cells A l ∧ ∀ i, i < l.length → I64 (nth l i).s
theorem open_laws_Group {H : Type} {enc : TypeId × Value → H} {w : World} {base : Nat} {spare : Nat → Bool} {held : Bool} {a : Option Addr} {len cap : Nat} {d : DataW H} {p : List MemPlace}
    (h : DataW.Trod enc Try.prog w base spare held 22 (.slice a len cap) d p) : ∃ l : List Gro, InGro w a len l := by
  obtain ⟨fuel, hf⟩ := h
  rcases open_slice_fields Try.underlying22 Try.underlying57 (by kernel_rfl) (by kernel_rfl) hf with hcs | ⟨x0, ln, c, hcs, hl, hm, hi⟩
  · simp [Value.cells] at hcs
    obtain ⟨rfl, rfl, rfl⟩ := hcs
    exact ⟨[], rfl, by simp [maxLen], fun i hi => absurd hi (by simp), fun i hi => absurd hi (by simp)⟩
  · simp [Value.cells] at hcs
    obtain ⟨rfl, rfl, rfl⟩ := hcs
    have hex : ∀ i, i < len → ∃ x : Gro, (∀ j v, x.cells[j]? = some v → w.cell? (x0.add (i * 2 + j)) = some v) ∧ I64 x.s := fun i hi' => by
      obtain ⟨n, hf⟩ := hi i hi'
      obtain ⟨v0, y0, hc0, ht0⟩ := hf 0 _ rfl
      obtain ⟨z0, e0, _, s0⟩ := DataW.trod_int Try.underlying3 ht0
      simp only [List.cons.injEq, and_true] at e0; subst e0
      obtain ⟨v1, y1, hc1, ht1⟩ := hf 1 _ rfl
      obtain ⟨z1, e1, _⟩ := DataW.trod_bool Try.underlying4 ht1
      simp only [List.cons.injEq, and_true] at e1; subst e1
      refine ⟨⟨z0, z1⟩, fun j v hv => ?_, bounds_i64 s0⟩
      match j, hv with
      | 0, hv => simp only [Gro.cells, List.getElem?_cons_zero, List.getElem?_cons_succ, Option.some.injEq] at hv; subst hv; exact hc0
      | 1, hv => simp only [Gro.cells, List.getElem?_cons_zero, List.getElem?_cons_succ, Option.some.injEq] at hv; subst hv; exact hc1
    obtain ⟨l, hlen, hp⟩ := list_of hex
    refine ⟨l, hlen.symm, by omega, fun i hi => ?_, fun i hi => (hp i (by omega)).2⟩
    obtain ⟨hq, hlt⟩ := plain_addr (by simpa [Addr.add] using (hp 0 (by omega)).1 0 _ rfl)
    refine ⟨x0.block, x0.off, by rw [← hq], hlt, fun j v hv => ?_⟩
    have := (hp i (by omega)).1 j v hv
    rw [add_plain hq] at this
    rw [← this, Nat.add_assoc]
end Go.Proofs.Ytalabohacedgnaa
