/- Damages and kinds of ropes in memory; no conditions. -/
import Derived.Test.YtlgpgcfncmomiaaRange
import Derived.Test.YtlgpgcfncmomiaaSlice
import Derived.IntWalk
import Derived.Outline
namespace Go.Proofs.Ytlgpgcfncmomiaa
open Go.RowKit
structure Dam where
  a : Int
  s : Int
  w : Int
instance : Inhabited Dam := ⟨⟨0, 0, 0⟩⟩
def Dam.cells (x : Dam) : List Value := [.int .i64 x.a, .int .i64 x.s, .int .i64 x.w]
theorem Dam.rd {w : World} {B : Nat} {A : Option Addr} {l : List Dam} (h : Rd w B 3 Dam.cells A l) {i : Nat} (hi : i < l.length) : ∃ b off, A = some ⟨b, off, none⟩ ∧ b < B ∧ w.cell? ⟨b, off + i * 3, none⟩ = some (.int .i64 (nth l i).a) ∧ w.cell? ⟨b, off + i * 3 + 1, none⟩ = some (.int .i64 (nth l i).s) ∧ w.cell? ⟨b, off + i * 3 + 2, none⟩ = some (.int .i64 (nth l i).w) := by
  obtain ⟨b, off, e, hlt, hc⟩ := h i hi
  exact ⟨b, off, e, hlt, by simpa using hc 0 _ rfl, hc 1 _ rfl, hc 2 _ rfl⟩
/-- A kind of rope. -/
structure Kin where
  i : Int
  st : Int
  wi : Int
  we : Int
  sg : Int
end Go.Proofs.Ytlgpgcfncmomiaa
