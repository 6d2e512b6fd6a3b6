/- Damages as the cells that they lie in; no conditions. -/
import Derived.Test.YtlgpgcfncmomiaaFlat
import Derived.Test.YtlgpgcfncmomiaaDamList
namespace Go.Proofs.Ytlgpgcfncmomiaa
open Go.RowKit
theorem info_Damage : (Try.prog.info? 28).map (fun i => (i.zero, i.size, i.bytes)) = some (some (.agg #[.int .i64 0, .int .i64 0, .int .i64 0]), 3, 24) := by kernel_rfl
theorem Dam.three : ∀ x : Dam, x.cells.length = 3 := fun _ => rfl
theorem Dam.ones : ∀ x : Dam, ∀ u ∈ x.cells, u.oneCell' = true := fun x u hu => by
  simp only [Dam.cells, List.mem_cons, List.not_mem_nil, or_false] at hu
  rcases hu with rfl | rfl | rfl <;> rfl
end Go.Proofs.Ytlgpgcfncmomiaa
