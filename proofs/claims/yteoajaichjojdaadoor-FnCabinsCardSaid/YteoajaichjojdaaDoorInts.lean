/- The copies and comparisons of lists of ints that the statements use; no conditions beyond the length that the statements ask for. -/
import Derived.Test.YteoajaichjojdaaDoorRows
import Derived.Test.YteoajaichjojdaaDoorSlice
import Derived.Outline
namespace Go.Proofs.YteoajaichjojdaaDoor
open Go.RowKit

theorem info_int : (Tryd.prog.info? 3).map (fun i => (i.zero, i.size, i.bytes)) = some (some (.int .i64 0), 1, 8) := by kernel_rfl
end Go.Proofs.YteoajaichjojdaaDoor
