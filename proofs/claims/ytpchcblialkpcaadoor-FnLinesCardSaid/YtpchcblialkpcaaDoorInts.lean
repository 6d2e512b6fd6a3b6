/- The copies and comparisons of lists of ints that the statements use; no conditions beyond the length that the statements ask for. -/
import Derived.Test.YtpchcblialkpcaaDoorRows
import Derived.Test.YtpchcblialkpcaaDoorSlice
import Derived.Outline
namespace Go.Proofs.YtpchcblialkpcaaDoor
open Go.RowKit

theorem info_int : (Tryd.prog.info? 3).map (fun i => (i.zero, i.size, i.bytes)) = some (some (.int .i64 0), 1, 8) := by kernel_rfl
end Go.Proofs.YtpchcblialkpcaaDoor
