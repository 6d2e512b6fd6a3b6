/- What the frames of the laws' proofs share: arguments opened to numbers, strings and cells; no conditions. -/
import Derived.Test.YtjlgembpaalijaaRows
import Derived.Test.YtjlgembpaalijaaBase
import Derived.OpenShut
import Derived.ShutString
import Derived.ChangeOld
import Derived.Deep.Slices
import Derived.Deep.Fields
import Derived.ChangeSame
namespace Go.Proofs.Ytjlgembpaalijaa
open Go.RowKit Go.Joins Go.ChangeShapes Go.WideShapes Go.ChangeAt Go.Deep
end Go.Proofs.Ytjlgembpaalijaa
