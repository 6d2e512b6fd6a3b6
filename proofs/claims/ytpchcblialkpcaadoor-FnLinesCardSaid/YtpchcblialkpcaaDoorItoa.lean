/- The library's numeral, by the kit's contract at this program; no conditions but that the powers of ten lie where the library's text lays them. -/
import Derived.Test.YtpchcblialkpcaaDoorText
import Derived.Test.YtpchcblialkpcaaDoorShelf
import Derived.Lib.AppendIntMem
namespace Go.Proofs.YtpchcblialkpcaaDoor
open Go.RowKit

/-- The powers of ten lie where the library's text lays them. -/
def Tab (w : World) : Prop := Lib.TabIs Tryd.prog w "internal/strconv.uint64pow10" .u64 Lib.pow10Tab
theorem Tab.carry {w w' : World} (h : Tab w) (hb : Below w.heap.size w w') : Tab w' :=
  Joins.tab_stays (g := 1) (by kernel_rfl) h hb (Nat.le_refl _)
theorem itoa_c (n : Int) (w : World) (h0 : -9223372036854775808 ≤ n) (h1 : n ≤ 9223372036854775807) (hT : Tab w) :
    Calls Tryd.prog 34 #[.int .i64 n] w fun e w' => e = .returned (.string (S (num n))) ∧ Below w.heap.size w w' :=
  (Tryd.strconv_Itoa n h0 h1 w hT).mono fun _ _ ⟨he, _, _, hw⟩ => ⟨he, hw ▸ Lib.below_grow _ _ (Nat.le_refl _) _ _⟩
end Go.Proofs.YtpchcblialkpcaaDoor
