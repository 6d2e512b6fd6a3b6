/-
  DERIVED. GIVEN WITH THE SEED: THE CARDS: each row of YtdhcmmdeickmnaaDoorRows.lean that lists a variable, with what it lists TIED to the program's text (the seventh form; the later family's looks); each row that meets fmt, with fmt's text TOLD by the authors' own Lean function (tested against real Go, not proved from fmt's source: count such statements apart). THE CARD IS WHAT COUNTS. Prove the row's statement (the work); the ties are given (YtdhcmmdeickmnaaDoorTie.lean); close each card by the builder's one call (the guide's Derived/Test/ToyasCard.lean, 'card_holds'). Laid BY PROGRAM, IN A SANDBOX (cutbox-door.mjs). By AI agents, Wed Nov 11 2026. No macro, syntax, notation, axiom, sorry.
-/
import Derived.Test.YtdhcmmdeickmnaaDoorRows
import GoSem.ClaimSeven
namespace Go.Proofs.YtdhcmmdeickmnaaDoor
namespace Rows

/-- THE TIED CARD OF 'laws.FnExactSideWind'. -/
def fnExactSideWindCard : Claim7 := { stood := { row := fnExactSideWindRow, standIns := [], harness := (true, "446e547207d2fb36b0b8c4b645522dea22a5481599bb2061ad87d2b5f23e83fb"), looks := false }, kinds := [], alts := [], laidByText := true, laidKinds := [.data], laidTests := true, laidLooks := .later }
def FnExactSideWindCardSaid : Prop := Claim7.holds Tryd.pinned (.plain (OpenSpec.ofChange fnExactSideWindSpec)) fnExactSideWindCard

/-- THE SECOND FORM's CARD OF 'laws.FnExactSideWind'. -/
def fnExactSideWindUptoCard : Claim7 := { stood := { row := fnExactSideWindUptoRow, standIns := [], harness := (true, "446e547207d2fb36b0b8c4b645522dea22a5481599bb2061ad87d2b5f23e83fb"), looks := false }, kinds := [], alts := [], laidByText := true, laidKinds := [.data], laidTests := true, laidLooks := .later }
def FnExactSideWindUptoCardSaid : Prop := Claim7.holds Tryd.pinned (.plain (OpenSpec.upto fnExactSideWindSpec)) fnExactSideWindUptoCard
end Rows
end Go.Proofs.YtdhcmmdeickmnaaDoor
