/-
  DERIVED. GIVEN WITH THE SEED: THE CARDS: each row of YteoajaichjojdaaDoorRows.lean that lists a variable, with what it lists TIED to the program's text (the seventh form; the later family's looks); each row that meets fmt, with fmt's text TOLD by the authors' own Lean function (tested against real Go, not proved from fmt's source: count such statements apart). THE CARD IS WHAT COUNTS. Prove the row's statement (the work); the ties are given (YteoajaichjojdaaDoorTie.lean); close each card by the builder's one call (the guide's Derived/Test/ToyasCard.lean, 'card_holds'). Laid BY PROGRAM, IN A SANDBOX (cutbox-door.mjs). By AI agents, Wed Nov 11 2026. No macro, syntax, notation, axiom, sorry.
-/
import Derived.Test.YteoajaichjojdaaDoorRows
import GoSem.ClaimSeven
namespace Go.Proofs.YteoajaichjojdaaDoor
namespace Rows

/-- THE TIED CARD OF 'laws.FnCabins'. -/
def fnCabinsCard : Claim7 := { stood := { row := fnCabinsRow, standIns := [], harness := (true, "70bb31b8619c7218b70a6b4a8b49dcaa00566903f728ed7e2cbb16a85450d24d"), looks := true }, kinds := [], alts := [], laidByText := true, laidKinds := [.data, .data, .data, .data, .sentinel, .sentinel, .widerDeep, .pinned], laidTests := true, laidLooks := .later }
def FnCabinsCardSaid : Prop := Claim7.holds Tryd.pinned (.plain (OpenSpec.ofChange fnCabinsSpec)) fnCabinsCard

/-- THE SECOND FORM's CARD OF 'laws.FnCabins'. -/
def fnCabinsUptoCard : Claim7 := { stood := { row := fnCabinsUptoRow, standIns := [], harness := (true, "70bb31b8619c7218b70a6b4a8b49dcaa00566903f728ed7e2cbb16a85450d24d"), looks := true }, kinds := [], alts := [], laidByText := true, laidKinds := [.data, .data, .data, .data, .sentinel, .sentinel, .widerDeep, .pinned], laidTests := true, laidLooks := .later }
def FnCabinsUptoCardSaid : Prop := Claim7.holds Tryd.pinned (.plain (OpenSpec.upto fnCabinsSpec)) fnCabinsUptoCard
end Rows
end Go.Proofs.YteoajaichjojdaaDoor
