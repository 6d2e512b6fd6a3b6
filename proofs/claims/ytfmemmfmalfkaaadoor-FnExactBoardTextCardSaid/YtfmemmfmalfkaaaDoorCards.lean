/-
  DERIVED. GIVEN WITH THE SEED: THE CARDS: each row of YtfmemmfmalfkaaaDoorRows.lean that lists a variable, with what it lists TIED to the program's text (the seventh form; the later family's looks); each row that meets fmt, with fmt's text TOLD by the authors' own Lean function (tested against real Go, not proved from fmt's source: count such statements apart). THE CARD IS WHAT COUNTS. Prove the row's statement (the work); the ties are given (YtfmemmfmalfkaaaDoorTie.lean); close each card by the builder's one call (the guide's Derived/Test/ToyasCard.lean, 'card_holds'). Laid BY PROGRAM, IN A SANDBOX (cutbox-door.mjs). By AI agents, Wed Nov 11 2026. No macro, syntax, notation, axiom, sorry.
-/
import Derived.Test.YtfmemmfmalfkaaaDoorRows
import GoSem.ClaimSeven
namespace Go.Proofs.YtfmemmfmalfkaaaDoor
namespace Rows

/-- THE TIED CARD OF 'laws.FnExactIsBoardEvent'. -/
def fnExactIsBoardEventCard : Claim7 := { stood := { row := fnExactIsBoardEventRow, standIns := [], harness := (true, "349b53ce5bb6ba15cb954c76bfd816ee88f38e46a5fb1e17403a810cee2da646"), looks := false }, kinds := [], alts := [], laidByText := true, laidKinds := [.widerDeep], laidTests := true, laidLooks := .later }
def FnExactIsBoardEventCardSaid : Prop := Claim7.holds Tryd.pinned (.plain (OpenSpec.ofChange fnExactIsBoardEventSpec)) fnExactIsBoardEventCard

/-- THE TIED CARD OF 'laws.FnExactCountEvents'. -/
def fnExactCountEventsCard : Claim7 := { stood := { row := fnExactCountEventsRow, standIns := [], harness := (true, "349b53ce5bb6ba15cb954c76bfd816ee88f38e46a5fb1e17403a810cee2da646"), looks := false }, kinds := [], alts := [], laidByText := true, laidKinds := [.widerDeep], laidTests := true, laidLooks := .later }
def FnExactCountEventsCardSaid : Prop := Claim7.holds Tryd.pinned (.plain (OpenSpec.ofChange fnExactCountEventsSpec)) fnExactCountEventsCard

/-- THE TIED CARD OF 'laws.FnExactBoardText'. -/
def fnExactBoardTextCard : Claim7 := { stood := { row := fnExactBoardTextRow, standIns := [], harness := (true, "349b53ce5bb6ba15cb954c76bfd816ee88f38e46a5fb1e17403a810cee2da646"), looks := false }, kinds := [], alts := [], laidByText := true, laidKinds := [.data, .data, .data], laidTests := true, laidLooks := .later }
def FnExactBoardTextCardSaid : Prop := Claim7.holds Tryd.pinned (.plain (OpenSpec.ofChange fnExactBoardTextSpec)) fnExactBoardTextCard

/-- THE SECOND FORM's CARD OF 'laws.FnExactIsBoardEvent'. -/
def fnExactIsBoardEventUptoCard : Claim7 := { stood := { row := fnExactIsBoardEventUptoRow, standIns := [], harness := (true, "349b53ce5bb6ba15cb954c76bfd816ee88f38e46a5fb1e17403a810cee2da646"), looks := false }, kinds := [], alts := [], laidByText := true, laidKinds := [.widerDeep], laidTests := true, laidLooks := .later }
def FnExactIsBoardEventUptoCardSaid : Prop := Claim7.holds Tryd.pinned (.plain (OpenSpec.upto fnExactIsBoardEventSpec)) fnExactIsBoardEventUptoCard

/-- THE SECOND FORM's CARD OF 'laws.FnExactCountEvents'. -/
def fnExactCountEventsUptoCard : Claim7 := { stood := { row := fnExactCountEventsUptoRow, standIns := [], harness := (true, "349b53ce5bb6ba15cb954c76bfd816ee88f38e46a5fb1e17403a810cee2da646"), looks := false }, kinds := [], alts := [], laidByText := true, laidKinds := [.widerDeep], laidTests := true, laidLooks := .later }
def FnExactCountEventsUptoCardSaid : Prop := Claim7.holds Tryd.pinned (.plain (OpenSpec.upto fnExactCountEventsSpec)) fnExactCountEventsUptoCard

/-- THE SECOND FORM's CARD OF 'laws.FnExactBoardText'. -/
def fnExactBoardTextUptoCard : Claim7 := { stood := { row := fnExactBoardTextUptoRow, standIns := [], harness := (true, "349b53ce5bb6ba15cb954c76bfd816ee88f38e46a5fb1e17403a810cee2da646"), looks := false }, kinds := [], alts := [], laidByText := true, laidKinds := [.data, .data, .data], laidTests := true, laidLooks := .later }
def FnExactBoardTextUptoCardSaid : Prop := Claim7.holds Tryd.pinned (.plain (OpenSpec.upto fnExactBoardTextSpec)) fnExactBoardTextUptoCard
end Rows
end Go.Proofs.YtfmemmfmalfkaaaDoor
