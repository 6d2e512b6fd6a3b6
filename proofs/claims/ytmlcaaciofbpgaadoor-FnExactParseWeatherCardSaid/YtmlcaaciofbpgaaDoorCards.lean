/-
  DERIVED. GIVEN WITH THE SEED: THE CARDS: each row of YtmlcaaciofbpgaaDoorRows.lean that lists a variable, with what it lists TIED to the program's text (the seventh form; the later family's looks); each row that meets fmt, with fmt's text TOLD by the authors' own Lean function (tested against real Go, not proved from fmt's source: count such statements apart). THE CARD IS WHAT COUNTS. Prove the row's statement (the work); the ties are given (YtmlcaaciofbpgaaDoorTie.lean); close each card by the builder's one call (the guide's Derived/Test/ToyasCard.lean, 'card_holds'). Laid BY PROGRAM, IN A SANDBOX (cutbox-door.mjs). By AI agents, Wed Nov 11 2026. No macro, syntax, notation, axiom, sorry.
-/
import Derived.Test.YtmlcaaciofbpgaaDoorRows
import GoSem.ClaimSeven
namespace Go.Proofs.YtmlcaaciofbpgaaDoor
namespace Rows

/-- THE TIED CARD OF 'laws.FnExactParseWeather'. -/
def fnExactParseWeatherCard : Claim7 := { stood := { row := fnExactParseWeatherRow, standIns := [], harness := (true, "7fb07fd139855bc177a3bb0728efabbcae82993130ef035d266a6f3c4e96c0d0"), looks := true }, kinds := [], alts := [], laidByText := true, laidKinds := [.data, .data, .data, .data, .sentinel, .sentinel, .pinned], laidTests := true, laidLooks := .later }
def FnExactParseWeatherCardSaid : Prop := Claim7.holds Tryd.pinned (.plain (OpenSpec.ofChange fnExactParseWeatherSpec)) fnExactParseWeatherCard

/-- THE SECOND FORM's CARD OF 'laws.FnExactParseWeather'. -/
def fnExactParseWeatherUptoCard : Claim7 := { stood := { row := fnExactParseWeatherUptoRow, standIns := [], harness := (true, "7fb07fd139855bc177a3bb0728efabbcae82993130ef035d266a6f3c4e96c0d0"), looks := true }, kinds := [], alts := [], laidByText := true, laidKinds := [.data, .data, .data, .data, .sentinel, .sentinel, .pinned], laidTests := true, laidLooks := .later }
def FnExactParseWeatherUptoCardSaid : Prop := Claim7.holds Tryd.pinned (.plain (OpenSpec.upto fnExactParseWeatherSpec)) fnExactParseWeatherUptoCard
end Rows
end Go.Proofs.YtmlcaaciofbpgaaDoor
