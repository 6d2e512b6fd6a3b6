/-
  DERIVED. GIVEN WITH THE SEED: THE CARDS: each row of YtccdbdkpjcehjaaDoorRows.lean that lists a variable, with what it lists TIED to the program's text (the seventh form; the later family's looks); each row that meets fmt, with fmt's text TOLD by the authors' own Lean function (tested against real Go, not proved from fmt's source: count such statements apart). THE CARD IS WHAT COUNTS. Prove the row's statement (the work); the ties are given (YtccdbdkpjcehjaaDoorTie.lean); close each card by the builder's one call (the guide's Derived/Test/ToyasCard.lean, 'card_holds'). Laid BY PROGRAM, IN A SANDBOX (cutbox-door.mjs). By AI agents, Wed Nov 11 2026. No macro, syntax, notation, axiom, sorry.
-/
import Derived.Test.YtccdbdkpjcehjaaDoorRows
import GoSem.ClaimSeven
namespace Go.Proofs.YtccdbdkpjcehjaaDoor
namespace Rows

/-- THE TIED CARD OF 'laws.FnExactSideWind'. -/
def fnExactSideWindCard : Claim7 := { stood := { row := fnExactSideWindRow, standIns := [], harness := (true, "f1e8821f6c389c800ec18707055f8551151bc426b71297be9760dc10c09ba987"), looks := false }, kinds := [], alts := [], laidByText := true, laidKinds := [.data], laidTests := true, laidLooks := .later }
def FnExactSideWindCardSaid : Prop := Claim7.holds Tryd.pinned (.plain (OpenSpec.ofChange fnExactSideWindSpec)) fnExactSideWindCard

/-- THE TIED CARD OF 'laws.FnExactWeatherText'. -/
def fnExactWeatherTextCard : Claim7 := { stood := { row := fnExactWeatherTextRow, standIns := [], harness := (true, "f1e8821f6c389c800ec18707055f8551151bc426b71297be9760dc10c09ba987"), looks := false }, kinds := [], alts := [], laidByText := true, laidKinds := [.data, .data, .data], laidTests := true, laidLooks := .later }
def FnExactWeatherTextCardSaid : Prop := Claim7.holds Tryd.pinned (.plain (OpenSpec.ofChange fnExactWeatherTextSpec)) fnExactWeatherTextCard

/-- THE SECOND FORM's CARD OF 'laws.FnExactSideWind'. -/
def fnExactSideWindUptoCard : Claim7 := { stood := { row := fnExactSideWindUptoRow, standIns := [], harness := (true, "f1e8821f6c389c800ec18707055f8551151bc426b71297be9760dc10c09ba987"), looks := false }, kinds := [], alts := [], laidByText := true, laidKinds := [.data], laidTests := true, laidLooks := .later }
def FnExactSideWindUptoCardSaid : Prop := Claim7.holds Tryd.pinned (.plain (OpenSpec.upto fnExactSideWindSpec)) fnExactSideWindUptoCard

/-- THE SECOND FORM's CARD OF 'laws.FnExactWeatherText'. -/
def fnExactWeatherTextUptoCard : Claim7 := { stood := { row := fnExactWeatherTextUptoRow, standIns := [], harness := (true, "f1e8821f6c389c800ec18707055f8551151bc426b71297be9760dc10c09ba987"), looks := false }, kinds := [], alts := [], laidByText := true, laidKinds := [.data, .data, .data], laidTests := true, laidLooks := .later }
def FnExactWeatherTextUptoCardSaid : Prop := Claim7.holds Tryd.pinned (.plain (OpenSpec.upto fnExactWeatherTextSpec)) fnExactWeatherTextUptoCard
end Rows
end Go.Proofs.YtccdbdkpjcehjaaDoor
