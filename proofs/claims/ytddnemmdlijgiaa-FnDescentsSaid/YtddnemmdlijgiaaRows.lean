/-
  No cell of these rows narrows 'for every input' (looked for: loops, veiled, ifaces, maps, wideKeys, modest, calm, conditions, laid).
  DERIVED. THE GIVEN ROWS OF THIS SEAT. 11 by the template 'for every input the law returns true; each argument reads behind the call as it read before'; 0 by the template 'total and deterministic' (their statements: YtddnemmdlijgiaaTotals.lean).
  GIVEN WITH THE SEED: the statements are not yours to turn. If you find one false, say at which input.
  Laid BY PROGRAM, IN A SANDBOX (cutbox-rows.mjs): the forced cells as the released guide's own fill.sh prints them over the translation a0cedc4461197c00… (all of the seat's roots in one cut). By AI agents, Wed Nov 11 2026. No macro, syntax, notation, axiom, sorry.
-/
import Derived.Test.YtddnemmdlijgiaaChecked
import GoSem.Claim
import GoSem.ClaimJoined
import GoSem.ClaimMapViews
import Derived.JoinedTies
import Derived.KernelRfl
namespace Go.Proofs.Ytddnemmdlijgiaa
/- THE CELL 'sum', in the pinned program and in every row, IS THE sha256 OF THE DUMP (.gsa) THAT YtddnemmdlijgiaaProg.lean LOADS. Nothing in Lean hashes anything: it is a label: what it is worth is what the hold of that sum in a sandbox is worth. -/
noncomputable def Try.pinned : Pinned := { name := "ytddnemmdlijgiaa", sum := "a0cedc4461197c00418c493d11f864498c2d81334931573d53e82a7d5c79515c", checked := Try.checked }
namespace Rows
def none {H : Type} : Left H := { results := [], args := [] }

/-- 'laws.FnExactIsTimetable': WHATEVER THE INPUT: true; the input reads as it did. -/
def fnExactIsTimetableSpec : ChangeSpec := { name := "fnExactIsTimetable", fn := fun _ => fun
  | [d] => { results := [.lit (.bool true)], args := [d] }
  | _ => none }
def fnExactIsTimetableRow : OpenClaim := { program := "ytddnemmdlijgiaa", sum := "a0cedc4461197c00418c493d11f864498c2d81334931573d53e82a7d5c79515c", func := "loop.example/g00935/laws.FnExactIsTimetable", spec := "fnExactIsTimetable", unfollowed := true, recurses := true, apart := false }
def FnExactIsTimetableSaid : Prop := fnExactIsTimetableRow.holds Try.pinned (OpenSpec.ofChange fnExactIsTimetableSpec)

/-- ITS FALSE NEIGHBOUR: 'it returns false'. Refute it at one input. -/
def fnExactIsTimetableWrong : ChangeSpec := { name := "fnExactIsTimetable", fn := fun _ => fun
  | [d] => { results := [.lit (.bool false)], args := [d] }
  | _ => none }
def FnExactIsTimetableWrongFalsely : Prop := fnExactIsTimetableRow.holds Try.pinned (OpenSpec.ofChange fnExactIsTimetableWrong)

/-- 'laws.FnExactSeatsDown': WHATEVER THE INPUT: true; the input reads as it did. -/
def fnExactSeatsDownSpec : ChangeSpec := { name := "fnExactSeatsDown", fn := fun _ => fun
  | [d1, d2] => { results := [.lit (.bool true)], args := [d1, d2] }
  | _ => none }
def fnExactSeatsDownRow : OpenClaim := { program := "ytddnemmdlijgiaa", sum := "a0cedc4461197c00418c493d11f864498c2d81334931573d53e82a7d5c79515c", func := "loop.example/g00935/laws.FnExactSeatsDown", spec := "fnExactSeatsDown", unfollowed := true, recurses := true, apart := false }
def FnExactSeatsDownSaid : Prop := fnExactSeatsDownRow.holds Try.pinned (OpenSpec.ofChange fnExactSeatsDownSpec)

/-- ITS FALSE NEIGHBOUR: 'it returns false'. Refute it at one input. -/
def fnExactSeatsDownWrong : ChangeSpec := { name := "fnExactSeatsDown", fn := fun _ => fun
  | [d1, d2] => { results := [.lit (.bool false)], args := [d1, d2] }
  | _ => none }
def FnExactSeatsDownWrongFalsely : Prop := fnExactSeatsDownRow.holds Try.pinned (OpenSpec.ofChange fnExactSeatsDownWrong)

/-- 'laws.FnExactIsJourney': WHATEVER THE INPUT: true; the input reads as it did. -/
def fnExactIsJourneySpec : ChangeSpec := { name := "fnExactIsJourney", fn := fun _ => fun
  | [d1, d2, d3, d4] => { results := [.lit (.bool true)], args := [d1, d2, d3, d4] }
  | _ => none }
def fnExactIsJourneyRow : OpenClaim := { program := "ytddnemmdlijgiaa", sum := "a0cedc4461197c00418c493d11f864498c2d81334931573d53e82a7d5c79515c", func := "loop.example/g00935/laws.FnExactIsJourney", spec := "fnExactIsJourney", unfollowed := true, recurses := true, apart := false }
def FnExactIsJourneySaid : Prop := fnExactIsJourneyRow.holds Try.pinned (OpenSpec.ofChange fnExactIsJourneySpec)

/-- ITS FALSE NEIGHBOUR: 'it returns false'. Refute it at one input. -/
def fnExactIsJourneyWrong : ChangeSpec := { name := "fnExactIsJourney", fn := fun _ => fun
  | [d1, d2, d3, d4] => { results := [.lit (.bool false)], args := [d1, d2, d3, d4] }
  | _ => none }
def FnExactIsJourneyWrongFalsely : Prop := fnExactIsJourneyRow.holds Try.pinned (OpenSpec.ofChange fnExactIsJourneyWrong)

/-- 'laws.FnExactLatestDeparture': WHATEVER THE INPUT: true; the input reads as it did. -/
def fnExactLatestDepartureSpec : ChangeSpec := { name := "fnExactLatestDeparture", fn := fun _ => fun
  | [d1, d2, d3, d4] => { results := [.lit (.bool true)], args := [d1, d2, d3, d4] }
  | _ => none }
def fnExactLatestDepartureRow : OpenClaim := { program := "ytddnemmdlijgiaa", sum := "a0cedc4461197c00418c493d11f864498c2d81334931573d53e82a7d5c79515c", func := "loop.example/g00935/laws.FnExactLatestDeparture", spec := "fnExactLatestDeparture", unfollowed := true, recurses := true, apart := false }
def FnExactLatestDepartureSaid : Prop := fnExactLatestDepartureRow.holds Try.pinned (OpenSpec.ofChange fnExactLatestDepartureSpec)

/-- ITS FALSE NEIGHBOUR: 'it returns false'. Refute it at one input. -/
def fnExactLatestDepartureWrong : ChangeSpec := { name := "fnExactLatestDeparture", fn := fun _ => fun
  | [d1, d2, d3, d4] => { results := [.lit (.bool false)], args := [d1, d2, d3, d4] }
  | _ => none }
def FnExactLatestDepartureWrongFalsely : Prop := fnExactLatestDepartureRow.holds Try.pinned (OpenSpec.ofChange fnExactLatestDepartureWrong)

/-- 'laws.FnExactEarliestArrival': WHATEVER THE INPUT: true; the input reads as it did. -/
def fnExactEarliestArrivalSpec : ChangeSpec := { name := "fnExactEarliestArrival", fn := fun _ => fun
  | [d1, d2, d3, d4] => { results := [.lit (.bool true)], args := [d1, d2, d3, d4] }
  | _ => none }
def fnExactEarliestArrivalRow : OpenClaim := { program := "ytddnemmdlijgiaa", sum := "a0cedc4461197c00418c493d11f864498c2d81334931573d53e82a7d5c79515c", func := "loop.example/g00935/laws.FnExactEarliestArrival", spec := "fnExactEarliestArrival", unfollowed := true, recurses := true, apart := false }
def FnExactEarliestArrivalSaid : Prop := fnExactEarliestArrivalRow.holds Try.pinned (OpenSpec.ofChange fnExactEarliestArrivalSpec)

/-- ITS FALSE NEIGHBOUR: 'it returns false'. Refute it at one input. -/
def fnExactEarliestArrivalWrong : ChangeSpec := { name := "fnExactEarliestArrival", fn := fun _ => fun
  | [d1, d2, d3, d4] => { results := [.lit (.bool false)], args := [d1, d2, d3, d4] }
  | _ => none }
def FnExactEarliestArrivalWrongFalsely : Prop := fnExactEarliestArrivalRow.holds Try.pinned (OpenSpec.ofChange fnExactEarliestArrivalWrong)

/-- 'laws.FnExactFewestRides': WHATEVER THE INPUT: true; the input reads as it did. -/
def fnExactFewestRidesSpec : ChangeSpec := { name := "fnExactFewestRides", fn := fun _ => fun
  | [d1, d2, d3, d4] => { results := [.lit (.bool true)], args := [d1, d2, d3, d4] }
  | _ => none }
def fnExactFewestRidesRow : OpenClaim := { program := "ytddnemmdlijgiaa", sum := "a0cedc4461197c00418c493d11f864498c2d81334931573d53e82a7d5c79515c", func := "loop.example/g00935/laws.FnExactFewestRides", spec := "fnExactFewestRides", unfollowed := true, recurses := true, apart := false }
def FnExactFewestRidesSaid : Prop := fnExactFewestRidesRow.holds Try.pinned (OpenSpec.ofChange fnExactFewestRidesSpec)

/-- ITS FALSE NEIGHBOUR: 'it returns false'. Refute it at one input. -/
def fnExactFewestRidesWrong : ChangeSpec := { name := "fnExactFewestRides", fn := fun _ => fun
  | [d1, d2, d3, d4] => { results := [.lit (.bool false)], args := [d1, d2, d3, d4] }
  | _ => none }
def FnExactFewestRidesWrongFalsely : Prop := fnExactFewestRidesRow.holds Try.pinned (OpenSpec.ofChange fnExactFewestRidesWrong)

/-- 'laws.FnExactLastDescents': WHATEVER THE INPUT: true; the input reads as it did. -/
def fnExactLastDescentsSpec : ChangeSpec := { name := "fnExactLastDescents", fn := fun _ => fun
  | [d] => { results := [.lit (.bool true)], args := [d] }
  | _ => none }
def fnExactLastDescentsRow : OpenClaim := { program := "ytddnemmdlijgiaa", sum := "a0cedc4461197c00418c493d11f864498c2d81334931573d53e82a7d5c79515c", func := "loop.example/g00935/laws.FnExactLastDescents", spec := "fnExactLastDescents", unfollowed := true, recurses := true, apart := false }
def FnExactLastDescentsSaid : Prop := fnExactLastDescentsRow.holds Try.pinned (OpenSpec.ofChange fnExactLastDescentsSpec)

/-- ITS FALSE NEIGHBOUR: 'it returns false'. Refute it at one input. -/
def fnExactLastDescentsWrong : ChangeSpec := { name := "fnExactLastDescents", fn := fun _ => fun
  | [d] => { results := [.lit (.bool false)], args := [d] }
  | _ => none }
def FnExactLastDescentsWrongFalsely : Prop := fnExactLastDescentsRow.holds Try.pinned (OpenSpec.ofChange fnExactLastDescentsWrong)

/-- 'laws.FnExactStrandedRides': WHATEVER THE INPUT: true; the input reads as it did. -/
def fnExactStrandedRidesSpec : ChangeSpec := { name := "fnExactStrandedRides", fn := fun _ => fun
  | [d] => { results := [.lit (.bool true)], args := [d] }
  | _ => none }
def fnExactStrandedRidesRow : OpenClaim := { program := "ytddnemmdlijgiaa", sum := "a0cedc4461197c00418c493d11f864498c2d81334931573d53e82a7d5c79515c", func := "loop.example/g00935/laws.FnExactStrandedRides", spec := "fnExactStrandedRides", unfollowed := true, recurses := true, apart := false }
def FnExactStrandedRidesSaid : Prop := fnExactStrandedRidesRow.holds Try.pinned (OpenSpec.ofChange fnExactStrandedRidesSpec)

/-- ITS FALSE NEIGHBOUR: 'it returns false'. Refute it at one input. -/
def fnExactStrandedRidesWrong : ChangeSpec := { name := "fnExactStrandedRides", fn := fun _ => fun
  | [d] => { results := [.lit (.bool false)], args := [d] }
  | _ => none }
def FnExactStrandedRidesWrongFalsely : Prop := fnExactStrandedRidesRow.holds Try.pinned (OpenSpec.ofChange fnExactStrandedRidesWrong)

/-- 'laws.FnExactReachedBy': WHATEVER THE INPUT: true; the input reads as it did. -/
def fnExactReachedBySpec : ChangeSpec := { name := "fnExactReachedBy", fn := fun _ => fun
  | [d1, d2, d3, d4] => { results := [.lit (.bool true)], args := [d1, d2, d3, d4] }
  | _ => none }
def fnExactReachedByRow : OpenClaim := { program := "ytddnemmdlijgiaa", sum := "a0cedc4461197c00418c493d11f864498c2d81334931573d53e82a7d5c79515c", func := "loop.example/g00935/laws.FnExactReachedBy", spec := "fnExactReachedBy", unfollowed := true, recurses := true, apart := false }
def FnExactReachedBySaid : Prop := fnExactReachedByRow.holds Try.pinned (OpenSpec.ofChange fnExactReachedBySpec)

/-- ITS FALSE NEIGHBOUR: 'it returns false'. Refute it at one input. -/
def fnExactReachedByWrong : ChangeSpec := { name := "fnExactReachedBy", fn := fun _ => fun
  | [d1, d2, d3, d4] => { results := [.lit (.bool false)], args := [d1, d2, d3, d4] }
  | _ => none }
def FnExactReachedByWrongFalsely : Prop := fnExactReachedByRow.holds Try.pinned (OpenSpec.ofChange fnExactReachedByWrong)

/-- 'laws.FnTimetables': WHATEVER THE INPUT: true; the input reads as it did. -/
def fnTimetablesSpec : ChangeSpec := { name := "fnTimetables", fn := fun _ => fun
  | [d] => { results := [.lit (.bool true)], args := [d] }
  | _ => none }
def fnTimetablesRow : OpenClaim := { program := "ytddnemmdlijgiaa", sum := "a0cedc4461197c00418c493d11f864498c2d81334931573d53e82a7d5c79515c", func := "loop.example/g00935/laws.FnTimetables", spec := "fnTimetables", unfollowed := true, recurses := true, apart := false }
def FnTimetablesSaid : Prop := fnTimetablesRow.holds Try.pinned (OpenSpec.ofChange fnTimetablesSpec)

/-- ITS FALSE NEIGHBOUR: 'it returns false'. Refute it at one input. -/
def fnTimetablesWrong : ChangeSpec := { name := "fnTimetables", fn := fun _ => fun
  | [d] => { results := [.lit (.bool false)], args := [d] }
  | _ => none }
def FnTimetablesWrongFalsely : Prop := fnTimetablesRow.holds Try.pinned (OpenSpec.ofChange fnTimetablesWrong)

/-- 'laws.FnDescents': WHATEVER THE INPUT: true; the input reads as it did. -/
def fnDescentsSpec : ChangeSpec := { name := "fnDescents", fn := fun _ => fun
  | [d] => { results := [.lit (.bool true)], args := [d] }
  | _ => none }
def fnDescentsRow : OpenClaim := { program := "ytddnemmdlijgiaa", sum := "a0cedc4461197c00418c493d11f864498c2d81334931573d53e82a7d5c79515c", func := "loop.example/g00935/laws.FnDescents", spec := "fnDescents", unfollowed := true, recurses := true, apart := false }
def FnDescentsSaid : Prop := fnDescentsRow.holds Try.pinned (OpenSpec.ofChange fnDescentsSpec)

/-- ITS FALSE NEIGHBOUR: 'it returns false'. Refute it at one input. -/
def fnDescentsWrong : ChangeSpec := { name := "fnDescents", fn := fun _ => fun
  | [d] => { results := [.lit (.bool false)], args := [d] }
  | _ => none }
def FnDescentsWrongFalsely : Prop := fnDescentsRow.holds Try.pinned (OpenSpec.ofChange fnDescentsWrong)

/- THE SECOND FORM. 'bulk': how many values and letters a reading holds, each counted each time it is reached (what is shared counts as often as it is met; a slice's spare places count too). A statement '..UptoSaid' is the law's where the arguments, and the package variables that the reading takes, are together of bulk at most 1048576: NARROWER than '..Said'. Prove '..Said' where nothing that the law and all that it calls make is longer than what came in: it says more and counts as full. Else prove '..UptoSaid'. A law counts once. -/
mutual
def uptoBulk {H : Type} : DataW H → Nat
  | .lit (.string bytes) => bytes.length + 1
  | .lit _ => 1
  | .nil => 1
  | .ptr d => uptoBulk d + 1
  | .slice elems spare => uptoBulkAll elems + uptoBulkAll spare + 1
  | .agg parts => uptoBulkAll parts + 1
  | .iface _ d => uptoBulk d + 1
  | .map entries => uptoBulkEntries entries + 1
  | .held _ => 1
def uptoBulkAll {H : Type} : List (DataW H) → Nat
  | [] => 0
  | d :: r => uptoBulk d + uptoBulkAll r
def uptoBulkEntries {H : Type} : List (Lit × DataW H) → Nat
  | [] => 0
  | x :: r => uptoBulkEntry x + uptoBulkEntries r
def uptoBulkEntry {H : Type} : Lit × DataW H → Nat
  | (.string bytes, d) => bytes.length + uptoBulk d + 1
  | (_, d) => uptoBulk d + 1
 end
def uptoSmall : (H : Type) → List (DataW H) → Bool := fun _ ds => decide (uptoBulkAll ds ≤ 1048576)
def OpenSpec.upto (s : _root_.Go.ChangeSpec) : _root_.Go.OpenSpec := { _root_.Go.OpenSpec.ofChange s with cond := some uptoSmall }

/-- 'laws.FnExactIsTimetable', WHERE WHAT IT READS IS OF BULK AT MOST 1048576: true; the input reads as it did. -/
def fnExactIsTimetableUptoRow : OpenClaim := { program := "ytddnemmdlijgiaa", sum := "a0cedc4461197c00418c493d11f864498c2d81334931573d53e82a7d5c79515c", func := "loop.example/g00935/laws.FnExactIsTimetable", spec := "fnExactIsTimetable", unfollowed := true, recurses := true, apart := false, narrowed := true }
def FnExactIsTimetableUptoSaid : Prop := fnExactIsTimetableUptoRow.holds Try.pinned (OpenSpec.upto fnExactIsTimetableSpec)

/-- 'laws.FnExactSeatsDown', WHERE WHAT IT READS IS OF BULK AT MOST 1048576: true; the input reads as it did. -/
def fnExactSeatsDownUptoRow : OpenClaim := { program := "ytddnemmdlijgiaa", sum := "a0cedc4461197c00418c493d11f864498c2d81334931573d53e82a7d5c79515c", func := "loop.example/g00935/laws.FnExactSeatsDown", spec := "fnExactSeatsDown", unfollowed := true, recurses := true, apart := false, narrowed := true }
def FnExactSeatsDownUptoSaid : Prop := fnExactSeatsDownUptoRow.holds Try.pinned (OpenSpec.upto fnExactSeatsDownSpec)

/-- 'laws.FnExactIsJourney', WHERE WHAT IT READS IS OF BULK AT MOST 1048576: true; the input reads as it did. -/
def fnExactIsJourneyUptoRow : OpenClaim := { program := "ytddnemmdlijgiaa", sum := "a0cedc4461197c00418c493d11f864498c2d81334931573d53e82a7d5c79515c", func := "loop.example/g00935/laws.FnExactIsJourney", spec := "fnExactIsJourney", unfollowed := true, recurses := true, apart := false, narrowed := true }
def FnExactIsJourneyUptoSaid : Prop := fnExactIsJourneyUptoRow.holds Try.pinned (OpenSpec.upto fnExactIsJourneySpec)

/-- 'laws.FnExactLatestDeparture', WHERE WHAT IT READS IS OF BULK AT MOST 1048576: true; the input reads as it did. -/
def fnExactLatestDepartureUptoRow : OpenClaim := { program := "ytddnemmdlijgiaa", sum := "a0cedc4461197c00418c493d11f864498c2d81334931573d53e82a7d5c79515c", func := "loop.example/g00935/laws.FnExactLatestDeparture", spec := "fnExactLatestDeparture", unfollowed := true, recurses := true, apart := false, narrowed := true }
def FnExactLatestDepartureUptoSaid : Prop := fnExactLatestDepartureUptoRow.holds Try.pinned (OpenSpec.upto fnExactLatestDepartureSpec)

/-- 'laws.FnExactEarliestArrival', WHERE WHAT IT READS IS OF BULK AT MOST 1048576: true; the input reads as it did. -/
def fnExactEarliestArrivalUptoRow : OpenClaim := { program := "ytddnemmdlijgiaa", sum := "a0cedc4461197c00418c493d11f864498c2d81334931573d53e82a7d5c79515c", func := "loop.example/g00935/laws.FnExactEarliestArrival", spec := "fnExactEarliestArrival", unfollowed := true, recurses := true, apart := false, narrowed := true }
def FnExactEarliestArrivalUptoSaid : Prop := fnExactEarliestArrivalUptoRow.holds Try.pinned (OpenSpec.upto fnExactEarliestArrivalSpec)

/-- 'laws.FnExactFewestRides', WHERE WHAT IT READS IS OF BULK AT MOST 1048576: true; the input reads as it did. -/
def fnExactFewestRidesUptoRow : OpenClaim := { program := "ytddnemmdlijgiaa", sum := "a0cedc4461197c00418c493d11f864498c2d81334931573d53e82a7d5c79515c", func := "loop.example/g00935/laws.FnExactFewestRides", spec := "fnExactFewestRides", unfollowed := true, recurses := true, apart := false, narrowed := true }
def FnExactFewestRidesUptoSaid : Prop := fnExactFewestRidesUptoRow.holds Try.pinned (OpenSpec.upto fnExactFewestRidesSpec)

/-- 'laws.FnExactLastDescents', WHERE WHAT IT READS IS OF BULK AT MOST 1048576: true; the input reads as it did. -/
def fnExactLastDescentsUptoRow : OpenClaim := { program := "ytddnemmdlijgiaa", sum := "a0cedc4461197c00418c493d11f864498c2d81334931573d53e82a7d5c79515c", func := "loop.example/g00935/laws.FnExactLastDescents", spec := "fnExactLastDescents", unfollowed := true, recurses := true, apart := false, narrowed := true }
def FnExactLastDescentsUptoSaid : Prop := fnExactLastDescentsUptoRow.holds Try.pinned (OpenSpec.upto fnExactLastDescentsSpec)

/-- 'laws.FnExactStrandedRides', WHERE WHAT IT READS IS OF BULK AT MOST 1048576: true; the input reads as it did. -/
def fnExactStrandedRidesUptoRow : OpenClaim := { program := "ytddnemmdlijgiaa", sum := "a0cedc4461197c00418c493d11f864498c2d81334931573d53e82a7d5c79515c", func := "loop.example/g00935/laws.FnExactStrandedRides", spec := "fnExactStrandedRides", unfollowed := true, recurses := true, apart := false, narrowed := true }
def FnExactStrandedRidesUptoSaid : Prop := fnExactStrandedRidesUptoRow.holds Try.pinned (OpenSpec.upto fnExactStrandedRidesSpec)

/-- 'laws.FnExactReachedBy', WHERE WHAT IT READS IS OF BULK AT MOST 1048576: true; the input reads as it did. -/
def fnExactReachedByUptoRow : OpenClaim := { program := "ytddnemmdlijgiaa", sum := "a0cedc4461197c00418c493d11f864498c2d81334931573d53e82a7d5c79515c", func := "loop.example/g00935/laws.FnExactReachedBy", spec := "fnExactReachedBy", unfollowed := true, recurses := true, apart := false, narrowed := true }
def FnExactReachedByUptoSaid : Prop := fnExactReachedByUptoRow.holds Try.pinned (OpenSpec.upto fnExactReachedBySpec)

/-- 'laws.FnTimetables', WHERE WHAT IT READS IS OF BULK AT MOST 1048576: true; the input reads as it did. -/
def fnTimetablesUptoRow : OpenClaim := { program := "ytddnemmdlijgiaa", sum := "a0cedc4461197c00418c493d11f864498c2d81334931573d53e82a7d5c79515c", func := "loop.example/g00935/laws.FnTimetables", spec := "fnTimetables", unfollowed := true, recurses := true, apart := false, narrowed := true }
def FnTimetablesUptoSaid : Prop := fnTimetablesUptoRow.holds Try.pinned (OpenSpec.upto fnTimetablesSpec)

/-- 'laws.FnDescents', WHERE WHAT IT READS IS OF BULK AT MOST 1048576: true; the input reads as it did. -/
def fnDescentsUptoRow : OpenClaim := { program := "ytddnemmdlijgiaa", sum := "a0cedc4461197c00418c493d11f864498c2d81334931573d53e82a7d5c79515c", func := "loop.example/g00935/laws.FnDescents", spec := "fnDescents", unfollowed := true, recurses := true, apart := false, narrowed := true }
def FnDescentsUptoSaid : Prop := fnDescentsUptoRow.holds Try.pinned (OpenSpec.upto fnDescentsSpec)

end Rows
end Go.Proofs.Ytddnemmdlijgiaa
