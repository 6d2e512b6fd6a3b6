/-
  No cell of these rows narrows 'for every input' (looked for: loops, veiled, ifaces, maps, wideKeys, modest, calm, conditions, laid).
  DERIVED. THE GIVEN ROWS OF THIS SEAT. 7 by the template 'for every input the law returns true; each argument reads behind the call as it read before'; 0 by the template 'total and deterministic' (their statements: YtccdbdkpjcehjaaTotals.lean).
  GIVEN WITH THE SEED: the statements are not yours to turn. If you find one false, say at which input.
  Laid BY PROGRAM, IN A SANDBOX (cutbox-rows.mjs): the forced cells as the released guide's own fill.sh prints them over the translation 9d08b9d4beeb579c… (all of the seat's roots in one cut). By AI agents, Wed Nov 11 2026. No macro, syntax, notation, axiom, sorry.
-/
import Derived.Test.YtccdbdkpjcehjaaChecked
import GoSem.Claim
import GoSem.ClaimJoined
import GoSem.ClaimMapViews
import Derived.JoinedTies
import Derived.KernelRfl
namespace Go.Proofs.Ytccdbdkpjcehjaa
/- THE CELL 'sum', in the pinned program and in every row, IS THE sha256 OF THE DUMP (.gsa) THAT YtccdbdkpjcehjaaProg.lean LOADS. Nothing in Lean hashes anything: it is a label: what it is worth is what the hold of that sum in a sandbox is worth. -/
noncomputable def Try.pinned : Pinned := { name := "ytccdbdkpjcehjaa", sum := "9d08b9d4beeb579ce98e681470f858f5b5d6a4bad0e8808e9c95e082fa75f934", checked := Try.checked }
namespace Rows
def none {H : Type} : Left H := { results := [], args := [] }

/-- 'laws.FnExactIsWeather': WHATEVER THE INPUT: true; the input reads as it did. -/
def fnExactIsWeatherSpec : ChangeSpec := { name := "fnExactIsWeather", fn := fun _ => fun
  | [d] => { results := [.lit (.bool true)], args := [d] }
  | _ => none }
def fnExactIsWeatherRow : OpenClaim := { program := "ytccdbdkpjcehjaa", sum := "9d08b9d4beeb579ce98e681470f858f5b5d6a4bad0e8808e9c95e082fa75f934", func := "loop.example/g00935/laws.FnExactIsWeather", spec := "fnExactIsWeather", apart := false }
def FnExactIsWeatherSaid : Prop := fnExactIsWeatherRow.holds Try.pinned (OpenSpec.ofChange fnExactIsWeatherSpec)

/-- ITS FALSE NEIGHBOUR: 'it returns false'. Refute it at one input. -/
def fnExactIsWeatherWrong : ChangeSpec := { name := "fnExactIsWeather", fn := fun _ => fun
  | [d] => { results := [.lit (.bool false)], args := [d] }
  | _ => none }
def FnExactIsWeatherWrongFalsely : Prop := fnExactIsWeatherRow.holds Try.pinned (OpenSpec.ofChange fnExactIsWeatherWrong)

/-- 'laws.FnExactAreRecords': WHATEVER THE INPUT: true; the input reads as it did. -/
def fnExactAreRecordsSpec : ChangeSpec := { name := "fnExactAreRecords", fn := fun _ => fun
  | [d] => { results := [.lit (.bool true)], args := [d] }
  | _ => none }
def fnExactAreRecordsRow : OpenClaim := { program := "ytccdbdkpjcehjaa", sum := "9d08b9d4beeb579ce98e681470f858f5b5d6a4bad0e8808e9c95e082fa75f934", func := "loop.example/g00935/laws.FnExactAreRecords", spec := "fnExactAreRecords", apart := false }
def FnExactAreRecordsSaid : Prop := fnExactAreRecordsRow.holds Try.pinned (OpenSpec.ofChange fnExactAreRecordsSpec)

/-- ITS FALSE NEIGHBOUR: 'it returns false'. Refute it at one input. -/
def fnExactAreRecordsWrong : ChangeSpec := { name := "fnExactAreRecords", fn := fun _ => fun
  | [d] => { results := [.lit (.bool false)], args := [d] }
  | _ => none }
def FnExactAreRecordsWrongFalsely : Prop := fnExactAreRecordsRow.holds Try.pinned (OpenSpec.ofChange fnExactAreRecordsWrong)

/-- 'laws.FnExactColdestRecord': WHATEVER THE INPUT: true; the input reads as it did. -/
def fnExactColdestRecordSpec : ChangeSpec := { name := "fnExactColdestRecord", fn := fun _ => fun
  | [d] => { results := [.lit (.bool true)], args := [d] }
  | _ => none }
def fnExactColdestRecordRow : OpenClaim := { program := "ytccdbdkpjcehjaa", sum := "9d08b9d4beeb579ce98e681470f858f5b5d6a4bad0e8808e9c95e082fa75f934", func := "loop.example/g00935/laws.FnExactColdestRecord", spec := "fnExactColdestRecord", apart := false }
def FnExactColdestRecordSaid : Prop := fnExactColdestRecordRow.holds Try.pinned (OpenSpec.ofChange fnExactColdestRecordSpec)

/-- ITS FALSE NEIGHBOUR: 'it returns false'. Refute it at one input. -/
def fnExactColdestRecordWrong : ChangeSpec := { name := "fnExactColdestRecord", fn := fun _ => fun
  | [d] => { results := [.lit (.bool false)], args := [d] }
  | _ => none }
def FnExactColdestRecordWrongFalsely : Prop := fnExactColdestRecordRow.holds Try.pinned (OpenSpec.ofChange fnExactColdestRecordWrong)

/-- 'laws.FnExactStormsOver': WHATEVER THE INPUT: true; the input reads as it did. -/
def fnExactStormsOverSpec : ChangeSpec := { name := "fnExactStormsOver", fn := fun _ => fun
  | [d1, d2, d3] => { results := [.lit (.bool true)], args := [d1, d2, d3] }
  | _ => none }
def fnExactStormsOverRow : OpenClaim := { program := "ytccdbdkpjcehjaa", sum := "9d08b9d4beeb579ce98e681470f858f5b5d6a4bad0e8808e9c95e082fa75f934", func := "loop.example/g00935/laws.FnExactStormsOver", spec := "fnExactStormsOver", apart := false }
def FnExactStormsOverSaid : Prop := fnExactStormsOverRow.holds Try.pinned (OpenSpec.ofChange fnExactStormsOverSpec)

/-- ITS FALSE NEIGHBOUR: 'it returns false'. Refute it at one input. -/
def fnExactStormsOverWrong : ChangeSpec := { name := "fnExactStormsOver", fn := fun _ => fun
  | [d1, d2, d3] => { results := [.lit (.bool false)], args := [d1, d2, d3] }
  | _ => none }
def FnExactStormsOverWrongFalsely : Prop := fnExactStormsOverRow.holds Try.pinned (OpenSpec.ofChange fnExactStormsOverWrong)

/-- 'laws.FnExactStrongestWind': WHATEVER THE INPUT: true; the input reads as it did. -/
def fnExactStrongestWindSpec : ChangeSpec := { name := "fnExactStrongestWind", fn := fun _ => fun
  | [d1, d2, d3] => { results := [.lit (.bool true)], args := [d1, d2, d3] }
  | _ => none }
def fnExactStrongestWindRow : OpenClaim := { program := "ytccdbdkpjcehjaa", sum := "9d08b9d4beeb579ce98e681470f858f5b5d6a4bad0e8808e9c95e082fa75f934", func := "loop.example/g00935/laws.FnExactStrongestWind", spec := "fnExactStrongestWind", apart := false }
def FnExactStrongestWindSaid : Prop := fnExactStrongestWindRow.holds Try.pinned (OpenSpec.ofChange fnExactStrongestWindSpec)

/-- ITS FALSE NEIGHBOUR: 'it returns false'. Refute it at one input. -/
def fnExactStrongestWindWrong : ChangeSpec := { name := "fnExactStrongestWind", fn := fun _ => fun
  | [d1, d2, d3] => { results := [.lit (.bool false)], args := [d1, d2, d3] }
  | _ => none }
def FnExactStrongestWindWrongFalsely : Prop := fnExactStrongestWindRow.holds Try.pinned (OpenSpec.ofChange fnExactStrongestWindWrong)

/-- 'laws.FnExactIcyMinutes': WHATEVER THE INPUT: true; the input reads as it did. -/
def fnExactIcyMinutesSpec : ChangeSpec := { name := "fnExactIcyMinutes", fn := fun _ => fun
  | [d] => { results := [.lit (.bool true)], args := [d] }
  | _ => none }
def fnExactIcyMinutesRow : OpenClaim := { program := "ytccdbdkpjcehjaa", sum := "9d08b9d4beeb579ce98e681470f858f5b5d6a4bad0e8808e9c95e082fa75f934", func := "loop.example/g00935/laws.FnExactIcyMinutes", spec := "fnExactIcyMinutes", apart := false }
def FnExactIcyMinutesSaid : Prop := fnExactIcyMinutesRow.holds Try.pinned (OpenSpec.ofChange fnExactIcyMinutesSpec)

/-- ITS FALSE NEIGHBOUR: 'it returns false'. Refute it at one input. -/
def fnExactIcyMinutesWrong : ChangeSpec := { name := "fnExactIcyMinutes", fn := fun _ => fun
  | [d] => { results := [.lit (.bool false)], args := [d] }
  | _ => none }
def FnExactIcyMinutesWrongFalsely : Prop := fnExactIcyMinutesRow.holds Try.pinned (OpenSpec.ofChange fnExactIcyMinutesWrong)

/-- 'laws.FnExactCalmSpans': WHATEVER THE INPUT: true; the input reads as it did. -/
def fnExactCalmSpansSpec : ChangeSpec := { name := "fnExactCalmSpans", fn := fun _ => fun
  | [d1, d2] => { results := [.lit (.bool true)], args := [d1, d2] }
  | _ => none }
def fnExactCalmSpansRow : OpenClaim := { program := "ytccdbdkpjcehjaa", sum := "9d08b9d4beeb579ce98e681470f858f5b5d6a4bad0e8808e9c95e082fa75f934", func := "loop.example/g00935/laws.FnExactCalmSpans", spec := "fnExactCalmSpans", apart := false }
def FnExactCalmSpansSaid : Prop := fnExactCalmSpansRow.holds Try.pinned (OpenSpec.ofChange fnExactCalmSpansSpec)

/-- ITS FALSE NEIGHBOUR: 'it returns false'. Refute it at one input. -/
def fnExactCalmSpansWrong : ChangeSpec := { name := "fnExactCalmSpans", fn := fun _ => fun
  | [d1, d2] => { results := [.lit (.bool false)], args := [d1, d2] }
  | _ => none }
def FnExactCalmSpansWrongFalsely : Prop := fnExactCalmSpansRow.holds Try.pinned (OpenSpec.ofChange fnExactCalmSpansWrong)

/- THE SECOND FORM. 'bulk': how many values and letters a reading holds, each counted each time it is reached (what is shared counts as often as it is met; a slice's spare places count too). A statement '..UptoSaid' is the law's where the arguments, and the package variables that the reading takes, are together of bulk at most 1048576: NARROWER than '..Said'. Prove '..Said' where nothing that the law and all that it calls make is longer than what came in: it says more and counts as full. Else prove '..UptoSaid'. A law counts once. -/
mutual
def uptoBulk {H : Type} : DataW H → Nat
  | .lit (.string bytes) => bytes.length + 1
  | .lit _ => 1
  | .nil => 1
  | .ptr d => uptoBulk d + 1
  | .slice elems spare => uptoBulkAll elems + uptoBulkAll spare + 1
  | .agg parts => uptoBulkAll parts + 1
  | .iface _ d => uptoBulk d + 1
  | .map entries => uptoBulkEntries entries + 1
  | .held _ => 1
def uptoBulkAll {H : Type} : List (DataW H) → Nat
  | [] => 0
  | d :: r => uptoBulk d + uptoBulkAll r
def uptoBulkEntries {H : Type} : List (Lit × DataW H) → Nat
  | [] => 0
  | x :: r => uptoBulkEntry x + uptoBulkEntries r
def uptoBulkEntry {H : Type} : Lit × DataW H → Nat
  | (.string bytes, d) => bytes.length + uptoBulk d + 1
  | (_, d) => uptoBulk d + 1
 end
def uptoSmall : (H : Type) → List (DataW H) → Bool := fun _ ds => decide (uptoBulkAll ds ≤ 1048576)
def OpenSpec.upto (s : _root_.Go.ChangeSpec) : _root_.Go.OpenSpec := { _root_.Go.OpenSpec.ofChange s with cond := some uptoSmall }

/-- 'laws.FnExactIsWeather', WHERE WHAT IT READS IS OF BULK AT MOST 1048576: true; the input reads as it did. -/
def fnExactIsWeatherUptoRow : OpenClaim := { program := "ytccdbdkpjcehjaa", sum := "9d08b9d4beeb579ce98e681470f858f5b5d6a4bad0e8808e9c95e082fa75f934", func := "loop.example/g00935/laws.FnExactIsWeather", spec := "fnExactIsWeather", apart := false, narrowed := true }
def FnExactIsWeatherUptoSaid : Prop := fnExactIsWeatherUptoRow.holds Try.pinned (OpenSpec.upto fnExactIsWeatherSpec)

/-- 'laws.FnExactAreRecords', WHERE WHAT IT READS IS OF BULK AT MOST 1048576: true; the input reads as it did. -/
def fnExactAreRecordsUptoRow : OpenClaim := { program := "ytccdbdkpjcehjaa", sum := "9d08b9d4beeb579ce98e681470f858f5b5d6a4bad0e8808e9c95e082fa75f934", func := "loop.example/g00935/laws.FnExactAreRecords", spec := "fnExactAreRecords", apart := false, narrowed := true }
def FnExactAreRecordsUptoSaid : Prop := fnExactAreRecordsUptoRow.holds Try.pinned (OpenSpec.upto fnExactAreRecordsSpec)

/-- 'laws.FnExactColdestRecord', WHERE WHAT IT READS IS OF BULK AT MOST 1048576: true; the input reads as it did. -/
def fnExactColdestRecordUptoRow : OpenClaim := { program := "ytccdbdkpjcehjaa", sum := "9d08b9d4beeb579ce98e681470f858f5b5d6a4bad0e8808e9c95e082fa75f934", func := "loop.example/g00935/laws.FnExactColdestRecord", spec := "fnExactColdestRecord", apart := false, narrowed := true }
def FnExactColdestRecordUptoSaid : Prop := fnExactColdestRecordUptoRow.holds Try.pinned (OpenSpec.upto fnExactColdestRecordSpec)

/-- 'laws.FnExactStormsOver', WHERE WHAT IT READS IS OF BULK AT MOST 1048576: true; the input reads as it did. -/
def fnExactStormsOverUptoRow : OpenClaim := { program := "ytccdbdkpjcehjaa", sum := "9d08b9d4beeb579ce98e681470f858f5b5d6a4bad0e8808e9c95e082fa75f934", func := "loop.example/g00935/laws.FnExactStormsOver", spec := "fnExactStormsOver", apart := false, narrowed := true }
def FnExactStormsOverUptoSaid : Prop := fnExactStormsOverUptoRow.holds Try.pinned (OpenSpec.upto fnExactStormsOverSpec)

/-- 'laws.FnExactStrongestWind', WHERE WHAT IT READS IS OF BULK AT MOST 1048576: true; the input reads as it did. -/
def fnExactStrongestWindUptoRow : OpenClaim := { program := "ytccdbdkpjcehjaa", sum := "9d08b9d4beeb579ce98e681470f858f5b5d6a4bad0e8808e9c95e082fa75f934", func := "loop.example/g00935/laws.FnExactStrongestWind", spec := "fnExactStrongestWind", apart := false, narrowed := true }
def FnExactStrongestWindUptoSaid : Prop := fnExactStrongestWindUptoRow.holds Try.pinned (OpenSpec.upto fnExactStrongestWindSpec)

/-- 'laws.FnExactIcyMinutes', WHERE WHAT IT READS IS OF BULK AT MOST 1048576: true; the input reads as it did. -/
def fnExactIcyMinutesUptoRow : OpenClaim := { program := "ytccdbdkpjcehjaa", sum := "9d08b9d4beeb579ce98e681470f858f5b5d6a4bad0e8808e9c95e082fa75f934", func := "loop.example/g00935/laws.FnExactIcyMinutes", spec := "fnExactIcyMinutes", apart := false, narrowed := true }
def FnExactIcyMinutesUptoSaid : Prop := fnExactIcyMinutesUptoRow.holds Try.pinned (OpenSpec.upto fnExactIcyMinutesSpec)

/-- 'laws.FnExactCalmSpans', WHERE WHAT IT READS IS OF BULK AT MOST 1048576: true; the input reads as it did. -/
def fnExactCalmSpansUptoRow : OpenClaim := { program := "ytccdbdkpjcehjaa", sum := "9d08b9d4beeb579ce98e681470f858f5b5d6a4bad0e8808e9c95e082fa75f934", func := "loop.example/g00935/laws.FnExactCalmSpans", spec := "fnExactCalmSpans", apart := false, narrowed := true }
def FnExactCalmSpansUptoSaid : Prop := fnExactCalmSpansUptoRow.holds Try.pinned (OpenSpec.upto fnExactCalmSpansSpec)

end Rows
end Go.Proofs.Ytccdbdkpjcehjaa
