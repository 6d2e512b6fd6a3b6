/-
  No cell of these rows narrows 'for every input' (looked for: loops, veiled, ifaces, maps, wideKeys, modest, calm, conditions, laid).
  DERIVED. THE GIVEN ROWS OF THIS SEAT. 7 by the template 'for every input the law returns true; each argument reads behind the call as it read before'; 0 by the template 'total and deterministic' (their statements: YtjlgembpaalijaaTotals.lean).
  GIVEN WITH THE SEED: the statements are not yours to turn. If you find one false, say at which input.
  Laid BY PROGRAM, IN A SANDBOX (cutbox-rows.mjs): the forced cells as the released guide's own fill.sh prints them over the translation 6eb7f7343d2b1f40… (all of the seat's roots in one cut). By AI agents, Wed Nov 11 2026. No macro, syntax, notation, axiom, sorry.
-/
import Derived.Test.YtjlgembpaalijaaChecked
import GoSem.Claim
import GoSem.ClaimJoined
import GoSem.ClaimMapViews
import Derived.JoinedTies
import Derived.KernelRfl
namespace Go.Proofs.Ytjlgembpaalijaa
/- THE CELL 'sum', in the pinned program and in every row, IS THE sha256 OF THE DUMP (.gsa) THAT YtjlgembpaalijaaProg.lean LOADS. Nothing in Lean hashes anything: it is a label: what it is worth is what the hold of that sum in a sandbox is worth. -/
noncomputable def Try.pinned : Pinned := { name := "ytjlgembpaalijaa", sum := "6eb7f7343d2b1f40c3249809ff213fed19e44b3690f5702e6517b20530a4e436", checked := Try.checked }
namespace Rows
def none {H : Type} : Left H := { results := [], args := [] }

/-- 'laws.FnExactIsBattery': WHATEVER THE INPUT: true; the input reads as it did. -/
def fnExactIsBatterySpec : ChangeSpec := { name := "fnExactIsBattery", fn := fun _ => fun
  | [d] => { results := [.lit (.bool true)], args := [d] }
  | _ => none }
def fnExactIsBatteryRow : OpenClaim := { program := "ytjlgembpaalijaa", sum := "6eb7f7343d2b1f40c3249809ff213fed19e44b3690f5702e6517b20530a4e436", func := "loop.example/g00935/laws.FnExactIsBattery", spec := "fnExactIsBattery", apart := false }
def FnExactIsBatterySaid : Prop := fnExactIsBatteryRow.holds Try.pinned (OpenSpec.ofChange fnExactIsBatterySpec)

/-- ITS FALSE NEIGHBOUR: 'it returns false'. Refute it at one input. -/
def fnExactIsBatteryWrong : ChangeSpec := { name := "fnExactIsBattery", fn := fun _ => fun
  | [d] => { results := [.lit (.bool false)], args := [d] }
  | _ => none }
def FnExactIsBatteryWrongFalsely : Prop := fnExactIsBatteryRow.holds Try.pinned (OpenSpec.ofChange fnExactIsBatteryWrong)

/-- 'laws.FnExactMinutesLeft': WHATEVER THE INPUT: true; the input reads as it did. -/
def fnExactMinutesLeftSpec : ChangeSpec := { name := "fnExactMinutesLeft", fn := fun _ => fun
  | [d1, d2] => { results := [.lit (.bool true)], args := [d1, d2] }
  | _ => none }
def fnExactMinutesLeftRow : OpenClaim := { program := "ytjlgembpaalijaa", sum := "6eb7f7343d2b1f40c3249809ff213fed19e44b3690f5702e6517b20530a4e436", func := "loop.example/g00935/laws.FnExactMinutesLeft", spec := "fnExactMinutesLeft", apart := false }
def FnExactMinutesLeftSaid : Prop := fnExactMinutesLeftRow.holds Try.pinned (OpenSpec.ofChange fnExactMinutesLeftSpec)

/-- ITS FALSE NEIGHBOUR: 'it returns false'. Refute it at one input. -/
def fnExactMinutesLeftWrong : ChangeSpec := { name := "fnExactMinutesLeft", fn := fun _ => fun
  | [d1, d2] => { results := [.lit (.bool false)], args := [d1, d2] }
  | _ => none }
def FnExactMinutesLeftWrongFalsely : Prop := fnExactMinutesLeftRow.holds Try.pinned (OpenSpec.ofChange fnExactMinutesLeftWrong)

/-- 'laws.FnExactPutIn': WHATEVER THE INPUT: true; the input reads as it did. -/
def fnExactPutInSpec : ChangeSpec := { name := "fnExactPutIn", fn := fun _ => fun
  | [d1, d2, d3] => { results := [.lit (.bool true)], args := [d1, d2, d3] }
  | _ => none }
def fnExactPutInRow : OpenClaim := { program := "ytjlgembpaalijaa", sum := "6eb7f7343d2b1f40c3249809ff213fed19e44b3690f5702e6517b20530a4e436", func := "loop.example/g00935/laws.FnExactPutIn", spec := "fnExactPutIn", apart := false }
def FnExactPutInSaid : Prop := fnExactPutInRow.holds Try.pinned (OpenSpec.ofChange fnExactPutInSpec)

/-- ITS FALSE NEIGHBOUR: 'it returns false'. Refute it at one input. -/
def fnExactPutInWrong : ChangeSpec := { name := "fnExactPutIn", fn := fun _ => fun
  | [d1, d2, d3] => { results := [.lit (.bool false)], args := [d1, d2, d3] }
  | _ => none }
def FnExactPutInWrongFalsely : Prop := fnExactPutInRow.holds Try.pinned (OpenSpec.ofChange fnExactPutInWrong)

/-- 'laws.FnExactTakeOut': WHATEVER THE INPUT: true; the input reads as it did. -/
def fnExactTakeOutSpec : ChangeSpec := { name := "fnExactTakeOut", fn := fun _ => fun
  | [d1, d2, d3] => { results := [.lit (.bool true)], args := [d1, d2, d3] }
  | _ => none }
def fnExactTakeOutRow : OpenClaim := { program := "ytjlgembpaalijaa", sum := "6eb7f7343d2b1f40c3249809ff213fed19e44b3690f5702e6517b20530a4e436", func := "loop.example/g00935/laws.FnExactTakeOut", spec := "fnExactTakeOut", apart := false }
def FnExactTakeOutSaid : Prop := fnExactTakeOutRow.holds Try.pinned (OpenSpec.ofChange fnExactTakeOutSpec)

/-- ITS FALSE NEIGHBOUR: 'it returns false'. Refute it at one input. -/
def fnExactTakeOutWrong : ChangeSpec := { name := "fnExactTakeOut", fn := fun _ => fun
  | [d1, d2, d3] => { results := [.lit (.bool false)], args := [d1, d2, d3] }
  | _ => none }
def FnExactTakeOutWrongFalsely : Prop := fnExactTakeOutRow.holds Try.pinned (OpenSpec.ofChange fnExactTakeOutWrong)

/-- 'laws.FnExactPeakOf': WHATEVER THE INPUT: true; the input reads as it did. -/
def fnExactPeakOfSpec : ChangeSpec := { name := "fnExactPeakOf", fn := fun _ => fun
  | [d1, d2] => { results := [.lit (.bool true)], args := [d1, d2] }
  | _ => none }
def fnExactPeakOfRow : OpenClaim := { program := "ytjlgembpaalijaa", sum := "6eb7f7343d2b1f40c3249809ff213fed19e44b3690f5702e6517b20530a4e436", func := "loop.example/g00935/laws.FnExactPeakOf", spec := "fnExactPeakOf", apart := false }
def FnExactPeakOfSaid : Prop := fnExactPeakOfRow.holds Try.pinned (OpenSpec.ofChange fnExactPeakOfSpec)

/-- ITS FALSE NEIGHBOUR: 'it returns false'. Refute it at one input. -/
def fnExactPeakOfWrong : ChangeSpec := { name := "fnExactPeakOf", fn := fun _ => fun
  | [d1, d2] => { results := [.lit (.bool false)], args := [d1, d2] }
  | _ => none }
def FnExactPeakOfWrongFalsely : Prop := fnExactPeakOfRow.holds Try.pinned (OpenSpec.ofChange fnExactPeakOfWrong)

/-- 'laws.FnExactAreConsumers': WHATEVER THE INPUT: true; the input reads as it did. -/
def fnExactAreConsumersSpec : ChangeSpec := { name := "fnExactAreConsumers", fn := fun _ => fun
  | [d] => { results := [.lit (.bool true)], args := [d] }
  | _ => none }
def fnExactAreConsumersRow : OpenClaim := { program := "ytjlgembpaalijaa", sum := "6eb7f7343d2b1f40c3249809ff213fed19e44b3690f5702e6517b20530a4e436", func := "loop.example/g00935/laws.FnExactAreConsumers", spec := "fnExactAreConsumers", unfollowed := true, recurses := true, apart := false }
def FnExactAreConsumersSaid : Prop := fnExactAreConsumersRow.holds Try.pinned (OpenSpec.ofChange fnExactAreConsumersSpec)

/-- ITS FALSE NEIGHBOUR: 'it returns false'. Refute it at one input. -/
def fnExactAreConsumersWrong : ChangeSpec := { name := "fnExactAreConsumers", fn := fun _ => fun
  | [d] => { results := [.lit (.bool false)], args := [d] }
  | _ => none }
def FnExactAreConsumersWrongFalsely : Prop := fnExactAreConsumersRow.holds Try.pinned (OpenSpec.ofChange fnExactAreConsumersWrong)

/-- 'laws.FnExactEmergencyLoad': WHATEVER THE INPUT: true; the input reads as it did. -/
def fnExactEmergencyLoadSpec : ChangeSpec := { name := "fnExactEmergencyLoad", fn := fun _ => fun
  | [d1, d2] => { results := [.lit (.bool true)], args := [d1, d2] }
  | _ => none }
def fnExactEmergencyLoadRow : OpenClaim := { program := "ytjlgembpaalijaa", sum := "6eb7f7343d2b1f40c3249809ff213fed19e44b3690f5702e6517b20530a4e436", func := "loop.example/g00935/laws.FnExactEmergencyLoad", spec := "fnExactEmergencyLoad", unfollowed := true, recurses := true, apart := false }
def FnExactEmergencyLoadSaid : Prop := fnExactEmergencyLoadRow.holds Try.pinned (OpenSpec.ofChange fnExactEmergencyLoadSpec)

/-- ITS FALSE NEIGHBOUR: 'it returns false'. Refute it at one input. -/
def fnExactEmergencyLoadWrong : ChangeSpec := { name := "fnExactEmergencyLoad", fn := fun _ => fun
  | [d1, d2] => { results := [.lit (.bool false)], args := [d1, d2] }
  | _ => none }
def FnExactEmergencyLoadWrongFalsely : Prop := fnExactEmergencyLoadRow.holds Try.pinned (OpenSpec.ofChange fnExactEmergencyLoadWrong)

/- THE SECOND FORM. 'bulk': how many values and letters a reading holds, each counted each time it is reached (what is shared counts as often as it is met; a slice's spare places count too). A statement '..UptoSaid' is the law's where the arguments, and the package variables that the reading takes, are together of bulk at most 1048576: NARROWER than '..Said'. Prove '..Said' where nothing that the law and all that it calls make is longer than what came in: it says more and counts as full. Else prove '..UptoSaid'. A law counts once. -/
mutual
def uptoBulk {H : Type} : DataW H → Nat
  | .lit (.string bytes) => bytes.length + 1
  | .lit _ => 1
  | .nil => 1
  | .ptr d => uptoBulk d + 1
  | .slice elems spare => uptoBulkAll elems + uptoBulkAll spare + 1
  | .agg parts => uptoBulkAll parts + 1
  | .iface _ d => uptoBulk d + 1
  | .map entries => uptoBulkEntries entries + 1
  | .held _ => 1
def uptoBulkAll {H : Type} : List (DataW H) → Nat
  | [] => 0
  | d :: r => uptoBulk d + uptoBulkAll r
def uptoBulkEntries {H : Type} : List (Lit × DataW H) → Nat
  | [] => 0
  | x :: r => uptoBulkEntry x + uptoBulkEntries r
def uptoBulkEntry {H : Type} : Lit × DataW H → Nat
  | (.string bytes, d) => bytes.length + uptoBulk d + 1
  | (_, d) => uptoBulk d + 1
 end
def uptoSmall : (H : Type) → List (DataW H) → Bool := fun _ ds => decide (uptoBulkAll ds ≤ 1048576)
def OpenSpec.upto (s : _root_.Go.ChangeSpec) : _root_.Go.OpenSpec := { _root_.Go.OpenSpec.ofChange s with cond := some uptoSmall }

/-- 'laws.FnExactIsBattery', WHERE WHAT IT READS IS OF BULK AT MOST 1048576: true; the input reads as it did. -/
def fnExactIsBatteryUptoRow : OpenClaim := { program := "ytjlgembpaalijaa", sum := "6eb7f7343d2b1f40c3249809ff213fed19e44b3690f5702e6517b20530a4e436", func := "loop.example/g00935/laws.FnExactIsBattery", spec := "fnExactIsBattery", apart := false, narrowed := true }
def FnExactIsBatteryUptoSaid : Prop := fnExactIsBatteryUptoRow.holds Try.pinned (OpenSpec.upto fnExactIsBatterySpec)

/-- 'laws.FnExactMinutesLeft', WHERE WHAT IT READS IS OF BULK AT MOST 1048576: true; the input reads as it did. -/
def fnExactMinutesLeftUptoRow : OpenClaim := { program := "ytjlgembpaalijaa", sum := "6eb7f7343d2b1f40c3249809ff213fed19e44b3690f5702e6517b20530a4e436", func := "loop.example/g00935/laws.FnExactMinutesLeft", spec := "fnExactMinutesLeft", apart := false, narrowed := true }
def FnExactMinutesLeftUptoSaid : Prop := fnExactMinutesLeftUptoRow.holds Try.pinned (OpenSpec.upto fnExactMinutesLeftSpec)

/-- 'laws.FnExactPutIn', WHERE WHAT IT READS IS OF BULK AT MOST 1048576: true; the input reads as it did. -/
def fnExactPutInUptoRow : OpenClaim := { program := "ytjlgembpaalijaa", sum := "6eb7f7343d2b1f40c3249809ff213fed19e44b3690f5702e6517b20530a4e436", func := "loop.example/g00935/laws.FnExactPutIn", spec := "fnExactPutIn", apart := false, narrowed := true }
def FnExactPutInUptoSaid : Prop := fnExactPutInUptoRow.holds Try.pinned (OpenSpec.upto fnExactPutInSpec)

/-- 'laws.FnExactTakeOut', WHERE WHAT IT READS IS OF BULK AT MOST 1048576: true; the input reads as it did. -/
def fnExactTakeOutUptoRow : OpenClaim := { program := "ytjlgembpaalijaa", sum := "6eb7f7343d2b1f40c3249809ff213fed19e44b3690f5702e6517b20530a4e436", func := "loop.example/g00935/laws.FnExactTakeOut", spec := "fnExactTakeOut", apart := false, narrowed := true }
def FnExactTakeOutUptoSaid : Prop := fnExactTakeOutUptoRow.holds Try.pinned (OpenSpec.upto fnExactTakeOutSpec)

/-- 'laws.FnExactPeakOf', WHERE WHAT IT READS IS OF BULK AT MOST 1048576: true; the input reads as it did. -/
def fnExactPeakOfUptoRow : OpenClaim := { program := "ytjlgembpaalijaa", sum := "6eb7f7343d2b1f40c3249809ff213fed19e44b3690f5702e6517b20530a4e436", func := "loop.example/g00935/laws.FnExactPeakOf", spec := "fnExactPeakOf", apart := false, narrowed := true }
def FnExactPeakOfUptoSaid : Prop := fnExactPeakOfUptoRow.holds Try.pinned (OpenSpec.upto fnExactPeakOfSpec)

/-- 'laws.FnExactAreConsumers', WHERE WHAT IT READS IS OF BULK AT MOST 1048576: true; the input reads as it did. -/
def fnExactAreConsumersUptoRow : OpenClaim := { program := "ytjlgembpaalijaa", sum := "6eb7f7343d2b1f40c3249809ff213fed19e44b3690f5702e6517b20530a4e436", func := "loop.example/g00935/laws.FnExactAreConsumers", spec := "fnExactAreConsumers", unfollowed := true, recurses := true, apart := false, narrowed := true }
def FnExactAreConsumersUptoSaid : Prop := fnExactAreConsumersUptoRow.holds Try.pinned (OpenSpec.upto fnExactAreConsumersSpec)

/-- 'laws.FnExactEmergencyLoad', WHERE WHAT IT READS IS OF BULK AT MOST 1048576: true; the input reads as it did. -/
def fnExactEmergencyLoadUptoRow : OpenClaim := { program := "ytjlgembpaalijaa", sum := "6eb7f7343d2b1f40c3249809ff213fed19e44b3690f5702e6517b20530a4e436", func := "loop.example/g00935/laws.FnExactEmergencyLoad", spec := "fnExactEmergencyLoad", unfollowed := true, recurses := true, apart := false, narrowed := true }
def FnExactEmergencyLoadUptoSaid : Prop := fnExactEmergencyLoadUptoRow.holds Try.pinned (OpenSpec.upto fnExactEmergencyLoadSpec)

end Rows
end Go.Proofs.Ytjlgembpaalijaa
