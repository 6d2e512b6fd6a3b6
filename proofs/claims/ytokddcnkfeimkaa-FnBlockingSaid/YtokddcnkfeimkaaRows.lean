/-
  No cell of these rows narrows 'for every input' (looked for: loops, veiled, ifaces, maps, wideKeys, modest, calm, conditions, laid).
  DERIVED. THE GIVEN ROWS OF THIS SEAT. 11 by the template 'for every input the law returns true; each argument reads behind the call as it read before'; 0 by the template 'total and deterministic' (their statements: YtokddcnkfeimkaaTotals.lean).
  GIVEN WITH THE SEED: the statements are not yours to turn. If you find one false, say at which input.
  Laid BY PROGRAM, IN A SANDBOX (cutbox-rows.mjs): the forced cells as the released guide's own fill.sh prints them over the translation f23647524594906a… (all of the seat's roots in one cut). By AI agents, Wed Nov 11 2026. No macro, syntax, notation, axiom, sorry.
-/
import Derived.Test.YtokddcnkfeimkaaChecked
import GoSem.Claim
import GoSem.ClaimJoined
import GoSem.ClaimMapViews
import Derived.JoinedTies
import Derived.KernelRfl
namespace Go.Proofs.Ytokddcnkfeimkaa
/- THE CELL 'sum', in the pinned program and in every row, IS THE sha256 OF THE DUMP (.gsa) THAT YtokddcnkfeimkaaProg.lean LOADS. Nothing in Lean hashes anything: it is a label: what it is worth is what the hold of that sum in a sandbox is worth. -/
noncomputable def Try.pinned : Pinned := { name := "ytokddcnkfeimkaa", sum := "f23647524594906acb898973b66bdbb858cb66f12e45f4472c87cc89718e72bc", checked := Try.checked }
namespace Rows
def none {H : Type} : Left H := { results := [], args := [] }

/-- 'laws.FnExactAreTasks': WHATEVER THE INPUT: true; the input reads as it did. -/
def fnExactAreTasksSpec : ChangeSpec := { name := "fnExactAreTasks", fn := fun _ => fun
  | [d] => { results := [.lit (.bool true)], args := [d] }
  | _ => none }
def fnExactAreTasksRow : OpenClaim := { program := "ytokddcnkfeimkaa", sum := "f23647524594906acb898973b66bdbb858cb66f12e45f4472c87cc89718e72bc", func := "loop.example/g00935/laws.FnExactAreTasks", spec := "fnExactAreTasks", apart := false }
def FnExactAreTasksSaid : Prop := fnExactAreTasksRow.holds Try.pinned (OpenSpec.ofChange fnExactAreTasksSpec)

/-- ITS FALSE NEIGHBOUR: 'it returns false'. Refute it at one input. -/
def fnExactAreTasksWrong : ChangeSpec := { name := "fnExactAreTasks", fn := fun _ => fun
  | [d] => { results := [.lit (.bool false)], args := [d] }
  | _ => none }
def FnExactAreTasksWrongFalsely : Prop := fnExactAreTasksRow.holds Try.pinned (OpenSpec.ofChange fnExactAreTasksWrong)

/-- 'laws.FnExactSlackOf': WHATEVER THE INPUT: true; the input reads as it did. -/
def fnExactSlackOfSpec : ChangeSpec := { name := "fnExactSlackOf", fn := fun _ => fun
  | [d1, d2] => { results := [.lit (.bool true)], args := [d1, d2] }
  | _ => none }
def fnExactSlackOfRow : OpenClaim := { program := "ytokddcnkfeimkaa", sum := "f23647524594906acb898973b66bdbb858cb66f12e45f4472c87cc89718e72bc", func := "loop.example/g00935/laws.FnExactSlackOf", spec := "fnExactSlackOf", apart := false }
def FnExactSlackOfSaid : Prop := fnExactSlackOfRow.holds Try.pinned (OpenSpec.ofChange fnExactSlackOfSpec)

/-- ITS FALSE NEIGHBOUR: 'it returns false'. Refute it at one input. -/
def fnExactSlackOfWrong : ChangeSpec := { name := "fnExactSlackOf", fn := fun _ => fun
  | [d1, d2] => { results := [.lit (.bool false)], args := [d1, d2] }
  | _ => none }
def FnExactSlackOfWrongFalsely : Prop := fnExactSlackOfRow.holds Try.pinned (OpenSpec.ofChange fnExactSlackOfWrong)

/-- 'laws.FnExactHasTaskPlan': WHATEVER THE INPUT: true; the input reads as it did. -/
def fnExactHasTaskPlanSpec : ChangeSpec := { name := "fnExactHasTaskPlan", fn := fun _ => fun
  | [d] => { results := [.lit (.bool true)], args := [d] }
  | _ => none }
def fnExactHasTaskPlanRow : OpenClaim := { program := "ytokddcnkfeimkaa", sum := "f23647524594906acb898973b66bdbb858cb66f12e45f4472c87cc89718e72bc", func := "loop.example/g00935/laws.FnExactHasTaskPlan", spec := "fnExactHasTaskPlan", recurses := true, apart := false }
def FnExactHasTaskPlanSaid : Prop := fnExactHasTaskPlanRow.holds Try.pinned (OpenSpec.ofChange fnExactHasTaskPlanSpec)

/-- ITS FALSE NEIGHBOUR: 'it returns false'. Refute it at one input. -/
def fnExactHasTaskPlanWrong : ChangeSpec := { name := "fnExactHasTaskPlan", fn := fun _ => fun
  | [d] => { results := [.lit (.bool false)], args := [d] }
  | _ => none }
def FnExactHasTaskPlanWrongFalsely : Prop := fnExactHasTaskPlanRow.holds Try.pinned (OpenSpec.ofChange fnExactHasTaskPlanWrong)

/-- 'laws.FnExactEarliestEnd': WHATEVER THE INPUT: true; the input reads as it did. -/
def fnExactEarliestEndSpec : ChangeSpec := { name := "fnExactEarliestEnd", fn := fun _ => fun
  | [d] => { results := [.lit (.bool true)], args := [d] }
  | _ => none }
def fnExactEarliestEndRow : OpenClaim := { program := "ytokddcnkfeimkaa", sum := "f23647524594906acb898973b66bdbb858cb66f12e45f4472c87cc89718e72bc", func := "loop.example/g00935/laws.FnExactEarliestEnd", spec := "fnExactEarliestEnd", recurses := true, apart := false }
def FnExactEarliestEndSaid : Prop := fnExactEarliestEndRow.holds Try.pinned (OpenSpec.ofChange fnExactEarliestEndSpec)

/-- ITS FALSE NEIGHBOUR: 'it returns false'. Refute it at one input. -/
def fnExactEarliestEndWrong : ChangeSpec := { name := "fnExactEarliestEnd", fn := fun _ => fun
  | [d] => { results := [.lit (.bool false)], args := [d] }
  | _ => none }
def FnExactEarliestEndWrongFalsely : Prop := fnExactEarliestEndRow.holds Try.pinned (OpenSpec.ofChange fnExactEarliestEndWrong)

/-- 'laws.FnExactIsTaskPlan': WHATEVER THE INPUT: true; the input reads as it did. -/
def fnExactIsTaskPlanSpec : ChangeSpec := { name := "fnExactIsTaskPlan", fn := fun _ => fun
  | [d1, d2] => { results := [.lit (.bool true)], args := [d1, d2] }
  | _ => none }
def fnExactIsTaskPlanRow : OpenClaim := { program := "ytokddcnkfeimkaa", sum := "f23647524594906acb898973b66bdbb858cb66f12e45f4472c87cc89718e72bc", func := "loop.example/g00935/laws.FnExactIsTaskPlan", spec := "fnExactIsTaskPlan", apart := false }
def FnExactIsTaskPlanSaid : Prop := fnExactIsTaskPlanRow.holds Try.pinned (OpenSpec.ofChange fnExactIsTaskPlanSpec)

/-- ITS FALSE NEIGHBOUR: 'it returns false'. Refute it at one input. -/
def fnExactIsTaskPlanWrong : ChangeSpec := { name := "fnExactIsTaskPlan", fn := fun _ => fun
  | [d1, d2] => { results := [.lit (.bool false)], args := [d1, d2] }
  | _ => none }
def FnExactIsTaskPlanWrongFalsely : Prop := fnExactIsTaskPlanRow.holds Try.pinned (OpenSpec.ofChange fnExactIsTaskPlanWrong)

/-- 'laws.FnExactBusyDays': WHATEVER THE INPUT: true; the input reads as it did. -/
def fnExactBusyDaysSpec : ChangeSpec := { name := "fnExactBusyDays", fn := fun _ => fun
  | [d1, d2, d3, d4] => { results := [.lit (.bool true)], args := [d1, d2, d3, d4] }
  | _ => none }
def fnExactBusyDaysRow : OpenClaim := { program := "ytokddcnkfeimkaa", sum := "f23647524594906acb898973b66bdbb858cb66f12e45f4472c87cc89718e72bc", func := "loop.example/g00935/laws.FnExactBusyDays", spec := "fnExactBusyDays", apart := false }
def FnExactBusyDaysSaid : Prop := fnExactBusyDaysRow.holds Try.pinned (OpenSpec.ofChange fnExactBusyDaysSpec)

/-- ITS FALSE NEIGHBOUR: 'it returns false'. Refute it at one input. -/
def fnExactBusyDaysWrong : ChangeSpec := { name := "fnExactBusyDays", fn := fun _ => fun
  | [d1, d2, d3, d4] => { results := [.lit (.bool false)], args := [d1, d2, d3, d4] }
  | _ => none }
def FnExactBusyDaysWrongFalsely : Prop := fnExactBusyDaysRow.holds Try.pinned (OpenSpec.ofChange fnExactBusyDaysWrong)

/-- 'laws.FnExactBlockingTasks': WHATEVER THE INPUT: true; the input reads as it did. -/
def fnExactBlockingTasksSpec : ChangeSpec := { name := "fnExactBlockingTasks", fn := fun _ => fun
  | [d] => { results := [.lit (.bool true)], args := [d] }
  | _ => none }
def fnExactBlockingTasksRow : OpenClaim := { program := "ytokddcnkfeimkaa", sum := "f23647524594906acb898973b66bdbb858cb66f12e45f4472c87cc89718e72bc", func := "loop.example/g00935/laws.FnExactBlockingTasks", spec := "fnExactBlockingTasks", recurses := true, apart := false }
def FnExactBlockingTasksSaid : Prop := fnExactBlockingTasksRow.holds Try.pinned (OpenSpec.ofChange fnExactBlockingTasksSpec)

/-- ITS FALSE NEIGHBOUR: 'it returns false'. Refute it at one input. -/
def fnExactBlockingTasksWrong : ChangeSpec := { name := "fnExactBlockingTasks", fn := fun _ => fun
  | [d] => { results := [.lit (.bool false)], args := [d] }
  | _ => none }
def FnExactBlockingTasksWrongFalsely : Prop := fnExactBlockingTasksRow.holds Try.pinned (OpenSpec.ofChange fnExactBlockingTasksWrong)

/-- 'laws.FnExactPlanByDue': WHATEVER THE INPUT: true; the input reads as it did. -/
def fnExactPlanByDueSpec : ChangeSpec := { name := "fnExactPlanByDue", fn := fun _ => fun
  | [d] => { results := [.lit (.bool true)], args := [d] }
  | _ => none }
def fnExactPlanByDueRow : OpenClaim := { program := "ytokddcnkfeimkaa", sum := "f23647524594906acb898973b66bdbb858cb66f12e45f4472c87cc89718e72bc", func := "loop.example/g00935/laws.FnExactPlanByDue", spec := "fnExactPlanByDue", apart := false }
def FnExactPlanByDueSaid : Prop := fnExactPlanByDueRow.holds Try.pinned (OpenSpec.ofChange fnExactPlanByDueSpec)

/-- ITS FALSE NEIGHBOUR: 'it returns false'. Refute it at one input. -/
def fnExactPlanByDueWrong : ChangeSpec := { name := "fnExactPlanByDue", fn := fun _ => fun
  | [d] => { results := [.lit (.bool false)], args := [d] }
  | _ => none }
def FnExactPlanByDueWrongFalsely : Prop := fnExactPlanByDueRow.holds Try.pinned (OpenSpec.ofChange fnExactPlanByDueWrong)

/-- 'laws.FnExactAddTask': WHATEVER THE INPUT: true; the input reads as it did. -/
def fnExactAddTaskSpec : ChangeSpec := { name := "fnExactAddTask", fn := fun _ => fun
  | [d1, d2] => { results := [.lit (.bool true)], args := [d1, d2] }
  | _ => none }
def fnExactAddTaskRow : OpenClaim := { program := "ytokddcnkfeimkaa", sum := "f23647524594906acb898973b66bdbb858cb66f12e45f4472c87cc89718e72bc", func := "loop.example/g00935/laws.FnExactAddTask", spec := "fnExactAddTask", inPlace := ["slices.overlaps[loop.example/g00935/impl.Task]"], unfollowed := true, recurses := true, apart := false }
def FnExactAddTaskSaid : Prop := fnExactAddTaskRow.holds Try.pinned (OpenSpec.ofChange fnExactAddTaskSpec)

/-- ITS FALSE NEIGHBOUR: 'it returns false'. Refute it at one input. -/
def fnExactAddTaskWrong : ChangeSpec := { name := "fnExactAddTask", fn := fun _ => fun
  | [d1, d2] => { results := [.lit (.bool false)], args := [d1, d2] }
  | _ => none }
def FnExactAddTaskWrongFalsely : Prop := fnExactAddTaskRow.holds Try.pinned (OpenSpec.ofChange fnExactAddTaskWrong)

/-- 'laws.FnTasks': WHATEVER THE INPUT: true; the input reads as it did. -/
def fnTasksSpec : ChangeSpec := { name := "fnTasks", fn := fun _ => fun
  | [d] => { results := [.lit (.bool true)], args := [d] }
  | _ => none }
def fnTasksRow : OpenClaim := { program := "ytokddcnkfeimkaa", sum := "f23647524594906acb898973b66bdbb858cb66f12e45f4472c87cc89718e72bc", func := "loop.example/g00935/laws.FnTasks", spec := "fnTasks", recurses := true, apart := false }
def FnTasksSaid : Prop := fnTasksRow.holds Try.pinned (OpenSpec.ofChange fnTasksSpec)

/-- ITS FALSE NEIGHBOUR: 'it returns false'. Refute it at one input. -/
def fnTasksWrong : ChangeSpec := { name := "fnTasks", fn := fun _ => fun
  | [d] => { results := [.lit (.bool false)], args := [d] }
  | _ => none }
def FnTasksWrongFalsely : Prop := fnTasksRow.holds Try.pinned (OpenSpec.ofChange fnTasksWrong)

/-- 'laws.FnBlocking': WHATEVER THE INPUT: true; the input reads as it did. -/
def fnBlockingSpec : ChangeSpec := { name := "fnBlocking", fn := fun _ => fun
  | [d] => { results := [.lit (.bool true)], args := [d] }
  | _ => none }
def fnBlockingRow : OpenClaim := { program := "ytokddcnkfeimkaa", sum := "f23647524594906acb898973b66bdbb858cb66f12e45f4472c87cc89718e72bc", func := "loop.example/g00935/laws.FnBlocking", spec := "fnBlocking", inPlace := ["slices.overlaps[loop.example/g00935/impl.Task]"], unfollowed := true, recurses := true, apart := false }
def FnBlockingSaid : Prop := fnBlockingRow.holds Try.pinned (OpenSpec.ofChange fnBlockingSpec)

/-- ITS FALSE NEIGHBOUR: 'it returns false'. Refute it at one input. -/
def fnBlockingWrong : ChangeSpec := { name := "fnBlocking", fn := fun _ => fun
  | [d] => { results := [.lit (.bool false)], args := [d] }
  | _ => none }
def FnBlockingWrongFalsely : Prop := fnBlockingRow.holds Try.pinned (OpenSpec.ofChange fnBlockingWrong)

/- THE SECOND FORM. 'bulk': how many values and letters a reading holds, each counted each time it is reached (what is shared counts as often as it is met; a slice's spare places count too). A statement '..UptoSaid' is the law's where the arguments, and the package variables that the reading takes, are together of bulk at most 1048576: NARROWER than '..Said'. Prove '..Said' where nothing that the law and all that it calls make is longer than what came in: it says more and counts as full. Else prove '..UptoSaid'. A law counts once. -/
mutual
def uptoBulk {H : Type} : DataW H → Nat
  | .lit (.string bytes) => bytes.length + 1
  | .lit _ => 1
  | .nil => 1
  | .ptr d => uptoBulk d + 1
  | .slice elems spare => uptoBulkAll elems + uptoBulkAll spare + 1
  | .agg parts => uptoBulkAll parts + 1
  | .iface _ d => uptoBulk d + 1
  | .map entries => uptoBulkEntries entries + 1
  | .held _ => 1
def uptoBulkAll {H : Type} : List (DataW H) → Nat
  | [] => 0
  | d :: r => uptoBulk d + uptoBulkAll r
def uptoBulkEntries {H : Type} : List (Lit × DataW H) → Nat
  | [] => 0
  | x :: r => uptoBulkEntry x + uptoBulkEntries r
def uptoBulkEntry {H : Type} : Lit × DataW H → Nat
  | (.string bytes, d) => bytes.length + uptoBulk d + 1
  | (_, d) => uptoBulk d + 1
 end
def uptoSmall : (H : Type) → List (DataW H) → Bool := fun _ ds => decide (uptoBulkAll ds ≤ 1048576)
def OpenSpec.upto (s : _root_.Go.ChangeSpec) : _root_.Go.OpenSpec := { _root_.Go.OpenSpec.ofChange s with cond := some uptoSmall }

/-- 'laws.FnExactAreTasks', WHERE WHAT IT READS IS OF BULK AT MOST 1048576: true; the input reads as it did. -/
def fnExactAreTasksUptoRow : OpenClaim := { program := "ytokddcnkfeimkaa", sum := "f23647524594906acb898973b66bdbb858cb66f12e45f4472c87cc89718e72bc", func := "loop.example/g00935/laws.FnExactAreTasks", spec := "fnExactAreTasks", apart := false, narrowed := true }
def FnExactAreTasksUptoSaid : Prop := fnExactAreTasksUptoRow.holds Try.pinned (OpenSpec.upto fnExactAreTasksSpec)

/-- 'laws.FnExactSlackOf', WHERE WHAT IT READS IS OF BULK AT MOST 1048576: true; the input reads as it did. -/
def fnExactSlackOfUptoRow : OpenClaim := { program := "ytokddcnkfeimkaa", sum := "f23647524594906acb898973b66bdbb858cb66f12e45f4472c87cc89718e72bc", func := "loop.example/g00935/laws.FnExactSlackOf", spec := "fnExactSlackOf", apart := false, narrowed := true }
def FnExactSlackOfUptoSaid : Prop := fnExactSlackOfUptoRow.holds Try.pinned (OpenSpec.upto fnExactSlackOfSpec)

/-- 'laws.FnExactHasTaskPlan', WHERE WHAT IT READS IS OF BULK AT MOST 1048576: true; the input reads as it did. -/
def fnExactHasTaskPlanUptoRow : OpenClaim := { program := "ytokddcnkfeimkaa", sum := "f23647524594906acb898973b66bdbb858cb66f12e45f4472c87cc89718e72bc", func := "loop.example/g00935/laws.FnExactHasTaskPlan", spec := "fnExactHasTaskPlan", recurses := true, apart := false, narrowed := true }
def FnExactHasTaskPlanUptoSaid : Prop := fnExactHasTaskPlanUptoRow.holds Try.pinned (OpenSpec.upto fnExactHasTaskPlanSpec)

/-- 'laws.FnExactEarliestEnd', WHERE WHAT IT READS IS OF BULK AT MOST 1048576: true; the input reads as it did. -/
def fnExactEarliestEndUptoRow : OpenClaim := { program := "ytokddcnkfeimkaa", sum := "f23647524594906acb898973b66bdbb858cb66f12e45f4472c87cc89718e72bc", func := "loop.example/g00935/laws.FnExactEarliestEnd", spec := "fnExactEarliestEnd", recurses := true, apart := false, narrowed := true }
def FnExactEarliestEndUptoSaid : Prop := fnExactEarliestEndUptoRow.holds Try.pinned (OpenSpec.upto fnExactEarliestEndSpec)

/-- 'laws.FnExactIsTaskPlan', WHERE WHAT IT READS IS OF BULK AT MOST 1048576: true; the input reads as it did. -/
def fnExactIsTaskPlanUptoRow : OpenClaim := { program := "ytokddcnkfeimkaa", sum := "f23647524594906acb898973b66bdbb858cb66f12e45f4472c87cc89718e72bc", func := "loop.example/g00935/laws.FnExactIsTaskPlan", spec := "fnExactIsTaskPlan", apart := false, narrowed := true }
def FnExactIsTaskPlanUptoSaid : Prop := fnExactIsTaskPlanUptoRow.holds Try.pinned (OpenSpec.upto fnExactIsTaskPlanSpec)

/-- 'laws.FnExactBusyDays', WHERE WHAT IT READS IS OF BULK AT MOST 1048576: true; the input reads as it did. -/
def fnExactBusyDaysUptoRow : OpenClaim := { program := "ytokddcnkfeimkaa", sum := "f23647524594906acb898973b66bdbb858cb66f12e45f4472c87cc89718e72bc", func := "loop.example/g00935/laws.FnExactBusyDays", spec := "fnExactBusyDays", apart := false, narrowed := true }
def FnExactBusyDaysUptoSaid : Prop := fnExactBusyDaysUptoRow.holds Try.pinned (OpenSpec.upto fnExactBusyDaysSpec)

/-- 'laws.FnExactBlockingTasks', WHERE WHAT IT READS IS OF BULK AT MOST 1048576: true; the input reads as it did. -/
def fnExactBlockingTasksUptoRow : OpenClaim := { program := "ytokddcnkfeimkaa", sum := "f23647524594906acb898973b66bdbb858cb66f12e45f4472c87cc89718e72bc", func := "loop.example/g00935/laws.FnExactBlockingTasks", spec := "fnExactBlockingTasks", recurses := true, apart := false, narrowed := true }
def FnExactBlockingTasksUptoSaid : Prop := fnExactBlockingTasksUptoRow.holds Try.pinned (OpenSpec.upto fnExactBlockingTasksSpec)

/-- 'laws.FnExactPlanByDue', WHERE WHAT IT READS IS OF BULK AT MOST 1048576: true; the input reads as it did. -/
def fnExactPlanByDueUptoRow : OpenClaim := { program := "ytokddcnkfeimkaa", sum := "f23647524594906acb898973b66bdbb858cb66f12e45f4472c87cc89718e72bc", func := "loop.example/g00935/laws.FnExactPlanByDue", spec := "fnExactPlanByDue", apart := false, narrowed := true }
def FnExactPlanByDueUptoSaid : Prop := fnExactPlanByDueUptoRow.holds Try.pinned (OpenSpec.upto fnExactPlanByDueSpec)

/-- 'laws.FnExactAddTask', WHERE WHAT IT READS IS OF BULK AT MOST 1048576: true; the input reads as it did. -/
def fnExactAddTaskUptoRow : OpenClaim := { program := "ytokddcnkfeimkaa", sum := "f23647524594906acb898973b66bdbb858cb66f12e45f4472c87cc89718e72bc", func := "loop.example/g00935/laws.FnExactAddTask", spec := "fnExactAddTask", inPlace := ["slices.overlaps[loop.example/g00935/impl.Task]"], unfollowed := true, recurses := true, apart := false, narrowed := true }
def FnExactAddTaskUptoSaid : Prop := fnExactAddTaskUptoRow.holds Try.pinned (OpenSpec.upto fnExactAddTaskSpec)

/-- 'laws.FnTasks', WHERE WHAT IT READS IS OF BULK AT MOST 1048576: true; the input reads as it did. -/
def fnTasksUptoRow : OpenClaim := { program := "ytokddcnkfeimkaa", sum := "f23647524594906acb898973b66bdbb858cb66f12e45f4472c87cc89718e72bc", func := "loop.example/g00935/laws.FnTasks", spec := "fnTasks", recurses := true, apart := false, narrowed := true }
def FnTasksUptoSaid : Prop := fnTasksUptoRow.holds Try.pinned (OpenSpec.upto fnTasksSpec)

/-- 'laws.FnBlocking', WHERE WHAT IT READS IS OF BULK AT MOST 1048576: true; the input reads as it did. -/
def fnBlockingUptoRow : OpenClaim := { program := "ytokddcnkfeimkaa", sum := "f23647524594906acb898973b66bdbb858cb66f12e45f4472c87cc89718e72bc", func := "loop.example/g00935/laws.FnBlocking", spec := "fnBlocking", inPlace := ["slices.overlaps[loop.example/g00935/impl.Task]"], unfollowed := true, recurses := true, apart := false, narrowed := true }
def FnBlockingUptoSaid : Prop := fnBlockingUptoRow.holds Try.pinned (OpenSpec.upto fnBlockingSpec)

end Rows
end Go.Proofs.Ytokddcnkfeimkaa
