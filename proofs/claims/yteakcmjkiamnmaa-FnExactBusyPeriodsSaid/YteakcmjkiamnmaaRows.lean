/-
  No cell of these rows narrows 'for every input' (looked for: loops, veiled, ifaces, maps, wideKeys, modest, calm, conditions, laid).
  DERIVED. THE GIVEN ROWS OF THIS SEAT. 6 by the template 'for every input the law returns true; each argument reads behind the call as it read before'; 0 by the template 'total and deterministic' (their statements: YteakcmjkiamnmaaTotals.lean).
  GIVEN WITH THE SEED: the statements are not yours to turn. If you find one false, say at which input.
  Laid BY PROGRAM, IN A SANDBOX (cutbox-rows.mjs): the forced cells as the released guide's own fill.sh prints them over the translation 403bb66e3f0aae6f… (all of the seat's roots in one cut). By AI agents, Wed Nov 11 2026. No macro, syntax, notation, axiom, sorry.
-/
import Derived.Test.YteakcmjkiamnmaaChecked
import GoSem.Claim
import GoSem.ClaimJoined
import GoSem.ClaimMapViews
import Derived.JoinedTies
import Derived.KernelRfl
namespace Go.Proofs.Yteakcmjkiamnmaa
/- THE CELL 'sum', in the pinned program and in every row, IS THE sha256 OF THE DUMP (.gsa) THAT YteakcmjkiamnmaaProg.lean LOADS. Nothing in Lean hashes anything: it is a label: what it is worth is what the hold of that sum in a sandbox is worth. -/
noncomputable def Try.pinned : Pinned := { name := "yteakcmjkiamnmaa", sum := "403bb66e3f0aae6f726b61e72c5a8e4e7c81c60cc0610b8730b6039c495ebabf", checked := Try.checked }
namespace Rows
def none {H : Type} : Left H := { results := [], args := [] }

/-- 'laws.FnExactWorkLeft': WHATEVER THE INPUT: true; the input reads as it did. -/
def fnExactWorkLeftSpec : ChangeSpec := { name := "fnExactWorkLeft", fn := fun _ => fun
  | [d1, d2] => { results := [.lit (.bool true)], args := [d1, d2] }
  | _ => none }
def fnExactWorkLeftRow : OpenClaim := { program := "yteakcmjkiamnmaa", sum := "403bb66e3f0aae6f726b61e72c5a8e4e7c81c60cc0610b8730b6039c495ebabf", func := "loop.example/g01176/laws.FnExactWorkLeft", spec := "fnExactWorkLeft", apart := false }
def FnExactWorkLeftSaid : Prop := fnExactWorkLeftRow.holds Try.pinned (OpenSpec.ofChange fnExactWorkLeftSpec)

/-- ITS FALSE NEIGHBOUR: 'it returns false'. Refute it at one input. -/
def fnExactWorkLeftWrong : ChangeSpec := { name := "fnExactWorkLeft", fn := fun _ => fun
  | [d1, d2] => { results := [.lit (.bool false)], args := [d1, d2] }
  | _ => none }
def FnExactWorkLeftWrongFalsely : Prop := fnExactWorkLeftRow.holds Try.pinned (OpenSpec.ofChange fnExactWorkLeftWrong)

/-- 'laws.FnExactIsSchedule': WHATEVER THE INPUT: true; the input reads as it did. -/
def fnExactIsScheduleSpec : ChangeSpec := { name := "fnExactIsSchedule", fn := fun _ => fun
  | [d1, d2] => { results := [.lit (.bool true)], args := [d1, d2] }
  | _ => none }
def fnExactIsScheduleRow : OpenClaim := { program := "yteakcmjkiamnmaa", sum := "403bb66e3f0aae6f726b61e72c5a8e4e7c81c60cc0610b8730b6039c495ebabf", func := "loop.example/g01176/laws.FnExactIsSchedule", spec := "fnExactIsSchedule", unfollowed := true, recurses := true, apart := false }
def FnExactIsScheduleSaid : Prop := fnExactIsScheduleRow.holds Try.pinned (OpenSpec.ofChange fnExactIsScheduleSpec)

/-- ITS FALSE NEIGHBOUR: 'it returns false'. Refute it at one input. -/
def fnExactIsScheduleWrong : ChangeSpec := { name := "fnExactIsSchedule", fn := fun _ => fun
  | [d1, d2] => { results := [.lit (.bool false)], args := [d1, d2] }
  | _ => none }
def FnExactIsScheduleWrongFalsely : Prop := fnExactIsScheduleRow.holds Try.pinned (OpenSpec.ofChange fnExactIsScheduleWrong)

/-- 'laws.FnExactPreemptEnds': WHATEVER THE INPUT: true; the input reads as it did. -/
def fnExactPreemptEndsSpec : ChangeSpec := { name := "fnExactPreemptEnds", fn := fun _ => fun
  | [d] => { results := [.lit (.bool true)], args := [d] }
  | _ => none }
def fnExactPreemptEndsRow : OpenClaim := { program := "yteakcmjkiamnmaa", sum := "403bb66e3f0aae6f726b61e72c5a8e4e7c81c60cc0610b8730b6039c495ebabf", func := "loop.example/g01176/laws.FnExactPreemptEnds", spec := "fnExactPreemptEnds", apart := false }
def FnExactPreemptEndsSaid : Prop := fnExactPreemptEndsRow.holds Try.pinned (OpenSpec.ofChange fnExactPreemptEndsSpec)

/-- ITS FALSE NEIGHBOUR: 'it returns false'. Refute it at one input. -/
def fnExactPreemptEndsWrong : ChangeSpec := { name := "fnExactPreemptEnds", fn := fun _ => fun
  | [d] => { results := [.lit (.bool false)], args := [d] }
  | _ => none }
def FnExactPreemptEndsWrongFalsely : Prop := fnExactPreemptEndsRow.holds Try.pinned (OpenSpec.ofChange fnExactPreemptEndsWrong)

/-- 'laws.FnExactBusyPeriods': WHATEVER THE INPUT: true; the input reads as it did. -/
def fnExactBusyPeriodsSpec : ChangeSpec := { name := "fnExactBusyPeriods", fn := fun _ => fun
  | [d] => { results := [.lit (.bool true)], args := [d] }
  | _ => none }
def fnExactBusyPeriodsRow : OpenClaim := { program := "yteakcmjkiamnmaa", sum := "403bb66e3f0aae6f726b61e72c5a8e4e7c81c60cc0610b8730b6039c495ebabf", func := "loop.example/g01176/laws.FnExactBusyPeriods", spec := "fnExactBusyPeriods", apart := false }
def FnExactBusyPeriodsSaid : Prop := fnExactBusyPeriodsRow.holds Try.pinned (OpenSpec.ofChange fnExactBusyPeriodsSpec)

/-- ITS FALSE NEIGHBOUR: 'it returns false'. Refute it at one input. -/
def fnExactBusyPeriodsWrong : ChangeSpec := { name := "fnExactBusyPeriods", fn := fun _ => fun
  | [d] => { results := [.lit (.bool false)], args := [d] }
  | _ => none }
def FnExactBusyPeriodsWrongFalsely : Prop := fnExactBusyPeriodsRow.holds Try.pinned (OpenSpec.ofChange fnExactBusyPeriodsWrong)

/-- 'laws.FnExactCountOvertaken': WHATEVER THE INPUT: true; the input reads as it did. -/
def fnExactCountOvertakenSpec : ChangeSpec := { name := "fnExactCountOvertaken", fn := fun _ => fun
  | [d1, d2] => { results := [.lit (.bool true)], args := [d1, d2] }
  | _ => none }
def fnExactCountOvertakenRow : OpenClaim := { program := "yteakcmjkiamnmaa", sum := "403bb66e3f0aae6f726b61e72c5a8e4e7c81c60cc0610b8730b6039c495ebabf", func := "loop.example/g01176/laws.FnExactCountOvertaken", spec := "fnExactCountOvertaken", unfollowed := true, recurses := true, apart := false }
def FnExactCountOvertakenSaid : Prop := fnExactCountOvertakenRow.holds Try.pinned (OpenSpec.ofChange fnExactCountOvertakenSpec)

/-- ITS FALSE NEIGHBOUR: 'it returns false'. Refute it at one input. -/
def fnExactCountOvertakenWrong : ChangeSpec := { name := "fnExactCountOvertaken", fn := fun _ => fun
  | [d1, d2] => { results := [.lit (.bool false)], args := [d1, d2] }
  | _ => none }
def FnExactCountOvertakenWrongFalsely : Prop := fnExactCountOvertakenRow.holds Try.pinned (OpenSpec.ofChange fnExactCountOvertakenWrong)

/-- 'laws.FnExactWeightedWait': WHATEVER THE INPUT: true; the input reads as it did. -/
def fnExactWeightedWaitSpec : ChangeSpec := { name := "fnExactWeightedWait", fn := fun _ => fun
  | [d1, d2] => { results := [.lit (.bool true)], args := [d1, d2] }
  | _ => none }
def fnExactWeightedWaitRow : OpenClaim := { program := "yteakcmjkiamnmaa", sum := "403bb66e3f0aae6f726b61e72c5a8e4e7c81c60cc0610b8730b6039c495ebabf", func := "loop.example/g01176/laws.FnExactWeightedWait", spec := "fnExactWeightedWait", unfollowed := true, recurses := true, apart := false }
def FnExactWeightedWaitSaid : Prop := fnExactWeightedWaitRow.holds Try.pinned (OpenSpec.ofChange fnExactWeightedWaitSpec)

/-- ITS FALSE NEIGHBOUR: 'it returns false'. Refute it at one input. -/
def fnExactWeightedWaitWrong : ChangeSpec := { name := "fnExactWeightedWait", fn := fun _ => fun
  | [d1, d2] => { results := [.lit (.bool false)], args := [d1, d2] }
  | _ => none }
def FnExactWeightedWaitWrongFalsely : Prop := fnExactWeightedWaitRow.holds Try.pinned (OpenSpec.ofChange fnExactWeightedWaitWrong)

/- THE SECOND FORM. 'bulk': how many values and letters a reading holds, each counted each time it is reached (what is shared counts as often as it is met; a slice's spare places count too). A statement '..UptoSaid' is the law's where the arguments, and the package variables that the reading takes, are together of bulk at most 1048576: NARROWER than '..Said'. Prove '..Said' where nothing that the law and all that it calls make is longer than what came in: it says more and counts as full. Else prove '..UptoSaid'. A law counts once. -/
mutual
def uptoBulk {H : Type} : DataW H → Nat
  | .lit (.string bytes) => bytes.length + 1
  | .lit _ => 1
  | .nil => 1
  | .ptr d => uptoBulk d + 1
  | .slice elems spare => uptoBulkAll elems + uptoBulkAll spare + 1
  | .agg parts => uptoBulkAll parts + 1
  | .iface _ d => uptoBulk d + 1
  | .map entries => uptoBulkEntries entries + 1
  | .held _ => 1
def uptoBulkAll {H : Type} : List (DataW H) → Nat
  | [] => 0
  | d :: r => uptoBulk d + uptoBulkAll r
def uptoBulkEntries {H : Type} : List (Lit × DataW H) → Nat
  | [] => 0
  | x :: r => uptoBulkEntry x + uptoBulkEntries r
def uptoBulkEntry {H : Type} : Lit × DataW H → Nat
  | (.string bytes, d) => bytes.length + uptoBulk d + 1
  | (_, d) => uptoBulk d + 1
 end
def uptoSmall : (H : Type) → List (DataW H) → Bool := fun _ ds => decide (uptoBulkAll ds ≤ 1048576)
def OpenSpec.upto (s : _root_.Go.ChangeSpec) : _root_.Go.OpenSpec := { _root_.Go.OpenSpec.ofChange s with cond := some uptoSmall }

/-- 'laws.FnExactWorkLeft', WHERE WHAT IT READS IS OF BULK AT MOST 1048576: true; the input reads as it did. -/
def fnExactWorkLeftUptoRow : OpenClaim := { program := "yteakcmjkiamnmaa", sum := "403bb66e3f0aae6f726b61e72c5a8e4e7c81c60cc0610b8730b6039c495ebabf", func := "loop.example/g01176/laws.FnExactWorkLeft", spec := "fnExactWorkLeft", apart := false, narrowed := true }
def FnExactWorkLeftUptoSaid : Prop := fnExactWorkLeftUptoRow.holds Try.pinned (OpenSpec.upto fnExactWorkLeftSpec)

/-- 'laws.FnExactIsSchedule', WHERE WHAT IT READS IS OF BULK AT MOST 1048576: true; the input reads as it did. -/
def fnExactIsScheduleUptoRow : OpenClaim := { program := "yteakcmjkiamnmaa", sum := "403bb66e3f0aae6f726b61e72c5a8e4e7c81c60cc0610b8730b6039c495ebabf", func := "loop.example/g01176/laws.FnExactIsSchedule", spec := "fnExactIsSchedule", unfollowed := true, recurses := true, apart := false, narrowed := true }
def FnExactIsScheduleUptoSaid : Prop := fnExactIsScheduleUptoRow.holds Try.pinned (OpenSpec.upto fnExactIsScheduleSpec)

/-- 'laws.FnExactPreemptEnds', WHERE WHAT IT READS IS OF BULK AT MOST 1048576: true; the input reads as it did. -/
def fnExactPreemptEndsUptoRow : OpenClaim := { program := "yteakcmjkiamnmaa", sum := "403bb66e3f0aae6f726b61e72c5a8e4e7c81c60cc0610b8730b6039c495ebabf", func := "loop.example/g01176/laws.FnExactPreemptEnds", spec := "fnExactPreemptEnds", apart := false, narrowed := true }
def FnExactPreemptEndsUptoSaid : Prop := fnExactPreemptEndsUptoRow.holds Try.pinned (OpenSpec.upto fnExactPreemptEndsSpec)

/-- 'laws.FnExactBusyPeriods', WHERE WHAT IT READS IS OF BULK AT MOST 1048576: true; the input reads as it did. -/
def fnExactBusyPeriodsUptoRow : OpenClaim := { program := "yteakcmjkiamnmaa", sum := "403bb66e3f0aae6f726b61e72c5a8e4e7c81c60cc0610b8730b6039c495ebabf", func := "loop.example/g01176/laws.FnExactBusyPeriods", spec := "fnExactBusyPeriods", apart := false, narrowed := true }
def FnExactBusyPeriodsUptoSaid : Prop := fnExactBusyPeriodsUptoRow.holds Try.pinned (OpenSpec.upto fnExactBusyPeriodsSpec)

/-- 'laws.FnExactCountOvertaken', WHERE WHAT IT READS IS OF BULK AT MOST 1048576: true; the input reads as it did. -/
def fnExactCountOvertakenUptoRow : OpenClaim := { program := "yteakcmjkiamnmaa", sum := "403bb66e3f0aae6f726b61e72c5a8e4e7c81c60cc0610b8730b6039c495ebabf", func := "loop.example/g01176/laws.FnExactCountOvertaken", spec := "fnExactCountOvertaken", unfollowed := true, recurses := true, apart := false, narrowed := true }
def FnExactCountOvertakenUptoSaid : Prop := fnExactCountOvertakenUptoRow.holds Try.pinned (OpenSpec.upto fnExactCountOvertakenSpec)

/-- 'laws.FnExactWeightedWait', WHERE WHAT IT READS IS OF BULK AT MOST 1048576: true; the input reads as it did. -/
def fnExactWeightedWaitUptoRow : OpenClaim := { program := "yteakcmjkiamnmaa", sum := "403bb66e3f0aae6f726b61e72c5a8e4e7c81c60cc0610b8730b6039c495ebabf", func := "loop.example/g01176/laws.FnExactWeightedWait", spec := "fnExactWeightedWait", unfollowed := true, recurses := true, apart := false, narrowed := true }
def FnExactWeightedWaitUptoSaid : Prop := fnExactWeightedWaitUptoRow.holds Try.pinned (OpenSpec.upto fnExactWeightedWaitSpec)

end Rows
end Go.Proofs.Yteakcmjkiamnmaa
