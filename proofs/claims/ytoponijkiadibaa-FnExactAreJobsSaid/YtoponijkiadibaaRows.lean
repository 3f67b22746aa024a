/-
  No cell of these rows narrows 'for every input' (looked for: loops, veiled, ifaces, maps, wideKeys, modest, calm, conditions, laid).
  DERIVED. THE GIVEN ROWS OF THIS SEAT. 9 by the template 'for every input the law returns true; each argument reads behind the call as it read before'; 0 by the template 'total and deterministic' (their statements: YtoponijkiadibaaTotals.lean).
  GIVEN WITH THE SEED: the statements are not yours to turn. If you find one false, say at which input.
  Laid BY PROGRAM, IN A SANDBOX (cutbox-rows.mjs): the forced cells as the released guide's own fill.sh prints them over the translation 3a4a93e0d28de09b… (all of the seat's roots in one cut). By AI agents, Wed Nov 11 2026. No macro, syntax, notation, axiom, sorry.
-/
import Derived.Test.YtoponijkiadibaaChecked
import GoSem.Claim
import GoSem.ClaimJoined
import GoSem.ClaimMapViews
import Derived.JoinedTies
import Derived.KernelRfl
namespace Go.Proofs.Ytoponijkiadibaa
/- THE CELL 'sum', in the pinned program and in every row, IS THE sha256 OF THE DUMP (.gsa) THAT YtoponijkiadibaaProg.lean LOADS. Nothing in Lean hashes anything: it is a label: what it is worth is what the hold of that sum in a sandbox is worth. -/
noncomputable def Try.pinned : Pinned := { name := "ytoponijkiadibaa", sum := "3a4a93e0d28de09b1794acce21403285a7d1506b381e609760207bd6ba5433b2", checked := Try.checked }
namespace Rows
def none {H : Type} : Left H := { results := [], args := [] }

/-- 'laws.FnExactConstants': WHATEVER THE INPUT: true; the input reads as it did. -/
def fnExactConstantsSpec : ChangeSpec := { name := "fnExactConstants", fn := fun _ => fun
  | [] => { results := [.lit (.bool true)], args := [] }
  | _ => none }
def fnExactConstantsRow : OpenClaim := { program := "ytoponijkiadibaa", sum := "3a4a93e0d28de09b1794acce21403285a7d1506b381e609760207bd6ba5433b2", func := "loop.example/g01176/laws.FnExactConstants", spec := "fnExactConstants", apart := false }
def FnExactConstantsSaid : Prop := fnExactConstantsRow.holds Try.pinned (OpenSpec.ofChange fnExactConstantsSpec)

/-- ITS FALSE NEIGHBOUR: 'it returns false'. Refute it at one input. -/
def fnExactConstantsWrong : ChangeSpec := { name := "fnExactConstants", fn := fun _ => fun
  | [] => { results := [.lit (.bool false)], args := [] }
  | _ => none }
def FnExactConstantsWrongFalsely : Prop := fnExactConstantsRow.holds Try.pinned (OpenSpec.ofChange fnExactConstantsWrong)

/-- 'laws.FnExactIsTokenRing': WHATEVER THE INPUT: true; the input reads as it did. -/
def fnExactIsTokenRingSpec : ChangeSpec := { name := "fnExactIsTokenRing", fn := fun _ => fun
  | [d] => { results := [.lit (.bool true)], args := [d] }
  | _ => none }
def fnExactIsTokenRingRow : OpenClaim := { program := "ytoponijkiadibaa", sum := "3a4a93e0d28de09b1794acce21403285a7d1506b381e609760207bd6ba5433b2", func := "loop.example/g01176/laws.FnExactIsTokenRing", spec := "fnExactIsTokenRing", apart := false }
def FnExactIsTokenRingSaid : Prop := fnExactIsTokenRingRow.holds Try.pinned (OpenSpec.ofChange fnExactIsTokenRingSpec)

/-- ITS FALSE NEIGHBOUR: 'it returns false'. Refute it at one input. -/
def fnExactIsTokenRingWrong : ChangeSpec := { name := "fnExactIsTokenRing", fn := fun _ => fun
  | [d] => { results := [.lit (.bool false)], args := [d] }
  | _ => none }
def FnExactIsTokenRingWrongFalsely : Prop := fnExactIsTokenRingRow.holds Try.pinned (OpenSpec.ofChange fnExactIsTokenRingWrong)

/-- 'laws.FnExactIdleRound': WHATEVER THE INPUT: true; the input reads as it did. -/
def fnExactIdleRoundSpec : ChangeSpec := { name := "fnExactIdleRound", fn := fun _ => fun
  | [d] => { results := [.lit (.bool true)], args := [d] }
  | _ => none }
def fnExactIdleRoundRow : OpenClaim := { program := "ytoponijkiadibaa", sum := "3a4a93e0d28de09b1794acce21403285a7d1506b381e609760207bd6ba5433b2", func := "loop.example/g01176/laws.FnExactIdleRound", spec := "fnExactIdleRound", apart := false }
def FnExactIdleRoundSaid : Prop := fnExactIdleRoundRow.holds Try.pinned (OpenSpec.ofChange fnExactIdleRoundSpec)

/-- ITS FALSE NEIGHBOUR: 'it returns false'. Refute it at one input. -/
def fnExactIdleRoundWrong : ChangeSpec := { name := "fnExactIdleRound", fn := fun _ => fun
  | [d] => { results := [.lit (.bool false)], args := [d] }
  | _ => none }
def FnExactIdleRoundWrongFalsely : Prop := fnExactIdleRoundRow.holds Try.pinned (OpenSpec.ofChange fnExactIdleRoundWrong)

/-- 'laws.FnExactLongestRound': WHATEVER THE INPUT: true; the input reads as it did. -/
def fnExactLongestRoundSpec : ChangeSpec := { name := "fnExactLongestRound", fn := fun _ => fun
  | [d] => { results := [.lit (.bool true)], args := [d] }
  | _ => none }
def fnExactLongestRoundRow : OpenClaim := { program := "ytoponijkiadibaa", sum := "3a4a93e0d28de09b1794acce21403285a7d1506b381e609760207bd6ba5433b2", func := "loop.example/g01176/laws.FnExactLongestRound", spec := "fnExactLongestRound", apart := false }
def FnExactLongestRoundSaid : Prop := fnExactLongestRoundRow.holds Try.pinned (OpenSpec.ofChange fnExactLongestRoundSpec)

/-- ITS FALSE NEIGHBOUR: 'it returns false'. Refute it at one input. -/
def fnExactLongestRoundWrong : ChangeSpec := { name := "fnExactLongestRound", fn := fun _ => fun
  | [d] => { results := [.lit (.bool false)], args := [d] }
  | _ => none }
def FnExactLongestRoundWrongFalsely : Prop := fnExactLongestRoundRow.holds Try.pinned (OpenSpec.ofChange fnExactLongestRoundWrong)

/-- 'laws.FnExactWaitBound': WHATEVER THE INPUT: true; the input reads as it did. -/
def fnExactWaitBoundSpec : ChangeSpec := { name := "fnExactWaitBound", fn := fun _ => fun
  | [d1, d2] => { results := [.lit (.bool true)], args := [d1, d2] }
  | _ => none }
def fnExactWaitBoundRow : OpenClaim := { program := "ytoponijkiadibaa", sum := "3a4a93e0d28de09b1794acce21403285a7d1506b381e609760207bd6ba5433b2", func := "loop.example/g01176/laws.FnExactWaitBound", spec := "fnExactWaitBound", apart := false }
def FnExactWaitBoundSaid : Prop := fnExactWaitBoundRow.holds Try.pinned (OpenSpec.ofChange fnExactWaitBoundSpec)

/-- ITS FALSE NEIGHBOUR: 'it returns false'. Refute it at one input. -/
def fnExactWaitBoundWrong : ChangeSpec := { name := "fnExactWaitBound", fn := fun _ => fun
  | [d1, d2] => { results := [.lit (.bool false)], args := [d1, d2] }
  | _ => none }
def FnExactWaitBoundWrongFalsely : Prop := fnExactWaitBoundRow.holds Try.pinned (OpenSpec.ofChange fnExactWaitBoundWrong)

/-- 'laws.FnExactWholeRing': WHATEVER THE INPUT: true; the input reads as it did. -/
def fnExactWholeRingSpec : ChangeSpec := { name := "fnExactWholeRing", fn := fun _ => fun
  | [d] => { results := [.lit (.bool true)], args := [d] }
  | _ => none }
def fnExactWholeRingRow : OpenClaim := { program := "ytoponijkiadibaa", sum := "3a4a93e0d28de09b1794acce21403285a7d1506b381e609760207bd6ba5433b2", func := "loop.example/g01176/laws.FnExactWholeRing", spec := "fnExactWholeRing", apart := false }
def FnExactWholeRingSaid : Prop := fnExactWholeRingRow.holds Try.pinned (OpenSpec.ofChange fnExactWholeRingSpec)

/-- ITS FALSE NEIGHBOUR: 'it returns false'. Refute it at one input. -/
def fnExactWholeRingWrong : ChangeSpec := { name := "fnExactWholeRing", fn := fun _ => fun
  | [d] => { results := [.lit (.bool false)], args := [d] }
  | _ => none }
def FnExactWholeRingWrongFalsely : Prop := fnExactWholeRingRow.holds Try.pinned (OpenSpec.ofChange fnExactWholeRingWrong)

/-- 'laws.FnExactAreJobs': WHATEVER THE INPUT: true; the input reads as it did. -/
def fnExactAreJobsSpec : ChangeSpec := { name := "fnExactAreJobs", fn := fun _ => fun
  | [d] => { results := [.lit (.bool true)], args := [d] }
  | _ => none }
def fnExactAreJobsRow : OpenClaim := { program := "ytoponijkiadibaa", sum := "3a4a93e0d28de09b1794acce21403285a7d1506b381e609760207bd6ba5433b2", func := "loop.example/g01176/laws.FnExactAreJobs", spec := "fnExactAreJobs", apart := false }
def FnExactAreJobsSaid : Prop := fnExactAreJobsRow.holds Try.pinned (OpenSpec.ofChange fnExactAreJobsSpec)

/-- ITS FALSE NEIGHBOUR: 'it returns false'. Refute it at one input. -/
def fnExactAreJobsWrong : ChangeSpec := { name := "fnExactAreJobs", fn := fun _ => fun
  | [d] => { results := [.lit (.bool false)], args := [d] }
  | _ => none }
def FnExactAreJobsWrongFalsely : Prop := fnExactAreJobsRow.holds Try.pinned (OpenSpec.ofChange fnExactAreJobsWrong)

/-- 'laws.FnExactCheckOf': WHATEVER THE INPUT: true; the input reads as it did. -/
def fnExactCheckOfSpec : ChangeSpec := { name := "fnExactCheckOf", fn := fun _ => fun
  | [d] => { results := [.lit (.bool true)], args := [d] }
  | _ => none }
def fnExactCheckOfRow : OpenClaim := { program := "ytoponijkiadibaa", sum := "3a4a93e0d28de09b1794acce21403285a7d1506b381e609760207bd6ba5433b2", func := "loop.example/g01176/laws.FnExactCheckOf", spec := "fnExactCheckOf", unfollowed := true, recurses := true, apart := false }
def FnExactCheckOfSaid : Prop := fnExactCheckOfRow.holds Try.pinned (OpenSpec.ofChange fnExactCheckOfSpec)

/-- ITS FALSE NEIGHBOUR: 'it returns false'. Refute it at one input. -/
def fnExactCheckOfWrong : ChangeSpec := { name := "fnExactCheckOf", fn := fun _ => fun
  | [d] => { results := [.lit (.bool false)], args := [d] }
  | _ => none }
def FnExactCheckOfWrongFalsely : Prop := fnExactCheckOfRow.holds Try.pinned (OpenSpec.ofChange fnExactCheckOfWrong)

/-- 'laws.FnExactIsRing': WHATEVER THE INPUT: true; the input reads as it did. -/
def fnExactIsRingSpec : ChangeSpec := { name := "fnExactIsRing", fn := fun _ => fun
  | [d] => { results := [.lit (.bool true)], args := [d] }
  | _ => none }
def fnExactIsRingRow : OpenClaim := { program := "ytoponijkiadibaa", sum := "3a4a93e0d28de09b1794acce21403285a7d1506b381e609760207bd6ba5433b2", func := "loop.example/g01176/laws.FnExactIsRing", spec := "fnExactIsRing", unfollowed := true, recurses := true, apart := false }
def FnExactIsRingSaid : Prop := fnExactIsRingRow.holds Try.pinned (OpenSpec.ofChange fnExactIsRingSpec)

/-- ITS FALSE NEIGHBOUR: 'it returns false'. Refute it at one input. -/
def fnExactIsRingWrong : ChangeSpec := { name := "fnExactIsRing", fn := fun _ => fun
  | [d] => { results := [.lit (.bool false)], args := [d] }
  | _ => none }
def FnExactIsRingWrongFalsely : Prop := fnExactIsRingRow.holds Try.pinned (OpenSpec.ofChange fnExactIsRingWrong)

/- THE SECOND FORM. 'bulk': how many values and letters a reading holds, each counted each time it is reached (what is shared counts as often as it is met; a slice's spare places count too). A statement '..UptoSaid' is the law's where the arguments, and the package variables that the reading takes, are together of bulk at most 1048576: NARROWER than '..Said'. Prove '..Said' where nothing that the law and all that it calls make is longer than what came in: it says more and counts as full. Else prove '..UptoSaid'. A law counts once. -/
mutual
def uptoBulk {H : Type} : DataW H → Nat
  | .lit (.string bytes) => bytes.length + 1
  | .lit _ => 1
  | .nil => 1
  | .ptr d => uptoBulk d + 1
  | .slice elems spare => uptoBulkAll elems + uptoBulkAll spare + 1
  | .agg parts => uptoBulkAll parts + 1
  | .iface _ d => uptoBulk d + 1
  | .map entries => uptoBulkEntries entries + 1
  | .held _ => 1
def uptoBulkAll {H : Type} : List (DataW H) → Nat
  | [] => 0
  | d :: r => uptoBulk d + uptoBulkAll r
def uptoBulkEntries {H : Type} : List (Lit × DataW H) → Nat
  | [] => 0
  | x :: r => uptoBulkEntry x + uptoBulkEntries r
def uptoBulkEntry {H : Type} : Lit × DataW H → Nat
  | (.string bytes, d) => bytes.length + uptoBulk d + 1
  | (_, d) => uptoBulk d + 1
 end
def uptoSmall : (H : Type) → List (DataW H) → Bool := fun _ ds => decide (uptoBulkAll ds ≤ 1048576)
def OpenSpec.upto (s : _root_.Go.ChangeSpec) : _root_.Go.OpenSpec := { _root_.Go.OpenSpec.ofChange s with cond := some uptoSmall }

/-- 'laws.FnExactConstants', WHERE WHAT IT READS IS OF BULK AT MOST 1048576: true; the input reads as it did. -/
def fnExactConstantsUptoRow : OpenClaim := { program := "ytoponijkiadibaa", sum := "3a4a93e0d28de09b1794acce21403285a7d1506b381e609760207bd6ba5433b2", func := "loop.example/g01176/laws.FnExactConstants", spec := "fnExactConstants", apart := false, narrowed := true }
def FnExactConstantsUptoSaid : Prop := fnExactConstantsUptoRow.holds Try.pinned (OpenSpec.upto fnExactConstantsSpec)

/-- 'laws.FnExactIsTokenRing', WHERE WHAT IT READS IS OF BULK AT MOST 1048576: true; the input reads as it did. -/
def fnExactIsTokenRingUptoRow : OpenClaim := { program := "ytoponijkiadibaa", sum := "3a4a93e0d28de09b1794acce21403285a7d1506b381e609760207bd6ba5433b2", func := "loop.example/g01176/laws.FnExactIsTokenRing", spec := "fnExactIsTokenRing", apart := false, narrowed := true }
def FnExactIsTokenRingUptoSaid : Prop := fnExactIsTokenRingUptoRow.holds Try.pinned (OpenSpec.upto fnExactIsTokenRingSpec)

/-- 'laws.FnExactIdleRound', WHERE WHAT IT READS IS OF BULK AT MOST 1048576: true; the input reads as it did. -/
def fnExactIdleRoundUptoRow : OpenClaim := { program := "ytoponijkiadibaa", sum := "3a4a93e0d28de09b1794acce21403285a7d1506b381e609760207bd6ba5433b2", func := "loop.example/g01176/laws.FnExactIdleRound", spec := "fnExactIdleRound", apart := false, narrowed := true }
def FnExactIdleRoundUptoSaid : Prop := fnExactIdleRoundUptoRow.holds Try.pinned (OpenSpec.upto fnExactIdleRoundSpec)

/-- 'laws.FnExactLongestRound', WHERE WHAT IT READS IS OF BULK AT MOST 1048576: true; the input reads as it did. -/
def fnExactLongestRoundUptoRow : OpenClaim := { program := "ytoponijkiadibaa", sum := "3a4a93e0d28de09b1794acce21403285a7d1506b381e609760207bd6ba5433b2", func := "loop.example/g01176/laws.FnExactLongestRound", spec := "fnExactLongestRound", apart := false, narrowed := true }
def FnExactLongestRoundUptoSaid : Prop := fnExactLongestRoundUptoRow.holds Try.pinned (OpenSpec.upto fnExactLongestRoundSpec)

/-- 'laws.FnExactWaitBound', WHERE WHAT IT READS IS OF BULK AT MOST 1048576: true; the input reads as it did. -/
def fnExactWaitBoundUptoRow : OpenClaim := { program := "ytoponijkiadibaa", sum := "3a4a93e0d28de09b1794acce21403285a7d1506b381e609760207bd6ba5433b2", func := "loop.example/g01176/laws.FnExactWaitBound", spec := "fnExactWaitBound", apart := false, narrowed := true }
def FnExactWaitBoundUptoSaid : Prop := fnExactWaitBoundUptoRow.holds Try.pinned (OpenSpec.upto fnExactWaitBoundSpec)

/-- 'laws.FnExactWholeRing', WHERE WHAT IT READS IS OF BULK AT MOST 1048576: true; the input reads as it did. -/
def fnExactWholeRingUptoRow : OpenClaim := { program := "ytoponijkiadibaa", sum := "3a4a93e0d28de09b1794acce21403285a7d1506b381e609760207bd6ba5433b2", func := "loop.example/g01176/laws.FnExactWholeRing", spec := "fnExactWholeRing", apart := false, narrowed := true }
def FnExactWholeRingUptoSaid : Prop := fnExactWholeRingUptoRow.holds Try.pinned (OpenSpec.upto fnExactWholeRingSpec)

/-- 'laws.FnExactAreJobs', WHERE WHAT IT READS IS OF BULK AT MOST 1048576: true; the input reads as it did. -/
def fnExactAreJobsUptoRow : OpenClaim := { program := "ytoponijkiadibaa", sum := "3a4a93e0d28de09b1794acce21403285a7d1506b381e609760207bd6ba5433b2", func := "loop.example/g01176/laws.FnExactAreJobs", spec := "fnExactAreJobs", apart := false, narrowed := true }
def FnExactAreJobsUptoSaid : Prop := fnExactAreJobsUptoRow.holds Try.pinned (OpenSpec.upto fnExactAreJobsSpec)

/-- 'laws.FnExactCheckOf', WHERE WHAT IT READS IS OF BULK AT MOST 1048576: true; the input reads as it did. -/
def fnExactCheckOfUptoRow : OpenClaim := { program := "ytoponijkiadibaa", sum := "3a4a93e0d28de09b1794acce21403285a7d1506b381e609760207bd6ba5433b2", func := "loop.example/g01176/laws.FnExactCheckOf", spec := "fnExactCheckOf", unfollowed := true, recurses := true, apart := false, narrowed := true }
def FnExactCheckOfUptoSaid : Prop := fnExactCheckOfUptoRow.holds Try.pinned (OpenSpec.upto fnExactCheckOfSpec)

/-- 'laws.FnExactIsRing', WHERE WHAT IT READS IS OF BULK AT MOST 1048576: true; the input reads as it did. -/
def fnExactIsRingUptoRow : OpenClaim := { program := "ytoponijkiadibaa", sum := "3a4a93e0d28de09b1794acce21403285a7d1506b381e609760207bd6ba5433b2", func := "loop.example/g01176/laws.FnExactIsRing", spec := "fnExactIsRing", unfollowed := true, recurses := true, apart := false, narrowed := true }
def FnExactIsRingUptoSaid : Prop := fnExactIsRingUptoRow.holds Try.pinned (OpenSpec.upto fnExactIsRingSpec)

end Rows
end Go.Proofs.Ytoponijkiadibaa
