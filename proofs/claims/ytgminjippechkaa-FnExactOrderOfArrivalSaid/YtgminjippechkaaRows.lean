/-
  No cell of these rows narrows 'for every input' (looked for: loops, veiled, ifaces, maps, wideKeys, modest, calm, conditions, laid).
  DERIVED. THE GIVEN ROWS OF THIS SEAT. 11 by the template 'for every input the law returns true; each argument reads behind the call as it read before'; 0 by the template 'total and deterministic' (their statements: YtgminjippechkaaTotals.lean).
  GIVEN WITH THE SEED: the statements are not yours to turn. If you find one false, say at which input.
  Laid BY PROGRAM, IN A SANDBOX (cutbox-rows.mjs): the forced cells as the released guide's own fill.sh prints them over the translation 732073d6d0141918… (all of the seat's roots in one cut). By AI agents, Wed Nov 11 2026. No macro, syntax, notation, axiom, sorry.
-/
import Derived.Test.YtgminjippechkaaChecked
import GoSem.Claim
import GoSem.ClaimJoined
import GoSem.ClaimMapViews
import Derived.JoinedTies
import Derived.KernelRfl
namespace Go.Proofs.Ytgminjippechkaa
/- THE CELL 'sum', in the pinned program and in every row, IS THE sha256 OF THE DUMP (.gsa) THAT YtgminjippechkaaProg.lean LOADS. Nothing in Lean hashes anything: it is a label: what it is worth is what the hold of that sum in a sandbox is worth. -/
noncomputable def Try.pinned : Pinned := { name := "ytgminjippechkaa", sum := "732073d6d0141918b2f8f065f9c3114693ed0b183b93cdd07ff01b13a914e662", checked := Try.checked }
namespace Rows
def none {H : Type} : Left H := { results := [], args := [] }

/-- 'laws.FnExactOrderOfArrival': WHATEVER THE INPUT: true; the input reads as it did. -/
def fnExactOrderOfArrivalSpec : ChangeSpec := { name := "fnExactOrderOfArrival", fn := fun _ => fun
  | [d1, d2] => { results := [.lit (.bool true)], args := [d1, d2] }
  | _ => none }
def fnExactOrderOfArrivalRow : OpenClaim := { program := "ytgminjippechkaa", sum := "732073d6d0141918b2f8f065f9c3114693ed0b183b93cdd07ff01b13a914e662", func := "loop.example/g01176/laws.FnExactOrderOfArrival", spec := "fnExactOrderOfArrival", unfollowed := true, recurses := true, apart := false }
def FnExactOrderOfArrivalSaid : Prop := fnExactOrderOfArrivalRow.holds Try.pinned (OpenSpec.ofChange fnExactOrderOfArrivalSpec)

/-- ITS FALSE NEIGHBOUR: 'it returns false'. Refute it at one input. -/
def fnExactOrderOfArrivalWrong : ChangeSpec := { name := "fnExactOrderOfArrival", fn := fun _ => fun
  | [d1, d2] => { results := [.lit (.bool false)], args := [d1, d2] }
  | _ => none }
def FnExactOrderOfArrivalWrongFalsely : Prop := fnExactOrderOfArrivalRow.holds Try.pinned (OpenSpec.ofChange fnExactOrderOfArrivalWrong)

/-- 'laws.FnExactFullCalls': WHATEVER THE INPUT: true; the input reads as it did. -/
def fnExactFullCallsSpec : ChangeSpec := { name := "fnExactFullCalls", fn := fun _ => fun
  | [d1, d2] => { results := [.lit (.bool true)], args := [d1, d2] }
  | _ => none }
def fnExactFullCallsRow : OpenClaim := { program := "ytgminjippechkaa", sum := "732073d6d0141918b2f8f065f9c3114693ed0b183b93cdd07ff01b13a914e662", func := "loop.example/g01176/laws.FnExactFullCalls", spec := "fnExactFullCalls", apart := false }
def FnExactFullCallsSaid : Prop := fnExactFullCallsRow.holds Try.pinned (OpenSpec.ofChange fnExactFullCallsSpec)

/-- ITS FALSE NEIGHBOUR: 'it returns false'. Refute it at one input. -/
def fnExactFullCallsWrong : ChangeSpec := { name := "fnExactFullCalls", fn := fun _ => fun
  | [d1, d2] => { results := [.lit (.bool false)], args := [d1, d2] }
  | _ => none }
def FnExactFullCallsWrongFalsely : Prop := fnExactFullCallsRow.holds Try.pinned (OpenSpec.ofChange fnExactFullCallsWrong)

/-- 'laws.FnExactFullShares': WHATEVER THE INPUT: true; the input reads as it did. -/
def fnExactFullSharesSpec : ChangeSpec := { name := "fnExactFullShares", fn := fun _ => fun
  | [d1, d2] => { results := [.lit (.bool true)], args := [d1, d2] }
  | _ => none }
def fnExactFullSharesRow : OpenClaim := { program := "ytgminjippechkaa", sum := "732073d6d0141918b2f8f065f9c3114693ed0b183b93cdd07ff01b13a914e662", func := "loop.example/g01176/laws.FnExactFullShares", spec := "fnExactFullShares", apart := false }
def FnExactFullSharesSaid : Prop := fnExactFullSharesRow.holds Try.pinned (OpenSpec.ofChange fnExactFullSharesSpec)

/-- ITS FALSE NEIGHBOUR: 'it returns false'. Refute it at one input. -/
def fnExactFullSharesWrong : ChangeSpec := { name := "fnExactFullShares", fn := fun _ => fun
  | [d1, d2] => { results := [.lit (.bool false)], args := [d1, d2] }
  | _ => none }
def FnExactFullSharesWrongFalsely : Prop := fnExactFullSharesRow.holds Try.pinned (OpenSpec.ofChange fnExactFullSharesWrong)

/-- 'laws.FnExactAreCalls': WHATEVER THE INPUT: true; the input reads as it did. -/
def fnExactAreCallsSpec : ChangeSpec := { name := "fnExactAreCalls", fn := fun _ => fun
  | [d1, d2] => { results := [.lit (.bool true)], args := [d1, d2] }
  | _ => none }
def fnExactAreCallsRow : OpenClaim := { program := "ytgminjippechkaa", sum := "732073d6d0141918b2f8f065f9c3114693ed0b183b93cdd07ff01b13a914e662", func := "loop.example/g01176/laws.FnExactAreCalls", spec := "fnExactAreCalls", unfollowed := true, recurses := true, apart := false }
def FnExactAreCallsSaid : Prop := fnExactAreCallsRow.holds Try.pinned (OpenSpec.ofChange fnExactAreCallsSpec)

/-- ITS FALSE NEIGHBOUR: 'it returns false'. Refute it at one input. -/
def fnExactAreCallsWrong : ChangeSpec := { name := "fnExactAreCalls", fn := fun _ => fun
  | [d1, d2] => { results := [.lit (.bool false)], args := [d1, d2] }
  | _ => none }
def FnExactAreCallsWrongFalsely : Prop := fnExactAreCallsRow.holds Try.pinned (OpenSpec.ofChange fnExactAreCallsWrong)

/-- 'laws.FnExactTokenAt': WHATEVER THE INPUT: true; the input reads as it did. -/
def fnExactTokenAtSpec : ChangeSpec := { name := "fnExactTokenAt", fn := fun _ => fun
  | [d1, d2, d3] => { results := [.lit (.bool true)], args := [d1, d2, d3] }
  | _ => none }
def fnExactTokenAtRow : OpenClaim := { program := "ytgminjippechkaa", sum := "732073d6d0141918b2f8f065f9c3114693ed0b183b93cdd07ff01b13a914e662", func := "loop.example/g01176/laws.FnExactTokenAt", spec := "fnExactTokenAt", unfollowed := true, recurses := true, apart := false }
def FnExactTokenAtSaid : Prop := fnExactTokenAtRow.holds Try.pinned (OpenSpec.ofChange fnExactTokenAtSpec)

/-- ITS FALSE NEIGHBOUR: 'it returns false'. Refute it at one input. -/
def fnExactTokenAtWrong : ChangeSpec := { name := "fnExactTokenAt", fn := fun _ => fun
  | [d1, d2, d3] => { results := [.lit (.bool false)], args := [d1, d2, d3] }
  | _ => none }
def FnExactTokenAtWrongFalsely : Prop := fnExactTokenAtRow.holds Try.pinned (OpenSpec.ofChange fnExactTokenAtWrong)

/-- 'laws.FnExactLongestWait': WHATEVER THE INPUT: true; the input reads as it did. -/
def fnExactLongestWaitSpec : ChangeSpec := { name := "fnExactLongestWait", fn := fun _ => fun
  | [d1, d2] => { results := [.lit (.bool true)], args := [d1, d2] }
  | _ => none }
def fnExactLongestWaitRow : OpenClaim := { program := "ytgminjippechkaa", sum := "732073d6d0141918b2f8f065f9c3114693ed0b183b93cdd07ff01b13a914e662", func := "loop.example/g01176/laws.FnExactLongestWait", spec := "fnExactLongestWait", unfollowed := true, recurses := true, apart := false }
def FnExactLongestWaitSaid : Prop := fnExactLongestWaitRow.holds Try.pinned (OpenSpec.ofChange fnExactLongestWaitSpec)

/-- ITS FALSE NEIGHBOUR: 'it returns false'. Refute it at one input. -/
def fnExactLongestWaitWrong : ChangeSpec := { name := "fnExactLongestWait", fn := fun _ => fun
  | [d1, d2] => { results := [.lit (.bool false)], args := [d1, d2] }
  | _ => none }
def FnExactLongestWaitWrongFalsely : Prop := fnExactLongestWaitRow.holds Try.pinned (OpenSpec.ofChange fnExactLongestWaitWrong)

/-- 'laws.FnExactRestAt': WHATEVER THE INPUT: true; the input reads as it did. -/
def fnExactRestAtSpec : ChangeSpec := { name := "fnExactRestAt", fn := fun _ => fun
  | [d1, d2] => { results := [.lit (.bool true)], args := [d1, d2] }
  | _ => none }
def fnExactRestAtRow : OpenClaim := { program := "ytgminjippechkaa", sum := "732073d6d0141918b2f8f065f9c3114693ed0b183b93cdd07ff01b13a914e662", func := "loop.example/g01176/laws.FnExactRestAt", spec := "fnExactRestAt", unfollowed := true, recurses := true, apart := false }
def FnExactRestAtSaid : Prop := fnExactRestAtRow.holds Try.pinned (OpenSpec.ofChange fnExactRestAtSpec)

/-- ITS FALSE NEIGHBOUR: 'it returns false'. Refute it at one input. -/
def fnExactRestAtWrong : ChangeSpec := { name := "fnExactRestAt", fn := fun _ => fun
  | [d1, d2] => { results := [.lit (.bool false)], args := [d1, d2] }
  | _ => none }
def FnExactRestAtWrongFalsely : Prop := fnExactRestAtRow.holds Try.pinned (OpenSpec.ofChange fnExactRestAtWrong)

/-- 'laws.FnExactVisitsOf': WHATEVER THE INPUT: true; the input reads as it did. -/
def fnExactVisitsOfSpec : ChangeSpec := { name := "fnExactVisitsOf", fn := fun _ => fun
  | [d1, d2, d3] => { results := [.lit (.bool true)], args := [d1, d2, d3] }
  | _ => none }
def fnExactVisitsOfRow : OpenClaim := { program := "ytgminjippechkaa", sum := "732073d6d0141918b2f8f065f9c3114693ed0b183b93cdd07ff01b13a914e662", func := "loop.example/g01176/laws.FnExactVisitsOf", spec := "fnExactVisitsOf", unfollowed := true, recurses := true, apart := false }
def FnExactVisitsOfSaid : Prop := fnExactVisitsOfRow.holds Try.pinned (OpenSpec.ofChange fnExactVisitsOfSpec)

/-- ITS FALSE NEIGHBOUR: 'it returns false'. Refute it at one input. -/
def fnExactVisitsOfWrong : ChangeSpec := { name := "fnExactVisitsOf", fn := fun _ => fun
  | [d1, d2, d3] => { results := [.lit (.bool false)], args := [d1, d2, d3] }
  | _ => none }
def FnExactVisitsOfWrongFalsely : Prop := fnExactVisitsOfRow.holds Try.pinned (OpenSpec.ofChange fnExactVisitsOfWrong)

/-- 'laws.FnExactSentAt': WHATEVER THE INPUT: true; the input reads as it did. -/
def fnExactSentAtSpec : ChangeSpec := { name := "fnExactSentAt", fn := fun _ => fun
  | [d1, d2] => { results := [.lit (.bool true)], args := [d1, d2] }
  | _ => none }
def fnExactSentAtRow : OpenClaim := { program := "ytgminjippechkaa", sum := "732073d6d0141918b2f8f065f9c3114693ed0b183b93cdd07ff01b13a914e662", func := "loop.example/g01176/laws.FnExactSentAt", spec := "fnExactSentAt", unfollowed := true, recurses := true, apart := false }
def FnExactSentAtSaid : Prop := fnExactSentAtRow.holds Try.pinned (OpenSpec.ofChange fnExactSentAtSpec)

/-- ITS FALSE NEIGHBOUR: 'it returns false'. Refute it at one input. -/
def fnExactSentAtWrong : ChangeSpec := { name := "fnExactSentAt", fn := fun _ => fun
  | [d1, d2] => { results := [.lit (.bool false)], args := [d1, d2] }
  | _ => none }
def FnExactSentAtWrongFalsely : Prop := fnExactSentAtRow.holds Try.pinned (OpenSpec.ofChange fnExactSentAtWrong)

/-- 'laws.FnExactArrivedAt': WHATEVER THE INPUT: true; the input reads as it did. -/
def fnExactArrivedAtSpec : ChangeSpec := { name := "fnExactArrivedAt", fn := fun _ => fun
  | [d1, d2] => { results := [.lit (.bool true)], args := [d1, d2] }
  | _ => none }
def fnExactArrivedAtRow : OpenClaim := { program := "ytgminjippechkaa", sum := "732073d6d0141918b2f8f065f9c3114693ed0b183b93cdd07ff01b13a914e662", func := "loop.example/g01176/laws.FnExactArrivedAt", spec := "fnExactArrivedAt", unfollowed := true, recurses := true, apart := false }
def FnExactArrivedAtSaid : Prop := fnExactArrivedAtRow.holds Try.pinned (OpenSpec.ofChange fnExactArrivedAtSpec)

/-- ITS FALSE NEIGHBOUR: 'it returns false'. Refute it at one input. -/
def fnExactArrivedAtWrong : ChangeSpec := { name := "fnExactArrivedAt", fn := fun _ => fun
  | [d1, d2] => { results := [.lit (.bool false)], args := [d1, d2] }
  | _ => none }
def FnExactArrivedAtWrongFalsely : Prop := fnExactArrivedAtRow.holds Try.pinned (OpenSpec.ofChange fnExactArrivedAtWrong)

/-- 'laws.FnExactBacklogAt': WHATEVER THE INPUT: true; the input reads as it did. -/
def fnExactBacklogAtSpec : ChangeSpec := { name := "fnExactBacklogAt", fn := fun _ => fun
  | [d1, d2, d3] => { results := [.lit (.bool true)], args := [d1, d2, d3] }
  | _ => none }
def fnExactBacklogAtRow : OpenClaim := { program := "ytgminjippechkaa", sum := "732073d6d0141918b2f8f065f9c3114693ed0b183b93cdd07ff01b13a914e662", func := "loop.example/g01176/laws.FnExactBacklogAt", spec := "fnExactBacklogAt", unfollowed := true, recurses := true, apart := false }
def FnExactBacklogAtSaid : Prop := fnExactBacklogAtRow.holds Try.pinned (OpenSpec.ofChange fnExactBacklogAtSpec)

/-- ITS FALSE NEIGHBOUR: 'it returns false'. Refute it at one input. -/
def fnExactBacklogAtWrong : ChangeSpec := { name := "fnExactBacklogAt", fn := fun _ => fun
  | [d1, d2, d3] => { results := [.lit (.bool false)], args := [d1, d2, d3] }
  | _ => none }
def FnExactBacklogAtWrongFalsely : Prop := fnExactBacklogAtRow.holds Try.pinned (OpenSpec.ofChange fnExactBacklogAtWrong)

/- THE SECOND FORM. 'bulk': how many values and letters a reading holds, each counted each time it is reached (what is shared counts as often as it is met; a slice's spare places count too). A statement '..UptoSaid' is the law's where the arguments, and the package variables that the reading takes, are together of bulk at most 1048576: NARROWER than '..Said'. Prove '..Said' where nothing that the law and all that it calls make is longer than what came in: it says more and counts as full. Else prove '..UptoSaid'. A law counts once. -/
mutual
def uptoBulk {H : Type} : DataW H → Nat
  | .lit (.string bytes) => bytes.length + 1
  | .lit _ => 1
  | .nil => 1
  | .ptr d => uptoBulk d + 1
  | .slice elems spare => uptoBulkAll elems + uptoBulkAll spare + 1
  | .agg parts => uptoBulkAll parts + 1
  | .iface _ d => uptoBulk d + 1
  | .map entries => uptoBulkEntries entries + 1
  | .held _ => 1
def uptoBulkAll {H : Type} : List (DataW H) → Nat
  | [] => 0
  | d :: r => uptoBulk d + uptoBulkAll r
def uptoBulkEntries {H : Type} : List (Lit × DataW H) → Nat
  | [] => 0
  | x :: r => uptoBulkEntry x + uptoBulkEntries r
def uptoBulkEntry {H : Type} : Lit × DataW H → Nat
  | (.string bytes, d) => bytes.length + uptoBulk d + 1
  | (_, d) => uptoBulk d + 1
 end
def uptoSmall : (H : Type) → List (DataW H) → Bool := fun _ ds => decide (uptoBulkAll ds ≤ 1048576)
def OpenSpec.upto (s : _root_.Go.ChangeSpec) : _root_.Go.OpenSpec := { _root_.Go.OpenSpec.ofChange s with cond := some uptoSmall }

/-- 'laws.FnExactOrderOfArrival', WHERE WHAT IT READS IS OF BULK AT MOST 1048576: true; the input reads as it did. -/
def fnExactOrderOfArrivalUptoRow : OpenClaim := { program := "ytgminjippechkaa", sum := "732073d6d0141918b2f8f065f9c3114693ed0b183b93cdd07ff01b13a914e662", func := "loop.example/g01176/laws.FnExactOrderOfArrival", spec := "fnExactOrderOfArrival", unfollowed := true, recurses := true, apart := false, narrowed := true }
def FnExactOrderOfArrivalUptoSaid : Prop := fnExactOrderOfArrivalUptoRow.holds Try.pinned (OpenSpec.upto fnExactOrderOfArrivalSpec)

/-- 'laws.FnExactFullCalls', WHERE WHAT IT READS IS OF BULK AT MOST 1048576: true; the input reads as it did. -/
def fnExactFullCallsUptoRow : OpenClaim := { program := "ytgminjippechkaa", sum := "732073d6d0141918b2f8f065f9c3114693ed0b183b93cdd07ff01b13a914e662", func := "loop.example/g01176/laws.FnExactFullCalls", spec := "fnExactFullCalls", apart := false, narrowed := true }
def FnExactFullCallsUptoSaid : Prop := fnExactFullCallsUptoRow.holds Try.pinned (OpenSpec.upto fnExactFullCallsSpec)

/-- 'laws.FnExactFullShares', WHERE WHAT IT READS IS OF BULK AT MOST 1048576: true; the input reads as it did. -/
def fnExactFullSharesUptoRow : OpenClaim := { program := "ytgminjippechkaa", sum := "732073d6d0141918b2f8f065f9c3114693ed0b183b93cdd07ff01b13a914e662", func := "loop.example/g01176/laws.FnExactFullShares", spec := "fnExactFullShares", apart := false, narrowed := true }
def FnExactFullSharesUptoSaid : Prop := fnExactFullSharesUptoRow.holds Try.pinned (OpenSpec.upto fnExactFullSharesSpec)

/-- 'laws.FnExactAreCalls', WHERE WHAT IT READS IS OF BULK AT MOST 1048576: true; the input reads as it did. -/
def fnExactAreCallsUptoRow : OpenClaim := { program := "ytgminjippechkaa", sum := "732073d6d0141918b2f8f065f9c3114693ed0b183b93cdd07ff01b13a914e662", func := "loop.example/g01176/laws.FnExactAreCalls", spec := "fnExactAreCalls", unfollowed := true, recurses := true, apart := false, narrowed := true }
def FnExactAreCallsUptoSaid : Prop := fnExactAreCallsUptoRow.holds Try.pinned (OpenSpec.upto fnExactAreCallsSpec)

/-- 'laws.FnExactTokenAt', WHERE WHAT IT READS IS OF BULK AT MOST 1048576: true; the input reads as it did. -/
def fnExactTokenAtUptoRow : OpenClaim := { program := "ytgminjippechkaa", sum := "732073d6d0141918b2f8f065f9c3114693ed0b183b93cdd07ff01b13a914e662", func := "loop.example/g01176/laws.FnExactTokenAt", spec := "fnExactTokenAt", unfollowed := true, recurses := true, apart := false, narrowed := true }
def FnExactTokenAtUptoSaid : Prop := fnExactTokenAtUptoRow.holds Try.pinned (OpenSpec.upto fnExactTokenAtSpec)

/-- 'laws.FnExactLongestWait', WHERE WHAT IT READS IS OF BULK AT MOST 1048576: true; the input reads as it did. -/
def fnExactLongestWaitUptoRow : OpenClaim := { program := "ytgminjippechkaa", sum := "732073d6d0141918b2f8f065f9c3114693ed0b183b93cdd07ff01b13a914e662", func := "loop.example/g01176/laws.FnExactLongestWait", spec := "fnExactLongestWait", unfollowed := true, recurses := true, apart := false, narrowed := true }
def FnExactLongestWaitUptoSaid : Prop := fnExactLongestWaitUptoRow.holds Try.pinned (OpenSpec.upto fnExactLongestWaitSpec)

/-- 'laws.FnExactRestAt', WHERE WHAT IT READS IS OF BULK AT MOST 1048576: true; the input reads as it did. -/
def fnExactRestAtUptoRow : OpenClaim := { program := "ytgminjippechkaa", sum := "732073d6d0141918b2f8f065f9c3114693ed0b183b93cdd07ff01b13a914e662", func := "loop.example/g01176/laws.FnExactRestAt", spec := "fnExactRestAt", unfollowed := true, recurses := true, apart := false, narrowed := true }
def FnExactRestAtUptoSaid : Prop := fnExactRestAtUptoRow.holds Try.pinned (OpenSpec.upto fnExactRestAtSpec)

/-- 'laws.FnExactVisitsOf', WHERE WHAT IT READS IS OF BULK AT MOST 1048576: true; the input reads as it did. -/
def fnExactVisitsOfUptoRow : OpenClaim := { program := "ytgminjippechkaa", sum := "732073d6d0141918b2f8f065f9c3114693ed0b183b93cdd07ff01b13a914e662", func := "loop.example/g01176/laws.FnExactVisitsOf", spec := "fnExactVisitsOf", unfollowed := true, recurses := true, apart := false, narrowed := true }
def FnExactVisitsOfUptoSaid : Prop := fnExactVisitsOfUptoRow.holds Try.pinned (OpenSpec.upto fnExactVisitsOfSpec)

/-- 'laws.FnExactSentAt', WHERE WHAT IT READS IS OF BULK AT MOST 1048576: true; the input reads as it did. -/
def fnExactSentAtUptoRow : OpenClaim := { program := "ytgminjippechkaa", sum := "732073d6d0141918b2f8f065f9c3114693ed0b183b93cdd07ff01b13a914e662", func := "loop.example/g01176/laws.FnExactSentAt", spec := "fnExactSentAt", unfollowed := true, recurses := true, apart := false, narrowed := true }
def FnExactSentAtUptoSaid : Prop := fnExactSentAtUptoRow.holds Try.pinned (OpenSpec.upto fnExactSentAtSpec)

/-- 'laws.FnExactArrivedAt', WHERE WHAT IT READS IS OF BULK AT MOST 1048576: true; the input reads as it did. -/
def fnExactArrivedAtUptoRow : OpenClaim := { program := "ytgminjippechkaa", sum := "732073d6d0141918b2f8f065f9c3114693ed0b183b93cdd07ff01b13a914e662", func := "loop.example/g01176/laws.FnExactArrivedAt", spec := "fnExactArrivedAt", unfollowed := true, recurses := true, apart := false, narrowed := true }
def FnExactArrivedAtUptoSaid : Prop := fnExactArrivedAtUptoRow.holds Try.pinned (OpenSpec.upto fnExactArrivedAtSpec)

/-- 'laws.FnExactBacklogAt', WHERE WHAT IT READS IS OF BULK AT MOST 1048576: true; the input reads as it did. -/
def fnExactBacklogAtUptoRow : OpenClaim := { program := "ytgminjippechkaa", sum := "732073d6d0141918b2f8f065f9c3114693ed0b183b93cdd07ff01b13a914e662", func := "loop.example/g01176/laws.FnExactBacklogAt", spec := "fnExactBacklogAt", unfollowed := true, recurses := true, apart := false, narrowed := true }
def FnExactBacklogAtUptoSaid : Prop := fnExactBacklogAtUptoRow.holds Try.pinned (OpenSpec.upto fnExactBacklogAtSpec)

end Rows
end Go.Proofs.Ytgminjippechkaa
