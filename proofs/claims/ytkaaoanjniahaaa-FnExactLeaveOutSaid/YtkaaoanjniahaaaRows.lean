/-
  No cell of these rows narrows 'for every input' (looked for: loops, veiled, ifaces, maps, wideKeys, modest, calm, conditions, laid).
  DERIVED. THE GIVEN ROWS OF THIS SEAT. 12 by the template 'for every input the law returns true; each argument reads behind the call as it read before'; 0 by the template 'total and deterministic' (their statements: YtkaaoanjniahaaaTotals.lean).
  GIVEN WITH THE SEED: the statements are not yours to turn. If you find one false, say at which input.
  Laid BY PROGRAM, IN A SANDBOX (cutbox-rows.mjs): the forced cells as the released guide's own fill.sh prints them over the translation bdf8a43ebee047d4… (all of the seat's roots in one cut). By AI agents, Wed Nov 11 2026. No macro, syntax, notation, axiom, sorry.
-/
import Derived.Test.YtkaaoanjniahaaaChecked
import GoSem.Claim
import GoSem.ClaimJoined
import GoSem.ClaimMapViews
import Derived.JoinedTies
import Derived.KernelRfl
namespace Go.Proofs.Ytkaaoanjniahaaa
/- THE CELL 'sum', in the pinned program and in every row, IS THE sha256 OF THE DUMP (.gsa) THAT YtkaaoanjniahaaaProg.lean LOADS. Nothing in Lean hashes anything: it is a label: what it is worth is what the hold of that sum in a sandbox is worth. -/
noncomputable def Try.pinned : Pinned := { name := "ytkaaoanjniahaaa", sum := "bdf8a43ebee047d4d9774cee6fa5da3c114197c6cca8fb81b3e10c7661a21243", checked := Try.checked }
namespace Rows
def none {H : Type} : Left H := { results := [], args := [] }

/-- 'laws.FnExactCanAllTalk': WHATEVER THE INPUT: true; the input reads as it did. -/
def fnExactCanAllTalkSpec : ChangeSpec := { name := "fnExactCanAllTalk", fn := fun _ => fun
  | [d] => { results := [.lit (.bool true)], args := [d] }
  | _ => none }
def fnExactCanAllTalkRow : OpenClaim := { program := "ytkaaoanjniahaaa", sum := "bdf8a43ebee047d4d9774cee6fa5da3c114197c6cca8fb81b3e10c7661a21243", func := "loop.example/g01176/laws.FnExactCanAllTalk", spec := "fnExactCanAllTalk", unfollowed := true, recurses := true, apart := false }
def FnExactCanAllTalkSaid : Prop := fnExactCanAllTalkRow.holds Try.pinned (OpenSpec.ofChange fnExactCanAllTalkSpec)

/-- ITS FALSE NEIGHBOUR: 'it returns false'. Refute it at one input. -/
def fnExactCanAllTalkWrong : ChangeSpec := { name := "fnExactCanAllTalk", fn := fun _ => fun
  | [d] => { results := [.lit (.bool false)], args := [d] }
  | _ => none }
def FnExactCanAllTalkWrongFalsely : Prop := fnExactCanAllTalkRow.holds Try.pinned (OpenSpec.ofChange fnExactCanAllTalkWrong)

/-- 'laws.FnExactNextOf': WHATEVER THE INPUT: true; the input reads as it did. -/
def fnExactNextOfSpec : ChangeSpec := { name := "fnExactNextOf", fn := fun _ => fun
  | [d1, d2] => { results := [.lit (.bool true)], args := [d1, d2] }
  | _ => none }
def fnExactNextOfRow : OpenClaim := { program := "ytkaaoanjniahaaa", sum := "bdf8a43ebee047d4d9774cee6fa5da3c114197c6cca8fb81b3e10c7661a21243", func := "loop.example/g01176/laws.FnExactNextOf", spec := "fnExactNextOf", unfollowed := true, recurses := true, apart := false }
def FnExactNextOfSaid : Prop := fnExactNextOfRow.holds Try.pinned (OpenSpec.ofChange fnExactNextOfSpec)

/-- ITS FALSE NEIGHBOUR: 'it returns false'. Refute it at one input. -/
def fnExactNextOfWrong : ChangeSpec := { name := "fnExactNextOf", fn := fun _ => fun
  | [d1, d2] => { results := [.lit (.bool false)], args := [d1, d2] }
  | _ => none }
def FnExactNextOfWrongFalsely : Prop := fnExactNextOfRow.holds Try.pinned (OpenSpec.ofChange fnExactNextOfWrong)

/-- 'laws.FnExactHopsOf': WHATEVER THE INPUT: true; the input reads as it did. -/
def fnExactHopsOfSpec : ChangeSpec := { name := "fnExactHopsOf", fn := fun _ => fun
  | [d1, d2, d3] => { results := [.lit (.bool true)], args := [d1, d2, d3] }
  | _ => none }
def fnExactHopsOfRow : OpenClaim := { program := "ytkaaoanjniahaaa", sum := "bdf8a43ebee047d4d9774cee6fa5da3c114197c6cca8fb81b3e10c7661a21243", func := "loop.example/g01176/laws.FnExactHopsOf", spec := "fnExactHopsOf", unfollowed := true, recurses := true, apart := false }
def FnExactHopsOfSaid : Prop := fnExactHopsOfRow.holds Try.pinned (OpenSpec.ofChange fnExactHopsOfSpec)

/-- ITS FALSE NEIGHBOUR: 'it returns false'. Refute it at one input. -/
def fnExactHopsOfWrong : ChangeSpec := { name := "fnExactHopsOf", fn := fun _ => fun
  | [d1, d2, d3] => { results := [.lit (.bool false)], args := [d1, d2, d3] }
  | _ => none }
def FnExactHopsOfWrongFalsely : Prop := fnExactHopsOfRow.holds Try.pinned (OpenSpec.ofChange fnExactHopsOfWrong)

/-- 'laws.FnExactMirrorRing': WHATEVER THE INPUT: true; the input reads as it did. -/
def fnExactMirrorRingSpec : ChangeSpec := { name := "fnExactMirrorRing", fn := fun _ => fun
  | [d] => { results := [.lit (.bool true)], args := [d] }
  | _ => none }
def fnExactMirrorRingRow : OpenClaim := { program := "ytkaaoanjniahaaa", sum := "bdf8a43ebee047d4d9774cee6fa5da3c114197c6cca8fb81b3e10c7661a21243", func := "loop.example/g01176/laws.FnExactMirrorRing", spec := "fnExactMirrorRing", unfollowed := true, recurses := true, apart := false }
def FnExactMirrorRingSaid : Prop := fnExactMirrorRingRow.holds Try.pinned (OpenSpec.ofChange fnExactMirrorRingSpec)

/-- ITS FALSE NEIGHBOUR: 'it returns false'. Refute it at one input. -/
def fnExactMirrorRingWrong : ChangeSpec := { name := "fnExactMirrorRing", fn := fun _ => fun
  | [d] => { results := [.lit (.bool false)], args := [d] }
  | _ => none }
def FnExactMirrorRingWrongFalsely : Prop := fnExactMirrorRingRow.holds Try.pinned (OpenSpec.ofChange fnExactMirrorRingWrong)

/-- 'laws.FnExactTurnRing': WHATEVER THE INPUT: true; the input reads as it did. -/
def fnExactTurnRingSpec : ChangeSpec := { name := "fnExactTurnRing", fn := fun _ => fun
  | [d1, d2] => { results := [.lit (.bool true)], args := [d1, d2] }
  | _ => none }
def fnExactTurnRingRow : OpenClaim := { program := "ytkaaoanjniahaaa", sum := "bdf8a43ebee047d4d9774cee6fa5da3c114197c6cca8fb81b3e10c7661a21243", func := "loop.example/g01176/laws.FnExactTurnRing", spec := "fnExactTurnRing", unfollowed := true, recurses := true, apart := false }
def FnExactTurnRingSaid : Prop := fnExactTurnRingRow.holds Try.pinned (OpenSpec.ofChange fnExactTurnRingSpec)

/-- ITS FALSE NEIGHBOUR: 'it returns false'. Refute it at one input. -/
def fnExactTurnRingWrong : ChangeSpec := { name := "fnExactTurnRing", fn := fun _ => fun
  | [d1, d2] => { results := [.lit (.bool false)], args := [d1, d2] }
  | _ => none }
def FnExactTurnRingWrongFalsely : Prop := fnExactTurnRingRow.holds Try.pinned (OpenSpec.ofChange fnExactTurnRingWrong)

/-- 'laws.FnExactWayOf': WHATEVER THE INPUT: true; the input reads as it did. -/
def fnExactWayOfSpec : ChangeSpec := { name := "fnExactWayOf", fn := fun _ => fun
  | [d1, d2, d3] => { results := [.lit (.bool true)], args := [d1, d2, d3] }
  | _ => none }
def fnExactWayOfRow : OpenClaim := { program := "ytkaaoanjniahaaa", sum := "bdf8a43ebee047d4d9774cee6fa5da3c114197c6cca8fb81b3e10c7661a21243", func := "loop.example/g01176/laws.FnExactWayOf", spec := "fnExactWayOf", unfollowed := true, recurses := true, apart := false }
def FnExactWayOfSaid : Prop := fnExactWayOfRow.holds Try.pinned (OpenSpec.ofChange fnExactWayOfSpec)

/-- ITS FALSE NEIGHBOUR: 'it returns false'. Refute it at one input. -/
def fnExactWayOfWrong : ChangeSpec := { name := "fnExactWayOf", fn := fun _ => fun
  | [d1, d2, d3] => { results := [.lit (.bool false)], args := [d1, d2, d3] }
  | _ => none }
def FnExactWayOfWrongFalsely : Prop := fnExactWayOfRow.holds Try.pinned (OpenSpec.ofChange fnExactWayOfWrong)

/-- 'laws.FnExactMendLink': WHATEVER THE INPUT: true; the input reads as it did. -/
def fnExactMendLinkSpec : ChangeSpec := { name := "fnExactMendLink", fn := fun _ => fun
  | [d1, d2] => { results := [.lit (.bool true)], args := [d1, d2] }
  | _ => none }
def fnExactMendLinkRow : OpenClaim := { program := "ytkaaoanjniahaaa", sum := "bdf8a43ebee047d4d9774cee6fa5da3c114197c6cca8fb81b3e10c7661a21243", func := "loop.example/g01176/laws.FnExactMendLink", spec := "fnExactMendLink", unfollowed := true, recurses := true, apart := false }
def FnExactMendLinkSaid : Prop := fnExactMendLinkRow.holds Try.pinned (OpenSpec.ofChange fnExactMendLinkSpec)

/-- ITS FALSE NEIGHBOUR: 'it returns false'. Refute it at one input. -/
def fnExactMendLinkWrong : ChangeSpec := { name := "fnExactMendLink", fn := fun _ => fun
  | [d1, d2] => { results := [.lit (.bool false)], args := [d1, d2] }
  | _ => none }
def FnExactMendLinkWrongFalsely : Prop := fnExactMendLinkRow.holds Try.pinned (OpenSpec.ofChange fnExactMendLinkWrong)

/-- 'laws.FnExactBreakLink': WHATEVER THE INPUT: true; the input reads as it did. -/
def fnExactBreakLinkSpec : ChangeSpec := { name := "fnExactBreakLink", fn := fun _ => fun
  | [d1, d2] => { results := [.lit (.bool true)], args := [d1, d2] }
  | _ => none }
def fnExactBreakLinkRow : OpenClaim := { program := "ytkaaoanjniahaaa", sum := "bdf8a43ebee047d4d9774cee6fa5da3c114197c6cca8fb81b3e10c7661a21243", func := "loop.example/g01176/laws.FnExactBreakLink", spec := "fnExactBreakLink", unfollowed := true, recurses := true, apart := false }
def FnExactBreakLinkSaid : Prop := fnExactBreakLinkRow.holds Try.pinned (OpenSpec.ofChange fnExactBreakLinkSpec)

/-- ITS FALSE NEIGHBOUR: 'it returns false'. Refute it at one input. -/
def fnExactBreakLinkWrong : ChangeSpec := { name := "fnExactBreakLink", fn := fun _ => fun
  | [d1, d2] => { results := [.lit (.bool false)], args := [d1, d2] }
  | _ => none }
def FnExactBreakLinkWrongFalsely : Prop := fnExactBreakLinkRow.holds Try.pinned (OpenSpec.ofChange fnExactBreakLinkWrong)

/-- 'laws.FnExactDoubleHops': WHATEVER THE INPUT: true; the input reads as it did. -/
def fnExactDoubleHopsSpec : ChangeSpec := { name := "fnExactDoubleHops", fn := fun _ => fun
  | [d1, d2, d3] => { results := [.lit (.bool true)], args := [d1, d2, d3] }
  | _ => none }
def fnExactDoubleHopsRow : OpenClaim := { program := "ytkaaoanjniahaaa", sum := "bdf8a43ebee047d4d9774cee6fa5da3c114197c6cca8fb81b3e10c7661a21243", func := "loop.example/g01176/laws.FnExactDoubleHops", spec := "fnExactDoubleHops", unfollowed := true, recurses := true, apart := false }
def FnExactDoubleHopsSaid : Prop := fnExactDoubleHopsRow.holds Try.pinned (OpenSpec.ofChange fnExactDoubleHopsSpec)

/-- ITS FALSE NEIGHBOUR: 'it returns false'. Refute it at one input. -/
def fnExactDoubleHopsWrong : ChangeSpec := { name := "fnExactDoubleHops", fn := fun _ => fun
  | [d1, d2, d3] => { results := [.lit (.bool false)], args := [d1, d2, d3] }
  | _ => none }
def FnExactDoubleHopsWrongFalsely : Prop := fnExactDoubleHopsRow.holds Try.pinned (OpenSpec.ofChange fnExactDoubleHopsWrong)

/-- 'laws.FnExactWidestOf': WHATEVER THE INPUT: true; the input reads as it did. -/
def fnExactWidestOfSpec : ChangeSpec := { name := "fnExactWidestOf", fn := fun _ => fun
  | [d] => { results := [.lit (.bool true)], args := [d] }
  | _ => none }
def fnExactWidestOfRow : OpenClaim := { program := "ytkaaoanjniahaaa", sum := "bdf8a43ebee047d4d9774cee6fa5da3c114197c6cca8fb81b3e10c7661a21243", func := "loop.example/g01176/laws.FnExactWidestOf", spec := "fnExactWidestOf", unfollowed := true, recurses := true, apart := false }
def FnExactWidestOfSaid : Prop := fnExactWidestOfRow.holds Try.pinned (OpenSpec.ofChange fnExactWidestOfSpec)

/-- ITS FALSE NEIGHBOUR: 'it returns false'. Refute it at one input. -/
def fnExactWidestOfWrong : ChangeSpec := { name := "fnExactWidestOf", fn := fun _ => fun
  | [d] => { results := [.lit (.bool false)], args := [d] }
  | _ => none }
def FnExactWidestOfWrongFalsely : Prop := fnExactWidestOfRow.holds Try.pinned (OpenSpec.ofChange fnExactWidestOfWrong)

/-- 'laws.FnExactLeaveOut': WHATEVER THE INPUT: true; the input reads as it did. -/
def fnExactLeaveOutSpec : ChangeSpec := { name := "fnExactLeaveOut", fn := fun _ => fun
  | [d1, d2] => { results := [.lit (.bool true)], args := [d1, d2] }
  | _ => none }
def fnExactLeaveOutRow : OpenClaim := { program := "ytkaaoanjniahaaa", sum := "bdf8a43ebee047d4d9774cee6fa5da3c114197c6cca8fb81b3e10c7661a21243", func := "loop.example/g01176/laws.FnExactLeaveOut", spec := "fnExactLeaveOut", unfollowed := true, recurses := true, apart := false }
def FnExactLeaveOutSaid : Prop := fnExactLeaveOutRow.holds Try.pinned (OpenSpec.ofChange fnExactLeaveOutSpec)

/-- ITS FALSE NEIGHBOUR: 'it returns false'. Refute it at one input. -/
def fnExactLeaveOutWrong : ChangeSpec := { name := "fnExactLeaveOut", fn := fun _ => fun
  | [d1, d2] => { results := [.lit (.bool false)], args := [d1, d2] }
  | _ => none }
def FnExactLeaveOutWrongFalsely : Prop := fnExactLeaveOutRow.holds Try.pinned (OpenSpec.ofChange fnExactLeaveOutWrong)

/-- 'laws.FnExactWrapFrom': WHATEVER THE INPUT: true; the input reads as it did. -/
def fnExactWrapFromSpec : ChangeSpec := { name := "fnExactWrapFrom", fn := fun _ => fun
  | [d1, d2] => { results := [.lit (.bool true)], args := [d1, d2] }
  | _ => none }
def fnExactWrapFromRow : OpenClaim := { program := "ytkaaoanjniahaaa", sum := "bdf8a43ebee047d4d9774cee6fa5da3c114197c6cca8fb81b3e10c7661a21243", func := "loop.example/g01176/laws.FnExactWrapFrom", spec := "fnExactWrapFrom", unfollowed := true, recurses := true, apart := false }
def FnExactWrapFromSaid : Prop := fnExactWrapFromRow.holds Try.pinned (OpenSpec.ofChange fnExactWrapFromSpec)

/-- ITS FALSE NEIGHBOUR: 'it returns false'. Refute it at one input. -/
def fnExactWrapFromWrong : ChangeSpec := { name := "fnExactWrapFrom", fn := fun _ => fun
  | [d1, d2] => { results := [.lit (.bool false)], args := [d1, d2] }
  | _ => none }
def FnExactWrapFromWrongFalsely : Prop := fnExactWrapFromRow.holds Try.pinned (OpenSpec.ofChange fnExactWrapFromWrong)

/- THE SECOND FORM. 'bulk': how many values and letters a reading holds, each counted each time it is reached (what is shared counts as often as it is met; a slice's spare places count too). A statement '..UptoSaid' is the law's where the arguments, and the package variables that the reading takes, are together of bulk at most 1048576: NARROWER than '..Said'. Prove '..Said' where nothing that the law and all that it calls make is longer than what came in: it says more and counts as full. Else prove '..UptoSaid'. A law counts once. -/
mutual
def uptoBulk {H : Type} : DataW H → Nat
  | .lit (.string bytes) => bytes.length + 1
  | .lit _ => 1
  | .nil => 1
  | .ptr d => uptoBulk d + 1
  | .slice elems spare => uptoBulkAll elems + uptoBulkAll spare + 1
  | .agg parts => uptoBulkAll parts + 1
  | .iface _ d => uptoBulk d + 1
  | .map entries => uptoBulkEntries entries + 1
  | .held _ => 1
def uptoBulkAll {H : Type} : List (DataW H) → Nat
  | [] => 0
  | d :: r => uptoBulk d + uptoBulkAll r
def uptoBulkEntries {H : Type} : List (Lit × DataW H) → Nat
  | [] => 0
  | x :: r => uptoBulkEntry x + uptoBulkEntries r
def uptoBulkEntry {H : Type} : Lit × DataW H → Nat
  | (.string bytes, d) => bytes.length + uptoBulk d + 1
  | (_, d) => uptoBulk d + 1
 end
def uptoSmall : (H : Type) → List (DataW H) → Bool := fun _ ds => decide (uptoBulkAll ds ≤ 1048576)
def OpenSpec.upto (s : _root_.Go.ChangeSpec) : _root_.Go.OpenSpec := { _root_.Go.OpenSpec.ofChange s with cond := some uptoSmall }

/-- 'laws.FnExactCanAllTalk', WHERE WHAT IT READS IS OF BULK AT MOST 1048576: true; the input reads as it did. -/
def fnExactCanAllTalkUptoRow : OpenClaim := { program := "ytkaaoanjniahaaa", sum := "bdf8a43ebee047d4d9774cee6fa5da3c114197c6cca8fb81b3e10c7661a21243", func := "loop.example/g01176/laws.FnExactCanAllTalk", spec := "fnExactCanAllTalk", unfollowed := true, recurses := true, apart := false, narrowed := true }
def FnExactCanAllTalkUptoSaid : Prop := fnExactCanAllTalkUptoRow.holds Try.pinned (OpenSpec.upto fnExactCanAllTalkSpec)

/-- 'laws.FnExactNextOf', WHERE WHAT IT READS IS OF BULK AT MOST 1048576: true; the input reads as it did. -/
def fnExactNextOfUptoRow : OpenClaim := { program := "ytkaaoanjniahaaa", sum := "bdf8a43ebee047d4d9774cee6fa5da3c114197c6cca8fb81b3e10c7661a21243", func := "loop.example/g01176/laws.FnExactNextOf", spec := "fnExactNextOf", unfollowed := true, recurses := true, apart := false, narrowed := true }
def FnExactNextOfUptoSaid : Prop := fnExactNextOfUptoRow.holds Try.pinned (OpenSpec.upto fnExactNextOfSpec)

/-- 'laws.FnExactHopsOf', WHERE WHAT IT READS IS OF BULK AT MOST 1048576: true; the input reads as it did. -/
def fnExactHopsOfUptoRow : OpenClaim := { program := "ytkaaoanjniahaaa", sum := "bdf8a43ebee047d4d9774cee6fa5da3c114197c6cca8fb81b3e10c7661a21243", func := "loop.example/g01176/laws.FnExactHopsOf", spec := "fnExactHopsOf", unfollowed := true, recurses := true, apart := false, narrowed := true }
def FnExactHopsOfUptoSaid : Prop := fnExactHopsOfUptoRow.holds Try.pinned (OpenSpec.upto fnExactHopsOfSpec)

/-- 'laws.FnExactMirrorRing', WHERE WHAT IT READS IS OF BULK AT MOST 1048576: true; the input reads as it did. -/
def fnExactMirrorRingUptoRow : OpenClaim := { program := "ytkaaoanjniahaaa", sum := "bdf8a43ebee047d4d9774cee6fa5da3c114197c6cca8fb81b3e10c7661a21243", func := "loop.example/g01176/laws.FnExactMirrorRing", spec := "fnExactMirrorRing", unfollowed := true, recurses := true, apart := false, narrowed := true }
def FnExactMirrorRingUptoSaid : Prop := fnExactMirrorRingUptoRow.holds Try.pinned (OpenSpec.upto fnExactMirrorRingSpec)

/-- 'laws.FnExactTurnRing', WHERE WHAT IT READS IS OF BULK AT MOST 1048576: true; the input reads as it did. -/
def fnExactTurnRingUptoRow : OpenClaim := { program := "ytkaaoanjniahaaa", sum := "bdf8a43ebee047d4d9774cee6fa5da3c114197c6cca8fb81b3e10c7661a21243", func := "loop.example/g01176/laws.FnExactTurnRing", spec := "fnExactTurnRing", unfollowed := true, recurses := true, apart := false, narrowed := true }
def FnExactTurnRingUptoSaid : Prop := fnExactTurnRingUptoRow.holds Try.pinned (OpenSpec.upto fnExactTurnRingSpec)

/-- 'laws.FnExactWayOf', WHERE WHAT IT READS IS OF BULK AT MOST 1048576: true; the input reads as it did. -/
def fnExactWayOfUptoRow : OpenClaim := { program := "ytkaaoanjniahaaa", sum := "bdf8a43ebee047d4d9774cee6fa5da3c114197c6cca8fb81b3e10c7661a21243", func := "loop.example/g01176/laws.FnExactWayOf", spec := "fnExactWayOf", unfollowed := true, recurses := true, apart := false, narrowed := true }
def FnExactWayOfUptoSaid : Prop := fnExactWayOfUptoRow.holds Try.pinned (OpenSpec.upto fnExactWayOfSpec)

/-- 'laws.FnExactMendLink', WHERE WHAT IT READS IS OF BULK AT MOST 1048576: true; the input reads as it did. -/
def fnExactMendLinkUptoRow : OpenClaim := { program := "ytkaaoanjniahaaa", sum := "bdf8a43ebee047d4d9774cee6fa5da3c114197c6cca8fb81b3e10c7661a21243", func := "loop.example/g01176/laws.FnExactMendLink", spec := "fnExactMendLink", unfollowed := true, recurses := true, apart := false, narrowed := true }
def FnExactMendLinkUptoSaid : Prop := fnExactMendLinkUptoRow.holds Try.pinned (OpenSpec.upto fnExactMendLinkSpec)

/-- 'laws.FnExactBreakLink', WHERE WHAT IT READS IS OF BULK AT MOST 1048576: true; the input reads as it did. -/
def fnExactBreakLinkUptoRow : OpenClaim := { program := "ytkaaoanjniahaaa", sum := "bdf8a43ebee047d4d9774cee6fa5da3c114197c6cca8fb81b3e10c7661a21243", func := "loop.example/g01176/laws.FnExactBreakLink", spec := "fnExactBreakLink", unfollowed := true, recurses := true, apart := false, narrowed := true }
def FnExactBreakLinkUptoSaid : Prop := fnExactBreakLinkUptoRow.holds Try.pinned (OpenSpec.upto fnExactBreakLinkSpec)

/-- 'laws.FnExactDoubleHops', WHERE WHAT IT READS IS OF BULK AT MOST 1048576: true; the input reads as it did. -/
def fnExactDoubleHopsUptoRow : OpenClaim := { program := "ytkaaoanjniahaaa", sum := "bdf8a43ebee047d4d9774cee6fa5da3c114197c6cca8fb81b3e10c7661a21243", func := "loop.example/g01176/laws.FnExactDoubleHops", spec := "fnExactDoubleHops", unfollowed := true, recurses := true, apart := false, narrowed := true }
def FnExactDoubleHopsUptoSaid : Prop := fnExactDoubleHopsUptoRow.holds Try.pinned (OpenSpec.upto fnExactDoubleHopsSpec)

/-- 'laws.FnExactWidestOf', WHERE WHAT IT READS IS OF BULK AT MOST 1048576: true; the input reads as it did. -/
def fnExactWidestOfUptoRow : OpenClaim := { program := "ytkaaoanjniahaaa", sum := "bdf8a43ebee047d4d9774cee6fa5da3c114197c6cca8fb81b3e10c7661a21243", func := "loop.example/g01176/laws.FnExactWidestOf", spec := "fnExactWidestOf", unfollowed := true, recurses := true, apart := false, narrowed := true }
def FnExactWidestOfUptoSaid : Prop := fnExactWidestOfUptoRow.holds Try.pinned (OpenSpec.upto fnExactWidestOfSpec)

/-- 'laws.FnExactLeaveOut', WHERE WHAT IT READS IS OF BULK AT MOST 1048576: true; the input reads as it did. -/
def fnExactLeaveOutUptoRow : OpenClaim := { program := "ytkaaoanjniahaaa", sum := "bdf8a43ebee047d4d9774cee6fa5da3c114197c6cca8fb81b3e10c7661a21243", func := "loop.example/g01176/laws.FnExactLeaveOut", spec := "fnExactLeaveOut", unfollowed := true, recurses := true, apart := false, narrowed := true }
def FnExactLeaveOutUptoSaid : Prop := fnExactLeaveOutUptoRow.holds Try.pinned (OpenSpec.upto fnExactLeaveOutSpec)

/-- 'laws.FnExactWrapFrom', WHERE WHAT IT READS IS OF BULK AT MOST 1048576: true; the input reads as it did. -/
def fnExactWrapFromUptoRow : OpenClaim := { program := "ytkaaoanjniahaaa", sum := "bdf8a43ebee047d4d9774cee6fa5da3c114197c6cca8fb81b3e10c7661a21243", func := "loop.example/g01176/laws.FnExactWrapFrom", spec := "fnExactWrapFrom", unfollowed := true, recurses := true, apart := false, narrowed := true }
def FnExactWrapFromUptoSaid : Prop := fnExactWrapFromUptoRow.holds Try.pinned (OpenSpec.upto fnExactWrapFromSpec)

end Rows
end Go.Proofs.Ytkaaoanjniahaaa
