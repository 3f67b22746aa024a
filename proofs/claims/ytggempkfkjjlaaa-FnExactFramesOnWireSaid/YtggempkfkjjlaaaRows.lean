/-
  No cell of these rows narrows 'for every input' (looked for: loops, veiled, ifaces, maps, wideKeys, modest, calm, conditions, laid).
  DERIVED. THE GIVEN ROWS OF THIS SEAT. 12 by the template 'for every input the law returns true; each argument reads behind the call as it read before'; 0 by the template 'total and deterministic' (their statements: YtggempkfkjjlaaaTotals.lean).
  GIVEN WITH THE SEED: the statements are not yours to turn. If you find one false, say at which input.
  Laid BY PROGRAM, IN A SANDBOX (cutbox-rows.mjs): the forced cells as the released guide's own fill.sh prints them over the translation 8e9aa0c93290e45b… (all of the seat's roots in one cut). By AI agents, Wed Nov 11 2026. No macro, syntax, notation, axiom, sorry.
-/
import Derived.Test.YtggempkfkjjlaaaChecked
import GoSem.Claim
import GoSem.ClaimJoined
import GoSem.ClaimMapViews
import Derived.JoinedTies
import Derived.KernelRfl
namespace Go.Proofs.Ytggempkfkjjlaaa
/- THE CELL 'sum', in the pinned program and in every row, IS THE sha256 OF THE DUMP (.gsa) THAT YtggempkfkjjlaaaProg.lean LOADS. Nothing in Lean hashes anything: it is a label: what it is worth is what the hold of that sum in a sandbox is worth. -/
noncomputable def Try.pinned : Pinned := { name := "ytggempkfkjjlaaa", sum := "8e9aa0c93290e45b627a29c124470c30c0f47a67e6dd2f0457126c901566688b", checked := Try.checked }
namespace Rows
def none {H : Type} : Left H := { results := [], args := [] }

/-- 'laws.FnExactDistanceOf': WHATEVER THE INPUT: true; the input reads as it did. -/
def fnExactDistanceOfSpec : ChangeSpec := { name := "fnExactDistanceOf", fn := fun _ => fun
  | [d1, d2] => { results := [.lit (.bool true)], args := [d1, d2] }
  | _ => none }
def fnExactDistanceOfRow : OpenClaim := { program := "ytggempkfkjjlaaa", sum := "8e9aa0c93290e45b627a29c124470c30c0f47a67e6dd2f0457126c901566688b", func := "loop.example/g01176/laws.FnExactDistanceOf", spec := "fnExactDistanceOf", unfollowed := true, recurses := true, apart := false }
def FnExactDistanceOfSaid : Prop := fnExactDistanceOfRow.holds Try.pinned (OpenSpec.ofChange fnExactDistanceOfSpec)

/-- ITS FALSE NEIGHBOUR: 'it returns false'. Refute it at one input. -/
def fnExactDistanceOfWrong : ChangeSpec := { name := "fnExactDistanceOf", fn := fun _ => fun
  | [d1, d2] => { results := [.lit (.bool false)], args := [d1, d2] }
  | _ => none }
def FnExactDistanceOfWrongFalsely : Prop := fnExactDistanceOfRow.holds Try.pinned (OpenSpec.ofChange fnExactDistanceOfWrong)

/-- 'laws.FnExactHasCheck': WHATEVER THE INPUT: true; the input reads as it did. -/
def fnExactHasCheckSpec : ChangeSpec := { name := "fnExactHasCheck", fn := fun _ => fun
  | [d] => { results := [.lit (.bool true)], args := [d] }
  | _ => none }
def fnExactHasCheckRow : OpenClaim := { program := "ytggempkfkjjlaaa", sum := "8e9aa0c93290e45b627a29c124470c30c0f47a67e6dd2f0457126c901566688b", func := "loop.example/g01176/laws.FnExactHasCheck", spec := "fnExactHasCheck", unfollowed := true, recurses := true, apart := false }
def FnExactHasCheckSaid : Prop := fnExactHasCheckRow.holds Try.pinned (OpenSpec.ofChange fnExactHasCheckSpec)

/-- ITS FALSE NEIGHBOUR: 'it returns false'. Refute it at one input. -/
def fnExactHasCheckWrong : ChangeSpec := { name := "fnExactHasCheck", fn := fun _ => fun
  | [d] => { results := [.lit (.bool false)], args := [d] }
  | _ => none }
def FnExactHasCheckWrongFalsely : Prop := fnExactHasCheckRow.holds Try.pinned (OpenSpec.ofChange fnExactHasCheckWrong)

/-- 'laws.FnExactIsFrame': WHATEVER THE INPUT: true; the input reads as it did. -/
def fnExactIsFrameSpec : ChangeSpec := { name := "fnExactIsFrame", fn := fun _ => fun
  | [d] => { results := [.lit (.bool true)], args := [d] }
  | _ => none }
def fnExactIsFrameRow : OpenClaim := { program := "ytggempkfkjjlaaa", sum := "8e9aa0c93290e45b627a29c124470c30c0f47a67e6dd2f0457126c901566688b", func := "loop.example/g01176/laws.FnExactIsFrame", spec := "fnExactIsFrame", unfollowed := true, recurses := true, apart := false }
def FnExactIsFrameSaid : Prop := fnExactIsFrameRow.holds Try.pinned (OpenSpec.ofChange fnExactIsFrameSpec)

/-- ITS FALSE NEIGHBOUR: 'it returns false'. Refute it at one input. -/
def fnExactIsFrameWrong : ChangeSpec := { name := "fnExactIsFrame", fn := fun _ => fun
  | [d] => { results := [.lit (.bool false)], args := [d] }
  | _ => none }
def FnExactIsFrameWrongFalsely : Prop := fnExactIsFrameRow.holds Try.pinned (OpenSpec.ofChange fnExactIsFrameWrong)

/-- 'laws.FnExactBitsOf': WHATEVER THE INPUT: true; the input reads as it did. -/
def fnExactBitsOfSpec : ChangeSpec := { name := "fnExactBitsOf", fn := fun _ => fun
  | [d] => { results := [.lit (.bool true)], args := [d] }
  | _ => none }
def fnExactBitsOfRow : OpenClaim := { program := "ytggempkfkjjlaaa", sum := "8e9aa0c93290e45b627a29c124470c30c0f47a67e6dd2f0457126c901566688b", func := "loop.example/g01176/laws.FnExactBitsOf", spec := "fnExactBitsOf", unfollowed := true, recurses := true, apart := false }
def FnExactBitsOfSaid : Prop := fnExactBitsOfRow.holds Try.pinned (OpenSpec.ofChange fnExactBitsOfSpec)

/-- ITS FALSE NEIGHBOUR: 'it returns false'. Refute it at one input. -/
def fnExactBitsOfWrong : ChangeSpec := { name := "fnExactBitsOf", fn := fun _ => fun
  | [d] => { results := [.lit (.bool false)], args := [d] }
  | _ => none }
def FnExactBitsOfWrongFalsely : Prop := fnExactBitsOfRow.holds Try.pinned (OpenSpec.ofChange fnExactBitsOfWrong)

/-- 'laws.FnExactFromBits': WHATEVER THE INPUT: true; the input reads as it did. -/
def fnExactFromBitsSpec : ChangeSpec := { name := "fnExactFromBits", fn := fun _ => fun
  | [d] => { results := [.lit (.bool true)], args := [d] }
  | _ => none }
def fnExactFromBitsRow : OpenClaim := { program := "ytggempkfkjjlaaa", sum := "8e9aa0c93290e45b627a29c124470c30c0f47a67e6dd2f0457126c901566688b", func := "loop.example/g01176/laws.FnExactFromBits", spec := "fnExactFromBits", unfollowed := true, recurses := true, apart := false }
def FnExactFromBitsSaid : Prop := fnExactFromBitsRow.holds Try.pinned (OpenSpec.ofChange fnExactFromBitsSpec)

/-- ITS FALSE NEIGHBOUR: 'it returns false'. Refute it at one input. -/
def fnExactFromBitsWrong : ChangeSpec := { name := "fnExactFromBits", fn := fun _ => fun
  | [d] => { results := [.lit (.bool false)], args := [d] }
  | _ => none }
def FnExactFromBitsWrongFalsely : Prop := fnExactFromBitsRow.holds Try.pinned (OpenSpec.ofChange fnExactFromBitsWrong)

/-- 'laws.FnExactStuffBits': WHATEVER THE INPUT: true; the input reads as it did. -/
def fnExactStuffBitsSpec : ChangeSpec := { name := "fnExactStuffBits", fn := fun _ => fun
  | [d] => { results := [.lit (.bool true)], args := [d] }
  | _ => none }
def fnExactStuffBitsRow : OpenClaim := { program := "ytggempkfkjjlaaa", sum := "8e9aa0c93290e45b627a29c124470c30c0f47a67e6dd2f0457126c901566688b", func := "loop.example/g01176/laws.FnExactStuffBits", spec := "fnExactStuffBits", unfollowed := true, recurses := true, apart := false }
def FnExactStuffBitsSaid : Prop := fnExactStuffBitsRow.holds Try.pinned (OpenSpec.ofChange fnExactStuffBitsSpec)

/-- ITS FALSE NEIGHBOUR: 'it returns false'. Refute it at one input. -/
def fnExactStuffBitsWrong : ChangeSpec := { name := "fnExactStuffBits", fn := fun _ => fun
  | [d] => { results := [.lit (.bool false)], args := [d] }
  | _ => none }
def FnExactStuffBitsWrongFalsely : Prop := fnExactStuffBitsRow.holds Try.pinned (OpenSpec.ofChange fnExactStuffBitsWrong)

/-- 'laws.FnExactFlipBits': WHATEVER THE INPUT: true; the input reads as it did. -/
def fnExactFlipBitsSpec : ChangeSpec := { name := "fnExactFlipBits", fn := fun _ => fun
  | [d1, d2] => { results := [.lit (.bool true)], args := [d1, d2] }
  | _ => none }
def fnExactFlipBitsRow : OpenClaim := { program := "ytggempkfkjjlaaa", sum := "8e9aa0c93290e45b627a29c124470c30c0f47a67e6dd2f0457126c901566688b", func := "loop.example/g01176/laws.FnExactFlipBits", spec := "fnExactFlipBits", unfollowed := true, recurses := true, apart := false }
def FnExactFlipBitsSaid : Prop := fnExactFlipBitsRow.holds Try.pinned (OpenSpec.ofChange fnExactFlipBitsSpec)

/-- ITS FALSE NEIGHBOUR: 'it returns false'. Refute it at one input. -/
def fnExactFlipBitsWrong : ChangeSpec := { name := "fnExactFlipBits", fn := fun _ => fun
  | [d1, d2] => { results := [.lit (.bool false)], args := [d1, d2] }
  | _ => none }
def FnExactFlipBitsWrongFalsely : Prop := fnExactFlipBitsRow.holds Try.pinned (OpenSpec.ofChange fnExactFlipBitsWrong)

/-- 'laws.FnExactUnstuffBits': WHATEVER THE INPUT: true; the input reads as it did. -/
def fnExactUnstuffBitsSpec : ChangeSpec := { name := "fnExactUnstuffBits", fn := fun _ => fun
  | [d] => { results := [.lit (.bool true)], args := [d] }
  | _ => none }
def fnExactUnstuffBitsRow : OpenClaim := { program := "ytggempkfkjjlaaa", sum := "8e9aa0c93290e45b627a29c124470c30c0f47a67e6dd2f0457126c901566688b", func := "loop.example/g01176/laws.FnExactUnstuffBits", spec := "fnExactUnstuffBits", unfollowed := true, recurses := true, apart := false }
def FnExactUnstuffBitsSaid : Prop := fnExactUnstuffBitsRow.holds Try.pinned (OpenSpec.ofChange fnExactUnstuffBitsSpec)

/-- ITS FALSE NEIGHBOUR: 'it returns false'. Refute it at one input. -/
def fnExactUnstuffBitsWrong : ChangeSpec := { name := "fnExactUnstuffBits", fn := fun _ => fun
  | [d] => { results := [.lit (.bool false)], args := [d] }
  | _ => none }
def FnExactUnstuffBitsWrongFalsely : Prop := fnExactUnstuffBitsRow.holds Try.pinned (OpenSpec.ofChange fnExactUnstuffBitsWrong)

/-- 'laws.FnExactBytesOf': WHATEVER THE INPUT: true; the input reads as it did. -/
def fnExactBytesOfSpec : ChangeSpec := { name := "fnExactBytesOf", fn := fun _ => fun
  | [d] => { results := [.lit (.bool true)], args := [d] }
  | _ => none }
def fnExactBytesOfRow : OpenClaim := { program := "ytggempkfkjjlaaa", sum := "8e9aa0c93290e45b627a29c124470c30c0f47a67e6dd2f0457126c901566688b", func := "loop.example/g01176/laws.FnExactBytesOf", spec := "fnExactBytesOf", unfollowed := true, recurses := true, apart := false }
def FnExactBytesOfSaid : Prop := fnExactBytesOfRow.holds Try.pinned (OpenSpec.ofChange fnExactBytesOfSpec)

/-- ITS FALSE NEIGHBOUR: 'it returns false'. Refute it at one input. -/
def fnExactBytesOfWrong : ChangeSpec := { name := "fnExactBytesOf", fn := fun _ => fun
  | [d] => { results := [.lit (.bool false)], args := [d] }
  | _ => none }
def FnExactBytesOfWrongFalsely : Prop := fnExactBytesOfRow.holds Try.pinned (OpenSpec.ofChange fnExactBytesOfWrong)

/-- 'laws.FnExactFrameOf': WHATEVER THE INPUT: true; the input reads as it did. -/
def fnExactFrameOfSpec : ChangeSpec := { name := "fnExactFrameOf", fn := fun _ => fun
  | [d] => { results := [.lit (.bool true)], args := [d] }
  | _ => none }
def fnExactFrameOfRow : OpenClaim := { program := "ytggempkfkjjlaaa", sum := "8e9aa0c93290e45b627a29c124470c30c0f47a67e6dd2f0457126c901566688b", func := "loop.example/g01176/laws.FnExactFrameOf", spec := "fnExactFrameOf", unfollowed := true, recurses := true, apart := false }
def FnExactFrameOfSaid : Prop := fnExactFrameOfRow.holds Try.pinned (OpenSpec.ofChange fnExactFrameOfSpec)

/-- ITS FALSE NEIGHBOUR: 'it returns false'. Refute it at one input. -/
def fnExactFrameOfWrong : ChangeSpec := { name := "fnExactFrameOf", fn := fun _ => fun
  | [d] => { results := [.lit (.bool false)], args := [d] }
  | _ => none }
def FnExactFrameOfWrongFalsely : Prop := fnExactFrameOfRow.holds Try.pinned (OpenSpec.ofChange fnExactFrameOfWrong)

/-- 'laws.FnExactWireOf': WHATEVER THE INPUT: true; the input reads as it did. -/
def fnExactWireOfSpec : ChangeSpec := { name := "fnExactWireOf", fn := fun _ => fun
  | [d] => { results := [.lit (.bool true)], args := [d] }
  | _ => none }
def fnExactWireOfRow : OpenClaim := { program := "ytggempkfkjjlaaa", sum := "8e9aa0c93290e45b627a29c124470c30c0f47a67e6dd2f0457126c901566688b", func := "loop.example/g01176/laws.FnExactWireOf", spec := "fnExactWireOf", unfollowed := true, recurses := true, apart := false }
def FnExactWireOfSaid : Prop := fnExactWireOfRow.holds Try.pinned (OpenSpec.ofChange fnExactWireOfSpec)

/-- ITS FALSE NEIGHBOUR: 'it returns false'. Refute it at one input. -/
def fnExactWireOfWrong : ChangeSpec := { name := "fnExactWireOf", fn := fun _ => fun
  | [d] => { results := [.lit (.bool false)], args := [d] }
  | _ => none }
def FnExactWireOfWrongFalsely : Prop := fnExactWireOfRow.holds Try.pinned (OpenSpec.ofChange fnExactWireOfWrong)

/-- 'laws.FnExactFramesOnWire': WHATEVER THE INPUT: true; the input reads as it did. -/
def fnExactFramesOnWireSpec : ChangeSpec := { name := "fnExactFramesOnWire", fn := fun _ => fun
  | [d] => { results := [.lit (.bool true)], args := [d] }
  | _ => none }
def fnExactFramesOnWireRow : OpenClaim := { program := "ytggempkfkjjlaaa", sum := "8e9aa0c93290e45b627a29c124470c30c0f47a67e6dd2f0457126c901566688b", func := "loop.example/g01176/laws.FnExactFramesOnWire", spec := "fnExactFramesOnWire", unfollowed := true, recurses := true, apart := false }
def FnExactFramesOnWireSaid : Prop := fnExactFramesOnWireRow.holds Try.pinned (OpenSpec.ofChange fnExactFramesOnWireSpec)

/-- ITS FALSE NEIGHBOUR: 'it returns false'. Refute it at one input. -/
def fnExactFramesOnWireWrong : ChangeSpec := { name := "fnExactFramesOnWire", fn := fun _ => fun
  | [d] => { results := [.lit (.bool false)], args := [d] }
  | _ => none }
def FnExactFramesOnWireWrongFalsely : Prop := fnExactFramesOnWireRow.holds Try.pinned (OpenSpec.ofChange fnExactFramesOnWireWrong)

/- THE SECOND FORM. 'bulk': how many values and letters a reading holds, each counted each time it is reached (what is shared counts as often as it is met; a slice's spare places count too). A statement '..UptoSaid' is the law's where the arguments, and the package variables that the reading takes, are together of bulk at most 1048576: NARROWER than '..Said'. Prove '..Said' where nothing that the law and all that it calls make is longer than what came in: it says more and counts as full. Else prove '..UptoSaid'. A law counts once. -/
mutual
def uptoBulk {H : Type} : DataW H → Nat
  | .lit (.string bytes) => bytes.length + 1
  | .lit _ => 1
  | .nil => 1
  | .ptr d => uptoBulk d + 1
  | .slice elems spare => uptoBulkAll elems + uptoBulkAll spare + 1
  | .agg parts => uptoBulkAll parts + 1
  | .iface _ d => uptoBulk d + 1
  | .map entries => uptoBulkEntries entries + 1
  | .held _ => 1
def uptoBulkAll {H : Type} : List (DataW H) → Nat
  | [] => 0
  | d :: r => uptoBulk d + uptoBulkAll r
def uptoBulkEntries {H : Type} : List (Lit × DataW H) → Nat
  | [] => 0
  | x :: r => uptoBulkEntry x + uptoBulkEntries r
def uptoBulkEntry {H : Type} : Lit × DataW H → Nat
  | (.string bytes, d) => bytes.length + uptoBulk d + 1
  | (_, d) => uptoBulk d + 1
 end
def uptoSmall : (H : Type) → List (DataW H) → Bool := fun _ ds => decide (uptoBulkAll ds ≤ 1048576)
def OpenSpec.upto (s : _root_.Go.ChangeSpec) : _root_.Go.OpenSpec := { _root_.Go.OpenSpec.ofChange s with cond := some uptoSmall }

/-- 'laws.FnExactDistanceOf', WHERE WHAT IT READS IS OF BULK AT MOST 1048576: true; the input reads as it did. -/
def fnExactDistanceOfUptoRow : OpenClaim := { program := "ytggempkfkjjlaaa", sum := "8e9aa0c93290e45b627a29c124470c30c0f47a67e6dd2f0457126c901566688b", func := "loop.example/g01176/laws.FnExactDistanceOf", spec := "fnExactDistanceOf", unfollowed := true, recurses := true, apart := false, narrowed := true }
def FnExactDistanceOfUptoSaid : Prop := fnExactDistanceOfUptoRow.holds Try.pinned (OpenSpec.upto fnExactDistanceOfSpec)

/-- 'laws.FnExactHasCheck', WHERE WHAT IT READS IS OF BULK AT MOST 1048576: true; the input reads as it did. -/
def fnExactHasCheckUptoRow : OpenClaim := { program := "ytggempkfkjjlaaa", sum := "8e9aa0c93290e45b627a29c124470c30c0f47a67e6dd2f0457126c901566688b", func := "loop.example/g01176/laws.FnExactHasCheck", spec := "fnExactHasCheck", unfollowed := true, recurses := true, apart := false, narrowed := true }
def FnExactHasCheckUptoSaid : Prop := fnExactHasCheckUptoRow.holds Try.pinned (OpenSpec.upto fnExactHasCheckSpec)

/-- 'laws.FnExactIsFrame', WHERE WHAT IT READS IS OF BULK AT MOST 1048576: true; the input reads as it did. -/
def fnExactIsFrameUptoRow : OpenClaim := { program := "ytggempkfkjjlaaa", sum := "8e9aa0c93290e45b627a29c124470c30c0f47a67e6dd2f0457126c901566688b", func := "loop.example/g01176/laws.FnExactIsFrame", spec := "fnExactIsFrame", unfollowed := true, recurses := true, apart := false, narrowed := true }
def FnExactIsFrameUptoSaid : Prop := fnExactIsFrameUptoRow.holds Try.pinned (OpenSpec.upto fnExactIsFrameSpec)

/-- 'laws.FnExactBitsOf', WHERE WHAT IT READS IS OF BULK AT MOST 1048576: true; the input reads as it did. -/
def fnExactBitsOfUptoRow : OpenClaim := { program := "ytggempkfkjjlaaa", sum := "8e9aa0c93290e45b627a29c124470c30c0f47a67e6dd2f0457126c901566688b", func := "loop.example/g01176/laws.FnExactBitsOf", spec := "fnExactBitsOf", unfollowed := true, recurses := true, apart := false, narrowed := true }
def FnExactBitsOfUptoSaid : Prop := fnExactBitsOfUptoRow.holds Try.pinned (OpenSpec.upto fnExactBitsOfSpec)

/-- 'laws.FnExactFromBits', WHERE WHAT IT READS IS OF BULK AT MOST 1048576: true; the input reads as it did. -/
def fnExactFromBitsUptoRow : OpenClaim := { program := "ytggempkfkjjlaaa", sum := "8e9aa0c93290e45b627a29c124470c30c0f47a67e6dd2f0457126c901566688b", func := "loop.example/g01176/laws.FnExactFromBits", spec := "fnExactFromBits", unfollowed := true, recurses := true, apart := false, narrowed := true }
def FnExactFromBitsUptoSaid : Prop := fnExactFromBitsUptoRow.holds Try.pinned (OpenSpec.upto fnExactFromBitsSpec)

/-- 'laws.FnExactStuffBits', WHERE WHAT IT READS IS OF BULK AT MOST 1048576: true; the input reads as it did. -/
def fnExactStuffBitsUptoRow : OpenClaim := { program := "ytggempkfkjjlaaa", sum := "8e9aa0c93290e45b627a29c124470c30c0f47a67e6dd2f0457126c901566688b", func := "loop.example/g01176/laws.FnExactStuffBits", spec := "fnExactStuffBits", unfollowed := true, recurses := true, apart := false, narrowed := true }
def FnExactStuffBitsUptoSaid : Prop := fnExactStuffBitsUptoRow.holds Try.pinned (OpenSpec.upto fnExactStuffBitsSpec)

/-- 'laws.FnExactFlipBits', WHERE WHAT IT READS IS OF BULK AT MOST 1048576: true; the input reads as it did. -/
def fnExactFlipBitsUptoRow : OpenClaim := { program := "ytggempkfkjjlaaa", sum := "8e9aa0c93290e45b627a29c124470c30c0f47a67e6dd2f0457126c901566688b", func := "loop.example/g01176/laws.FnExactFlipBits", spec := "fnExactFlipBits", unfollowed := true, recurses := true, apart := false, narrowed := true }
def FnExactFlipBitsUptoSaid : Prop := fnExactFlipBitsUptoRow.holds Try.pinned (OpenSpec.upto fnExactFlipBitsSpec)

/-- 'laws.FnExactUnstuffBits', WHERE WHAT IT READS IS OF BULK AT MOST 1048576: true; the input reads as it did. -/
def fnExactUnstuffBitsUptoRow : OpenClaim := { program := "ytggempkfkjjlaaa", sum := "8e9aa0c93290e45b627a29c124470c30c0f47a67e6dd2f0457126c901566688b", func := "loop.example/g01176/laws.FnExactUnstuffBits", spec := "fnExactUnstuffBits", unfollowed := true, recurses := true, apart := false, narrowed := true }
def FnExactUnstuffBitsUptoSaid : Prop := fnExactUnstuffBitsUptoRow.holds Try.pinned (OpenSpec.upto fnExactUnstuffBitsSpec)

/-- 'laws.FnExactBytesOf', WHERE WHAT IT READS IS OF BULK AT MOST 1048576: true; the input reads as it did. -/
def fnExactBytesOfUptoRow : OpenClaim := { program := "ytggempkfkjjlaaa", sum := "8e9aa0c93290e45b627a29c124470c30c0f47a67e6dd2f0457126c901566688b", func := "loop.example/g01176/laws.FnExactBytesOf", spec := "fnExactBytesOf", unfollowed := true, recurses := true, apart := false, narrowed := true }
def FnExactBytesOfUptoSaid : Prop := fnExactBytesOfUptoRow.holds Try.pinned (OpenSpec.upto fnExactBytesOfSpec)

/-- 'laws.FnExactFrameOf', WHERE WHAT IT READS IS OF BULK AT MOST 1048576: true; the input reads as it did. -/
def fnExactFrameOfUptoRow : OpenClaim := { program := "ytggempkfkjjlaaa", sum := "8e9aa0c93290e45b627a29c124470c30c0f47a67e6dd2f0457126c901566688b", func := "loop.example/g01176/laws.FnExactFrameOf", spec := "fnExactFrameOf", unfollowed := true, recurses := true, apart := false, narrowed := true }
def FnExactFrameOfUptoSaid : Prop := fnExactFrameOfUptoRow.holds Try.pinned (OpenSpec.upto fnExactFrameOfSpec)

/-- 'laws.FnExactWireOf', WHERE WHAT IT READS IS OF BULK AT MOST 1048576: true; the input reads as it did. -/
def fnExactWireOfUptoRow : OpenClaim := { program := "ytggempkfkjjlaaa", sum := "8e9aa0c93290e45b627a29c124470c30c0f47a67e6dd2f0457126c901566688b", func := "loop.example/g01176/laws.FnExactWireOf", spec := "fnExactWireOf", unfollowed := true, recurses := true, apart := false, narrowed := true }
def FnExactWireOfUptoSaid : Prop := fnExactWireOfUptoRow.holds Try.pinned (OpenSpec.upto fnExactWireOfSpec)

/-- 'laws.FnExactFramesOnWire', WHERE WHAT IT READS IS OF BULK AT MOST 1048576: true; the input reads as it did. -/
def fnExactFramesOnWireUptoRow : OpenClaim := { program := "ytggempkfkjjlaaa", sum := "8e9aa0c93290e45b627a29c124470c30c0f47a67e6dd2f0457126c901566688b", func := "loop.example/g01176/laws.FnExactFramesOnWire", spec := "fnExactFramesOnWire", unfollowed := true, recurses := true, apart := false, narrowed := true }
def FnExactFramesOnWireUptoSaid : Prop := fnExactFramesOnWireUptoRow.holds Try.pinned (OpenSpec.upto fnExactFramesOnWireSpec)

end Rows
end Go.Proofs.Ytggempkfkjjlaaa
