/-
  DERIVED. GIVEN WITH THE SEED: THE CARDS: each row of YtnhlfbnfngembaaDoorRows.lean that lists a variable, with what it lists TIED to the program's text (the seventh form; the later family's looks); each row that meets fmt, with fmt's text TOLD by the authors' own Lean function (tested against real Go, not proved from fmt's source: count such statements apart). THE CARD IS WHAT COUNTS. Prove the row's statement (the work); the ties are given (YtnhlfbnfngembaaDoorTie.lean); close each card by the builder's one call (the guide's Derived/Test/ToyasCard.lean, 'card_holds'). Laid BY PROGRAM, IN A SANDBOX (cutbox-door.mjs). By AI agents, Wed Nov 11 2026. No macro, syntax, notation, axiom, sorry.
-/
import Derived.Test.YtnhlfbnfngembaaDoorRows
import GoSem.ClaimSeven
namespace Go.Proofs.YtnhlfbnfngembaaDoor
namespace Rows

/-- THE TIED CARD OF 'laws.FnExactParseFrame'. -/
def fnExactParseFrameCard : Claim7 := { stood := { row := fnExactParseFrameRow, standIns := [], harness := (true, "38b67d6891ec21283a44d33856f2475a23de9ab0b8c75779751a44c9dc071853"), looks := true }, kinds := [], alts := [], laidByText := true, laidKinds := [.data, .data, .data, .data, .sentinel, .sentinel, .pinned], laidTests := true, laidLooks := .later }
def FnExactParseFrameCardSaid : Prop := Claim7.holds Tryd.pinned (.plain (OpenSpec.ofChange fnExactParseFrameSpec)) fnExactParseFrameCard

/-- THE TIED CARD OF 'laws.FnExactFrameText'. -/
def fnExactFrameTextCard : Claim7 := { stood := { row := fnExactFrameTextRow, standIns := [], harness := (true, "38b67d6891ec21283a44d33856f2475a23de9ab0b8c75779751a44c9dc071853"), looks := true }, kinds := [], alts := [], laidByText := true, laidKinds := [.data, .data, .data], laidTests := true, laidLooks := .later }
def FnExactFrameTextCardSaid : Prop := Claim7.holds Tryd.pinned (.plain (OpenSpec.ofChange fnExactFrameTextSpec)) fnExactFrameTextCard

/-- THE TIED CARD OF 'laws.FnExactParseRing'. -/
def fnExactParseRingCard : Claim7 := { stood := { row := fnExactParseRingRow, standIns := [], harness := (true, "38b67d6891ec21283a44d33856f2475a23de9ab0b8c75779751a44c9dc071853"), looks := true }, kinds := [], alts := [], laidByText := true, laidKinds := [.data, .data, .data, .data, .sentinel, .sentinel, .pinned], laidTests := true, laidLooks := .later }
def FnExactParseRingCardSaid : Prop := Claim7.holds Tryd.pinned (.plain (OpenSpec.ofChange fnExactParseRingSpec)) fnExactParseRingCard

/-- THE TIED CARD OF 'laws.FnExactRingText'. -/
def fnExactRingTextCard : Claim7 := { stood := { row := fnExactRingTextRow, standIns := [], harness := (true, "38b67d6891ec21283a44d33856f2475a23de9ab0b8c75779751a44c9dc071853"), looks := true }, kinds := [], alts := [], laidByText := true, laidKinds := [.data, .data, .data], laidTests := true, laidLooks := .later }
def FnExactRingTextCardSaid : Prop := Claim7.holds Tryd.pinned (.plain (OpenSpec.ofChange fnExactRingTextSpec)) fnExactRingTextCard

/-- THE SECOND FORM's CARD OF 'laws.FnExactParseFrame'. -/
def fnExactParseFrameUptoCard : Claim7 := { stood := { row := fnExactParseFrameUptoRow, standIns := [], harness := (true, "38b67d6891ec21283a44d33856f2475a23de9ab0b8c75779751a44c9dc071853"), looks := true }, kinds := [], alts := [], laidByText := true, laidKinds := [.data, .data, .data, .data, .sentinel, .sentinel, .pinned], laidTests := true, laidLooks := .later }
def FnExactParseFrameUptoCardSaid : Prop := Claim7.holds Tryd.pinned (.plain (OpenSpec.upto fnExactParseFrameSpec)) fnExactParseFrameUptoCard

/-- THE SECOND FORM's CARD OF 'laws.FnExactFrameText'. -/
def fnExactFrameTextUptoCard : Claim7 := { stood := { row := fnExactFrameTextUptoRow, standIns := [], harness := (true, "38b67d6891ec21283a44d33856f2475a23de9ab0b8c75779751a44c9dc071853"), looks := true }, kinds := [], alts := [], laidByText := true, laidKinds := [.data, .data, .data], laidTests := true, laidLooks := .later }
def FnExactFrameTextUptoCardSaid : Prop := Claim7.holds Tryd.pinned (.plain (OpenSpec.upto fnExactFrameTextSpec)) fnExactFrameTextUptoCard

/-- THE SECOND FORM's CARD OF 'laws.FnExactParseRing'. -/
def fnExactParseRingUptoCard : Claim7 := { stood := { row := fnExactParseRingUptoRow, standIns := [], harness := (true, "38b67d6891ec21283a44d33856f2475a23de9ab0b8c75779751a44c9dc071853"), looks := true }, kinds := [], alts := [], laidByText := true, laidKinds := [.data, .data, .data, .data, .sentinel, .sentinel, .pinned], laidTests := true, laidLooks := .later }
def FnExactParseRingUptoCardSaid : Prop := Claim7.holds Tryd.pinned (.plain (OpenSpec.upto fnExactParseRingSpec)) fnExactParseRingUptoCard

/-- THE SECOND FORM's CARD OF 'laws.FnExactRingText'. -/
def fnExactRingTextUptoCard : Claim7 := { stood := { row := fnExactRingTextUptoRow, standIns := [], harness := (true, "38b67d6891ec21283a44d33856f2475a23de9ab0b8c75779751a44c9dc071853"), looks := true }, kinds := [], alts := [], laidByText := true, laidKinds := [.data, .data, .data], laidTests := true, laidLooks := .later }
def FnExactRingTextUptoCardSaid : Prop := Claim7.holds Tryd.pinned (.plain (OpenSpec.upto fnExactRingTextSpec)) fnExactRingTextUptoCard
end Rows
end Go.Proofs.YtnhlfbnfngembaaDoor
