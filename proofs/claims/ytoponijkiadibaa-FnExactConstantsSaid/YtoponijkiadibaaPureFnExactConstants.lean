/- FnExactConstants: the program's answer is the reference's, as plain functions over numbers and lists; no condition beyond the sizes that every value has. -/
import Derived.Test.YtoponijkiadibaaPFnExactConstantsx1
namespace Go.Proofs.Ytoponijkiadibaa.Pure
open Go.RowKit Go.Proofs.Ytoponijkiadibaa.PFnExactConstants Go.Proofs.YtoponijkiadibaaW.PrintWords Go.Proofs.YtoponijkiadibaaW.PrintLast

/- The statement: laws_FnExactConstants.f  = some true
What it reaches (each with k first where it has rounds; `.mono`: more rounds tell the same; `.l0`, ..: its loops, with `.mono_l`): laws_FnExactConstants.f -/
set_option linter.unusedSimpArgs false
set_option linter.unusedVariables false
theorem FnExactConstants : laws_FnExactConstants.Pure := by
  unfold laws_FnExactConstants.Pure
  rfl

end Go.Proofs.Ytoponijkiadibaa.Pure
