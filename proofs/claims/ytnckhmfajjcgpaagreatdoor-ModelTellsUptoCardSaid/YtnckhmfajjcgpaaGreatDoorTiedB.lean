/- The tie: the words of the translation. -/
import Derived.Test.YtnckhmfajjcgpaaGreatDoorTiedZ
set_option linter.unusedVariables false
namespace Go.Proofs.YtnckhmfajjcgpaaGreatDoor.tied
open Go
theorem f1 : Tryz.prog.worded (varsWordLater true) = true := by kernel_rfl
theorem f2 : Tryz.prog.worded (varsWordLater !true) = false := by kernel_rfl
theorem f3 : Tryz.prog.worded rootWordLater = true := by kernel_rfl
theorem f5 : (Tryz.prog.funcNamed "gosem.cut.vars").isSome = true := by kernel_rfl
end Go.Proofs.YtnckhmfajjcgpaaGreatDoor.tied
