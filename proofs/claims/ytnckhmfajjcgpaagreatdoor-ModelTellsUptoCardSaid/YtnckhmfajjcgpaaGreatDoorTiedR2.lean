/- The tie: the others of the listed variables, by the run. -/
import Derived.Test.YtnckhmfajjcgpaaGreatDoorTiedR1
set_option linter.unusedVariables false
namespace Go.Proofs.YtnckhmfajjcgpaaGreatDoor.tied
open Go
theorem f8b (os : Os) (tape : Tape) : (DataW.laidRun Tryz.prog (varsWorld Tryz.prog 400 (varsId Tryz.prog) os tape).memory 8 (nonB.map (·.1))).map (·.1) = some nonB := by kernel_rfl
end Go.Proofs.YtnckhmfajjcgpaaGreatDoor.tied
