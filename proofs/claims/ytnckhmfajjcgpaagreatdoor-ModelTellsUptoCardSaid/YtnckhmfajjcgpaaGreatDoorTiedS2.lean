/- The tie, third part: the handle. -/
import Derived.Test.YtnckhmfajjcgpaaGreatDoorTiedZ
set_option linter.unusedVariables false
namespace Go.Proofs.YtnckhmfajjcgpaaGreatDoor.tied
open Go
theorem f10 (os : Os) (tape : Tape) : (laidN.filter fun x => x.2.handleName?.isSome).all (handleAtB Tryz.prog (varsWorld Tryz.prog 400 (varsId Tryz.prog) os tape).memory) = true := by kernel_rfl
end Go.Proofs.YtnckhmfajjcgpaaGreatDoor.tied
