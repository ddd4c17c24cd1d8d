/- The tie, third part: places, the second half. -/
import Derived.Test.YtnckhmfajjcgpaaGreatDoorTiedS0
set_option linter.unusedVariables false
namespace Go.Proofs.YtnckhmfajjcgpaaGreatDoor.tied
open Go
theorem f9B (os : Os) (tape : Tape) : (DataW.laidRun Tryz.prog (varsWorld Tryz.prog 400 (varsId Tryz.prog) os tape).memory 8 (nonB.map (·.1))).map (fun x => (x.2.map codeOf, x.2.all fun p => small p && laidRowsB Tryz.prog (varsWorld Tryz.prog 400 (varsId Tryz.prog) os tape).memory [p])) = some (cl 65536 10 64 ++ cl 65536 4 32 ++ cl 65536 1 3 ++ cl 65536 2 2, true) := by kernel_rfl
end Go.Proofs.YtnckhmfajjcgpaaGreatDoor.tied
