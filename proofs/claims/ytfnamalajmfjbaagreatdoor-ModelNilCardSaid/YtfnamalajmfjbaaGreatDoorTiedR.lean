/- The tie, third part: the initialisers' run. -/
import Derived.Test.YtfnamalajmfjbaaGreatDoorTiedZ
set_option linter.unusedVariables false
namespace Go.Proofs.YtfnamalajmfjbaaGreatDoor.tied
open Go
theorem f7 (os : Os) (tape : Tape) : varsDone Tryz.prog 400 (varsId Tryz.prog) os tape = true := by kernel_rfl
theorem f8 (os : Os) (tape : Tape) : (DataW.laidRun Tryz.prog (varsWorld Tryz.prog 400 (varsId Tryz.prog) os tape).memory 8 ((laidN.filter fun x => x.2.handleName?.isNone).map (·.1))).map (·.1) = some (laidN.filter fun x => x.2.handleName?.isNone) := by kernel_rfl
end Go.Proofs.YtfnamalajmfjbaaGreatDoor.tied
