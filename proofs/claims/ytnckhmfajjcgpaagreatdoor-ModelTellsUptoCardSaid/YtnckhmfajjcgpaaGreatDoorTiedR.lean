/- The tie, third part: the initialisers' run. -/
import Derived.Test.YtnckhmfajjcgpaaGreatDoorTiedR2
set_option linter.unusedVariables false
namespace Go.Proofs.YtnckhmfajjcgpaaGreatDoor.tied
open Go
theorem f7 (os : Os) (tape : Tape) : varsDone Tryz.prog 400 (varsId Tryz.prog) os tape = true := by kernel_rfl
theorem f8 (os : Os) (tape : Tape) : (DataW.laidRun Tryz.prog (varsWorld Tryz.prog 400 (varsId Tryz.prog) os tape).memory 8 ((laidN.filter fun x => x.2.handleName?.isNone).map (·.1))).map (·.1) = some (laidN.filter fun x => x.2.handleName?.isNone) := by
  have h := laidRun_app (f8a os tape) (f8b os tape)
  rw [← List.map_append] at h
  rw [show nonA ++ nonB = (laidN.filter fun x => x.2.handleName?.isNone) from List.take_append_drop 4 _] at h
  exact h
end Go.Proofs.YtnckhmfajjcgpaaGreatDoor.tied
