/- live() says true. -/
import Derived.Test.YtnckhmfajjcgpaaGreatDoorMtM
set_option linter.unusedVariables false
set_option linter.unusedSimpArgs false
set_option linter.unusedSectionVars false
section
namespace Go.Proofs.YtnckhmfajjcgpaaGreatDoor.Mt
open Ev
set_option maxRecDepth 1000000
theorem runL : saysTrue (evCall Tryz.prog tab0 20000 60 5 #[] ⟨0, .lf⟩) = true := by kernel_rfl
theorem live_any (w : World) : Calls Tryz.prog 5 #[] w fun e w' => e = .returned (.bool true) ∧ RowKit.Below w.heap.size w w' :=
  closed_true tab_ok mixed 20000 60 5 runL w
end Go.Proofs.YtnckhmfajjcgpaaGreatDoor.Mt
end
