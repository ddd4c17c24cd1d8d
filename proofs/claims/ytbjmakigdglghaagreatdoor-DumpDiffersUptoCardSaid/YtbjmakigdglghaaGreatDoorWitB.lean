/- The rest of the listed variables in that world, by the run. -/
import Derived.Test.YtbjmakigdglghaaGreatDoorWitA
namespace Go.Proofs.YtbjmakigdglghaaGreatDoor.wit
open Go
theorem r1 (os : Os) : (DataW.laidRun Tryz.prog (start os) 8 (restL.map (·.1))).map (·.1) = some restL := by kernel_rfl
theorem r2 (os : Os) : (DataW.laidRun Tryz.prog (start os) 8 (restL.map (·.1))).map (fun x => nodupB (x.2.map MemPlace.codeOf)) = some true := by kernel_rfl
end Go.Proofs.YtbjmakigdglghaaGreatDoor.wit
