/- The others of the listed variables in that world, by the run. -/
import Derived.Test.YtnckhmfajjcgpaaGreatDoorWitB1
namespace Go.Proofs.YtnckhmfajjcgpaaGreatDoor.wit
open Go
theorem r1b (os : Os) : (DataW.laidRun Tryz.prog (start os) 8 (restB.map (·.1))).map (·.1) = some restB := by kernel_rfl
end Go.Proofs.YtnckhmfajjcgpaaGreatDoor.wit
