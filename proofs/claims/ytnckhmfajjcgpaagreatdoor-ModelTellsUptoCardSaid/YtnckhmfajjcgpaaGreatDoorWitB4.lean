/- The places of the other listed variables in that world, by the run. -/
import Derived.Test.YtnckhmfajjcgpaaGreatDoorWitB3
namespace Go.Proofs.YtnckhmfajjcgpaaGreatDoor.wit
open Go
theorem pB (os : Os) : (DataW.laidRun Tryz.prog (start os) 8 (restB.map (·.1))).map (fun x => (x.2.map MemPlace.codeOf, x.2.all fun p => laidRowsB Tryz.prog (start os) [p] && (blocks os).contains p.block)) = some (cl 4294967296 10 64 ++ cl 4294967296 4 32 ++ cl 4294967296 1 3 ++ cl 4294967296 2 2, true) := by kernel_rfl
end Go.Proofs.YtnckhmfajjcgpaaGreatDoor.wit
