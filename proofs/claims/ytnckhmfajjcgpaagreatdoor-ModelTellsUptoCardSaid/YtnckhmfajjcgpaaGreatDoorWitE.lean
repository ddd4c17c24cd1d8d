/- The rest of the listed variables in that world, by the run: their blocks; the handle. -/
import Derived.Test.YtnckhmfajjcgpaaGreatDoorWitB
namespace Go.Proofs.YtnckhmfajjcgpaaGreatDoor.wit
open Go
theorem hnd (os : Os) : (Rows.modelTellsUptoRow.laid.filter fun x => x.2.handleName?.isSome).all (handleAtB Tryz.prog (start os)) = true := by kernel_rfl
theorem met (os : Os) : laidMetH Tryz.prog Rows.modelTellsUptoRow.laid (start os) :=
  laidMetH_of_parts (laidMet_layVars (w0 := w0 os) ["unicode/utf8.first"] (blocks os) rfl (fit os) (ifc os) (LaidIn.of_run (blocks os) 8 (r1 os) (r2 os) (r3 os) (r4 os))) (hnd os)
theorem mets (os : Os) (args : Array Value) : laidMetH Tryz.prog Rows.modelTellsUptoRow.laid ((start os).forCall (fun _ _ => 0) ⟨#[], args, []⟩).memory := laidMetH.of_heap (by simp [World.memory, World.forCall, Input.heap]) (met os)
end Go.Proofs.YtnckhmfajjcgpaaGreatDoor.wit
