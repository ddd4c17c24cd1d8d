/- The shape of that world. -/
import Derived.Test.YtnckhmfajjcgpaaGreatDoorWitA
namespace Go.Proofs.YtnckhmfajjcgpaaGreatDoor.wit
open Go
theorem wait : waiting Tryz.prog = Array.replicate Tryz.prog.globals.size false := by kernel_rfl
theorem shape2 (os : Os) : ((((start os).forCall (fun _ _ => 0) ⟨#[], #[], []⟩).heap.toList.drop Tryz.prog.globals.size).take ((begin Tryz.prog (fun _ _ => 0) default).world.heap.size - Tryz.prog.globals.size)) =
      (begin Tryz.prog (fun _ _ => 0) default).world.heap.toList.drop Tryz.prog.globals.size := by
  simp only [begin, wait]
  kernel_rfl
end Go.Proofs.YtnckhmfajjcgpaaGreatDoor.wit
