/- The shape of that world: its variables. -/
import Derived.Test.YtnckhmfajjcgpaaGreatDoorWitC
namespace Go.Proofs.YtnckhmfajjcgpaaGreatDoor.wit
open Go
theorem shape1 (os : Os) : ((start os).forCall (fun _ _ => 0) ⟨#[], #[], []⟩).variablesZipB Tryz.prog = true := by
  simp only [World.variablesZipB, begin, wait]
  kernel_rfl
theorem shaped (os : Os) : ((start os).forCall (fun _ _ => 0) ⟨#[], #[], []⟩).Shaped Tryz.prog := World.shaped_of_ZipB (shape1 os) (shape2 os)
end Go.Proofs.YtnckhmfajjcgpaaGreatDoor.wit
