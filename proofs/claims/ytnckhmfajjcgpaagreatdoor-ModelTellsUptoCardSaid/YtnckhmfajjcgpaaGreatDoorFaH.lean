/- The closed facts that go by what the function comes to. -/
import Derived.Test.YtnckhmfajjcgpaaGreatDoorFaC
set_option linter.unusedVariables false
set_option maxRecDepth 100000
namespace Go.Proofs.YtnckhmfajjcgpaaGreatDoor.fa
open Go
theorem a9 : ((Rows.modelTellsUptoRow.inPlace == Tryz.prog.inPlace 3)) = true := by
  unfold Program.inPlace
  rw [clos_eq]
  kernel_rfl
theorem unf : Tryz.prog.unfollowed 3 = Rows.modelTellsUptoRow.unfollowed := by
  unfold Program.unfollowed
  rw [clos_eq]
  kernel_rfl
theorem a10 : ((Rows.modelTellsUptoRow.unfollowed == Tryz.prog.unfollowed 3)) = true := by rw [unf]; rfl
theorem a11 : ((Rows.modelTellsUptoRow.recurses == Tryz.prog.recurses 3)) = true := by
  unfold Program.recurses
  rw [unf]
  rfl
theorem a12 : ((Rows.modelTellsUptoRow.named == Tryz.prog.varsNamed 3)) = true := by
  unfold Program.varsNamed
  rw [clos_eq]
  kernel_rfl
end Go.Proofs.YtnckhmfajjcgpaaGreatDoor.fa
