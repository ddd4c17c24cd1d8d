/- The closed facts that go by what the function comes to. -/
import Derived.Test.YtfnamalajmfjbaaGreatDoorFaC
set_option linter.unusedVariables false
set_option maxRecDepth 100000
namespace Go.Proofs.YtfnamalajmfjbaaGreatDoor.fa
open Go
theorem a9 : ((Rows.modelNilRow.inPlace == Tryz.prog.inPlace 3)) = true := by
  unfold Program.inPlace
  rw [clos_eq]
  kernel_rfl
theorem unf : Tryz.prog.unfollowed 3 = Rows.modelNilRow.unfollowed := by
  unfold Program.unfollowed
  rw [clos_eq]
  kernel_rfl
theorem a10 : ((Rows.modelNilRow.unfollowed == Tryz.prog.unfollowed 3)) = true := by rw [unf]; rfl
theorem a11 : ((Rows.modelNilRow.recurses == Tryz.prog.recurses 3)) = true := by
  unfold Program.recurses
  rw [unf]
  rfl
theorem a12 : ((Rows.modelNilRow.named == Tryz.prog.varsNamed 3)) = true := by
  unfold Program.varsNamed
  rw [clos_eq]
  kernel_rfl
end Go.Proofs.YtfnamalajmfjbaaGreatDoor.fa
