/- Types, a part. -/
import Derived.Test.YtfnamalajmfjbaaGreatDoorRows
import Derived.JoinedOf
import Derived.KernelRfl
set_option linter.unusedVariables false
set_option maxRecDepth 100000
namespace Go.Proofs.YtfnamalajmfjbaaGreatDoor.fa
open Go
theorem l2 : (List.range' 400 200).all (rowFine Tryz.prog) = true := by kernel_rfl
end Go.Proofs.YtfnamalajmfjbaaGreatDoor.fa
