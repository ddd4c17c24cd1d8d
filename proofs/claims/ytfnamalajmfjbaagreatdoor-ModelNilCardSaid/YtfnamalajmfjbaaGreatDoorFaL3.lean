/- Types, a part. -/
import Derived.Test.YtfnamalajmfjbaaGreatDoorRows
import Derived.JoinedOf
import Derived.KernelRfl
set_option linter.unusedVariables false
set_option maxRecDepth 100000
namespace Go.Proofs.YtfnamalajmfjbaaGreatDoor.fa
open Go
theorem l3 : (List.range' 600 195).all (rowFine Tryz.prog) = true := by kernel_rfl
end Go.Proofs.YtfnamalajmfjbaaGreatDoor.fa
