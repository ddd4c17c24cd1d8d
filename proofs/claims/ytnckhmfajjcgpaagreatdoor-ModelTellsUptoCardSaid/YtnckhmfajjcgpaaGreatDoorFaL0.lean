/- Types, in parts. -/
import Derived.Test.YtnckhmfajjcgpaaGreatDoorRows
import Derived.JoinedOf
import Derived.KernelRfl
set_option linter.unusedVariables false
set_option maxRecDepth 100000
namespace Go.Proofs.YtnckhmfajjcgpaaGreatDoor.fa
open Go
theorem l0 : (List.range' 0 200).all (rowFine Tryz.prog) = true := by kernel_rfl
theorem l1 : (List.range' 200 200).all (rowFine Tryz.prog) = true := by kernel_rfl
theorem l2 : (List.range' 400 200).all (rowFine Tryz.prog) = true := by kernel_rfl
theorem l3 : (List.range' 600 200).all (rowFine Tryz.prog) = true := by kernel_rfl
theorem l4 : (List.range' 800 6).all (rowFine Tryz.prog) = true := by kernel_rfl
end Go.Proofs.YtnckhmfajjcgpaaGreatDoor.fa
