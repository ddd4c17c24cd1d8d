/- All types. -/
import Derived.Test.YtnckhmfajjcgpaaGreatDoorFaL0
set_option linter.unusedVariables false
set_option maxRecDepth 100000
namespace Go.Proofs.YtnckhmfajjcgpaaGreatDoor.fa
open Go
theorem types_eq : List.range Tryz.prog.types.size = List.range' 0 200 ++ List.range' 200 200 ++ List.range' 400 200 ++ List.range' 600 200 ++ List.range' 800 6 := by kernel_rfl
theorem la1 : (List.range Tryz.prog.types.size).all (rowFine Tryz.prog) = true := by
  rw [types_eq]
  simp only [List.all_append, l0, l1, l2, l3, l4, Bool.and_self]
theorem la2 : Tryz.prog.globals.all (fun g => decide (g.type < Tryz.prog.types.size)) = true := by kernel_rfl
theorem la3 : Tryz.prog.funcs.all (fun f => f.params.all fun t => decide (t < Tryz.prog.types.size)) = true := by kernel_rfl
theorem a1 : laidOutB Tryz.prog = true := by
  unfold laidOutB
  rw [la1, la2, la3]
  rfl
end Go.Proofs.YtnckhmfajjcgpaaGreatDoor.fa
