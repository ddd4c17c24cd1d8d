/- Closed facts of the row. -/
import Derived.Test.YtnckhmfajjcgpaaGreatDoorRows
import Derived.JoinedOf
import Derived.KernelRfl
set_option linter.unusedVariables false
set_option maxRecDepth 100000
namespace Go.Proofs.YtnckhmfajjcgpaaGreatDoor.fa
open Go
theorem a0 : (Rows.modelTellsUptoRow.wf (OpenSpec.ofChange (Rows.OpenSpec.upto Rows.modelTellsSpec).bare)) = true := by kernel_rfl
theorem a3 : (Tryz.f3.params.all (Tryz.prog.readableRec ·)) = true := by kernel_rfl
theorem a6 : ((Tryz.prog.stops == [])) = true := by kernel_rfl
theorem a15 : ((Rows.modelTellsUptoRow.mapsOut == Tryz.prog.mapsAmong Tryz.f3.resultTypes.toList)) = true := by kernel_rfl
theorem a18 : ((Rows.OpenSpec.upto Rows.modelTellsSpec).bare.vars.all (Tryz.prog.varReadable ·)) = true := by kernel_rfl
theorem a21 : ((Rows.modelTellsUptoRow.loopsOut == Tryz.f3.resultTypes.toList.any (Tryz.prog.loopsFrom ·))) = true := by kernel_rfl
theorem a24 : (Tryz.prog.stopsHeard) = true := by kernel_rfl
theorem a27 : ((Tryz.prog.make == some Rows.modelTellsUptoRow.make)) = true := by kernel_rfl
theorem a30 : ((Rows.modelTellsUptoRow.veiled == (Tryz.f3.params.toList ++ (Rows.OpenSpec.upto Rows.modelTellsSpec).bare.plain.varTypes Tryz.prog ++ Tryz.f3.resultTypes.toList).any (Tryz.prog.veiledRec ·))) = true := by kernel_rfl
end Go.Proofs.YtnckhmfajjcgpaaGreatDoor.fa
