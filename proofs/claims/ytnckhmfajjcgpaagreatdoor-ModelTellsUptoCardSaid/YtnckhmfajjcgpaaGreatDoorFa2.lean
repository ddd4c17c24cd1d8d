/- Closed facts of the row. -/
import Derived.Test.YtnckhmfajjcgpaaGreatDoorRows
import Derived.JoinedOf
import Derived.KernelRfl
set_option linter.unusedVariables false
set_option maxRecDepth 100000
namespace Go.Proofs.YtnckhmfajjcgpaaGreatDoor.fa
open Go
theorem a2 : (mapsRowed Tryz.prog) = true := by kernel_rfl
theorem a5 : ((Rows.modelTellsUptoRow.stops == [])) = true := by kernel_rfl
theorem a8 : ((Tryz.prog.stopKnobs == [])) = true := by kernel_rfl
theorem a14 : ((Rows.modelTellsUptoRow.ifaces == (Tryz.f3.params.toList ++ (Rows.OpenSpec.upto Rows.modelTellsSpec).bare.plain.varTypes Tryz.prog).any (Tryz.prog.ifacesRec ·))) = true := by kernel_rfl
theorem a17 : ((Rows.modelTellsUptoRow.wideKeys == (Tryz.f3.params.toList ++ (Rows.OpenSpec.upto Rows.modelTellsSpec).bare.plain.varTypes Tryz.prog ++ Tryz.f3.resultTypes.toList).any (Tryz.prog.wideKeysFrom ·))) = true := by kernel_rfl
theorem a20 : ((Rows.modelTellsUptoRow.ifacesOut == Tryz.f3.resultTypes.toList.any (Tryz.prog.ifacesRec ·))) = true := by kernel_rfl
theorem a23 : (Rows.modelTellsUptoRow.shortTexts.isNone) = true := by kernel_rfl
theorem a26 : ((Rows.modelTellsUptoRow.lifted == Tryz.prog.liftsFinal)) = true := by kernel_rfl
theorem a29 : ((Rows.modelTellsUptoRow.pinned == Rows.modelTellsUptoRow.pinnedBy)) = true := by kernel_rfl
end Go.Proofs.YtnckhmfajjcgpaaGreatDoor.fa
