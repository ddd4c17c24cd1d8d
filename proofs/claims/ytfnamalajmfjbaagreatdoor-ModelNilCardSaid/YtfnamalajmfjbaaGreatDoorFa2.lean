/- Closed facts of the row. -/
import Derived.Test.YtfnamalajmfjbaaGreatDoorRows
import Derived.JoinedOf
import Derived.KernelRfl
set_option linter.unusedVariables false
set_option maxRecDepth 100000
namespace Go.Proofs.YtfnamalajmfjbaaGreatDoor.fa
open Go
theorem a2 : (mapsRowed Tryz.prog) = true := by kernel_rfl
theorem a5 : ((Rows.modelNilRow.stops == [])) = true := by kernel_rfl
theorem a8 : ((Tryz.prog.stopKnobs == [])) = true := by kernel_rfl
theorem a14 : ((Rows.modelNilRow.ifaces == (Tryz.f3.params.toList ++ Rows.modelNilSpec.plain.varTypes Tryz.prog).any (Tryz.prog.ifacesRec ·))) = true := by kernel_rfl
theorem a17 : ((Rows.modelNilRow.wideKeys == (Tryz.f3.params.toList ++ Rows.modelNilSpec.plain.varTypes Tryz.prog ++ Tryz.f3.resultTypes.toList).any (Tryz.prog.wideKeysFrom ·))) = true := by kernel_rfl
theorem a20 : ((Rows.modelNilRow.ifacesOut == Tryz.f3.resultTypes.toList.any (Tryz.prog.ifacesRec ·))) = true := by kernel_rfl
theorem a23 : (Rows.modelNilRow.shortTexts.isNone) = true := by kernel_rfl
theorem a26 : ((Rows.modelNilRow.lifted == Tryz.prog.liftsFinal)) = true := by kernel_rfl
theorem a29 : ((Rows.modelNilRow.pinned == Rows.modelNilRow.pinnedBy)) = true := by kernel_rfl
end Go.Proofs.YtfnamalajmfjbaaGreatDoor.fa
