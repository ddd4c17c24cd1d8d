/- Closed facts of the row. -/
import Derived.Test.YtnckhmfajjcgpaaGreatDoorRows
import Derived.JoinedOf
import Derived.KernelRfl
set_option linter.unusedVariables false
set_option maxRecDepth 100000
namespace Go.Proofs.YtnckhmfajjcgpaaGreatDoor.fa
open Go
theorem a4 : (namedTie Tryz.prog Rows.modelTellsUptoRow.named (Rows.OpenSpec.upto Rows.modelTellsSpec).bare.vars) = true := by kernel_rfl
theorem a7 : ((Rows.modelTellsUptoRow.knobs == [])) = true := by kernel_rfl
theorem a13 : ((Rows.modelTellsUptoRow.maps == (Tryz.f3.params.toList ++ (Rows.OpenSpec.upto Rows.modelTellsSpec).bare.plain.varTypes Tryz.prog).any (Tryz.prog.mapsRec ·))) = true := by kernel_rfl
theorem a16 : ((Rows.modelTellsUptoRow.loops == (Tryz.f3.params.toList ++ (Rows.OpenSpec.upto Rows.modelTellsSpec).bare.plain.varTypes Tryz.prog).any (Tryz.prog.loopsFrom ·))) = true := by kernel_rfl
theorem a19 : (Tryz.f3.resultTypes.all (fun t => Tryz.prog.readableRec t && decide (t < Tryz.prog.types.size))) = true := by kernel_rfl
theorem a22 : ((Rows.modelTellsUptoRow.plainKeys == Tryz.prog.plainKeys)) = true := by kernel_rfl
theorem a25 : (Tryz.prog.mayEnter) = true := by kernel_rfl
theorem a28 : ((Rows.modelTellsUptoRow.kinds == (if Rows.modelTellsUptoRow.domain.isEmpty then [] else Tryz.f3.params.toList.map fun t => match Tryz.prog.underlying t with | some (.int k) => some k | _ => none))) = true := by kernel_rfl
theorem a31 : (Rows.modelTellsUptoRow.veiledFits Tryz.prog Tryz.f3.params.toList (Tryz.f3.params.toList ++ (Rows.OpenSpec.upto Rows.modelTellsSpec).bare.plain.varTypes Tryz.prog ++ Tryz.f3.resultTypes.toList)) = true := by kernel_rfl
end Go.Proofs.YtnckhmfajjcgpaaGreatDoor.fa
