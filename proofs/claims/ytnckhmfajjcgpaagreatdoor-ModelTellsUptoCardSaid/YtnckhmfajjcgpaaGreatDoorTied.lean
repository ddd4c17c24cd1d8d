/- The tie of the listed variables to the program's own text. -/
import Derived.Test.YtnckhmfajjcgpaaGreatDoorTiedA
import Derived.Test.YtnckhmfajjcgpaaGreatDoorTiedB
import Derived.Test.YtnckhmfajjcgpaaGreatDoorTiedC
import Derived.Test.YtnckhmfajjcgpaaGreatDoorTiedK
import Derived.Test.YtnckhmfajjcgpaaGreatDoorTiedR
import Derived.Test.YtnckhmfajjcgpaaGreatDoorTiedS
set_option linter.unusedVariables false
namespace Go.Proofs.YtnckhmfajjcgpaaGreatDoor.tied
open Go
theorem tie : Tryz.prog.laidByTextLater laidN kindsN true := Program.laidByTextLater_by_run_h 400 8 f1 f2 f3 f4 f5 f6 f7 f8 f9 f10
theorem row_tie : Rows.modelTellsUptoRow.laidByTextAt .later Tryz.pinned [.sentinel, .sentinel, .data, .data, .data, .pinned, .data, .handle, .data, .data] true :=
  OpenClaim.laidByTextAt_pinned rfl rfl tie rfl rfl rfl rfl (fun y hy _e => by
    simp only [Rows.modelTellsUptoRow, List.zip_cons_cons, List.zip_nil_right, List.mem_cons, List.mem_nil_iff, or_false] at hy
    rcases hy with rfl | rfl | rfl | rfl | rfl | rfl | rfl | rfl | rfl | rfl
    · cases _e
    · cases _e
    · cases _e
    · cases _e
    · cases _e
    · exact ⟨pin0, by kernel_rfl⟩
    · cases _e
    · cases _e
    · cases _e
    · cases _e) fits1
end Go.Proofs.YtnckhmfajjcgpaaGreatDoor.tied
