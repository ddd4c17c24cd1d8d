/- The tie of the listed variables to the program's own text. -/
import Derived.Test.YtfnamalajmfjbaaGreatDoorTiedA
import Derived.Test.YtfnamalajmfjbaaGreatDoorTiedB
import Derived.Test.YtfnamalajmfjbaaGreatDoorTiedC
import Derived.Test.YtfnamalajmfjbaaGreatDoorTiedK
import Derived.Test.YtfnamalajmfjbaaGreatDoorTiedR
import Derived.Test.YtfnamalajmfjbaaGreatDoorTiedS
set_option linter.unusedVariables false
namespace Go.Proofs.YtfnamalajmfjbaaGreatDoor.tied
open Go
theorem tie : Tryz.prog.laidByTextLater laidN kindsN true := Program.laidByTextLater_by_run_h 400 8 f1 f2 f3 f4 f5 f6 f7 f8 f9 f10
theorem row_tie : Rows.modelNilRow.laidByTextAt .later Tryz.pinned [.sentinel, .sentinel, .data, .data, .data, .pinned, .data, .handle, .data, .data] true :=
  OpenClaim.laidByTextAt_pinned rfl rfl tie rfl rfl rfl rfl (fun y hy _e => by
    simp only [Rows.modelNilRow, List.zip_cons_cons, List.zip_nil_right, List.mem_cons, List.mem_nil_iff, or_false] at hy
    rcases hy with rfl | rfl | rfl | rfl | rfl | rfl | rfl | rfl | rfl | rfl
    · cases _e
    · cases _e
    · cases _e
    · cases _e
    · cases _e
    · exact ⟨pin0, by kernel_rfl⟩
    · cases _e
    · cases _e
    · cases _e
    · cases _e) fits1
end Go.Proofs.YtfnamalajmfjbaaGreatDoor.tied
