/- A world that meets the row's condition: the initialisers' own run, and over it the pinned table. -/
import Derived.Test.YtnckhmfajjcgpaaGreatDoorRows
import Derived.LaidMore
import Derived.LaidHandle
import Derived.Lay
import Derived.Stop.Joined
namespace Go.Proofs.YtnckhmfajjcgpaaGreatDoor.wit
open Go
noncomputable def nonH : List (String × DataW Unit) := Rows.modelTellsUptoRow.laid.filter fun x => x.2.handleName?.isNone
noncomputable def pinL : List (String × DataW Unit) := nonH.filter fun x => ["unicode/utf8.first"].contains x.1
noncomputable def restL : List (String × DataW Unit) := nonH.filter fun x => !["unicode/utf8.first"].contains x.1
noncomputable def w0 (os : Os) : World := World.doorLaid Tryz.prog 400 os
noncomputable def start (os : Os) : World := (w0 os).layVars Tryz.prog pinL
noncomputable def blocks (os : Os) : List Nat := (List.range (w0 os).heap.size).filter (· != ((Tryz.prog.globalNamed "unicode/utf8.first").getD 0))
theorem start_os (os : Os) : (start os).os = os := World.layVars_os _ _ _
theorem fit (os : Os) : (w0 os).layFits Tryz.prog pinL (blocks os) = true := by kernel_rfl
theorem ifc (os : Os) : (w0 os).layIfaces Tryz.prog pinL (start os) = true := by kernel_rfl
end Go.Proofs.YtnckhmfajjcgpaaGreatDoor.wit
