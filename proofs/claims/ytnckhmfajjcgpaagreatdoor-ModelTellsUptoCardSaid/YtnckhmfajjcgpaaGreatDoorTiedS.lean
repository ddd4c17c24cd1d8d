/- The tie, third part: the places that the initialisers leave. -/
import Derived.Test.YtnckhmfajjcgpaaGreatDoorTiedS1
import Derived.Test.YtnckhmfajjcgpaaGreatDoorTiedS2
set_option linter.unusedVariables false
namespace Go.Proofs.YtnckhmfajjcgpaaGreatDoor.tied
open Go
theorem f9 (os : Os) (tape : Tape) : (DataW.laidRun Tryz.prog (varsWorld Tryz.prog 400 (varsId Tryz.prog) os tape).memory 8 ((laidN.filter fun x => x.2.handleName?.isNone).map (·.1))).map (fun x => decide x.2.Nodup && laidRowsB Tryz.prog (varsWorld Tryz.prog 400 (varsId Tryz.prog) os tape).memory x.2) = some true := by
  have h := run_pair (f9A os tape) (f9B os tape)
  rw [← List.map_append, show nonA ++ nonB = (laidN.filter fun x => x.2.handleName?.isNone) from List.take_append_drop 4 _, Option.map_eq_some_iff] at h
  rw [Option.map_eq_some_iff]
  obtain ⟨x, h1, h2⟩ := h
  refine ⟨x, h1, ?_⟩
  simp only [Prod.mk.injEq, List.all_eq_true, Bool.and_eq_true] at h2
  obtain ⟨h2, h3⟩ := h2
  rw [Bool.and_eq_true]
  refine ⟨decide_eq_true (apart_nodup _ (List.all_eq_true.2 fun p hp => (h3 p hp).1) (by rw [h2]; kernel_rfl)), ?_⟩
  rw [rows_all]
  exact List.all_eq_true.2 fun p hp => (h3 p hp).2
end Go.Proofs.YtnckhmfajjcgpaaGreatDoor.tied
