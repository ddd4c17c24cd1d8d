/- The rest of the listed variables in that world, by the run. -/
import Derived.Test.YtnckhmfajjcgpaaGreatDoorWitB2
import Derived.Test.YtnckhmfajjcgpaaGreatDoorWitB4
namespace Go.Proofs.YtnckhmfajjcgpaaGreatDoor.wit
open Go
theorem r1 (os : Os) : (DataW.laidRun Tryz.prog (start os) 8 (restL.map (·.1))).map (·.1) = some restL := by
  have h := laidRun_app (r1a os) (r1b os)
  rw [← List.map_append] at h
  rw [show restA ++ restB = restL from List.take_append_drop 4 restL] at h
  exact h
theorem pAB (os : Os) : ∃ x, DataW.laidRun Tryz.prog (start os) 8 (restL.map (·.1)) = some x ∧ nodupB (x.2.map MemPlace.codeOf) = true ∧ ∀ p ∈ x.2, laidRowsB Tryz.prog (start os) [p] = true ∧ (blocks os).contains p.block = true := by
  have h := run_pair (pA os) (pB os)
  rw [← List.map_append, show restA ++ restB = restL from List.take_append_drop 4 restL, Option.map_eq_some_iff] at h
  obtain ⟨x, h1, h2⟩ := h
  simp only [Prod.mk.injEq, List.all_eq_true, Bool.and_eq_true] at h2
  exact ⟨x, h1, by rw [h2.1]; kernel_rfl, h2.2⟩
theorem r2 (os : Os) : (DataW.laidRun Tryz.prog (start os) 8 (restL.map (·.1))).map (fun x => nodupB (x.2.map MemPlace.codeOf)) = some true := by
  obtain ⟨x, h1, h2, _⟩ := pAB os
  rw [h1, Option.map_some, h2]
theorem r3 (os : Os) : (DataW.laidRun Tryz.prog (start os) 8 (restL.map (·.1))).map (fun x => laidRowsB Tryz.prog (start os) x.2) = some true := by
  obtain ⟨x, h1, _, h3⟩ := pAB os
  rw [h1, Option.map_some, rows_all, List.all_eq_true.2 fun p hp => (h3 p hp).1]
theorem r4 (os : Os) : (DataW.laidRun Tryz.prog (start os) 8 (restL.map (·.1))).map (fun x => x.2.all fun p => (blocks os).contains p.block) = some true := by
  obtain ⟨x, h1, _, h3⟩ := pAB os
  rw [h1, Option.map_some, List.all_eq_true.2 fun p hp => (h3 p hp).2]
end Go.Proofs.YtnckhmfajjcgpaaGreatDoor.wit
