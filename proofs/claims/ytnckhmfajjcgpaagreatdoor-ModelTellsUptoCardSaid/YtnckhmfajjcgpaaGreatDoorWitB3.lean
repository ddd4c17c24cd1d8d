/- The places of the first listed variables in that world, by the run. -/
import Derived.Test.YtnckhmfajjcgpaaGreatDoorWitB1
namespace Go.Proofs.YtnckhmfajjcgpaaGreatDoor.wit
open Go
theorem run_pair {P : Program} {w : World} {fuel : Nat} {f : MemPlace → Nat} {φ : MemPlace → Bool} : ∀ {a b : List String} {ca cb : List Nat}, (DataW.laidRun P w fuel a).map (fun x => (x.2.map f, x.2.all φ)) = some (ca, true) → (DataW.laidRun P w fuel b).map (fun x => (x.2.map f, x.2.all φ)) = some (cb, true) →
    (DataW.laidRun P w fuel (a ++ b)).map (fun x => (x.2.map f, x.2.all φ)) = some (ca ++ cb, true)
  | [], b, ca, cb, h, k => by
    simp only [DataW.laidRun, Option.map_some, Option.some.injEq, List.map_nil, Prod.mk.injEq] at h
    obtain ⟨rfl, _⟩ := h
    exact k
  | n :: a, b, ca, cb, h, k => by
    rw [List.cons_append]
    unfold DataW.laidRun at h ⊢
    cases hg : P.globalNamed n with
    | none => rw [hg] at h; cases h
    | some g =>
      rw [hg] at h
      simp only at h ⊢
      cases ht : (P.globals[g]?).map (·.type) with
      | none => rw [ht] at h; cases h
      | some t =>
        cases hc : w.var? P n with
        | none => rw [ht, hc] at h; cases h
        | some cs =>
          rw [ht, hc] at h
          simp only at h ⊢
          cases hd : DataW.trod (fun _ => ()) P w 0 (fun _ => true) false fuel t cs.toList with
          | none => rw [hd] at h; cases h
          | some z =>
            cases hr : DataW.laidRun P w fuel a with
            | none => rw [hd, hr] at h; cases h
            | some u =>
              rw [hd, hr] at h
              simp only [Option.map_some, Option.some.injEq, Prod.mk.injEq, List.map_append, List.all_append, Bool.and_eq_true] at h
              obtain ⟨rfl, ⟨hp1, hp2⟩, hp3⟩ := h
              have hi := run_pair (P := P) (w := w) (fuel := fuel) (f := f) (φ := φ) (a := a) (b := b) (ca := u.2.map f) (cb := cb) (by rw [hr]; simp only [Option.map_some, hp3]) k
              cases hq : DataW.laidRun P w fuel (a ++ b) with
              | none => rw [hq] at hi; cases hi
              | some v =>
                rw [hq] at hi
                simp only [Option.map_some, Option.some.injEq, Prod.mk.injEq] at hi
                simp only [Option.map_some, hi.1, hi.2, hp1, hp2, List.map_append, List.all_append, List.append_assoc, Bool.and_self]
def cl (M g k : Nat) : List Nat := (List.range k).map fun i => 2 * (g * M + i)
theorem rows_all (P : Program) (w : World) (ps : List MemPlace) : laidRowsB P w ps = ps.all fun p => laidRowsB P w [p] := by
  unfold laidRowsB
  simp only [List.all_cons, List.all_nil, Bool.and_true]
theorem pA (os : Os) : (DataW.laidRun Tryz.prog (start os) 8 (restA.map (·.1))).map (fun x => (x.2.map MemPlace.codeOf, x.2.all fun p => laidRowsB Tryz.prog (start os) [p] && (blocks os).contains p.block)) = some (cl 4294967296 6 1 ++ cl 4294967296 17 1 ++ cl 4294967296 7 1 ++ cl 4294967296 16 1 ++ cl 4294967296 8 20 ++ cl 4294967296 9 32, true) := by kernel_rfl
end Go.Proofs.YtnckhmfajjcgpaaGreatDoor.wit
