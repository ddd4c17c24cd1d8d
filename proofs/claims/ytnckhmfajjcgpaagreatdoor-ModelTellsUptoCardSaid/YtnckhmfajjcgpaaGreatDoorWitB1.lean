/- The first of the listed variables in that world, by the run. -/
import Derived.Test.YtnckhmfajjcgpaaGreatDoorWitA
namespace Go.Proofs.YtnckhmfajjcgpaaGreatDoor.wit
open Go
noncomputable def restA : List (String × DataW Unit) := restL.take 4
noncomputable def restB : List (String × DataW Unit) := restL.drop 4
theorem laidRun_app {P : Program} {w : World} {fuel : Nat} : ∀ {a b : List String} {x y : List (String × DataW Unit)}, (DataW.laidRun P w fuel a).map (·.1) = some x → (DataW.laidRun P w fuel b).map (·.1) = some y → (DataW.laidRun P w fuel (a ++ b)).map (·.1) = some (x ++ y)
  | [], b, x, y, h, k => by
    simp only [DataW.laidRun, Option.map_some, Option.some.injEq] at h
    subst h
    exact k
  | n :: a, b, x, y, h, k => by
    rw [List.cons_append]
    unfold DataW.laidRun at h ⊢
    cases hg : P.globalNamed n with
    | none => rw [hg] at h; cases h
    | some g =>
      rw [hg] at h
      simp only at h ⊢
      cases ht : (P.globals[g]?).map (·.type) with
      | none => rw [ht] at h; cases h
      | some t =>
        cases hc : w.var? P n with
        | none => rw [ht, hc] at h; cases h
        | some cs =>
          rw [ht, hc] at h
          simp only at h ⊢
          cases hd : DataW.trod (fun _ => ()) P w 0 (fun _ => true) false fuel t cs.toList with
          | none => rw [hd] at h; cases h
          | some z =>
            cases hr : DataW.laidRun P w fuel a with
            | none => rw [hd, hr] at h; cases h
            | some u =>
              rw [hd, hr] at h
              simp only [Option.map_some, Option.some.injEq] at h
              subst h
              have hi := laidRun_app (P := P) (w := w) (fuel := fuel) (a := a) (b := b) (x := u.1) (y := y) (by rw [hr]; rfl) k
              cases hq : DataW.laidRun P w fuel (a ++ b) with
              | none => rw [hq] at hi; cases hi
              | some v =>
                rw [hq] at hi
                simp only [Option.map_some, Option.some.injEq] at hi
                simp only [Option.map_some, hi, List.cons_append]
theorem r1a (os : Os) : (DataW.laidRun Tryz.prog (start os) 8 (restA.map (·.1))).map (·.1) = some restA := by kernel_rfl
end Go.Proofs.YtnckhmfajjcgpaaGreatDoor.wit
