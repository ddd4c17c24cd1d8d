/- What a function comes to, found with a table of what was seen: the kernel finds it quicker. -/
import Derived.Test.YtnckhmfajjcgpaaGreatDoorEvA
import GoSem.ClaimFn
set_option linter.unusedVariables false
set_option linter.unusedSimpArgs false
set_option linter.unusedSectionVars false
namespace Go.Proofs.YtnckhmfajjcgpaaGreatDoor.Ev
noncomputable section
def closT (P : Program) : Nat → List FuncId → T Unit → List FuncId → List FuncId
  | 0, _, _, acc => acc.reverse
  | _, [], _, acc => acc.reverse
  | n + 1, f :: todo, s, acc => match s.get f with
    | some _ => closT P n todo s acc
    | none => cond (Nat.blt f 16777215) (closT P n (((P.funcs[f]?).elim [] P.leadsTo) ++ todo) (s.set f (some ())) (f :: acc)) []
theorem closT_eq (P : Program) : ∀ (n : Nat) (todo : List FuncId) (s : T Unit) (acc : List FuncId) (l : List FuncId), (∀ x, (s.get x).isSome = acc.contains x) → closT P n todo s acc = l → l ≠ [] → P.closureVia n todo acc = l
  | 0, todo, s, acc, l, _, h, _ => by simpa [closT, Program.closureVia] using h
  | n + 1, [], s, acc, l, _, h, _ => by simpa [closT, Program.closureVia] using h
  | n + 1, f :: todo, s, acc, l, hs, h, hl => by
    unfold closT at h
    unfold Program.closureVia
    have hf := hs f
    split at h
    · rename_i u hu
      rw [hu] at hf
      have hf' : acc.contains f = true := hf.symm
      rw [if_pos hf']
      exact closT_eq P n todo s acc l hs h hl
    · rename_i hu
      rw [hu] at hf
      have hf' : acc.contains f = false := hf.symm
      cases hb : Nat.blt f 16777215 with
      | false => rw [hb] at h; exact absurd h.symm hl
      | true =>
        rw [hb] at h
        rw [if_neg (by rw [hf']; simp)]
        refine closT_eq P n _ _ _ l (fun x => ?_) h hl
        rw [T.get_set _ _ _ _ (by simpa using hb)]
        by_cases e : x = f
        · subst e; simp
        · rw [if_neg e, hs x]
          simp [e]
theorem closure_eq {P : Program} {f : FuncId} {l : List FuncId} (n : Nat) (hn : 1 + (P.funcs.toList.map fun g => (P.leadsTo g).length + 1).sum = n) (h : closT P n [f] .lf [] = l) (hl : l ≠ []) : P.closure f = l := by
  unfold Program.closure
  rw [hn]
  exact closT_eq P n [f] .lf [] l (fun x => rfl) h hl
end
end Go.Proofs.YtnckhmfajjcgpaaGreatDoor.Ev
