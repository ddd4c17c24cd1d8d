/- The tie, third part: places, in two parts. -/
import Derived.Test.YtnckhmfajjcgpaaGreatDoorTiedR1
set_option linter.unusedVariables false
namespace Go.Proofs.YtnckhmfajjcgpaaGreatDoor.tied
open Go
def codeOf : MemPlace → Nat
  | .cell b o => 2 * (b * 65536 + o)
  | .map b => 2 * b + 1
def small : MemPlace → Bool
  | .cell _ o => Nat.blt o 65536
  | .map _ => true
theorem codeOf_inj (p q : MemPlace) (hp : small p = true) (hq : small q = true) (h : codeOf p = codeOf q) : p = q := by
  cases p <;> cases q <;> simp only [codeOf, small, Nat.blt_eq] at hp hq h
  · rename_i b o b' o'
    have : b = b' ∧ o = o' := by omega
    rw [this.1, this.2]
  · omega
  · omega
  · rename_i b b'
    have : b = b' := by omega
    rw [this]
def freshIn (x : Nat) : List Nat → Bool
  | [] => true
  | y :: l => !Nat.beq x y && freshIn x l
def apartL : List Nat → Bool
  | [] => true
  | x :: l => freshIn x l && apartL l
theorem freshIn_not (x : Nat) : ∀ l, freshIn x l = true → x ∉ l
  | [], _ => by simp
  | y :: l, h => by
    simp only [freshIn, Bool.and_eq_true, Bool.not_eq_true'] at h
    simp only [List.mem_cons, not_or]
    exact ⟨fun e => by rw [e] at h; simp at h, freshIn_not x l h.2⟩
theorem apart_nodup : ∀ l : List MemPlace, l.all small = true → apartL (l.map codeOf) = true → l.Nodup
  | [], _, _ => List.nodup_nil
  | p :: l, hs, h => by
    simp only [List.all_cons, Bool.and_eq_true] at hs
    simp only [List.map_cons, apartL, Bool.and_eq_true] at h
    refine List.nodup_cons.2 ⟨fun hm => ?_, apart_nodup l hs.2 h.2⟩
    exact freshIn_not _ _ h.1 (List.mem_map_of_mem hm)
theorem run_pair {P : Program} {w : World} {fuel : Nat} {f : MemPlace → Nat} {φ : MemPlace → Bool} : ∀ {a b : List String} {ca cb : List Nat}, (DataW.laidRun P w fuel a).map (fun x => (x.2.map f, x.2.all φ)) = some (ca, true) → (DataW.laidRun P w fuel b).map (fun x => (x.2.map f, x.2.all φ)) = some (cb, true) →
    (DataW.laidRun P w fuel (a ++ b)).map (fun x => (x.2.map f, x.2.all φ)) = some (ca ++ cb, true)
  | [], b, ca, cb, h, k => by
    simp only [DataW.laidRun, Option.map_some, Option.some.injEq, List.map_nil, Prod.mk.injEq] at h
    obtain ⟨rfl, _⟩ := h
    exact k
  | n :: a, b, ca, cb, h, k => by
    rw [List.cons_append]
    unfold DataW.laidRun at h ⊢
    cases hg : P.globalNamed n with
    | none => rw [hg] at h; cases h
    | some g =>
      rw [hg] at h
      simp only at h ⊢
      cases ht : (P.globals[g]?).map (·.type) with
      | none => rw [ht] at h; cases h
      | some t =>
        cases hc : w.var? P n with
        | none => rw [ht, hc] at h; cases h
        | some cs =>
          rw [ht, hc] at h
          simp only at h ⊢
          cases hd : DataW.trod (fun _ => ()) P w 0 (fun _ => true) false fuel t cs.toList with
          | none => rw [hd] at h; cases h
          | some z =>
            cases hr : DataW.laidRun P w fuel a with
            | none => rw [hd, hr] at h; cases h
            | some u =>
              rw [hd, hr] at h
              simp only [Option.map_some, Option.some.injEq, Prod.mk.injEq, List.map_append, List.all_append, Bool.and_eq_true] at h
              obtain ⟨rfl, ⟨hp1, hp2⟩, hp3⟩ := h
              have hi := run_pair (P := P) (w := w) (fuel := fuel) (f := f) (φ := φ) (a := a) (b := b) (ca := u.2.map f) (cb := cb) (by rw [hr]; simp only [Option.map_some, hp3]) k
              cases hq : DataW.laidRun P w fuel (a ++ b) with
              | none => rw [hq] at hi; cases hi
              | some v =>
                rw [hq] at hi
                simp only [Option.map_some, Option.some.injEq, Prod.mk.injEq] at hi
                simp only [Option.map_some, hi.1, hi.2, hp1, hp2, List.map_append, List.all_append, List.append_assoc, Bool.and_self]
def cl (M g k : Nat) : List Nat := (List.range k).map fun i => 2 * (g * M + i)
theorem rows_all (P : Program) (w : World) (ps : List MemPlace) : laidRowsB P w ps = ps.all fun p => laidRowsB P w [p] := by
  unfold laidRowsB
  simp only [List.all_cons, List.all_nil, Bool.and_true]
theorem f9A (os : Os) (tape : Tape) : (DataW.laidRun Tryz.prog (varsWorld Tryz.prog 400 (varsId Tryz.prog) os tape).memory 8 (nonA.map (·.1))).map (fun x => (x.2.map codeOf, x.2.all fun p => small p && laidRowsB Tryz.prog (varsWorld Tryz.prog 400 (varsId Tryz.prog) os tape).memory [p])) = some (cl 65536 6 1 ++ cl 65536 17 1 ++ cl 65536 7 1 ++ cl 65536 16 1 ++ cl 65536 8 20 ++ cl 65536 9 32, true) := by kernel_rfl
end Go.Proofs.YtnckhmfajjcgpaaGreatDoor.tied
