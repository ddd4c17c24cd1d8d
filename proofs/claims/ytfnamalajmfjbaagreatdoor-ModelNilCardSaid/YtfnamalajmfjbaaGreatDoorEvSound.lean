/- One operation of the evaluator stands for one of the real run. -/
import Derived.Test.YtfnamalajmfjbaaGreatDoorEvEval
set_option linter.unusedVariables false
set_option linter.unusedSimpArgs false
namespace Go.Proofs.YtfnamalajmfjbaaGreatDoor.Ev
noncomputable section
section
variable {P : Program} {X : Tab} {σ : Ren} {S : Ids} {H : AH} {W : World} {B : Nat}
structure ActR (σ : Ren) (n : Ids) (A : AAct) (a : Act) : Prop where
  size : a.tmps.size = A.n
  at_ : ∀ t, VR σ n (A.at_ t) (a.tmps.getD t undef)
theorem undef_vr {σ : Ren} {n : Ids} : VR σ n undef undef := .tuple _ _ .nil
theorem ActR.env {n : Ids} {A : AAct} {a : Act} (h : ActR σ n A a) : EnvOk σ n A.env a.eval := by
  intro x v hv
  cases x with
  | tmp t =>
    simp only [AAct.env] at hv
    injection hv with hv
    subst hv
    exact h.at_ t
  | const u =>
    simp only [AAct.env] at hv
    cases hf : flatF 8 u with
    | false => rw [hf] at hv; cases hv
    | true =>
      rw [hf] at hv
      injection hv with hv
      subst hv
      exact VR.flat 8 u hf
  | global g => cases hv
  | func f =>
    simp only [AAct.env] at hv
    injection hv with hv
    subst hv
    exact .func _ _ _ _ _ .nil .nil
theorem ActR.ext {n n' : Ids} {σ' : Ren} {A : AAct} {a : Act} (h : ActR σ n A a) (e : Ext σ n σ' n') : ActR σ' n' A a := ⟨h.size, fun t => (h.at_ t).ext e⟩
theorem ActR.put {n : Ids} {A A' : AAct} {a : Act} (h : ActR σ n A a) {d : Option Nat} {v v' : Value} (hv : VR σ n v v') (hp : A.put d v = some A') : ActR σ n A' (a.put d v') ∧ A'.defers = A.defers ∧ A'.n = A.n := by
  unfold AAct.put at hp
  cases d with
  | none =>
    simp only at hp
    injection hp with hp
    subst hp
    exact ⟨h, rfl, rfl⟩
  | some d =>
    simp only at hp
    cases hc : (Nat.blt d A.n && Nat.blt d 16777215) with
    | false => rw [hc] at hp; cases hp
    | true =>
      rw [hc] at hp
      injection hp with hp
      subst hp
      simp only [Bool.and_eq_true, Nat.blt_eq] at hc
      refine ⟨⟨by simp [Act.put, h.size], fun t => ?_⟩, rfl, rfl⟩
      simp only [AAct.at_, Act.put]
      rw [T.get_set _ _ _ _ hc.2]
      by_cases e : t = d
      · subst e
        rw [if_pos rfl]
        have : (a.tmps.setIfInBounds t v').getD t undef = v' := by
          rw [Array.getD_eq_getD_getElem?, Array.getElem?_setIfInBounds, if_pos rfl, if_pos (by rw [h.size]; exact hc.1)]
          rfl
        rw [this]
        exact hv
      · rw [if_neg e]
        have : (a.tmps.setIfInBounds d v').getD t undef = a.tmps.getD t undef := by
          rw [Array.getD_eq_getD_getElem?, Array.getD_eq_getD_getElem?, Array.getElem?_setIfInBounds, if_neg (Ne.symm e)]
        rw [this]
        exact h.at_ t
theorem partsM_vr {ρ : Env} {ρ' : Operand → Value} {n : Ids} (hρ : EnvOk σ n ρ ρ') : ∀ (l : List (Nat × Operand)) (ps : List (Nat × Value)), partsM ρ l = some ps → PRs σ n ps (l.map fun (i, x) => (i, ρ' x))
  | [], ps, h => by simp only [partsM] at h; injection h with h; subst h; exact .nil
  | (i, x) :: l, ps, h => by
    simp only [partsM, Option.bind_eq_bind, Option.bind_eq_some_iff] at h
    obtain ⟨v, h1, r, h2, h3⟩ := h
    injection h3 with h3
    subst h3
    exact .cons _ _ _ _ _ (hρ x v h1) (partsM_vr hρ l r h2)
theorem argsM_vr {ρ : Env} {ρ' : Operand → Value} {n : Ids} (hρ : EnvOk σ n ρ ρ') : ∀ (l : List Operand) (vs : List Value), argsM ρ l = some vs → VRs σ n vs (l.map ρ')
  | [], vs, h => by simp only [argsM] at h; injection h with h; subst h; exact .nil
  | x :: l, vs, h => by
    simp only [argsM, Option.bind_eq_bind, Option.bind_eq_some_iff] at h
    obtain ⟨v, h1, r, h2, h3⟩ := h
    injection h3 with h3
    subst h3
    exact .cons _ _ _ _ (hρ x v h1) (argsM_vr hρ l r h2)
theorem optM_vr {ρ : Env} {ρ' : Operand → Value} {n : Ids} (hρ : EnvOk σ n ρ ρ') {o : Option Operand} {r : Option Value} (h : optM ρ o = some r) : r.isSome = (o.map ρ').isSome ∧ ∀ u u', r = some u → o.map ρ' = some u' → VR σ n u u' := by
  cases o with
  | none => simp only [optM] at h; injection h with h; subst h; exact ⟨rfl, fun u u' e => by cases e⟩
  | some x =>
    simp only [optM, Option.map_eq_some_iff] at h
    obtain ⟨v, h1, h2⟩ := h
    subst h2
    exact ⟨rfl, fun u u' e e' => by injection e with e; injection e' with e'; subst e e'; exact hρ x v h1⟩
theorem val_eq {v : Option Value} {H H' : AH} {r : ANext} (h : val v H = some (r, H')) : ∃ u, v = some u ∧ r = .value u ∧ H' = H := by
  unfold val at h
  rw [Option.bind_eq_some_iff] at h
  obtain ⟨u, h1, h2⟩ := h
  injection h2 with h2
  injection h2 with h2 h3
  exact ⟨u, h1, h2.symm, h3.symm⟩
theorem vals_eq {v : Option (Value × AH)} {H' : AH} {r : ANext} (h : vals v = some (r, H')) : ∃ u, v = some (u, H') ∧ r = .value u := by
  unfold vals at h
  rw [Option.bind_eq_some_iff] at h
  obtain ⟨⟨u, H1⟩, h1, h2⟩ := h
  injection h2 with h2
  injection h2 with h2 h3
  subst h3
  exact ⟨u, h1, h2.symm⟩
theorem unit_eq {v : Option AH} {H' : AH} {r : ANext} (h : unit_ v = some (r, H')) : v = some H' ∧ r = .skip := by
  unfold unit_ at h
  rw [Option.bind_eq_some_iff] at h
  obtain ⟨H1, h1, h2⟩ := h
  injection h2 with h2
  injection h2 with h2 h3
  subst h3
  exact ⟨h1, h2.symm⟩
theorem Does.pure_ (h : Rep σ S H W B) {s : Sem Next} {v v' : Value} (hs : s.run P W = .ok (.value v') W) (hv : VR σ S v v') : Does P σ S H W B s (.value v) H := ⟨σ, S, W, .value v', hs, h, h.refl, hv, Taken.refl _ _⟩
theorem okNil_run {n : Ids} {v v' : Value} (hk : okNil v = true) (hv : VR σ n v v') (w : World) : ((match v' with
    | .pointer none | .nilIface | .nilFunc => runtimePanic .nilDeref
    | .func (.method name) first captured =>
      match (first[0]? : Option Value) with
      | some .nilIface => runtimePanic .nilDeref
      | some (.iface t w) => do
        if (← nilAhead ((← program).types.size + Made.depth) t w name) != some false then
          unsupported (.noEntry "op/nilCheck.the method's receiver behind this interface value is a nil pointer, or cannot be seen to be none, and the arguments act or may panic (ledger 612)")
        pure (.value (.func (.method name) first captured))
      | _ => pure (.value (.func (.method name) first captured))
    | x => pure (.value x)) : Sem Next).run P w = .ok (.value v') w := by
  cases hv <;> first
    | rfl
    | (simp [okNil] at hk; done)
end
end
end Go.Proofs.YtfnamalajmfjbaaGreatDoor.Ev
