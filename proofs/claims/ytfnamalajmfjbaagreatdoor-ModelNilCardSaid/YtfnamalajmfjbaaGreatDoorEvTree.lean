/- A table by number: a binary tree that the kernel reads fast. -/
import GoSem.Core.Value
set_option linter.unusedVariables false
set_option linter.unusedSimpArgs false
namespace Go.Proofs.YtfnamalajmfjbaaGreatDoor.Ev
inductive T (α : Type) where
  | lf
  | nd (l : T α) (v : Option α) (r : T α)
def T.get0 {α : Type} : T α → Nat → Option α
  | .lf, _ => none
  | .nd l v r, k => match Nat.beq k 0 with
    | true => v
    | false => match Nat.beq (k % 2) 1 with
      | true => l.get0 (k / 2)
      | false => r.get0 (k / 2 - 1)
def T.setF {α : Type} (x : Option α) : Nat → T α → Nat → T α
  | 0, t, _ => t
  | f + 1, .lf, k => match Nat.beq k 0 with
    | true => .nd .lf x .lf
    | false => match Nat.beq (k % 2) 1 with
      | true => .nd (T.setF x f .lf (k / 2)) none .lf
      | false => .nd .lf none (T.setF x f .lf (k / 2 - 1))
  | f + 1, .nd l v r, k => match Nat.beq k 0 with
    | true => .nd l x r
    | false => match Nat.beq (k % 2) 1 with
      | true => .nd (T.setF x f l (k / 2)) v r
      | false => .nd l v (T.setF x f r (k / 2 - 1))
def T.set0 {α : Type} (t : T α) (k : Nat) (x : Option α) : T α := T.setF x 24 t k
theorem T.get0_lf {α : Type} (k : Nat) : (T.lf : T α).get0 k = none := rfl
theorem T.get0SetF_same {α : Type} (x : Option α) : ∀ (f : Nat) (t : T α) (k : Nat), k + 1 < 2 ^ f → (T.setF x f t k).get0 k = x
  | 0, _, k, h => by simp at h
  | f + 1, t, k, h => by
    have hp : 2 ^ (f + 1) = 2 * 2 ^ f := by rw [Nat.pow_succ]; omega
    cases t <;> (
      simp only [T.setF]
      split
      · rename_i e; simp [T.get0, e]
      · rename_i e
        have e0 : k ≠ 0 := fun h => by subst h; simp at e
        split
        · rename_i e1
          have e1' : k % 2 = 1 := by simpa using e1
          simp only [T.get0, e, e1]
          exact T.get0SetF_same x f _ _ (by omega)
        · rename_i e1
          have e1' : k % 2 ≠ 1 := fun h => by simp [h] at e1
          simp only [T.get0, e, e1]
          exact T.get0SetF_same x f _ _ (by omega))
theorem T.get0SetF_other {α : Type} (x : Option α) : ∀ (f : Nat) (t : T α) (k j : Nat), j ≠ k → (T.setF x f t k).get0 j = t.get0 j
  | 0, _, _, _, _ => rfl
  | f + 1, t, k, j, h => by
    cases t <;> (
      simp only [T.setF]
      split
      · rename_i e
        have e0 : k = 0 := by simpa using e
        subst e0
        have hj : Nat.beq j 0 = false := by cases hb : Nat.beq j 0 <;> simp_all
        simp only [T.get0, hj]
        try (split <;> rfl)
      · rename_i e
        have e0 : k ≠ 0 := fun h => by subst h; simp at e
        split
        · rename_i e1
          have e1' : k % 2 = 1 := by simpa using e1
          simp only [T.get0]
          split
          · rfl
          · rename_i ej
            have ej0 : j ≠ 0 := fun h => by subst h; simp at ej
            split
            · rename_i ej1
              have ej1' : j % 2 = 1 := by simpa using ej1
              have := T.get0SetF_other x f (α := α)
              first
                | exact this _ _ _ (by omega)
                | (rw [this _ _ _ (by omega)]; try rfl)
            · rfl
        · rename_i e1
          have e1' : k % 2 ≠ 1 := fun h => by simp [h] at e1
          simp only [T.get0]
          split
          · rfl
          · rename_i ej
            have ej0 : j ≠ 0 := fun h => by subst h; simp at ej
            split
            · rfl
            · rename_i ej1
              have ej1' : j % 2 ≠ 1 := fun h => by simp [h] at ej1
              have := T.get0SetF_other x f (α := α)
              first
                | exact this _ _ _ (by omega)
                | (rw [this _ _ _ (by omega)]; try rfl))
theorem T.get0_set {α : Type} (t : T α) (k j : Nat) (x : Option α) (hk : k < 16777215) : (t.set0 k x).get0 j = if j = k then x else t.get0 j := by
  split
  · rename_i e
    subst e
    exact T.get0SetF_same x 24 t j (by omega)
  · rename_i e
    exact T.get0SetF_other x 24 t k j e
theorem T.get0_set_ne {α : Type} (t : T α) (k j : Nat) (x : Option α) (h : j ≠ k) : (t.set0 k x).get0 j = t.get0 j := T.get0SetF_other x 24 t k j h
/-- the same, by the recursor: the kernel reads it faster -/
noncomputable def T.get {α : Type} (t : T α) : Nat → Option α := T.rec (motive := fun _ => Nat → Option α) (fun _ => none) (fun _ v _ gl gr k => Bool.rec (motive := fun _ => Option α) (Bool.rec (motive := fun _ => Option α) (gr (k / 2 - 1)) (gl (k / 2)) (Nat.beq (k % 2) 1)) v (Nat.beq k 0)) t
noncomputable def T.setR {α : Type} (x : Option α) (f : Nat) : T α → Nat → T α := Nat.rec (motive := fun _ => T α → Nat → T α) (fun t _ => t) (fun _ g t k => T.rec (motive := fun _ => T α)
  (Bool.rec (motive := fun _ => T α) (Bool.rec (motive := fun _ => T α) (.nd .lf none (g .lf (k / 2 - 1))) (.nd (g .lf (k / 2)) none .lf) (Nat.beq (k % 2) 1)) (.nd .lf x .lf) (Nat.beq k 0))
  (fun l v r _ _ => Bool.rec (motive := fun _ => T α) (Bool.rec (motive := fun _ => T α) (.nd l v (g r (k / 2 - 1))) (.nd (g l (k / 2)) v r) (Nat.beq (k % 2) 1)) (.nd l x r) (Nat.beq k 0)) t) f
/-- numbers below 2^24 - 1 -/
noncomputable def T.set {α : Type} (t : T α) (k : Nat) (x : Option α) : T α := T.setR x 24 t k
theorem T.get_eq {α : Type} : ∀ (t : T α) (k : Nat), t.get k = t.get0 k
  | .lf, _ => rfl
  | .nd l v r, k => by
    have h1 := T.get_eq l
    have h2 := T.get_eq r
    show (Bool.rec (motive := fun _ => Option α) (Bool.rec (motive := fun _ => Option α) (r.get (k / 2 - 1)) (l.get (k / 2)) (Nat.beq (k % 2) 1)) v (Nat.beq k 0)) = _
    simp only [T.get0]
    cases Nat.beq k 0 with
    | true => rfl
    | false =>
      cases Nat.beq (k % 2) 1 with
      | true => exact h1 _
      | false => exact h2 _
theorem T.setR_eq {α : Type} (x : Option α) : ∀ (f : Nat) (t : T α) (k : Nat), T.setR x f t k = T.setF x f t k
  | 0, _, _ => rfl
  | f + 1, .lf, k => by
    have h1 := T.setR_eq x f
    show (Bool.rec (motive := fun _ => T α) (Bool.rec (motive := fun _ => T α) (.nd .lf none (T.setR x f .lf (k / 2 - 1))) (.nd (T.setR x f .lf (k / 2)) none .lf) (Nat.beq (k % 2) 1)) (.nd .lf x .lf) (Nat.beq k 0)) = _
    simp only [T.setF]
    cases Nat.beq k 0 with
    | true => rfl
    | false =>
      cases Nat.beq (k % 2) 1 with
      | true => simp only [h1]
      | false => simp only [h1]
  | f + 1, .nd l v r, k => by
    have h1 := T.setR_eq x f
    show (Bool.rec (motive := fun _ => T α) (Bool.rec (motive := fun _ => T α) (.nd l v (T.setR x f r (k / 2 - 1))) (.nd (T.setR x f l (k / 2)) v r) (Nat.beq (k % 2) 1)) (.nd l x r) (Nat.beq k 0)) = _
    simp only [T.setF]
    cases Nat.beq k 0 with
    | true => rfl
    | false =>
      cases Nat.beq (k % 2) 1 with
      | true => simp only [h1]
      | false => simp only [h1]
theorem T.set_eq {α : Type} (t : T α) (k : Nat) (x : Option α) : t.set k x = t.set0 k x := T.setR_eq x 24 t k
theorem T.get_lf {α : Type} (k : Nat) : (T.lf : T α).get k = none := rfl
theorem T.get_set {α : Type} (t : T α) (k j : Nat) (x : Option α) (hk : k < 16777215) : (t.set k x).get j = if j = k then x else t.get j := by
  rw [T.set_eq, T.get_eq, T.get_eq]
  exact T.get0_set t k j x hk
theorem T.get_set_ne {α : Type} (t : T α) (k j : Nat) (x : Option α) (h : j ≠ k) : (t.set k x).get j = t.get j := by
  rw [T.set_eq, T.get_eq, T.get_eq]
  exact T.get0_set_ne t k j x h
end Go.Proofs.YtfnamalajmfjbaaGreatDoor.Ev
