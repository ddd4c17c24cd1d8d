/- A table by number: a binary tree that the kernel reads fast. -/
import GoSem.Core.Value
import Derived.Calls
import Derived.Below
import Derived.Deep.Draws
import Derived.Laws.Rows
import Derived.Deep.MidRow
import Derived.Deep.AppendSrc
import GoSem.Extern.MapsClone
set_option linter.unusedVariables false
set_option linter.unusedSimpArgs false
set_option linter.unusedSectionVars false
namespace Go.Proofs.YtnckhmfajjcgpaaGreatDoor.Ev
inductive T (α : Type) where
  | lf
  | nd (l : T α) (v : Option α) (r : T α)
def T.get0 {α : Type} : T α → Nat → Option α
  | .lf, _ => none
  | .nd l v r, k => match Nat.beq k 0 with
    | true => v
    | false => match Nat.beq (k % 2) 1 with
      | true => l.get0 (k / 2)
      | false => r.get0 (k / 2 - 1)
def T.setF {α : Type} (x : Option α) : Nat → T α → Nat → T α
  | 0, t, _ => t
  | f + 1, .lf, k => match Nat.beq k 0 with
    | true => .nd .lf x .lf
    | false => match Nat.beq (k % 2) 1 with
      | true => .nd (T.setF x f .lf (k / 2)) none .lf
      | false => .nd .lf none (T.setF x f .lf (k / 2 - 1))
  | f + 1, .nd l v r, k => match Nat.beq k 0 with
    | true => .nd l x r
    | false => match Nat.beq (k % 2) 1 with
      | true => .nd (T.setF x f l (k / 2)) v r
      | false => .nd l v (T.setF x f r (k / 2 - 1))
def T.set0 {α : Type} (t : T α) (k : Nat) (x : Option α) : T α := T.setF x 24 t k
theorem T.get0_lf {α : Type} (k : Nat) : (T.lf : T α).get0 k = none := rfl
theorem T.get0SetF_same {α : Type} (x : Option α) : ∀ (f : Nat) (t : T α) (k : Nat), k + 1 < 2 ^ f → (T.setF x f t k).get0 k = x
  | 0, _, k, h => by simp at h
  | f + 1, t, k, h => by
    have hp : 2 ^ (f + 1) = 2 * 2 ^ f := by rw [Nat.pow_succ]; omega
    cases t <;> (
      simp only [T.setF]
      split
      · rename_i e; simp [T.get0, e]
      · rename_i e
        have e0 : k ≠ 0 := fun h => by subst h; simp at e
        split
        · rename_i e1
          have e1' : k % 2 = 1 := by simpa using e1
          simp only [T.get0, e, e1]
          exact T.get0SetF_same x f _ _ (by omega)
        · rename_i e1
          have e1' : k % 2 ≠ 1 := fun h => by simp [h] at e1
          simp only [T.get0, e, e1]
          exact T.get0SetF_same x f _ _ (by omega))
theorem T.get0SetF_other {α : Type} (x : Option α) : ∀ (f : Nat) (t : T α) (k j : Nat), j ≠ k → (T.setF x f t k).get0 j = t.get0 j
  | 0, _, _, _, _ => rfl
  | f + 1, t, k, j, h => by
    cases t <;> (
      simp only [T.setF]
      split
      · rename_i e
        have e0 : k = 0 := by simpa using e
        subst e0
        have hj : Nat.beq j 0 = false := by cases hb : Nat.beq j 0 <;> simp_all
        simp only [T.get0, hj]
        try (split <;> rfl)
      · rename_i e
        have e0 : k ≠ 0 := fun h => by subst h; simp at e
        split
        · rename_i e1
          have e1' : k % 2 = 1 := by simpa using e1
          simp only [T.get0]
          split
          · rfl
          · rename_i ej
            have ej0 : j ≠ 0 := fun h => by subst h; simp at ej
            split
            · rename_i ej1
              have ej1' : j % 2 = 1 := by simpa using ej1
              have := T.get0SetF_other x f (α := α)
              first
                | exact this _ _ _ (by omega)
                | (rw [this _ _ _ (by omega)]; try rfl)
            · rfl
        · rename_i e1
          have e1' : k % 2 ≠ 1 := fun h => by simp [h] at e1
          simp only [T.get0]
          split
          · rfl
          · rename_i ej
            have ej0 : j ≠ 0 := fun h => by subst h; simp at ej
            split
            · rfl
            · rename_i ej1
              have ej1' : j % 2 ≠ 1 := fun h => by simp [h] at ej1
              have := T.get0SetF_other x f (α := α)
              first
                | exact this _ _ _ (by omega)
                | (rw [this _ _ _ (by omega)]; try rfl))
theorem T.get0_set {α : Type} (t : T α) (k j : Nat) (x : Option α) (hk : k < 16777215) : (t.set0 k x).get0 j = if j = k then x else t.get0 j := by
  split
  · rename_i e
    subst e
    exact T.get0SetF_same x 24 t j (by omega)
  · rename_i e
    exact T.get0SetF_other x 24 t k j e
theorem T.get0_set_ne {α : Type} (t : T α) (k j : Nat) (x : Option α) (h : j ≠ k) : (t.set0 k x).get0 j = t.get0 j := T.get0SetF_other x 24 t k j h
/-- the same, by the recursor: the kernel reads it faster -/
noncomputable def T.get {α : Type} (t : T α) : Nat → Option α := T.rec (motive := fun _ => Nat → Option α) (fun _ => none) (fun _ v _ gl gr k => Bool.rec (motive := fun _ => Option α) (Bool.rec (motive := fun _ => Option α) (gr (k / 2 - 1)) (gl (k / 2)) (Nat.beq (k % 2) 1)) v (Nat.beq k 0)) t
noncomputable def T.setR {α : Type} (x : Option α) (f : Nat) : T α → Nat → T α := Nat.rec (motive := fun _ => T α → Nat → T α) (fun t _ => t) (fun _ g t k => T.rec (motive := fun _ => T α)
  (Bool.rec (motive := fun _ => T α) (Bool.rec (motive := fun _ => T α) (.nd .lf none (g .lf (k / 2 - 1))) (.nd (g .lf (k / 2)) none .lf) (Nat.beq (k % 2) 1)) (.nd .lf x .lf) (Nat.beq k 0))
  (fun l v r _ _ => Bool.rec (motive := fun _ => T α) (Bool.rec (motive := fun _ => T α) (.nd l v (g r (k / 2 - 1))) (.nd (g l (k / 2)) v r) (Nat.beq (k % 2) 1)) (.nd l x r) (Nat.beq k 0)) t) f
/-- numbers below 2^24 - 1 -/
noncomputable def T.set {α : Type} (t : T α) (k : Nat) (x : Option α) : T α := T.setR x 24 t k
theorem T.get_eq {α : Type} : ∀ (t : T α) (k : Nat), t.get k = t.get0 k
  | .lf, _ => rfl
  | .nd l v r, k => by
    have h1 := T.get_eq l
    have h2 := T.get_eq r
    show (Bool.rec (motive := fun _ => Option α) (Bool.rec (motive := fun _ => Option α) (r.get (k / 2 - 1)) (l.get (k / 2)) (Nat.beq (k % 2) 1)) v (Nat.beq k 0)) = _
    simp only [T.get0]
    cases Nat.beq k 0 with
    | true => rfl
    | false =>
      cases Nat.beq (k % 2) 1 with
      | true => exact h1 _
      | false => exact h2 _
theorem T.setR_eq {α : Type} (x : Option α) : ∀ (f : Nat) (t : T α) (k : Nat), T.setR x f t k = T.setF x f t k
  | 0, _, _ => rfl
  | f + 1, .lf, k => by
    have h1 := T.setR_eq x f
    show (Bool.rec (motive := fun _ => T α) (Bool.rec (motive := fun _ => T α) (.nd .lf none (T.setR x f .lf (k / 2 - 1))) (.nd (T.setR x f .lf (k / 2)) none .lf) (Nat.beq (k % 2) 1)) (.nd .lf x .lf) (Nat.beq k 0)) = _
    simp only [T.setF]
    cases Nat.beq k 0 with
    | true => rfl
    | false =>
      cases Nat.beq (k % 2) 1 with
      | true => simp only [h1]
      | false => simp only [h1]
  | f + 1, .nd l v r, k => by
    have h1 := T.setR_eq x f
    show (Bool.rec (motive := fun _ => T α) (Bool.rec (motive := fun _ => T α) (.nd l v (T.setR x f r (k / 2 - 1))) (.nd (T.setR x f l (k / 2)) v r) (Nat.beq (k % 2) 1)) (.nd l x r) (Nat.beq k 0)) = _
    simp only [T.setF]
    cases Nat.beq k 0 with
    | true => rfl
    | false =>
      cases Nat.beq (k % 2) 1 with
      | true => simp only [h1]
      | false => simp only [h1]
theorem T.set_eq {α : Type} (t : T α) (k : Nat) (x : Option α) : t.set k x = t.set0 k x := T.setR_eq x 24 t k
theorem T.get_lf {α : Type} (k : Nat) : (T.lf : T α).get k = none := rfl
theorem T.get_set {α : Type} (t : T α) (k j : Nat) (x : Option α) (hk : k < 16777215) : (t.set k x).get j = if j = k then x else t.get j := by
  rw [T.set_eq, T.get_eq, T.get_eq]
  exact T.get0_set t k j x hk
theorem T.get_set_ne {α : Type} (t : T α) (k j : Nat) (x : Option α) (h : j ≠ k) : (t.set k x).get j = t.get j := by
  rw [T.set_eq, T.get_eq, T.get_eq]
  exact T.get0_set_ne t k j x h
end Go.Proofs.YtnckhmfajjcgpaaGreatDoor.Ev
namespace Go.Proofs.YtnckhmfajjcgpaaGreatDoor.Ev
/-- where an abstract block lies; for one that append may lengthen: the element's cells, the real block's cells -/
structure Inf where
  blk : Nat
  base : Nat
  grow : Option (Nat × Nat)
abbrev Ren := Nat → Option Inf
def capOk (i : Inf) (off cap cap' : Nat) : Prop := match i.grow with
  | none => cap' = cap
  | some (s, tot) => i.base + off + cap' * s ≤ tot
mutual
inductive VR (σ : Ren) (n : Nat → Prop) : Value → Value → Prop
  | bool (b : Bool) : VR σ n (.bool b) (.bool b)
  | int (k : IntKind) (x : Int) : VR σ n (.int k x) (.int k x)
  | float (k : FloatKind) (b : Nat) : VR σ n (.float k b) (.float k b)
  | complex (k : FloatKind) (a b : Nat) : VR σ n (.complex k a b) (.complex k a b)
  | string (s : ByteArray) : VR σ n (.string s) (.string s)
  | ptrNil : VR σ n (.pointer none) (.pointer none)
  | ptr (b off : Nat) (a' : Addr) (hb : n b) (h : ∀ i, σ b = some i → a' = ⟨i.blk, i.base + off, none⟩) : VR σ n (.pointer (some ⟨b, off, none⟩)) (.pointer (some a'))
  | sliceNil : VR σ n (.slice none 0 0) (.slice none 0 0)
  | slice (b off len cap cap' : Nat) (a' : Addr) (hb : n b) (hl : len ≤ cap') (hm : cap' ≤ maxLen) (h : ∀ i, σ b = some i → a' = ⟨i.blk, i.base + off, none⟩ ∧ capOk i off cap cap') : VR σ n (.slice (some ⟨b, off, none⟩) len cap) (.slice (some a') len cap')
  | mapNil : VR σ n (.map none) (.map none)
  | map (b b' : Nat) (hb : n b) (h : ∀ i, σ b = some i → b' = i.blk) : VR σ n (.map (some b)) (.map (some b'))
  | func (f : FuncId) (first first' cap cap' : Array Value) (h1 : VRs σ n first.toList first'.toList) (h2 : VRs σ n cap.toList cap'.toList) : VR σ n (.func (.func f) first cap) (.func (.func f) first' cap')
  | nilFunc : VR σ n .nilFunc .nilFunc
  | iface (t : TypeId) (v v' : Value) (h : VR σ n v v') : VR σ n (.iface t v) (.iface t v')
  | nilIface : VR σ n .nilIface .nilIface
  | agg (cs cs' : Array Value) (h : VRs σ n cs.toList cs'.toList) : VR σ n (.agg cs) (.agg cs')
  | tuple (cs cs' : Array Value) (h : VRs σ n cs.toList cs'.toList) : VR σ n (.tuple cs) (.tuple cs')
inductive VRs (σ : Ren) (n : Nat → Prop) : List Value → List Value → Prop
  | nil : VRs σ n [] []
  | cons (v v' : Value) (l l' : List Value) (h : VR σ n v v') (t : VRs σ n l l') : VRs σ n (v :: l) (v' :: l')
end
/-- what a later renaming keeps of an earlier one -/
structure Ext (σ : Ren) (n : Nat → Prop) (σ' : Ren) (n' : Nat → Prop) : Prop where
  le : ∀ b, n b → n' b
  old : ∀ id i, n id → σ' id = some i → σ id = some i
theorem Ext.refl (σ : Ren) (n : Nat → Prop) : Ext σ n σ n := ⟨fun _ h => h, fun _ _ _ h => h⟩
theorem Ext.trans {σ σ' σ'' : Ren} {n n' n'' : Nat → Prop} (h : Ext σ n σ' n') (k : Ext σ' n' σ'' n'') : Ext σ n σ'' n'' :=
  ⟨fun b hb => k.le b (h.le b hb), fun id i hi e => h.old id i hi (k.old id i (h.le id hi) e)⟩
mutual
theorem VR.ext {σ σ' : Ren} {n n' : Nat → Prop} {v v' : Value} (e : Ext σ n σ' n') : VR σ n v v' → VR σ' n' v v'
  | .bool b => .bool b
  | .int k x => .int k x
  | .float k b => .float k b
  | .complex k a b => .complex k a b
  | .string s => .string s
  | .ptrNil => .ptrNil
  | .ptr b off a' hb h => .ptr b off a' (e.le _ hb) fun i hi => h i (e.old b i hb hi)
  | .sliceNil => .sliceNil
  | .slice b off len cap cap' a' hb hl hm h => .slice b off len cap cap' a' (e.le _ hb) hl hm fun i hi => h i (e.old b i hb hi)
  | .mapNil => .mapNil
  | .map b b' hb h => .map b b' (e.le _ hb) fun i hi => h i (e.old b i hb hi)
  | .func f first first' cap cap' h1 h2 => .func f first first' cap cap' (VRs.ext e h1) (VRs.ext e h2)
  | .nilFunc => .nilFunc
  | .iface t v v' h => .iface t v v' (VR.ext e h)
  | .nilIface => .nilIface
  | .agg cs cs' h => .agg cs cs' (VRs.ext e h)
  | .tuple cs cs' h => .tuple cs cs' (VRs.ext e h)
theorem VRs.ext {σ σ' : Ren} {n n' : Nat → Prop} {l l' : List Value} (e : Ext σ n σ' n') : VRs σ n l l' → VRs σ' n' l l'
  | .nil => .nil
  | .cons v v' l l' h t => .cons v v' l l' (VR.ext e h) (VRs.ext e t)
end
section
variable {σ : Ren} {n : Nat → Prop}
theorem VRs.length {l l' : List Value} (h : VRs σ n l l') : l.length = l'.length := by
  induction l generalizing l' with
  | nil => cases h; rfl
  | cons v l ih => cases h with | cons _ v' _ l' h t => simp [ih t]
theorem VRs.get {l l' : List Value} (h : VRs σ n l l') {i : Nat} {v : Value} (hv : l[i]? = some v) : ∃ v', l'[i]? = some v' ∧ VR σ n v v' := by
  induction l generalizing l' i with
  | nil => simp at hv
  | cons u l ih =>
    cases h with
    | cons _ u' _ l' h t =>
      cases i with
      | zero => simp at hv; subst hv; exact ⟨u', by simp, h⟩
      | succ i => simpa using ih t (by simpa using hv)
theorem VRs.of_get {l l' : List Value} (hl : l.length = l'.length) (h : ∀ (i : Nat) (v v' : Value), l[i]? = some v → l'[i]? = some v' → VR σ n v v') : VRs σ n l l' := by
  induction l generalizing l' with
  | nil => cases l' with
    | nil => exact .nil
    | cons => simp at hl
  | cons u l ih =>
    cases l' with
    | nil => simp at hl
    | cons u' l' => exact .cons _ _ _ _ (h 0 u u' rfl rfl) (ih (by simpa using hl) fun i v v' hv hv' => h (i + 1) v v' (by simpa using hv) (by simpa using hv'))
theorem VRs.append {l l' r r' : List Value} (h : VRs σ n l l') (k : VRs σ n r r') : VRs σ n (l ++ r) (l' ++ r') := by
  induction l generalizing l' with
  | nil => cases h; exact k
  | cons v l ih => cases h with | cons _ v' _ l' h t => exact .cons _ _ _ _ h (ih t)
theorem VRs.set {l l' : List Value} (h : VRs σ n l l') {v v' : Value} (k : VR σ n v v') (i : Nat) : VRs σ n (l.set i v) (l'.set i v') := by
  induction l generalizing l' i with
  | nil => cases h; exact .nil
  | cons u l ih =>
    cases h with
    | cons _ u' _ l' h t =>
      cases i with
      | zero => exact .cons _ _ _ _ k t
      | succ i => exact .cons _ _ _ _ h (ih t i)
theorem VRs.take {l l' : List Value} (h : VRs σ n l l') (i : Nat) : VRs σ n (l.take i) (l'.take i) := by
  induction l generalizing l' i with
  | nil => cases h; simp; exact .nil
  | cons u l ih =>
    cases h with
    | cons _ u' _ l' h t =>
      cases i with
      | zero => exact .nil
      | succ i => exact .cons _ _ _ _ h (ih t i)
theorem VRs.drop {l l' : List Value} (h : VRs σ n l l') (i : Nat) : VRs σ n (l.drop i) (l'.drop i) := by
  induction l generalizing l' i with
  | nil => cases h; simp; exact .nil
  | cons u l ih =>
    cases h with
    | cons _ u' _ l' h t =>
      cases i with
      | zero => exact .cons _ _ _ _ h t
      | succ i => exact ih t i
theorem VR.cells {v v' : Value} (h : VR σ n v v') : VRs σ n v.cells.toList v'.cells.toList := by
  cases h <;> first
    | assumption
    | exact .cons _ _ _ _ (by constructor <;> assumption) .nil
end
/-- no address in it (to a depth) -/
def flatF : Nat → Value → Bool
  | 0, _ => false
  | f + 1, v => match v with
    | .bool _ | .int .. | .float .. | .complex .. | .string _ | .pointer none | .slice none 0 0 | .map none | .nilFunc | .nilIface => true
    | .func (.func _) first cap => first.toList.all (flatF f) && cap.toList.all (flatF f)
    | .iface _ v => flatF f v
    | .agg cs => cs.toList.all (flatF f)
    | .tuple cs => cs.toList.all (flatF f)
    | _ => false
theorem VRs.flat {σ : Ren} {n : Nat → Prop} {f : Nat} (ih : ∀ v, flatF f v = true → VR σ n v v) : ∀ l : List Value, l.all (flatF f) = true → VRs σ n l l
  | [], _ => .nil
  | v :: l, h => by
    simp only [List.all_cons, Bool.and_eq_true] at h
    exact .cons _ _ _ _ (ih v h.1) (VRs.flat ih l h.2)
theorem VR.flat {σ : Ren} {n : Nat → Prop} : ∀ (f : Nat) (v : Value), flatF f v = true → VR σ n v v
  | 0, _, h => by simp [flatF] at h
  | f + 1, v, h => by
    unfold flatF at h
    split at h
    all_goals first
      | (constructor; done)
      | (simp only [Bool.and_eq_true] at h; exact .func _ _ _ _ _ (VRs.flat (VR.flat f) _ h.1) (VRs.flat (VR.flat f) _ h.2))
      | exact .iface _ _ _ (VR.flat f _ h)
      | exact .agg _ _ (VRs.flat (VR.flat f) _ h)
      | exact .tuple _ _ (VRs.flat (VR.flat f) _ h)
      | cases h
theorem VRs.flat_eq {σ : Ren} {n : Nat → Prop} {f : Nat} (ih : ∀ v v', VR σ n v v' → flatF f v = true → v' = v) : ∀ l l' : List Value, VRs σ n l l' → l.all (flatF f) = true → l' = l
  | [], _, h, _ => by cases h; rfl
  | v :: l, _, h, k => by
    cases h with
    | cons _ v' _ l' h t =>
      simp only [List.all_cons, Bool.and_eq_true] at k
      rw [ih v v' h k.1, VRs.flat_eq ih l l' t k.2]
theorem array_eq {a b : Array Value} (h : a.toList = b.toList) : a = b := by
  cases a; cases b; simpa using h
theorem VR.flat_eq {σ : Ren} {n : Nat → Prop} : ∀ (f : Nat) (v v' : Value), VR σ n v v' → flatF f v = true → v' = v
  | 0, _, _, _, h => by simp [flatF] at h
  | f + 1, v, v', hv, h => by
    cases hv <;> first
      | rfl
      | (simp [flatF] at h; done)
      | skip
    case func f first first' cap cap' h1 h2 =>
      simp only [flatF, Bool.and_eq_true] at h
      rw [array_eq (VRs.flat_eq (VR.flat_eq _) _ _ h1 h.1), array_eq (VRs.flat_eq (VR.flat_eq _) _ _ h2 h.2)]
    case iface t u u' h1 =>
      simp only [flatF] at h
      rw [VR.flat_eq f u u' h1 h]
    case agg cs cs' h1 =>
      simp only [flatF] at h
      rw [array_eq (VRs.flat_eq (VR.flat_eq f) _ _ h1 h)]
    case tuple cs cs' h1 =>
      simp only [flatF] at h
      rw [array_eq (VRs.flat_eq (VR.flat_eq f) _ _ h1 h)]
end Go.Proofs.YtnckhmfajjcgpaaGreatDoor.Ev
namespace Go.Proofs.YtnckhmfajjcgpaaGreatDoor.Ev
noncomputable section
inductive AObj where
  | cells (cs : List Value) (elem : TypeId) (grow : Option Nat)
  | map (es : List MapEntry) (clock : Nat)
  | sit (s : ByteArray) (pos : Nat)
  | mit (m : Option Nat) (since : Nat) (seen : List Nat) (stepped : Nat)
structure AH where
  next : Nat
  tab : T AObj
def AH.get (H : AH) (id : Nat) : Option AObj := H.tab.get id
def AH.put (H : AH) (id : Nat) (o : AObj) : AH := ⟨H.next, H.tab.set id (some o)⟩
def AH.kill (H : AH) (id : Nat) : AH := ⟨H.next, H.tab.set id none⟩
/-- a new block; too many: nothing -/
def AH.new (H : AH) (o : AObj) : Option (Nat × AH) := match Nat.ble H.next 16000000 with
  | true => some (H.next, ⟨H.next + 1, H.tab.set H.next (some o)⟩)
  | false => none
def ERel (σ : Ren) (n : Nat → Prop) (e e' : MapEntry) : Prop := e'.key = e.key ∧ flatF 8 e.key = true ∧ e'.born = e.born ∧ VR σ n e.val e'.val
def ORel (σ : Ren) (n : Nat → Prop) (W : World) (i : Inf) : AObj → Prop
  | .cells cs elem g => ∃ (c' : Array Value) (lo hi : Nat), W.heap[i.blk]? = some (.cells c' elem (lo, hi)) ∧ (∀ (j : Nat) (v : Value), cs[j]? = some v → ∃ v', c'[i.base + j]? = some v' ∧ VR σ n v v') ∧
      (∀ j, j < c'.size → ¬ (lo ≤ j ∧ j < hi)) ∧ g = i.grow.map Prod.fst ∧ i.base + cs.length ≤ c'.size ∧ (i.grow = none → i.base = 0 ∧ c'.size = cs.length) ∧ (∀ s tot, i.grow = some (s, tot) → c'.size = tot)
  | .map es clock => ∃ es' : Array MapEntry, W.heap[i.blk]? = some (.map es' clock) ∧ es.length = es'.size ∧ ∀ (j : Nat) (e : MapEntry), es[j]? = some e → ∃ e', es'[j]? = some e' ∧ ERel σ n e e'
  | .sit s pos => W.heap[i.blk]? = some (.stringIter s pos) ∧ i.base = 0
  | .mit m since seen stepped => ∃ m', W.heap[i.blk]? = some (.mapIter m' since seen.toArray stepped) ∧ VR σ n (.map m) (.map m') ∧ i.base = 0
theorem ORel.same {σ : Ren} {n : Nat → Prop} {W W' : World} {i : Inf} {o : AObj} (h : ORel σ n W i o) (hb : W'.heap[i.blk]? = W.heap[i.blk]?) : ORel σ n W' i o := by
  cases o <;> simp only [ORel, hb] <;> exact h
theorem ORel.ext {σ σ' : Ren} {n n' : Nat → Prop} {W : World} {i : Inf} {o : AObj} (e : Ext σ n σ' n') (h : ORel σ n W i o) : ORel σ' n' W i o := by
  cases o with
  | cells cs elem g =>
    obtain ⟨c', lo, hi, h1, h2, h3⟩ := h
    exact ⟨c', lo, hi, h1, fun j v hv => by obtain ⟨v', a, b⟩ := h2 j v hv; exact ⟨v', a, b.ext e⟩, h3⟩
  | map es clock =>
    obtain ⟨es', h1, h2, h3⟩ := h
    exact ⟨es', h1, h2, fun j x hx => by obtain ⟨x', a, b, c, d, f⟩ := h3 j x hx; exact ⟨x', a, b, c, d, f.ext e⟩⟩
  | sit s pos => exact h
  | mit m since seen stepped =>
    obtain ⟨m', h1, h2, h3⟩ := h
    exact ⟨m', h1, h2.ext e, h3⟩
theorem ORel.lt {σ : Ren} {n : Nat → Prop} {W : World} {i : Inf} {o : AObj} (h : ORel σ n W i o) : i.blk < W.heap.size := by
  have : ∃ x, W.heap[i.blk]? = some x := by
    cases o <;> simp only [ORel] at h
    · obtain ⟨c', lo, hi, h1, _⟩ := h; exact ⟨_, h1⟩
    · obtain ⟨c', h1, _⟩ := h; exact ⟨_, h1⟩
    · exact ⟨_, h.1⟩
    · obtain ⟨c', h1, _⟩ := h; exact ⟨_, h1⟩
  obtain ⟨x, hx⟩ := this
  exact (Array.getElem?_eq_some_iff.1 hx).1
abbrev Ids := Nat → Prop
structure Rep (σ : Ren) (S : Ids) (H : AH) (W : World) (B : Nat) : Prop where
  live : ∀ id o, H.get id = some o → S id ∧ ∃ i, σ id = some i ∧ ORel σ S W i o ∧ B ≤ i.blk
  dead : ∀ id, H.get id = none → σ id = none
  inj : ∀ id id' i i', σ id = some i → σ id' = some i' → i.blk = i'.blk → id = id'
/-- from one moment to a later one -/
structure Evo (σ : Ren) (S : Ids) (W : World) (σ' : Ren) (S' : Ids) (W' : World) : Prop where
  ext : Ext σ S σ' S'
  new : ∀ id i, ¬ S id → σ' id = some i → W.heap.size ≤ i.blk ∨ ∃ id0 i0, σ id0 = some i0 ∧ i0.blk = i.blk
  size : W.heap.size ≤ W'.heap.size
  frame : ∀ b, b < W.heap.size → (∀ id i, σ id = some i → i.blk ≠ b) → W'.heap[b]? = W.heap[b]?
  os : W'.os = W.os
  tape : W'.tape = W.tape
  output : W'.output = W.output
/-- the numbers taken between two heaps -/
def Taken (S : Ids) (n : Nat) (S' : Ids) (n' : Nat) : Prop := n ≤ n' ∧ ∀ b, S' b → S b ∨ (n ≤ b ∧ b < n')
theorem Taken.refl (S : Ids) (n : Nat) : Taken S n S n := ⟨Nat.le_refl _, fun b h => .inl h⟩
theorem Taken.trans {S S' S'' : Ids} {n n' n'' : Nat} (h : Taken S n S' n') (k : Taken S' n' S'' n'') : Taken S n S'' n'' := by
  refine ⟨Nat.le_trans h.1 k.1, fun b hb => ?_⟩
  have h1 := h.1
  have k1 := k.1
  rcases k.2 b hb with h2 | h2
  · rcases h.2 b h2 with h3 | h3
    · exact .inl h3
    · exact .inr ⟨h3.1, by omega⟩
  · exact .inr ⟨by omega, h2.2⟩
/-- no number from there on is taken -/
def Free (S : Ids) (n : Nat) : Prop := ∀ b, n ≤ b → ¬ S b
theorem Free.taken {S S' : Ids} {n n' : Nat} (h : Free S n) (t : Taken S n S' n') : Free S' n' := by
  intro b hb hs
  rcases t.2 b hs with h1 | h1
  · exact h b (Nat.le_trans t.1 hb) h1
  · omega
theorem Evo.refl (σ : Ren) (S : Ids) (W : World) (hn : ∀ id i, σ id = some i → S id) : Evo σ S W σ S W :=
  ⟨Ext.refl _ _, fun id i hi e => absurd (hn id i e) hi, Nat.le_refl _, fun _ _ _ => rfl, rfl, rfl, rfl⟩
theorem Evo.trans {σ σ' σ'' : Ren} {n n' n'' : Ids} {W W' W'' : World} (h : Evo σ n W σ' n' W') (k : Evo σ' n' W' σ'' n'' W'') : Evo σ n W σ'' n'' W'' := by
  refine ⟨h.ext.trans k.ext, fun id i hi e => ?_, Nat.le_trans h.size k.size, fun b hb hf => ?_, k.os.trans h.os, k.tape.trans h.tape, k.output.trans h.output⟩
  · by_cases h1 : n' id
    · exact h.new id i hi (k.ext.old id i h1 e)
    · rcases k.new id i h1 e with h2 | ⟨id0, i0, h2, h3⟩
      · exact .inl (Nat.le_trans h.size h2)
      · by_cases h4 : n id0
        · exact .inr ⟨id0, i0, h.ext.old id0 i0 h4 h2, h3⟩
        · rcases h.new id0 i0 h4 h2 with h5 | ⟨id1, i1, h5, h6⟩
          · exact .inl (by omega)
          · exact .inr ⟨id1, i1, h5, h6.trans h3⟩
  · refine (k.frame b (Nat.lt_of_lt_of_le hb h.size) fun id i e hbi => ?_).trans (h.frame b hb hf)
    by_cases h4 : n id
    · exact hf id i (h.ext.old id i h4 e) hbi
    · rcases h.new id i h4 e with h5 | ⟨id1, i1, h5, h6⟩
      · omega
      · exact hf id1 i1 h5 (h6.trans hbi)
section
variable {σ : Ren} {S : Ids} {H : AH} {W : World} {B : Nat}
theorem Rep.dom (h : Rep σ S H W B) {id : Nat} {i : Inf} (e : σ id = some i) : S id := by
  cases hg : H.get id with
  | none => rw [h.dead id hg] at e; cases e
  | some o => exact (h.live id o hg).1
theorem Rep.refl (h : Rep σ S H W B) : Evo σ S W σ S W := Evo.refl _ _ _ fun _ _ e => h.dom e
theorem Rep.at_ (h : Rep σ S H W B) {id : Nat} {i : Inf} (e : σ id = some i) : ∃ o, H.get id = some o ∧ ORel σ S W i o ∧ B ≤ i.blk := by
  cases hg : H.get id with
  | none => rw [h.dead id hg] at e; cases e
  | some o =>
    obtain ⟨_, i', e', h1, h2⟩ := h.live id o hg
    rw [e] at e'
    injection e' with e'
    subst e'
    exact ⟨o, rfl, h1, h2⟩
/-- the same heap at a world with the same blocks -/
theorem Rep.world (h : Rep σ S H W B) {W' : World} (hb : ∀ b, b < W.heap.size → W'.heap[b]? = W.heap[b]?) : Rep σ S H W' B :=
  ⟨fun id o hg => by
    obtain ⟨h0, i, e, h1, h2⟩ := h.live id o hg
    exact ⟨h0, i, e, h1.same (hb _ h1.lt), h2⟩, h.dead, h.inj⟩
theorem Rep.drewN (h : Rep σ S H W B) (k : Nat) : Rep σ S H (W.drewN k) B := h.world fun _ _ => rfl
theorem Evo.drew {σ' : Ren} {n n' : Ids} {W' : World} (h : Evo σ n W σ' n' W') (k : Nat) : Evo σ n W σ' n' (W'.drewN k) := ⟨h.ext, h.new, h.size, h.frame, h.os, h.tape, h.output⟩
/-- one block turns -/
theorem Rep.put_ (h : Rep σ S H W B) {W' : World} {id : Nat} {i : Inf} {o o' : AObj} (hg : H.get id = some o) (e : σ id = some i) (hid : id < 16777215)
    (hs : W'.heap.size = W.heap.size) (hb : ∀ b, b ≠ i.blk → W'.heap[b]? = W.heap[b]?) (hos : W'.os = W.os) (ht : W'.tape = W.tape) (hout : W'.output = W.output) (ho : ORel σ S W' i o') :
    Rep σ S (H.put id o') W' B ∧ Evo σ S W σ S W' := by
  refine ⟨⟨fun id2 o2 hg2 => ?_, fun id2 hg2 => ?_, h.inj⟩, ⟨Ext.refl _ _, fun id2 i2 hi2 e2 => absurd (h.dom e2) hi2, by omega, fun b _ hf => hb b (fun eb => hf id i e eb.symm), hos, ht, hout⟩⟩
  · simp only [AH.get, AH.put] at hg2
    rw [T.get_set _ _ _ _ hid] at hg2
    split at hg2
    · rename_i e2
      subst e2
      injection hg2 with hg2
      subst hg2
      obtain ⟨h0, i', e', _, h2⟩ := h.live _ _ hg
      rw [e] at e'
      injection e' with e'
      subst e'
      exact ⟨h0, i, e, ho, h2⟩
    · rename_i hne
      obtain ⟨h0, i', e', h1, h2⟩ := h.live _ _ hg2
      exact ⟨h0, i', e', h1.same (hb _ fun eb => hne (h.inj _ _ _ _ e' e eb)), h2⟩
  · simp only [AH.get, AH.put] at hg2
    rw [T.get_set _ _ _ _ hid] at hg2
    split at hg2
    · cases hg2
    · exact h.dead _ hg2
/-- one number more -/
def more (S : Ids) (id : Nat) : Ids := fun b => S b ∨ b = id
theorem taken_more (S : Ids) (n : Nat) : Taken S n (more S n) (n + 1) := ⟨by omega, fun b hb => by
  rcases hb with hb | hb
  · exact .inl hb
  · exact .inr (by omega)⟩
/-- a block that is killed, and a new one -/
theorem Rep.turn (h : Rep σ S H W B) (hfree : ¬ S H.next) (kb : Option Nat) (iN : Inf) {o : AObj} {W' : World} {id' : Nat} {H' : AH} (hn : (match kb with | some b => H.kill b | none => H).new o = some (id', H')) (hkb : ∀ b, kb = some b → b ≠ H.next ∧ b < 16777215)
    (hfresh : W.heap.size ≤ iN.blk ∨ ∃ b i, kb = some b ∧ σ b = some i ∧ iN.blk = i.blk) (hB : B ≤ iN.blk) (hheap : ∀ k, k ≠ iN.blk → k < W.heap.size → W'.heap[k]? = W.heap[k]?)
    (hsize : W.heap.size ≤ W'.heap.size) (hos : W'.os = W.os) (ht : W'.tape = W.tape) (hout : W'.output = W.output) (ho : ∀ σ', Ext σ S σ' (more S H.next) → ORel σ' (more S H.next) W' iN o) :
    ∃ σ', σ' id' = some iN ∧ Rep σ' (more S H.next) H' W' B ∧ Evo σ S W σ' (more S H.next) W' ∧ id' = H.next ∧ H'.next = H.next + 1 := by
  have hnx : (match kb with | some b => H.kill b | none => H).next = H.next := by cases kb <;> rfl
  unfold AH.new at hn
  split at hn
  case h_2 => cases hn
  rename_i hle
  rw [hnx] at hle hn
  have hle2 : H.next ≤ 16000000 := by simpa using hle
  injection hn with hn
  injection hn with h1 h2
  subst h1 h2
  have htab : ∀ j, j ≠ H.next → (match kb with | some b => H.kill b | none => H).tab.get j = if kb = some j then none else H.get j := by
    intro j hj
    cases kb with
    | none => simp [AH.get]
    | some b =>
      simp only [AH.kill, AH.get]
      rw [T.get_set _ _ _ _ (hkb b rfl).2]
      by_cases e : j = b
      · subst e; simp
      · rw [if_neg e, if_neg (by intro h; injection h with h; exact e h.symm)]
  have hext : Ext σ S (fun j => if j = H.next then some iN else if kb = some j then none else σ j) (more S H.next) :=
    ⟨fun b hb => .inl hb, fun j i hj e => by
      rw [if_neg (show ¬ j = H.next from fun q => hfree (by rw [← q]; exact hj))] at e
      split at e
      · cases e
      · exact e⟩
  refine ⟨_, if_pos rfl, ⟨fun j o2 hg => ?_, fun j hg => ?_, fun j j' i i' e e' hb => ?_⟩, ⟨hext, fun j i hj e => ?_, hsize, fun b hb hf => ?_, hos, ht, hout⟩, rfl, rfl⟩
  · simp only [AH.get] at hg
    rw [T.get_set _ _ _ _ (by omega)] at hg
    split at hg
    · rename_i e
      subst e
      injection hg with hg
      subst hg
      exact ⟨.inr rfl, _, if_pos rfl, ho _ hext, hB⟩
    · rename_i hne
      rw [htab j hne] at hg
      split at hg
      · cases hg
      · rename_i hk
        obtain ⟨h0, i, e, h3, h4⟩ := h.live _ _ hg
        refine ⟨.inl h0, i, by rw [if_neg hne, if_neg hk]; exact e, (h3.same (W' := W') (hheap _ (fun hb => ?_) h3.lt)).ext hext, h4⟩
        rcases hfresh with hf | ⟨b, ib, hb1, hb2, hb3⟩
        · have := h3.lt; omega
        · have := h.inj _ _ _ _ e hb2 (hb.trans hb3)
          rw [this] at hk
          exact hk hb1
  · simp only [AH.get] at hg
    rw [T.get_set _ _ _ _ (by omega)] at hg
    split at hg
    · cases hg
    · rename_i hne
      rw [if_neg hne]
      split
      · rfl
      · rename_i hk
        rw [htab j hne, if_neg hk] at hg
        exact h.dead _ hg
  · have key : ∀ j i, j ≠ H.next → (if kb = some j then none else σ j) = some i → i.blk ≠ iN.blk := by
      intro j i hj e hb
      split at e
      · cases e
      · rename_i hk
        rcases hfresh with hf | ⟨b, ib, hb1, hb2, hb3⟩
        · obtain ⟨_, _, h3, _⟩ := h.at_ e
          have := h3.lt
          omega
        · have := h.inj _ _ _ _ e hb2 (hb.trans hb3)
          rw [this] at hk
          exact hk hb1
    split at e <;> split at e'
    · omega
    · rename_i hj hj'
      injection e with e
      subst e
      exact absurd hb.symm (key _ _ hj' e')
    · rename_i hj hj'
      injection e' with e'
      subst e'
      exact absurd hb (key _ _ hj e)
    · split at e
      · cases e
      · split at e'
        · cases e'
        · exact h.inj _ _ _ _ e e' hb
  · split at e
    · injection e with e
      subst e
      rcases hfresh with hf | ⟨b, ib, hb1, hb2, hb3⟩
      · exact .inl hf
      · exact .inr ⟨b, ib, hb2, hb3.symm⟩
    · split at e
      · cases e
      · exact absurd (h.dom e) hj
  · refine hheap b (fun e => ?_) hb
    rcases hfresh with hf2 | ⟨b1, ib, hb1, hb2, hb3⟩
    · omega
    · exact hf b1 ib hb2 (by rw [← hb3, e])
/-- a new block -/
theorem Rep.new_ (h : Rep σ S H W B) (hfree : ¬ S H.next) {o : AObj} {id : Nat} {H' : AH} (hn : H.new o = some (id, H')) {ob : Obj} {k : Nat} (hB : B ≤ W.heap.size)
    (ho : ∀ σ', Ext σ S σ' (more S H.next) → ORel σ' (more S H.next) ((W.alloc ob).drewN k) ⟨W.heap.size, 0, none⟩ o) :
    ∃ σ', σ' id = some ⟨W.heap.size, 0, none⟩ ∧ Rep σ' (more S H.next) H' ((W.alloc ob).drewN k) B ∧ Evo σ S W σ' (more S H.next) ((W.alloc ob).drewN k) ∧ id = H.next ∧ H'.next = H.next + 1 :=
  h.turn hfree none ⟨W.heap.size, 0, none⟩ (W' := (W.alloc ob).drewN k) hn (fun b e => by cases e) (.inl (Nat.le_refl _)) hB (fun b _ hb => Go.RowKit.Below.heap_alloc W ob b hb) (by simp [World.drewN]) rfl rfl rfl ho
end
end
end Go.Proofs.YtnckhmfajjcgpaaGreatDoor.Ev
namespace Go.Proofs.YtnckhmfajjcgpaaGreatDoor.Ev
noncomputable section
/-- functions of Go's library without a body -/
inductive ExtF where
  | clone
  | plain (g : Array Value → Sem Value)
def extFn : ExtF → Array Value → Sem Value
  | .clone => Extern.MapsClone.clone
  | .plain g => g
structure Tab where
  und : TypeId → Option TypeDesc
  inf : TypeId → Option TypeInfo
  fn : FuncId → Option Func
  ext : FuncId → Option ExtF
structure TabOk (P : Program) (X : Tab) : Prop where
  und : ∀ t d, X.und t = some d → P.underlying t = some d
  inf : ∀ t i, X.inf t = some i → P.info? t = some i
  fn : ∀ f d, X.fn f = some d → P.funcs[f]? = some d ∧ ∀ args w, (callFunc f args).run P w = .ok (.enter f args) w
  ext : ∀ f x, X.ext f = some x → ∀ args w, (callFunc f args).run P w = (do pure (.value (← extFn x args)) : Sem Next).run P w
def addrOf : Value → Option (Nat × Nat)
  | .pointer (some ⟨b, off, none⟩) => some (b, off)
  | _ => none
theorem addrOf_vr {σ : Ren} {n : Ids} {v v' : Value} {b off : Nat} (h : addrOf v = some (b, off)) (r : VR σ n v v') : ∃ a', v' = .pointer (some a') ∧ n b ∧ ∀ i, σ b = some i → a' = ⟨i.blk, i.base + off, none⟩ := by
  unfold addrOf at h
  split at h
  · injection h with h
    injection h with h1 h2
    subst h1 h2
    cases r with
    | ptr b off a' hb h => exact ⟨a', rfl, hb, h⟩
  · cases h
def cellsAt (H : AH) (b : Nat) : Option (List Value × TypeId × Option Nat) := match H.get b with
  | some (.cells cs e g) => some (cs, e, g)
  | _ => none
theorem cellsAt_get {H : AH} {b : Nat} {cs : List Value} {e : TypeId} {g : Option Nat} (h : cellsAt H b = some (cs, e, g)) : H.get b = some (.cells cs e g) := by
  unfold cellsAt at h
  split at h
  · rename_i x y z hg
    injection h with h
    injection h with h1 h2
    injection h2 with h2 h3
    subst h1 h2 h3
    exact hg
  · cases h
theorem cell_of {W : World} {b : Nat} {c : Array Value} {e : TypeId} {fz : Nat × Nat} (h : W.heap[b]? = some (.cells c e fz)) (j : Nat) : W.cell? ⟨b, j, none⟩ = c[j]? := by
  simp [World.cell?, h]
theorem frozen_of {W : World} {b : Nat} {c : Array Value} {e : TypeId} {lo hi : Nat} (h : W.heap[b]? = some (.cells c e (lo, hi))) {j : Nat} (hj : ¬ (lo ≤ j ∧ j < hi)) : W.frozen? ⟨b, j, none⟩ = false := by
  simp [World.frozen?, h]
  omega
/-- cells of an abstract block, as they lie in the real one -/
theorem Rep.cells_ {σ : Ren} {S : Ids} {H : AH} {W : World} {B b : Nat} {cs : List Value} {e : TypeId} {g : Option Nat} (h : Rep σ S H W B) (hc : cellsAt H b = some (cs, e, g)) :
    ∃ (i : Inf) (c' : Array Value) (lo hi : Nat), σ b = some i ∧ W.heap[i.blk]? = some (.cells c' e (lo, hi)) ∧ (∀ (j : Nat) (v : Value), cs[j]? = some v → ∃ v', c'[i.base + j]? = some v' ∧ VR σ S v v') ∧
      (∀ j, j < c'.size → ¬ (lo ≤ j ∧ j < hi)) ∧ g = i.grow.map Prod.fst ∧ i.base + cs.length ≤ c'.size ∧ (i.grow = none → i.base = 0 ∧ c'.size = cs.length) ∧ (∀ s tot, i.grow = some (s, tot) → c'.size = tot) ∧ B ≤ i.blk ∧ S b := by
  obtain ⟨h0, i, hi, ho, hB⟩ := h.live b _ (cellsAt_get hc)
  obtain ⟨c', lo, hi', h1, h2, h3, h4, h5, h6, h7⟩ := ho
  exact ⟨i, c', lo, hi', hi, h1, h2, h3, h4, h5, h6, h7, hB, h0⟩
/-- a range of an abstract block reads in the real one -/
theorem range_real {σ : Ren} {n : Ids} {cs : List Value} {c' : Array Value} {base off m : Nat} (h : ∀ (j : Nat) (v : Value), cs[j]? = some v → ∃ v', c'[base + j]? = some v' ∧ VR σ n v v') (hl : ((cs.drop off).take m).length = m) :
    ∃ rs : List Value, rs.length = m ∧ VRs σ n ((cs.drop off).take m) rs ∧ ∀ (j : Nat) (v : Value), rs[j]? = some v → c'[base + off + j]? = some v := by
  have hm : ∀ j, j < m → off + j < cs.length := by
    intro j hj
    rw [List.length_take, List.length_drop] at hl
    omega
  have hget : ∀ j v, ((c'.toList.drop (base + off)).take m)[j]? = some v → c'[base + off + j]? = some v := by
    intro j v hv
    rw [List.getElem?_take] at hv
    split at hv
    · rw [List.getElem?_drop] at hv
      rw [← Array.getElem?_toList]
      exact hv
    · cases hv
  have hlen : ((c'.toList.drop (base + off)).take m).length = m := by
    rcases Nat.eq_zero_or_pos m with h0 | h0
    · subst h0; simp
    · have h1 := hm (m - 1) (by omega)
      obtain ⟨v', h2, _⟩ := h (off + (m - 1)) _ (List.getElem?_eq_getElem h1)
      have h3 := (Array.getElem?_eq_some_iff.1 h2).1
      rw [List.length_take, List.length_drop, Array.length_toList]
      omega
  refine ⟨_, hlen, VRs.of_get (by rw [hl, hlen]) fun j v v' hv hv' => ?_, hget⟩
  have hj : j < m := by have := (List.getElem?_eq_some_iff.1 hv).1; rw [hl] at this; exact this
  rw [List.getElem?_take, if_pos hj, List.getElem?_drop] at hv
  obtain ⟨u, hu, r⟩ := h _ _ hv
  have := hget j v' hv'
  rw [show base + off + j = base + (off + j) from by omega, hu] at this
  injection this with this
  rw [← this]
  exact r
def aload (X : Tab) (H : AH) (t : TypeId) (v : Value) : Option Value := do
  let (b, off) ← addrOf v
  let (cs, _, _) ← cellsAt H b
  let d ← X.und t
  cond d.isRow (do
    let i ← X.inf t
    cond (Nat.beq ((cs.drop off).take i.size).length i.size) (some (.agg ((cs.drop off).take i.size).toArray)) none)
    cs[off]?
section
variable {P : Program} {X : Tab} {σ : Ren} {S : Ids} {H : AH} {W : World} {B : Nat}
theorem isAgg_run (hX : TabOk P X) {t : TypeId} {d : TypeDesc} (h : X.und t = some d) (w : World) : (isAgg t).run P w = .ok d.isRow w := by
  unfold isAgg
  rw [Sem.run_bind, run_underlying (hX.und t d h) w]
  cases d <;> rfl
theorem loadVar_sound (hX : TabOk P X) (h : Rep σ S H W B) {t : TypeId} {v v' r : Value} (hr : VR σ S v v') (ha : aload X H t v = some r) :
    ∃ a' r', v' = .pointer (some a') ∧ (loadVar t a').run P W = .ok r' W ∧ VR σ S r r' := by
  unfold aload at ha
  simp only [Option.bind_eq_bind, Option.bind_eq_some_iff] at ha
  obtain ⟨⟨b, off⟩, h1, ⟨cs, e, g⟩, h2, d, h3, h4⟩ := ha
  obtain ⟨a', rfl, hb, hi⟩ := addrOf_vr h1 hr
  obtain ⟨i, c', lo, hi', hs, hh, hcs, _⟩ := h.cells_ h2
  have ha' := hi i hs
  subst ha'
  refine ⟨⟨i.blk, i.base + off, none⟩, ?_⟩
  cases hd : d.isRow with
  | true =>
    simp only [hd, cond_true, Option.bind_eq_bind, Option.bind_eq_some_iff] at h4
    obtain ⟨it, h5, h6⟩ := h4
    cases hl : Nat.beq ((cs.drop off).take it.size).length it.size with
    | false => rw [hl] at h6; cases h6
    | true =>
      rw [hl] at h6
      injection h6 with h6
      subst h6
      have hl2 : ((cs.drop off).take it.size).length = it.size := by simpa using hl
      obtain ⟨rs, h7, h8, h9⟩ := range_real hcs hl2
      refine ⟨.agg rs.toArray, rfl, ?_, .agg _ _ (by simpa using h8)⟩
      exact run_loadVar_mid W i.blk (i.base + off) t rs d (fun j u hu => by rw [cell_of hh]; exact h9 j u hu) (hX.und t d h3) hd (by rw [hX.inf t it h5, h7]; rfl)
  | false =>
    simp only [hd, cond_false] at h4
    obtain ⟨r', h5, h6⟩ := hcs _ _ h4
    refine ⟨r', rfl, ?_, h6⟩
    unfold loadVar
    rw [Sem.run_bind, isAgg_run hX h3 W, hd]
    simp [cell_of hh, h5]
theorem load_sound (hX : TabOk P X) (h : Rep σ S H W B) {t : TypeId} {v v' r : Value} (hr : VR σ S v v') (ha : aload X H t v = some r) :
    ∃ r', (Instr.loadAt t v').run P W = .ok r' W ∧ VR σ S r r' := by
  obtain ⟨a', r', rfl, h1, h2⟩ := loadVar_sound hX h hr ha
  refine ⟨r', ?_, h2⟩
  simp only [Instr.loadAt, Instr.sureAddr, Sem.run_bind, Sem.run_pure, Result.andThen_ok, h1]
/-- write these from there on -/
def wr (cs vs : List Value) (off : Nat) : List Value := cs.take off ++ vs ++ cs.drop (off + vs.length)
def one (v : Value) : Bool := match v with
  | .agg _ => false
  | .tuple _ => false
  | _ => true
theorem one_vr {σ : Ren} {n : Ids} {v v' : Value} (h : VR σ n v v') : v'.oneCell' = one v := by
  cases h <;> rfl
theorem wr_length (cs vs : List Value) (off : Nat) (h : off + vs.length ≤ cs.length) : (wr cs vs off).length = cs.length := by
  simp [wr]
  omega
theorem wr_get (cs vs : List Value) (off : Nat) (h : off + vs.length ≤ cs.length) (j : Nat) : (wr cs vs off)[j]? = if off ≤ j ∧ j < off + vs.length then vs[j - off]? else cs[j]? := by
  unfold wr
  split
  · rename_i hj
    rw [List.append_assoc, List.getElem?_append_right (by simp; omega), List.getElem?_append_left (by simp; omega)]
    congr 1
    simp
    omega
  · rename_i hj
    rcases Nat.lt_or_ge j off with h1 | h1
    · rw [List.append_assoc, List.getElem?_append_left (by simp; omega), List.getElem?_take, if_pos h1]
    · rw [List.getElem?_append_right (by simp; omega), List.getElem?_drop]
      congr 1
      simp
      omega
/-- cells written in one block of the real heap -/
theorem setCells_heap {W : World} {b : Nat} {c : Array Value} {e : TypeId} {fz : Nat × Nat} (vs : List Value) : ∀ (W : World) (c : Array Value) (off : Nat), W.heap[b]? = some (.cells c e fz) → off + vs.length ≤ c.size →
    ∃ c2 : Array Value, (W.setCells b off vs).heap[b]? = some (.cells c2 e fz) ∧ c2.size = c.size ∧ (∀ j, c2[j]? = if off ≤ j ∧ j < off + vs.length then vs[j - off]? else c[j]?) ∧ (∀ k, k ≠ b → (W.setCells b off vs).heap[k]? = W.heap[k]?) ∧
      (W.setCells b off vs).heap.size = W.heap.size ∧ (W.setCells b off vs).os = W.os ∧ (W.setCells b off vs).tape = W.tape ∧ (W.setCells b off vs).output = W.output := by
  induction vs with
  | nil => exact fun W c off h _ => ⟨c, h, rfl, fun j => by rw [if_neg (by simp only [List.length_nil]; omega)], fun _ _ => rfl, rfl, rfl, rfl, rfl⟩
  | cons v vs ih =>
    intro W c off h hl
    simp only [List.length_cons] at hl
    have h1 : (W.setCell ⟨b, off, none⟩ v).heap[b]? = some (.cells (c.setIfInBounds off v) e fz) := by
      simp [World.setCell, Array.getElem?_modify, h]
    obtain ⟨c2, g1, g2, g3, g4, g5, g6, g7, g8⟩ := ih (W.setCell ⟨b, off, none⟩ v) (c.setIfInBounds off v) (off + 1) h1 (by simp; omega)
    refine ⟨c2, g1, by rw [g2]; simp, fun j => ?_, fun k hk => (g4 k hk).trans (Go.RowKit.Below.heap_setCell W _ v k (by simpa using hk)), by rw [World.setCells, g5]; simp [World.setCell], by rw [World.setCells, g6]; rfl, by rw [World.setCells, g7]; rfl, by rw [World.setCells, g8]; rfl⟩
    rw [g3]
    by_cases hj : j = off
    · subst hj
      rw [if_neg (by omega), if_pos ⟨Nat.le_refl _, by simp⟩, Array.getElem?_setIfInBounds, if_pos rfl, if_pos (by omega)]
      simp
    · rw [Array.getElem?_setIfInBounds_ne (Ne.symm hj)]
      by_cases h2 : off + 1 ≤ j ∧ j < off + 1 + vs.length
      · rw [if_pos h2, if_pos (by simp; omega)]
        rw [show j - off = (j - (off + 1)) + 1 from by omega]
        simp
      · rw [if_neg h2, if_neg (by simp; omega)]
/-- the abstract write of a range, and the real one -/
theorem Rep.write (h : Rep σ S H W B) {b off : Nat} {cs vs vs' : List Value} {e : TypeId} {g : Option Nat} (hc : cellsAt H b = some (cs, e, g)) (hl : off + vs.length ≤ cs.length) (hv : VRs σ S vs vs') (hb : b < 16777215) :
    ∃ i, σ b = some i ∧ (∀ j, j < vs'.length → (W.cell? ⟨i.blk, i.base + off + j, none⟩).isSome = true) ∧ (∀ j, j < vs'.length → W.frozen? ⟨i.blk, i.base + off + j, none⟩ = false) ∧
      Rep σ S (H.put b (.cells (wr cs vs off) e g)) (W.setCells i.blk (i.base + off) vs') B ∧ Evo σ S W σ S (W.setCells i.blk (i.base + off) vs') := by
  obtain ⟨i, c', lo, hi, hs, hh, hcs, hfz, hg, hlen, hex, hgr, hB, hbn⟩ := h.cells_ hc
  have hvl := hv.length
  obtain ⟨c2, g1, g2, g3, g4, g5, g6, g7, g8⟩ := setCells_heap (b := i.blk) (e := e) (fz := (lo, hi)) (W := W) (c := c') vs' W c' (i.base + off) hh (by omega)
  have hrep := h.put_ (o' := .cells (wr cs vs off) e g) (cellsAt_get hc) hs hb g5 g4 g6 g7 g8 ⟨c2, lo, hi, g1, fun j v hj => ?_, by rw [g2]; exact hfz, hg, by rw [wr_length _ _ _ hl, g2]; exact hlen, fun hn => by rw [wr_length _ _ _ hl, g2]; exact hex hn, fun s tot hst => by rw [g2]; exact hgr s tot hst⟩
  · exact ⟨i, hs, fun j hj => by rw [cell_of hh, Array.getElem?_eq_getElem (by omega)]; rfl, fun j hj => frozen_of hh (hfz _ (by omega)), hrep.1, hrep.2⟩
  · rw [wr_get _ _ _ hl] at hj
    rw [g3]
    split at hj
    · rename_i h1
      rw [if_pos (by omega)]
      obtain ⟨u, h2, h3⟩ := hv.get hj
      exact ⟨u, by rw [← h2]; congr 1; omega, h3⟩
    · rename_i h1
      rw [if_neg (by omega)]
      exact hcs j v hj
def astore (X : Tab) (H : AH) (t : TypeId) (p v : Value) : Option AH := do
  let (b, off) ← addrOf p
  let (cs, e, g) ← cellsAt H b
  let i ← X.inf t
  cond (Nat.beq v.cells.toList.length i.size && v.cells.toList.all one && Nat.ble (off + i.size) cs.length && Nat.blt b 16777215) (some (H.put b (.cells (wr cs v.cells.toList off) e g))) none
theorem store_sound (hX : TabOk P X) (h : Rep σ S H W B) {t : TypeId} {p p' v v' : Value} {H' : AH} (hp : VR σ S p p') (hv : VR σ S v v') (ha : astore X H t p v = some H') :
    ∃ W', (Instr.storeAt t p' v').run P W = .ok () W' ∧ Rep σ S H' W' B ∧ Evo σ S W σ S W' ∧ H'.next = H.next := by
  unfold astore at ha
  simp only [Option.bind_eq_bind, Option.bind_eq_some_iff] at ha
  obtain ⟨⟨b, off⟩, h1, ⟨cs, e, g⟩, h2, it, h3, h4⟩ := ha
  obtain ⟨a', rfl, hb, hi⟩ := addrOf_vr h1 hp
  cases hcd : (Nat.beq v.cells.toList.length it.size && v.cells.toList.all one && Nat.ble (off + it.size) cs.length && Nat.blt b 16777215) with
  | false => simp only [hcd] at h4; cases h4
  | true =>
    simp only [hcd, cond_true] at h4
    injection h4 with h4
    subst h4
    simp only [Bool.and_eq_true, Nat.blt_eq, Nat.ble_eq, Nat.beq_eq] at hcd
    obtain ⟨⟨⟨k1, k2⟩, k3⟩, k4⟩ := hcd
    have k1 : v.cells.toList.length = it.size := by simpa using k1
    have hvs := hv.cells
    have hvl := hvs.length
    obtain ⟨i, hs, w1, w2, w3, w4⟩ := h.write h2 (by rw [k1]; exact k3) hvs k4
    have ha' := hi i hs
    subst ha'
    refine ⟨_, ?_, w3, w4, rfl⟩
    have hone : ∀ u ∈ v'.cells.toList, u.oneCell' = true := by
      intro u hu
      obtain ⟨j, hj, rfl⟩ := List.getElem_of_mem hu
      have hj2 : j < v.cells.toList.length := by omega
      obtain ⟨u', e1, e2⟩ := hvs.get (List.getElem?_eq_getElem hj2)
      rw [List.getElem?_eq_getElem hj] at e1
      injection e1 with e1
      rw [e1, one_vr e2]
      exact List.all_eq_true.1 k2 _ (List.getElem_mem _)
    have hst := run_storeCells_cells (P := P) i.blk (i.base + off) v'.cells.toList 0 W (by simpa using w1) (by simpa using w2) hone
    have hsz : v'.cells.size = it.size := by
      rw [← Array.length_toList]
      omega
    simp only [Nat.add_zero] at hst
    simp [Instr.storeAt, Instr.sureAddr, storeVar, sizeOf, typeInfo, hX.inf t it h3, hsz, hst]
end
end
end Go.Proofs.YtnckhmfajjcgpaaGreatDoor.Ev
namespace Go.Proofs.YtnckhmfajjcgpaaGreatDoor.Ev
noncomputable section
section
variable {P : Program} {X : Tab} {σ : Ren} {S : Ids} {H : AH} {W : World} {B : Nat}
/-- what one operation's run is to show: the abstract result stands for the real one -/
def Shows (P : Program) (σ : Ren) (S : Ids) (H : AH) (W : World) (B : Nat) (s : Sem Value) (r : Value) (H' : AH) : Prop :=
  ∃ (σ' : Ren) (S' : Ids) (W' : World) (r' : Value), s.run P W = .ok r' W' ∧ Rep σ' S' H' W' B ∧ Evo σ S W σ' S' W' ∧ VR σ' S' r r' ∧ Taken S H.next S' H'.next
def ShowsU (P : Program) (σ : Ren) (S : Ids) (H : AH) (W : World) (B : Nat) (s : Sem Unit) (H' : AH) : Prop :=
  ∃ (σ' : Ren) (S' : Ids) (W' : World), s.run P W = .ok () W' ∧ Rep σ' S' H' W' B ∧ Evo σ S W σ' S' W' ∧ Taken S H.next S' H'.next
theorem Shows.pure_ (h : Rep σ S H W B) {s : Sem Value} {r r' : Value} (hs : s.run P W = .ok r' W) (hr : VR σ S r r') : Shows P σ S H W B s r H := ⟨σ, S, W, r', hs, h, h.refl, hr, Taken.refl _ _⟩
/-- a new row of cells -/
theorem Rep.newCells (h : Rep σ S H W B) (hfree : ¬ S H.next) (hB : B ≤ W.heap.size) {vs vs' : List Value} {e : TypeId} {id : Nat} {H' : AH} (hn : H.new (.cells vs e none) = some (id, H')) (hv : VRs σ S vs vs') :
    ∃ (σ' : Ren) (S' : Ids), σ' id = some ⟨W.heap.size, 0, none⟩ ∧ Rep σ' S' H' (W.alloc (.cells vs'.toArray e)) B ∧ Evo σ S W σ' S' (W.alloc (.cells vs'.toArray e)) ∧ S' id ∧ Taken S H.next S' H'.next := by
  obtain ⟨σ', h1, h2, h3, rfl, h5⟩ := h.new_ hfree hn (ob := .cells vs'.toArray e) (k := 0) hB fun σ' hσ =>
    ⟨vs'.toArray, 0, 0, Go.heap_alloc_new W _, fun j v hj => by
      obtain ⟨v', a, b⟩ := hv.get hj
      exact ⟨v', by simpa using a, b.ext hσ⟩, fun j _ => by omega, rfl, by simp [hv.length], fun _ => ⟨rfl, by simp [hv.length]⟩, fun s tot h => by cases h⟩
  exact ⟨σ', _, h1, h2, h3, .inr rfl, by rw [h5]; exact taken_more _ _⟩
def abox (H : AH) (e : TypeId) (v : Value) : Option (Value × AH) := do
  let (id, H') ← H.new (.cells v.cells.toList e none)
  some (.pointer (some ⟨id, 0, none⟩), H')
theorem box_sound (h : Rep σ S H W B) (hfree : ¬ S H.next) (hB : B ≤ W.heap.size) {e : TypeId} {v v' r : Value} {H' : AH} (hv : VR σ S v v') (ha : abox H e v = some (r, H')) : Shows P σ S H W B (Instr.box e v') r H' := by
  unfold abox at ha
  simp only [Option.bind_eq_bind, Option.bind_eq_some_iff] at ha
  obtain ⟨⟨id, H1⟩, h1, h2⟩ := ha
  injection h2 with h2
  injection h2 with h2 h3
  subst h2 h3
  obtain ⟨σ', S', k1, k2, k3, k4, k5⟩ := h.newCells hfree hB h1 hv.cells
  refine ⟨σ', S', W.alloc (.cells v'.cells e), .pointer (some ⟨W.heap.size, 0, none⟩), ?_, by simpa using k2, by simpa using k3, .ptr _ _ _ k4 fun i hi => (by rw [k1] at hi; injection hi with hi; subst hi; rfl), k5⟩
  simp [Instr.box, newVar, newRow]
def aalloc (X : Tab) (H : AH) (e : TypeId) : Option (Value × AH) := do
  let i ← X.inf e
  let z ← i.zero
  cond (flatF 8 z) (abox H e z) none
theorem alloc_sound (hX : TabOk P X) (h : Rep σ S H W B) (hfree : ¬ S H.next) (hB : B ≤ W.heap.size) {e : TypeId} {r : Value} {H' : AH} (ha : aalloc X H e = some (r, H')) : Shows P σ S H W B (Instr.alloc e true (.tuple #[])) r H' := by
  unfold aalloc at ha
  simp only [Option.bind_eq_bind, Option.bind_eq_some_iff] at ha
  obtain ⟨i, h1, z, h2, h3⟩ := ha
  cases hf : flatF 8 z with
  | false => rw [hf] at h3; cases h3
  | true =>
    rw [hf] at h3
    obtain ⟨σ', S', W', r', k1, k2, k3, k4⟩ := box_sound (P := P) h hfree hB (VR.flat 8 z hf) h3
    refine ⟨σ', S', W', r', ?_, k2, k3, k4⟩
    have hz : (zeroValue e).run P W = .ok z W := by simp [zeroValue, typeInfo, hX.inf e i h1, h2]
    unfold Instr.alloc
    rw [Sem.run_bind, hz]
    simp only [Result.andThen_ok]
    rw [← k1]
    rfl
/-- setting cells of an array -/
theorem foldl_vr {σ : Ren} {n : Ids} (off : Nat) : ∀ (l l' : List Value) (k : Nat) (cs cs' : Array Value), VRs σ n l l' → VRs σ n cs.toList cs'.toList →
    VRs σ n ((l.zipIdx k).foldl (fun cs x => cs.setIfInBounds (off + x.2) x.1) cs).toList ((l'.zipIdx k).foldl (fun cs x => cs.setIfInBounds (off + x.2) x.1) cs').toList
  | [], _, _, _, _, h, hc => by cases h; exact hc
  | v :: l, _, k, cs, cs', h, hc => by
    cases h with
    | cons _ v' _ l' h t =>
      simp only [List.zipIdx_cons, List.foldl_cons]
      exact foldl_vr off l l' (k + 1) _ _ t (by simpa using hc.set h (off + k))
theorem size_vr {σ : Ren} {n : Ids} {a b : Array Value} (h : VRs σ n a.toList b.toList) : b.size = a.size := by
  have := h.length
  simpa using this.symm
inductive PRs (σ : Ren) (n : Ids) : List (Nat × Value) → List (Nat × Value) → Prop
  | nil : PRs σ n [] []
  | cons (i : Nat) (v v' : Value) (l l' : List (Nat × Value)) (h : VR σ n v v') (t : PRs σ n l l') : PRs σ n ((i, v) :: l) ((i, v') :: l')
theorem fill_vr {σ : Ren} {n : Ids} (place : Nat → Option (Nat × Nat)) : ∀ (l l' : List (Nat × Value)) (cs cs' r : Array Value), PRs σ n l l' → VRs σ n cs.toList cs'.toList → Instr.fill place cs l = some r →
    ∃ r', Instr.fill place cs' l' = some r' ∧ VRs σ n r.toList r'.toList
  | [], _, cs, cs', r, h, hc, hf => by
    cases h
    simp only [Instr.fill] at hf
    injection hf with hf
    subst hf
    exact ⟨cs', rfl, hc⟩
  | (i, v) :: l, _, cs, cs', r, h, hc, hf => by
    cases h with
    | cons _ _ v' _ l' h t =>
      simp only [Instr.fill] at hf ⊢
      cases hp : place i with
      | none => rw [hp] at hf; cases hf
      | some q =>
        obtain ⟨off, size⟩ := q
        rw [hp] at hf
        simp only at hf ⊢
        have h1 := size_vr h.cells
        have h2 := size_vr hc
        rw [h1, h2]
        split at hf
        · cases hf
        · rename_i hcond
          rw [if_neg hcond]
          refine fill_vr place l l' _ _ r t ?_ hf
          rw [← Array.foldl_toList, ← Array.foldl_toList, Array.toList_zipIdx, Array.toList_zipIdx]
          exact foldl_vr off v.cells.toList v'.cells.toList 0 cs cs' h.cells hc
/-- a struct's or an array's cells, built of parts -/
def abuilt (X : Tab) (t : TypeId) (parts : List (Nat × Value)) : Option Value := do
  let it ← X.inf t
  let z ← it.zero
  let d ← X.und t
  cond (flatF 8 z) (match d with
    | .struct fields => do
      let places ← fields.toList.mapM (fun f => (X.inf f.type).map fun i => (f.offset, i.size))
      let c ← Instr.fill (places.toArray[·]?) z.cells parts
      some (.agg c)
    | .array _ e => do
      let ie ← X.inf e
      let c ← Instr.fill (fun i => some (i * ie.size, ie.size)) z.cells parts
      some (.agg c)
    | _ => none) none
theorem mapM_inf (hX : TabOk P X) : ∀ (fs : List Field) (ps : List (Nat × Nat)), fs.mapM (fun f => (X.inf f.type).map fun i => (f.offset, i.size)) = some ps → fs.mapM (fun f => (P.info? f.type).map fun i => (f.offset, i.size)) = some ps
  | [], ps, h => h
  | f :: fs, ps, h => by
    simp only [List.mapM_cons, Option.bind_eq_bind, Option.bind_eq_some_iff, Option.map_eq_some_iff] at h ⊢
    obtain ⟨q, ⟨i, h1, h2⟩, qs, h3, h4⟩ := h
    exact ⟨q, ⟨i, hX.inf _ _ h1, h2⟩, qs, mapM_inf hX fs qs h3, h4⟩
theorem cells_flat {σ : Ren} {n : Ids} {z : Value} (h : flatF 8 z = true) : VRs σ n z.cells.toList z.cells.toList := (VR.flat 8 z h).cells
theorem build_sound (hX : TabOk P X) (h : Rep σ S H W B) {t : TypeId} {parts parts' : Array (Nat × Value)} {r : Value} (hp : PRs σ S parts.toList parts'.toList) (ha : abuilt X t parts.toList = some r) : Shows P σ S H W B (Instr.build t parts') r H := by
  unfold abuilt at ha
  simp only [Option.bind_eq_bind, Option.bind_eq_some_iff] at ha
  obtain ⟨it, h1, z, h2, d, h3, h4⟩ := ha
  cases hf : flatF 8 z with
  | false => rw [hf] at h4; cases h4
  | true =>
    rw [hf] at h4
    simp only [cond_true] at h4
    have e1 := hX.inf t it h1
    have e2 := hX.und t d h3
    split at h4
    · rename_i fields
      simp only [Option.bind_eq_bind, Option.bind_eq_some_iff] at h4
      obtain ⟨ps, h5, c, h6, h7⟩ := h4
      injection h7 with h7
      subst h7
      obtain ⟨c', k1, k2⟩ := fill_vr _ _ _ _ _ _ hp (cells_flat hf) h6
      have e3 := mapM_inf hX _ _ h5
      exact Shows.pure_ h (run_build W t parts' c' (by unfold Program.built; rw [e1, e2]; dsimp only; rw [h2, e3]; exact k1)) (.agg _ _ k2)
    · rename_i m e
      simp only [Option.bind_eq_bind, Option.bind_eq_some_iff] at h4
      obtain ⟨ie, h5, c, h6, h7⟩ := h4
      injection h7 with h7
      subst h7
      obtain ⟨c', k1, k2⟩ := fill_vr _ _ _ _ _ _ hp (cells_flat hf) h6
      have e3 := hX.inf e ie h5
      exact Shows.pure_ h (run_build W t parts' c' (by unfold Program.built; simp [e1, e2, h2, e3, k1])) (.agg _ _ k2)
    · cases h4
/-- a slice's cells, built of parts -/
def abuildSlice (X : Tab) (H : AH) (t : TypeId) (len : Nat) (parts : List (Nat × Value)) : Option (Value × AH) := do
  let d ← X.und t
  match d with
  | .slice e => do
    let ie ← X.inf e
    let z ← ie.zero
    cond (flatF 8 z && Nat.ble (len * ie.size) 16777216 && Nat.ble len 16777216) (do
      let c ← Instr.fill (fun i => some (i * ie.size, ie.size)) ((Array.range (len * ie.size)).map ((cond (Nat.beq (len * ie.size) 0) #[] z.cells)[· % (cond (Nat.beq (len * ie.size) 0) #[] z.cells).size]!)) parts
      let (id, H') ← H.new (.cells c.toList e none)
      some (.slice (some ⟨id, 0, none⟩) len len, H')) none
  | _ => none
theorem getElem!_vr {z : Value} (hf : flatF 8 z = true) {c : Array Value} (hc : c = #[] ∨ c = z.cells) {σ : Ren} {n : Ids} (i : Nat) : VR σ n (c[i]!) (c[i]!) ∨ c[i]! = default := by
  by_cases hi : i < c.size
  · left
    rcases hc with rfl | rfl
    · simp at hi
    · have h5 := cells_flat (σ := σ) (n := n) hf
      have h6 : z.cells.toList[i]? = some (z.cells[i]!) := by
        rw [Array.getElem?_toList, Array.getElem?_eq_getElem hi, getElem!_pos z.cells i hi]
      obtain ⟨v', h7, h8⟩ := h5.get h6
      rw [h6] at h7
      injection h7 with h7
      rw [← h7] at h8
      exact h8
  · right
    simp [hi]
theorem default_vr {σ : Ren} {n : Ids} : VR σ n (default : Value) default := by
  have h : ∀ v : Value, v = default → VR σ n v v := by
    intro v hv
    have : flatF 8 (default : Value) = true := by decide
    rw [hv]
    exact VR.flat 8 _ this
  exact h _ rfl
theorem zeros_vr {z : Value} (hf : flatF 8 z = true) {c : Array Value} (hc : c = #[] ∨ c = z.cells) {σ : Ren} {n : Ids} (m : Nat) : VRs σ n ((Array.range m).map (c[· % c.size]!)).toList ((Array.range m).map (c[· % c.size]!)).toList := by
  refine VRs.of_get rfl fun i v v' hv hv' => ?_
  rw [hv] at hv'
  injection hv' with hv'
  subst hv'
  have hi : i < m := by
    have := (List.getElem?_eq_some_iff.1 hv).1
    simpa using this
  simp only [Array.toList_map, List.getElem?_map, Array.toList_range] at hv
  rw [List.getElem?_range hi] at hv
  injection hv with hv
  subst hv
  show VR σ n (c[i % c.size]!) (c[i % c.size]!)
  rcases getElem!_vr hf hc (σ := σ) (n := n) (i % c.size) with h | h
  · exact h
  · rw [h]; exact default_vr
theorem buildSlice_sound (hX : TabOk P X) (h : Rep σ S H W B) (hfree : ¬ S H.next) (hB : B ≤ W.heap.size) {t : TypeId} {len : Nat} {parts parts' : Array (Nat × Value)} {r : Value} {H' : AH} (hp : PRs σ S parts.toList parts'.toList) (ha : abuildSlice X H t len parts.toList = some (r, H')) :
    Shows P σ S H W B (Instr.buildSlice t len parts') r H' := by
  unfold abuildSlice at ha
  simp only [Option.bind_eq_bind, Option.bind_eq_some_iff] at ha
  obtain ⟨d, h1, h2⟩ := ha
  split at h2
  case h_2 => cases h2
  rename_i e
  simp only [Option.bind_eq_some_iff] at h2
  obtain ⟨ie, h3, z, h4, h5⟩ := h2
  cases hf : (flatF 8 z && Nat.ble (len * ie.size) 16777216 && Nat.ble len 16777216) with
  | false => rw [hf] at h5; cases h5
  | true =>
    rw [hf] at h5
    simp only [cond_true, Option.bind_eq_some_iff] at h5
    simp only [Bool.and_eq_true, Nat.ble_eq] at hf
    obtain ⟨⟨hf1, hf2⟩, hf3⟩ := hf
    obtain ⟨c, h6, ⟨id, H1⟩, h7, h8⟩ := h5
    injection h8 with h8
    injection h8 with h8 h9
    subst h8 h9
    have hzc : (cond (Nat.beq (len * ie.size) 0) #[] z.cells) = #[] ∨ (cond (Nat.beq (len * ie.size) 0) #[] z.cells) = z.cells := by cases Nat.beq (len * ie.size) 0 <;> simp
    obtain ⟨c', k1, k2⟩ := fill_vr _ _ _ _ _ _ hp (zeros_vr hf1 hzc (len * ie.size)) h6
    obtain ⟨σ', S', g1, g2, g3, g4, g5⟩ := h.newCells hfree hB h7 k2
    refine ⟨σ', S', W.alloc (.cells c' e), .slice (some ⟨W.heap.size, 0, none⟩) len len, ?_, by simpa using g2, by simpa using g3, .slice _ _ _ _ _ _ g4 (Nat.le_refl _) (by simp [maxLen]; omega) fun i hi => (by rw [g1] at hi; injection hi with hi; subst hi; exact ⟨rfl, rfl⟩), g5⟩
    have e1 := hX.und t _ h1
    have e2 := hX.inf e ie h3
    have hle : ¬ (len * ie.size > 2 ^ 24) := by omega
    cases h0 : Nat.beq (len * ie.size) 0 with
    | true =>
      rw [h0] at k1
      have h0' : len * ie.size = 0 := by simpa using h0
      simp only [cond_true, h0'] at k1
      simp at k1
      simp [Instr.buildSlice, run_underlying e1, sizeOf, typeInfo, e2, h0', newRow, k1]
    | false =>
      rw [h0] at k1
      have h0' : ¬ (len * ie.size = 0) := by intro h; rw [h] at h0; simp at h0
      simp only [cond_false] at k1
      have h0'' : ¬ (len = 0 ∨ ie.size = 0) := by intro h; apply h0'; rcases h with h | h <;> simp [h]
      have hle' : ¬ (16777216 < len * ie.size) := by omega
      simp [Instr.buildSlice, run_underlying e1, sizeOf, typeInfo, e2, hle', h0'', newRow, zeroValue, h4, k1]
      exact fun h => absurd h h0'
end
end
end Go.Proofs.YtnckhmfajjcgpaaGreatDoor.Ev
