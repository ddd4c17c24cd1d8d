/- A value of the abstract run and one of the real run: the same but for where blocks lie. -/
import Derived.Test.YtfnamalajmfjbaaGreatDoorEvTree
import Derived.Calls
import Derived.Below
set_option linter.unusedVariables false
set_option linter.unusedSimpArgs false
namespace Go.Proofs.YtfnamalajmfjbaaGreatDoor.Ev
/-- where an abstract block lies; for one that append may lengthen: the element's cells, the real block's cells -/
structure Inf where
  blk : Nat
  base : Nat
  grow : Option (Nat × Nat)
abbrev Ren := Nat → Option Inf
def capOk (i : Inf) (off cap cap' : Nat) : Prop := match i.grow with
  | none => cap' = cap
  | some (s, tot) => i.base + off + cap' * s ≤ tot
mutual
inductive VR (σ : Ren) (n : Nat → Prop) : Value → Value → Prop
  | bool (b : Bool) : VR σ n (.bool b) (.bool b)
  | int (k : IntKind) (x : Int) : VR σ n (.int k x) (.int k x)
  | float (k : FloatKind) (b : Nat) : VR σ n (.float k b) (.float k b)
  | complex (k : FloatKind) (a b : Nat) : VR σ n (.complex k a b) (.complex k a b)
  | string (s : ByteArray) : VR σ n (.string s) (.string s)
  | ptrNil : VR σ n (.pointer none) (.pointer none)
  | ptr (b off : Nat) (a' : Addr) (hb : n b) (h : ∀ i, σ b = some i → a' = ⟨i.blk, i.base + off, none⟩) : VR σ n (.pointer (some ⟨b, off, none⟩)) (.pointer (some a'))
  | sliceNil : VR σ n (.slice none 0 0) (.slice none 0 0)
  | slice (b off len cap cap' : Nat) (a' : Addr) (hb : n b) (hl : len ≤ cap') (hm : cap' ≤ maxLen) (h : ∀ i, σ b = some i → a' = ⟨i.blk, i.base + off, none⟩ ∧ capOk i off cap cap') : VR σ n (.slice (some ⟨b, off, none⟩) len cap) (.slice (some a') len cap')
  | mapNil : VR σ n (.map none) (.map none)
  | map (b b' : Nat) (hb : n b) (h : ∀ i, σ b = some i → b' = i.blk) : VR σ n (.map (some b)) (.map (some b'))
  | func (f : FuncId) (first first' cap cap' : Array Value) (h1 : VRs σ n first.toList first'.toList) (h2 : VRs σ n cap.toList cap'.toList) : VR σ n (.func (.func f) first cap) (.func (.func f) first' cap')
  | nilFunc : VR σ n .nilFunc .nilFunc
  | iface (t : TypeId) (v v' : Value) (h : VR σ n v v') : VR σ n (.iface t v) (.iface t v')
  | nilIface : VR σ n .nilIface .nilIface
  | agg (cs cs' : Array Value) (h : VRs σ n cs.toList cs'.toList) : VR σ n (.agg cs) (.agg cs')
  | tuple (cs cs' : Array Value) (h : VRs σ n cs.toList cs'.toList) : VR σ n (.tuple cs) (.tuple cs')
inductive VRs (σ : Ren) (n : Nat → Prop) : List Value → List Value → Prop
  | nil : VRs σ n [] []
  | cons (v v' : Value) (l l' : List Value) (h : VR σ n v v') (t : VRs σ n l l') : VRs σ n (v :: l) (v' :: l')
end
/-- what a later renaming keeps of an earlier one -/
structure Ext (σ : Ren) (n : Nat → Prop) (σ' : Ren) (n' : Nat → Prop) : Prop where
  le : ∀ b, n b → n' b
  old : ∀ id i, n id → σ' id = some i → σ id = some i
theorem Ext.refl (σ : Ren) (n : Nat → Prop) : Ext σ n σ n := ⟨fun _ h => h, fun _ _ _ h => h⟩
theorem Ext.trans {σ σ' σ'' : Ren} {n n' n'' : Nat → Prop} (h : Ext σ n σ' n') (k : Ext σ' n' σ'' n'') : Ext σ n σ'' n'' :=
  ⟨fun b hb => k.le b (h.le b hb), fun id i hi e => h.old id i hi (k.old id i (h.le id hi) e)⟩
mutual
theorem VR.ext {σ σ' : Ren} {n n' : Nat → Prop} {v v' : Value} (e : Ext σ n σ' n') : VR σ n v v' → VR σ' n' v v'
  | .bool b => .bool b
  | .int k x => .int k x
  | .float k b => .float k b
  | .complex k a b => .complex k a b
  | .string s => .string s
  | .ptrNil => .ptrNil
  | .ptr b off a' hb h => .ptr b off a' (e.le _ hb) fun i hi => h i (e.old b i hb hi)
  | .sliceNil => .sliceNil
  | .slice b off len cap cap' a' hb hl hm h => .slice b off len cap cap' a' (e.le _ hb) hl hm fun i hi => h i (e.old b i hb hi)
  | .mapNil => .mapNil
  | .map b b' hb h => .map b b' (e.le _ hb) fun i hi => h i (e.old b i hb hi)
  | .func f first first' cap cap' h1 h2 => .func f first first' cap cap' (VRs.ext e h1) (VRs.ext e h2)
  | .nilFunc => .nilFunc
  | .iface t v v' h => .iface t v v' (VR.ext e h)
  | .nilIface => .nilIface
  | .agg cs cs' h => .agg cs cs' (VRs.ext e h)
  | .tuple cs cs' h => .tuple cs cs' (VRs.ext e h)
theorem VRs.ext {σ σ' : Ren} {n n' : Nat → Prop} {l l' : List Value} (e : Ext σ n σ' n') : VRs σ n l l' → VRs σ' n' l l'
  | .nil => .nil
  | .cons v v' l l' h t => .cons v v' l l' (VR.ext e h) (VRs.ext e t)
end
section
variable {σ : Ren} {n : Nat → Prop}
theorem VRs.length {l l' : List Value} (h : VRs σ n l l') : l.length = l'.length := by
  induction l generalizing l' with
  | nil => cases h; rfl
  | cons v l ih => cases h with | cons _ v' _ l' h t => simp [ih t]
theorem VRs.get {l l' : List Value} (h : VRs σ n l l') {i : Nat} {v : Value} (hv : l[i]? = some v) : ∃ v', l'[i]? = some v' ∧ VR σ n v v' := by
  induction l generalizing l' i with
  | nil => simp at hv
  | cons u l ih =>
    cases h with
    | cons _ u' _ l' h t =>
      cases i with
      | zero => simp at hv; subst hv; exact ⟨u', by simp, h⟩
      | succ i => simpa using ih t (by simpa using hv)
theorem VRs.of_get {l l' : List Value} (hl : l.length = l'.length) (h : ∀ (i : Nat) (v v' : Value), l[i]? = some v → l'[i]? = some v' → VR σ n v v') : VRs σ n l l' := by
  induction l generalizing l' with
  | nil => cases l' with
    | nil => exact .nil
    | cons => simp at hl
  | cons u l ih =>
    cases l' with
    | nil => simp at hl
    | cons u' l' => exact .cons _ _ _ _ (h 0 u u' rfl rfl) (ih (by simpa using hl) fun i v v' hv hv' => h (i + 1) v v' (by simpa using hv) (by simpa using hv'))
theorem VRs.append {l l' r r' : List Value} (h : VRs σ n l l') (k : VRs σ n r r') : VRs σ n (l ++ r) (l' ++ r') := by
  induction l generalizing l' with
  | nil => cases h; exact k
  | cons v l ih => cases h with | cons _ v' _ l' h t => exact .cons _ _ _ _ h (ih t)
theorem VRs.set {l l' : List Value} (h : VRs σ n l l') {v v' : Value} (k : VR σ n v v') (i : Nat) : VRs σ n (l.set i v) (l'.set i v') := by
  induction l generalizing l' i with
  | nil => cases h; exact .nil
  | cons u l ih =>
    cases h with
    | cons _ u' _ l' h t =>
      cases i with
      | zero => exact .cons _ _ _ _ k t
      | succ i => exact .cons _ _ _ _ h (ih t i)
theorem VRs.take {l l' : List Value} (h : VRs σ n l l') (i : Nat) : VRs σ n (l.take i) (l'.take i) := by
  induction l generalizing l' i with
  | nil => cases h; simp; exact .nil
  | cons u l ih =>
    cases h with
    | cons _ u' _ l' h t =>
      cases i with
      | zero => exact .nil
      | succ i => exact .cons _ _ _ _ h (ih t i)
theorem VRs.drop {l l' : List Value} (h : VRs σ n l l') (i : Nat) : VRs σ n (l.drop i) (l'.drop i) := by
  induction l generalizing l' i with
  | nil => cases h; simp; exact .nil
  | cons u l ih =>
    cases h with
    | cons _ u' _ l' h t =>
      cases i with
      | zero => exact .cons _ _ _ _ h t
      | succ i => exact ih t i
theorem VR.cells {v v' : Value} (h : VR σ n v v') : VRs σ n v.cells.toList v'.cells.toList := by
  cases h <;> first
    | assumption
    | exact .cons _ _ _ _ (by constructor <;> assumption) .nil
end
/-- no address in it (to a depth) -/
def flatF : Nat → Value → Bool
  | 0, _ => false
  | f + 1, v => match v with
    | .bool _ | .int .. | .float .. | .complex .. | .string _ | .pointer none | .slice none 0 0 | .map none | .nilFunc | .nilIface => true
    | .func (.func _) first cap => first.toList.all (flatF f) && cap.toList.all (flatF f)
    | .iface _ v => flatF f v
    | .agg cs => cs.toList.all (flatF f)
    | .tuple cs => cs.toList.all (flatF f)
    | _ => false
theorem VRs.flat {σ : Ren} {n : Nat → Prop} {f : Nat} (ih : ∀ v, flatF f v = true → VR σ n v v) : ∀ l : List Value, l.all (flatF f) = true → VRs σ n l l
  | [], _ => .nil
  | v :: l, h => by
    simp only [List.all_cons, Bool.and_eq_true] at h
    exact .cons _ _ _ _ (ih v h.1) (VRs.flat ih l h.2)
theorem VR.flat {σ : Ren} {n : Nat → Prop} : ∀ (f : Nat) (v : Value), flatF f v = true → VR σ n v v
  | 0, _, h => by simp [flatF] at h
  | f + 1, v, h => by
    unfold flatF at h
    split at h
    all_goals first
      | (constructor; done)
      | (simp only [Bool.and_eq_true] at h; exact .func _ _ _ _ _ (VRs.flat (VR.flat f) _ h.1) (VRs.flat (VR.flat f) _ h.2))
      | exact .iface _ _ _ (VR.flat f _ h)
      | exact .agg _ _ (VRs.flat (VR.flat f) _ h)
      | exact .tuple _ _ (VRs.flat (VR.flat f) _ h)
      | cases h
theorem VRs.flat_eq {σ : Ren} {n : Nat → Prop} {f : Nat} (ih : ∀ v v', VR σ n v v' → flatF f v = true → v' = v) : ∀ l l' : List Value, VRs σ n l l' → l.all (flatF f) = true → l' = l
  | [], _, h, _ => by cases h; rfl
  | v :: l, _, h, k => by
    cases h with
    | cons _ v' _ l' h t =>
      simp only [List.all_cons, Bool.and_eq_true] at k
      rw [ih v v' h k.1, VRs.flat_eq ih l l' t k.2]
theorem array_eq {a b : Array Value} (h : a.toList = b.toList) : a = b := by
  cases a; cases b; simpa using h
theorem VR.flat_eq {σ : Ren} {n : Nat → Prop} : ∀ (f : Nat) (v v' : Value), VR σ n v v' → flatF f v = true → v' = v
  | 0, _, _, _, h => by simp [flatF] at h
  | f + 1, v, v', hv, h => by
    cases hv <;> first
      | rfl
      | (simp [flatF] at h; done)
      | skip
    case func f first first' cap cap' h1 h2 =>
      simp only [flatF, Bool.and_eq_true] at h
      rw [array_eq (VRs.flat_eq (VR.flat_eq _) _ _ h1 h.1), array_eq (VRs.flat_eq (VR.flat_eq _) _ _ h2 h.2)]
    case iface t u u' h1 =>
      simp only [flatF] at h
      rw [VR.flat_eq f u u' h1 h]
    case agg cs cs' h1 =>
      simp only [flatF] at h
      rw [array_eq (VRs.flat_eq (VR.flat_eq f) _ _ h1 h)]
    case tuple cs cs' h1 =>
      simp only [flatF] at h
      rw [array_eq (VRs.flat_eq (VR.flat_eq f) _ _ h1 h)]
end Go.Proofs.YtfnamalajmfjbaaGreatDoor.Ev
