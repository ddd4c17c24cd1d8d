/- Operations that turn no memory: abstract, and what they say of the real run. -/
import Derived.Test.YtfnamalajmfjbaaGreatDoorEvMake
import Derived.Orders
import Derived.Laws.BytesString
set_option linter.unusedVariables false
set_option linter.unusedSimpArgs false
namespace Go.Proofs.YtfnamalajmfjbaaGreatDoor.Ev
noncomputable section
def pureRun (P : Program) {α : Type} : Sem α → Option α
  | .pure a => some a
  | .program k => pureRun P (k P)
  | _ => none
theorem pureRun_run {P : Program} {α : Type} (s : Sem α) : ∀ {a : α}, pureRun P s = some a → ∀ W, s.run P W = .ok a W := by
  induction s with
  | pure a => intro b h W; simp only [pureRun] at h; injection h with h; subst h; rfl
  | program k ih => intro b h W; simp only [pureRun] at h; exact ih P h W
  | _ => intro b h; simp [pureRun] at h
inductive ANext where
  | value (v : Value)
  | skip
  | enter (f : FuncId) (args : Array Value)
  | defer (f : FuncId) (cap : Array Value) (args : Array Value)
def NR (σ : Ren) (n : Ids) : ANext → Next → Prop
  | .value v, .value v' => VR σ n v v'
  | .skip, .skip => True
  | .enter f args, .enter f' args' => f = f' ∧ VRs σ n args.toList args'.toList
  | .defer f cap args, .defer d => ∃ cap', d.target = .fn (.func f) cap' ∧ VRs σ n cap.toList cap'.toList ∧ VRs σ n args.toList d.args.toList
  | _, _ => False
abbrev Env := Operand → Option Value
def EnvOk (σ : Ren) (n : Ids) (ρ : Env) (ρ' : Operand → Value) : Prop := ∀ x v, ρ x = some v → VR σ n v (ρ' x)
/-- the operation's run, shown -/
def Does (P : Program) (σ : Ren) (S : Ids) (H : AH) (W : World) (B : Nat) (s : Sem Next) (r : ANext) (H' : AH) : Prop :=
  ∃ (σ' : Ren) (S' : Ids) (W' : World) (r' : Next), s.run P W = .ok r' W' ∧ Rep σ' S' H' W' B ∧ Evo σ S W σ' S' W' ∧ NR σ' S' r r' ∧ Taken S H.next S' H'.next
section
variable {P : Program} {X : Tab} {σ : Ren} {S : Ids} {H : AH} {W : World} {B : Nat}
theorem Does.of_value {s : Sem Value} {r : Value} {H' : AH} (h : Shows P σ S H W B s r H') : Does P σ S H W B (do pure (.value (← s))) (.value r) H' := by
  obtain ⟨σ', S', W', r', h1, h2, h3, h4, h5⟩ := h
  exact ⟨σ', S', W', .value r', by rw [Sem.run_bind, h1]; rfl, h2, h3, h4, h5⟩
theorem Does.of_unit {s : Sem Unit} {H' : AH} (h : ShowsU P σ S H W B s H') : Does P σ S H W B (do s; pure .skip) .skip H' := by
  obtain ⟨σ', S', W', h1, h2, h3, h4⟩ := h
  exact ⟨σ', S', W', .skip, by rw [Sem.run_bind, h1]; rfl, h2, h3, trivial, h4⟩
def noSel : Op → Bool
  | .select .. => false
  | _ => true
def aflat (P : Program) (ρ : Env) (o : Oper) : Option ANext :=
  cond (noSel o.op && o.op.operands.toList.all fun x => match ρ x with | some v => flatF 8 v | none => false)
    (match pureRun P (execOp (fun x => (ρ x).getD undef) o) with
      | some (.value r) => cond (flatF 8 r) (some (.value r)) none
      | _ => none)
    none
theorem flat_sound (h : Rep σ S H W B) {ρ : Env} {ρ' : Operand → Value} (hρ : EnvOk σ S ρ ρ') {o : Oper} {r : ANext} (ha : aflat P ρ o = some r) : Does P σ S H W B (execOp ρ' o) r H := by
  unfold aflat at ha
  cases hc : (noSel o.op && o.op.operands.toList.all fun x => match ρ x with | some v => flatF 8 v | none => false) with
  | false => rw [hc] at ha; cases ha
  | true =>
    rw [hc] at ha
    simp only [cond_true] at ha
    simp only [Bool.and_eq_true, List.all_eq_true] at hc
    obtain ⟨hs, hall⟩ := hc
    split at ha
    · rename_i v hp
      cases hf : flatF 8 v with
      | false => rw [hf] at ha; cases ha
      | true =>
        rw [hf] at ha
        injection ha with ha
        subst ha
        have he : execOp ρ' o = execOp (fun x => (ρ x).getD undef) o := by
          refine execOp_congr o (fun cs b e => by rw [e] at hs; cases hs) fun x hx => ?_
          have h1 := hall x (by simpa using hx)
          split at h1
          · rename_i u hu
            rw [VR.flat_eq 8 u (ρ' x) (hρ x u hu) h1, hu]
            rfl
          · cases h1
        exact ⟨σ, S, W, .value v, by rw [he]; exact pureRun_run _ hp W, h, h.refl, VR.flat 8 v hf, Taken.refl _ _⟩
    · cases ha
/-- nil, or not -/
def isNil : Value → Option Bool
  | .pointer none => some true
  | .pointer (some _) => some false
  | .slice none _ _ => some true
  | .slice (some _) _ _ => some false
  | .map none => some true
  | .map (some _) => some false
  | .nilFunc => some true
  | .func (.func _) _ _ => some false
  | .nilIface => some true
  | .iface _ _ => some false
  | _ => none
def nilKind (d : TypeDesc) (a b : Value) : Bool := match d, a, b with
  | .pointer _, .pointer _, .pointer _ => true
  | .slice _, .slice _ _ _, .slice _ _ _ => true
  | .map _ _, .map _, .map _ => true
  | .func _ _ _, .nilFunc, .func _ _ _ => true
  | .func _ _ _, .func _ _ _, .nilFunc => true
  | .interface _, .nilIface, .iface _ _ => true
  | .interface _, .iface _ _, .nilIface => true
  | _, _, _ => false
/-- a comparison with nil -/
def anilcmp (X : Tab) (op : BinOp) (t : TypeId) (a b : Value) : Option Value := do
  let d ← X.und t
  let x ← isNil a
  let y ← isNil b
  cond (nilKind d a b && (x || y)) (match op with
    | .eql => some (.bool (x && y))
    | .neq => some (.bool (!(x && y)))
    | _ => none) none
theorem equalIn_nil (hX : TabOk P X) {t : TypeId} {d : TypeDesc} {a b a' b' : Value} {x y : Bool} (h1 : X.und t = some d) (ha : VR σ S a a') (hb : VR σ S b b') (hx : isNil a = some x) (hy : isNil b = some y) (hk : nilKind d a b = true) (hxy : (x || y) = true) (w : World) :
    (Op.equal t a' b').run P w = .ok (x && y) w := by
  have e1 := run_underlying (hX.und t d h1) w
  unfold Op.equal Op.maxDepth
  rw [show (10000 : Nat) = 9999 + 1 from rfl]
  unfold Op.equalIn
  rw [Sem.run_bind, e1]
  simp only [Result.andThen_ok]
  cases d <;> simp only [nilKind] at hk <;> first
    | (cases hk; done)
    | (cases ha <;> first
        | (simp [nilKind] at hk; done)
        | (cases hb <;> first
            | (simp [nilKind] at hk; done)
            | (simp only [isNil, Option.some.injEq] at hx hy; subst hx hy; first | rfl | (simp at hxy; done))))
theorem nilcmp_sound (hX : TabOk P X) (h : Rep σ S H W B) {op : BinOp} {t : TypeId} {x y : Operand} {a b a' b' r : Value} (ha : VR σ S a a') (hb : VR σ S b b') (hr : anilcmp X op t a b = some r) :
    Shows P σ S H W B (do eqGuard op t x y a' b'; binOp op t a' b') r H := by
  unfold anilcmp at hr
  simp only [Option.bind_eq_bind, Option.bind_eq_some_iff] at hr
  obtain ⟨d, h1, p, h2, q, h3, h4⟩ := hr
  cases hc : (nilKind d a b && (p || q)) with
  | false => rw [hc] at h4; cases h4
  | true =>
    rw [hc] at h4
    simp only [cond_true] at h4
    simp only [Bool.and_eq_true] at hc
    have he := equalIn_nil hX h1 ha hb h2 h3 hc.1 hc.2 W
    have hg : (eqGuard op t x y a' b').run P W = .ok () W := by
      have hk := hc.1
      unfold eqGuard
      cases ha <;> cases hb <;> first
        | (cases d <;> simp [nilKind] at hk <;> done)
        | (cases op <;> rfl)
    split at h4
    · injection h4 with h4
      subst h4
      refine Shows.pure_ h (r' := .bool (p && q)) ?_ (.bool _)
      rw [Sem.run_bind, hg]
      simp only [Result.andThen_ok]
      have hk := hc.1
      cases ha <;> cases hb <;> first
        | (cases d <;> simp [nilKind] at hk <;> done)
        | (simp only [binOp, Sem.run_bind, he, Result.andThen_ok]; rfl)
    · injection h4 with h4
      subst h4
      refine Shows.pure_ h (r' := .bool (!(p && q))) ?_ (.bool _)
      rw [Sem.run_bind, hg]
      simp only [Result.andThen_ok]
      have hk := hc.1
      cases ha <;> cases hb <;> first
        | (cases d <;> simp [nilKind] at hk <;> done)
        | (simp only [binOp, Sem.run_bind, he, Result.andThen_ok]; rfl)
    · cases h4
end
end
end Go.Proofs.YtfnamalajmfjbaaGreatDoor.Ev
