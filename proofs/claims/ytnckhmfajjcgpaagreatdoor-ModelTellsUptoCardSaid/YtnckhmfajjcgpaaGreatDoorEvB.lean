/- Operations that turn no memory: abstract, and what they say of the real run. -/
import Derived.Test.YtnckhmfajjcgpaaGreatDoorEvA
import Derived.Orders
import Derived.Laws.BytesString
set_option linter.unusedVariables false
set_option linter.unusedSimpArgs false
set_option linter.unusedSectionVars false
namespace Go.Proofs.YtnckhmfajjcgpaaGreatDoor.Ev
noncomputable section
def pureRun (P : Program) {α : Type} : Sem α → Option α
  | .pure a => some a
  | .program k => pureRun P (k P)
  | _ => none
theorem pureRun_run {P : Program} {α : Type} (s : Sem α) : ∀ {a : α}, pureRun P s = some a → ∀ W, s.run P W = .ok a W := by
  induction s with
  | pure a => intro b h W; simp only [pureRun] at h; injection h with h; subst h; rfl
  | program k ih => intro b h W; simp only [pureRun] at h; exact ih P h W
  | _ => intro b h; simp [pureRun] at h
inductive ANext where
  | value (v : Value)
  | skip
  | enter (f : FuncId) (args : Array Value)
  | defer (f : FuncId) (cap : Array Value) (args : Array Value)
def NR (σ : Ren) (n : Ids) : ANext → Next → Prop
  | .value v, .value v' => VR σ n v v'
  | .skip, .skip => True
  | .enter f args, .enter f' args' => f = f' ∧ VRs σ n args.toList args'.toList
  | .defer f cap args, .defer d => ∃ cap', d.target = .fn (.func f) cap' ∧ VRs σ n cap.toList cap'.toList ∧ VRs σ n args.toList d.args.toList
  | _, _ => False
abbrev Env := Operand → Option Value
def EnvOk (σ : Ren) (n : Ids) (ρ : Env) (ρ' : Operand → Value) : Prop := ∀ x v, ρ x = some v → VR σ n v (ρ' x)
/-- the operation's run, shown -/
def Does (P : Program) (σ : Ren) (S : Ids) (H : AH) (W : World) (B : Nat) (s : Sem Next) (r : ANext) (H' : AH) : Prop :=
  ∃ (σ' : Ren) (S' : Ids) (W' : World) (r' : Next), s.run P W = .ok r' W' ∧ Rep σ' S' H' W' B ∧ Evo σ S W σ' S' W' ∧ NR σ' S' r r' ∧ Taken S H.next S' H'.next
section
variable {P : Program} {X : Tab} {σ : Ren} {S : Ids} {H : AH} {W : World} {B : Nat}
theorem Does.of_value {s : Sem Value} {r : Value} {H' : AH} (h : Shows P σ S H W B s r H') : Does P σ S H W B (do pure (.value (← s))) (.value r) H' := by
  obtain ⟨σ', S', W', r', h1, h2, h3, h4, h5⟩ := h
  exact ⟨σ', S', W', .value r', by rw [Sem.run_bind, h1]; rfl, h2, h3, h4, h5⟩
theorem Does.of_unit {s : Sem Unit} {H' : AH} (h : ShowsU P σ S H W B s H') : Does P σ S H W B (do s; pure .skip) .skip H' := by
  obtain ⟨σ', S', W', h1, h2, h3, h4⟩ := h
  exact ⟨σ', S', W', .skip, by rw [Sem.run_bind, h1]; rfl, h2, h3, trivial, h4⟩
def noSel : Op → Bool
  | .select .. => false
  | _ => true
def aflat (P : Program) (ρ : Env) (o : Oper) : Option ANext :=
  cond (noSel o.op && o.op.operands.toList.all fun x => match ρ x with | some v => flatF 8 v | none => false)
    (match pureRun P (execOp (fun x => (ρ x).getD undef) o) with
      | some (.value r) => cond (flatF 8 r) (some (.value r)) none
      | _ => none)
    none
theorem flat_sound (h : Rep σ S H W B) {ρ : Env} {ρ' : Operand → Value} (hρ : EnvOk σ S ρ ρ') {o : Oper} {r : ANext} (ha : aflat P ρ o = some r) : Does P σ S H W B (execOp ρ' o) r H := by
  unfold aflat at ha
  cases hc : (noSel o.op && o.op.operands.toList.all fun x => match ρ x with | some v => flatF 8 v | none => false) with
  | false => rw [hc] at ha; cases ha
  | true =>
    rw [hc] at ha
    simp only [cond_true] at ha
    simp only [Bool.and_eq_true, List.all_eq_true] at hc
    obtain ⟨hs, hall⟩ := hc
    split at ha
    · rename_i v hp
      cases hf : flatF 8 v with
      | false => rw [hf] at ha; cases ha
      | true =>
        rw [hf] at ha
        injection ha with ha
        subst ha
        have he : execOp ρ' o = execOp (fun x => (ρ x).getD undef) o := by
          refine execOp_congr o (fun cs b e => by rw [e] at hs; cases hs) fun x hx => ?_
          have h1 := hall x (by simpa using hx)
          split at h1
          · rename_i u hu
            rw [VR.flat_eq 8 u (ρ' x) (hρ x u hu) h1, hu]
            rfl
          · cases h1
        exact ⟨σ, S, W, .value v, by rw [he]; exact pureRun_run _ hp W, h, h.refl, VR.flat 8 v hf, Taken.refl _ _⟩
    · cases ha
/-- nil, or not -/
def isNil : Value → Option Bool
  | .pointer none => some true
  | .pointer (some _) => some false
  | .slice none _ _ => some true
  | .slice (some _) _ _ => some false
  | .map none => some true
  | .map (some _) => some false
  | .nilFunc => some true
  | .func (.func _) _ _ => some false
  | .nilIface => some true
  | .iface _ _ => some false
  | _ => none
def nilKind (d : TypeDesc) (a b : Value) : Bool := match d, a, b with
  | .pointer _, .pointer _, .pointer _ => true
  | .slice _, .slice _ _ _, .slice _ _ _ => true
  | .map _ _, .map _, .map _ => true
  | .func _ _ _, .nilFunc, .func _ _ _ => true
  | .func _ _ _, .func _ _ _, .nilFunc => true
  | .interface _, .nilIface, .iface _ _ => true
  | .interface _, .iface _ _, .nilIface => true
  | _, _, _ => false
/-- a comparison with nil -/
def anilcmp (X : Tab) (op : BinOp) (t : TypeId) (a b : Value) : Option Value := do
  let d ← X.und t
  let x ← isNil a
  let y ← isNil b
  cond (nilKind d a b && (x || y)) (match op with
    | .eql => some (.bool (x && y))
    | .neq => some (.bool (!(x && y)))
    | _ => none) none
theorem equalIn_nil (hX : TabOk P X) {t : TypeId} {d : TypeDesc} {a b a' b' : Value} {x y : Bool} (h1 : X.und t = some d) (ha : VR σ S a a') (hb : VR σ S b b') (hx : isNil a = some x) (hy : isNil b = some y) (hk : nilKind d a b = true) (hxy : (x || y) = true) (w : World) :
    (Op.equal t a' b').run P w = .ok (x && y) w := by
  have e1 := run_underlying (hX.und t d h1) w
  unfold Op.equal Op.maxDepth
  rw [show (10000 : Nat) = 9999 + 1 from rfl]
  unfold Op.equalIn
  rw [Sem.run_bind, e1]
  simp only [Result.andThen_ok]
  cases d <;> simp only [nilKind] at hk <;> first
    | (cases hk; done)
    | (cases ha <;> first
        | (simp [nilKind] at hk; done)
        | (cases hb <;> first
            | (simp [nilKind] at hk; done)
            | (simp only [isNil, Option.some.injEq] at hx hy; subst hx hy; first | rfl | (simp at hxy; done))))
theorem nilcmp_sound (hX : TabOk P X) (h : Rep σ S H W B) {op : BinOp} {t : TypeId} {x y : Operand} {a b a' b' r : Value} (ha : VR σ S a a') (hb : VR σ S b b') (hr : anilcmp X op t a b = some r) :
    Shows P σ S H W B (do eqGuard op t x y a' b'; binOp op t a' b') r H := by
  unfold anilcmp at hr
  simp only [Option.bind_eq_bind, Option.bind_eq_some_iff] at hr
  obtain ⟨d, h1, p, h2, q, h3, h4⟩ := hr
  cases hc : (nilKind d a b && (p || q)) with
  | false => rw [hc] at h4; cases h4
  | true =>
    rw [hc] at h4
    simp only [cond_true] at h4
    simp only [Bool.and_eq_true] at hc
    have he := equalIn_nil hX h1 ha hb h2 h3 hc.1 hc.2 W
    have hg : (eqGuard op t x y a' b').run P W = .ok () W := by
      have hk := hc.1
      unfold eqGuard
      cases ha <;> cases hb <;> first
        | (cases d <;> simp [nilKind] at hk <;> done)
        | (cases op <;> rfl)
    split at h4
    · injection h4 with h4
      subst h4
      refine Shows.pure_ h (r' := .bool (p && q)) ?_ (.bool _)
      rw [Sem.run_bind, hg]
      simp only [Result.andThen_ok]
      have hk := hc.1
      cases ha <;> cases hb <;> first
        | (cases d <;> simp [nilKind] at hk <;> done)
        | (simp only [binOp, Sem.run_bind, he, Result.andThen_ok]; rfl)
    · injection h4 with h4
      subst h4
      refine Shows.pure_ h (r' := .bool (!(p && q))) ?_ (.bool _)
      rw [Sem.run_bind, hg]
      simp only [Result.andThen_ok]
      have hk := hc.1
      cases ha <;> cases hb <;> first
        | (cases d <;> simp [nilKind] at hk <;> done)
        | (simp only [binOp, Sem.run_bind, he, Result.andThen_ok]; rfl)
    · cases h4
end
end
end Go.Proofs.YtnckhmfajjcgpaaGreatDoor.Ev
namespace Go.Proofs.YtnckhmfajjcgpaaGreatDoor.Ev
noncomputable section
section
variable {P : Program} {X : Tab} {σ : Ren} {S : Ids} {H : AH} {W : World} {B : Nat}
def afieldAddr (X : Tab) (t : TypeId) (v : Value) (f : Nat) : Option Value := do
  let d ← X.und t
  match d with
  | .struct fields => do
    let fl ← fields[f]?
    let i ← X.inf fl.type
    let (b, off) ← addrOf v
    cond (Nat.beq i.size 0) none (some (.pointer (some ⟨b, off + fl.offset, none⟩)))
  | _ => none
theorem ptr_add {b off k : Nat} {a' : Addr} (hb : S b) (hi : ∀ i, σ b = some i → a' = ⟨i.blk, i.base + off, none⟩) : VR σ S (.pointer (some ⟨b, off + k, none⟩)) (.pointer (some (a'.add k))) :=
  .ptr _ _ _ hb fun i h => by rw [hi i h, Addr.add_mid, Nat.add_assoc]
theorem fieldAddr_sound (hX : TabOk P X) (h : Rep σ S H W B) {t : TypeId} {v v' r : Value} {f : Nat} (hv : VR σ S v v') (ha : afieldAddr X t v f = some r) : Shows P σ S H W B (Instr.fieldAt t v' f) r H := by
  unfold afieldAddr at ha
  simp only [Option.bind_eq_bind, Option.bind_eq_some_iff] at ha
  obtain ⟨d, h1, h2⟩ := ha
  split at h2
  case h_2 => cases h2
  rename_i fields
  simp only [Option.bind_eq_some_iff] at h2
  obtain ⟨fl, h3, it, h4, ⟨b, off⟩, h5, h6⟩ := h2
  cases hz : Nat.beq it.size 0 with
  | true => rw [hz] at h6; cases h6
  | false =>
    rw [hz] at h6
    injection h6 with h6
    subst h6
    obtain ⟨a', rfl, hb, hi⟩ := addrOf_vr h5 hv
    refine Shows.pure_ h (r' := .pointer (some (a'.add fl.offset))) ?_ (ptr_add hb hi)
    have hz' : ¬ it.size = 0 := by intro e; rw [e] at hz; simp at hz
    simp [Instr.fieldAt, run_underlying (hX.und t _ h1), h3, Instr.sureAddr, fieldPlace, sizeOf, typeInfo, hX.inf _ _ h4, hz']
def intOf? : Value → Option (IntKind × Int)
  | .int k n => some (k, n)
  | _ => none
theorem intOf_vr {σ : Ren} {n : Ids} {v v' : Value} {k : IntKind} {x : Int} (h : intOf? v = some (k, x)) (r : VR σ n v v') : v = .int k x ∧ v' = .int k x := by
  unfold intOf? at h
  split at h
  · injection h with h
    injection h with h1 h2
    subst h1 h2
    cases r
    exact ⟨rfl, rfl⟩
  · cases h
def aindexAddr (X : Tab) (t : TypeId) (v ix : Value) : Option Value := do
  let d ← X.und t
  let (_, n) ← intOf? ix
  match d, v with
  | .slice e, .slice (some ⟨b, off, none⟩) len _ => do
    let i ← X.inf e
    cond (decide (0 ≤ n) && decide (n < (len : Int))) (some (.pointer (some ⟨b, off + n.toNat * i.size, none⟩))) none
  | .array len e, .pointer (some ⟨b, off, none⟩) => do
    let i ← X.inf e
    cond (decide (0 ≤ n) && decide (n < (len : Int))) (some (.pointer (some ⟨b, off + n.toNat * i.size, none⟩))) none
  | _, _ => none
theorem indexAddr_sound (hX : TabOk P X) (h : Rep σ S H W B) {t : TypeId} {v v' ix ix' r : Value} (hv : VR σ S v v') (hx : VR σ S ix ix') (ha : aindexAddr X t v ix = some r) : Shows P σ S H W B (Instr.indexAt t v' ix') r H := by
  unfold aindexAddr at ha
  simp only [Option.bind_eq_bind, Option.bind_eq_some_iff] at ha
  obtain ⟨d, h1, ⟨k, n⟩, h2, h3⟩ := ha
  obtain ⟨rfl, rfl⟩ := intOf_vr h2 hx
  split at h3
  · rename_i e b off len cap
    simp only [Option.bind_eq_some_iff] at h3
    obtain ⟨it, h4, h5⟩ := h3
    cases hc : (decide (0 ≤ n) && decide (n < (len : Int))) with
    | false => rw [hc] at h5; cases h5
    | true =>
      rw [hc] at h5
      injection h5 with h5
      subst h5
      simp only [Bool.and_eq_true, decide_eq_true_eq] at hc
      cases hv with
      | slice _ _ _ _ cap' a' hb hl hm hi =>
        refine Shows.pure_ h (r' := .pointer (some (a'.add (n.toNat * it.size)))) ?_ (ptr_add hb fun i e => (hi i e).1)
        simp [Instr.indexAt, asIntOf, run_underlying (hX.und t _ h1), hc.1, hc.2, sizeOf, typeInfo, hX.inf _ _ h4]
  · rename_i len e b off
    simp only [Option.bind_eq_some_iff] at h3
    obtain ⟨it, h4, h5⟩ := h3
    cases hc : (decide (0 ≤ n) && decide (n < (len : Int))) with
    | false => rw [hc] at h5; cases h5
    | true =>
      rw [hc] at h5
      injection h5 with h5
      subst h5
      simp only [Bool.and_eq_true, decide_eq_true_eq] at hc
      cases hv with
      | ptr _ _ a' hb hi =>
        refine Shows.pure_ h (r' := .pointer (some (a'.add (n.toNat * it.size)))) ?_ (ptr_add hb hi)
        simp [Instr.indexAt, asIntOf, run_underlying (hX.und t _ h1), hc.1, hc.2, sizeOf, typeInfo, hX.inf _ _ h4, Instr.sureAddr]
  · cases h3
/-- a part of a value's cells -/
def apart (X : Tab) (t : TypeId) (cs : List Value) (off : Nat) : Option Value := do
  let d ← X.und t
  cond d.isRow (do
    let i ← X.inf t
    some (.agg ((cs.drop off).take i.size).toArray))
    cs[off]?
theorem part_sound (hX : TabOk P X) {n : Ids} {t : TypeId} {cs cs' : Array Value} {off : Nat} {r : Value} (hc : VRs σ n cs.toList cs'.toList) (ha : apart X t cs.toList off = some r) (w : World) :
    ∃ r', (part t cs' off).run P w = .ok r' w ∧ VR σ n r r' := by
  unfold apart at ha
  simp only [Option.bind_eq_bind, Option.bind_eq_some_iff] at ha
  obtain ⟨d, h1, h2⟩ := ha
  have hag := isAgg_run (P := P) hX h1 w
  cases hd : d.isRow with
  | true =>
    rw [hd] at h2 hag
    simp only [cond_true, Option.bind_eq_some_iff] at h2
    obtain ⟨it, h3, h4⟩ := h2
    injection h4 with h4
    subst h4
    refine ⟨.agg (cs'.extract off (off + it.size)), ?_, .agg _ _ ?_⟩
    · simp [part, Sem.run_bind, hag, sizeOf, typeInfo, hX.inf _ _ h3]
    · have : (cs'.extract off (off + it.size)).toList = (cs'.toList.drop off).take it.size := by
        rw [Array.toList_extract]
        simp [List.extract_eq_take_drop]
      rw [this]
      exact (hc.drop off).take it.size
  | false =>
    rw [hd] at h2 hag
    simp only [cond_false] at h2
    obtain ⟨r', h3, h4⟩ := hc.get h2
    rw [Array.getElem?_toList] at h3
    refine ⟨r', ?_, h4⟩
    simp [part, Sem.run_bind, hag, h3]
def afield (X : Tab) (t : TypeId) (v : Value) (f : Nat) : Option Value := do
  let d ← X.und t
  match d, v with
  | .struct fields, .agg cs => do
    let fl ← fields[f]?
    apart X fl.type cs.toList fl.offset
  | _, _ => none
theorem field_sound (hX : TabOk P X) (h : Rep σ S H W B) {t : TypeId} {v v' r : Value} {f : Nat} (hv : VR σ S v v') (ha : afield X t v f = some r) : Shows P σ S H W B (Instr.field t v' f) r H := by
  unfold afield at ha
  simp only [Option.bind_eq_bind, Option.bind_eq_some_iff] at ha
  obtain ⟨d, h1, h2⟩ := ha
  split at h2
  case h_2 => cases h2
  rename_i fields cs
  simp only [Option.bind_eq_some_iff] at h2
  obtain ⟨fl, h3, h4⟩ := h2
  cases hv with
  | agg _ cs' hc =>
    obtain ⟨r', h5, h6⟩ := part_sound hX hc h4 W
    refine Shows.pure_ h (r' := r') ?_ h6
    simp [Instr.field, run_underlying (hX.und t _ h1), h3, asAgg, h5]
def aindex (X : Tab) (t : TypeId) (v ix : Value) : Option Value := do
  let d ← X.und t
  let (_, n) ← intOf? ix
  match d, v with
  | .array len e, .agg cs => do
    let i ← X.inf e
    cond (decide (0 ≤ n) && decide (n < (len : Int))) (apart X e cs.toList (n.toNat * i.size)) none
  | _, _ => none
theorem index_sound (hX : TabOk P X) (h : Rep σ S H W B) {t : TypeId} {v v' ix ix' r : Value} (hv : VR σ S v v') (hx : VR σ S ix ix') (ha : aindex X t v ix = some r) : Shows P σ S H W B (Instr.index t v' ix') r H := by
  unfold aindex at ha
  simp only [Option.bind_eq_bind, Option.bind_eq_some_iff] at ha
  obtain ⟨d, h1, ⟨k, n⟩, h2, h3⟩ := ha
  obtain ⟨rfl, rfl⟩ := intOf_vr h2 hx
  split at h3
  case h_2 => cases h3
  rename_i len e cs
  simp only [Option.bind_eq_some_iff] at h3
  obtain ⟨it, h4, h5⟩ := h3
  cases hc : (decide (0 ≤ n) && decide (n < (len : Int))) with
  | false => rw [hc] at h5; cases h5
  | true =>
    rw [hc] at h5
    simp only [Bool.and_eq_true, decide_eq_true_eq] at hc
    cases hv with
    | agg _ cs' hcs =>
      obtain ⟨r', h6, h7⟩ := part_sound hX hcs h5 W
      refine Shows.pure_ h (r' := r') ?_ h7
      simp [Instr.index, asIntOf, run_underlying (hX.und t _ h1), hc.1, hc.2, sizeOf, typeInfo, hX.inf _ _ h4, h6]
/-- bounds of a slicing -/
def natOf? : Option Value → Nat → Option Nat
  | none, dflt => some dflt
  | some (.int _ n), _ => cond (decide (0 ≤ n)) (some n.toNat) none
  | _, _ => none
def aslice (X : Tab) (H : AH) (t : TypeId) (v : Value) (lo hi : Option Value) (mx : Option Value) : Option Value := do
  let d ← X.und t
  match d, v with
  | .slice e, .slice (some ⟨b, off, none⟩) len cap => do
    let it ← X.inf e
    let (_, _, g) ← cellsAt H b
    let l ← natOf? lo 0
    let h ← natOf? hi len
    match g with
    | none => do
      let m ← natOf? mx cap
      cond (Nat.ble l h && Nat.ble h m && Nat.ble m cap && (mx.isNone || hi.isSome)) (some (.slice (some ⟨b, cond (Nat.beq m l) off (off + l * it.size), none⟩) (h - l) (m - l))) none
    | some s => cond (mx.isNone && Nat.ble l h && Nat.ble h len && Nat.beq s it.size && (Nat.beq l 0 || Nat.blt l len)) (some (.slice (some ⟨b, off + l * it.size, none⟩) (h - l) 0)) none
  | _, _ => none
theorem natOf_vr {σ : Ren} {n : Ids} {o o' : Option Value} {dflt k : Nat} (h : natOf? o dflt = some k) (hs : o.isSome = o'.isSome) (hr : ∀ v v', o = some v → o' = some v' → VR σ n v v') :
    (o = none ∧ o' = none ∧ k = dflt) ∨ ∃ q x, o = some (.int q x) ∧ o' = some (.int q x) ∧ 0 ≤ x ∧ x.toNat = k := by
  unfold natOf? at h
  split at h
  · injection h with h
    cases o' with
    | none => exact .inl ⟨rfl, rfl, h.symm⟩
    | some v => simp at hs
  · rename_i q x
    cases o' with
    | none => simp at hs
    | some v' =>
      have := hr _ _ rfl rfl
      cases this
      cases hd : decide (0 ≤ x) with
      | false => rw [hd] at h; cases h
      | true =>
        rw [hd] at h
        injection h with h
        exact .inr ⟨q, x, rfl, rfl, by simpa using hd, h⟩
  · cases h
end
end
end Go.Proofs.YtnckhmfajjcgpaaGreatDoor.Ev
namespace Go.Proofs.YtnckhmfajjcgpaaGreatDoor.Ev
noncomputable section
section
variable {P : Program} {X : Tab} {σ : Ren} {S : Ids} {H : AH} {W : World} {B : Nat}
theorem sliceBounds_run {isS : Bool} {len cap : Nat} {lo hi mx : Option Value} {l h m : Nat} (hlo : (lo = none ∧ l = 0) ∨ ∃ q x, lo = some (.int q x) ∧ 0 ≤ x ∧ x.toNat = l)
    (hhi : (hi = none ∧ h = len) ∨ ∃ q x, hi = some (.int q x) ∧ 0 ≤ x ∧ x.toNat = h) (hmx : (mx = none ∧ m = cap) ∨ ∃ q x, mx = some (.int q x) ∧ 0 ≤ x ∧ x.toNat = m) (h1 : l ≤ h) (h2 : h ≤ m) (h3 : m ≤ cap) (h4 : mx = none ∨ hi ≠ none) (w : World) :
    (Instr.sliceBounds isS len cap lo hi mx).run P w = .ok (l, h, m) w := by
  have hb : ∀ (q : IntKind) (x : Int) (y : Nat) (c : BoundsCode) (k : Nat), 0 ≤ x → x.toNat = k → k ≤ y → (Instr.sliceBound (.int q x) y c).run P w = .ok k w := by
    intro q x y c k h0 hk hy
    have hx : x ≤ (y : Int) := by omega
    simp [Instr.sliceBound, asIntOf, h0, hx, hk]
  unfold Instr.sliceBounds
  rcases hmx with ⟨rfl, rfl⟩ | ⟨q, x, rfl, hx0, hxk⟩
  · rcases hhi with ⟨rfl, rfl⟩ | ⟨q2, x2, rfl, hy0, hyk⟩
    · rcases hlo with ⟨rfl, rfl⟩ | ⟨q3, x3, rfl, hz0, hzk⟩
      · simp
      · simp [hb q3 x3 h _ l hz0 hzk h1]
    · rcases hlo with ⟨rfl, rfl⟩ | ⟨q3, x3, rfl, hz0, hzk⟩
      · simp [hb q2 x2 m _ h hy0 hyk h2]
      · simp [hb q2 x2 m _ h hy0 hyk h2, hb q3 x3 h _ l hz0 hzk h1]
  · rcases hhi with ⟨rfl, rfl⟩ | ⟨q2, x2, rfl, hy0, hyk⟩
    · rcases h4 with h4 | h4
      · cases h4
      · exact absurd rfl h4
    · rcases hlo with ⟨rfl, rfl⟩ | ⟨q3, x3, rfl, hz0, hzk⟩
      · simp [hb q x cap _ m hx0 hxk h3, hb q2 x2 m _ h hy0 hyk h2]
      · simp [hb q x cap _ m hx0 hxk h3, hb q2 x2 m _ h hy0 hyk h2, hb q3 x3 h _ l hz0 hzk h1]
theorem slice_calm (hX : TabOk P X) (h : Rep σ S H W B) {t : TypeId} {v v' r : Value} {lo hi mx lo' hi' mx' : Option Value} (hv : VR σ S v v')
    (hlo : lo.isSome = lo'.isSome ∧ ∀ u u', lo = some u → lo' = some u' → VR σ S u u') (hhi : hi.isSome = hi'.isSome ∧ ∀ u u', hi = some u → hi' = some u' → VR σ S u u')
    (hmx : mx.isSome = mx'.isSome ∧ ∀ u u', mx = some u → mx' = some u' → VR σ S u u') (ha : aslice X H t v lo hi mx = some r) : ∃ r', (Instr.sliceAt t v' lo' hi' mx').run P W = .ok r' W ∧ VR σ S r r' := by
  unfold aslice at ha
  simp only [Option.bind_eq_bind, Option.bind_eq_some_iff] at ha
  obtain ⟨d, h1, h2⟩ := ha
  split at h2
  case h_2 => cases h2
  rename_i e b off len cap
  simp only [Option.bind_eq_some_iff] at h2
  obtain ⟨it, h3, ⟨cs, el, g⟩, h4, l, h5, hh, h6, h7⟩ := h2
  obtain ⟨i, c', lo0, hi0, hs, _, _, _, hg, _, _, _, _, hbn⟩ := h.cells_ h4
  cases hv with
  | slice _ _ _ _ cap' a' hb hl hm hi2 =>
    obtain ⟨rfl, hcap⟩ := hi2 i hs
    have hL := natOf_vr h5 hlo.1 hlo.2
    have hHi := natOf_vr h6 hhi.1 hhi.2
    have hLr : (lo' = none ∧ l = 0) ∨ ∃ q x, lo' = some (.int q x) ∧ 0 ≤ x ∧ x.toNat = l := by
      rcases hL with ⟨_, a, b⟩ | ⟨q, x, _, a, b, c⟩
      · exact .inl ⟨a, b⟩
      · exact .inr ⟨q, x, a, b, c⟩
    have hHr : (hi' = none ∧ hh = len) ∨ ∃ q x, hi' = some (.int q x) ∧ 0 ≤ x ∧ x.toNat = hh := by
      rcases hHi with ⟨_, a, b⟩ | ⟨q, x, _, a, b, c⟩
      · exact .inl ⟨a, b⟩
      · exact .inr ⟨q, x, a, b, c⟩
    have e1 := hX.und t _ h1
    have e2 := hX.inf e it h3
    simp only at h7
    cases hgr : i.grow with
    | none =>
      rw [hgr] at hg
      simp only [Option.map_none] at hg
      subst hg
      simp only [capOk, hgr] at hcap
      subst hcap
      simp only [Option.bind_eq_some_iff] at h7
      obtain ⟨m, h8, h9⟩ := h7
      have hM := natOf_vr h8 hmx.1 hmx.2
      have hMr : (mx' = none ∧ m = cap') ∨ ∃ q x, mx' = some (.int q x) ∧ 0 ≤ x ∧ x.toNat = m := by
        rcases hM with ⟨_, a, b⟩ | ⟨q, x, _, a, b, c⟩
        · exact .inl ⟨a, b⟩
        · exact .inr ⟨q, x, a, b, c⟩
      cases hc : (Nat.ble l hh && Nat.ble hh m && Nat.ble m cap' && (mx.isNone || hi.isSome)) with
      | false => rw [hc] at h9; cases h9
      | true =>
        rw [hc] at h9
        injection h9 with h9
        subst h9
        simp only [Bool.and_eq_true, Nat.ble_eq, Bool.or_eq_true] at hc
        obtain ⟨⟨⟨k1, k2⟩, k3⟩, k4⟩ := hc
        have hrun := sliceBounds_run (P := P) (isS := true) (len := len) (cap := cap') hLr hHr hMr k1 k2 k3 (by
          rcases k4 with k4 | k4
          · left
            have : mx'.isSome = false := by rw [← hmx.1]; cases mx <;> simp_all
            cases mx' <;> simp_all
          · right
            rw [hhi.1] at k4
            cases hi' <;> simp_all) W
        refine ⟨.slice (some (if m = l then ⟨i.blk, i.base + off, none⟩ else (⟨i.blk, i.base + off, none⟩ : Addr).add (l * it.size))) (hh - l) (m - l), ?_,
          (.slice _ _ _ _ _ _ hb (by omega) (by omega) fun i2 hi3 => ?_)⟩
        · simp only [Instr.sliceAt, Instr.slice, Sem.run_bind, run_underlying e1, Result.andThen_ok, hrun, sizeOf, typeInfo, Sem.run_pure, program, Sem.run, e2]
          split <;> rfl
        · rw [hs] at hi3
          injection hi3 with hi3
          subst hi3
          refine ⟨?_, by simp [capOk, hgr]⟩
          by_cases hml : m = l
          · rw [if_pos hml, hml]
            simp
          · rw [if_neg hml]
            have : Nat.beq m l = false := by rw [Bool.eq_false_iff]; intro e; exact hml (by simpa using e)
            rw [this, Addr.add_mid, Nat.add_assoc]
            rfl
    | some q =>
      obtain ⟨s, tot⟩ := q
      rw [hgr] at hg
      simp only [Option.map_some] at hg
      subst hg
      simp only [capOk, hgr] at hcap
      simp only at h7
      cases hc : (mx.isNone && Nat.ble l hh && Nat.ble hh len && Nat.beq s it.size && (Nat.beq l 0 || Nat.blt l len)) with
      | false => rw [hc] at h7; cases h7
      | true =>
        rw [hc] at h7
        injection h7 with h7
        subst h7
        simp only [Bool.and_eq_true, Nat.ble_eq, Bool.or_eq_true, Nat.blt_eq] at hc
        obtain ⟨⟨⟨⟨k0, k1⟩, k2⟩, k3⟩, k4⟩ := hc
        have k3 : s = it.size := by simpa using k3
        subst k3
        have hmn : mx' = none := by
          have : mx'.isSome = false := by rw [← hmx.1]; cases mx <;> simp_all
          cases mx' <;> simp_all
        have hrun := sliceBounds_run (P := P) (isS := true) (len := len) (cap := cap') (mx := mx') hLr hHr (.inl ⟨hmn, rfl⟩) k1 (by omega) (Nat.le_refl _) (.inl hmn) W
        refine ⟨.slice (some (if cap' = l then ⟨i.blk, i.base + off, none⟩ else (⟨i.blk, i.base + off, none⟩ : Addr).add (l * it.size))) (hh - l) (cap' - l), ?_,
          (.slice _ _ _ _ _ _ hb (by omega) (by omega) fun i2 hi3 => ?_)⟩
        · simp only [Instr.sliceAt, Instr.slice, Sem.run_bind, run_underlying e1, Result.andThen_ok, hrun, sizeOf, typeInfo, Sem.run_pure, program, Sem.run, e2]
          split <;> rfl
        · rw [hs] at hi3
          injection hi3 with hi3
          subst hi3
          refine ⟨?_, ?_⟩
          · by_cases hml : cap' = l
            · have hl0 : l = 0 := by
                rcases k4 with k4 | k4
                · simpa using k4
                · omega
              rw [if_pos hml, hl0]
              simp
            · rw [if_neg hml, Addr.add_mid, Nat.add_assoc]
          · simp only [capOk, hgr]
            have h9 : (cap' - l) * it.size + l * it.size = cap' * it.size := by
              rw [← Nat.add_mul]
              congr 1
              omega
            omega
theorem slice_sound (hX : TabOk P X) (h : Rep σ S H W B) {t : TypeId} {v v' r : Value} {lo hi mx lo' hi' mx' : Option Value} (hv : VR σ S v v')
    (hlo : lo.isSome = lo'.isSome ∧ ∀ u u', lo = some u → lo' = some u' → VR σ S u u') (hhi : hi.isSome = hi'.isSome ∧ ∀ u u', hi = some u → hi' = some u' → VR σ S u u')
    (hmx : mx.isSome = mx'.isSome ∧ ∀ u u', mx = some u → mx' = some u' → VR σ S u u') (ha : aslice X H t v lo hi mx = some r) : Shows P σ S H W B (Instr.sliceAt t v' lo' hi' mx') r H := by
  obtain ⟨r', h1, h2⟩ := slice_calm hX h hv hlo hhi hmx ha
  exact Shows.pure_ h h1 h2
def alen (X : Tab) (H : AH) (t : TypeId) (v : Value) : Option Value := do
  let d ← X.und t
  match d, v with
  | .slice _, .slice (some _) n _ => some (.int .i64 n)
  | .map _ _, .map (some r) => match H.get r with
    | some (.map es _) => some (.int .i64 es.length)
    | _ => none
  | _, _ => none
theorem len_sound (hX : TabOk P X) (h : Rep σ S H W B) {t ty : TypeId} {v v' r : Value} (hv : VR σ S v v') (ha : alen X H t v = some r) : Shows P σ S H W B (Builtin.len_ #[t] ty #[v']) r H := by
  unfold alen at ha
  simp only [Option.bind_eq_bind, Option.bind_eq_some_iff] at ha
  obtain ⟨d, h1, h2⟩ := ha
  have e1 := hX.und t _ h1
  split at h2
  · injection h2 with h2
    subst h2
    cases hv with
    | slice _ _ _ _ cap' a' hb hl hm hi =>
      refine Shows.pure_ h ?_ (.int _ _)
      simp [Builtin.len_, run_underlying e1, goInt]
  · split at h2
    · rename_i b es clock hg
      injection h2 with h2
      subst h2
      cases hv with
      | map _ b' hb hi =>
        obtain ⟨_, i, hs, ⟨es', h3, h4, _⟩, _⟩ := h.live _ _ hg
        rw [hi i hs]
        refine Shows.pure_ h ?_ (.int _ _)
        simp [Builtin.len_, run_underlying e1, goInt, getObj, Sem.run, h3, h4]
    · cases h2
  · cases h2
def aextract (v : Value) (i : Nat) : Option Value := match v with
  | .tuple vs => vs.toList[i]?
  | _ => none
theorem extract_sound (h : Rep σ S H W B) {v v' r : Value} {i : Nat} (hv : VR σ S v v') (ha : aextract v i = some r) : Shows P σ S H W B (Instr.extract v' i) r H := by
  unfold aextract at ha
  split at ha
  · cases hv with
    | tuple _ cs' hc =>
      obtain ⟨r', h1, h2⟩ := hc.get ha
      rw [Array.getElem?_toList] at h1
      refine Shows.pure_ h (r' := r') ?_ h2
      simp [Instr.extract, h1]
  · cases ha
def amakeIface (X : Tab) (t : TypeId) (v : Value) : Option Value := do
  let d ← X.und t
  match d with
  | .interface _ => none
  | _ => some (.iface t v)
theorem makeIface_sound (hX : TabOk P X) (h : Rep σ S H W B) {t : TypeId} {v v' r : Value} (hv : VR σ S v v') (ha : amakeIface X t v = some r) : Shows P σ S H W B (Instr.makeInterface t v') r H := by
  unfold amakeIface at ha
  simp only [Option.bind_eq_bind, Option.bind_eq_some_iff] at ha
  obtain ⟨d, h1, h2⟩ := ha
  have e1 := hX.und t _ h1
  split at h2
  · cases h2
  · rename_i hd
    injection h2 with h2
    subst h2
    refine Shows.pure_ h (r' := .iface t v') ?_ (.iface _ _ _ hv)
    unfold Instr.makeInterface
    rw [Sem.run_bind, run_underlying e1]
    simp only [Result.andThen_ok]
    cases d <;> first
      | (exact absurd rfl (hd _))
      | rfl
/-- an assertion that holds, of a concrete type; with 'ok' also one that does not -/
def atypeAssert (X : Tab) (v : Value) (t : TypeId) (ok : Bool) : Option Value := do
  let d ← X.und t
  match d, v with
  | .interface _, _ => none
  | _, .iface u x => cond (Nat.beq u t) (some (cond ok (.tuple #[x, .bool true]) x)) (cond ok (do
      let i ← X.inf t
      let z ← i.zero
      cond (flatF 8 z) (some (.tuple #[z, .bool false])) none) none)
  | _, _ => none
theorem typeAssert_sound (hX : TabOk P X) (h : Rep σ S H W B) {t xt : TypeId} {v v' r : Value} {ok : Bool} (hv : VR σ S v v') (ha : atypeAssert X v t ok = some r) : Shows P σ S H W B (Instr.typeAssert v' xt t ok) r H := by
  unfold atypeAssert at ha
  simp only [Option.bind_eq_bind, Option.bind_eq_some_iff] at ha
  obtain ⟨d, h1, h2⟩ := ha
  have e1 := hX.und t _ h1
  split at h2
  · cases h2
  · rename_i u x hd
    cases hv with
    | iface _ _ x' hx =>
      cases hu : Nat.beq u t with
      | true =>
        rw [hu] at h2
        have hu' : u = t := by simpa using hu
        subst hu'
        simp only [cond_true] at h2
        injection h2 with h2
        subst h2
        cases ok with
        | true =>
          refine Shows.pure_ h (r' := .tuple #[x', .bool true]) ?_ (.tuple _ _ (.cons _ _ _ _ hx (.cons _ _ _ _ (.bool _) .nil)))
          unfold Instr.typeAssert
          rw [Sem.run_bind, run_underlying e1]
          simp only [Result.andThen_ok]
          cases d <;> first
            | (exact absurd rfl (hd _))
            | simp
        | false =>
          refine Shows.pure_ h (r' := x') ?_ hx
          unfold Instr.typeAssert
          rw [Sem.run_bind, run_underlying e1]
          simp only [Result.andThen_ok]
          cases d <;> first
            | (exact absurd rfl (hd _))
            | simp
      | false =>
        rw [hu] at h2
        have hu' : ¬ u = t := by intro e; rw [e] at hu; simp at hu
        simp only [cond_false] at h2
        cases ok with
        | false => cases h2
        | true =>
          simp only [cond_true, Option.bind_eq_some_iff] at h2
          obtain ⟨it, h3, z, h4, h5⟩ := h2
          cases hf : flatF 8 z with
          | false => rw [hf] at h5; cases h5
          | true =>
            rw [hf] at h5
            injection h5 with h5
            subst h5
            have e2 := hX.inf _ _ h3
            refine Shows.pure_ h (r' := .tuple #[z, .bool false]) ?_ (.tuple _ _ (.cons _ _ _ _ (VR.flat 8 z hf) (.cons _ _ _ _ (.bool _) .nil)))
            unfold Instr.typeAssert
            rw [Sem.run_bind, run_underlying e1]
            simp only [Result.andThen_ok]
            cases d <;> first
              | (exact absurd rfl (hd _))
              | simp [hu', zeroValue, typeInfo, e2, h4]
  · cases h2
end
end
end Go.Proofs.YtnckhmfajjcgpaaGreatDoor.Ev
