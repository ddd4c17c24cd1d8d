/- Places and parts: abstract, and what they say of the real run. -/
import Derived.Test.YtfnamalajmfjbaaGreatDoorEvParts
set_option linter.unusedVariables false
set_option linter.unusedSimpArgs false
namespace Go.Proofs.YtfnamalajmfjbaaGreatDoor.Ev
noncomputable section
section
variable {P : Program} {X : Tab} {σ : Ren} {S : Ids} {H : AH} {W : World} {B : Nat}
def afieldAddr (X : Tab) (t : TypeId) (v : Value) (f : Nat) : Option Value := do
  let d ← X.und t
  match d with
  | .struct fields => do
    let fl ← fields[f]?
    let i ← X.inf fl.type
    let (b, off) ← addrOf v
    cond (Nat.beq i.size 0) none (some (.pointer (some ⟨b, off + fl.offset, none⟩)))
  | _ => none
theorem ptr_add {b off k : Nat} {a' : Addr} (hb : S b) (hi : ∀ i, σ b = some i → a' = ⟨i.blk, i.base + off, none⟩) : VR σ S (.pointer (some ⟨b, off + k, none⟩)) (.pointer (some (a'.add k))) :=
  .ptr _ _ _ hb fun i h => by rw [hi i h, Addr.add_mid, Nat.add_assoc]
theorem fieldAddr_sound (hX : TabOk P X) (h : Rep σ S H W B) {t : TypeId} {v v' r : Value} {f : Nat} (hv : VR σ S v v') (ha : afieldAddr X t v f = some r) : Shows P σ S H W B (Instr.fieldAt t v' f) r H := by
  unfold afieldAddr at ha
  simp only [Option.bind_eq_bind, Option.bind_eq_some_iff] at ha
  obtain ⟨d, h1, h2⟩ := ha
  split at h2
  case h_2 => cases h2
  rename_i fields
  simp only [Option.bind_eq_some_iff] at h2
  obtain ⟨fl, h3, it, h4, ⟨b, off⟩, h5, h6⟩ := h2
  cases hz : Nat.beq it.size 0 with
  | true => rw [hz] at h6; cases h6
  | false =>
    rw [hz] at h6
    injection h6 with h6
    subst h6
    obtain ⟨a', rfl, hb, hi⟩ := addrOf_vr h5 hv
    refine Shows.pure_ h (r' := .pointer (some (a'.add fl.offset))) ?_ (ptr_add hb hi)
    have hz' : ¬ it.size = 0 := by intro e; rw [e] at hz; simp at hz
    simp [Instr.fieldAt, run_underlying (hX.und t _ h1), h3, Instr.sureAddr, fieldPlace, sizeOf, typeInfo, hX.inf _ _ h4, hz']
def intOf? : Value → Option (IntKind × Int)
  | .int k n => some (k, n)
  | _ => none
theorem intOf_vr {σ : Ren} {n : Ids} {v v' : Value} {k : IntKind} {x : Int} (h : intOf? v = some (k, x)) (r : VR σ n v v') : v = .int k x ∧ v' = .int k x := by
  unfold intOf? at h
  split at h
  · injection h with h
    injection h with h1 h2
    subst h1 h2
    cases r
    exact ⟨rfl, rfl⟩
  · cases h
def aindexAddr (X : Tab) (t : TypeId) (v ix : Value) : Option Value := do
  let d ← X.und t
  let (_, n) ← intOf? ix
  match d, v with
  | .slice e, .slice (some ⟨b, off, none⟩) len _ => do
    let i ← X.inf e
    cond (decide (0 ≤ n) && decide (n < (len : Int))) (some (.pointer (some ⟨b, off + n.toNat * i.size, none⟩))) none
  | .array len e, .pointer (some ⟨b, off, none⟩) => do
    let i ← X.inf e
    cond (decide (0 ≤ n) && decide (n < (len : Int))) (some (.pointer (some ⟨b, off + n.toNat * i.size, none⟩))) none
  | _, _ => none
theorem indexAddr_sound (hX : TabOk P X) (h : Rep σ S H W B) {t : TypeId} {v v' ix ix' r : Value} (hv : VR σ S v v') (hx : VR σ S ix ix') (ha : aindexAddr X t v ix = some r) : Shows P σ S H W B (Instr.indexAt t v' ix') r H := by
  unfold aindexAddr at ha
  simp only [Option.bind_eq_bind, Option.bind_eq_some_iff] at ha
  obtain ⟨d, h1, ⟨k, n⟩, h2, h3⟩ := ha
  obtain ⟨rfl, rfl⟩ := intOf_vr h2 hx
  split at h3
  · rename_i e b off len cap
    simp only [Option.bind_eq_some_iff] at h3
    obtain ⟨it, h4, h5⟩ := h3
    cases hc : (decide (0 ≤ n) && decide (n < (len : Int))) with
    | false => rw [hc] at h5; cases h5
    | true =>
      rw [hc] at h5
      injection h5 with h5
      subst h5
      simp only [Bool.and_eq_true, decide_eq_true_eq] at hc
      cases hv with
      | slice _ _ _ _ cap' a' hb hl hm hi =>
        refine Shows.pure_ h (r' := .pointer (some (a'.add (n.toNat * it.size)))) ?_ (ptr_add hb fun i e => (hi i e).1)
        simp [Instr.indexAt, asIntOf, run_underlying (hX.und t _ h1), hc.1, hc.2, sizeOf, typeInfo, hX.inf _ _ h4]
  · rename_i len e b off
    simp only [Option.bind_eq_some_iff] at h3
    obtain ⟨it, h4, h5⟩ := h3
    cases hc : (decide (0 ≤ n) && decide (n < (len : Int))) with
    | false => rw [hc] at h5; cases h5
    | true =>
      rw [hc] at h5
      injection h5 with h5
      subst h5
      simp only [Bool.and_eq_true, decide_eq_true_eq] at hc
      cases hv with
      | ptr _ _ a' hb hi =>
        refine Shows.pure_ h (r' := .pointer (some (a'.add (n.toNat * it.size)))) ?_ (ptr_add hb hi)
        simp [Instr.indexAt, asIntOf, run_underlying (hX.und t _ h1), hc.1, hc.2, sizeOf, typeInfo, hX.inf _ _ h4, Instr.sureAddr]
  · cases h3
/-- a part of a value's cells -/
def apart (X : Tab) (t : TypeId) (cs : List Value) (off : Nat) : Option Value := do
  let d ← X.und t
  cond d.isRow (do
    let i ← X.inf t
    some (.agg ((cs.drop off).take i.size).toArray))
    cs[off]?
theorem part_sound (hX : TabOk P X) {n : Ids} {t : TypeId} {cs cs' : Array Value} {off : Nat} {r : Value} (hc : VRs σ n cs.toList cs'.toList) (ha : apart X t cs.toList off = some r) (w : World) :
    ∃ r', (part t cs' off).run P w = .ok r' w ∧ VR σ n r r' := by
  unfold apart at ha
  simp only [Option.bind_eq_bind, Option.bind_eq_some_iff] at ha
  obtain ⟨d, h1, h2⟩ := ha
  have hag := isAgg_run (P := P) hX h1 w
  cases hd : d.isRow with
  | true =>
    rw [hd] at h2 hag
    simp only [cond_true, Option.bind_eq_some_iff] at h2
    obtain ⟨it, h3, h4⟩ := h2
    injection h4 with h4
    subst h4
    refine ⟨.agg (cs'.extract off (off + it.size)), ?_, .agg _ _ ?_⟩
    · simp [part, Sem.run_bind, hag, sizeOf, typeInfo, hX.inf _ _ h3]
    · have : (cs'.extract off (off + it.size)).toList = (cs'.toList.drop off).take it.size := by
        rw [Array.toList_extract]
        simp [List.extract_eq_take_drop]
      rw [this]
      exact (hc.drop off).take it.size
  | false =>
    rw [hd] at h2 hag
    simp only [cond_false] at h2
    obtain ⟨r', h3, h4⟩ := hc.get h2
    rw [Array.getElem?_toList] at h3
    refine ⟨r', ?_, h4⟩
    simp [part, Sem.run_bind, hag, h3]
def afield (X : Tab) (t : TypeId) (v : Value) (f : Nat) : Option Value := do
  let d ← X.und t
  match d, v with
  | .struct fields, .agg cs => do
    let fl ← fields[f]?
    apart X fl.type cs.toList fl.offset
  | _, _ => none
theorem field_sound (hX : TabOk P X) (h : Rep σ S H W B) {t : TypeId} {v v' r : Value} {f : Nat} (hv : VR σ S v v') (ha : afield X t v f = some r) : Shows P σ S H W B (Instr.field t v' f) r H := by
  unfold afield at ha
  simp only [Option.bind_eq_bind, Option.bind_eq_some_iff] at ha
  obtain ⟨d, h1, h2⟩ := ha
  split at h2
  case h_2 => cases h2
  rename_i fields cs
  simp only [Option.bind_eq_some_iff] at h2
  obtain ⟨fl, h3, h4⟩ := h2
  cases hv with
  | agg _ cs' hc =>
    obtain ⟨r', h5, h6⟩ := part_sound hX hc h4 W
    refine Shows.pure_ h (r' := r') ?_ h6
    simp [Instr.field, run_underlying (hX.und t _ h1), h3, asAgg, h5]
def aindex (X : Tab) (t : TypeId) (v ix : Value) : Option Value := do
  let d ← X.und t
  let (_, n) ← intOf? ix
  match d, v with
  | .array len e, .agg cs => do
    let i ← X.inf e
    cond (decide (0 ≤ n) && decide (n < (len : Int))) (apart X e cs.toList (n.toNat * i.size)) none
  | _, _ => none
theorem index_sound (hX : TabOk P X) (h : Rep σ S H W B) {t : TypeId} {v v' ix ix' r : Value} (hv : VR σ S v v') (hx : VR σ S ix ix') (ha : aindex X t v ix = some r) : Shows P σ S H W B (Instr.index t v' ix') r H := by
  unfold aindex at ha
  simp only [Option.bind_eq_bind, Option.bind_eq_some_iff] at ha
  obtain ⟨d, h1, ⟨k, n⟩, h2, h3⟩ := ha
  obtain ⟨rfl, rfl⟩ := intOf_vr h2 hx
  split at h3
  case h_2 => cases h3
  rename_i len e cs
  simp only [Option.bind_eq_some_iff] at h3
  obtain ⟨it, h4, h5⟩ := h3
  cases hc : (decide (0 ≤ n) && decide (n < (len : Int))) with
  | false => rw [hc] at h5; cases h5
  | true =>
    rw [hc] at h5
    simp only [Bool.and_eq_true, decide_eq_true_eq] at hc
    cases hv with
    | agg _ cs' hcs =>
      obtain ⟨r', h6, h7⟩ := part_sound hX hcs h5 W
      refine Shows.pure_ h (r' := r') ?_ h7
      simp [Instr.index, asIntOf, run_underlying (hX.und t _ h1), hc.1, hc.2, sizeOf, typeInfo, hX.inf _ _ h4, h6]
/-- bounds of a slicing -/
def natOf? : Option Value → Nat → Option Nat
  | none, dflt => some dflt
  | some (.int _ n), _ => cond (decide (0 ≤ n)) (some n.toNat) none
  | _, _ => none
def aslice (X : Tab) (H : AH) (t : TypeId) (v : Value) (lo hi : Option Value) (mx : Option Value) : Option Value := do
  let d ← X.und t
  match d, v with
  | .slice e, .slice (some ⟨b, off, none⟩) len cap => do
    let it ← X.inf e
    let (_, _, g) ← cellsAt H b
    let l ← natOf? lo 0
    let h ← natOf? hi len
    match g with
    | none => do
      let m ← natOf? mx cap
      cond (Nat.ble l h && Nat.ble h m && Nat.ble m cap && (mx.isNone || hi.isSome)) (some (.slice (some ⟨b, cond (Nat.beq m l) off (off + l * it.size), none⟩) (h - l) (m - l))) none
    | some s => cond (mx.isNone && Nat.ble l h && Nat.ble h len && Nat.beq s it.size && (Nat.beq l 0 || Nat.blt l len)) (some (.slice (some ⟨b, off + l * it.size, none⟩) (h - l) 0)) none
  | _, _ => none
theorem natOf_vr {σ : Ren} {n : Ids} {o o' : Option Value} {dflt k : Nat} (h : natOf? o dflt = some k) (hs : o.isSome = o'.isSome) (hr : ∀ v v', o = some v → o' = some v' → VR σ n v v') :
    (o = none ∧ o' = none ∧ k = dflt) ∨ ∃ q x, o = some (.int q x) ∧ o' = some (.int q x) ∧ 0 ≤ x ∧ x.toNat = k := by
  unfold natOf? at h
  split at h
  · injection h with h
    cases o' with
    | none => exact .inl ⟨rfl, rfl, h.symm⟩
    | some v => simp at hs
  · rename_i q x
    cases o' with
    | none => simp at hs
    | some v' =>
      have := hr _ _ rfl rfl
      cases this
      cases hd : decide (0 ≤ x) with
      | false => rw [hd] at h; cases h
      | true =>
        rw [hd] at h
        injection h with h
        exact .inr ⟨q, x, rfl, rfl, by simpa using hd, h⟩
  · cases h
end
end
end Go.Proofs.YtfnamalajmfjbaaGreatDoor.Ev
