/- Entries, deleting, copying, making slices: abstract, and what they say of the real run. -/
import Derived.Test.YtfnamalajmfjbaaGreatDoorEvMisc2
set_option linter.unusedVariables false
set_option linter.unusedSimpArgs false
namespace Go.Proofs.YtfnamalajmfjbaaGreatDoor.Ev
noncomputable section
open Go.MapKept
section
variable {P : Program} {X : Tab} {σ : Ren} {S : Ids} {H : AH} {W : World} {B : Nat}
def aentry (H : AH) (it : Value) : Option Value := do
  let (b, off) ← addrOf it
  cond (Nat.beq off 0) (match H.get b with
    | some (.mit (some m) _ seen stepped) => match H.get m with
      | some (.map es clock) => do
        let stamp ← seen.getLast?
        let e ← es.find? fun e => e.born == stamp
        cond (Nat.beq clock stepped) (some (.tuple #[e.key, e.val])) none
      | _ => none
    | _ => none) none
theorem entry_sound (h : Rep σ S H W B) {it it' r : Value} (hi : VR σ S it it') (ha : aentry H it = some r) : Shows P σ S H W B (Instr.entry it') r H := by
  unfold aentry at ha
  simp only [Option.bind_eq_bind, Option.bind_eq_some_iff] at ha
  obtain ⟨⟨b, off⟩, h1, h2⟩ := ha
  simp only at h2
  cases h0 : Nat.beq off 0 with
  | false => rw [h0] at h2; cases h2
  | true =>
    rw [h0] at h2
    have hoff : off = 0 := by simpa using h0
    subst hoff
    simp only [cond_true] at h2
    obtain ⟨a', rfl, hb, hi2⟩ := addrOf_vr h1 hi
    split at h2
    case h_2 => cases h2
    rename_i m since seen stepped hg
    split at h2
    case h_2 => cases h2
    rename_i es clock hgm
    simp only [Option.bind_eq_some_iff] at h2
    obtain ⟨stamp, h3, e, h4, h5⟩ := h2
    cases hc : Nat.beq clock stepped with
    | false => rw [hc] at h5; cases h5
    | true =>
      rw [hc] at h5
      injection h5 with h5
      subst h5
      have hcs : clock = stepped := by simpa using hc
      subst hcs
      obtain ⟨_, i, hs, ⟨m', g1, g2, g3⟩, _⟩ := h.live _ _ hg
      have ha' := hi2 i hs
      rw [g3] at ha'
      subst ha'
      obtain ⟨_, im, hsm, ⟨es', q1, q2, q3⟩, _⟩ := h.live _ _ hgm
      have hrel : ERs σ S es es'.toList := ⟨by simpa using q2, fun j e he => by obtain ⟨e', a, b⟩ := q3 j e he; exact ⟨e', by simpa using a, b⟩⟩
      cases g2 with
      | map _ mb hmb hmi =>
        have := hmi im hsm
        subst this
        obtain ⟨e', k1, k2⟩ := ERs.find (fun k => k == stamp) es es'.toList e hrel h4
        have hback : seen.toArray.back? = some stamp := by simpa using h3
        have hf : es'.find? (fun e => e.born == stamp) = some e' := by rw [← Array.find?_toList]; exact k1
        refine Shows.pure_ h (r' := .tuple #[e'.key, e'.val]) ?_ (.tuple _ _ (.cons _ _ _ _ (by rw [k2.1]; exact VR.flat 8 _ k2.2.1) (.cons _ _ _ _ k2.2.2.2 .nil)))
        simp [Instr.entry, getObj, Sem.run, g1, q1, hback, hf]
def adelete (X : Tab) (H : AH) (t : TypeId) (m k : Value) : Option (Value × AH) := do
  let d ← X.und t
  match d, m with
  | .map kt _, .map (some r) => do
    let kd ← X.und kt
    match H.get r with
    | some (.map es clock) => do
      let f ← Instr.findNow kd k es 0
      cond (keyB kd k && flatF 8 k && Nat.blt r 16777215) (some (.tuple #[], H.put r (.map (match f with | some (i, _) => es.eraseIdx i | none => es) clock))) none
    | _ => none
  | _, _ => none
theorem delete_sound (hX : TabOk P X) (h : Rep σ S H W B) {t t2 ty : TypeId} {m m' k k' r : Value} {H' : AH} (hm : VR σ S m m') (hk : VR σ S k k') (ha : adelete X H t m k = some (r, H')) :
    Shows P σ S H W B (Builtin.delete_ #[t, t2] ty #[m', k']) r H' := by
  unfold adelete at ha
  simp only [Option.bind_eq_bind, Option.bind_eq_some_iff] at ha
  obtain ⟨d, h1, h2⟩ := ha
  split at h2
  case h_2 => cases h2
  rename_i kt et b
  simp only [Option.bind_eq_some_iff] at h2
  obtain ⟨kd, h3, h4⟩ := h2
  split at h4
  case h_2 => cases h4
  rename_i es clock hg
  simp only [Option.bind_eq_some_iff] at h4
  obtain ⟨f, h5, h6⟩ := h4
  cases hc : (keyB kd k && flatF 8 k && Nat.blt b 16777215) with
  | false => rw [hc] at h6; cases h6
  | true =>
    rw [hc] at h6
    injection h6 with h6
    injection h6 with h6 h7
    subst h6 h7
    simp only [Bool.and_eq_true, Nat.blt_eq] at hc
    obtain ⟨⟨c1, c2⟩, c3⟩ := hc
    have hkk := flat_same hk c2
    subst hkk
    cases hm with
    | map _ b' hb hi =>
      obtain ⟨_, i, hs, ⟨es', g1, g2, g3⟩, _⟩ := h.live _ _ hg
      rw [hi i hs]
      have e1 := hX.und t _ h1
      have hrel : ERs σ S es es'.toList := ⟨by simpa using g2, fun j e he => by obtain ⟨e', a, b⟩ := g3 j e he; exact ⟨e', by simpa using a, b⟩⟩
      have hck := fun e => checkKey_run (P := P) hX h3 c1 e W
      rcases findNow_rel es es'.toList 0 f hrel h5 with ⟨rfl, q2⟩ | ⟨j, e, e', rfl, q3, q4, q5, q6, q7⟩
      · have hfk := run_findKey (P := P) (w := W) (hX.und kt kd h3) q2
        have hp := put_map (es2 := es) (es2' := es') (clock2 := clock) h hg hs c3 g1 hrel
        exact ⟨σ, S, _, .tuple #[], by simp [Builtin.delete_, run_underlying e1, MapKept.run_getObj_map g1, hck, hfk, run_setObj_map _ g1], hp.1, hp.2, .tuple _ _ .nil, Taken.refl _ _⟩
      · have hfk := run_findKey (P := P) (w := W) (hX.und kt kd h3) q7
        simp only [Nat.zero_add] at hfk
        have hjl : j < es'.size := by
          have := (List.getElem?_eq_some_iff.1 q4).1
          simpa using this
        have hel : (es'.eraseIdxIfInBounds j).toList = es'.toList.eraseIdx j := by
          unfold Array.eraseIdxIfInBounds
          rw [dif_pos hjl, Array.toList_eraseIdx]
        have hp := put_map (es2 := es.eraseIdx j) (es2' := es'.eraseIdxIfInBounds j) (clock2 := clock) h hg hs c3 g1 (by
          rw [hel]
          have hj1 : j < es.length := (List.getElem?_eq_some_iff.1 q3).1
          refine ⟨by rw [List.length_eraseIdx, List.length_eraseIdx, if_pos hj1, if_pos (by simpa using hjl), hrel.1], fun k x hx => ?_⟩
          rw [List.getElem?_eraseIdx] at hx ⊢
          split at hx
          · rename_i hlt
            rw [if_pos hlt]
            exact hrel.2 k x hx
          · rename_i hge
            rw [if_neg hge]
            exact hrel.2 (k + 1) x hx)
        refine ⟨σ, S, { W with heap := W.heap.setIfInBounds i.blk (.map (es'.eraseIdxIfInBounds j) clock) }, .tuple #[], ?_, by simpa using hp.1, hp.2, .tuple _ _ .nil, Taken.refl _ _⟩
        simp [Builtin.delete_, run_underlying e1, MapKept.run_getObj_map g1, hck, hfk, run_setObj_map _ g1]
def acopy (X : Tab) (H : AH) (dT : TypeId) (d s : Value) : Option (Value × AH) := do
  let dd ← X.und dT
  match dd, d, s with
  | .slice e, .slice (some ⟨b, off, none⟩) dl _, .slice (some ⟨b2, off2, none⟩) sl _ => do
    let it ← X.inf e
    let (cs, el, g) ← cellsAt H b
    let (cs2, _, _) ← cellsAt H b2
    cond (Nat.beq ((cs2.drop off2).take (Nat.min sl dl * it.size)).length (Nat.min sl dl * it.size) && ((cs2.drop off2).take (Nat.min sl dl * it.size)).all one && Nat.ble (off + ((cs2.drop off2).take (Nat.min sl dl * it.size)).length) cs.length && Nat.blt b 16777215)
      (some (.int .i64 (Nat.min sl dl), H.put b (.cells (wr cs ((cs2.drop off2).take (Nat.min sl dl * it.size)) off) el g))) none
  | _, _, _ => none
theorem copy_sound (hX : TabOk P X) (h : Rep σ S H W B) {dT sT ty : TypeId} {d d' s s' r : Value} {H' : AH} (hd : VR σ S d d') (hs : VR σ S s s') (ha : acopy X H dT d s = some (r, H')) :
    Shows P σ S H W B (Builtin.copy_ #[dT, sT] ty #[d', s']) r H' := by
  unfold acopy at ha
  simp only [Option.bind_eq_bind, Option.bind_eq_some_iff] at ha
  obtain ⟨dd, h1, h2⟩ := ha
  split at h2
  case h_2 => cases h2
  rename_i e b off dl cap b2 off2 sl cap2
  simp only [Option.bind_eq_some_iff] at h2
  obtain ⟨it, h3, ⟨cs, el, g⟩, h4, ⟨cs2, el2, g2⟩, h5, h6⟩ := h2
  simp only at h6
  cases hc : (Nat.beq ((cs2.drop off2).take (Nat.min sl dl * it.size)).length (Nat.min sl dl * it.size) && ((cs2.drop off2).take (Nat.min sl dl * it.size)).all one && Nat.ble (off + ((cs2.drop off2).take (Nat.min sl dl * it.size)).length) cs.length && Nat.blt b 16777215) with
  | false => rw [hc] at h6; cases h6
  | true =>
    rw [hc] at h6
    simp only [cond_true] at h6
    injection h6 with h6
    injection h6 with h6 h7
    subst h6 h7
    simp only [Bool.and_eq_true, Nat.ble_eq, Nat.blt_eq, List.all_eq_true] at hc
    obtain ⟨⟨⟨c1, c2⟩, c3⟩, c4⟩ := hc
    have c1 : ((cs2.drop off2).take (Nat.min sl dl * it.size)).length = Nat.min sl dl * it.size := by simpa using c1
    cases hd with
    | slice _ _ _ _ dcap' da' hdb hdl hdm hdi =>
      cases hs with
      | slice _ _ _ _ scap' sa' hsb hsl hsm hsi =>
        obtain ⟨i2, c', lo, hi', hs2, hh2, hcs2, _⟩ := h.cells_ h5
        obtain ⟨rfl, _⟩ := hsi i2 hs2
        obtain ⟨rs, k1, k2, k3⟩ := range_real hcs2 c1
        obtain ⟨i, hsb2, w1, w2, w3, w4⟩ := h.write h4 c3 k2 c4
        obtain ⟨rfl, _⟩ := hdi i hsb2
        have hone : ∀ u ∈ rs, u.oneCell' = true := by
          intro u hu
          obtain ⟨j, hj, rfl⟩ := List.getElem_of_mem hu
          obtain ⟨u', g1, g2⟩ := k2.get (List.getElem?_eq_getElem (by rw [k2.length]; exact hj))
          rw [List.getElem?_eq_getElem hj] at g1
          injection g1 with g1
          rw [g1, one_vr g2]
          exact c2 _ (List.getElem_mem _)
        have hl := run_loadCells_list (P := P) W ⟨i2.blk, i2.base + off2, none⟩ rs (fun j u hu => by rw [Addr.add_mid, cell_of hh2]; exact k3 j u hu)
        rw [k1] at hl
        have hst := run_storeCells_cells (P := P) i.blk (i.base + off) rs 0 W (by simpa using w1) (by simpa using w2) hone
        simp only [Nat.add_zero] at hst
        refine ⟨σ, S, _, .int .i64 (Nat.min sl dl), ?_, w3, w4, .int _ _, Taken.refl _ _⟩
        simp [Builtin.copy_, run_underlying (hX.und dT _ h1), Builtin.lenOf, Builtin.firstCells, sizeOf, typeInfo, hX.inf e it h3, hl, hst, goInt]
def lenS : Value → Option Nat
  | .slice _ n _ => some n
  | _ => none
def acopy0 (X : Tab) (H : AH) (dT : TypeId) (d s : Value) : Option (Value × AH) := do
  let dd ← X.und dT
  match dd with
  | .slice e => do
    let _ ← X.inf e
    let dl ← lenS d
    let sl ← lenS s
    cond (Nat.beq (Nat.min sl dl) 0) (some (.int .i64 0, H)) none
  | _ => none
theorem lenS_vr {n : Ids} {v v' : Value} {k : Nat} (h : lenS v = some k) (r : VR σ n v v') : ∃ a c, v' = .slice a k c := by
  unfold lenS at h
  split at h
  · injection h with h
    subst h
    cases r with
    | sliceNil => exact ⟨none, 0, rfl⟩
    | slice _ _ _ _ cap' a' _ _ _ _ => exact ⟨some a', cap', rfl⟩
  · cases h
theorem copy0_sound (hX : TabOk P X) (h : Rep σ S H W B) {dT sT ty : TypeId} {d d' s s' r : Value} {H' : AH} (hd : VR σ S d d') (hs : VR σ S s s') (ha : acopy0 X H dT d s = some (r, H')) :
    Shows P σ S H W B (Builtin.copy_ #[dT, sT] ty #[d', s']) r H' := by
  unfold acopy0 at ha
  simp only [Option.bind_eq_bind, Option.bind_eq_some_iff] at ha
  obtain ⟨dd, h1, h2⟩ := ha
  split at h2
  case h_2 => cases h2
  rename_i e
  simp only [Option.bind_eq_some_iff] at h2
  obtain ⟨it, h3, dl, h4, sl, h5, h6⟩ := h2
  cases hc : Nat.beq (Nat.min sl dl) 0 with
  | false => rw [hc] at h6; cases h6
  | true =>
    rw [hc] at h6
    injection h6 with h6
    injection h6 with h6 h7
    subst h6 h7
    obtain ⟨a, c, rfl⟩ := lenS_vr h4 hd
    obtain ⟨a2, c2, rfl⟩ := lenS_vr h5 hs
    have h0 : Nat.min sl dl = 0 := by simpa using hc
    refine Shows.pure_ h (r' := .int .i64 0) ?_ (.int _ _)
    cases a <;> cases a2 <;> simp [Builtin.copy_, run_underlying (hX.und dT _ h1), Builtin.lenOf, Builtin.firstCells, sizeOf, typeInfo, hX.inf e it h3, h0, loadCells, loadCellsFrom, storeCells, goInt]
def amakeSlice (X : Tab) (H : AH) (t : TypeId) (l c : Value) : Option (Value × AH) := do
  let d ← X.und t
  let (_, ln) ← intOf? l
  let (_, cn) ← intOf? c
  match d with
  | .slice e => do
    let it ← X.inf e
    let z ← it.zero
    cond (decide (0 ≤ ln) && decide (ln ≤ cn) && decide (cn ≤ 1048576) && Nat.ble it.bytes 1048576 && flatF 8 z) (do
      let (id, H') ← H.new (.cells (madeCells z.cells (cn.toNat * it.size)).toList e none)
      some (.slice (some ⟨id, 0, none⟩) ln.toNat cn.toNat, H')) none
  | _ => none
theorem makeSlice_sound (hX : TabOk P X) (h : Rep σ S H W B) (hfree : ¬ S H.next) (hB : B ≤ W.heap.size) {t : TypeId} {l l' c c' r : Value} {H' : AH} (hl : VR σ S l l') (hc : VR σ S c c') (ha : amakeSlice X H t l c = some (r, H')) :
    Shows P σ S H W B (Instr.makeSlice t l' c') r H' := by
  unfold amakeSlice at ha
  simp only [Option.bind_eq_bind, Option.bind_eq_some_iff] at ha
  obtain ⟨d, h1, ⟨kl, ln⟩, h2, ⟨kc, cn⟩, h3, h4⟩ := ha
  obtain ⟨rfl, rfl⟩ := intOf_vr h2 hl
  obtain ⟨rfl, rfl⟩ := intOf_vr h3 hc
  split at h4
  case h_2 => cases h4
  rename_i e
  simp only [Option.bind_eq_some_iff] at h4
  obtain ⟨it, h5, z, h6, h7⟩ := h4
  cases hcd : (decide (0 ≤ ln) && decide (ln ≤ cn) && decide (cn ≤ 1048576) && Nat.ble it.bytes 1048576 && flatF 8 z) with
  | false => rw [hcd] at h7; cases h7
  | true =>
    rw [hcd] at h7
    simp only [cond_true, Option.bind_eq_some_iff] at h7
    obtain ⟨⟨id, H1⟩, h8, h9⟩ := h7
    injection h9 with h9
    injection h9 with h9 h10
    subst h9 h10
    simp only [Bool.and_eq_true, decide_eq_true_eq, Nat.ble_eq] at hcd
    obtain ⟨⟨⟨⟨c1, c2⟩, c3⟩, c4⟩, c5⟩ := hcd
    have hb : (it.bytes : Int) * cn ≤ 281474976710656 := by
      have h11 : it.bytes * cn.toNat ≤ 1048576 * 1048576 := Nat.mul_le_mul c4 (by omega)
      have h12 : ((it.bytes * cn.toNat : Nat) : Int) = (it.bytes : Int) * cn := by
        rw [Int.natCast_mul, Int.toNat_of_nonneg (by omega)]
      omega
    have hrun := run_make (P := P) W t e it z (hX.und t _ h1) (hX.inf e it h5) h6 kl kc ln cn c1 c2 hb (by omega)
    have hzv := zeros_vr (σ := σ) (n := S) c5 (c := z.cells) (.inr rfl) (cn.toNat * it.size)
    obtain ⟨σ', S', k1, k2, k3, k4, k5⟩ := h.newCells hfree hB h8 (vs' := (madeCells z.cells (cn.toNat * it.size)).toList) hzv
    refine ⟨σ', S', W.alloc (.cells (madeCells z.cells (cn.toNat * it.size)) e), _, hrun, by simpa using k2, by simpa using k3, .slice _ _ _ _ _ _ k4 (by omega) (by simp [maxLen]; omega) fun i hi => (by rw [k1] at hi; injection hi with hi; subst hi; exact ⟨rfl, rfl⟩), k5⟩
def aclone (H : AH) (vs : List Value) : Option (Value × AH) := match vs with
  | [.iface t (.map (some r))] => match H.get r with
    | some (.map es clock) => do
      let (id, H') ← H.new (.map es clock)
      some (.iface t (.map (some id)), H')
    | _ => none
  | _ => none
theorem clone_sound (h : Rep σ S H W B) (hfree : ¬ S H.next) (hB : B ≤ W.heap.size) {vs : List Value} {vs' : Array Value} {r : Value} {H' : AH} (hv : VRs σ S vs vs'.toList) (ha : aclone H vs = some (r, H')) : Shows P σ S H W B (Extern.MapsClone.clone vs') r H' := by
  unfold aclone at ha
  split at ha
  case h_2 => cases ha
  rename_i t b
  split at ha
  case h_2 => cases ha
  rename_i es clock hg
  simp only [Option.bind_eq_bind, Option.bind_eq_some_iff] at ha
  obtain ⟨⟨id, H1⟩, h1, h2⟩ := ha
  injection h2 with h2
  injection h2 with h2 h3
  subst h2 h3
  obtain ⟨l, hl⟩ : ∃ l, vs'.toList = l := ⟨_, rfl⟩
  have hvs : vs' = l.toArray := by cases vs'; simpa using hl
  rw [hl] at hv
  subst hvs
  cases hv with
  | cons _ v' _ l' hv ht =>
    cases ht
    cases hv with
    | iface _ _ u' hu =>
      cases hu with
      | map _ b' hb hi =>
        obtain ⟨_, i, hs, ⟨es', g1, g2, g3⟩, _⟩ := h.live _ _ hg
        have := hi i hs
        subst this
        obtain ⟨σ', k1, k2, k3, rfl, k6⟩ := h.new_ hfree h1 (ob := .map es' clock) (k := 0) hB fun σ' hσ => ⟨es', Go.heap_alloc_new W _, g2, fun j e he => by
          obtain ⟨e', a, b⟩ := g3 j e he
          exact ⟨e', a, b.1, b.2.1, b.2.2.1, b.2.2.2.ext hσ⟩⟩
        have k5 : Taken S H.next (more S H.next) H1.next := by rw [k6]; exact taken_more _ _
        refine ⟨σ', _, W.alloc (.map es' clock), .iface t (.map (some W.heap.size)), ?_, k2, k3, .iface _ _ _ (.map _ _ (.inr rfl) fun i hi => (by rw [k1] at hi; injection hi with hi; subst hi; rfl)), k5⟩
        have hcl : Extern.MapsClone.clone [Value.iface t (.map (some i.blk))].toArray = (do
          let .map entries clock ← getObj i.blk | stuck "maps.clone: a map expected"
          pure (.iface t (.map (some (← newObj (.map entries clock)))))) := rfl
        rw [hcl]
        simp [getObj, Sem.run, g1]
end
end
end Go.Proofs.YtfnamalajmfjbaaGreatDoor.Ev
