/- Loads, stores and places: abstract, and what they say of the real run. -/
import Derived.Test.YtfnamalajmfjbaaGreatDoorEvHeap
import Derived.Deep.MidRow
import Derived.Deep.AppendSrc
import GoSem.Extern.MapsClone
set_option linter.unusedVariables false
set_option linter.unusedSimpArgs false
namespace Go.Proofs.YtfnamalajmfjbaaGreatDoor.Ev
noncomputable section
/-- functions of Go's library without a body -/
inductive ExtF where
  | clone
  | plain (g : Array Value → Sem Value)
def extFn : ExtF → Array Value → Sem Value
  | .clone => Extern.MapsClone.clone
  | .plain g => g
structure Tab where
  und : TypeId → Option TypeDesc
  inf : TypeId → Option TypeInfo
  fn : FuncId → Option Func
  ext : FuncId → Option ExtF
structure TabOk (P : Program) (X : Tab) : Prop where
  und : ∀ t d, X.und t = some d → P.underlying t = some d
  inf : ∀ t i, X.inf t = some i → P.info? t = some i
  fn : ∀ f d, X.fn f = some d → P.funcs[f]? = some d ∧ ∀ args w, (callFunc f args).run P w = .ok (.enter f args) w
  ext : ∀ f x, X.ext f = some x → ∀ args w, (callFunc f args).run P w = (do pure (.value (← extFn x args)) : Sem Next).run P w
def addrOf : Value → Option (Nat × Nat)
  | .pointer (some ⟨b, off, none⟩) => some (b, off)
  | _ => none
theorem addrOf_vr {σ : Ren} {n : Ids} {v v' : Value} {b off : Nat} (h : addrOf v = some (b, off)) (r : VR σ n v v') : ∃ a', v' = .pointer (some a') ∧ n b ∧ ∀ i, σ b = some i → a' = ⟨i.blk, i.base + off, none⟩ := by
  unfold addrOf at h
  split at h
  · injection h with h
    injection h with h1 h2
    subst h1 h2
    cases r with
    | ptr b off a' hb h => exact ⟨a', rfl, hb, h⟩
  · cases h
def cellsAt (H : AH) (b : Nat) : Option (List Value × TypeId × Option Nat) := match H.get b with
  | some (.cells cs e g) => some (cs, e, g)
  | _ => none
theorem cellsAt_get {H : AH} {b : Nat} {cs : List Value} {e : TypeId} {g : Option Nat} (h : cellsAt H b = some (cs, e, g)) : H.get b = some (.cells cs e g) := by
  unfold cellsAt at h
  split at h
  · rename_i x y z hg
    injection h with h
    injection h with h1 h2
    injection h2 with h2 h3
    subst h1 h2 h3
    exact hg
  · cases h
theorem cell_of {W : World} {b : Nat} {c : Array Value} {e : TypeId} {fz : Nat × Nat} (h : W.heap[b]? = some (.cells c e fz)) (j : Nat) : W.cell? ⟨b, j, none⟩ = c[j]? := by
  simp [World.cell?, h]
theorem frozen_of {W : World} {b : Nat} {c : Array Value} {e : TypeId} {lo hi : Nat} (h : W.heap[b]? = some (.cells c e (lo, hi))) {j : Nat} (hj : ¬ (lo ≤ j ∧ j < hi)) : W.frozen? ⟨b, j, none⟩ = false := by
  simp [World.frozen?, h]
  omega
/-- cells of an abstract block, as they lie in the real one -/
theorem Rep.cells_ {σ : Ren} {S : Ids} {H : AH} {W : World} {B b : Nat} {cs : List Value} {e : TypeId} {g : Option Nat} (h : Rep σ S H W B) (hc : cellsAt H b = some (cs, e, g)) :
    ∃ (i : Inf) (c' : Array Value) (lo hi : Nat), σ b = some i ∧ W.heap[i.blk]? = some (.cells c' e (lo, hi)) ∧ (∀ (j : Nat) (v : Value), cs[j]? = some v → ∃ v', c'[i.base + j]? = some v' ∧ VR σ S v v') ∧
      (∀ j, j < c'.size → ¬ (lo ≤ j ∧ j < hi)) ∧ g = i.grow.map Prod.fst ∧ i.base + cs.length ≤ c'.size ∧ (i.grow = none → i.base = 0 ∧ c'.size = cs.length) ∧ (∀ s tot, i.grow = some (s, tot) → c'.size = tot) ∧ B ≤ i.blk ∧ S b := by
  obtain ⟨h0, i, hi, ho, hB⟩ := h.live b _ (cellsAt_get hc)
  obtain ⟨c', lo, hi', h1, h2, h3, h4, h5, h6, h7⟩ := ho
  exact ⟨i, c', lo, hi', hi, h1, h2, h3, h4, h5, h6, h7, hB, h0⟩
/-- a range of an abstract block reads in the real one -/
theorem range_real {σ : Ren} {n : Ids} {cs : List Value} {c' : Array Value} {base off m : Nat} (h : ∀ (j : Nat) (v : Value), cs[j]? = some v → ∃ v', c'[base + j]? = some v' ∧ VR σ n v v') (hl : ((cs.drop off).take m).length = m) :
    ∃ rs : List Value, rs.length = m ∧ VRs σ n ((cs.drop off).take m) rs ∧ ∀ (j : Nat) (v : Value), rs[j]? = some v → c'[base + off + j]? = some v := by
  have hm : ∀ j, j < m → off + j < cs.length := by
    intro j hj
    rw [List.length_take, List.length_drop] at hl
    omega
  have hget : ∀ j v, ((c'.toList.drop (base + off)).take m)[j]? = some v → c'[base + off + j]? = some v := by
    intro j v hv
    rw [List.getElem?_take] at hv
    split at hv
    · rw [List.getElem?_drop] at hv
      rw [← Array.getElem?_toList]
      exact hv
    · cases hv
  have hlen : ((c'.toList.drop (base + off)).take m).length = m := by
    rcases Nat.eq_zero_or_pos m with h0 | h0
    · subst h0; simp
    · have h1 := hm (m - 1) (by omega)
      obtain ⟨v', h2, _⟩ := h (off + (m - 1)) _ (List.getElem?_eq_getElem h1)
      have h3 := (Array.getElem?_eq_some_iff.1 h2).1
      rw [List.length_take, List.length_drop, Array.length_toList]
      omega
  refine ⟨_, hlen, VRs.of_get (by rw [hl, hlen]) fun j v v' hv hv' => ?_, hget⟩
  have hj : j < m := by have := (List.getElem?_eq_some_iff.1 hv).1; rw [hl] at this; exact this
  rw [List.getElem?_take, if_pos hj, List.getElem?_drop] at hv
  obtain ⟨u, hu, r⟩ := h _ _ hv
  have := hget j v' hv'
  rw [show base + off + j = base + (off + j) from by omega, hu] at this
  injection this with this
  rw [← this]
  exact r
def aload (X : Tab) (H : AH) (t : TypeId) (v : Value) : Option Value := do
  let (b, off) ← addrOf v
  let (cs, _, _) ← cellsAt H b
  let d ← X.und t
  cond d.isRow (do
    let i ← X.inf t
    cond (Nat.beq ((cs.drop off).take i.size).length i.size) (some (.agg ((cs.drop off).take i.size).toArray)) none)
    cs[off]?
section
variable {P : Program} {X : Tab} {σ : Ren} {S : Ids} {H : AH} {W : World} {B : Nat}
theorem isAgg_run (hX : TabOk P X) {t : TypeId} {d : TypeDesc} (h : X.und t = some d) (w : World) : (isAgg t).run P w = .ok d.isRow w := by
  unfold isAgg
  rw [Sem.run_bind, run_underlying (hX.und t d h) w]
  cases d <;> rfl
theorem loadVar_sound (hX : TabOk P X) (h : Rep σ S H W B) {t : TypeId} {v v' r : Value} (hr : VR σ S v v') (ha : aload X H t v = some r) :
    ∃ a' r', v' = .pointer (some a') ∧ (loadVar t a').run P W = .ok r' W ∧ VR σ S r r' := by
  unfold aload at ha
  simp only [Option.bind_eq_bind, Option.bind_eq_some_iff] at ha
  obtain ⟨⟨b, off⟩, h1, ⟨cs, e, g⟩, h2, d, h3, h4⟩ := ha
  obtain ⟨a', rfl, hb, hi⟩ := addrOf_vr h1 hr
  obtain ⟨i, c', lo, hi', hs, hh, hcs, _⟩ := h.cells_ h2
  have ha' := hi i hs
  subst ha'
  refine ⟨⟨i.blk, i.base + off, none⟩, ?_⟩
  cases hd : d.isRow with
  | true =>
    simp only [hd, cond_true, Option.bind_eq_bind, Option.bind_eq_some_iff] at h4
    obtain ⟨it, h5, h6⟩ := h4
    cases hl : Nat.beq ((cs.drop off).take it.size).length it.size with
    | false => rw [hl] at h6; cases h6
    | true =>
      rw [hl] at h6
      injection h6 with h6
      subst h6
      have hl2 : ((cs.drop off).take it.size).length = it.size := by simpa using hl
      obtain ⟨rs, h7, h8, h9⟩ := range_real hcs hl2
      refine ⟨.agg rs.toArray, rfl, ?_, .agg _ _ (by simpa using h8)⟩
      exact run_loadVar_mid W i.blk (i.base + off) t rs d (fun j u hu => by rw [cell_of hh]; exact h9 j u hu) (hX.und t d h3) hd (by rw [hX.inf t it h5, h7]; rfl)
  | false =>
    simp only [hd, cond_false] at h4
    obtain ⟨r', h5, h6⟩ := hcs _ _ h4
    refine ⟨r', rfl, ?_, h6⟩
    unfold loadVar
    rw [Sem.run_bind, isAgg_run hX h3 W, hd]
    simp [cell_of hh, h5]
theorem load_sound (hX : TabOk P X) (h : Rep σ S H W B) {t : TypeId} {v v' r : Value} (hr : VR σ S v v') (ha : aload X H t v = some r) :
    ∃ r', (Instr.loadAt t v').run P W = .ok r' W ∧ VR σ S r r' := by
  obtain ⟨a', r', rfl, h1, h2⟩ := loadVar_sound hX h hr ha
  refine ⟨r', ?_, h2⟩
  simp only [Instr.loadAt, Instr.sureAddr, Sem.run_bind, Sem.run_pure, Result.andThen_ok, h1]
/-- write these from there on -/
def wr (cs vs : List Value) (off : Nat) : List Value := cs.take off ++ vs ++ cs.drop (off + vs.length)
def one (v : Value) : Bool := match v with
  | .agg _ => false
  | .tuple _ => false
  | _ => true
theorem one_vr {σ : Ren} {n : Ids} {v v' : Value} (h : VR σ n v v') : v'.oneCell' = one v := by
  cases h <;> rfl
theorem wr_length (cs vs : List Value) (off : Nat) (h : off + vs.length ≤ cs.length) : (wr cs vs off).length = cs.length := by
  simp [wr]
  omega
theorem wr_get (cs vs : List Value) (off : Nat) (h : off + vs.length ≤ cs.length) (j : Nat) : (wr cs vs off)[j]? = if off ≤ j ∧ j < off + vs.length then vs[j - off]? else cs[j]? := by
  unfold wr
  split
  · rename_i hj
    rw [List.append_assoc, List.getElem?_append_right (by simp; omega), List.getElem?_append_left (by simp; omega)]
    congr 1
    simp
    omega
  · rename_i hj
    rcases Nat.lt_or_ge j off with h1 | h1
    · rw [List.append_assoc, List.getElem?_append_left (by simp; omega), List.getElem?_take, if_pos h1]
    · rw [List.getElem?_append_right (by simp; omega), List.getElem?_drop]
      congr 1
      simp
      omega
/-- cells written in one block of the real heap -/
theorem setCells_heap {W : World} {b : Nat} {c : Array Value} {e : TypeId} {fz : Nat × Nat} (vs : List Value) : ∀ (W : World) (c : Array Value) (off : Nat), W.heap[b]? = some (.cells c e fz) → off + vs.length ≤ c.size →
    ∃ c2 : Array Value, (W.setCells b off vs).heap[b]? = some (.cells c2 e fz) ∧ c2.size = c.size ∧ (∀ j, c2[j]? = if off ≤ j ∧ j < off + vs.length then vs[j - off]? else c[j]?) ∧ (∀ k, k ≠ b → (W.setCells b off vs).heap[k]? = W.heap[k]?) ∧
      (W.setCells b off vs).heap.size = W.heap.size ∧ (W.setCells b off vs).os = W.os ∧ (W.setCells b off vs).tape = W.tape ∧ (W.setCells b off vs).output = W.output := by
  induction vs with
  | nil => exact fun W c off h _ => ⟨c, h, rfl, fun j => by rw [if_neg (by simp only [List.length_nil]; omega)], fun _ _ => rfl, rfl, rfl, rfl, rfl⟩
  | cons v vs ih =>
    intro W c off h hl
    simp only [List.length_cons] at hl
    have h1 : (W.setCell ⟨b, off, none⟩ v).heap[b]? = some (.cells (c.setIfInBounds off v) e fz) := by
      simp [World.setCell, Array.getElem?_modify, h]
    obtain ⟨c2, g1, g2, g3, g4, g5, g6, g7, g8⟩ := ih (W.setCell ⟨b, off, none⟩ v) (c.setIfInBounds off v) (off + 1) h1 (by simp; omega)
    refine ⟨c2, g1, by rw [g2]; simp, fun j => ?_, fun k hk => (g4 k hk).trans (Go.RowKit.Below.heap_setCell W _ v k (by simpa using hk)), by rw [World.setCells, g5]; simp [World.setCell], by rw [World.setCells, g6]; rfl, by rw [World.setCells, g7]; rfl, by rw [World.setCells, g8]; rfl⟩
    rw [g3]
    by_cases hj : j = off
    · subst hj
      rw [if_neg (by omega), if_pos ⟨Nat.le_refl _, by simp⟩, Array.getElem?_setIfInBounds, if_pos rfl, if_pos (by omega)]
      simp
    · rw [Array.getElem?_setIfInBounds_ne (Ne.symm hj)]
      by_cases h2 : off + 1 ≤ j ∧ j < off + 1 + vs.length
      · rw [if_pos h2, if_pos (by simp; omega)]
        rw [show j - off = (j - (off + 1)) + 1 from by omega]
        simp
      · rw [if_neg h2, if_neg (by simp; omega)]
/-- the abstract write of a range, and the real one -/
theorem Rep.write (h : Rep σ S H W B) {b off : Nat} {cs vs vs' : List Value} {e : TypeId} {g : Option Nat} (hc : cellsAt H b = some (cs, e, g)) (hl : off + vs.length ≤ cs.length) (hv : VRs σ S vs vs') (hb : b < 16777215) :
    ∃ i, σ b = some i ∧ (∀ j, j < vs'.length → (W.cell? ⟨i.blk, i.base + off + j, none⟩).isSome = true) ∧ (∀ j, j < vs'.length → W.frozen? ⟨i.blk, i.base + off + j, none⟩ = false) ∧
      Rep σ S (H.put b (.cells (wr cs vs off) e g)) (W.setCells i.blk (i.base + off) vs') B ∧ Evo σ S W σ S (W.setCells i.blk (i.base + off) vs') := by
  obtain ⟨i, c', lo, hi, hs, hh, hcs, hfz, hg, hlen, hex, hgr, hB, hbn⟩ := h.cells_ hc
  have hvl := hv.length
  obtain ⟨c2, g1, g2, g3, g4, g5, g6, g7, g8⟩ := setCells_heap (b := i.blk) (e := e) (fz := (lo, hi)) (W := W) (c := c') vs' W c' (i.base + off) hh (by omega)
  have hrep := h.put_ (o' := .cells (wr cs vs off) e g) (cellsAt_get hc) hs hb g5 g4 g6 g7 g8 ⟨c2, lo, hi, g1, fun j v hj => ?_, by rw [g2]; exact hfz, hg, by rw [wr_length _ _ _ hl, g2]; exact hlen, fun hn => by rw [wr_length _ _ _ hl, g2]; exact hex hn, fun s tot hst => by rw [g2]; exact hgr s tot hst⟩
  · exact ⟨i, hs, fun j hj => by rw [cell_of hh, Array.getElem?_eq_getElem (by omega)]; rfl, fun j hj => frozen_of hh (hfz _ (by omega)), hrep.1, hrep.2⟩
  · rw [wr_get _ _ _ hl] at hj
    rw [g3]
    split at hj
    · rename_i h1
      rw [if_pos (by omega)]
      obtain ⟨u, h2, h3⟩ := hv.get hj
      exact ⟨u, by rw [← h2]; congr 1; omega, h3⟩
    · rename_i h1
      rw [if_neg (by omega)]
      exact hcs j v hj
def astore (X : Tab) (H : AH) (t : TypeId) (p v : Value) : Option AH := do
  let (b, off) ← addrOf p
  let (cs, e, g) ← cellsAt H b
  let i ← X.inf t
  cond (Nat.beq v.cells.toList.length i.size && v.cells.toList.all one && Nat.ble (off + i.size) cs.length && Nat.blt b 16777215) (some (H.put b (.cells (wr cs v.cells.toList off) e g))) none
theorem store_sound (hX : TabOk P X) (h : Rep σ S H W B) {t : TypeId} {p p' v v' : Value} {H' : AH} (hp : VR σ S p p') (hv : VR σ S v v') (ha : astore X H t p v = some H') :
    ∃ W', (Instr.storeAt t p' v').run P W = .ok () W' ∧ Rep σ S H' W' B ∧ Evo σ S W σ S W' ∧ H'.next = H.next := by
  unfold astore at ha
  simp only [Option.bind_eq_bind, Option.bind_eq_some_iff] at ha
  obtain ⟨⟨b, off⟩, h1, ⟨cs, e, g⟩, h2, it, h3, h4⟩ := ha
  obtain ⟨a', rfl, hb, hi⟩ := addrOf_vr h1 hp
  cases hcd : (Nat.beq v.cells.toList.length it.size && v.cells.toList.all one && Nat.ble (off + it.size) cs.length && Nat.blt b 16777215) with
  | false => simp only [hcd] at h4; cases h4
  | true =>
    simp only [hcd, cond_true] at h4
    injection h4 with h4
    subst h4
    simp only [Bool.and_eq_true, Nat.blt_eq, Nat.ble_eq, Nat.beq_eq] at hcd
    obtain ⟨⟨⟨k1, k2⟩, k3⟩, k4⟩ := hcd
    have k1 : v.cells.toList.length = it.size := by simpa using k1
    have hvs := hv.cells
    have hvl := hvs.length
    obtain ⟨i, hs, w1, w2, w3, w4⟩ := h.write h2 (by rw [k1]; exact k3) hvs k4
    have ha' := hi i hs
    subst ha'
    refine ⟨_, ?_, w3, w4, rfl⟩
    have hone : ∀ u ∈ v'.cells.toList, u.oneCell' = true := by
      intro u hu
      obtain ⟨j, hj, rfl⟩ := List.getElem_of_mem hu
      have hj2 : j < v.cells.toList.length := by omega
      obtain ⟨u', e1, e2⟩ := hvs.get (List.getElem?_eq_getElem hj2)
      rw [List.getElem?_eq_getElem hj] at e1
      injection e1 with e1
      rw [e1, one_vr e2]
      exact List.all_eq_true.1 k2 _ (List.getElem_mem _)
    have hst := run_storeCells_cells (P := P) i.blk (i.base + off) v'.cells.toList 0 W (by simpa using w1) (by simpa using w2) hone
    have hsz : v'.cells.size = it.size := by
      rw [← Array.length_toList]
      omega
    simp only [Nat.add_zero] at hst
    simp [Instr.storeAt, Instr.sureAddr, storeVar, sizeOf, typeInfo, hX.inf t it h3, hsz, hst]
end
end
end Go.Proofs.YtfnamalajmfjbaaGreatDoor.Ev
