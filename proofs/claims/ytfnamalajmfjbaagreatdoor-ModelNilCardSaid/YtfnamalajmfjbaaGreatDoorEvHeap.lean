/- The abstract heap, and what it is to stand for a real one. -/
import Derived.Test.YtfnamalajmfjbaaGreatDoorEvRel
import Derived.Deep.Draws
import Derived.Laws.Rows
set_option linter.unusedVariables false
set_option linter.unusedSimpArgs false
namespace Go.Proofs.YtfnamalajmfjbaaGreatDoor.Ev
noncomputable section
inductive AObj where
  | cells (cs : List Value) (elem : TypeId) (grow : Option Nat)
  | map (es : List MapEntry) (clock : Nat)
  | sit (s : ByteArray) (pos : Nat)
  | mit (m : Option Nat) (since : Nat) (seen : List Nat) (stepped : Nat)
structure AH where
  next : Nat
  tab : T AObj
def AH.get (H : AH) (id : Nat) : Option AObj := H.tab.get id
def AH.put (H : AH) (id : Nat) (o : AObj) : AH := ⟨H.next, H.tab.set id (some o)⟩
def AH.kill (H : AH) (id : Nat) : AH := ⟨H.next, H.tab.set id none⟩
/-- a new block; too many: nothing -/
def AH.new (H : AH) (o : AObj) : Option (Nat × AH) := match Nat.ble H.next 16000000 with
  | true => some (H.next, ⟨H.next + 1, H.tab.set H.next (some o)⟩)
  | false => none
def ERel (σ : Ren) (n : Nat → Prop) (e e' : MapEntry) : Prop := e'.key = e.key ∧ flatF 8 e.key = true ∧ e'.born = e.born ∧ VR σ n e.val e'.val
def ORel (σ : Ren) (n : Nat → Prop) (W : World) (i : Inf) : AObj → Prop
  | .cells cs elem g => ∃ (c' : Array Value) (lo hi : Nat), W.heap[i.blk]? = some (.cells c' elem (lo, hi)) ∧ (∀ (j : Nat) (v : Value), cs[j]? = some v → ∃ v', c'[i.base + j]? = some v' ∧ VR σ n v v') ∧
      (∀ j, j < c'.size → ¬ (lo ≤ j ∧ j < hi)) ∧ g = i.grow.map Prod.fst ∧ i.base + cs.length ≤ c'.size ∧ (i.grow = none → i.base = 0 ∧ c'.size = cs.length) ∧ (∀ s tot, i.grow = some (s, tot) → c'.size = tot)
  | .map es clock => ∃ es' : Array MapEntry, W.heap[i.blk]? = some (.map es' clock) ∧ es.length = es'.size ∧ ∀ (j : Nat) (e : MapEntry), es[j]? = some e → ∃ e', es'[j]? = some e' ∧ ERel σ n e e'
  | .sit s pos => W.heap[i.blk]? = some (.stringIter s pos) ∧ i.base = 0
  | .mit m since seen stepped => ∃ m', W.heap[i.blk]? = some (.mapIter m' since seen.toArray stepped) ∧ VR σ n (.map m) (.map m') ∧ i.base = 0
theorem ORel.same {σ : Ren} {n : Nat → Prop} {W W' : World} {i : Inf} {o : AObj} (h : ORel σ n W i o) (hb : W'.heap[i.blk]? = W.heap[i.blk]?) : ORel σ n W' i o := by
  cases o <;> simp only [ORel, hb] <;> exact h
theorem ORel.ext {σ σ' : Ren} {n n' : Nat → Prop} {W : World} {i : Inf} {o : AObj} (e : Ext σ n σ' n') (h : ORel σ n W i o) : ORel σ' n' W i o := by
  cases o with
  | cells cs elem g =>
    obtain ⟨c', lo, hi, h1, h2, h3⟩ := h
    exact ⟨c', lo, hi, h1, fun j v hv => by obtain ⟨v', a, b⟩ := h2 j v hv; exact ⟨v', a, b.ext e⟩, h3⟩
  | map es clock =>
    obtain ⟨es', h1, h2, h3⟩ := h
    exact ⟨es', h1, h2, fun j x hx => by obtain ⟨x', a, b, c, d, f⟩ := h3 j x hx; exact ⟨x', a, b, c, d, f.ext e⟩⟩
  | sit s pos => exact h
  | mit m since seen stepped =>
    obtain ⟨m', h1, h2, h3⟩ := h
    exact ⟨m', h1, h2.ext e, h3⟩
theorem ORel.lt {σ : Ren} {n : Nat → Prop} {W : World} {i : Inf} {o : AObj} (h : ORel σ n W i o) : i.blk < W.heap.size := by
  have : ∃ x, W.heap[i.blk]? = some x := by
    cases o <;> simp only [ORel] at h
    · obtain ⟨c', lo, hi, h1, _⟩ := h; exact ⟨_, h1⟩
    · obtain ⟨c', h1, _⟩ := h; exact ⟨_, h1⟩
    · exact ⟨_, h.1⟩
    · obtain ⟨c', h1, _⟩ := h; exact ⟨_, h1⟩
  obtain ⟨x, hx⟩ := this
  exact (Array.getElem?_eq_some_iff.1 hx).1
abbrev Ids := Nat → Prop
structure Rep (σ : Ren) (S : Ids) (H : AH) (W : World) (B : Nat) : Prop where
  live : ∀ id o, H.get id = some o → S id ∧ ∃ i, σ id = some i ∧ ORel σ S W i o ∧ B ≤ i.blk
  dead : ∀ id, H.get id = none → σ id = none
  inj : ∀ id id' i i', σ id = some i → σ id' = some i' → i.blk = i'.blk → id = id'
/-- from one moment to a later one -/
structure Evo (σ : Ren) (S : Ids) (W : World) (σ' : Ren) (S' : Ids) (W' : World) : Prop where
  ext : Ext σ S σ' S'
  new : ∀ id i, ¬ S id → σ' id = some i → W.heap.size ≤ i.blk ∨ ∃ id0 i0, σ id0 = some i0 ∧ i0.blk = i.blk
  size : W.heap.size ≤ W'.heap.size
  frame : ∀ b, b < W.heap.size → (∀ id i, σ id = some i → i.blk ≠ b) → W'.heap[b]? = W.heap[b]?
  os : W'.os = W.os
  tape : W'.tape = W.tape
  output : W'.output = W.output
/-- the numbers taken between two heaps -/
def Taken (S : Ids) (n : Nat) (S' : Ids) (n' : Nat) : Prop := n ≤ n' ∧ ∀ b, S' b → S b ∨ (n ≤ b ∧ b < n')
theorem Taken.refl (S : Ids) (n : Nat) : Taken S n S n := ⟨Nat.le_refl _, fun b h => .inl h⟩
theorem Taken.trans {S S' S'' : Ids} {n n' n'' : Nat} (h : Taken S n S' n') (k : Taken S' n' S'' n'') : Taken S n S'' n'' := by
  refine ⟨Nat.le_trans h.1 k.1, fun b hb => ?_⟩
  have h1 := h.1
  have k1 := k.1
  rcases k.2 b hb with h2 | h2
  · rcases h.2 b h2 with h3 | h3
    · exact .inl h3
    · exact .inr ⟨h3.1, by omega⟩
  · exact .inr ⟨by omega, h2.2⟩
/-- no number from there on is taken -/
def Free (S : Ids) (n : Nat) : Prop := ∀ b, n ≤ b → ¬ S b
theorem Free.taken {S S' : Ids} {n n' : Nat} (h : Free S n) (t : Taken S n S' n') : Free S' n' := by
  intro b hb hs
  rcases t.2 b hs with h1 | h1
  · exact h b (Nat.le_trans t.1 hb) h1
  · omega
theorem Evo.refl (σ : Ren) (S : Ids) (W : World) (hn : ∀ id i, σ id = some i → S id) : Evo σ S W σ S W :=
  ⟨Ext.refl _ _, fun id i hi e => absurd (hn id i e) hi, Nat.le_refl _, fun _ _ _ => rfl, rfl, rfl, rfl⟩
theorem Evo.trans {σ σ' σ'' : Ren} {n n' n'' : Ids} {W W' W'' : World} (h : Evo σ n W σ' n' W') (k : Evo σ' n' W' σ'' n'' W'') : Evo σ n W σ'' n'' W'' := by
  refine ⟨h.ext.trans k.ext, fun id i hi e => ?_, Nat.le_trans h.size k.size, fun b hb hf => ?_, k.os.trans h.os, k.tape.trans h.tape, k.output.trans h.output⟩
  · by_cases h1 : n' id
    · exact h.new id i hi (k.ext.old id i h1 e)
    · rcases k.new id i h1 e with h2 | ⟨id0, i0, h2, h3⟩
      · exact .inl (Nat.le_trans h.size h2)
      · by_cases h4 : n id0
        · exact .inr ⟨id0, i0, h.ext.old id0 i0 h4 h2, h3⟩
        · rcases h.new id0 i0 h4 h2 with h5 | ⟨id1, i1, h5, h6⟩
          · exact .inl (by omega)
          · exact .inr ⟨id1, i1, h5, h6.trans h3⟩
  · refine (k.frame b (Nat.lt_of_lt_of_le hb h.size) fun id i e hbi => ?_).trans (h.frame b hb hf)
    by_cases h4 : n id
    · exact hf id i (h.ext.old id i h4 e) hbi
    · rcases h.new id i h4 e with h5 | ⟨id1, i1, h5, h6⟩
      · omega
      · exact hf id1 i1 h5 (h6.trans hbi)
section
variable {σ : Ren} {S : Ids} {H : AH} {W : World} {B : Nat}
theorem Rep.dom (h : Rep σ S H W B) {id : Nat} {i : Inf} (e : σ id = some i) : S id := by
  cases hg : H.get id with
  | none => rw [h.dead id hg] at e; cases e
  | some o => exact (h.live id o hg).1
theorem Rep.refl (h : Rep σ S H W B) : Evo σ S W σ S W := Evo.refl _ _ _ fun _ _ e => h.dom e
theorem Rep.at_ (h : Rep σ S H W B) {id : Nat} {i : Inf} (e : σ id = some i) : ∃ o, H.get id = some o ∧ ORel σ S W i o ∧ B ≤ i.blk := by
  cases hg : H.get id with
  | none => rw [h.dead id hg] at e; cases e
  | some o =>
    obtain ⟨_, i', e', h1, h2⟩ := h.live id o hg
    rw [e] at e'
    injection e' with e'
    subst e'
    exact ⟨o, rfl, h1, h2⟩
/-- the same heap at a world with the same blocks -/
theorem Rep.world (h : Rep σ S H W B) {W' : World} (hb : ∀ b, b < W.heap.size → W'.heap[b]? = W.heap[b]?) : Rep σ S H W' B :=
  ⟨fun id o hg => by
    obtain ⟨h0, i, e, h1, h2⟩ := h.live id o hg
    exact ⟨h0, i, e, h1.same (hb _ h1.lt), h2⟩, h.dead, h.inj⟩
theorem Rep.drewN (h : Rep σ S H W B) (k : Nat) : Rep σ S H (W.drewN k) B := h.world fun _ _ => rfl
theorem Evo.drew {σ' : Ren} {n n' : Ids} {W' : World} (h : Evo σ n W σ' n' W') (k : Nat) : Evo σ n W σ' n' (W'.drewN k) := ⟨h.ext, h.new, h.size, h.frame, h.os, h.tape, h.output⟩
/-- one block turns -/
theorem Rep.put_ (h : Rep σ S H W B) {W' : World} {id : Nat} {i : Inf} {o o' : AObj} (hg : H.get id = some o) (e : σ id = some i) (hid : id < 16777215)
    (hs : W'.heap.size = W.heap.size) (hb : ∀ b, b ≠ i.blk → W'.heap[b]? = W.heap[b]?) (hos : W'.os = W.os) (ht : W'.tape = W.tape) (hout : W'.output = W.output) (ho : ORel σ S W' i o') :
    Rep σ S (H.put id o') W' B ∧ Evo σ S W σ S W' := by
  refine ⟨⟨fun id2 o2 hg2 => ?_, fun id2 hg2 => ?_, h.inj⟩, ⟨Ext.refl _ _, fun id2 i2 hi2 e2 => absurd (h.dom e2) hi2, by omega, fun b _ hf => hb b (fun eb => hf id i e eb.symm), hos, ht, hout⟩⟩
  · simp only [AH.get, AH.put] at hg2
    rw [T.get_set _ _ _ _ hid] at hg2
    split at hg2
    · rename_i e2
      subst e2
      injection hg2 with hg2
      subst hg2
      obtain ⟨h0, i', e', _, h2⟩ := h.live _ _ hg
      rw [e] at e'
      injection e' with e'
      subst e'
      exact ⟨h0, i, e, ho, h2⟩
    · rename_i hne
      obtain ⟨h0, i', e', h1, h2⟩ := h.live _ _ hg2
      exact ⟨h0, i', e', h1.same (hb _ fun eb => hne (h.inj _ _ _ _ e' e eb)), h2⟩
  · simp only [AH.get, AH.put] at hg2
    rw [T.get_set _ _ _ _ hid] at hg2
    split at hg2
    · cases hg2
    · exact h.dead _ hg2
/-- one number more -/
def more (S : Ids) (id : Nat) : Ids := fun b => S b ∨ b = id
theorem taken_more (S : Ids) (n : Nat) : Taken S n (more S n) (n + 1) := ⟨by omega, fun b hb => by
  rcases hb with hb | hb
  · exact .inl hb
  · exact .inr (by omega)⟩
/-- a block that is killed, and a new one -/
theorem Rep.turn (h : Rep σ S H W B) (hfree : ¬ S H.next) (kb : Option Nat) (iN : Inf) {o : AObj} {W' : World} {id' : Nat} {H' : AH} (hn : (match kb with | some b => H.kill b | none => H).new o = some (id', H')) (hkb : ∀ b, kb = some b → b ≠ H.next ∧ b < 16777215)
    (hfresh : W.heap.size ≤ iN.blk ∨ ∃ b i, kb = some b ∧ σ b = some i ∧ iN.blk = i.blk) (hB : B ≤ iN.blk) (hheap : ∀ k, k ≠ iN.blk → k < W.heap.size → W'.heap[k]? = W.heap[k]?)
    (hsize : W.heap.size ≤ W'.heap.size) (hos : W'.os = W.os) (ht : W'.tape = W.tape) (hout : W'.output = W.output) (ho : ∀ σ', Ext σ S σ' (more S H.next) → ORel σ' (more S H.next) W' iN o) :
    ∃ σ', σ' id' = some iN ∧ Rep σ' (more S H.next) H' W' B ∧ Evo σ S W σ' (more S H.next) W' ∧ id' = H.next ∧ H'.next = H.next + 1 := by
  have hnx : (match kb with | some b => H.kill b | none => H).next = H.next := by cases kb <;> rfl
  unfold AH.new at hn
  split at hn
  case h_2 => cases hn
  rename_i hle
  rw [hnx] at hle hn
  have hle2 : H.next ≤ 16000000 := by simpa using hle
  injection hn with hn
  injection hn with h1 h2
  subst h1 h2
  have htab : ∀ j, j ≠ H.next → (match kb with | some b => H.kill b | none => H).tab.get j = if kb = some j then none else H.get j := by
    intro j hj
    cases kb with
    | none => simp [AH.get]
    | some b =>
      simp only [AH.kill, AH.get]
      rw [T.get_set _ _ _ _ (hkb b rfl).2]
      by_cases e : j = b
      · subst e; simp
      · rw [if_neg e, if_neg (by intro h; injection h with h; exact e h.symm)]
  have hext : Ext σ S (fun j => if j = H.next then some iN else if kb = some j then none else σ j) (more S H.next) :=
    ⟨fun b hb => .inl hb, fun j i hj e => by
      rw [if_neg (show ¬ j = H.next from fun q => hfree (by rw [← q]; exact hj))] at e
      split at e
      · cases e
      · exact e⟩
  refine ⟨_, if_pos rfl, ⟨fun j o2 hg => ?_, fun j hg => ?_, fun j j' i i' e e' hb => ?_⟩, ⟨hext, fun j i hj e => ?_, hsize, fun b hb hf => ?_, hos, ht, hout⟩, rfl, rfl⟩
  · simp only [AH.get] at hg
    rw [T.get_set _ _ _ _ (by omega)] at hg
    split at hg
    · rename_i e
      subst e
      injection hg with hg
      subst hg
      exact ⟨.inr rfl, _, if_pos rfl, ho _ hext, hB⟩
    · rename_i hne
      rw [htab j hne] at hg
      split at hg
      · cases hg
      · rename_i hk
        obtain ⟨h0, i, e, h3, h4⟩ := h.live _ _ hg
        refine ⟨.inl h0, i, by rw [if_neg hne, if_neg hk]; exact e, (h3.same (W' := W') (hheap _ (fun hb => ?_) h3.lt)).ext hext, h4⟩
        rcases hfresh with hf | ⟨b, ib, hb1, hb2, hb3⟩
        · have := h3.lt; omega
        · have := h.inj _ _ _ _ e hb2 (hb.trans hb3)
          rw [this] at hk
          exact hk hb1
  · simp only [AH.get] at hg
    rw [T.get_set _ _ _ _ (by omega)] at hg
    split at hg
    · cases hg
    · rename_i hne
      rw [if_neg hne]
      split
      · rfl
      · rename_i hk
        rw [htab j hne, if_neg hk] at hg
        exact h.dead _ hg
  · have key : ∀ j i, j ≠ H.next → (if kb = some j then none else σ j) = some i → i.blk ≠ iN.blk := by
      intro j i hj e hb
      split at e
      · cases e
      · rename_i hk
        rcases hfresh with hf | ⟨b, ib, hb1, hb2, hb3⟩
        · obtain ⟨_, _, h3, _⟩ := h.at_ e
          have := h3.lt
          omega
        · have := h.inj _ _ _ _ e hb2 (hb.trans hb3)
          rw [this] at hk
          exact hk hb1
    split at e <;> split at e'
    · omega
    · rename_i hj hj'
      injection e with e
      subst e
      exact absurd hb.symm (key _ _ hj' e')
    · rename_i hj hj'
      injection e' with e'
      subst e'
      exact absurd hb (key _ _ hj e)
    · split at e
      · cases e
      · split at e'
        · cases e'
        · exact h.inj _ _ _ _ e e' hb
  · split at e
    · injection e with e
      subst e
      rcases hfresh with hf | ⟨b, ib, hb1, hb2, hb3⟩
      · exact .inl hf
      · exact .inr ⟨b, ib, hb2, hb3.symm⟩
    · split at e
      · cases e
      · exact absurd (h.dom e) hj
  · refine hheap b (fun e => ?_) hb
    rcases hfresh with hf2 | ⟨b1, ib, hb1, hb2, hb3⟩
    · omega
    · exact hf b1 ib hb2 (by rw [← hb3, e])
/-- a new block -/
theorem Rep.new_ (h : Rep σ S H W B) (hfree : ¬ S H.next) {o : AObj} {id : Nat} {H' : AH} (hn : H.new o = some (id, H')) {ob : Obj} {k : Nat} (hB : B ≤ W.heap.size)
    (ho : ∀ σ', Ext σ S σ' (more S H.next) → ORel σ' (more S H.next) ((W.alloc ob).drewN k) ⟨W.heap.size, 0, none⟩ o) :
    ∃ σ', σ' id = some ⟨W.heap.size, 0, none⟩ ∧ Rep σ' (more S H.next) H' ((W.alloc ob).drewN k) B ∧ Evo σ S W σ' (more S H.next) ((W.alloc ob).drewN k) ∧ id = H.next ∧ H'.next = H.next + 1 :=
  h.turn hfree none ⟨W.heap.size, 0, none⟩ (W' := (W.alloc ob).drewN k) hn (fun b e => by cases e) (.inl (Nat.le_refl _)) hB (fun b _ hb => Go.RowKit.Below.heap_alloc W ob b hb) (by simp [World.drewN]) rfl rfl rfl ho
end
end
end Go.Proofs.YtfnamalajmfjbaaGreatDoor.Ev
