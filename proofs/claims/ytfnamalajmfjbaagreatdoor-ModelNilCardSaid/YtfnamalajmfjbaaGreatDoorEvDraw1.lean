/- Regions whose order is drawn: parts of a heap, and joining what was done to one part. -/
import Derived.Test.YtfnamalajmfjbaaGreatDoorEvCode
set_option linter.unusedVariables false
set_option linter.unusedSimpArgs false
namespace Go.Proofs.YtfnamalajmfjbaaGreatDoor.Ev
noncomputable section
def cut (S U : Ids) : Ids := fun b => S b ∧ U b
theorem Ext.cut {σ σ' : Ren} {S S' : Ids} (e : Ext σ S σ' S') (U : Ids) : Ext σ (Ev.cut S U) σ' (Ev.cut S' U) := ⟨fun b h => ⟨e.le b h.1, h.2⟩, fun id i h k => e.old id i h.1 k⟩
theorem Ext.widen {σ : Ren} {S U V : Ids} (h : ∀ b, U b → V b) : Ext σ (Ev.cut S U) σ (Ev.cut S V) := ⟨fun b k => ⟨k.1, h b k.2⟩, fun id i _ k => k⟩
theorem Ext.of_cut {σ : Ren} {S U : Ids} : Ext σ (Ev.cut S U) σ S := ⟨fun b k => k.1, fun id i _ k => k⟩
theorem VRs.restrict {σ : Ren} {S U : Ids} {p : Nat → Bool} {f : Nat} (ih : ∀ v v', VR σ S v v' → allIn p f v = true → VR σ (cut S U) v v') : ∀ l l' : List Value, VRs σ S l l' → l.all (allIn p f) = true → VRs σ (cut S U) l l'
  | [], _, h, _ => by cases h; exact .nil
  | v :: l, _, h, k => by
    cases h with
    | cons _ v' _ l' h t =>
      simp only [List.all_cons, Bool.and_eq_true] at k
      exact .cons _ _ _ _ (ih v v' h k.1) (VRs.restrict ih l l' t k.2)
theorem VR.restrict {σ : Ren} {S U : Ids} {p : Nat → Bool} (hp : ∀ b, p b = true → U b) : ∀ (f : Nat) (v v' : Value), VR σ S v v' → allIn p f v = true → VR σ (cut S U) v v'
  | 0, _, _, _, k => by simp [allIn] at k
  | f + 1, v, v', h, k => by
    cases h with
    | bool b => exact .bool b
    | int q x => exact .int q x
    | float q b => exact .float q b
    | complex q a b => exact .complex q a b
    | string s => exact .string s
    | ptrNil => exact .ptrNil
    | ptr b off a' hb h => exact .ptr b off a' ⟨hb, hp b (by simpa [allIn] using k)⟩ h
    | sliceNil => exact .sliceNil
    | slice b off len cap cap' a' hb hl hm h => exact .slice b off len cap cap' a' ⟨hb, hp b (by simpa [allIn] using k)⟩ hl hm h
    | mapNil => exact .mapNil
    | map b b' hb h => exact .map b b' ⟨hb, hp b (by simpa [allIn] using k)⟩ h
    | func g first first' cap cap' h1 h2 =>
      simp only [allIn, Bool.and_eq_true] at k
      exact .func _ _ _ _ _ (VRs.restrict (VR.restrict hp f) _ _ h1 k.1) (VRs.restrict (VR.restrict hp f) _ _ h2 k.2)
    | nilFunc => exact .nilFunc
    | iface t v v' h => exact .iface _ _ _ (VR.restrict hp f _ _ h (by simpa only [allIn] using k))
    | nilIface => exact .nilIface
    | agg cs cs' h => exact .agg _ _ (VRs.restrict (VR.restrict hp f) _ _ h (by simpa only [allIn] using k))
    | tuple cs cs' h => exact .tuple _ _ (VRs.restrict (VR.restrict hp f) _ _ h (by simpa only [allIn] using k))
theorem ORel.restrict {σ : Ren} {S U : Ids} {p : Nat → Bool} (hp : ∀ b, p b = true → U b) {W : World} {i : Inf} {ob : AObj} (h : ORel σ S W i ob) (k : kdIn p (.fresh ob) = true) : ORel σ (cut S U) W i ob := by
  cases ob with
  | cells cs e g =>
    obtain ⟨c', lo, hi, h1, h2, h3⟩ := h
    refine ⟨c', lo, hi, h1, fun j v hj => ?_, h3⟩
    obtain ⟨v', a, b⟩ := h2 j v hj
    refine ⟨v', a, VR.restrict hp 8 v v' b ?_⟩
    simp only [kdIn, List.all_eq_true] at k
    exact k v (List.mem_of_getElem? hj)
  | map es clock => simp [kdIn] at k
  | sit s pos => simp [kdIn] at k
  | mit m since seen stepped => simp [kdIn] at k
theorem beqN {a b : Nat} (h : Nat.beq a b = true) : a = b := Nat.eq_of_beq_eq_true h
theorem bytesEq_eq {a b : ByteArray} (h : bytesEq a b = true) : a = b := by
  simp only [bytesEq, Bool.and_eq_true, List.all_eq_true] at h
  obtain ⟨h1, h2⟩ := h
  have hs : a.size = b.size := by simpa using h1
  have hl : a.data.toList.length = b.data.toList.length := by simpa using hs
  have : a.data.toList = b.data.toList := by
    refine List.ext_getElem hl fun i hi hi' => ?_
    have := h2 (a.data.toList[i], b.data.toList[i]) (List.mem_iff_getElem.2 ⟨i, by rw [List.length_zip]; exact Nat.lt_min.2 ⟨hi, hi'⟩, by simp⟩)
    exact UInt8.toNat_inj.1 (beqN this)
  cases a with
  | mk a =>
    cases b with
    | mk b =>
      congr 1
      cases a; cases b
      simpa using this
theorem addrEq_eq {a b : Addr} (h : addrEq a b = true) : a = b := by
  obtain ⟨x, y, z⟩ := a
  obtain ⟨x', y', z'⟩ := b
  simp only [addrEq, Bool.and_eq_true] at h
  obtain ⟨⟨h1, h2⟩, h3⟩ := h
  have e1 : x = x' := by simpa using h1
  have e2 : y = y' := by simpa using h2
  subst e1 e2
  cases z <;> cases z' <;> first | rfl | cases h3
theorem veqs_eq {q : Value → Value → Bool} (hq : ∀ a b, q a b = true → a = b) : ∀ l r : List Value, veqs q l r = true → l = r
  | [], [], _ => rfl
  | [], _ :: _, h => by simp [veqs] at h
  | _ :: _, [], h => by simp [veqs] at h
  | a :: l, b :: r, h => by
    simp only [veqs, Bool.and_eq_true] at h
    rw [hq a b h.1, veqs_eq hq l r h.2]
theorem veq_eq : ∀ (f : Nat) (a b : Value), veq f a b = true → a = b
  | 0, _, _, h => by simp [veq] at h
  | f + 1, a, b, h => by
    have ih := veq_eq f
    unfold veq at h
    split at h
    all_goals first
      | (cases h; done)
      | rfl
      | (simp only [Bool.and_eq_true] at h; done)
      | skip
    · simp at h; rw [h]
    · simp only [Bool.and_eq_true, decide_eq_true_eq] at h; rw [h.1, h.2]
    · rw [bytesEq_eq h]
    · rw [addrEq_eq h]
    · simp only [Bool.and_eq_true] at h; rw [beqN h.1, beqN h.2]
    · simp only [Bool.and_eq_true] at h; rw [addrEq_eq h.1.1, beqN h.1.2, beqN h.2]
    · rw [beqN h]
    · simp only [Bool.and_eq_true] at h
      rw [beqN h.1.1, array_eq (veqs_eq ih _ _ h.1.2), array_eq (veqs_eq ih _ _ h.2)]
    · simp only [Bool.and_eq_true] at h
      rw [beqN h.1, ih _ _ h.2]
    · rw [array_eq (veqs_eq ih _ _ h)]
    · rw [array_eq (veqs_eq ih _ _ h)]
/-- what stands for the memory, and of each block the numbers that it may name -/
structure RR (σ : Ren) (S : Ids) (g : Nat → Option AObj) (reg : Nat → Ids) (W : World) (B : Nat) : Prop where
  live : ∀ id o, g id = some o → S id ∧ reg id id ∧ ∃ i, σ id = some i ∧ ORel σ (cut S (reg id)) W i o ∧ B ≤ i.blk
  dead : ∀ id, g id = none → σ id = none
  inj : ∀ id id' i i', σ id = some i → σ id' = some i' → i.blk = i'.blk → id = id'
def sub (σ : Ren) (H : AH) : Ren := fun id => match H.get id with
  | some _ => σ id
  | none => none
theorem sub_some {σ : Ren} {H : AH} {id : Nat} {i : Inf} (h : sub σ H id = some i) : σ id = some i ∧ ∃ o, H.get id = some o := by
  unfold sub at h
  split at h
  · rename_i o ho; exact ⟨h, o, ho⟩
  · cases h
section
variable {P : Program} {σ : Ren} {S : Ids} {g : Nat → Option AObj} {reg : Nat → Ids} {W : World} {B : Nat}
theorem RR.rep (h : RR σ S g reg W B) {H : AH} (e : ∀ id, H.get id = g id) : Rep σ S H W B :=
  ⟨fun id o hg => by
    obtain ⟨h1, _, i, h2, h3, h4⟩ := h.live id o (by rw [← e]; exact hg)
    exact ⟨h1, i, h2, h3.ext .of_cut, h4⟩, fun id hg => h.dead id (by rw [← e]; exact hg), h.inj⟩
theorem RR.at_ (h : RR σ S g reg W B) {id : Nat} {i : Inf} (e : σ id = some i) : ∃ o, g id = some o ∧ S id ∧ reg id id ∧ ORel σ (cut S (reg id)) W i o ∧ B ≤ i.blk := by
  cases hg : g id with
  | none => rw [h.dead id hg] at e; cases e
  | some o =>
    obtain ⟨h1, h2, i', e', h3, h4⟩ := h.live id o hg
    rw [e] at e'
    injection e' with e'
    subst e'
    exact ⟨o, rfl, h1, h2, h3, h4⟩
/-- the part stands for the memory too -/
theorem RR.sub (h : RR σ S g reg W B) {H1 : AH} {U : Ids} (h1 : ∀ id o, H1.get id = some o → g id = some o ∧ ∀ b, reg id b → U b) : Rep (Ev.sub σ H1) (cut S U) H1 W B := by
  refine ⟨fun id o hg => ?_, fun id hg => by simp only [Ev.sub, hg], fun id id' i i' e e' hb => h.inj id id' i i' (sub_some e).1 (sub_some e').1 hb⟩
  obtain ⟨h2, h3⟩ := h1 id o hg
  obtain ⟨k1, k2, i, k3, k4, k5⟩ := h.live id o h2
  exact ⟨⟨k1, h3 id k2⟩, i, by simp only [Ev.sub, hg]; exact k3, k4.ext ⟨fun b hb => ⟨hb.1, h3 b hb.2⟩, fun id' i' _ e => (sub_some e).1⟩, k5⟩
/-- what was done to a part is done to the whole -/
theorem RR.join (h : RR σ S g reg W B) {H1 : AH} {U : Ids} (h1' : ∀ id o, H1.get id = some o → g id = some o ∧ ∀ b, reg id b → U b) (h2 : ∀ id o, g id = some o → U id → H1.get id = some o) {lo hi : Nat} (hdis : ∀ b, lo ≤ b → b < hi → ¬ S b) {σ1 : Ren} {S1 : Ids} {H2 : AH} {W' : World} (r : Rep σ1 S1 H2 W' B) (e : Evo (Ev.sub σ H1) (cut S U) W σ1 S1 W')
    (t : ∀ b, S1 b → cut S U b ∨ (lo ≤ b ∧ b < hi)) {g' : Nat → Option AObj} {reg' : Nat → Ids} (g1 : ∀ id o, g' id = some o → (H2.get id = some o ∧ ∀ b, S1 b → reg' id b) ∨ (g id = some o ∧ ¬ U id ∧ ∀ b, reg id b → reg' id b)) (g2 : ∀ id, g' id = none → H2.get id = none ∧ ∀ o, g id = some o → U id) :
    ∃ (σ' : Ren) (S' : Ids), RR σ' S' g' reg' W' B ∧ Evo σ S W σ' S' W' ∧ Ext σ1 S1 σ' S' ∧ ∀ b, S' b ↔ (S b ∨ S1 b) := by
  classical
  have hA : ∀ id, S id → S1 id → cut S U id := fun id hs h1 => (t id h1).elim (fun q => q) fun k => absurd hs (hdis id k.1 k.2)
  have hext : Ext σ S (fun id => if S1 id then σ1 id else σ id) (fun b => S b ∨ S1 b) := ⟨fun b hb => .inl hb, fun id i hs k => by
    by_cases h1 : S1 id
    · rw [if_pos h1] at k
      exact (sub_some (e.ext.old id i (hA id hs h1) k)).1
    · rw [if_neg h1] at k
      exact k⟩
  have hext1 : Ext σ1 S1 (fun id => if S1 id then σ1 id else σ id) (fun b => S b ∨ S1 b) := ⟨fun b hb => .inr hb, fun id i hs k => by rw [if_pos hs] at k; exact k⟩
  have hdomS1 : ∀ id, S id → U id → S1 id := fun id h1 h3 => e.ext.le id ⟨h1, h3⟩
  refine ⟨fun id => if S1 id then σ1 id else σ id, fun b => S b ∨ S1 b, ⟨fun id o hg => ?_, fun id hg => ?_, fun id id' i i' k k' hb => ?_⟩, ⟨hext, fun id i hs k => ?_, e.size, fun b hb hf => ?_, e.os, e.tape, e.output⟩, hext1, fun b => Iff.rfl⟩
  · rcases g1 id o hg with ⟨k1, k2⟩ | ⟨k1, k2, k3⟩
    · obtain ⟨m1, i, m2, m3, m4⟩ := r.live id o k1
      exact ⟨.inr m1, k2 id m1, i, by rw [if_pos m1]; exact m2, m3.ext ⟨fun b hb => ⟨.inr hb, k2 b hb⟩, hext1.old⟩, m4⟩
    · obtain ⟨m1, m2, i, m3, m4, m5⟩ := h.live id o k1
      have hn : ¬ S1 id := fun h1 => k2 (hA id m1 h1).2
      refine ⟨.inl m1, k3 id m2, i, by rw [if_neg hn]; exact m3, ?_, m5⟩
      refine (m4.same (W' := W') (e.frame i.blk m4.lt fun id' i' k hb => ?_)).ext ⟨fun b hb => ⟨.inl hb.1, k3 b hb.2⟩, fun b i' hb k => hext.old b i' hb.1 k⟩
      obtain ⟨n1, n3⟩ := sub_some k
      have := h.inj id' id i' i n1 m3 hb
      subst this
      obtain ⟨o0, n4⟩ := n3
      exact k2 ((h1' id' o0 n4).2 id' m2)
  · obtain ⟨k1, k2⟩ := g2 id hg
    by_cases h1 : S1 id
    · simp only [if_pos h1]
      exact r.dead id k1
    · simp only [if_neg h1]
      cases hs : σ id with
      | none => rfl
      | some i =>
        obtain ⟨o, m1, m2, _⟩ := h.at_ hs
        exact absurd (hdomS1 id m2 (k2 o m1)) h1
  · have key : ∀ id id' i i', S1 id → ¬ S1 id' → σ1 id = some i → σ id' = some i' → i.blk = i'.blk → False := by
      intro id id' i i' h1 h3 k k' hb
      obtain ⟨o', m1, m2, m2', m3, _⟩ := h.at_ k'
      by_cases hs : cut S U id
      · have := (sub_some (e.ext.old id i hs k)).1
        have := h.inj id id' i i' this k' hb
        subst this
        exact h3 h1
      · rcases e.new id i hs k with n1 | ⟨id0, i0, n1, n2⟩
        · have := m3.lt
          omega
        · obtain ⟨n3, o0, n4⟩ := sub_some n1
          have := h.inj id0 id' i0 i' n3 k' (n2.trans hb)
          subst this
          exact h3 (hdomS1 id0 m2 ((h1' id0 o0 n4).2 id0 m2'))
    by_cases h1 : S1 id <;> by_cases h3 : S1 id'
    · simp only [if_pos h1, if_pos h3] at k k'
      exact r.inj id id' i i' k k' hb
    · simp only [if_pos h1, if_neg h3] at k k'
      exact (key id id' i i' h1 h3 k k' hb).elim
    · simp only [if_neg h1, if_pos h3] at k k'
      exact (key id' id i' i h3 h1 k' k hb.symm).elim
    · simp only [if_neg h1, if_neg h3] at k k'
      exact h.inj id id' i i' k k' hb
  · by_cases h1 : S1 id
    · simp only [if_pos h1] at k
      have hs' : ¬ cut S U id := fun q => hs q.1
      rcases e.new id i hs' k with n1 | ⟨id0, i0, n1, n2⟩
      · exact .inl n1
      · exact .inr ⟨id0, i0, (sub_some n1).1, n2⟩
    · simp only [if_neg h1] at k
      obtain ⟨_, _, m2, _⟩ := h.at_ k
      exact absurd m2 hs
  · exact e.frame b hb fun id i k => hf id i (sub_some k).1
end
end
end Go.Proofs.YtfnamalajmfjbaaGreatDoor.Ev
