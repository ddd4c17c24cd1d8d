/- Regions whose order is drawn: parts of a heap, and joining what was done to one part. -/
import Derived.Test.YtnckhmfajjcgpaaGreatDoorEvD
set_option linter.unusedVariables false
set_option linter.unusedSimpArgs false
set_option linter.unusedSectionVars false
namespace Go.Proofs.YtnckhmfajjcgpaaGreatDoor.Ev
noncomputable section
def cut (S U : Ids) : Ids := fun b => S b ∧ U b
theorem Ext.cut {σ σ' : Ren} {S S' : Ids} (e : Ext σ S σ' S') (U : Ids) : Ext σ (Ev.cut S U) σ' (Ev.cut S' U) := ⟨fun b h => ⟨e.le b h.1, h.2⟩, fun id i h k => e.old id i h.1 k⟩
theorem Ext.widen {σ : Ren} {S U V : Ids} (h : ∀ b, U b → V b) : Ext σ (Ev.cut S U) σ (Ev.cut S V) := ⟨fun b k => ⟨k.1, h b k.2⟩, fun id i _ k => k⟩
theorem Ext.of_cut {σ : Ren} {S U : Ids} : Ext σ (Ev.cut S U) σ S := ⟨fun b k => k.1, fun id i _ k => k⟩
theorem VRs.restrict {σ : Ren} {S U : Ids} {p : Nat → Bool} {f : Nat} (ih : ∀ v v', VR σ S v v' → allIn p f v = true → VR σ (cut S U) v v') : ∀ l l' : List Value, VRs σ S l l' → l.all (allIn p f) = true → VRs σ (cut S U) l l'
  | [], _, h, _ => by cases h; exact .nil
  | v :: l, _, h, k => by
    cases h with
    | cons _ v' _ l' h t =>
      simp only [List.all_cons, Bool.and_eq_true] at k
      exact .cons _ _ _ _ (ih v v' h k.1) (VRs.restrict ih l l' t k.2)
theorem VR.restrict {σ : Ren} {S U : Ids} {p : Nat → Bool} (hp : ∀ b, p b = true → U b) : ∀ (f : Nat) (v v' : Value), VR σ S v v' → allIn p f v = true → VR σ (cut S U) v v'
  | 0, _, _, _, k => by simp [allIn] at k
  | f + 1, v, v', h, k => by
    cases h with
    | bool b => exact .bool b
    | int q x => exact .int q x
    | float q b => exact .float q b
    | complex q a b => exact .complex q a b
    | string s => exact .string s
    | ptrNil => exact .ptrNil
    | ptr b off a' hb h => exact .ptr b off a' ⟨hb, hp b (by simpa [allIn] using k)⟩ h
    | sliceNil => exact .sliceNil
    | slice b off len cap cap' a' hb hl hm h => exact .slice b off len cap cap' a' ⟨hb, hp b (by simpa [allIn] using k)⟩ hl hm h
    | mapNil => exact .mapNil
    | map b b' hb h => exact .map b b' ⟨hb, hp b (by simpa [allIn] using k)⟩ h
    | func g first first' cap cap' h1 h2 =>
      simp only [allIn, Bool.and_eq_true] at k
      exact .func _ _ _ _ _ (VRs.restrict (VR.restrict hp f) _ _ h1 k.1) (VRs.restrict (VR.restrict hp f) _ _ h2 k.2)
    | nilFunc => exact .nilFunc
    | iface t v v' h => exact .iface _ _ _ (VR.restrict hp f _ _ h (by simpa only [allIn] using k))
    | nilIface => exact .nilIface
    | agg cs cs' h => exact .agg _ _ (VRs.restrict (VR.restrict hp f) _ _ h (by simpa only [allIn] using k))
    | tuple cs cs' h => exact .tuple _ _ (VRs.restrict (VR.restrict hp f) _ _ h (by simpa only [allIn] using k))
theorem ORel.restrict {σ : Ren} {S U : Ids} {p : Nat → Bool} (hp : ∀ b, p b = true → U b) {W : World} {i : Inf} {ob : AObj} (h : ORel σ S W i ob) (k : kdIn p (.fresh ob) = true) : ORel σ (cut S U) W i ob := by
  cases ob with
  | cells cs e g =>
    obtain ⟨c', lo, hi, h1, h2, h3⟩ := h
    refine ⟨c', lo, hi, h1, fun j v hj => ?_, h3⟩
    obtain ⟨v', a, b⟩ := h2 j v hj
    refine ⟨v', a, VR.restrict hp 8 v v' b ?_⟩
    simp only [kdIn, List.all_eq_true] at k
    exact k v (List.mem_of_getElem? hj)
  | map es clock => simp [kdIn] at k
  | sit s pos => simp [kdIn] at k
  | mit m since seen stepped => simp [kdIn] at k
theorem beqN {a b : Nat} (h : Nat.beq a b = true) : a = b := Nat.eq_of_beq_eq_true h
theorem bytesEq_eq {a b : ByteArray} (h : bytesEq a b = true) : a = b := by
  simp only [bytesEq, Bool.and_eq_true, List.all_eq_true] at h
  obtain ⟨h1, h2⟩ := h
  have hs : a.size = b.size := by simpa using h1
  have hl : a.data.toList.length = b.data.toList.length := by simpa using hs
  have : a.data.toList = b.data.toList := by
    refine List.ext_getElem hl fun i hi hi' => ?_
    have := h2 (a.data.toList[i], b.data.toList[i]) (List.mem_iff_getElem.2 ⟨i, by rw [List.length_zip]; exact Nat.lt_min.2 ⟨hi, hi'⟩, by simp⟩)
    exact UInt8.toNat_inj.1 (beqN this)
  cases a with
  | mk a =>
    cases b with
    | mk b =>
      congr 1
      cases a; cases b
      simpa using this
theorem addrEq_eq {a b : Addr} (h : addrEq a b = true) : a = b := by
  obtain ⟨x, y, z⟩ := a
  obtain ⟨x', y', z'⟩ := b
  simp only [addrEq, Bool.and_eq_true] at h
  obtain ⟨⟨h1, h2⟩, h3⟩ := h
  have e1 : x = x' := by simpa using h1
  have e2 : y = y' := by simpa using h2
  subst e1 e2
  cases z <;> cases z' <;> first | rfl | cases h3
theorem veqs_eq {q : Value → Value → Bool} (hq : ∀ a b, q a b = true → a = b) : ∀ l r : List Value, veqs q l r = true → l = r
  | [], [], _ => rfl
  | [], _ :: _, h => by simp [veqs] at h
  | _ :: _, [], h => by simp [veqs] at h
  | a :: l, b :: r, h => by
    simp only [veqs, Bool.and_eq_true] at h
    rw [hq a b h.1, veqs_eq hq l r h.2]
theorem veq_eq : ∀ (f : Nat) (a b : Value), veq f a b = true → a = b
  | 0, _, _, h => by simp [veq] at h
  | f + 1, a, b, h => by
    have ih := veq_eq f
    unfold veq at h
    split at h
    all_goals first
      | (cases h; done)
      | rfl
      | (simp only [Bool.and_eq_true] at h; done)
      | skip
    · simp at h; rw [h]
    · simp only [Bool.and_eq_true, decide_eq_true_eq] at h; rw [h.1, h.2]
    · rw [bytesEq_eq h]
    · rw [addrEq_eq h]
    · simp only [Bool.and_eq_true] at h; rw [beqN h.1, beqN h.2]
    · simp only [Bool.and_eq_true] at h; rw [addrEq_eq h.1.1, beqN h.1.2, beqN h.2]
    · rw [beqN h]
    · simp only [Bool.and_eq_true] at h
      rw [beqN h.1.1, array_eq (veqs_eq ih _ _ h.1.2), array_eq (veqs_eq ih _ _ h.2)]
    · simp only [Bool.and_eq_true] at h
      rw [beqN h.1, ih _ _ h.2]
    · rw [array_eq (veqs_eq ih _ _ h)]
    · rw [array_eq (veqs_eq ih _ _ h)]
/-- what stands for the memory, and of each block the numbers that it may name -/
structure RR (σ : Ren) (S : Ids) (g : Nat → Option AObj) (reg : Nat → Ids) (W : World) (B : Nat) : Prop where
  live : ∀ id o, g id = some o → S id ∧ reg id id ∧ ∃ i, σ id = some i ∧ ORel σ (cut S (reg id)) W i o ∧ B ≤ i.blk
  dead : ∀ id, g id = none → σ id = none
  inj : ∀ id id' i i', σ id = some i → σ id' = some i' → i.blk = i'.blk → id = id'
def sub (σ : Ren) (H : AH) : Ren := fun id => match H.get id with
  | some _ => σ id
  | none => none
theorem sub_some {σ : Ren} {H : AH} {id : Nat} {i : Inf} (h : sub σ H id = some i) : σ id = some i ∧ ∃ o, H.get id = some o := by
  unfold sub at h
  split at h
  · rename_i o ho; exact ⟨h, o, ho⟩
  · cases h
section
variable {P : Program} {σ : Ren} {S : Ids} {g : Nat → Option AObj} {reg : Nat → Ids} {W : World} {B : Nat}
theorem RR.rep (h : RR σ S g reg W B) {H : AH} (e : ∀ id, H.get id = g id) : Rep σ S H W B :=
  ⟨fun id o hg => by
    obtain ⟨h1, _, i, h2, h3, h4⟩ := h.live id o (by rw [← e]; exact hg)
    exact ⟨h1, i, h2, h3.ext .of_cut, h4⟩, fun id hg => h.dead id (by rw [← e]; exact hg), h.inj⟩
theorem RR.at_ (h : RR σ S g reg W B) {id : Nat} {i : Inf} (e : σ id = some i) : ∃ o, g id = some o ∧ S id ∧ reg id id ∧ ORel σ (cut S (reg id)) W i o ∧ B ≤ i.blk := by
  cases hg : g id with
  | none => rw [h.dead id hg] at e; cases e
  | some o =>
    obtain ⟨h1, h2, i', e', h3, h4⟩ := h.live id o hg
    rw [e] at e'
    injection e' with e'
    subst e'
    exact ⟨o, rfl, h1, h2, h3, h4⟩
/-- the part stands for the memory too -/
theorem RR.sub (h : RR σ S g reg W B) {H1 : AH} {U : Ids} (h1 : ∀ id o, H1.get id = some o → g id = some o ∧ ∀ b, reg id b → U b) : Rep (Ev.sub σ H1) (cut S U) H1 W B := by
  refine ⟨fun id o hg => ?_, fun id hg => by simp only [Ev.sub, hg], fun id id' i i' e e' hb => h.inj id id' i i' (sub_some e).1 (sub_some e').1 hb⟩
  obtain ⟨h2, h3⟩ := h1 id o hg
  obtain ⟨k1, k2, i, k3, k4, k5⟩ := h.live id o h2
  exact ⟨⟨k1, h3 id k2⟩, i, by simp only [Ev.sub, hg]; exact k3, k4.ext ⟨fun b hb => ⟨hb.1, h3 b hb.2⟩, fun id' i' _ e => (sub_some e).1⟩, k5⟩
/-- what was done to a part is done to the whole -/
theorem RR.join (h : RR σ S g reg W B) {H1 : AH} {U : Ids} (h1' : ∀ id o, H1.get id = some o → g id = some o ∧ ∀ b, reg id b → U b) (h2 : ∀ id o, g id = some o → U id → H1.get id = some o) {lo hi : Nat} (hdis : ∀ b, lo ≤ b → b < hi → ¬ S b) {σ1 : Ren} {S1 : Ids} {H2 : AH} {W' : World} (r : Rep σ1 S1 H2 W' B) (e : Evo (Ev.sub σ H1) (cut S U) W σ1 S1 W')
    (t : ∀ b, S1 b → cut S U b ∨ (lo ≤ b ∧ b < hi)) {g' : Nat → Option AObj} {reg' : Nat → Ids} (g1 : ∀ id o, g' id = some o → (H2.get id = some o ∧ ∀ b, S1 b → reg' id b) ∨ (g id = some o ∧ ¬ U id ∧ ∀ b, reg id b → reg' id b)) (g2 : ∀ id, g' id = none → H2.get id = none ∧ ∀ o, g id = some o → U id) :
    ∃ (σ' : Ren) (S' : Ids), RR σ' S' g' reg' W' B ∧ Evo σ S W σ' S' W' ∧ Ext σ1 S1 σ' S' ∧ ∀ b, S' b ↔ (S b ∨ S1 b) := by
  classical
  have hA : ∀ id, S id → S1 id → cut S U id := fun id hs h1 => (t id h1).elim (fun q => q) fun k => absurd hs (hdis id k.1 k.2)
  have hext : Ext σ S (fun id => if S1 id then σ1 id else σ id) (fun b => S b ∨ S1 b) := ⟨fun b hb => .inl hb, fun id i hs k => by
    by_cases h1 : S1 id
    · rw [if_pos h1] at k
      exact (sub_some (e.ext.old id i (hA id hs h1) k)).1
    · rw [if_neg h1] at k
      exact k⟩
  have hext1 : Ext σ1 S1 (fun id => if S1 id then σ1 id else σ id) (fun b => S b ∨ S1 b) := ⟨fun b hb => .inr hb, fun id i hs k => by rw [if_pos hs] at k; exact k⟩
  have hdomS1 : ∀ id, S id → U id → S1 id := fun id h1 h3 => e.ext.le id ⟨h1, h3⟩
  refine ⟨fun id => if S1 id then σ1 id else σ id, fun b => S b ∨ S1 b, ⟨fun id o hg => ?_, fun id hg => ?_, fun id id' i i' k k' hb => ?_⟩, ⟨hext, fun id i hs k => ?_, e.size, fun b hb hf => ?_, e.os, e.tape, e.output⟩, hext1, fun b => Iff.rfl⟩
  · rcases g1 id o hg with ⟨k1, k2⟩ | ⟨k1, k2, k3⟩
    · obtain ⟨m1, i, m2, m3, m4⟩ := r.live id o k1
      exact ⟨.inr m1, k2 id m1, i, by rw [if_pos m1]; exact m2, m3.ext ⟨fun b hb => ⟨.inr hb, k2 b hb⟩, hext1.old⟩, m4⟩
    · obtain ⟨m1, m2, i, m3, m4, m5⟩ := h.live id o k1
      have hn : ¬ S1 id := fun h1 => k2 (hA id m1 h1).2
      refine ⟨.inl m1, k3 id m2, i, by rw [if_neg hn]; exact m3, ?_, m5⟩
      refine (m4.same (W' := W') (e.frame i.blk m4.lt fun id' i' k hb => ?_)).ext ⟨fun b hb => ⟨.inl hb.1, k3 b hb.2⟩, fun b i' hb k => hext.old b i' hb.1 k⟩
      obtain ⟨n1, n3⟩ := sub_some k
      have := h.inj id' id i' i n1 m3 hb
      subst this
      obtain ⟨o0, n4⟩ := n3
      exact k2 ((h1' id' o0 n4).2 id' m2)
  · obtain ⟨k1, k2⟩ := g2 id hg
    by_cases h1 : S1 id
    · simp only [if_pos h1]
      exact r.dead id k1
    · simp only [if_neg h1]
      cases hs : σ id with
      | none => rfl
      | some i =>
        obtain ⟨o, m1, m2, _⟩ := h.at_ hs
        exact absurd (hdomS1 id m2 (k2 o m1)) h1
  · have key : ∀ id id' i i', S1 id → ¬ S1 id' → σ1 id = some i → σ id' = some i' → i.blk = i'.blk → False := by
      intro id id' i i' h1 h3 k k' hb
      obtain ⟨o', m1, m2, m2', m3, _⟩ := h.at_ k'
      by_cases hs : cut S U id
      · have := (sub_some (e.ext.old id i hs k)).1
        have := h.inj id id' i i' this k' hb
        subst this
        exact h3 h1
      · rcases e.new id i hs k with n1 | ⟨id0, i0, n1, n2⟩
        · have := m3.lt
          omega
        · obtain ⟨n3, o0, n4⟩ := sub_some n1
          have := h.inj id0 id' i0 i' n3 k' (n2.trans hb)
          subst this
          exact h3 (hdomS1 id0 m2 ((h1' id0 o0 n4).2 id0 m2'))
    by_cases h1 : S1 id <;> by_cases h3 : S1 id'
    · simp only [if_pos h1, if_pos h3] at k k'
      exact r.inj id id' i i' k k' hb
    · simp only [if_pos h1, if_neg h3] at k k'
      exact (key id id' i i' h1 h3 k k' hb).elim
    · simp only [if_neg h1, if_pos h3] at k k'
      exact (key id' id i' i h3 h1 k' k hb.symm).elim
    · simp only [if_neg h1, if_neg h3] at k k'
      exact h.inj id id' i i' k k' hb
  · by_cases h1 : S1 id
    · simp only [if_pos h1] at k
      have hs' : ¬ cut S U id := fun q => hs q.1
      rcases e.new id i hs' k with n1 | ⟨id0, i0, n1, n2⟩
      · exact .inl n1
      · exact .inr ⟨id0, i0, (sub_some n1).1, n2⟩
    · simp only [if_neg h1] at k
      obtain ⟨_, _, m2, _⟩ := h.at_ k
      exact absurd m2 hs
  · exact e.frame b hb fun id i k => hf id i (sub_some k).1
end
end
end Go.Proofs.YtnckhmfajjcgpaaGreatDoor.Ev
namespace Go.Proofs.YtnckhmfajjcgpaaGreatDoor.Ev
noncomputable section
section
variable {P : Program} {X : Tab}
theorem val_any {v : Option Value} {H H' : AH} {r : Value} (h : val v H = some (.value r, H')) (G : AH) : val v G = some (.value r, G) := by
  obtain ⟨u, h1, h2, _⟩ := val_eq h
  injection h2 with h2
  subst h2
  rw [h1]
  rfl
theorem aop_quiet {H H' : AH} {ρ : Env} {o : Oper} {v : Value} (he : H.tab = .lf) (hc : cls o.op = 0) (h : aop P X H ρ o = some (.value v, H')) (G : AH) : aop P X G ρ o = some (.value v, G) := by
  simp only [aop_eq] at h ⊢
  unfold aop0 at h ⊢
  cases ho : o.op <;> rw [ho] at hc <;> simp only [cls] at hc <;> first
    | (cases hc; done)
    | skip
  all_goals simp only [ho] at h ⊢
  case move x => exact val_any h G
  case assign x => exact val_any h G
  case pick c a b =>
    rw [Option.bind_eq_some_iff] at h ⊢
    obtain ⟨cv, h1, h2⟩ := h
    refine ⟨cv, h1, ?_⟩
    split at h2
    · exact val_any h2 G
    · exact val_any h2 G
    · cases h2
  case build t parts =>
    rw [Option.bind_eq_some_iff] at h ⊢
    obtain ⟨cv, h1, h2⟩ := h
    exact ⟨cv, h1, val_any h2 G⟩
  case nilCheck x =>
    rw [Option.bind_eq_some_iff] at h ⊢
    obtain ⟨cv, h1, h2⟩ := h
    refine ⟨cv, h1, ?_⟩
    cases hk : okNil cv with
    | false => rw [hk] at h2; cases h2
    | true =>
      rw [hk] at h2
      injection h2 with h2
      injection h2 with h2 h3
      injection h2 with h2
      subst h2
      rfl
  case binOp op t x y yt =>
    split at h
    · injection h with h
      injection h with h1 h2
      subst h1
      rfl
    · rw [Option.bind_eq_some_iff] at h ⊢
      obtain ⟨a, h1, h2⟩ := h
      refine ⟨a, h1, ?_⟩
      rw [Option.bind_eq_some_iff] at h2 ⊢
      obtain ⟨b, h3, h4⟩ := h2
      exact ⟨b, h3, val_any h4 G⟩
  case unOp op t x =>
    split at h
    · injection h with h
      injection h with h1 h2
      subst h1
      rfl
    · cases h
  case makeInterface t x =>
    rw [Option.bind_eq_some_iff] at h ⊢
    obtain ⟨cv, h1, h2⟩ := h
    exact ⟨cv, h1, val_any h2 G⟩
  case makeFunc fn first cap =>
    cases fn <;> first
      | (cases h; done)
      | skip
    rw [Option.bind_eq_some_iff] at h ⊢
    obtain ⟨a, h1, h2⟩ := h
    refine ⟨a, h1, ?_⟩
    rw [Option.bind_eq_some_iff] at h2 ⊢
    obtain ⟨b, h3, h4⟩ := h2
    refine ⟨b, h3, ?_⟩
    injection h4 with h4
    injection h4 with h4 h5
    rw [h4]
  case fieldAddr t x f =>
    rw [Option.bind_eq_some_iff] at h ⊢
    obtain ⟨cv, h1, h2⟩ := h
    exact ⟨cv, h1, val_any h2 G⟩
  case field t x f =>
    rw [Option.bind_eq_some_iff] at h ⊢
    obtain ⟨cv, h1, h2⟩ := h
    exact ⟨cv, h1, val_any h2 G⟩
  case indexAddr t x i =>
    rw [Option.bind_eq_some_iff] at h ⊢
    obtain ⟨a, h1, h2⟩ := h
    refine ⟨a, h1, ?_⟩
    rw [Option.bind_eq_some_iff] at h2 ⊢
    obtain ⟨b, h3, h4⟩ := h2
    exact ⟨b, h3, val_any h4 G⟩
  case index t x i =>
    split at h
    · injection h with h
      injection h with h1 h2
      subst h1
      rfl
    · rw [Option.bind_eq_some_iff] at h ⊢
      obtain ⟨a, h1, h2⟩ := h
      refine ⟨a, h1, ?_⟩
      rw [Option.bind_eq_some_iff] at h2 ⊢
      obtain ⟨b, h3, h4⟩ := h2
      exact ⟨b, h3, val_any h4 G⟩
  case typeAssert x xt t ok =>
    rw [Option.bind_eq_some_iff] at h ⊢
    obtain ⟨cv, h1, h2⟩ := h
    exact ⟨cv, h1, val_any h2 G⟩
  case extract x i =>
    rw [Option.bind_eq_some_iff] at h ⊢
    obtain ⟨cv, h1, h2⟩ := h
    exact ⟨cv, h1, val_any h2 G⟩
  case call c =>
    split at hc
    · rename_i hcl
      split at h
      · injection h with h
        injection h with h1 h2
        subst h1
        rfl
      · unfold acall at h ⊢
        rw [Option.bind_eq_some_iff] at h ⊢
        obtain ⟨vs, h1, h2⟩ := h
        refine ⟨vs, h1, ?_⟩
        simp only [hcl] at h2 ⊢
        unfold abuiltin at h2 ⊢
        split at h2
        · rename_i e _; cases e
        · obtain ⟨u, h3, h4, _⟩ := val_eq h2
          injection h4 with h4
          subst h4
          refine val_any (H := H) (H' := H) ?_ G
          have : ∀ t v r, alen X H t v = some r → alen X G t v = some r := by
            intro t v r h
            unfold alen at h ⊢
            simp only [Option.bind_eq_bind, Option.bind_eq_some_iff] at h ⊢
            obtain ⟨d, k1, k2⟩ := h
            refine ⟨d, k1, ?_⟩
            split at k2
            · exact k2
            · rename_i r'
              have : H.get r' = none := by unfold AH.get; rw [he]; rfl
              rw [this] at k2
              cases k2
            · cases k2
          rw [this _ _ _ h3]
          rfl
        · rename_i e _; cases e
        · rename_i e _; cases e
        · cases h2
    · cases hc
theorem aop_new {n : Nat} {H1 : AH} {ρ : Env} {o : Oper} {v : Value} (hc : cls o.op = 2) (h : aop P X ⟨n, .lf⟩ ρ o = some (.value v, H1)) :
    ∃ ob, H1.tab.get n = some ob ∧ n ≤ 16000000 ∧ ∀ G : AH, G.next = n → aop P X G ρ o = some (.value v, ⟨n + 1, G.tab.set n (some ob)⟩) := by
  have new : ∀ {ob : AObj} {id : Nat} {H2 : AH}, (⟨n, .lf⟩ : AH).new ob = some (id, H2) → id = n ∧ H2.tab.get n = some ob ∧ n ≤ 16000000 ∧ ∀ G : AH, G.next = n → G.new ob = some (n, ⟨n + 1, G.tab.set n (some ob)⟩) := by
    intro ob id H2 h
    unfold AH.new at h
    split at h
    · rename_i hle
      have hle' : n ≤ 16000000 := by simpa using hle
      injection h with h
      injection h with h1 h2
      refine ⟨h1.symm, ?_, hle', fun G e => ?_⟩
      · rw [← h2]
        simp only
        rw [T.get_set _ _ _ _ (by omega), if_pos rfl]
      · unfold AH.new
        rw [e]
        simp only at hle
        rw [hle]
    · cases h
  have box : ∀ {e : TypeId} {u r : Value} {H2 : AH}, abox ⟨n, .lf⟩ e u = some (r, H2) → ∃ ob, H2.tab.get n = some ob ∧ n ≤ 16000000 ∧ ∀ G : AH, G.next = n → abox G e u = some (r, ⟨n + 1, G.tab.set n (some ob)⟩) := by
    intro e u r H2 h
    unfold abox at h
    simp only [Option.bind_eq_bind, Option.bind_eq_some_iff] at h
    obtain ⟨⟨id, H3⟩, h1, h2⟩ := h
    injection h2 with h2
    injection h2 with h2 h3
    subst h2 h3
    obtain ⟨rfl, k1, k2, k3⟩ := new h1
    exact ⟨_, k1, k2, fun G e => by unfold abox; simp only [Option.bind_eq_bind, k3 G e]; rfl⟩
  simp only [aop_eq] at h ⊢
  unfold aop0 at h ⊢
  cases ho : o.op <;> rw [ho] at hc <;> simp only [cls] at hc <;> first
    | (cases hc; done)
    | (split at hc <;> cases hc; done)
    | skip
  all_goals simp only [ho] at h ⊢
  case alloc e =>
    obtain ⟨u, h1, h2⟩ := vals_eq h
    injection h2 with h2
    subst h2
    unfold aalloc at h1
    simp only [Option.bind_eq_bind, Option.bind_eq_some_iff] at h1
    obtain ⟨i, k1, z, k2, k3⟩ := h1
    cases hf : flatF 8 z with
    | false => rw [hf] at k3; cases k3
    | true =>
      rw [hf] at k3
      obtain ⟨ob, m1, m2, m3⟩ := box k3
      exact ⟨ob, m1, m2, fun G e => by unfold aalloc; simp only [Option.bind_eq_bind, k1, k2, Option.bind_some, hf, cond_true, m3 G e]; rfl⟩
  case box e x =>
    rw [Option.bind_eq_some_iff] at h
    obtain ⟨u, h1, h2⟩ := h
    obtain ⟨u', h3, h4⟩ := vals_eq h2
    injection h4 with h4
    subst h4
    obtain ⟨ob, m1, m2, m3⟩ := box h3
    exact ⟨ob, m1, m2, fun G e => by simp only [h1, Option.bind_some, m3 G e]; rfl⟩
  case buildSlice t len parts =>
    rw [Option.bind_eq_some_iff] at h
    obtain ⟨u, h1, h2⟩ := h
    obtain ⟨u', h3, h4⟩ := vals_eq h2
    injection h4 with h4
    subst h4
    unfold abuildSlice at h3
    simp only [Option.bind_eq_bind, Option.bind_eq_some_iff] at h3
    obtain ⟨d, k1, k2⟩ := h3
    split at k2
    · rename_i e
      simp only [Option.bind_eq_some_iff] at k2
      obtain ⟨ie, k3, z, k4, k5⟩ := k2
      cases hf : (flatF 8 z && Nat.ble (len * ie.size) 16777216 && Nat.ble len 16777216) with
      | false => rw [hf] at k5; cases k5
      | true =>
        rw [hf] at k5
        simp only [cond_true, Option.bind_eq_some_iff] at k5
        obtain ⟨c, k6, ⟨id, H3⟩, k7, k8⟩ := k5
        injection k8 with k8
        injection k8 with k8 k9
        subst k8 k9
        obtain ⟨rfl, m1, m2, m3⟩ := new k7
        refine ⟨_, m1, m2, fun G e => ?_⟩
        simp only [h1, Option.bind_some]
        unfold abuildSlice
        simp only [Option.bind_eq_bind, k1, k3, k4, Option.bind_some, hf, cond_true, k6, m3 G e]
        rfl
    · cases k2
theorem aop_flat {ρ : Env} {o : Oper} {v : Value} (hc : cls o.op = 3 ∨ cls o.op = 5) (h : aflat P ρ o = some (.value v)) (G : AH) : aop P X G ρ o = some (.value v, G) := by
  rw [aop_eq]
  unfold aop0
  rcases hc with hc | hc <;> cases ho : o.op <;> rw [ho] at hc <;> simp only [cls] at hc <;> first
    | (cases hc; done)
    | (simp only [h]; done)
    | (split at hc <;> cases hc; done)
theorem aload_mono {H G : AH} {t : TypeId} {p v : Value} (h : aload X H t p = some v) (k : ∀ id ob, H.get id = some ob → G.get id = some ob) : aload X G t p = some v := by
  unfold aload at h ⊢
  simp only [Option.bind_eq_bind, Option.bind_eq_some_iff] at h
  obtain ⟨⟨b, off⟩, h1, ⟨cs, e, g⟩, h2, h3⟩ := h
  have : cellsAt G b = some (cs, e, g) := by
    unfold cellsAt
    rw [k b _ (cellsAt_get h2)]
  simp only [Option.bind_eq_bind, h1, this, Option.bind_some]
  simpa only [Option.bind_eq_bind, Option.bind_eq_some_iff] using h3
theorem aslice_mono {H G : AH} {t : TypeId} {v r : Value} {l h m : Option Value} (e : aslice X H t v l h m = some r) (k : ∀ id ob, H.get id = some ob → G.get id = some ob) : aslice X G t v l h m = some r := by
  unfold aslice at e ⊢
  simp only [Option.bind_eq_bind, Option.bind_eq_some_iff] at e ⊢
  obtain ⟨d, h1, h2⟩ := e
  refine ⟨d, h1, ?_⟩
  split at h2
  · rename_i el b off len cap
    simp only [Option.bind_eq_some_iff] at h2 ⊢
    obtain ⟨it, h3, ⟨cs, e2, g⟩, h4, h5⟩ := h2
    refine ⟨it, h3, (cs, e2, g), ?_, h5⟩
    unfold cellsAt
    rw [k b _ (cellsAt_get h4)]
  · cases h2
theorem sameAs_eq {v : Value} {o : Option Value} (h : sameAs v o = true) : o = some v := by
  unfold sameAs at h
  split at h
  · rename_i u
    rw [veq_eq 8 u v h]
  · cases h
/-- an operation that looks at the memory, and at no more -/
def ReadF (X : Tab) (ρ : Env) (o : Oper) (q : T AObj → Option Value) : Prop :=
  (∃ t x p, o.op = .load t x ∧ ρ x = some p ∧ q = fun tab => aload X ⟨0, tab⟩ t p) ∨
  ∃ t x a b m v l h m', o.op = .slice t x a b m ∧ ρ x = some v ∧ optM ρ a = some l ∧ optM ρ b = some h ∧ optM ρ m = some m' ∧ q = fun tab => aslice X ⟨0, tab⟩ t v l h m'
theorem ReadF.mono {ρ : Env} {o : Oper} {q : T AObj → Option Value} (h : ReadF X ρ o q) {t1 t2 : T AObj} {v : Value} (e : q t1 = some v) (k : ∀ id ob, t1.get id = some ob → t2.get id = some ob) : q t2 = some v := by
  rcases h with ⟨t, x, p, _, _, rfl⟩ | ⟨t, x, a, b, m, w, l, h, m', _, _, _, _, _, rfl⟩
  · exact aload_mono (H := ⟨0, t1⟩) (G := ⟨0, t2⟩) e k
  · exact aslice_mono (H := ⟨0, t1⟩) (G := ⟨0, t2⟩) e k
theorem ReadF.run (hX : TabOk P X) {ρ : Env} {o : Oper} {q : T AObj → Option Value} (h : ReadF X ρ o q) {σ : Ren} {S : Ids} {H : AH} {W : World} {B : Nat} {ρ' : Operand → Value} (hr : Rep σ S H W B) (hρ : EnvOk σ S ρ ρ') {v : Value} (e : q H.tab = some v) : ∃ u, (execOp ρ' o).run P W = .ok (.value u) W ∧ VR σ S v u := by
  rcases h with ⟨t, x, p, ho, hp, rfl⟩ | ⟨t, x, a, b, m, w, l, h, m', ho, h1, h2, h3, h4, rfl⟩
  · obtain ⟨u, k1, k2⟩ := load_sound hX hr (hρ x p hp) (aload_mono (G := H) e fun id ob h => h)
    refine ⟨u, ?_, k2⟩
    unfold execOp
    rw [ho]
    simp only [Sem.run_bind, k1]
    rfl
  · obtain ⟨u, k1, k2⟩ := slice_calm hX hr (hρ x w h1) (optM_vr hρ h2) (optM_vr hρ h3) (optM_vr hρ h4) (aslice_mono (G := H) e fun id ob h => h)
    refine ⟨u, ?_, k2⟩
    unfold execOp
    rw [ho]
    simp only [Sem.run_bind, k1]
    rfl
/-- what the operation's work gives, in the real run -/
theorem evRes_wp (hX : TabOk P X) {call : ACall} (hcall : CallOk P call) {o : Oper} {H H' : AH} {v : Value} {ρ : Env} (he : evRes P X call ρ o H = some (v, H')) {σ : Ren} {S : Ids} {W : World} {B : Nat} {a : Act} (h : Rep σ S H W B) (hfree : Free S H.next) (hB : B ≤ W.heap.size) (hρ : EnvOk σ S ρ a.eval)
    {K : Act → World → Prop} {Q : Exit → Act → World → Prop} (hK : ∀ σ' S' v' W', VR σ' S' v v' → Rep σ' S' H' W' B → Later σ S H.next W σ' S' H'.next W' → K (a.put o.dst v') W') : o.wp P a W K Q := by
  unfold evRes at he
  rw [Option.bind_eq_some_iff] at he
  obtain ⟨⟨r, H1⟩, h1, h2⟩ := he
  obtain ⟨σ1, S1, W1, r1, k1, k2, k3, k4, k5⟩ := aop_sound hX h (hfree _ (Nat.le_refl _)) hB hρ h1
  have hl1 : Later σ S H.next W σ1 S1 H1.next W1 := ⟨k3, k5⟩
  unfold Oper.wp
  rw [k1]
  cases r with
  | value u =>
    simp only at h2
    injection h2 with h2
    injection h2 with h2 h3
    subst h2 h3
    cases r1 <;> simp only [NR] at k4
    rw [Oper.upon_value]
    exact hK σ1 S1 _ W1 k4 k2 hl1
  | skip =>
    simp only at h2
    injection h2 with h2
    injection h2 with h2 h3
    subst h2 h3
    cases r1 <;> simp only [NR] at k4
    rw [Oper.upon_skip]
    exact hK σ1 S1 _ W1 undef_vr k2 hl1
  | enter f args =>
    simp only at h2
    cases r1 <;> simp only [NR] at k4
    rename_i f' args'
    obtain ⟨rfl, hargs⟩ := k4
    rw [Oper.upon_enter]
    refine (hcall f args H1 v H' h2 σ1 S1 W1 B args' k2 (hfree.taken k5) (Nat.le_trans hB k3.size) hargs).mono ?_
    rintro e W2 ⟨σ2, S2, v', rfl, q1, q2, q3⟩
    exact hK σ2 S2 v' W2 q1 q2 (hl1.trans q3)
  | defer f cap args => cases h2
end
end
end Go.Proofs.YtnckhmfajjcgpaaGreatDoor.Ev
namespace Go.Proofs.YtnckhmfajjcgpaaGreatDoor.Ev
noncomputable section
def below (R : Nat → Option Rec) (i : Nat) : Nat → Option Rec := fun j => if j < i then R j else none
theorem below_some {R : Nat → Option Rec} {i j : Nat} {r : Rec} : below R i j = some r ↔ j < i ∧ R j = some r := by
  unfold below
  by_cases h : j < i <;> simp [h]
def isChn (r : Rec) : Prop := ∃ tab, r.kd = .chn tab
def Al (f : Nat → Option Rec) (n0 anc : Nat) : Ids := fun b => b < n0 ∨ ∃ j r, f j = some r ∧ Nat.testBit anc j = true ∧ r.lo ≤ b ∧ b < r.hi
/-- the memory's last state, and what it holds of the fresh blocks -/
def CurF (f : Nat → Option Rec) (H : AH) (cur : T AObj) (mg : Nat) : Prop :=
  ((∀ j r, f j = some r → ¬ isChn r) ∧ cur = H.tab ∧ mg = 0) ∨ ∃ c r, f c = some r ∧ r.kd = .chn cur ∧ mg = r.anc ∧ ∀ j r', f j = some r' → isChn r' → j ≤ c
structure EnvF (ops : Array Oper) (A : AAct) (L : Nat → Nat) (i : Nat) (f : Nat → Option Rec) (anc : Nat) (ρ : Env) : Prop where
  tmp : ∀ t v, ρ (.tmp t) = some v → (∃ (j : Nat) (o : Oper) (r : Rec), ops[j]? = some o ∧ o.dst = some t ∧ f j = some r ∧ Nat.testBit anc j = true ∧ v = r.v) ∨ ((∀ (j : Nat) (o : Oper), ops[j]? = some o → o.dst = some t → Nat.testBit (L j) i = true) ∧ v = A.at_ t)
  const : ∀ u v, ρ (.const u) = some v → flatF 8 u = true ∧ v = u
  glob : ∀ g, ρ (.global g) = none
  func : ∀ g v, ρ (.func g) = some v → v = .func (.func g) #[] #[]
def GuardF (ops : Array Oper) (f : Nat → Option Rec) (anc : Nat) (o : Oper) (w : Bool) : Prop := match o.guard with
  | none => w = true
  | some (g, want) => Nat.testBit anc g = true ∧ ∃ og d rg, ops[g]? = some og ∧ og.dst = some d ∧ f g = some rg ∧ ((∃ b, rg.v = .bool b ∧ w = (b == want)) ∨ (∃ cs, rg.v = .tuple cs ∧ w = false))
def InF (f : Nat → Option Rec) (n0 : Nat) (r : Rec) (q : (Nat → Bool) → Bool) : Prop := ∃ p : Nat → Bool, q p = true ∧ ∀ b, p b = true → Al f n0 r.anc b ∨ (r.lo ≤ b ∧ b < r.hi)
def WorkF (P : Program) (X : Tab) (call : ACall) (H : AH) (f : Nat → Option Rec) (i : Nat) (o : Oper) (r : Rec) (ρ : Env) : Prop :=
    ((r.kd = .loc ∧ r.hi = r.lo ∧ (∀ G, aop P X G ρ o = some (.value r.v, G)) ∧ InF f H.next r (fun p => allIn p 8 r.v)) ∨
     (∃ q, r.kd = .read q ∧ r.hi = r.lo ∧ ReadF X ρ o q ∧ (∃ cur mg, CurF f H cur mg ∧ q cur = some r.v) ∧ InF f H.next r (fun p => allIn p 8 r.v)) ∨
     (∃ ob, r.kd = .fresh ob ∧ r.hi = r.lo + 1 ∧ r.lo ≤ 16000000 ∧ (∀ G : AH, G.next = r.lo → aop P X G ρ o = some (.value r.v, ⟨r.lo + 1, G.tab.set r.lo (some ob)⟩)) ∧ InF f H.next r (fun p => allIn p 8 r.v && kdIn p (.fresh ob))) ∨
     (∃ tab cur mg, r.kd = .chn tab ∧ CurF f H cur mg ∧ (∀ j rj, f j = some rj → isChn rj → Nat.testBit r.anc j = true) ∧ evRes P X call ρ o ⟨r.lo, addFresh f (fun j => Nat.testBit r.anc j && !Nat.testBit mg j) i cur⟩ = some (r.v, ⟨r.hi, tab⟩)))
structure Fact (P : Program) (X : Tab) (call : ACall) (ops : Array Oper) (A : AAct) (H : AH) (L : Nat → Nat) (f : Nat → Option Rec) (i : Nat) (o : Oper) (r : Rec) : Prop where
  edges : ∀ e ∈ o.after.toList, Region.binds .any e = true → Nat.testBit r.anc e.on = true ∧ ∃ re, f e.on = some re ∧ ∀ m, Nat.testBit re.anc m = true → Nat.testBit r.anc m = true
  anc : ∀ j, Nat.testBit r.anc j = true → ∃ e ∈ o.after.toList, Region.binds .any e = true ∧ ∃ re, f e.on = some re ∧ (j = e.on ∨ Nat.testBit re.anc j = true)
  lo : H.next ≤ r.lo
  le : r.lo ≤ r.hi
  before : ∀ j rj, f j = some rj → rj.hi ≤ r.lo
  dst : ∀ d, o.dst = some d → d < A.n
  late : r.anc = L i
  work : (GuardF ops f r.anc o false ∧ r.kd = .loc ∧ r.v = undef ∧ r.hi = r.lo) ∨ ∃ ρ, EnvF ops A L i f r.anc ρ ∧ GuardF ops f r.anc o true ∧
    WorkF P X call H f i o r ρ
theorem ancOf_spec {f : Nat → Option Rec} : ∀ (l : List Edge) (m anc : Nat), ancOf f l m = some anc → (∀ j, Nat.testBit m j = true → Nat.testBit anc j = true) ∧ (∀ e ∈ l, Region.binds .any e = true → Nat.testBit anc e.on = true ∧ ∃ re, f e.on = some re ∧ ∀ m, Nat.testBit re.anc m = true → Nat.testBit anc m = true) ∧
    ∀ j, Nat.testBit anc j = true → Nat.testBit m j = true ∨ ∃ e ∈ l, Region.binds .any e = true ∧ ∃ re, f e.on = some re ∧ (j = e.on ∨ Nat.testBit re.anc j = true)
  | [], m, anc, h => by
    simp only [ancOf] at h
    injection h with h
    subst h
    exact ⟨fun _ h => h, fun e he _ => (by cases he), fun j hj => .inl hj⟩
  | e :: l, m, anc, h => by
    simp only [ancOf] at h
    cases hb : Region.binds .any e with
    | false =>
      rw [hb] at h
      obtain ⟨h1, h2, h3⟩ := ancOf_spec l m anc h
      refine ⟨h1, fun e' he' hb' => ?_, fun j hj => ?_⟩
      · rcases List.mem_cons.1 he' with rfl | he'
        · rw [hb] at hb'; cases hb'
        · exact h2 e' he' hb'
      · rcases h3 j hj with h4 | ⟨e', h4, h5⟩
        · exact .inl h4
        · exact .inr ⟨e', List.mem_cons_of_mem _ h4, h5⟩
    | true =>
      rw [hb] at h
      simp only [cond_true] at h
      split at h
      case h_2 => cases h
      rename_i r hr
      obtain ⟨h1, h2, h3⟩ := ancOf_spec l _ anc h
      have hbit : ∀ j, Nat.testBit (m ||| r.anc ||| (1 <<< e.on)) j = (Nat.testBit m j || Nat.testBit r.anc j || decide (e.on = j)) := by
        intro j
        rw [Nat.testBit_or, Nat.testBit_or, Nat.one_shiftLeft, Nat.testBit_two_pow]
      refine ⟨fun j hj => h1 j (by rw [hbit, hj]; rfl), fun e' he' hb' => ?_, fun j hj => ?_⟩
      · rcases List.mem_cons.1 he' with rfl | he'
        · exact ⟨h1 _ (by rw [hbit]; simp), r, hr, fun m hm => h1 _ (by rw [hbit, hm]; simp)⟩
        · exact h2 e' he' hb'
      · rcases h3 j hj with h4 | ⟨e', h4, h5⟩
        · rw [hbit] at h4
          simp only [Bool.or_eq_true, decide_eq_true_eq] at h4
          rcases h4 with (h4 | h4) | h4
          · exact .inl h4
          · exact .inr ⟨e, List.mem_cons_self, hb, r, hr, .inr h4⟩
          · exact .inr ⟨e, List.mem_cons_self, hb, r, hr, .inl h4.symm⟩
        · exact .inr ⟨e', List.mem_cons_of_mem _ h4, h5⟩
theorem inAlR_spec {f : Nat → Option Rec} {n0 anc lo hi b : Nat} : ∀ m, inAlR f n0 anc lo hi b m = true → Al f n0 anc b ∨ (lo ≤ b ∧ b < hi)
  | 0, h => by
    simp only [inAlR, Bool.and_eq_true, Nat.blt_eq, Nat.ble_eq] at h
    exact .inr h
  | m + 1, h => by
    simp only [inAlR, Bool.or_eq_true, Bool.and_eq_true] at h
    rcases h with ⟨h1, h2⟩ | h
    · split at h2
      · rename_i r hr
        simp only [Bool.and_eq_true, Nat.blt_eq, Nat.ble_eq] at h2
        exact .inl (.inr ⟨m, r, hr, h1, h2⟩)
      · cases h2
    · exact inAlR_spec m h
theorem inAl_spec {f : Nat → Option Rec} {n0 anc lo hi b : Nat} (m : Nat) (h : inAl f n0 anc lo hi b m = true) : Al f n0 anc b ∨ (lo ≤ b ∧ b < hi) := by
  unfold inAl at h
  split at h
  · rename_i h1
    exact .inl (.inl (by simpa using h1))
  · exact inAlR_spec m h
section
variable {P : Program} {X : Tab} {call : ACall} {ops : Array Oper} {A : AAct} {H : AH} {slots late : T Nat} {L : Nat → Nat}
theorem dstOk_spec {i d : Nat} (h : dstOk slots i (some d) = true) : slots.get d = some i := by
  unfold dstOk at h
  simp only at h
  split at h
  · rename_i j hj
    rw [hj, beqN h]
  · cases h
theorem dpass_dst : ∀ (l : List Oper) (k : Nat) (s s' : DS), dpass P X call ops.toList slots late H.next l k s = some s' → ∀ j o, l[j]? = some o → dstOk slots (k + j) o.dst = true
  | [], _, _, _, _, j, o, h => by simp at h
  | o :: l, k, s, s', h, j, o', hj => by
    simp only [dpass] at h
    split at h
    case h_2 => cases h
    rename_i s1 h1
    cases j with
    | zero =>
      simp only [List.getElem?_cons_zero, Option.some.injEq] at hj
      subst hj
      unfold dstep at h1
      rw [Option.bind_eq_some_iff] at h1
      obtain ⟨anc, _, h2⟩ := h1
      cases hd : dstOk slots k o.dst with
      | true => simp
      | false => rw [hd, Bool.false_and] at h2; cases h2
    | succ j =>
      have := dpass_dst l (k + 1) s1 s' h j o' (by simpa using hj)
      rwa [show k + (j + 1) = k + 1 + j by omega]
/-- what holds when k operations were gone through -/
structure Good (P : Program) (X : Tab) (call : ACall) (ops : Array Oper) (A : AAct) (H : AH) (L : Nat → Nat) (k : Nat) (s : DS) : Prop where
  none_ : ∀ j, k ≤ j → s.recs.get j = none
  facts : ∀ j, j < k → ∃ (o : Oper) (r : Rec), ops[j]? = some o ∧ s.recs.get j = some r ∧ Fact P X call ops A H L (below s.recs.get j) j o r
  at1 : ∀ (j : Nat) (o : Oper) (r : Rec) (t : Nat), ops[j]? = some o → o.dst = some t → s.recs.get j = some r → s.A.at_ t = r.v
  at2 : ∀ t, (∀ (j : Nat) (o : Oper), j < k → ops[j]? = some o → o.dst ≠ some t) → s.A.at_ t = A.at_ t
  n : s.A.n = A.n
  defers : s.A.defers = A.defers
  lo : H.next ≤ s.next
  next : ∀ j r, s.recs.get j = some r → r.hi ≤ s.next
  ch : ∀ j, Nat.testBit s.ch j = true ↔ ∃ r, s.recs.get j = some r ∧ isChn r
  cur : CurF s.recs.get H s.cur s.mg
theorem denv_fact (hs : ∀ (j : Nat) (o : Oper) (t : Nat), ops[j]? = some o → o.dst = some t → slots.get t = some j) {k : Nat} {s : DS} (g : Good P X call ops A H (lateOf late) k s) {anc : Nat} (hanc : ∀ j, Nat.testBit anc j = true → j < k) : EnvF ops A (lateOf late) k s.recs.get anc (denv s.A slots late k anc) := by
  refine ⟨fun t v h => ?_, fun u v h => ?_, fun _ => rfl, fun q v h => ?_⟩
  · simp only [denv] at h
    by_cases hd : ∃ (j : Nat) (o : Oper), ops[j]? = some o ∧ o.dst = some t
    · obtain ⟨j, o, h1, h2⟩ := hd
      rw [hs j o t h1 h2] at h
      simp only at h
      cases hb : Nat.testBit anc j with
      | false =>
        rw [hb] at h
        simp only [Bool.false_or] at h
        cases hc : (Nat.blt k j && Nat.testBit (lateOf late j) k) with
        | false => rw [hc] at h; cases h
        | true =>
          rw [hc] at h
          injection h with h
          simp only [Bool.and_eq_true, Nat.blt_eq] at hc
          have hu : ∀ (j' : Nat) (o' : Oper), ops[j']? = some o' → o'.dst = some t → j' = j := fun j' o' q1 q2 => by
            have := hs j' o' t q1 q2
            rw [hs j o t h1 h2] at this
            injection this with this
            exact this.symm
          refine .inr ⟨fun j' o' q1 q2 => by rw [hu j' o' q1 q2]; exact hc.2, ?_⟩
          rw [← h]
          exact g.at2 t fun j' o' hj' q1 q2 => by have := hu j' o' q1 q2; omega
      | true =>
        rw [hb] at h
        injection h with h
        obtain ⟨o', r, h3, h4, _⟩ := g.facts j (hanc j hb)
        exact .inl ⟨j, o, r, h1, h2, h4, hb, by rw [← h, g.at1 j o r t h1 h2 h4]⟩
    · have hd' : ∀ (j : Nat) (o : Oper), ops[j]? = some o → o.dst ≠ some t := fun j o h1 h2 => hd ⟨j, o, h1, h2⟩
      have hat := g.at2 t fun j o _ h1 => hd' j o h1
      refine .inr ⟨fun j o h1 h2 => absurd h2 (hd' j o h1), ?_⟩
      split at h
      · injection h with h
        rw [← h, hat]
      · rename_i j _
        cases hb : (Nat.testBit anc j || (Nat.blt k j && Nat.testBit (lateOf late j) k)) with
        | false => rw [hb] at h; cases h
        | true =>
          rw [hb] at h
          injection h with h
          rw [← h, hat]
  · simp only [denv, AAct.env] at h
    cases hf : flatF 8 u with
    | false => rw [hf] at h; cases h
    | true => rw [hf] at h; injection h with h; exact ⟨rfl, h.symm⟩
  · simp only [denv, AAct.env] at h
    injection h with h
    exact h.symm
theorem dwanted_fact {f : Nat → Option Rec} {anc : Nat} {o : Oper} {w : Bool} (h : dwanted ops.toList f anc o = some w) : GuardF ops f anc o w := by
  unfold dwanted at h
  unfold GuardF
  split at h
  · rename_i hg
    injection h with h
    rw [hg]
    exact h.symm
  · rename_i g want hg
    rw [hg]
    simp only
    cases hb : Nat.testBit anc g with
    | false => rw [hb] at h; cases h
    | true =>
      rw [hb] at h
      simp only [cond_true] at h
      refine ⟨rfl, ?_⟩
      split at h
      · rename_i d r h1 h2
        split at h
        · rename_i b hb
          injection h with h
          rw [Option.bind_eq_some_iff] at h1
          obtain ⟨og, h3, h4⟩ := h1
          exact ⟨og, d, r, by simpa using h3, h4, h2, .inl ⟨b, hb, h.symm⟩⟩
        · rename_i cs hb
          injection h with h
          rw [Option.bind_eq_some_iff] at h1
          obtain ⟨og, h3, h4⟩ := h1
          exact ⟨og, d, r, by simpa using h3, h4, h2, .inr ⟨cs, hb, h.symm⟩⟩
        · cases h
      · cases h
/-- forerunners come first, and theirs are its own -/
theorem anc_lt {R : Nat → Option Rec} (hF : ∀ i r, R i = some r → ∃ o, Fact P X call ops A H L (below R i) i o r) : ∀ (i : Nat) (r : Rec) (j : Nat), R i = some r → Nat.testBit r.anc j = true → j < i ∧ ∃ rj, R j = some rj := by
  intro i
  induction i using Nat.strongRecOn with
  | ind i ih =>
    intro r j h hj
    obtain ⟨o, F⟩ := hF i r h
    obtain ⟨e, _, _, re, h1, h2⟩ := F.anc j hj
    obtain ⟨h3, h4⟩ := below_some.1 h1
    rcases h2 with rfl | h2
    · exact ⟨h3, re, h4⟩
    · obtain ⟨h5, h6⟩ := ih e.on h3 re j h4 h2
      exact ⟨by omega, h6⟩
theorem anc_trans {R : Nat → Option Rec} (hF : ∀ i r, R i = some r → ∃ o, Fact P X call ops A H L (below R i) i o r) : ∀ (i : Nat) (r : Rec) (j : Nat) (rj : Rec) (m : Nat), R i = some r → Nat.testBit r.anc j = true → R j = some rj → Nat.testBit rj.anc m = true → Nat.testBit r.anc m = true := by
  intro i
  induction i using Nat.strongRecOn with
  | ind i ih =>
    intro r j rj m h hj hrj hm
    obtain ⟨o, F⟩ := hF i r h
    obtain ⟨e, h0, hb, re, h1, h2⟩ := F.anc j hj
    obtain ⟨h3, h4⟩ := below_some.1 h1
    obtain ⟨_, re', h5, h6⟩ := F.edges e h0 hb
    rw [h1] at h5
    injection h5 with h5
    subst h5
    rcases h2 with rfl | h2
    · rw [h4] at hrj
      injection hrj with hrj
      subst hrj
      exact h6 m hm
    · exact h6 m (ih e.on h3 re j rj m h4 h2 hrj hm)
theorem Good.hF {k : Nat} {s : DS} (g : Good P X call ops A H L k s) : ∀ i r, s.recs.get i = some r → ∃ o, Fact P X call ops A H L (below s.recs.get i) i o r := by
  intro i r e
  rcases Nat.lt_or_ge i k with hi | hi
  · obtain ⟨o, r', _, h1, h2⟩ := g.facts i hi
    rw [e] at h1
    injection h1 with h1
    subst h1
    exact ⟨o, h2⟩
  · rw [g.none_ i hi] at e; cases e
theorem inF_of {f : Nat → Option Rec} {r : Rec} {i : Nat} {n0 : Nat} {q : (Nat → Bool) → Bool} (h : q (fun b => inAl f n0 r.anc r.lo r.hi b i) = true) : InF f n0 r q := ⟨_, h, fun _ hb => inAl_spec i hb⟩
theorem drec_fact {k : Nat} {s : DS} (g : Good P X call ops A H L k s) {anc : Nat} {ρ : Env} {o : Oper} {r : Rec} (h : drec P X call H.next s ρ o k anc = some r) : r.anc = anc ∧ r.lo = s.next ∧ r.lo ≤ r.hi ∧
    WorkF P X call H s.recs.get k o r ρ := by
  unfold drec at h
  split at h
  · rename_i kd v hl
    generalize hin : (allIn (fun b => inAl s.recs.get H.next anc s.next (kdHi s.next kd) b k) 8 v && kdIn (fun b => inAl s.recs.get H.next anc s.next (kdHi s.next kd) b k) kd) = c at h
    cases c with
    | false => cases h
    | true =>
      injection h with h
      subst h
      unfold dloc at hl
      split at hl
      · rename_i hc
        split at hl
        · rename_i u G hu
          injection hl with hl
          injection hl with h1 h2
          subst h1 h2
          simp only [Bool.and_eq_true] at hin
          exact ⟨rfl, rfl, Nat.le_refl _, .inl ⟨rfl, rfl, aop_quiet rfl hc hu, inF_of (r := ⟨.loc, u, anc, s.next, s.next⟩) hin.1⟩⟩
        · cases hl
      · split at hl
        · rename_i t x ho
          rw [Option.bind_eq_some_iff] at hl
          obtain ⟨p, h1, h2⟩ := hl
          rw [Option.bind_eq_some_iff] at h2
          obtain ⟨u, h3, h4⟩ := h2
          injection h4 with h4
          injection h4 with h4 h5
          subst h4 h5
          simp only [Bool.and_eq_true] at hin
          exact ⟨rfl, rfl, Nat.le_refl _, .inr (.inl ⟨_, rfl, rfl, .inl ⟨t, x, p, ho, h1, rfl⟩, ⟨s.cur, s.mg, g.cur, h3⟩, inF_of (r := ⟨.loc, u, anc, s.next, s.next⟩) hin.1⟩)⟩
        · cases hl
      · rename_i hc
        split at hl
        · rename_i u G hu
          rw [Option.bind_eq_some_iff] at hl
          obtain ⟨ob, h1, h2⟩ := hl
          injection h2 with h2
          injection h2 with h2 h3
          subst h2 h3
          obtain ⟨ob', k1, k2, k3⟩ := aop_new hc hu
          rw [k1] at h1
          injection h1 with h1
          subst h1
          exact ⟨rfl, rfl, by simp [kdHi], .inr (.inr (.inl ⟨ob', rfl, rfl, k2, k3, inF_of (r := ⟨.fresh ob', u, anc, s.next, s.next + 1⟩) (q := fun p => allIn p 8 u && kdIn p (.fresh ob')) hin⟩))⟩
        · cases hl
      · rename_i hc
        split at hl
        · rename_i u hu
          injection hl with hl
          injection hl with h1 h2
          subst h1 h2
          simp only [Bool.and_eq_true] at hin
          exact ⟨rfl, rfl, Nat.le_refl _, .inl ⟨rfl, rfl, aop_flat (.inl hc) hu, inF_of (r := ⟨.loc, u, anc, s.next, s.next⟩) hin.1⟩⟩
        · cases hl
      · rename_i hc
        split at hl
        · rename_i u hu
          injection hl with hl
          injection hl with h1 h2
          subst h1 h2
          simp only [Bool.and_eq_true] at hin
          exact ⟨rfl, rfl, Nat.le_refl _, .inl ⟨rfl, rfl, aop_flat (.inr hc) hu, inF_of (r := ⟨.loc, u, anc, s.next, s.next⟩) hin.1⟩⟩
        · cases hl
        · split at hl
          · rename_i t x a b m ho
            simp only [Option.bind_eq_some_iff] at hl
            obtain ⟨w, h1, l, h2, hh, h3, m', h4, u, h5, h6⟩ := hl
            injection h6 with h6
            injection h6 with h6 h7
            subst h6 h7
            simp only [Bool.and_eq_true] at hin
            exact ⟨rfl, rfl, Nat.le_refl _, .inr (.inl ⟨_, rfl, rfl, .inr ⟨t, x, a, b, m, w, l, hh, m', ho, h1, h2, h3, h4, rfl⟩, ⟨s.cur, s.mg, g.cur, h5⟩, inF_of (r := ⟨.loc, u, anc, s.next, s.next⟩) hin.1⟩)⟩
          · cases hl
      · cases hl
  · cases hb : Nat.beq (s.ch &&& anc) s.ch with
    | false => rw [hb] at h; cases h
    | true =>
      rw [hb] at h
      simp only [cond_true] at h
      split at h
      · rename_i v H2 he
        cases hle : Nat.ble s.next H2.next with
        | false => rw [hle] at h; cases h
        | true =>
          rw [hle] at h
          injection h with h
          subst h
          refine ⟨rfl, rfl, by simpa using hle, .inr (.inr (.inr ⟨H2.tab, s.cur, s.mg, rfl, g.cur, fun j rj h1 h2 => ?_, he⟩))⟩
          have h3 := (g.ch j).2 ⟨rj, h1, h2⟩
          have h4 : (s.ch &&& anc) = s.ch := beqN hb
          rw [← h4, Nat.testBit_and] at h3
          simp only [Bool.and_eq_true] at h3
          exact h3.2
      · cases h
theorem dstep_good (hsz : ops.size < 100000) (hs : ∀ (j : Nat) (o : Oper) (t : Nat), ops[j]? = some o → o.dst = some t → slots.get t = some j) {k : Nat} {o : Oper} {s s' : DS} (ho : ops[k]? = some o) (g : Good P X call ops A H (lateOf late) k s)
    (h : dstep P X call ops.toList slots late H.next k o s = some s') : Good P X call ops A H (lateOf late) (k + 1) s' := by
  have hk : k < ops.size := (Array.getElem?_eq_some_iff.1 ho).1
  unfold dstep at h
  rw [Option.bind_eq_some_iff] at h
  obtain ⟨anc, h1, h2⟩ := h
  cases hd : (dstOk slots k o.dst && Nat.beq anc (lateOf late k)) with
  | false => rw [hd] at h2; cases h2
  | true =>
    have hlate : anc = lateOf late k := Nat.eq_of_beq_eq_true (Bool.and_eq_true_iff.1 hd).2
    rw [hd] at h2
    simp only [cond_true, Option.bind_eq_some_iff] at h2
    obtain ⟨w, h3, r, h4, A', h5, h6⟩ := h2
    injection h6 with h6
    obtain ⟨_, a2, a3⟩ := ancOf_spec _ _ _ h1
    have hlt : ∀ j r, s.recs.get j = some r → j < k := fun j r e => by
      rcases Nat.lt_or_ge j k with hj | hj
      · exact hj
      · rw [g.none_ j hj] at e; cases e
    have hanc : ∀ j, Nat.testBit anc j = true → j < k := fun j hj => by
      rcases a3 j hj with h7 | ⟨e, _, _, re, h7, h8⟩
      · simp at h7
      · rcases h8 with rfl | h8
        · exact hlt _ _ h7
        · have := hlt _ _ h7
          have := (anc_lt g.hF e.on re j h7 h8).1
          omega
    have hw := dwanted_fact (ops := ops) h3
    have hE := denv_fact hs g hanc
    obtain ⟨hd1, hd2, hd3⟩ : (∀ d, o.dst = some d → d < s.A.n ∧ d < 16777215 ∧ A' = ⟨s.A.tmps.set d (some r.v), s.A.n, s.A.defers⟩) ∧ (o.dst = none → A' = s.A) ∧ True := by
      unfold AAct.put at h5
      refine ⟨fun d e => ?_, fun e => ?_, trivial⟩
      · rw [e] at h5
        simp only at h5
        cases hc : (Nat.blt d s.A.n && Nat.blt d 16777215) with
        | false => rw [hc] at h5; cases h5
        | true =>
          rw [hc] at h5
          injection h5 with h5
          simp only [Bool.and_eq_true, Nat.blt_eq] at hc
          exact ⟨hc.1, hc.2, h5.symm⟩
      · rw [e] at h5
        simp only at h5
        injection h5 with h5
        exact h5.symm
    have hr : r.anc = anc ∧ r.lo = s.next ∧ r.lo ≤ r.hi ∧ (GuardF ops s.recs.get r.anc o false ∧ r.kd = .loc ∧ r.v = undef ∧ r.hi = r.lo ∨ ∃ ρ, EnvF ops A (lateOf late) k s.recs.get r.anc ρ ∧ GuardF ops s.recs.get r.anc o true ∧ WorkF P X call H s.recs.get k o r ρ) := by
      cases w with
      | false =>
        simp only [cond_false] at h4
        injection h4 with h4
        subst h4
        exact ⟨rfl, rfl, Nat.le_refl _, .inl ⟨hw, rfl, rfl, rfl⟩⟩
      | true =>
        simp only [cond_true] at h4
        obtain ⟨b1, b2, b3, b4⟩ := drec_fact g h4
        subst b1
        exact ⟨rfl, b2, b3, .inr ⟨_, hE, hw, b4⟩⟩
    obtain ⟨b1, b2, b3, b4⟩ := hr
    subst b1
    have hrec : s'.recs = s.recs.set k (some r) := by rw [← h6]; unfold dnext; split <;> rfl
    have hA : s'.A = A' := by rw [← h6]; unfold dnext; split <;> rfl
    have hnx : s'.next = r.hi := by rw [← h6]; unfold dnext; split <;> rfl
    have hget : ∀ j, s'.recs.get j = if j = k then some r else s.recs.get j := fun j => by rw [hrec]; exact T.get_set _ _ _ _ (by omega)
    have hgk : s'.recs.get k = some r := by rw [hget, if_pos rfl]
    have hgn : ∀ j, j ≠ k → s'.recs.get j = s.recs.get j := fun j hj => by rw [hget, if_neg hj]
    have hbk : below s'.recs.get k = s.recs.get := by
      funext j
      unfold below
      by_cases hj : j < k
      · rw [if_pos hj, hgn j (by omega)]
      · rw [if_neg hj, g.none_ j (by omega)]
    have hbj : ∀ j, j ≤ k → below s'.recs.get j = below s.recs.get j := fun j hj => by
      funext m
      unfold below
      by_cases hm : m < j
      · rw [if_pos hm, if_pos hm, hgn m (by omega)]
      · rw [if_neg hm, if_neg hm]
    have hchn : ∀ tab, r.kd = .chn tab → s'.cur = tab ∧ s'.mg = r.anc ∧ s'.ch = s.ch ||| (1 <<< k) := fun tab e => by rw [← h6]; unfold dnext; rw [e]; exact ⟨rfl, rfl, rfl⟩
    have hnchn : ¬ isChn r → s'.cur = s.cur ∧ s'.mg = s.mg ∧ s'.ch = s.ch := fun e => by
      rw [← h6]
      unfold dnext
      split
      · rename_i t ht; exact absurd ⟨t, ht⟩ e
      · exact ⟨rfl, rfl, rfl⟩
    refine ⟨fun j hj => by rw [hgn j (by omega)]; exact g.none_ j (by omega), fun j hj => ?_, fun j o' r' t q1 q2 q3 => ?_, fun t q => ?_, ?_, ?_, ?_, fun j r' q => ?_, fun j => ?_, ?_⟩
    · by_cases e : j = k
      · subst e
        refine ⟨o, r, ho, hgk, ?_⟩
        rw [hbk]
        exact ⟨a2, fun j hj => (a3 j hj).resolve_left (by simp), by rw [b2]; exact g.lo, b3, fun j rj q => by rw [b2]; exact g.next j rj q, fun d e => by rw [← g.n]; exact (hd1 d e).1, hlate, b4⟩
      · obtain ⟨o', r', q1, q2, q3⟩ := g.facts j (by omega)
        exact ⟨o', r', q1, by rw [hgn j e]; exact q2, by rw [hbj j (by omega)]; exact q3⟩
    · rw [hA]
      by_cases e : j = k
      · subst e
        rw [ho] at q1
        injection q1 with q1
        subst q1
        rw [hgk] at q3
        injection q3 with q3
        subst q3
        obtain ⟨_, m1, m2⟩ := hd1 t q2
        rw [m2]
        simp only [AAct.at_]
        rw [T.get_set _ _ _ _ m1, if_pos rfl]
      · rw [hgn j e] at q3
        have hne : ∀ d, o.dst = some d → t ≠ d := fun d q4 q5 => by
          subst q5
          have n1 := hs j o' t q1 q2
          have n2 := hs k o t ho q4
          rw [n1] at n2
          injection n2 with n2
          exact e n2
        cases hdo : o.dst with
        | none => rw [hd2 hdo]; exact g.at1 j o' r' t q1 q2 q3
        | some d =>
          obtain ⟨_, m1, m2⟩ := hd1 d hdo
          rw [m2, ← g.at1 j o' r' t q1 q2 q3]
          simp only [AAct.at_]
          rw [T.get_set_ne _ _ _ _ (hne d hdo)]
    · rw [hA, ← g.at2 t fun j o' q1 q2 => q j o' (by omega) q2]
      cases hdo : o.dst with
      | none => rw [hd2 hdo]
      | some d =>
        obtain ⟨_, m1, m2⟩ := hd1 d hdo
        rw [m2]
        simp only [AAct.at_]
        rw [T.get_set_ne _ _ _ _ (fun e => by subst e; exact q k o (by omega) ho hdo)]
    · rw [hA, ← g.n]
      cases hdo : o.dst with
      | none => rw [hd2 hdo]
      | some d => rw [(hd1 d hdo).2.2]
    · rw [hA, ← g.defers]
      cases hdo : o.dst with
      | none => rw [hd2 hdo]
      | some d => rw [(hd1 d hdo).2.2]
    · rw [hnx]
      have := g.lo
      omega
    · rw [hnx]
      by_cases e : j = k
      · subst e
        rw [hgk] at q
        injection q with q
        subst q
        exact Nat.le_refl _
      · rw [hgn j e] at q
        have := g.next j r' q
        omega
    · by_cases hc : isChn r
      · obtain ⟨tab, hc⟩ := hc
        rw [(hchn tab hc).2.2, Nat.testBit_or, Nat.one_shiftLeft, Nat.testBit_two_pow]
        simp only [Bool.or_eq_true, decide_eq_true_eq]
        by_cases e : j = k
        · subst e
          exact ⟨fun _ => ⟨r, hgk, tab, hc⟩, fun _ => .inr rfl⟩
        · rw [hgn j e, ← g.ch j]
          exact ⟨fun q => q.resolve_right (fun q => e q.symm), .inl⟩
      · rw [(hnchn hc).2.2, g.ch j]
        by_cases e : j = k
        · subst e
          rw [hgk, g.none_ j (Nat.le_refl _)]
          exact ⟨fun ⟨r', q, _⟩ => (by cases q), fun ⟨r', q, q'⟩ => (by injection q with q; subst q; exact absurd q' hc)⟩
        · rw [hgn j e]
    · by_cases hc : isChn r
      · obtain ⟨tab, hc⟩ := hc
        refine .inr ⟨k, r, hgk, by rw [(hchn tab hc).1]; exact hc, (hchn tab hc).2.1, fun j r' q _ => ?_⟩
        by_cases e : j = k
        · omega
        · rw [hgn j e] at q
          exact Nat.le_of_lt (hlt j r' q)
      · obtain ⟨c1, c2, _⟩ := hnchn hc
        rw [c1, c2]
        rcases g.cur with ⟨q1, q2, q3⟩ | ⟨c, rc, q1, q2, q3, q4⟩
        · refine .inl ⟨fun j r' q => ?_, q2, q3⟩
          by_cases e : j = k
          · subst e
            rw [hgk] at q
            injection q with q
            subst q
            exact hc
          · rw [hgn j e] at q
            exact q1 j r' q
        · refine .inr ⟨c, rc, by rw [hgn c (by have := hlt _ _ q1; omega)]; exact q1, q2, q3, fun j r' q q' => ?_⟩
          by_cases e : j = k
          · subst e
            rw [hgk] at q
            injection q with q
            subst q
            exact absurd q' hc
          · rw [hgn j e] at q
            exact q4 j r' q q'
theorem dpass_good (hsz : ops.size < 100000) (hs : ∀ (j : Nat) (o : Oper) (t : Nat), ops[j]? = some o → o.dst = some t → slots.get t = some j) : ∀ (l : List Oper) (k : Nat) (s s' : DS), (∀ j, l[j]? = ops[k + j]?) → Good P X call ops A H (lateOf late) k s →
    dpass P X call ops.toList slots late H.next l k s = some s' → Good P X call ops A H (lateOf late) (k + l.length) s'
  | [], k, s, s', _, g, h => by
    simp only [dpass] at h
    injection h with h
    subst h
    exact g
  | o :: l, k, s, s', hl, g, h => by
    simp only [dpass] at h
    split at h
    case h_2 => cases h
    rename_i s1 h1
    have h0 : ops[k]? = some o := by simpa using (hl 0).symm
    have := dpass_good hsz hs l (k + 1) s1 s' (fun j => by have := hl (j + 1); simpa [Nat.add_assoc, Nat.add_comm 1 j] using this) (dstep_good hsz hs h0 g h1) h
    simpa [Nat.add_assoc, Nat.add_comm 1] using this
theorem good_nil : Good P X call ops A H (lateOf late) 0 ⟨A, .lf, H.tab, 0, 0, H.next⟩ :=
  ⟨fun _ _ => rfl, fun j h => (by omega), fun j o r t _ _ h => (by cases h), fun t _ => rfl, rfl, rfl, Nat.le_refl _, fun j r h => (by cases h), fun j => ⟨fun h => (by simp at h), fun ⟨r, h, _⟩ => (by cases h)⟩, .inl ⟨fun j r h => (by cases h), rfl, rfl⟩⟩
end
end
end Go.Proofs.YtnckhmfajjcgpaaGreatDoor.Ev
namespace Go.Proofs.YtnckhmfajjcgpaaGreatDoor.Ev
noncomputable section
section
variable {P : Program} {X : Tab} {call : ACall} {ops : Array Oper} {A : AAct} {H : AH}
theorem addFresh_spec {f : Nat → Option Rec} {p : Nat → Bool} (hd : ∀ j j' r r' ob ob', f j = some r → f j' = some r' → r.kd = .fresh ob → r'.kd = .fresh ob' → r.lo = r'.lo → j = j') (hb : ∀ j r ob, f j = some r → r.kd = .fresh ob → r.lo < 16777215) (t : T AObj) : ∀ m,
    (∀ j r ob, j < m → p j = true → f j = some r → r.kd = .fresh ob → (addFresh f p m t).get r.lo = some ob) ∧
    (∀ id, (∀ j r ob, j < m → p j = true → f j = some r → r.kd = .fresh ob → r.lo ≠ id) → (addFresh f p m t).get id = t.get id)
  | 0 => ⟨fun j r ob h => (by omega), fun _ _ => rfl⟩
  | m + 1 => by
    obtain ⟨ih1, ih2⟩ := addFresh_spec hd hb t m
    cases hp : p m with
    | false =>
      simp only [addFresh, hp]
      refine ⟨fun j r ob h1 h2 h3 h4 => ?_, fun id h => ih2 id fun j r ob h1 => h j r ob (by omega)⟩
      by_cases e : j = m
      · subst e; rw [hp] at h2; cases h2
      · exact ih1 j r ob (by omega) h2 h3 h4
    | true =>
      simp only [addFresh, hp]
      cases hf : f m with
      | none =>
        refine ⟨fun j r ob h1 h2 h3 h4 => ?_, fun id h => ih2 id fun j r ob h1 => h j r ob (by omega)⟩
        by_cases e : j = m
        · subst e; rw [hf] at h3; cases h3
        · exact ih1 j r ob (by omega) h2 h3 h4
      | some r0 =>
        have rest : (∀ ob, r0.kd ≠ .fresh ob) → (∀ j r ob, j < m + 1 → p j = true → f j = some r → r.kd = .fresh ob → (addFresh f p m t).get r.lo = some ob) ∧
            (∀ id, (∀ j r ob, j < m + 1 → p j = true → f j = some r → r.kd = .fresh ob → r.lo ≠ id) → (addFresh f p m t).get id = t.get id) := by
          intro hk
          refine ⟨fun j r ob h1 h2 h3 h4 => ?_, fun id h => ih2 id fun j r ob h1 => h j r ob (by omega)⟩
          by_cases e : j = m
          · subst e
            rw [hf] at h3
            injection h3 with h3
            subst h3
            exact absurd h4 (hk ob)
          · exact ih1 j r ob (by omega) h2 h3 h4
        cases hk : r0.kd with
        | loc => simpa only [hk] using rest fun ob => by rw [hk]; exact fun h => by cases h
        | read q => simpa only [hk] using rest fun ob => by rw [hk]; exact fun h => by cases h
        | chn t => simpa only [hk] using rest fun ob => by rw [hk]; exact fun h => by cases h
        | fresh ob0 =>
          simp only [hk]
          have hlt := hb m r0 ob0 hf hk
          refine ⟨fun j r ob h1 h2 h3 h4 => ?_, fun id h => ?_⟩
          · rw [T.get_set _ _ _ _ hlt]
            by_cases e : j = m
            · subst e
              rw [hf] at h3
              injection h3 with h3
              subst h3
              rw [hk] at h4
              injection h4 with h4
              rw [if_pos rfl, h4]
            · rw [if_neg (fun q => e (hd j m r r0 ob ob0 h3 hf h4 hk q))]
              exact ih1 j r ob (by omega) h2 h3 h4
          · rw [T.get_set _ _ _ _ hlt, if_neg (fun q => h m r0 ob0 (by omega) hp hf hk q.symm)]
            exact ih2 id fun j r ob h1 => h j r ob (by omega)
/-- all that the pass has shown -/
structure Plan (P : Program) (X : Tab) (call : ACall) (ops : Array Oper) (A : AAct) (H : AH) (L : Nat → Nat) (R : Nat → Option Rec) (N : Nat) : Prop where
  facts : ∀ (i : Nat) (o : Oper), ops[i]? = some o → ∃ r, R i = some r ∧ Fact P X call ops A H L (below R i) i o r
  dom : ∀ i r, R i = some r → ∃ o, ops[i]? = some o ∧ Fact P X call ops A H L (below R i) i o r
  top : ∀ i r, R i = some r → r.hi ≤ N
  topH : H.next ≤ N
  uniq : ∀ (i j : Nat) (oi oj : Oper) (d : Nat), ops[i]? = some oi → ops[j]? = some oj → oi.dst = some d → oj.dst = some d → i = j
  pair : ∀ i r q, R i = some r → r.kd = .read q →
    (∀ j rj tab, R j = some rj → rj.kd = .chn tab → Nat.testBit rj.anc i = false → (∀ c rc, R c = some rc → isChn rc → Nat.testBit r.anc c = true → c = j ∨ Nat.testBit rj.anc c = true) → q tab = some r.v) ∧
    ((∀ c rc, R c = some rc → isChn rc → Nat.testBit r.anc c = false) → q H.tab = some r.v)
variable {L : Nat → Nat} {R : Nat → Option Rec} {N : Nat}
def AlF (R : Nat → Option Rec) (n0 : Nat) (r : Rec) : Ids := fun b => Al R n0 r.anc b ∨ (r.lo ≤ b ∧ b < r.hi)
theorem Plan.hF (p : Plan P X call ops A H L R N) : ∀ i r, R i = some r → ∃ o, Fact P X call ops A H L (below R i) i o r := fun i r h => by
  obtain ⟨o, _, h⟩ := p.dom i r h
  exact ⟨o, h⟩
theorem Plan.lo (p : Plan P X call ops A H L R N) {i : Nat} {r : Rec} (h : R i = some r) : H.next ≤ r.lo := by
  obtain ⟨o, F⟩ := p.hF i r h
  exact F.lo
theorem Plan.le (p : Plan P X call ops A H L R N) {i : Nat} {r : Rec} (h : R i = some r) : r.lo ≤ r.hi := by
  obtain ⟨o, F⟩ := p.hF i r h
  exact F.le
theorem Plan.before (p : Plan P X call ops A H L R N) {i j : Nat} {r rj : Rec} (h : R i = some r) (hj : R j = some rj) (hlt : j < i) : rj.hi ≤ r.lo := by
  obtain ⟨o, F⟩ := p.hF i r h
  exact F.before j rj (below_some.2 ⟨hlt, hj⟩)
theorem Plan.dis (p : Plan P X call ops A H L R N) {i j : Nat} {r rj : Rec} (h : R i = some r) (hj : R j = some rj) {b : Nat} (h1 : r.lo ≤ b) (h2 : b < r.hi) (h3 : rj.lo ≤ b) (h4 : b < rj.hi) : i = j := by
  rcases Nat.lt_trichotomy i j with h5 | h5 | h5
  · have := p.before hj h h5; omega
  · exact h5
  · have := p.before h hj h5; omega
theorem Plan.lt (p : Plan P X call ops A H L R N) {i j : Nat} {r : Rec} (h : R i = some r) (hj : Nat.testBit r.anc j = true) : j < i ∧ ∃ rj, R j = some rj := anc_lt p.hF i r j h hj
theorem Plan.trans (p : Plan P X call ops A H L R N) {i j m : Nat} {r rj : Rec} (h : R i = some r) (hj : Nat.testBit r.anc j = true) (hrj : R j = some rj) (hm : Nat.testBit rj.anc m = true) : Nat.testBit r.anc m = true := anc_trans p.hF i r j rj m h hj hrj hm
theorem Plan.fresh (p : Plan P X call ops A H L R N) {i : Nat} {r : Rec} {ob : AObj} (h : R i = some r) (hk : r.kd = .fresh ob) : r.hi = r.lo + 1 ∧ r.lo ≤ 16000000 := by
  obtain ⟨o, F⟩ := p.hF i r h
  rcases F.work with ⟨_, h1, _⟩ | ⟨ρ, _, _, ⟨h1, _⟩ | ⟨_, h1, _⟩ | ⟨_, h1, h2, h3, _⟩ | ⟨_, _, _, h1, _⟩⟩
  · rw [h1] at hk; cases hk
  · rw [h1] at hk; cases hk
  · rw [h1] at hk; cases hk
  · exact ⟨h2, h3⟩
  · rw [h1] at hk; cases hk
theorem Plan.same (p : Plan P X call ops A H L R N) {i j : Nat} {r rj : Rec} {ob ob' : AObj} (h : R i = some r) (hj : R j = some rj) (hk : r.kd = .fresh ob) (hk' : rj.kd = .fresh ob') (e : r.lo = rj.lo) : i = j :=
  p.dis h hj (b := r.lo) (Nat.le_refl _) (by rw [(p.fresh h hk).1]; omega) (by omega) (by rw [(p.fresh hj hk').1]; omega)
/-- what a forerunner may name, its follower may -/
theorem Plan.al (p : Plan P X call ops A H L R N) {i j : Nat} {r rj : Rec} (h : R i = some r) (hj : Nat.testBit r.anc j = true) (hrj : R j = some rj) {b : Nat} (hb : AlF R H.next rj b) : Al R H.next r.anc b := by
  rcases hb with (hb | ⟨m, rm, h1, h2, h3⟩) | hb
  · exact .inl hb
  · exact .inr ⟨m, rm, h1, p.trans h hj hrj h2, h3⟩
  · exact .inr ⟨j, rj, hrj, hj, hb⟩
theorem Plan.not_al (p : Plan P X call ops A H L R N) {j : Nat} {rj : Rec} {anc b : Nat} (hrj : R j = some rj) (h1 : rj.lo ≤ b) (h2 : b < rj.hi) (hn : Nat.testBit anc j = false) : ¬ Al R H.next anc b := by
  rintro (h | ⟨m, rm, h3, h4, h5, h6⟩)
  · have := p.lo hrj; omega
  · have := p.dis hrj h3 h1 h2 h5 h6
    subst this
    rw [hn] at h4
    cases h4
theorem al_below {i : Nat} {n0 anc b : Nat} (h : Al (below R i) n0 anc b) : Al R n0 anc b := by
  rcases h with h | ⟨j, r, h1, h2⟩
  · exact .inl h
  · exact .inr ⟨j, r, (below_some.1 h1).2, h2⟩
/-- no number of a fresh block that is still apart -/
def Apart (R : Nat → Option Rec) (D : Nat → Prop) (mg : Nat) (id : Nat) : Prop := ∀ j r ob, D j → R j = some r → r.kd = .fresh ob → Nat.testBit mg j = false → r.lo ≠ id
structure View (R : Nat → Option Rec) (D : Nat → Prop) (mg : Nat) (cur : T AObj) (g : Nat → Option AObj) : Prop where
  fresh : ∀ j r ob, D j → R j = some r → r.kd = .fresh ob → Nat.testBit mg j = false → g r.lo = some ob
  old : ∀ id, Apart R D mg id → g id = cur.get id
theorem Plan.view (p : Plan P X call ops A H L R N) {D : Nat → Prop} {mg m : Nat} {q : Nat → Bool} (f : Nat → Option Rec) (hf : ∀ j r, f j = some r ↔ (j < m ∧ R j = some r)) (hq : ∀ j, (q j = true ∧ j < m) ↔ (D j ∧ j < m ∧ Nat.testBit mg j = false)) (hD : ∀ j r ob, D j → R j = some r → r.kd = .fresh ob → Nat.testBit mg j = false → j < m) (cur : T AObj) : View R D mg cur (addFresh f q m cur).get := by
  obtain ⟨h1, h2⟩ := addFresh_spec (f := f) (p := q) (fun j j' r r' ob ob' a b c d e => p.same ((hf _ _).1 a).2 ((hf _ _).1 b).2 c d e) (fun j r ob a b => by have := (p.fresh ((hf _ _).1 a).2 b).2; omega) cur m
  refine ⟨fun j r ob a b c d => h1 j r ob (hD j r ob a b c d) ((hq j).2 ⟨a, hD j r ob a b c d, d⟩).1 ((hf _ _).2 ⟨hD j r ob a b c d, b⟩) c, fun id h => h2 id fun j r ob a b c d => ?_⟩
  obtain ⟨e1, e2, e3⟩ := (hq j).1 ⟨b, a⟩
  exact h j r ob e1 ((hf _ _).1 c).2 d e3
/-- where the memory stands when these have run -/
def CurD (R : Nat → Option Rec) (H : AH) (D : Nat → Prop) (cur : T AObj) (mg : Nat) (alc : Ids) : Prop :=
  ((∀ j r, D j → R j = some r → ¬ isChn r) ∧ cur = H.tab ∧ mg = 0 ∧ alc = fun b => b < H.next) ∨
  ∃ c r, D c ∧ R c = some r ∧ r.kd = .chn cur ∧ mg = r.anc ∧ (∀ j r', D j → R j = some r' → isChn r' → j ≤ c) ∧ alc = AlF R H.next r
def regOf (R : Nat → Option Rec) (n0 : Nat) (D : Nat → Prop) (mg : Nat) (alc : Ids) : Nat → Ids := fun id b =>
  (∃ j r ob, D j ∧ R j = some r ∧ r.kd = .fresh ob ∧ Nat.testBit mg j = false ∧ r.lo = id ∧ AlF R n0 r b) ∨ (Apart R D mg id ∧ alc b)
/-- a fresh block that is still apart is named by nothing of the memory's last state -/
theorem Plan.unm (p : Plan P X call ops A H L R N) {D : Nat → Prop} {cur : T AObj} {mg : Nat} {alc : Ids} (hc : CurD R H D cur mg alc) {j : Nat} {r : Rec} {ob : AObj} (hr : R j = some r) (hk : r.kd = .fresh ob) (hm : Nat.testBit mg j = false) : ¬ alc r.lo := by
  have hfr := p.fresh hr hk
  rcases hc with ⟨_, _, rfl, rfl⟩ | ⟨c, rc, _, h1, h2, rfl, _, rfl⟩
  · have := p.lo hr
    simp only
    omega
  · rintro (h | ⟨h3, h4⟩)
    · exact p.not_al hr (Nat.le_refl _) (by omega) hm h
    · have := p.dis hr h1 (Nat.le_refl _) (by omega) h3 h4
      subst this
      rw [hr] at h1
      injection h1 with h1
      subst h1
      rw [hk] at h2
      cases h2
structure Inv0 (P : Program) (ops : Array Oper) (A : AAct) (H : AH) (R : Nat → Option Rec) (B : Nat) (σ0 : Ren) (S0 : Ids) (W0 : World) (a0 : Act) (D : Nat → Prop) (a : Act) (W : World) (σ : Ren) (S : Ids) (Hd : AH) (cur : T AObj) (mg : Nat) (alc : Ids) : Prop where
  curD : CurD R H D cur mg alc
  view : View R D mg cur Hd.get
  rr : RR σ S Hd.get (regOf R H.next D mg alc) W B
  lv : ∀ id o, cur.get id = some o → alc id
  evo : Evo σ0 S0 W0 σ S W
  ids : ∀ b, S b → S0 b ∨ ∃ j r, D j ∧ R j = some r ∧ r.lo ≤ b ∧ b < r.hi
  slots : ∀ (j : Nat) (o : Oper) (t : Nat) (r : Rec), ops[j]? = some o → o.dst = some t → D j → R j = some r → VR σ (cut S (AlF R H.next r)) r.v (a.tmps.getD t undef)
  slots0 : ∀ t, (∀ (j : Nat) (o : Oper), ops[j]? = some o → o.dst = some t → ¬ D j) → VR σ (cut S (fun b => b < H.next)) (A.at_ t) (a.tmps.getD t undef)
  size : a.tmps.size = A.n
  defs : a.defers = a0.defers
  down : ∀ j r m, D j → R j = some r → Nat.testBit r.anc m = true → D m
  base : B ≤ W.heap.size
end
end
end Go.Proofs.YtnckhmfajjcgpaaGreatDoor.Ev
