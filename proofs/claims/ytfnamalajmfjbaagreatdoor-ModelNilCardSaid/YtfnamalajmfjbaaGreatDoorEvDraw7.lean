/- Regions whose order is drawn: every order. -/
import Derived.Test.YtfnamalajmfjbaaGreatDoorEvDraw6
import Derived.Test.YtfnamalajmfjbaaGreatDoorEvCall
set_option linter.unusedVariables false
set_option linter.unusedSimpArgs false
namespace Go.Proofs.YtfnamalajmfjbaaGreatDoor.Ev
noncomputable section
section
variable {P : Program} {X : Tab} {call : ACall} {ops : Array Oper} {A : AAct} {H : AH} {R : Nat → Option Rec} {N : Nat} {B : Nat} {σ0 : Ren} {S0 : Ids} {W0 : World} {a0 : Act}
theorem ready_mem {listed : Array Bool} {i : Nat} : i ∈ Region.ready .any ops listed ↔ ∃ o, ops[i]? = some o ∧ listed.getD i true = false ∧ ∀ e ∈ o.after.toList, Region.binds .any e = true → listed.getD e.on false = true := by
  unfold Region.ready
  simp only [List.mem_filter, List.mem_range, Bool.and_eq_true, Bool.not_eq_true']
  constructor
  · rintro ⟨h1, h2, h3⟩
    rw [Array.getElem?_eq_getElem h1] at h3
    simp only [Option.map_some, Option.getD_some, Array.all_eq_true_iff_forall_mem, Bool.or_eq_true, Bool.not_eq_true'] at h3
    refine ⟨_, Array.getElem?_eq_getElem h1, h2, fun e he hb => ?_⟩
    rcases h3 e (by simpa using he) with h4 | h4
    · rw [hb] at h4; cases h4
    · exact h4
  · rintro ⟨o, h1, h2, h3⟩
    refine ⟨(Array.getElem?_eq_some_iff.1 h1).1, h2, ?_⟩
    rw [h1]
    simp only [Option.map_some, Option.getD_some, Array.all_eq_true_iff_forall_mem, Bool.or_eq_true, Bool.not_eq_true']
    intro e he
    cases hb : Region.binds .any e with
    | false => exact .inl rfl
    | true => exact .inr (h3 e (by simpa using he) hb)
theorem all_listed (p : Plan P X call ops A H R N) {listed : Array Bool} (hs : listed.size = ops.size) (h : Region.ready .any ops listed = []) : ∀ j, j < ops.size → listed.getD j false = true := by
  intro j
  induction j using Nat.strongRecOn with
  | ind j ih =>
    intro hj
    cases hl : listed.getD j false with
    | true => rfl
    | false =>
      have hl' : listed.getD j true = false := by
        rw [Array.getD_eq_getD_getElem?, Array.getElem?_eq_getElem (by omega)] at hl ⊢
        exact hl
      have ho : ops[j]? = some ops[j] := Array.getElem?_eq_getElem hj
      obtain ⟨r, hr, F⟩ := p.facts j _ ho
      have : j ∈ Region.ready .any ops listed := ready_mem.2 ⟨_, ho, hl', fun e he hb => by
        obtain ⟨h1, _⟩ := F.edges e he hb
        have := (p.lt hr h1).1
        exact ih e.on this (by omega)⟩
      rw [h] at this
      cases this
theorem count_set {listed : Array Bool} {i : Nat} (hi : i < listed.size) (h : listed.getD i true = false) : (listed.setIfInBounds i true).toList.count false + 1 = listed.toList.count false := by
  have h1 : listed.toList[i]'(by simpa using hi) = false := by
    rw [Array.getD_eq_getD_getElem?, Array.getElem?_eq_getElem hi] at h
    simpa using h
  have hp : 0 < listed.toList.count false := List.count_pos_iff.2 (by rw [← h1]; exact List.getElem_mem _)
  have h2 : (listed.toList.set i true).count false = listed.toList.count false - 1 := by
    rw [List.count_set (by simpa using hi), h1]
    rfl
  rw [Array.toList_setIfInBounds, h2]
  omega
theorem draws (p : Plan P X call ops A H R N) (hX : TabOk P X) (hcall : CallOk P call) (hf0 : Free S0 H.next) {Q : Exit → Act → World → Prop}
    (hQ : ∀ a W σ S Hd cur mg alc, Inv0 P ops A H R B σ0 S0 W0 a0 (fun j => j < ops.size) a W σ S Hd cur mg alc → Q .normal a W) : ∀ (fuel : Nat) (listed : Array Bool) (a : Act) (W : World) (σ : Ren) (S : Ids) (Hd : AH) (cur : T AObj) (mg : Nat) (alc : Ids), listed.size = ops.size → listed.toList.count false ≤ fuel →
    Inv0 P ops A H R B σ0 S0 W0 a0 (fun j => listed.getD j false = true) a W σ S Hd cur mg alc → wpAny P .any ops Q fuel listed a W := by
  have done : ∀ (listed : Array Bool) (a : Act) (W : World) (σ : Ren) (S : Ids) (Hd : AH) (cur : T AObj) (mg : Nat) (alc : Ids), listed.size = ops.size → (∀ j, j < ops.size → listed.getD j false = true) → Inv0 P ops A H R B σ0 S0 W0 a0 (fun j => listed.getD j false = true) a W σ S Hd cur mg alc → Q .normal a W := by
    intro listed a W σ S Hd cur mg alc hs h v
    have : (fun j => listed.getD j false = true) = fun j => j < ops.size := by
      funext j
      refine propext ⟨fun hj => ?_, h j⟩
      rcases Nat.lt_or_ge j ops.size with h1 | h1
      · exact h1
      · rw [Array.getD_eq_getD_getElem?, Array.getElem?_eq_none (by omega)] at hj
        cases hj
    rw [this] at v
    exact hQ _ _ _ _ _ _ _ _ v
  intro fuel
  induction fuel with
  | zero =>
    intro listed a W σ S Hd cur mg alc hs hc v
    have hno : Region.ready .any ops listed = [] := by
      cases hr : Region.ready .any ops listed with
      | nil => rfl
      | cons i l =>
        have hi : i ∈ Region.ready .any ops listed := by rw [hr]; exact List.mem_cons_self
        obtain ⟨o, h1, h2, _⟩ := ready_mem.1 hi
        have := count_set (by rw [hs]; exact (Array.getElem?_eq_some_iff.1 h1).1) h2
        omega
    exact ⟨hno, done listed a W σ S Hd cur mg alc hs (all_listed p hs hno) v⟩
  | succ fuel ih =>
    intro listed a W σ S Hd cur mg alc hs hc v
    refine ⟨fun hno => done listed a W σ S Hd cur mg alc hs (all_listed p hs hno) v, fun i hi => ?_⟩
    obtain ⟨o, h1, h2, h3⟩ := ready_mem.1 hi
    have hlt := (Array.getElem?_eq_some_iff.1 h1).1
    refine v.step p hX hcall hf0 h1 (fun h => ?_) h3 fun a' W' σ' S' Hd' cur' mg' alc' v' => ?_
    · rw [Array.getD_eq_getD_getElem?, Array.getElem?_eq_getElem (by omega)] at h h2
      simp only [Option.getD_some] at h h2
      rw [h] at h2
      cases h2
    · have hD : with_ (fun j => listed.getD j false = true) i = fun j => (listed.setIfInBounds i true).getD j false = true := by
        funext j
        show (listed.getD j false = true ∨ j = i) = _
        rw [Array.getD_eq_getD_getElem?, Array.getD_eq_getD_getElem?, Array.getElem?_setIfInBounds]
        by_cases e : i = j
        · subst e
          rw [if_pos rfl, if_pos (by omega)]
          exact propext ⟨fun _ => rfl, fun _ => .inr rfl⟩
        · rw [if_neg e]
          exact propext ⟨fun h => h.resolve_right (fun q => e q.symm), .inl⟩
      rw [hD] at v'
      have := count_set (by omega) h2
      exact ih _ _ _ _ _ _ _ _ _ (by simpa using hs) (by omega) v'
end
theorem pairOk_spec {ch i : Nat} {q : T AObj → Option Value} {v : Value} {anc : Nat} {f : Nat → Option Rec} : ∀ n, pairOk ch i q v anc f n = true → ∀ j r tab, j < n → Nat.testBit ch j = true → f j = some r → r.kd = .chn tab → Nat.testBit r.anc i = false → ((anc &&& ch) &&& (r.anc ||| (1 <<< j)) = (anc &&& ch)) → q tab = some v
  | 0, _, j, r, tab, hj, _, _, _, _, _ => by omega
  | n + 1, h, j, r, tab, hj, h1, h2, h3, h4, h5 => by
    simp only [pairOk, Bool.and_eq_true] at h
    by_cases e : j = n
    · subst e
      have h6 := h.2
      rw [h1] at h6
      simp only [h2, h3] at h6
      simp only [h4, Bool.false_or, Bool.or_eq_true, Bool.not_eq_true'] at h6
      rcases h6 with h6 | h6
      · rw [h5] at h6
        simp at h6
      · exact sameAs_eq h6
    · exact pairOk_spec n h.1 j r tab (by omega) h1 h2 h3 h4 h5
theorem pairsOk_spec {H : AH} {ch n : Nat} {f : Nat → Option Rec} : ∀ m, pairsOk H ch n f m = true → ∀ i r q, i < m → f i = some r → r.kd = .read q → (r.anc &&& ch = 0 → q H.tab = some r.v) ∧ pairOk ch i q r.v r.anc f n = true
  | 0, _, i, r, q, hi, _, _ => by omega
  | m + 1, h, i, r, q, hi, h1, h2 => by
    simp only [pairsOk, Bool.and_eq_true] at h
    by_cases e : i = m
    · subst e
      have h3 := h.2
      simp only [h1, h2, Bool.and_eq_true, Bool.or_eq_true, Bool.not_eq_true'] at h3
      refine ⟨fun h4 => ?_, h3.2⟩
      rcases h3.1 with h5 | h5
      · rw [h4] at h5
        simp at h5
      · exact sameAs_eq h5
    · exact pairsOk_spec m h.1 i r q (by omega) h1 h2
theorem draw_ok {P : Program} {X : Tab} (hX : TabOk P X) (hm : P.follows .mixedOrders = true) (call : ACall) (hcall : CallOk P call) : DrawOk P X call := by
  intro ops A H A' H' he σ S W B a id Q h hQ
  unfold evDraw at he
  split at he
  · cases he
  rename_i hsz
  have hsz : ops.size < 100000 := by simpa using hsz
  split at he
  case h_2 => cases he
  rename_i s hp
  split at he
  case h_2 => cases he
  rename_i hpairs
  injection he with he
  injection he with he1 he2
  subst he1 he2
  have hdst := dpass_dst ops.toList 0 _ s hp
  have hs : ∀ (j : Nat) (o : Oper) (t : Nat), ops[j]? = some o → o.dst = some t → (slotTab ops.toList 0 .lf).get t = some j := fun j o t h1 h2 => by
    have := hdst j o (by simpa using h1)
    rw [h2, Nat.zero_add] at this
    exact dstOk_spec this
  have g : Good P X call ops A H ops.size s := by
    have := dpass_good hsz hs ops.toList 0 _ s (fun j => by simp) good_nil hp
    simpa using this
  have hlt : ∀ j r, s.recs.get j = some r → j < ops.size := fun j r e => by
    rcases Nat.lt_or_ge j ops.size with hj | hj
    · exact hj
    · rw [g.none_ j hj] at e; cases e
  have p : Plan P X call ops A H s.recs.get s.next := {
    facts := fun i o ho => by
      obtain ⟨o', r, h1, h2, h3⟩ := g.facts i (Array.getElem?_eq_some_iff.1 ho).1
      rw [ho] at h1
      injection h1 with h1
      subst h1
      exact ⟨r, h2, h3⟩
    dom := fun i r hr => by
      obtain ⟨o', r', h1, h2, h3⟩ := g.facts i (hlt i r hr)
      rw [hr] at h2
      injection h2 with h2
      subst h2
      exact ⟨o', h1, h3⟩
    top := g.next
    topH := g.lo
    uniq := fun i j oi oj d h1 h2 h3 h4 => by
      have e1 := hs i oi d h1 h3
      have e2 := hs j oj d h2 h4
      rw [e1] at e2
      injection e2
    pair := fun i r q hr hk => by
      rw [Bool.or_eq_true] at hpairs
      rcases hpairs with hch | hpairs
      · have hch : s.ch = 0 := beqN hch
        have hno : ∀ j rj, s.recs.get j = some rj → ¬ isChn rj := fun j rj h1 h2 => by
          have := (g.ch j).2 ⟨rj, h1, h2⟩
          rw [hch] at this
          simp at this
        refine ⟨fun j rj tab hj hkj _ _ => absurd ⟨tab, hkj⟩ (hno j rj hj), fun _ => ?_⟩
        obtain ⟨o, F⟩ := g.hF i r hr
        rcases F.work with ⟨_, h1, _⟩ | ⟨ρ, _, _, ⟨h1, _⟩ | ⟨q', h1, _, _, ⟨cur, mg, hc, hq⟩, _⟩ | ⟨_, h1, _⟩ | ⟨_, _, _, h1, _⟩⟩
        · rw [h1] at hk; cases hk
        · rw [h1] at hk; cases hk
        · rw [h1] at hk
          injection hk with hk
          subst hk
          rcases hc with ⟨_, h2, _⟩ | ⟨c, rc, h2, h3, _⟩
          · rw [← h2]; exact hq
          · exact absurd ⟨_, h3⟩ (hno c rc (below_some.1 h2).2)
        · rw [h1] at hk; cases hk
        · rw [h1] at hk; cases hk
      obtain ⟨h1, h2⟩ := pairsOk_spec _ hpairs i r q (hlt i r hr) hr hk
      refine ⟨fun j rj tab hj hkj hb hall => ?_, fun hall => h1 ?_⟩
      · refine pairOk_spec _ h2 j rj tab (hlt j rj hj) ((g.ch j).2 ⟨rj, hj, tab, hkj⟩) hj hkj hb ?_
        refine Nat.eq_of_testBit_eq fun c => ?_
        simp only [Nat.testBit_and, Nat.testBit_or, Nat.one_shiftLeft, Nat.testBit_two_pow]
        cases hc : Nat.testBit r.anc c with
        | false => simp
        | true =>
          cases hc2 : Nat.testBit s.ch c with
          | false => simp
          | true =>
            obtain ⟨rc, h3, h4⟩ := (g.ch c).1 hc2
            rcases hall c rc h3 h4 hc with h5 | h5
            · simp [h5]
            · simp [h5]
      · refine Nat.eq_of_testBit_eq fun c => ?_
        simp only [Nat.testBit_and, Nat.zero_testBit]
        cases hc2 : Nat.testBit s.ch c with
        | false => simp
        | true =>
          obtain ⟨rc, h3, h4⟩ := (g.ch c).1 hc2
          rw [hall c rc h3 h4]
          rfl }
  refine wp_region_any hm ?_
  have hrep : Rep σ S H { W with drawn := W.drawn + 1 } B := h.rep.world fun _ _ => rfl
  have hlow : ∀ b, S b → b < H.next := fun b hb => by
    rcases Nat.lt_or_ge b H.next with h1 | h1
    · exact h1
    · exact absurd hb (h.free b h1)
  have hcutS : Ext σ S σ (cut S fun b => b < H.next) := ⟨fun b hb => ⟨hb, hlow b hb⟩, fun id i _ k => k⟩
  refine draws (B := B) (σ0 := σ) (S0 := S) (W0 := W) (a0 := a) p hX hcall h.free (fun a' W' σ' S' Hd cur mg alc v => ?_) ops.size _ a _ σ S H H.tab 0 (fun b => b < H.next) (by simp) ?_ ?_
  · have hcm : s.cur = cur ∧ s.mg = mg := by
      rcases g.cur with ⟨h1, h2, h3⟩ | ⟨c, rc, h1, h2, h3, h4⟩
      · rcases v.curD with ⟨_, h6, h7, _⟩ | ⟨c, rc, h5, h6, h7, _⟩
        · exact ⟨h2.trans h6.symm, h3.trans h7.symm⟩
        · exact absurd ⟨_, h7⟩ (h1 c rc h6)
      · rcases v.curD with ⟨h5, _⟩ | ⟨c', rc', h5, h6, h7, h8, h9, _⟩
        · exact absurd ⟨_, h2⟩ (h5 c rc (hlt c rc h1) h1)
        · have e : c = c' := Nat.le_antisymm (h9 c rc (hlt c rc h1) h1 ⟨_, h2⟩) (h4 c' rc' h6 ⟨_, h7⟩)
          subst e
          rw [h1] at h6
          injection h6 with h6
          subst h6
          rw [h2] at h7
          injection h7 with h7
          exact ⟨h7, h3.trans h8.symm⟩
    obtain ⟨rfl, rfl⟩ := hcm
    have hv2 : View s.recs.get (fun j => j < ops.size) s.mg s.cur (⟨s.next, addFresh s.recs.get (fun j => !Nat.testBit s.mg j) ops.size s.cur⟩ : AH).get :=
      p.view s.recs.get (fun j rj => ⟨fun h => ⟨hlt j rj h, h⟩, fun h => h.2⟩) (fun j => by
        constructor
        · rintro ⟨h1, h2⟩
          exact ⟨h2, h2, by simpa using h1⟩
        · rintro ⟨_, h2, h3⟩
          exact ⟨by simp [h3], h2⟩) (fun j rj _ _ h _ _ => hlt j rj h) s.cur
    have hget : ∀ id, (⟨s.next, addFresh s.recs.get (fun j => !Nat.testBit s.mg j) ops.size s.cur⟩ : AH).get id = Hd.get id := by
      intro id
      by_cases hx : ∃ j rj obj, j < ops.size ∧ s.recs.get j = some rj ∧ rj.kd = .fresh obj ∧ Nat.testBit s.mg j = false ∧ rj.lo = id
      · obtain ⟨j, rj, obj, q1, q2, q3, q4, rfl⟩ := hx
        rw [hv2.fresh j rj obj q1 q2 q3 q4, v.view.fresh j rj obj q1 q2 q3 q4]
      · have hap : Apart s.recs.get (fun j => j < ops.size) s.mg id := fun j rj ob' w1 w2 w3 w4 w5 => hx ⟨j, rj, ob', w1, w2, w3, w4, w5⟩
        rw [hv2.old id hap, v.view.old id hap]
    refine hQ σ' S' a' W' ⟨v.rr.rep hget, v.freeN p h.free, v.base, ⟨by rw [v.size, g.n], fun t => ?_⟩, ?_⟩ ⟨v.evo, g.lo, fun b hb => ?_⟩
    · by_cases hx : ∃ (j : Nat) (o : Oper), ops[j]? = some o ∧ o.dst = some t
      · obtain ⟨j, o, h1, h2⟩ := hx
        obtain ⟨r, h3, _⟩ := p.facts j o h1
        rw [g.at1 j o r t h1 h2 h3]
        exact (v.slots j o t r h1 h2 (hlt j r h3) h3).ext .of_cut
      · have hx' : ∀ (j : Nat) (o : Oper), ops[j]? = some o → o.dst ≠ some t := fun j o h1 h2 => hx ⟨j, o, h1, h2⟩
        rw [g.at2 t fun j o _ h1 => hx' j o h1]
        exact (v.slots0 t hx').ext .of_cut
    · rw [g.defers, v.defs]
      exact h.defs.ext v.evo.ext
    · rcases v.ids b hb with h1 | ⟨j, rj, _, h2, h3, h4⟩
      · exact .inl h1
      · have := p.lo h2
        have := g.next j rj h2
        exact .inr ⟨by omega, by simp only; omega⟩
  · simp
  · have hD : (fun j => (Array.replicate ops.size false).getD j false = true) = fun _ => False := by
      funext j
      refine propext ⟨fun h => ?_, fun h => h.elim⟩
      rw [Array.getD_eq_getD_getElem?, Array.getElem?_replicate] at h
      split at h <;> cases h
    rw [hD]
    refine ⟨.inl ⟨fun j r h => h.elim, rfl, rfl, rfl⟩, ⟨fun j r ob h => h.elim, fun id _ => rfl⟩, ⟨fun id o hg => ?_, hrep.dead, hrep.inj⟩, fun id o hg => hlow id (hrep.live id o hg).1, ⟨Ext.refl _ _, fun id i hi e => absurd (hrep.dom e) hi, Nat.le_refl _, fun _ _ _ => rfl, rfl, rfl, rfl⟩, fun b hb => .inl hb, fun j o t r _ _ h => h.elim, fun t _ => (h.act.at_ t).ext hcutS, h.act.size, rfl, fun j r m h => h.elim, h.base⟩
    obtain ⟨k1, i, k2, k3, k4⟩ := hrep.live id o hg
    have hreg : ∀ b, S b → regOf s.recs.get H.next (fun _ => False) 0 (fun b => b < H.next) id b := fun b hb => .inr ⟨fun j r ob h => h.elim, hlow b hb⟩
    exact ⟨k1, hreg id k1, i, k2, k3.ext ⟨fun b hb => ⟨hb, hreg b hb⟩, fun id i _ k => k⟩, k4⟩
/-- the evaluator stands for the real run: every call -/
theorem evCall_all {P : Program} {X : Tab} (hX : TabOk P X) (hm : P.follows .mixedOrders = true) (lf d : Nat) : CallOk P (evCall P X lf d) := evCall_ok hX lf (fun call hcall => draw_ok hX hm call hcall) d
end
end Go.Proofs.YtfnamalajmfjbaaGreatDoor.Ev
