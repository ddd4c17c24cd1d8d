/- Regions whose order is drawn: any one operation that may come next. -/
import Derived.Test.YtfnamalajmfjbaaGreatDoorEvDraw5
set_option linter.unusedVariables false
set_option linter.unusedSimpArgs false
namespace Go.Proofs.YtfnamalajmfjbaaGreatDoor.Ev
noncomputable section
section
variable {P : Program} {X : Tab} {call : ACall} {ops : Array Oper} {A : AAct} {H : AH} {R : Nat → Option Rec} {N : Nat} {B : Nat} {σ0 : Ren} {S0 : Ids} {W0 : World} {a0 : Act} {D : Nat → Prop} {a : Act} {W : World} {σ : Ren} {S : Ids} {Hd : AH} {cur : T AObj} {mg : Nat} {alc : Ids}
/-- an operation that no memory decides leaves what there was -/
theorem run_kept (hX : TabOk P X) {n : Nat} {ρ : Env} {o : Oper} {v : Value} {G : AH} {ρ' : Operand → Value} (hA : aop P X ⟨n, .lf⟩ ρ o = some (.value v, G)) (hρ : EnvOk σ S ρ ρ') (hfree : ¬ S n) (hB : B ≤ W.heap.size) {r : Next} {W' : World} (hr : (execOp ρ' o).run P W = .ok r W') : ∀ b, b < W.heap.size → W'.heap[b]? = W.heap[b]? := by
  have h0 : Rep (fun _ => none) S ⟨n, .lf⟩ W B := ⟨fun id o h => (by cases h), fun _ _ => rfl, fun id id' i i' h => (by cases h)⟩
  obtain ⟨σ', S', W2, r2, k1, _, k3, _, _⟩ := aop_sound hX h0 hfree hB (hρ.ext ⟨fun b hb => hb, fun id i _ h => (by cases h)⟩) hA
  rw [hr] at k1
  injection k1 with _ k1
  subst k1
  exact fun b hb => k3.frame b hb fun id i h => (by cases h)
theorem Fact.order {f : Nat → Option Rec} {i : Nat} {o : Oper} {r : Rec} (F : Fact P X call ops A H f i o r) (h : isChn r) : ∀ j rj, f j = some rj → isChn rj → Nat.testBit r.anc j = true := by
  obtain ⟨t, h⟩ := h
  rcases F.work with ⟨_, h10, _⟩ | ⟨_, _, _, ⟨h10, _⟩ | ⟨_, h10, _⟩ | ⟨_, h10, _⟩ | ⟨_, _, _, _, _, h10, _⟩⟩
  · rw [h10] at h; cases h
  · rw [h10] at h; cases h
  · rw [h10] at h; cases h
  · rw [h10] at h; cases h
  · exact h10
theorem Inv0.chain (p : Plan P X call ops A H R N) (hX : TabOk P X) (hcall : CallOk P call) (hf0 : Free S0 H.next) (v : Inv0 P ops A H R B σ0 S0 W0 a0 D a W σ S Hd cur mg alc) {i : Nat} {o : Oper} {r : Rec} (ho : ops[i]? = some o) (hr : R i = some r) (hi : ¬ D i) (hD : ∀ j, Nat.testBit r.anc j = true → D j)
    {ρ : Env} (hρc : EnvOk σ (cut S (Al R H.next r.anc)) ρ a.eval) {tab cur' : T AObj} {mg' : Nat} (hkd : r.kd = .chn tab) (hcur : CurF (below R i) H cur' mg') (hord : ∀ j rj, below R i j = some rj → isChn rj → Nat.testBit r.anc j = true)
    (hev : evRes P X call ρ o ⟨r.lo, addFresh (below R i) (fun j => Nat.testBit r.anc j && !Nat.testBit mg' j) i cur'⟩ = some (r.v, ⟨r.hi, tab⟩)) {Q : Exit → Act → World → Prop} {K : Act → World → Prop}
    (hK : ∀ a' W' σ' S' Hd' cur' mg' alc', Inv0 P ops A H R B σ0 S0 W0 a0 (with_ D i) a' W' σ' S' Hd' cur' mg' alc' → K a' W') : o.wp P a W K Q := by
  classical
  have hchn : isChn r := ⟨tab, hkd⟩
  have hlt : ∀ j rj, D j → R j = some rj → isChn rj → j < i := by
    intro j rj h1 h2 h3
    rcases Nat.lt_trichotomy j i with h | h | h
    · exact h
    · subst h; exact absurd h1 hi
    · obtain ⟨oj, Fj⟩ := p.hF j rj h2
      exact absurd (v.down j rj i h1 h2 (Fj.order h3 i r (below_some.2 ⟨h, hr⟩) hchn)) hi
  have hcm : cur' = cur ∧ mg' = mg := by
    rcases hcur with ⟨h1, h2, h3⟩ | ⟨c, rc, h1, h2, h3, h4⟩
    · rcases v.curD with ⟨_, h6, h7, _⟩ | ⟨c, rc, h5, h6, h7, _⟩
      · exact ⟨h2.trans h6.symm, h3.trans h7.symm⟩
      · exact absurd ⟨cur, h7⟩ (h1 c rc (below_some.2 ⟨hlt c rc h5 h6 ⟨cur, h7⟩, h6⟩))
    · have hDc := hD c (hord c rc h1 ⟨cur', h2⟩)
      have hrc := (below_some.1 h1).2
      rcases v.curD with ⟨h5, _⟩ | ⟨c', rc', h5, h6, h7, h8, h9, _⟩
      · exact absurd ⟨cur', h2⟩ (h5 c rc hDc hrc)
      · have e1 := h9 c rc hDc hrc ⟨cur', h2⟩
        have e2 := h4 c' rc' (below_some.2 ⟨hlt c' rc' h5 h6 ⟨cur, h7⟩, h6⟩) ⟨cur, h7⟩
        have e : c = c' := Nat.le_antisymm e1 e2
        subst e
        rw [hrc] at h6
        injection h6 with h6
        subst h6
        rw [h2] at h7
        injection h7 with h7
        exact ⟨h7, h3.trans h8.symm⟩
  obtain ⟨rfl, rfl⟩ := hcm
  have mgsub : ∀ j, Nat.testBit mg' j = true → Nat.testBit r.anc j = true := by
    rcases v.curD with ⟨_, _, rfl, _⟩ | ⟨c, rc, h1, h2, h3, rfl, _, _⟩
    · intro j h; simp at h
    · exact fun j h => p.trans hr (hord c rc (below_some.2 ⟨hlt c rc h1 h2 ⟨_, h3⟩, h2⟩) ⟨_, h3⟩) h2 h
  have alcU : ∀ b, alc b → Al R H.next r.anc b := by
    rcases v.curD with ⟨_, _, _, rfl⟩ | ⟨c, rc, h1, h2, h3, _, _, rfl⟩
    · exact fun b hb => .inl hb
    · exact fun b hb => p.al hr (hord c rc (below_some.2 ⟨hlt c rc h1 h2 ⟨_, h3⟩, h2⟩) ⟨_, h3⟩) h2 hb
  have hv1 : View R (fun j => Nat.testBit r.anc j = true) mg' cur' (⟨r.lo, addFresh (below R i) (fun j => Nat.testBit r.anc j && !Nat.testBit mg' j) i cur'⟩ : AH).get :=
    p.view (below R i) (fun j r => below_some) (fun j => by
      constructor
      · rintro ⟨h1, h2⟩
        simp only [Bool.and_eq_true, Bool.not_eq_true'] at h1
        exact ⟨h1.1, h2, h1.2⟩
      · rintro ⟨h1, h2, h3⟩
        exact ⟨by simp [h1, h3], h2⟩) (fun j _ _ h1 _ _ _ => (p.lt hr h1).1) cur'
  generalize hH1 : (⟨r.lo, addFresh (below R i) (fun j => Nat.testBit r.anc j && !Nat.testBit mg' j) i cur'⟩ : AH) = H1 at hv1 hev
  have hnx : H1.next = r.lo := by rw [← hH1]
  have h1' : ∀ id ob, H1.get id = some ob → Hd.get id = some ob ∧ ∀ b, regOf R H.next D mg' alc id b → Al R H.next r.anc b := by
    intro id ob h
    by_cases hx : ∃ j rj obj, Nat.testBit r.anc j = true ∧ R j = some rj ∧ rj.kd = .fresh obj ∧ Nat.testBit mg' j = false ∧ rj.lo = id
    · obtain ⟨j, rj, obj, q1, q2, q3, q4, rfl⟩ := hx
      have e := hv1.fresh j rj obj q1 q2 q3 q4
      rw [h] at e
      injection e with e
      subst e
      refine ⟨v.view.fresh j rj ob (hD j q1) q2 q3 q4, ?_⟩
      rintro b (⟨j', rj', ob', w1, w2, w3, w4, w5, w6⟩ | ⟨w1, _⟩)
      · have e := p.same w2 q2 w3 q3 w5
        subst e
        exact p.al hr q1 w2 w6
      · exact absurd rfl (w1 j rj ob (hD j q1) q2 q3 q4)
    · have hap : Apart R (fun j => Nat.testBit r.anc j = true) mg' id := fun j rj ob' w1 w2 w3 w4 w5 => hx ⟨j, rj, ob', w1, w2, w3, w4, w5⟩
      rw [hv1.old id hap] at h
      have hal := v.lv id ob h
      have hap2 : Apart R D mg' id := fun j rj ob' w1 w2 w3 w4 w5 => by subst w5; exact p.unm v.curD w2 w3 w4 hal
      refine ⟨by rw [v.view.old id hap2]; exact h, ?_⟩
      rintro b (⟨j', rj', ob', w1, w2, w3, w4, w5, w6⟩ | ⟨_, w1⟩)
      · exact absurd w5 (hap2 j' rj' ob' w1 w2 w3 w4)
      · exact alcU b w1
  have h2 : ∀ id ob, Hd.get id = some ob → Al R H.next r.anc id → H1.get id = some ob := by
    intro id ob h hu
    by_cases hx : ∃ j rj obj, D j ∧ R j = some rj ∧ rj.kd = .fresh obj ∧ Nat.testBit mg' j = false ∧ rj.lo = id
    · obtain ⟨j, rj, obj, q1, q2, q3, q4, rfl⟩ := hx
      have hj : Nat.testBit r.anc j = true := by
        cases hb : Nat.testBit r.anc j with
        | true => rfl
        | false => exact absurd hu (p.not_al q2 (Nat.le_refl _) (by rw [(p.fresh q2 q3).1]; omega) hb)
      have e := v.view.fresh j rj obj q1 q2 q3 q4
      rw [h] at e
      rw [e]
      exact hv1.fresh j rj obj hj q2 q3 q4
    · have hap : Apart R D mg' id := fun j rj ob' w1 w2 w3 w4 w5 => hx ⟨j, rj, ob', w1, w2, w3, w4, w5⟩
      rw [v.view.old id hap] at h
      rw [hv1.old id fun j rj ob' w1 w2 w3 w4 => hap j rj ob' (hD j w1) w2 w3 w4]
      exact h
  have hfree1 : Free (cut S (Al R H.next r.anc)) H1.next := by
    rw [hnx]
    rintro b hb ⟨_, hu⟩
    rcases hu with hu | ⟨m, rm, q1, q2, q3, q4⟩
    · have := p.lo hr; omega
    · have := p.before hr q1 (p.lt hr q2).1; omega
  refine evRes_wp hX hcall hev (v.rr.sub h1') hfree1 v.base (hρc.ext ⟨fun b hb => hb, fun id i' _ q => (sub_some q).1⟩) fun σ1 S1 u W' k1 k2 k3 => ?_
  have taken : ∀ b, S1 b → cut S (Al R H.next r.anc) b ∨ (r.lo ≤ b ∧ b < r.hi) := by
    have := k3.taken.2
    rw [hnx] at this
    exact this
  have s1F : ∀ b, S1 b → AlF R H.next r b := fun b hb => (taken b hb).imp (fun h => h.2) fun h => h
  have domlt : ∀ j rj, R j = some rj → j < ops.size := fun j rj h => by
    obtain ⟨oj, h1, _⟩ := p.dom j rj h
    exact (Array.getElem?_eq_some_iff.1 h1).1
  have hv2 : View R (with_ D i) r.anc tab (⟨0, addFresh R (fun j => decide (with_ D i j) && !Nat.testBit r.anc j) ops.size tab⟩ : AH).get :=
    p.view R (fun j rj => ⟨fun h => ⟨domlt j rj h, h⟩, fun h => h.2⟩) (fun j => by
      constructor
      · rintro ⟨h1, h2⟩
        simp only [Bool.and_eq_true, Bool.not_eq_true', decide_eq_true_eq] at h1
        exact ⟨h1.1, h2, h1.2⟩
      · rintro ⟨h1, h2, h3⟩
        exact ⟨by simp [h1, h3], h2⟩) (fun j rj _ _ h _ _ => domlt j rj h) tab
  generalize (⟨0, addFresh R (fun j => decide (with_ D i j) && !Nat.testBit r.anc j) ops.size tab⟩ : AH) = Hd' at hv2
  have g1 : ∀ id ob, Hd'.get id = some ob → ((⟨r.hi, tab⟩ : AH).get id = some ob ∧ ∀ b, S1 b → regOf R H.next (with_ D i) r.anc (AlF R H.next r) id b) ∨ (Hd.get id = some ob ∧ ¬ Al R H.next r.anc id ∧ ∀ b, regOf R H.next D mg' alc id b → regOf R H.next (with_ D i) r.anc (AlF R H.next r) id b) := by
    intro id ob h
    by_cases hx : ∃ j rj obj, with_ D i j ∧ R j = some rj ∧ rj.kd = .fresh obj ∧ Nat.testBit r.anc j = false ∧ rj.lo = id
    · obtain ⟨j, rj, obj, q1, q2, q3, q4, rfl⟩ := hx
      have e := hv2.fresh j rj obj q1 q2 q3 q4
      rw [h] at e
      injection e with e
      subst e
      have hDj : D j := by
        rcases q1 with q1 | rfl
        · exact q1
        · rw [hr] at q2
          injection q2 with q2
          subst q2
          rw [hkd] at q3
          cases q3
      have hmj : Nat.testBit mg' j = false := by
        cases hb : Nat.testBit mg' j with
        | false => rfl
        | true => rw [mgsub j hb] at q4; cases q4
      refine .inr ⟨v.view.fresh j rj ob hDj q2 q3 hmj, p.not_al q2 (Nat.le_refl _) (by rw [(p.fresh q2 q3).1]; omega) q4, ?_⟩
      rintro b (⟨j', rj', ob', w1, w2, w3, w4, w5, w6⟩ | ⟨w1, _⟩)
      · have e := p.same w2 q2 w3 q3 w5
        subst e
        exact .inl ⟨_, rj', ob', .inl w1, w2, w3, q4, w5, w6⟩
      · exact absurd rfl (w1 j rj ob hDj q2 q3 hmj)
    · have hap : Apart R (with_ D i) r.anc id := fun j rj ob' w1 w2 w3 w4 w5 => hx ⟨j, rj, ob', w1, w2, w3, w4, w5⟩
      rw [hv2.old id hap] at h
      exact .inl ⟨h, fun b hb => .inr ⟨hap, s1F b hb⟩⟩
  have g2 : ∀ id, Hd'.get id = none → (⟨r.hi, tab⟩ : AH).get id = none ∧ ∀ ob, Hd.get id = some ob → Al R H.next r.anc id := by
    intro id h
    have hap : Apart R (with_ D i) r.anc id := fun j rj ob' w1 w2 w3 w4 w5 => by
      subst w5
      rw [hv2.fresh j rj ob' w1 w2 w3 w4] at h
      cases h
    rw [hv2.old id hap] at h
    refine ⟨h, fun ob hob => ?_⟩
    by_cases hx : ∃ j rj obj, D j ∧ R j = some rj ∧ rj.kd = .fresh obj ∧ Nat.testBit mg' j = false ∧ rj.lo = id
    · obtain ⟨j, rj, obj, q1, q2, q3, q4, rfl⟩ := hx
      cases hb : Nat.testBit r.anc j with
      | true => exact .inr ⟨j, rj, q2, hb, Nat.le_refl _, by rw [(p.fresh q2 q3).1]; omega⟩
      | false => exact absurd rfl (hap j rj obj (.inl q1) q2 q3 hb)
    · rw [v.view.old id fun j rj ob' w1 w2 w3 w4 w5 => hx ⟨j, rj, ob', w1, w2, w3, w4, w5⟩] at hob
      exact alcU id (v.lv id ob hob)
  obtain ⟨σ', S', m1, m2, m3, m4⟩ := v.rr.join h1' h2 (v.free p hf0 hr hi) k2 k3.evo taken g1 g2
  obtain ⟨s1, s2, s3, s4⟩ := v.slot_ p ho hr m2.ext (k1.ext ⟨fun b hb => ⟨(m4 b).2 (.inr hb), s1F b hb⟩, m3.old⟩)
  refine hK _ _ σ' S' Hd' tab r.anc (AlF R H.next r) ⟨.inr ⟨i, r, .inr rfl, hr, hkd, rfl, fun j rj q1 q2 q3 => ?_, rfl⟩, hv2, m1, fun id ob h => ?_, v.evo.trans m2, fun b hb => ?_, s1, s2, s3, s4, v.down_ p hr hD, Nat.le_trans v.base m2.size⟩
  · rcases q1 with q1 | rfl
    · exact Nat.le_of_lt (hlt j rj q1 q2 q3)
    · exact Nat.le_refl _
  · exact s1F id (k2.live id ob h).1
  · rcases (m4 b).1 hb with h | h
    · rcases v.ids b h with h3 | ⟨j, rj, h3, h4⟩
      · exact .inl h3
      · exact .inr ⟨j, rj, .inl h3, h4⟩
    · rcases taken b h with h | h
      · rcases v.ids b h.1 with h3 | ⟨j, rj, h3, h4⟩
        · exact .inl h3
        · exact .inr ⟨j, rj, .inl h3, h4⟩
      · exact .inr ⟨i, r, .inr rfl, hr, h⟩
theorem Inv0.step (p : Plan P X call ops A H R N) (hX : TabOk P X) (hcall : CallOk P call) (hf0 : Free S0 H.next) (v : Inv0 P ops A H R B σ0 S0 W0 a0 D a W σ S Hd cur mg alc) {i : Nat} {o : Oper} (ho : ops[i]? = some o) (hi : ¬ D i) (hready : ∀ e ∈ o.after.toList, Region.binds .any e = true → D e.on) {Q : Exit → Act → World → Prop} {K : Act → World → Prop}
    (hK : ∀ a' W' σ' S' Hd' cur' mg' alc', Inv0 P ops A H R B σ0 S0 W0 a0 (with_ D i) a' W' σ' S' Hd' cur' mg' alc' → K a' W') : wpOp P ops Q i K a W := by
  obtain ⟨r, hr, F⟩ := p.facts i o ho
  have hD : ∀ j, Nat.testBit r.anc j = true → D j := by
    intro j hj
    obtain ⟨e, h1, h2, re, h3, h4⟩ := F.anc j hj
    rcases h4 with rfl | h4
    · exact hready e h1 h2
    · exact v.down e.on re j (hready e h1 h2) (below_some.1 h3).2 h4
  have inU : ∀ {pp : Nat → Bool}, (∀ b, pp b = true → Al (below R i) H.next r.anc b ∨ (r.lo ≤ b ∧ b < r.hi)) → ∀ b, pp b = true → AlF R H.next r b := fun h b hb => (h b hb).imp al_below fun q => q
  unfold wpOp
  rw [ho]
  simp only
  rcases F.work with ⟨hg, hkd, hv, hhi⟩ | ⟨ρ, hE, hg, hwork⟩
  · rw [v.guard hD hg, if_neg (by simp)]
    have hn : ¬ isChn r := fun ⟨t, ht⟩ => by rw [hkd] at ht; cases ht
    have hfr : ∀ ob, r.kd ≠ .fresh ob := fun ob h => by rw [hkd] at h; cases h
    exact hK _ _ σ S Hd cur mg alc (v.calm p hf0 ho hr hi hD hn (v.rr.rep fun _ => rfl) (v.rr.rep (H := Hd) fun _ => rfl).refl (fun _ _ => rfl) (fun b hb => .inl hb) (fun id ob h => .inl h) (fun id ob h => h) (fun ob h => absurd h (hfr ob)) (fun ob inf h => absurd h (hfr ob)) (by rw [hv]; exact undef_vr))
  · rw [v.guard hD hg, if_pos rfl]
    refine .inl ?_
    have hρc := v.env p hr hD hE
    have hρ : EnvOk σ S ρ a.eval := hρc.ext .of_cut
    rcases hwork with ⟨hkd, hhi, hA, pp, hin, hpp⟩ | ⟨q, hkd, hhi, hq, _, pp, hin, hpp⟩ | ⟨ob, hkd, hhi, hlo, hA, pp, hin, hpp⟩ | ⟨tab, cur', mg', hkd, hcur, hord, hev⟩
    · have hn : ¬ isChn r := fun ⟨t, ht⟩ => by rw [hkd] at ht; cases ht
      have hfr : ∀ ob, r.kd ≠ .fresh ob := fun ob h => by rw [hkd] at h; cases h
      have hNf := v.freeN p hf0
      obtain ⟨σ', S', W', r', k1, k2, k3, k4, k5⟩ := aop_sound (H := ⟨N, Hd.tab⟩) hX (v.rr.rep fun _ => rfl) (hNf N (Nat.le_refl _)) v.base hρ (hA ⟨N, Hd.tab⟩)
      have kept := run_kept hX (hA ⟨N, .lf⟩) hρ (hNf N (Nat.le_refl _)) v.base k1
      cases r' <;> simp only [NR] at k4
      rename_i u
      unfold Oper.wp
      rw [k1, Oper.upon_value]
      exact hK _ _ σ' S' _ cur mg alc (v.calm p hf0 ho hr hi hD hn k2 k3 kept (fun b hb => (k5.2 b hb).imp (fun h => h) fun h => by simp only at h; omega) (fun id ob h => .inl h) (fun id ob h => h) (fun ob h => absurd h (hfr ob)) (fun ob inf h => absurd h (hfr ob))
        (VR.restrict (inU hpp) 8 _ _ k4 hin))
    · have hn : ¬ isChn r := fun ⟨t, ht⟩ => by rw [hkd] at ht; cases ht
      have hfr : ∀ ob, r.kd ≠ .fresh ob := fun ob h => by rw [hkd] at h; cases h
      obtain ⟨hp1, hp2⟩ := p.pair i r q hr hkd
      have hload : q Hd.tab = some r.v := by
        have h1 : q cur = some r.v := by
          rcases v.curD with ⟨h1, rfl, _⟩ | ⟨c, rc, h1, h2, h3, _, h5, _⟩
          · refine hp2 fun c rc h2 h3 => ?_
            cases hb : Nat.testBit r.anc c with
            | false => rfl
            | true => exact absurd h3 (h1 c rc (hD c hb) h2)
          · refine hp1 c rc cur h2 h3 ?_ fun c' rc' h6 h7 h8 => ?_
            · cases hb : Nat.testBit rc.anc i with
              | false => rfl
              | true => exact absurd (v.down c rc i h1 h2 hb) hi
            · rcases Nat.lt_or_ge c' c with h9 | h9
              · right
                obtain ⟨oc, Fc⟩ := p.hF c rc h2
                rcases Fc.work with ⟨_, h10, _⟩ | ⟨_, _, _, ⟨h10, _⟩ | ⟨_, h10, _⟩ | ⟨_, h10, _⟩ | ⟨_, _, _, _, _, h10, _⟩⟩
                · rw [h10] at h3; cases h3
                · rw [h10] at h3; cases h3
                · rw [h10] at h3; cases h3
                · rw [h10] at h3; cases h3
                · exact h10 c' rc' (below_some.2 ⟨h9, h6⟩) h7
              · exact .inl (Nat.le_antisymm (h5 c' rc' (hD c' h8) h6 h7) h9)
        refine hq.mono h1 fun id ob h => ?_
        have hal := v.lv id ob h
        show Hd.get id = some ob
        rw [v.view.old id fun j rj ob' h2 h3 h4 h5 h6 => ?_]
        · exact h
        · subst h6
          exact p.unm v.curD h3 h4 h5 hal
      have hrep := v.rr.rep (H := Hd) fun _ => rfl
      obtain ⟨u, hrun, k2⟩ := hq.run hX hrep hρ hload
      unfold Oper.wp
      rw [hrun, Oper.upon_value]
      exact hK _ _ σ S Hd cur mg alc (v.calm p hf0 ho hr hi hD hn hrep hrep.refl (fun _ _ => rfl) (fun b hb => .inl hb) (fun id ob h => .inl h) (fun id ob h => h) (fun ob h => absurd h (hfr ob)) (fun ob inf h => absurd h (hfr ob)) (VR.restrict (inU hpp) 8 _ _ k2 hin))
    · have hn : ¬ isChn r := fun ⟨t, ht⟩ => by rw [hkd] at ht; cases ht
      simp only [Bool.and_eq_true] at hin
      have hfree := v.free p hf0 hr hi r.lo (Nat.le_refl _) (by omega)
      obtain ⟨σ', S', W', r', k1, k2, k3, k4, k5⟩ := aop_sound (H := ⟨r.lo, Hd.tab⟩) hX (v.rr.rep fun _ => rfl) hfree v.base hρ (hA ⟨r.lo, Hd.tab⟩ rfl)
      have kept := run_kept hX (hA ⟨r.lo, .lf⟩ rfl) hρ hfree v.base k1
      cases r' <;> simp only [NR] at k4
      rename_i u
      unfold Oper.wp
      rw [k1, Oper.upon_value]
      have hget : ∀ id, (⟨r.lo + 1, Hd.tab.set r.lo (some ob)⟩ : AH).get id = if id = r.lo then some ob else Hd.get id := fun id => T.get_set _ _ _ _ (by omega)
      refine hK _ _ σ' S' _ cur mg alc (v.calm p hf0 ho hr hi hD hn k2 k3 kept (fun b hb => (k5.2 b hb).imp (fun h => h) fun h => by simp only at h; omega) (fun id ob' h => ?_) (fun id ob' h => ?_) (fun ob' h => ?_) (fun ob' inf h h2 => ?_) (VR.restrict (inU hpp) 8 _ _ k4 hin.1))
      · rw [hget] at h
        by_cases e : id = r.lo
        · rw [if_pos e] at h
          injection h with h
          exact .inr ⟨by rw [← h]; exact hkd, e⟩
        · rw [if_neg e] at h
          exact .inl h
      · rw [hget, if_neg]
        · exact h
        · rintro rfl
          exact hfree (v.rr.live _ ob' h).1
      · rw [hkd] at h
        injection h with h
        rw [hget, if_pos rfl, h]
      · rw [hkd] at h
        injection h with h
        subst h
        exact h2.restrict (inU hpp) hin.2
    · exact v.chain p hX hcall hf0 ho hr hi hD hρc hkd hcur hord hev hK
end
end
end Go.Proofs.YtfnamalajmfjbaaGreatDoor.Ev
