/- Regions whose order is drawn: one operation that is not in the chain. -/
import Derived.Test.YtnckhmfajjcgpaaGreatDoorEvE
import Derived.Test.YtnckhmfajjcgpaaGreatDoorEvD
import Derived.Below
set_option linter.unusedVariables false
set_option linter.unusedSimpArgs false
set_option linter.unusedSectionVars false
namespace Go.Proofs.YtnckhmfajjcgpaaGreatDoor.Ev
noncomputable section
def with_ (D : Nat → Prop) (i : Nat) : Nat → Prop := fun j => D j ∨ j = i
section
variable {P : Program} {X : Tab} {call : ACall} {ops : Array Oper} {A : AAct} {H : AH} {L : Nat → Nat} {R : Nat → Option Rec} {N : Nat} {B : Nat} {σ0 : Ren} {S0 : Ids} {W0 : World} {a0 : Act} {D : Nat → Prop} {a : Act} {W : World} {σ : Ren} {S : Ids} {Hd : AH} {cur : T AObj} {mg : Nat} {alc : Ids}
theorem EnvOk.ext {σ σ' : Ren} {S S' : Ids} {ρ : Env} {ρ' : Operand → Value} (h : EnvOk σ S ρ ρ') (e : Ext σ S σ' S') : EnvOk σ' S' ρ ρ' := fun x v hv => (h x v hv).ext e
theorem Inv0.env (p : Plan P X call ops A H L R N) (v : Inv0 P ops A H R B σ0 S0 W0 a0 D a W σ S Hd cur mg alc) {i : Nat} {r : Rec} {ρ : Env} (hr : R i = some r) (hi : ¬ D i) (hD : ∀ j, Nat.testBit r.anc j = true → D j) (hE : EnvF ops A L i (below R i) r.anc ρ) : EnvOk σ (cut S (Al R H.next r.anc)) ρ a.eval := by
  intro x u hu
  cases x with
  | tmp t =>
    rcases hE.tmp t u hu with ⟨j, o, rj, h1, h2, h3, h4, rfl⟩ | ⟨h1, rfl⟩
    · have h5 := (below_some.1 h3).2
      exact (v.slots j o t rj h1 h2 (hD j h4) h5).ext (.widen fun b hb => p.al hr h4 h5 hb)
    · refine (v.slots0 t fun j o q1 q2 q3 => hi ?_).ext (.widen fun b hb => .inl hb)
      obtain ⟨rj, q4, F⟩ := p.facts j o q1
      exact v.down j rj i q3 q4 (by rw [F.late]; exact h1 j o q1 q2)
  | const w =>
    obtain ⟨h1, rfl⟩ := hE.const w u hu
    exact VR.flat 8 u h1
  | global g => rw [hE.glob g] at hu; cases hu
  | func g =>
    rw [hE.func g u hu]
    exact .func _ _ _ _ _ .nil .nil
theorem Inv0.guard (v : Inv0 P ops A H R B σ0 S0 W0 a0 D a W σ S Hd cur mg alc) {i : Nat} {r : Rec} {o : Oper} {w : Bool} (hD : ∀ j, Nat.testBit r.anc j = true → D j) (hG : GuardF ops (below R i) r.anc o w) : Region.wanted o (yielded ops a.tmps) = w := by
  unfold GuardF at hG
  unfold Region.wanted
  cases hg : o.guard with
  | none =>
    rw [hg] at hG
    simp only at hG ⊢
    exact hG.symm
  | some q =>
    obtain ⟨g, want⟩ := q
    rw [hg] at hG
    simp only at hG ⊢
    obtain ⟨h1, og, d, rg, h2, h3, h4, h5⟩ := hG
    have h6 := v.slots g og d rg h2 h3 (hD g h1) (below_some.1 h4).2
    rcases h5 with ⟨b, h5, rfl⟩ | ⟨cs, h5, rfl⟩
    · rw [h5] at h6
      have h7 : a.tmps.getD d undef = .bool b := by
        generalize a.tmps.getD d undef = u at h6
        cases h6
        rfl
      have h8 : a.tmps[d]? = some (.bool b) := by
        rw [Array.getD_eq_getD_getElem?] at h7
        cases h9 : a.tmps[d]? with
        | none => rw [h9] at h7; cases h7
        | some u => rw [h9] at h7; exact congrArg some h7
      have h10 : yielded ops a.tmps g = some b := by
        unfold yielded
        rw [h2]
        simp only [Option.bind_some, h3, h8]
      rw [h10]
      cases b <;> cases want <;> rfl
    · rw [h5] at h6
      have h10 : yielded ops a.tmps g = none := by
        unfold yielded
        rw [h2]
        simp only [Option.bind_some, h3]
        rw [Array.getD_eq_getD_getElem?] at h6
        cases h9 : a.tmps[d]? with
        | none => rfl
        | some u =>
          rw [h9] at h6
          simp only [Option.getD_some] at h6
          cases h6
          rfl
      rw [h10]
      rfl
theorem Inv0.mg_not (v : Inv0 P ops A H R B σ0 S0 W0 a0 D a W σ S Hd cur mg alc) {i : Nat} (hi : ¬ D i) : Nat.testBit mg i = false := by
  rcases v.curD with ⟨_, _, rfl, _⟩ | ⟨c, rc, h1, h2, _, rfl, _, _⟩
  · simp
  · cases h : Nat.testBit rc.anc i with
    | false => rfl
    | true => exact absurd (v.down c rc i h1 h2 h) hi
/-- no number of this operation's is taken -/
theorem Inv0.free (p : Plan P X call ops A H L R N) (v : Inv0 P ops A H R B σ0 S0 W0 a0 D a W σ S Hd cur mg alc) (hf0 : Free S0 H.next) {i : Nat} {r : Rec} (hr : R i = some r) (hi : ¬ D i) : ∀ b, r.lo ≤ b → b < r.hi → ¬ S b := by
  intro b h1 h2 hs
  rcases v.ids b hs with h3 | ⟨j, rj, h3, h4, h5, h6⟩
  · exact hf0 b (by have := p.lo hr; omega) h3
  · have := p.dis hr h4 h1 h2 h5 h6
    subst this
    exact hi h3
theorem Inv0.freeN (p : Plan P X call ops A H L R N) (v : Inv0 P ops A H R B σ0 S0 W0 a0 D a W σ S Hd cur mg alc) (hf0 : Free S0 H.next) : Free S N := by
  intro b h1 hs
  rcases v.ids b hs with h3 | ⟨j, rj, h3, h4, h5, h6⟩
  · exact hf0 b (by have := p.topH; omega) h3
  · have := p.top j rj h4
    omega
theorem Inv0.slot_ (p : Plan P X call ops A H L R N) (v : Inv0 P ops A H R B σ0 S0 W0 a0 D a W σ S Hd cur mg alc) {i : Nat} {o : Oper} {r : Rec} (ho : ops[i]? = some o) (hr : R i = some r) {σ' : Ren} {S' : Ids} {u : Value} (e : Ext σ S σ' S') (hu : VR σ' (cut S' (AlF R H.next r)) r.v u) :
    (∀ (j : Nat) (o' : Oper) (t : Nat) (r' : Rec), ops[j]? = some o' → o'.dst = some t → with_ D i j → R j = some r' → VR σ' (cut S' (AlF R H.next r')) r'.v ((a.put o.dst u).tmps.getD t undef)) ∧
    (∀ t, (∀ (j : Nat) (o : Oper), ops[j]? = some o → o.dst = some t → ¬ with_ D i j) → VR σ' (cut S' (fun b => b < H.next)) (A.at_ t) ((a.put o.dst u).tmps.getD t undef)) ∧
    (a.put o.dst u).tmps.size = A.n ∧ (a.put o.dst u).defers = a0.defers := by
  have hne : ∀ t, o.dst ≠ some t → (a.put o.dst u).tmps.getD t undef = a.tmps.getD t undef := by
    intro t h
    cases hd : o.dst with
    | none => rfl
    | some d =>
      rw [hd] at h
      have h' : d ≠ t := fun q => h (by rw [q])
      simp only [Act.put]
      rw [Array.getD_eq_getD_getElem?, Array.getD_eq_getD_getElem?, Array.getElem?_setIfInBounds, if_neg h']
  refine ⟨fun j o' t r' h1 h2 h3 h4 => ?_, fun t h => ?_, ?_, ?_⟩
  · by_cases hj : j = i
    · subst hj
      rw [ho] at h1
      injection h1 with h1
      subst h1
      rw [hr] at h4
      injection h4 with h4
      subst h4
      obtain ⟨o2, h5, F⟩ := p.dom j r hr
      rw [ho] at h5
      injection h5 with h5
      subst h5
      have hlt := F.dst t h2
      have : (a.put o.dst u).tmps.getD t undef = u := by
        rw [h2]
        simp only [Act.put]
        rw [Array.getD_eq_getD_getElem?, Array.getElem?_setIfInBounds, if_pos rfl, if_pos (by rw [v.size]; exact hlt)]
        rfl
      rw [this]
      exact hu
    · rw [hne t fun q => hj (p.uniq j i o' o t h1 ho h2 q)]
      exact (v.slots j o' t r' h1 h2 (h3.resolve_right hj) h4).ext (e.cut _)
  · rw [hne t (fun q => h i o ho q (.inr rfl))]
    exact (v.slots0 t fun j o' q1 q2 q3 => h j o' q1 q2 (.inl q3)).ext (e.cut _)
  · rw [← v.size]
    cases o.dst <;> simp [Act.put]
  · rw [← v.defs]
    cases o.dst <;> rfl
theorem Inv0.down_ (p : Plan P X call ops A H L R N) (v : Inv0 P ops A H R B σ0 S0 W0 a0 D a W σ S Hd cur mg alc) {i : Nat} {r : Rec} (hr : R i = some r) (hD : ∀ j, Nat.testBit r.anc j = true → D j) : ∀ j r' m, with_ D i j → R j = some r' → Nat.testBit r'.anc m = true → with_ D i m := by
  intro j r' m h1 h2 h3
  rcases h1 with h1 | rfl
  · exact .inl (v.down j r' m h1 h2 h3)
  · rw [hr] at h2
    injection h2 with h2
    subst h2
    exact .inl (hD m h3)
/-- an operation outside the chain has run -/
theorem Inv0.calm (p : Plan P X call ops A H L R N) (v : Inv0 P ops A H R B σ0 S0 W0 a0 D a W σ S Hd cur mg alc) (hf0 : Free S0 H.next) {i : Nat} {o : Oper} {r : Rec} (ho : ops[i]? = some o) (hr : R i = some r) (hi : ¬ D i) (hD : ∀ j, Nat.testBit r.anc j = true → D j) (hn : ¬ isChn r)
    {σ' : Ren} {S' : Ids} {W' : World} {G : AH} {u : Value} (rep : Rep σ' S' G W' B) (evo : Evo σ S W σ' S' W') (kept : ∀ b, b < W.heap.size → W'.heap[b]? = W.heap[b]?) (taken : ∀ b, S' b → S b ∨ (r.lo ≤ b ∧ b < r.hi))
    (g1 : ∀ id ob, G.get id = some ob → Hd.get id = some ob ∨ (r.kd = .fresh ob ∧ id = r.lo)) (g2 : ∀ id ob, Hd.get id = some ob → G.get id = some ob) (g3 : ∀ ob, r.kd = .fresh ob → G.get r.lo = some ob)
    (hob : ∀ ob inf, r.kd = .fresh ob → ORel σ' S' W' inf ob → ORel σ' (cut S' (AlF R H.next r)) W' inf ob) (hu : VR σ' (cut S' (AlF R H.next r)) r.v u) :
    Inv0 P ops A H R B σ0 S0 W0 a0 (with_ D i) (a.put o.dst u) W' σ' S' G cur mg alc := by
  have hmg := v.mg_not hi
  have hap : ∀ id, Apart R D mg id → (∀ ob, r.kd = .fresh ob → r.lo ≠ id) → Apart R (with_ D i) mg id := by
    intro id h1 h2 j rj ob h3 h4 h5 h6
    rcases h3 with h3 | rfl
    · exact h1 j rj ob h3 h4 h5 h6
    · rw [hr] at h4
      injection h4 with h4
      subst h4
      exact h2 ob h5
  have hfree : ∀ ob, r.kd = .fresh ob → ¬ S r.lo := fun ob h => v.free p hf0 hr hi r.lo (Nat.le_refl _) (by rw [(p.fresh hr h).1]; omega)
  obtain ⟨s1, s2, s3, s4⟩ := v.slot_ p ho hr evo.ext hu
  refine ⟨?_, ⟨fun j rj ob h1 h2 h3 h4 => ?_, fun id h => ?_⟩, ⟨fun id ob h => ?_, rep.dead, rep.inj⟩, v.lv, v.evo.trans evo, fun b hb => ?_, s1, s2, s3, s4, v.down_ p hr hD, Nat.le_trans v.base evo.size⟩
  · rcases v.curD with ⟨h1, h2⟩ | ⟨c, rc, h1, h2, h3, h4, h5, h6⟩
    · refine .inl ⟨fun j rj h3 h4 => ?_, h2⟩
      rcases h3 with h3 | rfl
      · exact h1 j rj h3 h4
      · rw [hr] at h4
        injection h4 with h4
        subst h4
        exact hn
    · refine .inr ⟨c, rc, .inl h1, h2, h3, h4, fun j rj h7 h8 h9 => ?_, h6⟩
      rcases h7 with h7 | rfl
      · exact h5 j rj h7 h8 h9
      · rw [hr] at h8
        injection h8 with h8
        subst h8
        exact absurd h9 hn
  · rcases h1 with h1 | rfl
    · exact g2 _ _ (v.view.fresh j rj ob h1 h2 h3 h4)
    · rw [hr] at h2
      injection h2 with h2
      subst h2
      exact g3 ob h3
  · have h1 : Apart R D mg id := fun j rj ob h2 => h j rj ob (.inl h2)
    rw [← v.view.old id h1]
    cases hd : Hd.get id with
    | some ob => exact g2 id ob hd
    | none =>
      cases hg : G.get id with
      | none => rfl
      | some ob =>
        rcases g1 id ob hg with h2 | ⟨h2, rfl⟩
        · rw [hd] at h2; cases h2
        · exact absurd rfl (h i r ob (.inr rfl) hr h2 hmg)
  · rcases g1 id ob h with h1 | ⟨h1, rfl⟩
    · obtain ⟨k1, k2, inf, k3, k4, k5⟩ := v.rr.live id ob h1
      obtain ⟨m1, inf', m2, m3, m4⟩ := rep.live id ob h
      have := evo.ext.old id inf' k1 m2
      rw [k3] at this
      injection this with this
      subst this
      have hreg : ∀ b, regOf R H.next D mg alc id b → regOf R H.next (with_ D i) mg alc id b := by
        intro b hb
        rcases hb with ⟨j, rj, ob', q1, q2, q3, q4, q5, q6⟩ | ⟨q1, q2⟩
        · exact .inl ⟨j, rj, ob', .inl q1, q2, q3, q4, q5, q6⟩
        · exact .inr ⟨hap id q1 fun ob' q3 q4 => hfree ob' q3 (by rw [q4]; exact k1), q2⟩
      exact ⟨m1, hreg id k2, inf, m2, (k4.same (kept _ k4.lt)).ext ⟨fun b hb => ⟨evo.ext.le b hb.1, hreg b hb.2⟩, fun b i' hb q => evo.ext.old b i' hb.1 q⟩, m4⟩
    · obtain ⟨m1, inf', m2, m3, m4⟩ := rep.live r.lo ob h
      have hreg : ∀ b, AlF R H.next r b → regOf R H.next (with_ D i) mg alc r.lo b := fun b hb => .inl ⟨i, r, ob, .inr rfl, hr, h1, hmg, rfl, hb⟩
      exact ⟨m1, hreg _ (.inr ⟨Nat.le_refl _, by rw [(p.fresh hr h1).1]; omega⟩), inf', m2, (hob ob inf' h1 m3).ext (.widen hreg), m4⟩
  · rcases taken b hb with h1 | h1
    · rcases v.ids b h1 with h2 | ⟨j, rj, h2, h3⟩
      · exact .inl h2
      · exact .inr ⟨j, rj, .inl h2, h3⟩
    · exact .inr ⟨i, r, .inr rfl, hr, h1⟩
end
end
end Go.Proofs.YtnckhmfajjcgpaaGreatDoor.Ev
namespace Go.Proofs.YtnckhmfajjcgpaaGreatDoor.Ev
noncomputable section
section
variable {P : Program} {X : Tab} {call : ACall} {ops : Array Oper} {A : AAct} {H : AH} {L : Nat → Nat} {R : Nat → Option Rec} {N : Nat} {B : Nat} {σ0 : Ren} {S0 : Ids} {W0 : World} {a0 : Act} {D : Nat → Prop} {a : Act} {W : World} {σ : Ren} {S : Ids} {Hd : AH} {cur : T AObj} {mg : Nat} {alc : Ids}
/-- an operation that no memory decides leaves what there was -/
theorem run_kept (hX : TabOk P X) {n : Nat} {ρ : Env} {o : Oper} {v : Value} {G : AH} {ρ' : Operand → Value} (hA : aop P X ⟨n, .lf⟩ ρ o = some (.value v, G)) (hρ : EnvOk σ S ρ ρ') (hfree : ¬ S n) (hB : B ≤ W.heap.size) {r : Next} {W' : World} (hr : (execOp ρ' o).run P W = .ok r W') : ∀ b, b < W.heap.size → W'.heap[b]? = W.heap[b]? := by
  have h0 : Rep (fun _ => none) S ⟨n, .lf⟩ W B := ⟨fun id o h => (by cases h), fun _ _ => rfl, fun id id' i i' h => (by cases h)⟩
  obtain ⟨σ', S', W2, r2, k1, _, k3, _, _⟩ := aop_sound hX h0 hfree hB (hρ.ext ⟨fun b hb => hb, fun id i _ h => (by cases h)⟩) hA
  rw [hr] at k1
  injection k1 with _ k1
  subst k1
  exact fun b hb => k3.frame b hb fun id i h => (by cases h)
theorem Fact.order {f : Nat → Option Rec} {i : Nat} {o : Oper} {r : Rec} (F : Fact P X call ops A H L f i o r) (h : isChn r) : ∀ j rj, f j = some rj → isChn rj → Nat.testBit r.anc j = true := by
  obtain ⟨t, h⟩ := h
  rcases F.work with ⟨_, h10, _⟩ | ⟨_, _, _, ⟨h10, _⟩ | ⟨_, h10, _⟩ | ⟨_, h10, _⟩ | ⟨_, _, _, _, _, h10, _⟩⟩
  · rw [h10] at h; cases h
  · rw [h10] at h; cases h
  · rw [h10] at h; cases h
  · rw [h10] at h; cases h
  · exact h10
theorem Inv0.chain (p : Plan P X call ops A H L R N) (hX : TabOk P X) (hcall : CallOk P call) (hf0 : Free S0 H.next) (v : Inv0 P ops A H R B σ0 S0 W0 a0 D a W σ S Hd cur mg alc) {i : Nat} {o : Oper} {r : Rec} (ho : ops[i]? = some o) (hr : R i = some r) (hi : ¬ D i) (hD : ∀ j, Nat.testBit r.anc j = true → D j)
    {ρ : Env} (hρc : EnvOk σ (cut S (Al R H.next r.anc)) ρ a.eval) {tab cur' : T AObj} {mg' : Nat} (hkd : r.kd = .chn tab) (hcur : CurF (below R i) H cur' mg') (hord : ∀ j rj, below R i j = some rj → isChn rj → Nat.testBit r.anc j = true)
    (hev : evRes P X call ρ o ⟨r.lo, addFresh (below R i) (fun j => Nat.testBit r.anc j && !Nat.testBit mg' j) i cur'⟩ = some (r.v, ⟨r.hi, tab⟩)) {Q : Exit → Act → World → Prop} {K : Act → World → Prop}
    (hK : ∀ a' W' σ' S' Hd' cur' mg' alc', Inv0 P ops A H R B σ0 S0 W0 a0 (with_ D i) a' W' σ' S' Hd' cur' mg' alc' → K a' W') : o.wp P a W K Q := by
  classical
  have hchn : isChn r := ⟨tab, hkd⟩
  have hlt : ∀ j rj, D j → R j = some rj → isChn rj → j < i := by
    intro j rj h1 h2 h3
    rcases Nat.lt_trichotomy j i with h | h | h
    · exact h
    · subst h; exact absurd h1 hi
    · obtain ⟨oj, Fj⟩ := p.hF j rj h2
      exact absurd (v.down j rj i h1 h2 (Fj.order h3 i r (below_some.2 ⟨h, hr⟩) hchn)) hi
  have hcm : cur' = cur ∧ mg' = mg := by
    rcases hcur with ⟨h1, h2, h3⟩ | ⟨c, rc, h1, h2, h3, h4⟩
    · rcases v.curD with ⟨_, h6, h7, _⟩ | ⟨c, rc, h5, h6, h7, _⟩
      · exact ⟨h2.trans h6.symm, h3.trans h7.symm⟩
      · exact absurd ⟨cur, h7⟩ (h1 c rc (below_some.2 ⟨hlt c rc h5 h6 ⟨cur, h7⟩, h6⟩))
    · have hDc := hD c (hord c rc h1 ⟨cur', h2⟩)
      have hrc := (below_some.1 h1).2
      rcases v.curD with ⟨h5, _⟩ | ⟨c', rc', h5, h6, h7, h8, h9, _⟩
      · exact absurd ⟨cur', h2⟩ (h5 c rc hDc hrc)
      · have e1 := h9 c rc hDc hrc ⟨cur', h2⟩
        have e2 := h4 c' rc' (below_some.2 ⟨hlt c' rc' h5 h6 ⟨cur, h7⟩, h6⟩) ⟨cur, h7⟩
        have e : c = c' := Nat.le_antisymm e1 e2
        subst e
        rw [hrc] at h6
        injection h6 with h6
        subst h6
        rw [h2] at h7
        injection h7 with h7
        exact ⟨h7, h3.trans h8.symm⟩
  obtain ⟨rfl, rfl⟩ := hcm
  have mgsub : ∀ j, Nat.testBit mg' j = true → Nat.testBit r.anc j = true := by
    rcases v.curD with ⟨_, _, rfl, _⟩ | ⟨c, rc, h1, h2, h3, rfl, _, _⟩
    · intro j h; simp at h
    · exact fun j h => p.trans hr (hord c rc (below_some.2 ⟨hlt c rc h1 h2 ⟨_, h3⟩, h2⟩) ⟨_, h3⟩) h2 h
  have alcU : ∀ b, alc b → Al R H.next r.anc b := by
    rcases v.curD with ⟨_, _, _, rfl⟩ | ⟨c, rc, h1, h2, h3, _, _, rfl⟩
    · exact fun b hb => .inl hb
    · exact fun b hb => p.al hr (hord c rc (below_some.2 ⟨hlt c rc h1 h2 ⟨_, h3⟩, h2⟩) ⟨_, h3⟩) h2 hb
  have hv1 : View R (fun j => Nat.testBit r.anc j = true) mg' cur' (⟨r.lo, addFresh (below R i) (fun j => Nat.testBit r.anc j && !Nat.testBit mg' j) i cur'⟩ : AH).get :=
    p.view (below R i) (fun j r => below_some) (fun j => by
      constructor
      · rintro ⟨h1, h2⟩
        simp only [Bool.and_eq_true, Bool.not_eq_true'] at h1
        exact ⟨h1.1, h2, h1.2⟩
      · rintro ⟨h1, h2, h3⟩
        exact ⟨by simp [h1, h3], h2⟩) (fun j _ _ h1 _ _ _ => (p.lt hr h1).1) cur'
  generalize hH1 : (⟨r.lo, addFresh (below R i) (fun j => Nat.testBit r.anc j && !Nat.testBit mg' j) i cur'⟩ : AH) = H1 at hv1 hev
  have hnx : H1.next = r.lo := by rw [← hH1]
  have h1' : ∀ id ob, H1.get id = some ob → Hd.get id = some ob ∧ ∀ b, regOf R H.next D mg' alc id b → Al R H.next r.anc b := by
    intro id ob h
    by_cases hx : ∃ j rj obj, Nat.testBit r.anc j = true ∧ R j = some rj ∧ rj.kd = .fresh obj ∧ Nat.testBit mg' j = false ∧ rj.lo = id
    · obtain ⟨j, rj, obj, q1, q2, q3, q4, rfl⟩ := hx
      have e := hv1.fresh j rj obj q1 q2 q3 q4
      rw [h] at e
      injection e with e
      subst e
      refine ⟨v.view.fresh j rj ob (hD j q1) q2 q3 q4, ?_⟩
      rintro b (⟨j', rj', ob', w1, w2, w3, w4, w5, w6⟩ | ⟨w1, _⟩)
      · have e := p.same w2 q2 w3 q3 w5
        subst e
        exact p.al hr q1 w2 w6
      · exact absurd rfl (w1 j rj ob (hD j q1) q2 q3 q4)
    · have hap : Apart R (fun j => Nat.testBit r.anc j = true) mg' id := fun j rj ob' w1 w2 w3 w4 w5 => hx ⟨j, rj, ob', w1, w2, w3, w4, w5⟩
      rw [hv1.old id hap] at h
      have hal := v.lv id ob h
      have hap2 : Apart R D mg' id := fun j rj ob' w1 w2 w3 w4 w5 => by subst w5; exact p.unm v.curD w2 w3 w4 hal
      refine ⟨by rw [v.view.old id hap2]; exact h, ?_⟩
      rintro b (⟨j', rj', ob', w1, w2, w3, w4, w5, w6⟩ | ⟨_, w1⟩)
      · exact absurd w5 (hap2 j' rj' ob' w1 w2 w3 w4)
      · exact alcU b w1
  have h2 : ∀ id ob, Hd.get id = some ob → Al R H.next r.anc id → H1.get id = some ob := by
    intro id ob h hu
    by_cases hx : ∃ j rj obj, D j ∧ R j = some rj ∧ rj.kd = .fresh obj ∧ Nat.testBit mg' j = false ∧ rj.lo = id
    · obtain ⟨j, rj, obj, q1, q2, q3, q4, rfl⟩ := hx
      have hj : Nat.testBit r.anc j = true := by
        cases hb : Nat.testBit r.anc j with
        | true => rfl
        | false => exact absurd hu (p.not_al q2 (Nat.le_refl _) (by rw [(p.fresh q2 q3).1]; omega) hb)
      have e := v.view.fresh j rj obj q1 q2 q3 q4
      rw [h] at e
      rw [e]
      exact hv1.fresh j rj obj hj q2 q3 q4
    · have hap : Apart R D mg' id := fun j rj ob' w1 w2 w3 w4 w5 => hx ⟨j, rj, ob', w1, w2, w3, w4, w5⟩
      rw [v.view.old id hap] at h
      rw [hv1.old id fun j rj ob' w1 w2 w3 w4 => hap j rj ob' (hD j w1) w2 w3 w4]
      exact h
  have hfree1 : Free (cut S (Al R H.next r.anc)) H1.next := by
    rw [hnx]
    rintro b hb ⟨_, hu⟩
    rcases hu with hu | ⟨m, rm, q1, q2, q3, q4⟩
    · have := p.lo hr; omega
    · have := p.before hr q1 (p.lt hr q2).1; omega
  refine evRes_wp hX hcall hev (v.rr.sub h1') hfree1 v.base (hρc.ext ⟨fun b hb => hb, fun id i' _ q => (sub_some q).1⟩) fun σ1 S1 u W' k1 k2 k3 => ?_
  have taken : ∀ b, S1 b → cut S (Al R H.next r.anc) b ∨ (r.lo ≤ b ∧ b < r.hi) := by
    have := k3.taken.2
    rw [hnx] at this
    exact this
  have s1F : ∀ b, S1 b → AlF R H.next r b := fun b hb => (taken b hb).imp (fun h => h.2) fun h => h
  have domlt : ∀ j rj, R j = some rj → j < ops.size := fun j rj h => by
    obtain ⟨oj, h1, _⟩ := p.dom j rj h
    exact (Array.getElem?_eq_some_iff.1 h1).1
  have hv2 : View R (with_ D i) r.anc tab (⟨0, addFresh R (fun j => decide (with_ D i j) && !Nat.testBit r.anc j) ops.size tab⟩ : AH).get :=
    p.view R (fun j rj => ⟨fun h => ⟨domlt j rj h, h⟩, fun h => h.2⟩) (fun j => by
      constructor
      · rintro ⟨h1, h2⟩
        simp only [Bool.and_eq_true, Bool.not_eq_true', decide_eq_true_eq] at h1
        exact ⟨h1.1, h2, h1.2⟩
      · rintro ⟨h1, h2, h3⟩
        exact ⟨by simp [h1, h3], h2⟩) (fun j rj _ _ h _ _ => domlt j rj h) tab
  generalize (⟨0, addFresh R (fun j => decide (with_ D i j) && !Nat.testBit r.anc j) ops.size tab⟩ : AH) = Hd' at hv2
  have g1 : ∀ id ob, Hd'.get id = some ob → ((⟨r.hi, tab⟩ : AH).get id = some ob ∧ ∀ b, S1 b → regOf R H.next (with_ D i) r.anc (AlF R H.next r) id b) ∨ (Hd.get id = some ob ∧ ¬ Al R H.next r.anc id ∧ ∀ b, regOf R H.next D mg' alc id b → regOf R H.next (with_ D i) r.anc (AlF R H.next r) id b) := by
    intro id ob h
    by_cases hx : ∃ j rj obj, with_ D i j ∧ R j = some rj ∧ rj.kd = .fresh obj ∧ Nat.testBit r.anc j = false ∧ rj.lo = id
    · obtain ⟨j, rj, obj, q1, q2, q3, q4, rfl⟩ := hx
      have e := hv2.fresh j rj obj q1 q2 q3 q4
      rw [h] at e
      injection e with e
      subst e
      have hDj : D j := by
        rcases q1 with q1 | rfl
        · exact q1
        · rw [hr] at q2
          injection q2 with q2
          subst q2
          rw [hkd] at q3
          cases q3
      have hmj : Nat.testBit mg' j = false := by
        cases hb : Nat.testBit mg' j with
        | false => rfl
        | true => rw [mgsub j hb] at q4; cases q4
      refine .inr ⟨v.view.fresh j rj ob hDj q2 q3 hmj, p.not_al q2 (Nat.le_refl _) (by rw [(p.fresh q2 q3).1]; omega) q4, ?_⟩
      rintro b (⟨j', rj', ob', w1, w2, w3, w4, w5, w6⟩ | ⟨w1, _⟩)
      · have e := p.same w2 q2 w3 q3 w5
        subst e
        exact .inl ⟨_, rj', ob', .inl w1, w2, w3, q4, w5, w6⟩
      · exact absurd rfl (w1 j rj ob hDj q2 q3 hmj)
    · have hap : Apart R (with_ D i) r.anc id := fun j rj ob' w1 w2 w3 w4 w5 => hx ⟨j, rj, ob', w1, w2, w3, w4, w5⟩
      rw [hv2.old id hap] at h
      exact .inl ⟨h, fun b hb => .inr ⟨hap, s1F b hb⟩⟩
  have g2 : ∀ id, Hd'.get id = none → (⟨r.hi, tab⟩ : AH).get id = none ∧ ∀ ob, Hd.get id = some ob → Al R H.next r.anc id := by
    intro id h
    have hap : Apart R (with_ D i) r.anc id := fun j rj ob' w1 w2 w3 w4 w5 => by
      subst w5
      rw [hv2.fresh j rj ob' w1 w2 w3 w4] at h
      cases h
    rw [hv2.old id hap] at h
    refine ⟨h, fun ob hob => ?_⟩
    by_cases hx : ∃ j rj obj, D j ∧ R j = some rj ∧ rj.kd = .fresh obj ∧ Nat.testBit mg' j = false ∧ rj.lo = id
    · obtain ⟨j, rj, obj, q1, q2, q3, q4, rfl⟩ := hx
      cases hb : Nat.testBit r.anc j with
      | true => exact .inr ⟨j, rj, q2, hb, Nat.le_refl _, by rw [(p.fresh q2 q3).1]; omega⟩
      | false => exact absurd rfl (hap j rj obj (.inl q1) q2 q3 hb)
    · rw [v.view.old id fun j rj ob' w1 w2 w3 w4 w5 => hx ⟨j, rj, ob', w1, w2, w3, w4, w5⟩] at hob
      exact alcU id (v.lv id ob hob)
  obtain ⟨σ', S', m1, m2, m3, m4⟩ := v.rr.join h1' h2 (v.free p hf0 hr hi) k2 k3.evo taken g1 g2
  obtain ⟨s1, s2, s3, s4⟩ := v.slot_ p ho hr m2.ext (k1.ext ⟨fun b hb => ⟨(m4 b).2 (.inr hb), s1F b hb⟩, m3.old⟩)
  refine hK _ _ σ' S' Hd' tab r.anc (AlF R H.next r) ⟨.inr ⟨i, r, .inr rfl, hr, hkd, rfl, fun j rj q1 q2 q3 => ?_, rfl⟩, hv2, m1, fun id ob h => ?_, v.evo.trans m2, fun b hb => ?_, s1, s2, s3, s4, v.down_ p hr hD, Nat.le_trans v.base m2.size⟩
  · rcases q1 with q1 | rfl
    · exact Nat.le_of_lt (hlt j rj q1 q2 q3)
    · exact Nat.le_refl _
  · exact s1F id (k2.live id ob h).1
  · rcases (m4 b).1 hb with h | h
    · rcases v.ids b h with h3 | ⟨j, rj, h3, h4⟩
      · exact .inl h3
      · exact .inr ⟨j, rj, .inl h3, h4⟩
    · rcases taken b h with h | h
      · rcases v.ids b h.1 with h3 | ⟨j, rj, h3, h4⟩
        · exact .inl h3
        · exact .inr ⟨j, rj, .inl h3, h4⟩
      · exact .inr ⟨i, r, .inr rfl, hr, h⟩
theorem Inv0.step (p : Plan P X call ops A H L R N) (hX : TabOk P X) (hcall : CallOk P call) (hf0 : Free S0 H.next) (v : Inv0 P ops A H R B σ0 S0 W0 a0 D a W σ S Hd cur mg alc) {i : Nat} {o : Oper} (ho : ops[i]? = some o) (hi : ¬ D i) (hready : ∀ e ∈ o.after.toList, Region.binds .any e = true → D e.on) {Q : Exit → Act → World → Prop} {K : Act → World → Prop}
    (hK : ∀ a' W' σ' S' Hd' cur' mg' alc', Inv0 P ops A H R B σ0 S0 W0 a0 (with_ D i) a' W' σ' S' Hd' cur' mg' alc' → K a' W') : wpOp P ops Q i K a W := by
  obtain ⟨r, hr, F⟩ := p.facts i o ho
  have hD : ∀ j, Nat.testBit r.anc j = true → D j := by
    intro j hj
    obtain ⟨e, h1, h2, re, h3, h4⟩ := F.anc j hj
    rcases h4 with rfl | h4
    · exact hready e h1 h2
    · exact v.down e.on re j (hready e h1 h2) (below_some.1 h3).2 h4
  have inU : ∀ {pp : Nat → Bool}, (∀ b, pp b = true → Al (below R i) H.next r.anc b ∨ (r.lo ≤ b ∧ b < r.hi)) → ∀ b, pp b = true → AlF R H.next r b := fun h b hb => (h b hb).imp al_below fun q => q
  unfold wpOp
  rw [ho]
  simp only
  rcases F.work with ⟨hg, hkd, hv, hhi⟩ | ⟨ρ, hE, hg, hwork⟩
  · rw [v.guard hD hg, if_neg (by simp)]
    have hn : ¬ isChn r := fun ⟨t, ht⟩ => by rw [hkd] at ht; cases ht
    have hfr : ∀ ob, r.kd ≠ .fresh ob := fun ob h => by rw [hkd] at h; cases h
    exact hK _ _ σ S Hd cur mg alc (v.calm p hf0 ho hr hi hD hn (v.rr.rep fun _ => rfl) (v.rr.rep (H := Hd) fun _ => rfl).refl (fun _ _ => rfl) (fun b hb => .inl hb) (fun id ob h => .inl h) (fun id ob h => h) (fun ob h => absurd h (hfr ob)) (fun ob inf h => absurd h (hfr ob)) (by rw [hv]; exact undef_vr))
  · rw [v.guard hD hg, if_pos rfl]
    refine .inl ?_
    have hρc := v.env p hr hi hD hE
    have hρ : EnvOk σ S ρ a.eval := hρc.ext .of_cut
    rcases hwork with ⟨hkd, hhi, hA, pp, hin, hpp⟩ | ⟨q, hkd, hhi, hq, _, pp, hin, hpp⟩ | ⟨ob, hkd, hhi, hlo, hA, pp, hin, hpp⟩ | ⟨tab, cur', mg', hkd, hcur, hord, hev⟩
    · have hn : ¬ isChn r := fun ⟨t, ht⟩ => by rw [hkd] at ht; cases ht
      have hfr : ∀ ob, r.kd ≠ .fresh ob := fun ob h => by rw [hkd] at h; cases h
      have hNf := v.freeN p hf0
      obtain ⟨σ', S', W', r', k1, k2, k3, k4, k5⟩ := aop_sound (H := ⟨N, Hd.tab⟩) hX (v.rr.rep fun _ => rfl) (hNf N (Nat.le_refl _)) v.base hρ (hA ⟨N, Hd.tab⟩)
      have kept := run_kept hX (hA ⟨N, .lf⟩) hρ (hNf N (Nat.le_refl _)) v.base k1
      cases r' <;> simp only [NR] at k4
      rename_i u
      unfold Oper.wp
      rw [k1, Oper.upon_value]
      exact hK _ _ σ' S' _ cur mg alc (v.calm p hf0 ho hr hi hD hn k2 k3 kept (fun b hb => (k5.2 b hb).imp (fun h => h) fun h => by simp only at h; omega) (fun id ob h => .inl h) (fun id ob h => h) (fun ob h => absurd h (hfr ob)) (fun ob inf h => absurd h (hfr ob))
        (VR.restrict (inU hpp) 8 _ _ k4 hin))
    · have hn : ¬ isChn r := fun ⟨t, ht⟩ => by rw [hkd] at ht; cases ht
      have hfr : ∀ ob, r.kd ≠ .fresh ob := fun ob h => by rw [hkd] at h; cases h
      obtain ⟨hp1, hp2⟩ := p.pair i r q hr hkd
      have hload : q Hd.tab = some r.v := by
        have h1 : q cur = some r.v := by
          rcases v.curD with ⟨h1, rfl, _⟩ | ⟨c, rc, h1, h2, h3, _, h5, _⟩
          · refine hp2 fun c rc h2 h3 => ?_
            cases hb : Nat.testBit r.anc c with
            | false => rfl
            | true => exact absurd h3 (h1 c rc (hD c hb) h2)
          · refine hp1 c rc cur h2 h3 ?_ fun c' rc' h6 h7 h8 => ?_
            · cases hb : Nat.testBit rc.anc i with
              | false => rfl
              | true => exact absurd (v.down c rc i h1 h2 hb) hi
            · rcases Nat.lt_or_ge c' c with h9 | h9
              · right
                obtain ⟨oc, Fc⟩ := p.hF c rc h2
                rcases Fc.work with ⟨_, h10, _⟩ | ⟨_, _, _, ⟨h10, _⟩ | ⟨_, h10, _⟩ | ⟨_, h10, _⟩ | ⟨_, _, _, _, _, h10, _⟩⟩
                · rw [h10] at h3; cases h3
                · rw [h10] at h3; cases h3
                · rw [h10] at h3; cases h3
                · rw [h10] at h3; cases h3
                · exact h10 c' rc' (below_some.2 ⟨h9, h6⟩) h7
              · exact .inl (Nat.le_antisymm (h5 c' rc' (hD c' h8) h6 h7) h9)
        refine hq.mono h1 fun id ob h => ?_
        have hal := v.lv id ob h
        show Hd.get id = some ob
        rw [v.view.old id fun j rj ob' h2 h3 h4 h5 h6 => ?_]
        · exact h
        · subst h6
          exact p.unm v.curD h3 h4 h5 hal
      have hrep := v.rr.rep (H := Hd) fun _ => rfl
      obtain ⟨u, hrun, k2⟩ := hq.run hX hrep hρ hload
      unfold Oper.wp
      rw [hrun, Oper.upon_value]
      exact hK _ _ σ S Hd cur mg alc (v.calm p hf0 ho hr hi hD hn hrep hrep.refl (fun _ _ => rfl) (fun b hb => .inl hb) (fun id ob h => .inl h) (fun id ob h => h) (fun ob h => absurd h (hfr ob)) (fun ob inf h => absurd h (hfr ob)) (VR.restrict (inU hpp) 8 _ _ k2 hin))
    · have hn : ¬ isChn r := fun ⟨t, ht⟩ => by rw [hkd] at ht; cases ht
      simp only [Bool.and_eq_true] at hin
      have hfree := v.free p hf0 hr hi r.lo (Nat.le_refl _) (by omega)
      obtain ⟨σ', S', W', r', k1, k2, k3, k4, k5⟩ := aop_sound (H := ⟨r.lo, Hd.tab⟩) hX (v.rr.rep fun _ => rfl) hfree v.base hρ (hA ⟨r.lo, Hd.tab⟩ rfl)
      have kept := run_kept hX (hA ⟨r.lo, .lf⟩ rfl) hρ hfree v.base k1
      cases r' <;> simp only [NR] at k4
      rename_i u
      unfold Oper.wp
      rw [k1, Oper.upon_value]
      have hget : ∀ id, (⟨r.lo + 1, Hd.tab.set r.lo (some ob)⟩ : AH).get id = if id = r.lo then some ob else Hd.get id := fun id => T.get_set _ _ _ _ (by omega)
      refine hK _ _ σ' S' _ cur mg alc (v.calm p hf0 ho hr hi hD hn k2 k3 kept (fun b hb => (k5.2 b hb).imp (fun h => h) fun h => by simp only at h; omega) (fun id ob' h => ?_) (fun id ob' h => ?_) (fun ob' h => ?_) (fun ob' inf h h2 => ?_) (VR.restrict (inU hpp) 8 _ _ k4 hin.1))
      · rw [hget] at h
        by_cases e : id = r.lo
        · rw [if_pos e] at h
          injection h with h
          exact .inr ⟨by rw [← h]; exact hkd, e⟩
        · rw [if_neg e] at h
          exact .inl h
      · rw [hget, if_neg]
        · exact h
        · rintro rfl
          exact hfree (v.rr.live _ ob' h).1
      · rw [hkd] at h
        injection h with h
        rw [hget, if_pos rfl, h]
      · rw [hkd] at h
        injection h with h
        subst h
        exact h2.restrict (inU hpp) hin.2
    · exact v.chain p hX hcall hf0 ho hr hi hD hρc hkd hcur hord hev hK
end
end
end Go.Proofs.YtnckhmfajjcgpaaGreatDoor.Ev
namespace Go.Proofs.YtnckhmfajjcgpaaGreatDoor.Ev
noncomputable section
section
variable {P : Program} {X : Tab} {call : ACall} {ops : Array Oper} {A : AAct} {H : AH} {L : Nat → Nat} {R : Nat → Option Rec} {N : Nat} {B : Nat} {σ0 : Ren} {S0 : Ids} {W0 : World} {a0 : Act}
theorem ready_mem {listed : Array Bool} {i : Nat} : i ∈ Region.ready .any ops listed ↔ ∃ o, ops[i]? = some o ∧ listed.getD i true = false ∧ ∀ e ∈ o.after.toList, Region.binds .any e = true → listed.getD e.on false = true := by
  unfold Region.ready
  simp only [List.mem_filter, List.mem_range, Bool.and_eq_true, Bool.not_eq_true']
  constructor
  · rintro ⟨h1, h2, h3⟩
    rw [Array.getElem?_eq_getElem h1] at h3
    simp only [Option.map_some, Option.getD_some, Array.all_eq_true_iff_forall_mem, Bool.or_eq_true, Bool.not_eq_true'] at h3
    refine ⟨_, Array.getElem?_eq_getElem h1, h2, fun e he hb => ?_⟩
    rcases h3 e (by simpa using he) with h4 | h4
    · rw [hb] at h4; cases h4
    · exact h4
  · rintro ⟨o, h1, h2, h3⟩
    refine ⟨(Array.getElem?_eq_some_iff.1 h1).1, h2, ?_⟩
    rw [h1]
    simp only [Option.map_some, Option.getD_some, Array.all_eq_true_iff_forall_mem, Bool.or_eq_true, Bool.not_eq_true']
    intro e he
    cases hb : Region.binds .any e with
    | false => exact .inl rfl
    | true => exact .inr (h3 e (by simpa using he) hb)
theorem all_listed (p : Plan P X call ops A H L R N) {listed : Array Bool} (hs : listed.size = ops.size) (h : Region.ready .any ops listed = []) : ∀ j, j < ops.size → listed.getD j false = true := by
  intro j
  induction j using Nat.strongRecOn with
  | ind j ih =>
    intro hj
    cases hl : listed.getD j false with
    | true => rfl
    | false =>
      have hl' : listed.getD j true = false := by
        rw [Array.getD_eq_getD_getElem?, Array.getElem?_eq_getElem (by omega)] at hl ⊢
        exact hl
      have ho : ops[j]? = some ops[j] := Array.getElem?_eq_getElem hj
      obtain ⟨r, hr, F⟩ := p.facts j _ ho
      have : j ∈ Region.ready .any ops listed := ready_mem.2 ⟨_, ho, hl', fun e he hb => by
        obtain ⟨h1, _⟩ := F.edges e he hb
        have := (p.lt hr h1).1
        exact ih e.on this (by omega)⟩
      rw [h] at this
      cases this
theorem count_set {listed : Array Bool} {i : Nat} (hi : i < listed.size) (h : listed.getD i true = false) : (listed.setIfInBounds i true).toList.count false + 1 = listed.toList.count false := by
  have h1 : listed.toList[i]'(by simpa using hi) = false := by
    rw [Array.getD_eq_getD_getElem?, Array.getElem?_eq_getElem hi] at h
    simpa using h
  have hp : 0 < listed.toList.count false := List.count_pos_iff.2 (by rw [← h1]; exact List.getElem_mem _)
  have h2 : (listed.toList.set i true).count false = listed.toList.count false - 1 := by
    rw [List.count_set (by simpa using hi), h1]
    rfl
  rw [Array.toList_setIfInBounds, h2]
  omega
theorem draws (p : Plan P X call ops A H L R N) (hX : TabOk P X) (hcall : CallOk P call) (hf0 : Free S0 H.next) {Q : Exit → Act → World → Prop}
    (hQ : ∀ a W σ S Hd cur mg alc, Inv0 P ops A H R B σ0 S0 W0 a0 (fun j => j < ops.size) a W σ S Hd cur mg alc → Q .normal a W) : ∀ (fuel : Nat) (listed : Array Bool) (a : Act) (W : World) (σ : Ren) (S : Ids) (Hd : AH) (cur : T AObj) (mg : Nat) (alc : Ids), listed.size = ops.size → listed.toList.count false ≤ fuel →
    Inv0 P ops A H R B σ0 S0 W0 a0 (fun j => listed.getD j false = true) a W σ S Hd cur mg alc → wpAny P .any ops Q fuel listed a W := by
  have done : ∀ (listed : Array Bool) (a : Act) (W : World) (σ : Ren) (S : Ids) (Hd : AH) (cur : T AObj) (mg : Nat) (alc : Ids), listed.size = ops.size → (∀ j, j < ops.size → listed.getD j false = true) → Inv0 P ops A H R B σ0 S0 W0 a0 (fun j => listed.getD j false = true) a W σ S Hd cur mg alc → Q .normal a W := by
    intro listed a W σ S Hd cur mg alc hs h v
    have : (fun j => listed.getD j false = true) = fun j => j < ops.size := by
      funext j
      refine propext ⟨fun hj => ?_, h j⟩
      rcases Nat.lt_or_ge j ops.size with h1 | h1
      · exact h1
      · rw [Array.getD_eq_getD_getElem?, Array.getElem?_eq_none (by omega)] at hj
        cases hj
    rw [this] at v
    exact hQ _ _ _ _ _ _ _ _ v
  intro fuel
  induction fuel with
  | zero =>
    intro listed a W σ S Hd cur mg alc hs hc v
    have hno : Region.ready .any ops listed = [] := by
      cases hr : Region.ready .any ops listed with
      | nil => rfl
      | cons i l =>
        have hi : i ∈ Region.ready .any ops listed := by rw [hr]; exact List.mem_cons_self
        obtain ⟨o, h1, h2, _⟩ := ready_mem.1 hi
        have := count_set (by rw [hs]; exact (Array.getElem?_eq_some_iff.1 h1).1) h2
        omega
    exact ⟨hno, done listed a W σ S Hd cur mg alc hs (all_listed p hs hno) v⟩
  | succ fuel ih =>
    intro listed a W σ S Hd cur mg alc hs hc v
    refine ⟨fun hno => done listed a W σ S Hd cur mg alc hs (all_listed p hs hno) v, fun i hi => ?_⟩
    obtain ⟨o, h1, h2, h3⟩ := ready_mem.1 hi
    have hlt := (Array.getElem?_eq_some_iff.1 h1).1
    refine v.step p hX hcall hf0 h1 (fun h => ?_) h3 fun a' W' σ' S' Hd' cur' mg' alc' v' => ?_
    · rw [Array.getD_eq_getD_getElem?, Array.getElem?_eq_getElem (by omega)] at h h2
      simp only [Option.getD_some] at h h2
      rw [h] at h2
      cases h2
    · have hD : with_ (fun j => listed.getD j false = true) i = fun j => (listed.setIfInBounds i true).getD j false = true := by
        funext j
        show (listed.getD j false = true ∨ j = i) = _
        rw [Array.getD_eq_getD_getElem?, Array.getD_eq_getD_getElem?, Array.getElem?_setIfInBounds]
        by_cases e : i = j
        · subst e
          rw [if_pos rfl, if_pos (by omega)]
          exact propext ⟨fun _ => rfl, fun _ => .inr rfl⟩
        · rw [if_neg e]
          exact propext ⟨fun h => h.resolve_right (fun q => e q.symm), .inl⟩
      rw [hD] at v'
      have := count_set (by omega) h2
      exact ih _ _ _ _ _ _ _ _ _ (by simpa using hs) (by omega) v'
end
theorem pairOk_spec {ch i : Nat} {q : T AObj → Option Value} {v : Value} {anc : Nat} {f : Nat → Option Rec} : ∀ n, pairOk ch i q v anc f n = true → ∀ j r tab, j < n → Nat.testBit ch j = true → f j = some r → r.kd = .chn tab → Nat.testBit r.anc i = false → ((anc &&& ch) &&& (r.anc ||| (1 <<< j)) = (anc &&& ch)) → q tab = some v
  | 0, _, j, r, tab, hj, _, _, _, _, _ => by omega
  | n + 1, h, j, r, tab, hj, h1, h2, h3, h4, h5 => by
    simp only [pairOk, Bool.and_eq_true] at h
    by_cases e : j = n
    · subst e
      have h6 := h.2
      rw [h1] at h6
      simp only [h2, h3] at h6
      simp only [h4, Bool.false_or, Bool.or_eq_true, Bool.not_eq_true'] at h6
      rcases h6 with h6 | h6
      · rw [h5] at h6
        simp at h6
      · exact sameAs_eq h6
    · exact pairOk_spec n h.1 j r tab (by omega) h1 h2 h3 h4 h5
theorem pairsOk_spec {H : AH} {ch n : Nat} {f : Nat → Option Rec} : ∀ m, pairsOk H ch n f m = true → ∀ i r q, i < m → f i = some r → r.kd = .read q → (r.anc &&& ch = 0 → q H.tab = some r.v) ∧ pairOk ch i q r.v r.anc f n = true
  | 0, _, i, r, q, hi, _, _ => by omega
  | m + 1, h, i, r, q, hi, h1, h2 => by
    simp only [pairsOk, Bool.and_eq_true] at h
    by_cases e : i = m
    · subst e
      have h3 := h.2
      simp only [h1, h2, Bool.and_eq_true, Bool.or_eq_true, Bool.not_eq_true'] at h3
      refine ⟨fun h4 => ?_, h3.2⟩
      rcases h3.1 with h5 | h5
      · rw [h4] at h5
        simp at h5
      · exact sameAs_eq h5
    · exact pairsOk_spec m h.1 i r q (by omega) h1 h2
theorem draw_ok {P : Program} {X : Tab} (hX : TabOk P X) (hm : P.follows .mixedOrders = true) (call : ACall) (hcall : CallOk P call) : DrawOk P X call := by
  intro ops A H A' H' he tl σ S W B a Q h hQ t
  unfold evDraw at he
  split at he
  · cases he
  rename_i hsz
  have hsz : ops.size < 100000 := by simpa using hsz
  split at he
  case h_2 => cases he
  rename_i s hp
  split at he
  case h_2 => cases he
  rename_i hpairs
  injection he with he
  injection he with he1 he2
  subst he1 he2
  have hdst := dpass_dst ops.toList 0 _ s hp
  have hs : ∀ (j : Nat) (o : Oper) (t : Nat), ops[j]? = some o → o.dst = some t → (slotTab ops.toList 0 .lf).get t = some j := fun j o t h1 h2 => by
    have := hdst j o (by simpa using h1)
    rw [h2, Nat.zero_add] at this
    exact dstOk_spec this
  have g : Good P X call ops A H (lateOf (lateTab ops.toList 0 .lf)) ops.size s := by
    have := dpass_good hsz hs ops.toList 0 _ s (fun j => by simp) good_nil hp
    simpa using this
  have hlt : ∀ j r, s.recs.get j = some r → j < ops.size := fun j r e => by
    rcases Nat.lt_or_ge j ops.size with hj | hj
    · exact hj
    · rw [g.none_ j hj] at e; cases e
  have p : Plan P X call ops A H (lateOf (lateTab ops.toList 0 .lf)) s.recs.get s.next := {
    facts := fun i o ho => by
      obtain ⟨o', r, h1, h2, h3⟩ := g.facts i (Array.getElem?_eq_some_iff.1 ho).1
      rw [ho] at h1
      injection h1 with h1
      subst h1
      exact ⟨r, h2, h3⟩
    dom := fun i r hr => by
      obtain ⟨o', r', h1, h2, h3⟩ := g.facts i (hlt i r hr)
      rw [hr] at h2
      injection h2 with h2
      subst h2
      exact ⟨o', h1, h3⟩
    top := g.next
    topH := g.lo
    uniq := fun i j oi oj d h1 h2 h3 h4 => by
      have e1 := hs i oi d h1 h3
      have e2 := hs j oj d h2 h4
      rw [e1] at e2
      injection e2
    pair := fun i r q hr hk => by
      rw [Bool.or_eq_true] at hpairs
      rcases hpairs with hch | hpairs
      · have hch : s.ch = 0 := beqN hch
        have hno : ∀ j rj, s.recs.get j = some rj → ¬ isChn rj := fun j rj h1 h2 => by
          have := (g.ch j).2 ⟨rj, h1, h2⟩
          rw [hch] at this
          simp at this
        refine ⟨fun j rj tab hj hkj _ _ => absurd ⟨tab, hkj⟩ (hno j rj hj), fun _ => ?_⟩
        obtain ⟨o, F⟩ := g.hF i r hr
        rcases F.work with ⟨_, h1, _⟩ | ⟨ρ, _, _, ⟨h1, _⟩ | ⟨q', h1, _, _, ⟨cur, mg, hc, hq⟩, _⟩ | ⟨_, h1, _⟩ | ⟨_, _, _, h1, _⟩⟩
        · rw [h1] at hk; cases hk
        · rw [h1] at hk; cases hk
        · rw [h1] at hk
          injection hk with hk
          subst hk
          rcases hc with ⟨_, h2, _⟩ | ⟨c, rc, h2, h3, _⟩
          · rw [← h2]; exact hq
          · exact absurd ⟨_, h3⟩ (hno c rc (below_some.1 h2).2)
        · rw [h1] at hk; cases hk
        · rw [h1] at hk; cases hk
      obtain ⟨h1, h2⟩ := pairsOk_spec _ hpairs i r q (hlt i r hr) hr hk
      refine ⟨fun j rj tab hj hkj hb hall => ?_, fun hall => h1 ?_⟩
      · refine pairOk_spec _ h2 j rj tab (hlt j rj hj) ((g.ch j).2 ⟨rj, hj, tab, hkj⟩) hj hkj hb ?_
        refine Nat.eq_of_testBit_eq fun c => ?_
        simp only [Nat.testBit_and, Nat.testBit_or, Nat.one_shiftLeft, Nat.testBit_two_pow]
        cases hc : Nat.testBit r.anc c with
        | false => simp
        | true =>
          cases hc2 : Nat.testBit s.ch c with
          | false => simp
          | true =>
            obtain ⟨rc, h3, h4⟩ := (g.ch c).1 hc2
            rcases hall c rc h3 h4 hc with h5 | h5
            · simp [h5]
            · simp [h5]
      · refine Nat.eq_of_testBit_eq fun c => ?_
        simp only [Nat.testBit_and, Nat.zero_testBit]
        cases hc2 : Nat.testBit s.ch c with
        | false => simp
        | true =>
          obtain ⟨rc, h3, h4⟩ := (g.ch c).1 hc2
          rw [hall c rc h3 h4]
          rfl }
  suffices hany : wpAny P .any ops Q ops.size (Array.replicate ops.size false) a { W with drawn := W.drawn + 1 } by
    simp only [Region.schedule, hm, Bool.true_or, if_true]
    exact wpAny_sound ops.size t _ a _ hany
  have hrep : Rep σ S H { W with drawn := W.drawn + 1 } B := h.rep.world fun _ _ => rfl
  have hlow : ∀ b, S b → b < H.next := fun b hb => by
    rcases Nat.lt_or_ge b H.next with h1 | h1
    · exact h1
    · exact absurd hb (h.free b h1)
  have hcutS : Ext σ S σ (cut S fun b => b < H.next) := ⟨fun b hb => ⟨hb, hlow b hb⟩, fun id i _ k => k⟩
  refine draws (B := B) (σ0 := σ) (S0 := S) (W0 := W) (a0 := a) p hX hcall h.free (fun a' W' σ' S' Hd cur mg alc v => ?_) ops.size _ a _ σ S H H.tab 0 (fun b => b < H.next) (by simp) ?_ ?_
  · have hcm : s.cur = cur ∧ s.mg = mg := by
      rcases g.cur with ⟨h1, h2, h3⟩ | ⟨c, rc, h1, h2, h3, h4⟩
      · rcases v.curD with ⟨_, h6, h7, _⟩ | ⟨c, rc, h5, h6, h7, _⟩
        · exact ⟨h2.trans h6.symm, h3.trans h7.symm⟩
        · exact absurd ⟨_, h7⟩ (h1 c rc h6)
      · rcases v.curD with ⟨h5, _⟩ | ⟨c', rc', h5, h6, h7, h8, h9, _⟩
        · exact absurd ⟨_, h2⟩ (h5 c rc (hlt c rc h1) h1)
        · have e : c = c' := Nat.le_antisymm (h9 c rc (hlt c rc h1) h1 ⟨_, h2⟩) (h4 c' rc' h6 ⟨_, h7⟩)
          subst e
          rw [h1] at h6
          injection h6 with h6
          subst h6
          rw [h2] at h7
          injection h7 with h7
          exact ⟨h7, h3.trans h8.symm⟩
    obtain ⟨rfl, rfl⟩ := hcm
    have hv2 : View s.recs.get (fun j => j < ops.size) s.mg s.cur (⟨s.next, addFresh s.recs.get (fun j => !Nat.testBit s.mg j) ops.size s.cur⟩ : AH).get :=
      p.view s.recs.get (fun j rj => ⟨fun h => ⟨hlt j rj h, h⟩, fun h => h.2⟩) (fun j => by
        constructor
        · rintro ⟨h1, h2⟩
          exact ⟨h2, h2, by simpa using h1⟩
        · rintro ⟨_, h2, h3⟩
          exact ⟨by simp [h3], h2⟩) (fun j rj _ _ h _ _ => hlt j rj h) s.cur
    have hget : ∀ id, (⟨s.next, addFresh s.recs.get (fun j => !Nat.testBit s.mg j) ops.size s.cur⟩ : AH).get id = Hd.get id := by
      intro id
      by_cases hx : ∃ j rj obj, j < ops.size ∧ s.recs.get j = some rj ∧ rj.kd = .fresh obj ∧ Nat.testBit s.mg j = false ∧ rj.lo = id
      · obtain ⟨j, rj, obj, q1, q2, q3, q4, rfl⟩ := hx
        rw [hv2.fresh j rj obj q1 q2 q3 q4, v.view.fresh j rj obj q1 q2 q3 q4]
      · have hap : Apart s.recs.get (fun j => j < ops.size) s.mg id := fun j rj ob' w1 w2 w3 w4 w5 => hx ⟨j, rj, ob', w1, w2, w3, w4, w5⟩
        rw [hv2.old id hap, v.view.old id hap]
    refine hQ σ' S' a' W' ⟨v.rr.rep hget, v.freeN p h.free, v.base, ⟨by rw [v.size, g.n], fun t => ?_⟩, ?_⟩ ⟨v.evo, g.lo, fun b hb => ?_⟩
    · by_cases hx : ∃ (j : Nat) (o : Oper), ops[j]? = some o ∧ o.dst = some t
      · obtain ⟨j, o, h1, h2⟩ := hx
        obtain ⟨r, h3, _⟩ := p.facts j o h1
        rw [g.at1 j o r t h1 h2 h3]
        exact (v.slots j o t r h1 h2 (hlt j r h3) h3).ext .of_cut
      · have hx' : ∀ (j : Nat) (o : Oper), ops[j]? = some o → o.dst ≠ some t := fun j o h1 h2 => hx ⟨j, o, h1, h2⟩
        rw [g.at2 t fun j o _ h1 => hx' j o h1]
        exact (v.slots0 t fun j o h1 h2 _ => hx' j o h1 h2).ext .of_cut
    · rw [g.defers, v.defs]
      exact h.defs.ext v.evo.ext
    · rcases v.ids b hb with h1 | ⟨j, rj, _, h2, h3, h4⟩
      · exact .inl h1
      · have := p.lo h2
        have := g.next j rj h2
        exact .inr ⟨by omega, by simp only; omega⟩
  · simp
  · have hD : (fun j => (Array.replicate ops.size false).getD j false = true) = fun _ => False := by
      funext j
      refine propext ⟨fun h => ?_, fun h => h.elim⟩
      rw [Array.getD_eq_getD_getElem?, Array.getElem?_replicate] at h
      split at h <;> cases h
    rw [hD]
    refine ⟨.inl ⟨fun j r h => h.elim, rfl, rfl, rfl⟩, ⟨fun j r ob h => h.elim, fun id _ => rfl⟩, ⟨fun id o hg => ?_, hrep.dead, hrep.inj⟩, fun id o hg => hlow id (hrep.live id o hg).1, ⟨Ext.refl _ _, fun id i hi e => absurd (hrep.dom e) hi, Nat.le_refl _, fun _ _ _ => rfl, rfl, rfl, rfl⟩, fun b hb => .inl hb, fun j o t r _ _ h => h.elim, fun t _ => (h.act.at_ t).ext hcutS, h.act.size, rfl, fun j r m h => h.elim, h.base⟩
    obtain ⟨k1, i, k2, k3, k4⟩ := hrep.live id o hg
    have hreg : ∀ b, S b → regOf s.recs.get H.next (fun _ => False) 0 (fun b => b < H.next) id b := fun b hb => .inr ⟨fun j r ob h => h.elim, hlow b hb⟩
    exact ⟨k1, hreg id k1, i, k2, k3.ext ⟨fun b hb => ⟨hb, hreg b hb⟩, fun id i _ k => k⟩, k4⟩
/-- the evaluator stands for the real run: every call -/
theorem evCall_all {P : Program} {X : Tab} (hX : TabOk P X) (hm : P.follows .mixedOrders = true) (lf d : Nat) : CallOk P (evCall P X lf d) := evCall_ok hX lf (fun call hcall => draw_ok hX hm call hcall) d
end
end Go.Proofs.YtnckhmfajjcgpaaGreatDoor.Ev
namespace Go.Proofs.YtnckhmfajjcgpaaGreatDoor.Ev
noncomputable section
def tabOf (P : Program) (ext : FuncId → Option ExtF) : Tab := { und := P.underlying, inf := P.info?, fn := fun f => match P.funcs[f]? with | some fn => (match fn.body with | some _ => some fn | none => none) | none => none, ext := ext }
def unNamed (P : Program) : Bool := P.funcs.toList.all fun fn => !(fn.name == "runtime.NumGoroutine")
theorem tabOf_ok {P : Program} {ext : FuncId → Option ExtF} (hn : unNamed P = true)
    (he : ∀ f x, ext f = some x → ∃ fn, P.funcs[f]? = some fn ∧ fn.body.isNone = true ∧ (Extern.findNext fn).isNone = true ∧ Extern.find fn = some (extFn x)) : TabOk P (tabOf P ext) := by
  have hname : ∀ (f : Nat) (fn : Func), P.funcs[f]? = some fn → (fn.name == "runtime.NumGoroutine") = false := fun f fn hf => by
    have := List.all_eq_true.1 hn fn (by
      rw [← Array.getElem?_toList] at hf
      exact List.mem_of_getElem? hf)
    simpa using this
  refine ⟨fun _ _ h => h, fun _ _ h => h, fun f d h => ?_, fun f x h args w => ?_⟩
  · simp only [tabOf] at h
    split at h
    · rename_i fn hf
      split at h
      · rename_i b hb
        injection h with h
        subst h
        refine ⟨hf, fun args w => ?_⟩
        have h1 := hname f _ hf
        simp only [callFunc, program, Sem.run_bind]
        have h1' : ¬ fn.name = "runtime.NumGoroutine" := by simpa using h1
        simp [Sem.run, hf, h1', hb]
      · cases h
    · cases h
  · obtain ⟨fn, h1, h2, h3, h4⟩ := he f x h
    have h5 := hname f _ h1
    have h5' : ¬ fn.name = "runtime.NumGoroutine" := by simpa using h5
    have h2' : fn.body = none := by simpa using h2
    have h6 : Extern.findNext fn = none := by simpa using h3
    simp only [callFunc, program]
    simp [bind, Sem.bind, Sem.run, h1, h5', h2', h6, h4, mark]
/-- one world: what was there stays -/
theorem closed_call {P : Program} {X : Tab} (hX : TabOk P X) (hm : P.follows .mixedOrders = true) (lf d : Nat) (f : FuncId) (b : Bool) (H' : AH) (he : evCall P X lf d f #[] ⟨0, .lf⟩ = some (.bool b, H')) (W : World) :
    Calls P f #[] W fun e w' => e = .returned (.bool b) ∧ Go.RowKit.Below W.heap.size W w' := by
  refine (evCall_all hX hm lf d f #[] ⟨0, .lf⟩ (.bool b) H' he (fun _ => none) (fun _ => False) W W.heap.size #[] ⟨fun id o h => ?_, fun _ _ => rfl, fun _ _ _ _ h => by cases h⟩ (fun _ _ h => h) (Nat.le_refl _) .nil).mono ?_
  · simp [AH.get, T.get_lf] at h
  · rintro e w' ⟨σ', S', v', rfl, hv, hr, hl⟩
    cases hv
    exact ⟨rfl, hl.evo.os, hl.evo.tape, hl.evo.output, hl.evo.size, fun k hk => hl.evo.frame k hk fun _ _ h => by cases h⟩
/-- the run's answer, not the memory behind it -/
def saysTrue : Option (Value × AH) → Bool
  | some (.bool b, _) => b
  | _ => false
theorem closed_true {P : Program} {X : Tab} (hX : TabOk P X) (hm : P.follows .mixedOrders = true) (lf d : Nat) (f : FuncId) (he : saysTrue (evCall P X lf d f #[] ⟨0, .lf⟩) = true) (W : World) :
    Calls P f #[] W fun e w' => e = .returned (.bool true) ∧ Go.RowKit.Below W.heap.size W w' := by
  unfold saysTrue at he
  split at he
  · rename_i b H' h
    subst he
    exact closed_call hX hm lf d f true H' h W
  · cases he
end
end Go.Proofs.YtnckhmfajjcgpaaGreatDoor.Ev
