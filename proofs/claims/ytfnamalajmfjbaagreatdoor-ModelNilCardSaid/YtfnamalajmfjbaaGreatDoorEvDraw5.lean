/- Regions whose order is drawn: one operation that is not in the chain. -/
import Derived.Test.YtfnamalajmfjbaaGreatDoorEvDraw4
set_option linter.unusedVariables false
set_option linter.unusedSimpArgs false
namespace Go.Proofs.YtfnamalajmfjbaaGreatDoor.Ev
noncomputable section
def with_ (D : Nat → Prop) (i : Nat) : Nat → Prop := fun j => D j ∨ j = i
section
variable {P : Program} {X : Tab} {call : ACall} {ops : Array Oper} {A : AAct} {H : AH} {R : Nat → Option Rec} {N : Nat} {B : Nat} {σ0 : Ren} {S0 : Ids} {W0 : World} {a0 : Act} {D : Nat → Prop} {a : Act} {W : World} {σ : Ren} {S : Ids} {Hd : AH} {cur : T AObj} {mg : Nat} {alc : Ids}
theorem EnvOk.ext {σ σ' : Ren} {S S' : Ids} {ρ : Env} {ρ' : Operand → Value} (h : EnvOk σ S ρ ρ') (e : Ext σ S σ' S') : EnvOk σ' S' ρ ρ' := fun x v hv => (h x v hv).ext e
theorem Inv0.env (p : Plan P X call ops A H R N) (v : Inv0 P ops A H R B σ0 S0 W0 a0 D a W σ S Hd cur mg alc) {i : Nat} {r : Rec} {ρ : Env} (hr : R i = some r) (hD : ∀ j, Nat.testBit r.anc j = true → D j) (hE : EnvF ops A (below R i) r.anc ρ) : EnvOk σ (cut S (Al R H.next r.anc)) ρ a.eval := by
  intro x u hu
  cases x with
  | tmp t =>
    rcases hE.tmp t u hu with ⟨j, o, rj, h1, h2, h3, h4, rfl⟩ | ⟨h1, rfl⟩
    · have h5 := (below_some.1 h3).2
      exact (v.slots j o t rj h1 h2 (hD j h4) h5).ext (.widen fun b hb => p.al hr h4 h5 hb)
    · exact (v.slots0 t h1).ext (.widen fun b hb => .inl hb)
  | const w =>
    obtain ⟨h1, rfl⟩ := hE.const w u hu
    exact VR.flat 8 u h1
  | global g => rw [hE.glob g] at hu; cases hu
  | func g =>
    rw [hE.func g u hu]
    exact .func _ _ _ _ _ .nil .nil
theorem Inv0.guard (v : Inv0 P ops A H R B σ0 S0 W0 a0 D a W σ S Hd cur mg alc) {i : Nat} {r : Rec} {o : Oper} {w : Bool} (hD : ∀ j, Nat.testBit r.anc j = true → D j) (hG : GuardF ops (below R i) r.anc o w) : Region.wanted o (yielded ops a.tmps) = w := by
  unfold GuardF at hG
  unfold Region.wanted
  cases hg : o.guard with
  | none =>
    rw [hg] at hG
    simp only at hG ⊢
    exact hG.symm
  | some q =>
    obtain ⟨g, want⟩ := q
    rw [hg] at hG
    simp only at hG ⊢
    obtain ⟨h1, og, d, rg, h2, h3, h4, h5⟩ := hG
    have h6 := v.slots g og d rg h2 h3 (hD g h1) (below_some.1 h4).2
    rcases h5 with ⟨b, h5, rfl⟩ | ⟨cs, h5, rfl⟩
    · rw [h5] at h6
      have h7 : a.tmps.getD d undef = .bool b := by
        generalize a.tmps.getD d undef = u at h6
        cases h6
        rfl
      have h8 : a.tmps[d]? = some (.bool b) := by
        rw [Array.getD_eq_getD_getElem?] at h7
        cases h9 : a.tmps[d]? with
        | none => rw [h9] at h7; cases h7
        | some u => rw [h9] at h7; exact congrArg some h7
      have h10 : yielded ops a.tmps g = some b := by
        unfold yielded
        rw [h2]
        simp only [Option.bind_some, h3, h8]
      rw [h10]
      cases b <;> cases want <;> rfl
    · rw [h5] at h6
      have h10 : yielded ops a.tmps g = none := by
        unfold yielded
        rw [h2]
        simp only [Option.bind_some, h3]
        rw [Array.getD_eq_getD_getElem?] at h6
        cases h9 : a.tmps[d]? with
        | none => rfl
        | some u =>
          rw [h9] at h6
          simp only [Option.getD_some] at h6
          cases h6
          rfl
      rw [h10]
      rfl
theorem Inv0.mg_not (v : Inv0 P ops A H R B σ0 S0 W0 a0 D a W σ S Hd cur mg alc) {i : Nat} (hi : ¬ D i) : Nat.testBit mg i = false := by
  rcases v.curD with ⟨_, _, rfl, _⟩ | ⟨c, rc, h1, h2, _, rfl, _, _⟩
  · simp
  · cases h : Nat.testBit rc.anc i with
    | false => rfl
    | true => exact absurd (v.down c rc i h1 h2 h) hi
/-- no number of this operation's is taken -/
theorem Inv0.free (p : Plan P X call ops A H R N) (v : Inv0 P ops A H R B σ0 S0 W0 a0 D a W σ S Hd cur mg alc) (hf0 : Free S0 H.next) {i : Nat} {r : Rec} (hr : R i = some r) (hi : ¬ D i) : ∀ b, r.lo ≤ b → b < r.hi → ¬ S b := by
  intro b h1 h2 hs
  rcases v.ids b hs with h3 | ⟨j, rj, h3, h4, h5, h6⟩
  · exact hf0 b (by have := p.lo hr; omega) h3
  · have := p.dis hr h4 h1 h2 h5 h6
    subst this
    exact hi h3
theorem Inv0.freeN (p : Plan P X call ops A H R N) (v : Inv0 P ops A H R B σ0 S0 W0 a0 D a W σ S Hd cur mg alc) (hf0 : Free S0 H.next) : Free S N := by
  intro b h1 hs
  rcases v.ids b hs with h3 | ⟨j, rj, h3, h4, h5, h6⟩
  · exact hf0 b (by have := p.topH; omega) h3
  · have := p.top j rj h4
    omega
theorem Inv0.slot_ (p : Plan P X call ops A H R N) (v : Inv0 P ops A H R B σ0 S0 W0 a0 D a W σ S Hd cur mg alc) {i : Nat} {o : Oper} {r : Rec} (ho : ops[i]? = some o) (hr : R i = some r) {σ' : Ren} {S' : Ids} {u : Value} (e : Ext σ S σ' S') (hu : VR σ' (cut S' (AlF R H.next r)) r.v u) :
    (∀ (j : Nat) (o' : Oper) (t : Nat) (r' : Rec), ops[j]? = some o' → o'.dst = some t → with_ D i j → R j = some r' → VR σ' (cut S' (AlF R H.next r')) r'.v ((a.put o.dst u).tmps.getD t undef)) ∧
    (∀ t, (∀ (j : Nat) (o : Oper), ops[j]? = some o → o.dst ≠ some t) → VR σ' (cut S' (fun b => b < H.next)) (A.at_ t) ((a.put o.dst u).tmps.getD t undef)) ∧
    (a.put o.dst u).tmps.size = A.n ∧ (a.put o.dst u).defers = a0.defers := by
  have hne : ∀ t, o.dst ≠ some t → (a.put o.dst u).tmps.getD t undef = a.tmps.getD t undef := by
    intro t h
    cases hd : o.dst with
    | none => rfl
    | some d =>
      rw [hd] at h
      have h' : d ≠ t := fun q => h (by rw [q])
      simp only [Act.put]
      rw [Array.getD_eq_getD_getElem?, Array.getD_eq_getD_getElem?, Array.getElem?_setIfInBounds, if_neg h']
  refine ⟨fun j o' t r' h1 h2 h3 h4 => ?_, fun t h => ?_, ?_, ?_⟩
  · by_cases hj : j = i
    · subst hj
      rw [ho] at h1
      injection h1 with h1
      subst h1
      rw [hr] at h4
      injection h4 with h4
      subst h4
      obtain ⟨o2, h5, F⟩ := p.dom j r hr
      rw [ho] at h5
      injection h5 with h5
      subst h5
      have hlt := F.dst t h2
      have : (a.put o.dst u).tmps.getD t undef = u := by
        rw [h2]
        simp only [Act.put]
        rw [Array.getD_eq_getD_getElem?, Array.getElem?_setIfInBounds, if_pos rfl, if_pos (by rw [v.size]; exact hlt)]
        rfl
      rw [this]
      exact hu
    · rw [hne t fun q => hj (p.uniq j i o' o t h1 ho h2 q)]
      exact (v.slots j o' t r' h1 h2 (h3.resolve_right hj) h4).ext (e.cut _)
  · rw [hne t (h i o ho)]
    exact (v.slots0 t h).ext (e.cut _)
  · rw [← v.size]
    cases o.dst <;> simp [Act.put]
  · rw [← v.defs]
    cases o.dst <;> rfl
theorem Inv0.down_ (p : Plan P X call ops A H R N) (v : Inv0 P ops A H R B σ0 S0 W0 a0 D a W σ S Hd cur mg alc) {i : Nat} {r : Rec} (hr : R i = some r) (hD : ∀ j, Nat.testBit r.anc j = true → D j) : ∀ j r' m, with_ D i j → R j = some r' → Nat.testBit r'.anc m = true → with_ D i m := by
  intro j r' m h1 h2 h3
  rcases h1 with h1 | rfl
  · exact .inl (v.down j r' m h1 h2 h3)
  · rw [hr] at h2
    injection h2 with h2
    subst h2
    exact .inl (hD m h3)
/-- an operation outside the chain has run -/
theorem Inv0.calm (p : Plan P X call ops A H R N) (v : Inv0 P ops A H R B σ0 S0 W0 a0 D a W σ S Hd cur mg alc) (hf0 : Free S0 H.next) {i : Nat} {o : Oper} {r : Rec} (ho : ops[i]? = some o) (hr : R i = some r) (hi : ¬ D i) (hD : ∀ j, Nat.testBit r.anc j = true → D j) (hn : ¬ isChn r)
    {σ' : Ren} {S' : Ids} {W' : World} {G : AH} {u : Value} (rep : Rep σ' S' G W' B) (evo : Evo σ S W σ' S' W') (kept : ∀ b, b < W.heap.size → W'.heap[b]? = W.heap[b]?) (taken : ∀ b, S' b → S b ∨ (r.lo ≤ b ∧ b < r.hi))
    (g1 : ∀ id ob, G.get id = some ob → Hd.get id = some ob ∨ (r.kd = .fresh ob ∧ id = r.lo)) (g2 : ∀ id ob, Hd.get id = some ob → G.get id = some ob) (g3 : ∀ ob, r.kd = .fresh ob → G.get r.lo = some ob)
    (hob : ∀ ob inf, r.kd = .fresh ob → ORel σ' S' W' inf ob → ORel σ' (cut S' (AlF R H.next r)) W' inf ob) (hu : VR σ' (cut S' (AlF R H.next r)) r.v u) :
    Inv0 P ops A H R B σ0 S0 W0 a0 (with_ D i) (a.put o.dst u) W' σ' S' G cur mg alc := by
  have hmg := v.mg_not hi
  have hap : ∀ id, Apart R D mg id → (∀ ob, r.kd = .fresh ob → r.lo ≠ id) → Apart R (with_ D i) mg id := by
    intro id h1 h2 j rj ob h3 h4 h5 h6
    rcases h3 with h3 | rfl
    · exact h1 j rj ob h3 h4 h5 h6
    · rw [hr] at h4
      injection h4 with h4
      subst h4
      exact h2 ob h5
  have hfree : ∀ ob, r.kd = .fresh ob → ¬ S r.lo := fun ob h => v.free p hf0 hr hi r.lo (Nat.le_refl _) (by rw [(p.fresh hr h).1]; omega)
  obtain ⟨s1, s2, s3, s4⟩ := v.slot_ p ho hr evo.ext hu
  refine ⟨?_, ⟨fun j rj ob h1 h2 h3 h4 => ?_, fun id h => ?_⟩, ⟨fun id ob h => ?_, rep.dead, rep.inj⟩, v.lv, v.evo.trans evo, fun b hb => ?_, s1, s2, s3, s4, v.down_ p hr hD, Nat.le_trans v.base evo.size⟩
  · rcases v.curD with ⟨h1, h2⟩ | ⟨c, rc, h1, h2, h3, h4, h5, h6⟩
    · refine .inl ⟨fun j rj h3 h4 => ?_, h2⟩
      rcases h3 with h3 | rfl
      · exact h1 j rj h3 h4
      · rw [hr] at h4
        injection h4 with h4
        subst h4
        exact hn
    · refine .inr ⟨c, rc, .inl h1, h2, h3, h4, fun j rj h7 h8 h9 => ?_, h6⟩
      rcases h7 with h7 | rfl
      · exact h5 j rj h7 h8 h9
      · rw [hr] at h8
        injection h8 with h8
        subst h8
        exact absurd h9 hn
  · rcases h1 with h1 | rfl
    · exact g2 _ _ (v.view.fresh j rj ob h1 h2 h3 h4)
    · rw [hr] at h2
      injection h2 with h2
      subst h2
      exact g3 ob h3
  · have h1 : Apart R D mg id := fun j rj ob h2 => h j rj ob (.inl h2)
    rw [← v.view.old id h1]
    cases hd : Hd.get id with
    | some ob => exact g2 id ob hd
    | none =>
      cases hg : G.get id with
      | none => rfl
      | some ob =>
        rcases g1 id ob hg with h2 | ⟨h2, rfl⟩
        · rw [hd] at h2; cases h2
        · exact absurd rfl (h i r ob (.inr rfl) hr h2 hmg)
  · rcases g1 id ob h with h1 | ⟨h1, rfl⟩
    · obtain ⟨k1, k2, inf, k3, k4, k5⟩ := v.rr.live id ob h1
      obtain ⟨m1, inf', m2, m3, m4⟩ := rep.live id ob h
      have := evo.ext.old id inf' k1 m2
      rw [k3] at this
      injection this with this
      subst this
      have hreg : ∀ b, regOf R H.next D mg alc id b → regOf R H.next (with_ D i) mg alc id b := by
        intro b hb
        rcases hb with ⟨j, rj, ob', q1, q2, q3, q4, q5, q6⟩ | ⟨q1, q2⟩
        · exact .inl ⟨j, rj, ob', .inl q1, q2, q3, q4, q5, q6⟩
        · exact .inr ⟨hap id q1 fun ob' q3 q4 => hfree ob' q3 (by rw [q4]; exact k1), q2⟩
      exact ⟨m1, hreg id k2, inf, m2, (k4.same (kept _ k4.lt)).ext ⟨fun b hb => ⟨evo.ext.le b hb.1, hreg b hb.2⟩, fun b i' hb q => evo.ext.old b i' hb.1 q⟩, m4⟩
    · obtain ⟨m1, inf', m2, m3, m4⟩ := rep.live r.lo ob h
      have hreg : ∀ b, AlF R H.next r b → regOf R H.next (with_ D i) mg alc r.lo b := fun b hb => .inl ⟨i, r, ob, .inr rfl, hr, h1, hmg, rfl, hb⟩
      exact ⟨m1, hreg _ (.inr ⟨Nat.le_refl _, by rw [(p.fresh hr h1).1]; omega⟩), inf', m2, (hob ob inf' h1 m3).ext (.widen hreg), m4⟩
  · rcases taken b hb with h1 | h1
    · rcases v.ids b h1 with h2 | ⟨j, rj, h2, h3⟩
      · exact .inl h2
      · exact .inr ⟨j, rj, .inl h2, h3⟩
    · exact .inr ⟨i, r, .inr rfl, hr, h1⟩
end
end
end Go.Proofs.YtfnamalajmfjbaaGreatDoor.Ev
