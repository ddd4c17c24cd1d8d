/- Regions whose order is drawn: operations that no memory decides. -/
import Derived.Test.YtfnamalajmfjbaaGreatDoorEvDraw1
set_option linter.unusedVariables false
set_option linter.unusedSimpArgs false
namespace Go.Proofs.YtfnamalajmfjbaaGreatDoor.Ev
noncomputable section
section
variable {P : Program} {X : Tab}
theorem val_any {v : Option Value} {H H' : AH} {r : Value} (h : val v H = some (.value r, H')) (G : AH) : val v G = some (.value r, G) := by
  obtain ⟨u, h1, h2, _⟩ := val_eq h
  injection h2 with h2
  subst h2
  rw [h1]
  rfl
theorem aop_quiet {H H' : AH} {ρ : Env} {o : Oper} {v : Value} (he : H.tab = .lf) (hc : cls o.op = 0) (h : aop P X H ρ o = some (.value v, H')) (G : AH) : aop P X G ρ o = some (.value v, G) := by
  simp only [aop_eq] at h ⊢
  unfold aop0 at h ⊢
  cases ho : o.op <;> rw [ho] at hc <;> simp only [cls] at hc <;> first
    | (cases hc; done)
    | skip
  all_goals simp only [ho] at h ⊢
  case move x => exact val_any h G
  case assign x => exact val_any h G
  case pick c a b =>
    rw [Option.bind_eq_some_iff] at h ⊢
    obtain ⟨cv, h1, h2⟩ := h
    refine ⟨cv, h1, ?_⟩
    split at h2
    · exact val_any h2 G
    · exact val_any h2 G
    · cases h2
  case build t parts =>
    rw [Option.bind_eq_some_iff] at h ⊢
    obtain ⟨cv, h1, h2⟩ := h
    exact ⟨cv, h1, val_any h2 G⟩
  case nilCheck x =>
    rw [Option.bind_eq_some_iff] at h ⊢
    obtain ⟨cv, h1, h2⟩ := h
    refine ⟨cv, h1, ?_⟩
    cases hk : okNil cv with
    | false => rw [hk] at h2; cases h2
    | true =>
      rw [hk] at h2
      injection h2 with h2
      injection h2 with h2 h3
      injection h2 with h2
      subst h2
      rfl
  case binOp op t x y yt =>
    split at h
    · injection h with h
      injection h with h1 h2
      subst h1
      rfl
    · rw [Option.bind_eq_some_iff] at h ⊢
      obtain ⟨a, h1, h2⟩ := h
      refine ⟨a, h1, ?_⟩
      rw [Option.bind_eq_some_iff] at h2 ⊢
      obtain ⟨b, h3, h4⟩ := h2
      exact ⟨b, h3, val_any h4 G⟩
  case unOp op t x =>
    split at h
    · injection h with h
      injection h with h1 h2
      subst h1
      rfl
    · cases h
  case makeInterface t x =>
    rw [Option.bind_eq_some_iff] at h ⊢
    obtain ⟨cv, h1, h2⟩ := h
    exact ⟨cv, h1, val_any h2 G⟩
  case makeFunc fn first cap =>
    cases fn <;> first
      | (cases h; done)
      | skip
    rw [Option.bind_eq_some_iff] at h ⊢
    obtain ⟨a, h1, h2⟩ := h
    refine ⟨a, h1, ?_⟩
    rw [Option.bind_eq_some_iff] at h2 ⊢
    obtain ⟨b, h3, h4⟩ := h2
    refine ⟨b, h3, ?_⟩
    injection h4 with h4
    injection h4 with h4 h5
    rw [h4]
  case fieldAddr t x f =>
    rw [Option.bind_eq_some_iff] at h ⊢
    obtain ⟨cv, h1, h2⟩ := h
    exact ⟨cv, h1, val_any h2 G⟩
  case field t x f =>
    rw [Option.bind_eq_some_iff] at h ⊢
    obtain ⟨cv, h1, h2⟩ := h
    exact ⟨cv, h1, val_any h2 G⟩
  case indexAddr t x i =>
    rw [Option.bind_eq_some_iff] at h ⊢
    obtain ⟨a, h1, h2⟩ := h
    refine ⟨a, h1, ?_⟩
    rw [Option.bind_eq_some_iff] at h2 ⊢
    obtain ⟨b, h3, h4⟩ := h2
    exact ⟨b, h3, val_any h4 G⟩
  case index t x i =>
    split at h
    · injection h with h
      injection h with h1 h2
      subst h1
      rfl
    · rw [Option.bind_eq_some_iff] at h ⊢
      obtain ⟨a, h1, h2⟩ := h
      refine ⟨a, h1, ?_⟩
      rw [Option.bind_eq_some_iff] at h2 ⊢
      obtain ⟨b, h3, h4⟩ := h2
      exact ⟨b, h3, val_any h4 G⟩
  case typeAssert x xt t ok =>
    rw [Option.bind_eq_some_iff] at h ⊢
    obtain ⟨cv, h1, h2⟩ := h
    exact ⟨cv, h1, val_any h2 G⟩
  case extract x i =>
    rw [Option.bind_eq_some_iff] at h ⊢
    obtain ⟨cv, h1, h2⟩ := h
    exact ⟨cv, h1, val_any h2 G⟩
  case call c =>
    split at hc
    · rename_i hcl
      split at h
      · injection h with h
        injection h with h1 h2
        subst h1
        rfl
      · unfold acall at h ⊢
        rw [Option.bind_eq_some_iff] at h ⊢
        obtain ⟨vs, h1, h2⟩ := h
        refine ⟨vs, h1, ?_⟩
        simp only [hcl] at h2 ⊢
        unfold abuiltin at h2 ⊢
        split at h2
        · rename_i e _; cases e
        · obtain ⟨u, h3, h4, _⟩ := val_eq h2
          injection h4 with h4
          subst h4
          refine val_any (H := H) (H' := H) ?_ G
          have : ∀ t v r, alen X H t v = some r → alen X G t v = some r := by
            intro t v r h
            unfold alen at h ⊢
            simp only [Option.bind_eq_bind, Option.bind_eq_some_iff] at h ⊢
            obtain ⟨d, k1, k2⟩ := h
            refine ⟨d, k1, ?_⟩
            split at k2
            · exact k2
            · rename_i r'
              have : H.get r' = none := by unfold AH.get; rw [he]; rfl
              rw [this] at k2
              cases k2
            · cases k2
          rw [this _ _ _ h3]
          rfl
        · rename_i e _; cases e
        · rename_i e _; cases e
        · cases h2
    · cases hc
theorem aop_new {n : Nat} {H1 : AH} {ρ : Env} {o : Oper} {v : Value} (hc : cls o.op = 2) (h : aop P X ⟨n, .lf⟩ ρ o = some (.value v, H1)) :
    ∃ ob, H1.tab.get n = some ob ∧ n ≤ 16000000 ∧ ∀ G : AH, G.next = n → aop P X G ρ o = some (.value v, ⟨n + 1, G.tab.set n (some ob)⟩) := by
  have new : ∀ {ob : AObj} {id : Nat} {H2 : AH}, (⟨n, .lf⟩ : AH).new ob = some (id, H2) → id = n ∧ H2.tab.get n = some ob ∧ n ≤ 16000000 ∧ ∀ G : AH, G.next = n → G.new ob = some (n, ⟨n + 1, G.tab.set n (some ob)⟩) := by
    intro ob id H2 h
    unfold AH.new at h
    split at h
    · rename_i hle
      have hle' : n ≤ 16000000 := by simpa using hle
      injection h with h
      injection h with h1 h2
      refine ⟨h1.symm, ?_, hle', fun G e => ?_⟩
      · rw [← h2]
        simp only
        rw [T.get_set _ _ _ _ (by omega), if_pos rfl]
      · unfold AH.new
        rw [e]
        simp only at hle
        rw [hle]
    · cases h
  have box : ∀ {e : TypeId} {u r : Value} {H2 : AH}, abox ⟨n, .lf⟩ e u = some (r, H2) → ∃ ob, H2.tab.get n = some ob ∧ n ≤ 16000000 ∧ ∀ G : AH, G.next = n → abox G e u = some (r, ⟨n + 1, G.tab.set n (some ob)⟩) := by
    intro e u r H2 h
    unfold abox at h
    simp only [Option.bind_eq_bind, Option.bind_eq_some_iff] at h
    obtain ⟨⟨id, H3⟩, h1, h2⟩ := h
    injection h2 with h2
    injection h2 with h2 h3
    subst h2 h3
    obtain ⟨rfl, k1, k2, k3⟩ := new h1
    exact ⟨_, k1, k2, fun G e => by unfold abox; simp only [Option.bind_eq_bind, k3 G e]; rfl⟩
  simp only [aop_eq] at h ⊢
  unfold aop0 at h ⊢
  cases ho : o.op <;> rw [ho] at hc <;> simp only [cls] at hc <;> first
    | (cases hc; done)
    | (split at hc <;> cases hc; done)
    | skip
  all_goals simp only [ho] at h ⊢
  case alloc e =>
    obtain ⟨u, h1, h2⟩ := vals_eq h
    injection h2 with h2
    subst h2
    unfold aalloc at h1
    simp only [Option.bind_eq_bind, Option.bind_eq_some_iff] at h1
    obtain ⟨i, k1, z, k2, k3⟩ := h1
    cases hf : flatF 8 z with
    | false => rw [hf] at k3; cases k3
    | true =>
      rw [hf] at k3
      obtain ⟨ob, m1, m2, m3⟩ := box k3
      exact ⟨ob, m1, m2, fun G e => by unfold aalloc; simp only [Option.bind_eq_bind, k1, k2, Option.bind_some, hf, cond_true, m3 G e]; rfl⟩
  case box e x =>
    rw [Option.bind_eq_some_iff] at h
    obtain ⟨u, h1, h2⟩ := h
    obtain ⟨u', h3, h4⟩ := vals_eq h2
    injection h4 with h4
    subst h4
    obtain ⟨ob, m1, m2, m3⟩ := box h3
    exact ⟨ob, m1, m2, fun G e => by simp only [h1, Option.bind_some, m3 G e]; rfl⟩
  case buildSlice t len parts =>
    rw [Option.bind_eq_some_iff] at h
    obtain ⟨u, h1, h2⟩ := h
    obtain ⟨u', h3, h4⟩ := vals_eq h2
    injection h4 with h4
    subst h4
    unfold abuildSlice at h3
    simp only [Option.bind_eq_bind, Option.bind_eq_some_iff] at h3
    obtain ⟨d, k1, k2⟩ := h3
    split at k2
    · rename_i e
      simp only [Option.bind_eq_some_iff] at k2
      obtain ⟨ie, k3, z, k4, k5⟩ := k2
      cases hf : (flatF 8 z && Nat.ble (len * ie.size) 16777216 && Nat.ble len 16777216) with
      | false => rw [hf] at k5; cases k5
      | true =>
        rw [hf] at k5
        simp only [cond_true, Option.bind_eq_some_iff] at k5
        obtain ⟨c, k6, ⟨id, H3⟩, k7, k8⟩ := k5
        injection k8 with k8
        injection k8 with k8 k9
        subst k8 k9
        obtain ⟨rfl, m1, m2, m3⟩ := new k7
        refine ⟨_, m1, m2, fun G e => ?_⟩
        simp only [h1, Option.bind_some]
        unfold abuildSlice
        simp only [Option.bind_eq_bind, k1, k3, k4, Option.bind_some, hf, cond_true, k6, m3 G e]
        rfl
    · cases k2
theorem aop_flat {ρ : Env} {o : Oper} {v : Value} (hc : cls o.op = 3 ∨ cls o.op = 5) (h : aflat P ρ o = some (.value v)) (G : AH) : aop P X G ρ o = some (.value v, G) := by
  rw [aop_eq]
  unfold aop0
  rcases hc with hc | hc <;> cases ho : o.op <;> rw [ho] at hc <;> simp only [cls] at hc <;> first
    | (cases hc; done)
    | (simp only [h]; done)
    | (split at hc <;> cases hc; done)
theorem aload_mono {H G : AH} {t : TypeId} {p v : Value} (h : aload X H t p = some v) (k : ∀ id ob, H.get id = some ob → G.get id = some ob) : aload X G t p = some v := by
  unfold aload at h ⊢
  simp only [Option.bind_eq_bind, Option.bind_eq_some_iff] at h
  obtain ⟨⟨b, off⟩, h1, ⟨cs, e, g⟩, h2, h3⟩ := h
  have : cellsAt G b = some (cs, e, g) := by
    unfold cellsAt
    rw [k b _ (cellsAt_get h2)]
  simp only [Option.bind_eq_bind, h1, this, Option.bind_some]
  simpa only [Option.bind_eq_bind, Option.bind_eq_some_iff] using h3
theorem aslice_mono {H G : AH} {t : TypeId} {v r : Value} {l h m : Option Value} (e : aslice X H t v l h m = some r) (k : ∀ id ob, H.get id = some ob → G.get id = some ob) : aslice X G t v l h m = some r := by
  unfold aslice at e ⊢
  simp only [Option.bind_eq_bind, Option.bind_eq_some_iff] at e ⊢
  obtain ⟨d, h1, h2⟩ := e
  refine ⟨d, h1, ?_⟩
  split at h2
  · rename_i el b off len cap
    simp only [Option.bind_eq_some_iff] at h2 ⊢
    obtain ⟨it, h3, ⟨cs, e2, g⟩, h4, h5⟩ := h2
    refine ⟨it, h3, (cs, e2, g), ?_, h5⟩
    unfold cellsAt
    rw [k b _ (cellsAt_get h4)]
  · cases h2
theorem sameAs_eq {v : Value} {o : Option Value} (h : sameAs v o = true) : o = some v := by
  unfold sameAs at h
  split at h
  · rename_i u
    rw [veq_eq 8 u v h]
  · cases h
/-- an operation that looks at the memory, and at no more -/
def ReadF (X : Tab) (ρ : Env) (o : Oper) (q : T AObj → Option Value) : Prop :=
  (∃ t x p, o.op = .load t x ∧ ρ x = some p ∧ q = fun tab => aload X ⟨0, tab⟩ t p) ∨
  ∃ t x a b m v l h m', o.op = .slice t x a b m ∧ ρ x = some v ∧ optM ρ a = some l ∧ optM ρ b = some h ∧ optM ρ m = some m' ∧ q = fun tab => aslice X ⟨0, tab⟩ t v l h m'
theorem ReadF.mono {ρ : Env} {o : Oper} {q : T AObj → Option Value} (h : ReadF X ρ o q) {t1 t2 : T AObj} {v : Value} (e : q t1 = some v) (k : ∀ id ob, t1.get id = some ob → t2.get id = some ob) : q t2 = some v := by
  rcases h with ⟨t, x, p, _, _, rfl⟩ | ⟨t, x, a, b, m, w, l, h, m', _, _, _, _, _, rfl⟩
  · exact aload_mono (H := ⟨0, t1⟩) (G := ⟨0, t2⟩) e k
  · exact aslice_mono (H := ⟨0, t1⟩) (G := ⟨0, t2⟩) e k
theorem ReadF.run (hX : TabOk P X) {ρ : Env} {o : Oper} {q : T AObj → Option Value} (h : ReadF X ρ o q) {σ : Ren} {S : Ids} {H : AH} {W : World} {B : Nat} {ρ' : Operand → Value} (hr : Rep σ S H W B) (hρ : EnvOk σ S ρ ρ') {v : Value} (e : q H.tab = some v) : ∃ u, (execOp ρ' o).run P W = .ok (.value u) W ∧ VR σ S v u := by
  rcases h with ⟨t, x, p, ho, hp, rfl⟩ | ⟨t, x, a, b, m, w, l, h, m', ho, h1, h2, h3, h4, rfl⟩
  · obtain ⟨u, k1, k2⟩ := load_sound hX hr (hρ x p hp) (aload_mono (G := H) e fun id ob h => h)
    refine ⟨u, ?_, k2⟩
    unfold execOp
    rw [ho]
    simp only [Sem.run_bind, k1]
    rfl
  · obtain ⟨u, k1, k2⟩ := slice_calm hX hr (hρ x w h1) (optM_vr hρ h2) (optM_vr hρ h3) (optM_vr hρ h4) (aslice_mono (G := H) e fun id ob h => h)
    refine ⟨u, ?_, k2⟩
    unfold execOp
    rw [ho]
    simp only [Sem.run_bind, k1]
    rfl
/-- what the operation's work gives, in the real run -/
theorem evRes_wp (hX : TabOk P X) {call : ACall} (hcall : CallOk P call) {o : Oper} {H H' : AH} {v : Value} {ρ : Env} (he : evRes P X call ρ o H = some (v, H')) {σ : Ren} {S : Ids} {W : World} {B : Nat} {a : Act} (h : Rep σ S H W B) (hfree : Free S H.next) (hB : B ≤ W.heap.size) (hρ : EnvOk σ S ρ a.eval)
    {K : Act → World → Prop} {Q : Exit → Act → World → Prop} (hK : ∀ σ' S' v' W', VR σ' S' v v' → Rep σ' S' H' W' B → Later σ S H.next W σ' S' H'.next W' → K (a.put o.dst v') W') : o.wp P a W K Q := by
  unfold evRes at he
  rw [Option.bind_eq_some_iff] at he
  obtain ⟨⟨r, H1⟩, h1, h2⟩ := he
  obtain ⟨σ1, S1, W1, r1, k1, k2, k3, k4, k5⟩ := aop_sound hX h (hfree _ (Nat.le_refl _)) hB hρ h1
  have hl1 : Later σ S H.next W σ1 S1 H1.next W1 := ⟨k3, k5⟩
  unfold Oper.wp
  rw [k1]
  cases r with
  | value u =>
    simp only at h2
    injection h2 with h2
    injection h2 with h2 h3
    subst h2 h3
    cases r1 <;> simp only [NR] at k4
    rw [Oper.upon_value]
    exact hK σ1 S1 _ W1 k4 k2 hl1
  | skip =>
    simp only at h2
    injection h2 with h2
    injection h2 with h2 h3
    subst h2 h3
    cases r1 <;> simp only [NR] at k4
    rw [Oper.upon_skip]
    exact hK σ1 S1 _ W1 undef_vr k2 hl1
  | enter f args =>
    simp only at h2
    cases r1 <;> simp only [NR] at k4
    rename_i f' args'
    obtain ⟨rfl, hargs⟩ := k4
    rw [Oper.upon_enter]
    refine (hcall f args H1 v H' h2 σ1 S1 W1 B args' k2 (hfree.taken k5) (Nat.le_trans hB k3.size) hargs).mono ?_
    rintro e W2 ⟨σ2, S2, v', rfl, q1, q2, q3⟩
    exact hK σ2 S2 v' W2 q1 q2 (hl1.trans q3)
  | defer f cap args => cases h2
end
end
end Go.Proofs.YtfnamalajmfjbaaGreatDoor.Ev
