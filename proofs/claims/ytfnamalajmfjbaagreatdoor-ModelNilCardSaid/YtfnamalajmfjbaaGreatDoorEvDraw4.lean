/- Regions whose order is drawn: what holds when some set of the operations has run, in whatever order. -/
import Derived.Test.YtfnamalajmfjbaaGreatDoorEvDraw3
set_option linter.unusedVariables false
set_option linter.unusedSimpArgs false
namespace Go.Proofs.YtfnamalajmfjbaaGreatDoor.Ev
noncomputable section
section
variable {P : Program} {X : Tab} {call : ACall} {ops : Array Oper} {A : AAct} {H : AH}
theorem addFresh_spec {f : Nat → Option Rec} {p : Nat → Bool} (hd : ∀ j j' r r' ob ob', f j = some r → f j' = some r' → r.kd = .fresh ob → r'.kd = .fresh ob' → r.lo = r'.lo → j = j') (hb : ∀ j r ob, f j = some r → r.kd = .fresh ob → r.lo < 16777215) (t : T AObj) : ∀ m,
    (∀ j r ob, j < m → p j = true → f j = some r → r.kd = .fresh ob → (addFresh f p m t).get r.lo = some ob) ∧
    (∀ id, (∀ j r ob, j < m → p j = true → f j = some r → r.kd = .fresh ob → r.lo ≠ id) → (addFresh f p m t).get id = t.get id)
  | 0 => ⟨fun j r ob h => (by omega), fun _ _ => rfl⟩
  | m + 1 => by
    obtain ⟨ih1, ih2⟩ := addFresh_spec hd hb t m
    cases hp : p m with
    | false =>
      simp only [addFresh, hp]
      refine ⟨fun j r ob h1 h2 h3 h4 => ?_, fun id h => ih2 id fun j r ob h1 => h j r ob (by omega)⟩
      by_cases e : j = m
      · subst e; rw [hp] at h2; cases h2
      · exact ih1 j r ob (by omega) h2 h3 h4
    | true =>
      simp only [addFresh, hp]
      cases hf : f m with
      | none =>
        refine ⟨fun j r ob h1 h2 h3 h4 => ?_, fun id h => ih2 id fun j r ob h1 => h j r ob (by omega)⟩
        by_cases e : j = m
        · subst e; rw [hf] at h3; cases h3
        · exact ih1 j r ob (by omega) h2 h3 h4
      | some r0 =>
        have rest : (∀ ob, r0.kd ≠ .fresh ob) → (∀ j r ob, j < m + 1 → p j = true → f j = some r → r.kd = .fresh ob → (addFresh f p m t).get r.lo = some ob) ∧
            (∀ id, (∀ j r ob, j < m + 1 → p j = true → f j = some r → r.kd = .fresh ob → r.lo ≠ id) → (addFresh f p m t).get id = t.get id) := by
          intro hk
          refine ⟨fun j r ob h1 h2 h3 h4 => ?_, fun id h => ih2 id fun j r ob h1 => h j r ob (by omega)⟩
          by_cases e : j = m
          · subst e
            rw [hf] at h3
            injection h3 with h3
            subst h3
            exact absurd h4 (hk ob)
          · exact ih1 j r ob (by omega) h2 h3 h4
        cases hk : r0.kd with
        | loc => simpa only [hk] using rest fun ob => by rw [hk]; exact fun h => by cases h
        | read q => simpa only [hk] using rest fun ob => by rw [hk]; exact fun h => by cases h
        | chn t => simpa only [hk] using rest fun ob => by rw [hk]; exact fun h => by cases h
        | fresh ob0 =>
          simp only [hk]
          have hlt := hb m r0 ob0 hf hk
          refine ⟨fun j r ob h1 h2 h3 h4 => ?_, fun id h => ?_⟩
          · rw [T.get_set _ _ _ _ hlt]
            by_cases e : j = m
            · subst e
              rw [hf] at h3
              injection h3 with h3
              subst h3
              rw [hk] at h4
              injection h4 with h4
              rw [if_pos rfl, h4]
            · rw [if_neg (fun q => e (hd j m r r0 ob ob0 h3 hf h4 hk q))]
              exact ih1 j r ob (by omega) h2 h3 h4
          · rw [T.get_set _ _ _ _ hlt, if_neg (fun q => h m r0 ob0 (by omega) hp hf hk q.symm)]
            exact ih2 id fun j r ob h1 => h j r ob (by omega)
/-- all that the pass has shown -/
structure Plan (P : Program) (X : Tab) (call : ACall) (ops : Array Oper) (A : AAct) (H : AH) (R : Nat → Option Rec) (N : Nat) : Prop where
  facts : ∀ (i : Nat) (o : Oper), ops[i]? = some o → ∃ r, R i = some r ∧ Fact P X call ops A H (below R i) i o r
  dom : ∀ i r, R i = some r → ∃ o, ops[i]? = some o ∧ Fact P X call ops A H (below R i) i o r
  top : ∀ i r, R i = some r → r.hi ≤ N
  topH : H.next ≤ N
  uniq : ∀ (i j : Nat) (oi oj : Oper) (d : Nat), ops[i]? = some oi → ops[j]? = some oj → oi.dst = some d → oj.dst = some d → i = j
  pair : ∀ i r q, R i = some r → r.kd = .read q →
    (∀ j rj tab, R j = some rj → rj.kd = .chn tab → Nat.testBit rj.anc i = false → (∀ c rc, R c = some rc → isChn rc → Nat.testBit r.anc c = true → c = j ∨ Nat.testBit rj.anc c = true) → q tab = some r.v) ∧
    ((∀ c rc, R c = some rc → isChn rc → Nat.testBit r.anc c = false) → q H.tab = some r.v)
variable {R : Nat → Option Rec} {N : Nat}
def AlF (R : Nat → Option Rec) (n0 : Nat) (r : Rec) : Ids := fun b => Al R n0 r.anc b ∨ (r.lo ≤ b ∧ b < r.hi)
theorem Plan.hF (p : Plan P X call ops A H R N) : ∀ i r, R i = some r → ∃ o, Fact P X call ops A H (below R i) i o r := fun i r h => by
  obtain ⟨o, _, h⟩ := p.dom i r h
  exact ⟨o, h⟩
theorem Plan.lo (p : Plan P X call ops A H R N) {i : Nat} {r : Rec} (h : R i = some r) : H.next ≤ r.lo := by
  obtain ⟨o, F⟩ := p.hF i r h
  exact F.lo
theorem Plan.le (p : Plan P X call ops A H R N) {i : Nat} {r : Rec} (h : R i = some r) : r.lo ≤ r.hi := by
  obtain ⟨o, F⟩ := p.hF i r h
  exact F.le
theorem Plan.before (p : Plan P X call ops A H R N) {i j : Nat} {r rj : Rec} (h : R i = some r) (hj : R j = some rj) (hlt : j < i) : rj.hi ≤ r.lo := by
  obtain ⟨o, F⟩ := p.hF i r h
  exact F.before j rj (below_some.2 ⟨hlt, hj⟩)
theorem Plan.dis (p : Plan P X call ops A H R N) {i j : Nat} {r rj : Rec} (h : R i = some r) (hj : R j = some rj) {b : Nat} (h1 : r.lo ≤ b) (h2 : b < r.hi) (h3 : rj.lo ≤ b) (h4 : b < rj.hi) : i = j := by
  rcases Nat.lt_trichotomy i j with h5 | h5 | h5
  · have := p.before hj h h5; omega
  · exact h5
  · have := p.before h hj h5; omega
theorem Plan.lt (p : Plan P X call ops A H R N) {i j : Nat} {r : Rec} (h : R i = some r) (hj : Nat.testBit r.anc j = true) : j < i ∧ ∃ rj, R j = some rj := anc_lt p.hF i r j h hj
theorem Plan.trans (p : Plan P X call ops A H R N) {i j m : Nat} {r rj : Rec} (h : R i = some r) (hj : Nat.testBit r.anc j = true) (hrj : R j = some rj) (hm : Nat.testBit rj.anc m = true) : Nat.testBit r.anc m = true := anc_trans p.hF i r j rj m h hj hrj hm
theorem Plan.fresh (p : Plan P X call ops A H R N) {i : Nat} {r : Rec} {ob : AObj} (h : R i = some r) (hk : r.kd = .fresh ob) : r.hi = r.lo + 1 ∧ r.lo ≤ 16000000 := by
  obtain ⟨o, F⟩ := p.hF i r h
  rcases F.work with ⟨_, h1, _⟩ | ⟨ρ, _, _, ⟨h1, _⟩ | ⟨_, h1, _⟩ | ⟨_, h1, h2, h3, _⟩ | ⟨_, _, _, h1, _⟩⟩
  · rw [h1] at hk; cases hk
  · rw [h1] at hk; cases hk
  · rw [h1] at hk; cases hk
  · exact ⟨h2, h3⟩
  · rw [h1] at hk; cases hk
theorem Plan.same (p : Plan P X call ops A H R N) {i j : Nat} {r rj : Rec} {ob ob' : AObj} (h : R i = some r) (hj : R j = some rj) (hk : r.kd = .fresh ob) (hk' : rj.kd = .fresh ob') (e : r.lo = rj.lo) : i = j :=
  p.dis h hj (b := r.lo) (Nat.le_refl _) (by rw [(p.fresh h hk).1]; omega) (by omega) (by rw [(p.fresh hj hk').1]; omega)
/-- what a forerunner may name, its follower may -/
theorem Plan.al (p : Plan P X call ops A H R N) {i j : Nat} {r rj : Rec} (h : R i = some r) (hj : Nat.testBit r.anc j = true) (hrj : R j = some rj) {b : Nat} (hb : AlF R H.next rj b) : Al R H.next r.anc b := by
  rcases hb with (hb | ⟨m, rm, h1, h2, h3⟩) | hb
  · exact .inl hb
  · exact .inr ⟨m, rm, h1, p.trans h hj hrj h2, h3⟩
  · exact .inr ⟨j, rj, hrj, hj, hb⟩
theorem Plan.not_al (p : Plan P X call ops A H R N) {j : Nat} {rj : Rec} {anc b : Nat} (hrj : R j = some rj) (h1 : rj.lo ≤ b) (h2 : b < rj.hi) (hn : Nat.testBit anc j = false) : ¬ Al R H.next anc b := by
  rintro (h | ⟨m, rm, h3, h4, h5, h6⟩)
  · have := p.lo hrj; omega
  · have := p.dis hrj h3 h1 h2 h5 h6
    subst this
    rw [hn] at h4
    cases h4
theorem al_below {i : Nat} {n0 anc b : Nat} (h : Al (below R i) n0 anc b) : Al R n0 anc b := by
  rcases h with h | ⟨j, r, h1, h2⟩
  · exact .inl h
  · exact .inr ⟨j, r, (below_some.1 h1).2, h2⟩
/-- no number of a fresh block that is still apart -/
def Apart (R : Nat → Option Rec) (D : Nat → Prop) (mg : Nat) (id : Nat) : Prop := ∀ j r ob, D j → R j = some r → r.kd = .fresh ob → Nat.testBit mg j = false → r.lo ≠ id
structure View (R : Nat → Option Rec) (D : Nat → Prop) (mg : Nat) (cur : T AObj) (g : Nat → Option AObj) : Prop where
  fresh : ∀ j r ob, D j → R j = some r → r.kd = .fresh ob → Nat.testBit mg j = false → g r.lo = some ob
  old : ∀ id, Apart R D mg id → g id = cur.get id
theorem Plan.view (p : Plan P X call ops A H R N) {D : Nat → Prop} {mg m : Nat} {q : Nat → Bool} (f : Nat → Option Rec) (hf : ∀ j r, f j = some r ↔ (j < m ∧ R j = some r)) (hq : ∀ j, (q j = true ∧ j < m) ↔ (D j ∧ j < m ∧ Nat.testBit mg j = false)) (hD : ∀ j r ob, D j → R j = some r → r.kd = .fresh ob → Nat.testBit mg j = false → j < m) (cur : T AObj) : View R D mg cur (addFresh f q m cur).get := by
  obtain ⟨h1, h2⟩ := addFresh_spec (f := f) (p := q) (fun j j' r r' ob ob' a b c d e => p.same ((hf _ _).1 a).2 ((hf _ _).1 b).2 c d e) (fun j r ob a b => by have := (p.fresh ((hf _ _).1 a).2 b).2; omega) cur m
  refine ⟨fun j r ob a b c d => h1 j r ob (hD j r ob a b c d) ((hq j).2 ⟨a, hD j r ob a b c d, d⟩).1 ((hf _ _).2 ⟨hD j r ob a b c d, b⟩) c, fun id h => h2 id fun j r ob a b c d => ?_⟩
  obtain ⟨e1, e2, e3⟩ := (hq j).1 ⟨b, a⟩
  exact h j r ob e1 ((hf _ _).1 c).2 d e3
/-- where the memory stands when these have run -/
def CurD (R : Nat → Option Rec) (H : AH) (D : Nat → Prop) (cur : T AObj) (mg : Nat) (alc : Ids) : Prop :=
  ((∀ j r, D j → R j = some r → ¬ isChn r) ∧ cur = H.tab ∧ mg = 0 ∧ alc = fun b => b < H.next) ∨
  ∃ c r, D c ∧ R c = some r ∧ r.kd = .chn cur ∧ mg = r.anc ∧ (∀ j r', D j → R j = some r' → isChn r' → j ≤ c) ∧ alc = AlF R H.next r
def regOf (R : Nat → Option Rec) (n0 : Nat) (D : Nat → Prop) (mg : Nat) (alc : Ids) : Nat → Ids := fun id b =>
  (∃ j r ob, D j ∧ R j = some r ∧ r.kd = .fresh ob ∧ Nat.testBit mg j = false ∧ r.lo = id ∧ AlF R n0 r b) ∨ (Apart R D mg id ∧ alc b)
/-- a fresh block that is still apart is named by nothing of the memory's last state -/
theorem Plan.unm (p : Plan P X call ops A H R N) {D : Nat → Prop} {cur : T AObj} {mg : Nat} {alc : Ids} (hc : CurD R H D cur mg alc) {j : Nat} {r : Rec} {ob : AObj} (hr : R j = some r) (hk : r.kd = .fresh ob) (hm : Nat.testBit mg j = false) : ¬ alc r.lo := by
  have hfr := p.fresh hr hk
  rcases hc with ⟨_, _, rfl, rfl⟩ | ⟨c, rc, _, h1, h2, rfl, _, rfl⟩
  · have := p.lo hr
    simp only
    omega
  · rintro (h | ⟨h3, h4⟩)
    · exact p.not_al hr (Nat.le_refl _) (by omega) hm h
    · have := p.dis hr h1 (Nat.le_refl _) (by omega) h3 h4
      subst this
      rw [hr] at h1
      injection h1 with h1
      subst h1
      rw [hk] at h2
      cases h2
structure Inv0 (P : Program) (ops : Array Oper) (A : AAct) (H : AH) (R : Nat → Option Rec) (B : Nat) (σ0 : Ren) (S0 : Ids) (W0 : World) (a0 : Act) (D : Nat → Prop) (a : Act) (W : World) (σ : Ren) (S : Ids) (Hd : AH) (cur : T AObj) (mg : Nat) (alc : Ids) : Prop where
  curD : CurD R H D cur mg alc
  view : View R D mg cur Hd.get
  rr : RR σ S Hd.get (regOf R H.next D mg alc) W B
  lv : ∀ id o, cur.get id = some o → alc id
  evo : Evo σ0 S0 W0 σ S W
  ids : ∀ b, S b → S0 b ∨ ∃ j r, D j ∧ R j = some r ∧ r.lo ≤ b ∧ b < r.hi
  slots : ∀ (j : Nat) (o : Oper) (t : Nat) (r : Rec), ops[j]? = some o → o.dst = some t → D j → R j = some r → VR σ (cut S (AlF R H.next r)) r.v (a.tmps.getD t undef)
  slots0 : ∀ t, (∀ (j : Nat) (o : Oper), ops[j]? = some o → o.dst ≠ some t) → VR σ (cut S (fun b => b < H.next)) (A.at_ t) (a.tmps.getD t undef)
  size : a.tmps.size = A.n
  defs : a.defers = a0.defers
  down : ∀ j r m, D j → R j = some r → Nat.testBit r.anc m = true → D m
  base : B ≤ W.heap.size
end
end
end Go.Proofs.YtfnamalajmfjbaaGreatDoor.Ev
