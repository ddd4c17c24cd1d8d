/- Slicing; the plain rest: abstract, and what they say of the real run. -/
import Derived.Test.YtfnamalajmfjbaaGreatDoorEvParts2
set_option linter.unusedVariables false
set_option linter.unusedSimpArgs false
namespace Go.Proofs.YtfnamalajmfjbaaGreatDoor.Ev
noncomputable section
section
variable {P : Program} {X : Tab} {σ : Ren} {S : Ids} {H : AH} {W : World} {B : Nat}
theorem sliceBounds_run {isS : Bool} {len cap : Nat} {lo hi mx : Option Value} {l h m : Nat} (hlo : (lo = none ∧ l = 0) ∨ ∃ q x, lo = some (.int q x) ∧ 0 ≤ x ∧ x.toNat = l)
    (hhi : (hi = none ∧ h = len) ∨ ∃ q x, hi = some (.int q x) ∧ 0 ≤ x ∧ x.toNat = h) (hmx : (mx = none ∧ m = cap) ∨ ∃ q x, mx = some (.int q x) ∧ 0 ≤ x ∧ x.toNat = m) (h1 : l ≤ h) (h2 : h ≤ m) (h3 : m ≤ cap) (h4 : mx = none ∨ hi ≠ none) (w : World) :
    (Instr.sliceBounds isS len cap lo hi mx).run P w = .ok (l, h, m) w := by
  have hb : ∀ (q : IntKind) (x : Int) (y : Nat) (c : BoundsCode) (k : Nat), 0 ≤ x → x.toNat = k → k ≤ y → (Instr.sliceBound (.int q x) y c).run P w = .ok k w := by
    intro q x y c k h0 hk hy
    have hx : x ≤ (y : Int) := by omega
    simp [Instr.sliceBound, asIntOf, h0, hx, hk]
  unfold Instr.sliceBounds
  rcases hmx with ⟨rfl, rfl⟩ | ⟨q, x, rfl, hx0, hxk⟩
  · rcases hhi with ⟨rfl, rfl⟩ | ⟨q2, x2, rfl, hy0, hyk⟩
    · rcases hlo with ⟨rfl, rfl⟩ | ⟨q3, x3, rfl, hz0, hzk⟩
      · simp
      · simp [hb q3 x3 h _ l hz0 hzk h1]
    · rcases hlo with ⟨rfl, rfl⟩ | ⟨q3, x3, rfl, hz0, hzk⟩
      · simp [hb q2 x2 m _ h hy0 hyk h2]
      · simp [hb q2 x2 m _ h hy0 hyk h2, hb q3 x3 h _ l hz0 hzk h1]
  · rcases hhi with ⟨rfl, rfl⟩ | ⟨q2, x2, rfl, hy0, hyk⟩
    · rcases h4 with h4 | h4
      · cases h4
      · exact absurd rfl h4
    · rcases hlo with ⟨rfl, rfl⟩ | ⟨q3, x3, rfl, hz0, hzk⟩
      · simp [hb q x cap _ m hx0 hxk h3, hb q2 x2 m _ h hy0 hyk h2]
      · simp [hb q x cap _ m hx0 hxk h3, hb q2 x2 m _ h hy0 hyk h2, hb q3 x3 h _ l hz0 hzk h1]
theorem slice_calm (hX : TabOk P X) (h : Rep σ S H W B) {t : TypeId} {v v' r : Value} {lo hi mx lo' hi' mx' : Option Value} (hv : VR σ S v v')
    (hlo : lo.isSome = lo'.isSome ∧ ∀ u u', lo = some u → lo' = some u' → VR σ S u u') (hhi : hi.isSome = hi'.isSome ∧ ∀ u u', hi = some u → hi' = some u' → VR σ S u u')
    (hmx : mx.isSome = mx'.isSome ∧ ∀ u u', mx = some u → mx' = some u' → VR σ S u u') (ha : aslice X H t v lo hi mx = some r) : ∃ r', (Instr.sliceAt t v' lo' hi' mx').run P W = .ok r' W ∧ VR σ S r r' := by
  unfold aslice at ha
  simp only [Option.bind_eq_bind, Option.bind_eq_some_iff] at ha
  obtain ⟨d, h1, h2⟩ := ha
  split at h2
  case h_2 => cases h2
  rename_i e b off len cap
  simp only [Option.bind_eq_some_iff] at h2
  obtain ⟨it, h3, ⟨cs, el, g⟩, h4, l, h5, hh, h6, h7⟩ := h2
  obtain ⟨i, c', lo0, hi0, hs, _, _, _, hg, _, _, _, _, hbn⟩ := h.cells_ h4
  cases hv with
  | slice _ _ _ _ cap' a' hb hl hm hi2 =>
    obtain ⟨rfl, hcap⟩ := hi2 i hs
    have hL := natOf_vr h5 hlo.1 hlo.2
    have hHi := natOf_vr h6 hhi.1 hhi.2
    have hLr : (lo' = none ∧ l = 0) ∨ ∃ q x, lo' = some (.int q x) ∧ 0 ≤ x ∧ x.toNat = l := by
      rcases hL with ⟨_, a, b⟩ | ⟨q, x, _, a, b, c⟩
      · exact .inl ⟨a, b⟩
      · exact .inr ⟨q, x, a, b, c⟩
    have hHr : (hi' = none ∧ hh = len) ∨ ∃ q x, hi' = some (.int q x) ∧ 0 ≤ x ∧ x.toNat = hh := by
      rcases hHi with ⟨_, a, b⟩ | ⟨q, x, _, a, b, c⟩
      · exact .inl ⟨a, b⟩
      · exact .inr ⟨q, x, a, b, c⟩
    have e1 := hX.und t _ h1
    have e2 := hX.inf e it h3
    simp only at h7
    cases hgr : i.grow with
    | none =>
      rw [hgr] at hg
      simp only [Option.map_none] at hg
      subst hg
      simp only [capOk, hgr] at hcap
      subst hcap
      simp only [Option.bind_eq_some_iff] at h7
      obtain ⟨m, h8, h9⟩ := h7
      have hM := natOf_vr h8 hmx.1 hmx.2
      have hMr : (mx' = none ∧ m = cap') ∨ ∃ q x, mx' = some (.int q x) ∧ 0 ≤ x ∧ x.toNat = m := by
        rcases hM with ⟨_, a, b⟩ | ⟨q, x, _, a, b, c⟩
        · exact .inl ⟨a, b⟩
        · exact .inr ⟨q, x, a, b, c⟩
      cases hc : (Nat.ble l hh && Nat.ble hh m && Nat.ble m cap' && (mx.isNone || hi.isSome)) with
      | false => rw [hc] at h9; cases h9
      | true =>
        rw [hc] at h9
        injection h9 with h9
        subst h9
        simp only [Bool.and_eq_true, Nat.ble_eq, Bool.or_eq_true] at hc
        obtain ⟨⟨⟨k1, k2⟩, k3⟩, k4⟩ := hc
        have hrun := sliceBounds_run (P := P) (isS := true) (len := len) (cap := cap') hLr hHr hMr k1 k2 k3 (by
          rcases k4 with k4 | k4
          · left
            have : mx'.isSome = false := by rw [← hmx.1]; cases mx <;> simp_all
            cases mx' <;> simp_all
          · right
            rw [hhi.1] at k4
            cases hi' <;> simp_all) W
        refine ⟨.slice (some (if m = l then ⟨i.blk, i.base + off, none⟩ else (⟨i.blk, i.base + off, none⟩ : Addr).add (l * it.size))) (hh - l) (m - l), ?_,
          (.slice _ _ _ _ _ _ hb (by omega) (by omega) fun i2 hi3 => ?_)⟩
        · simp only [Instr.sliceAt, Instr.slice, Sem.run_bind, run_underlying e1, Result.andThen_ok, hrun, sizeOf, typeInfo, Sem.run_pure, program, Sem.run, e2]
          split <;> rfl
        · rw [hs] at hi3
          injection hi3 with hi3
          subst hi3
          refine ⟨?_, by simp [capOk, hgr]⟩
          by_cases hml : m = l
          · rw [if_pos hml, hml]
            simp
          · rw [if_neg hml]
            have : Nat.beq m l = false := by rw [Bool.eq_false_iff]; intro e; exact hml (by simpa using e)
            rw [this, Addr.add_mid, Nat.add_assoc]
            rfl
    | some q =>
      obtain ⟨s, tot⟩ := q
      rw [hgr] at hg
      simp only [Option.map_some] at hg
      subst hg
      simp only [capOk, hgr] at hcap
      simp only at h7
      cases hc : (mx.isNone && Nat.ble l hh && Nat.ble hh len && Nat.beq s it.size && (Nat.beq l 0 || Nat.blt l len)) with
      | false => rw [hc] at h7; cases h7
      | true =>
        rw [hc] at h7
        injection h7 with h7
        subst h7
        simp only [Bool.and_eq_true, Nat.ble_eq, Bool.or_eq_true, Nat.blt_eq] at hc
        obtain ⟨⟨⟨⟨k0, k1⟩, k2⟩, k3⟩, k4⟩ := hc
        have k3 : s = it.size := by simpa using k3
        subst k3
        have hmn : mx' = none := by
          have : mx'.isSome = false := by rw [← hmx.1]; cases mx <;> simp_all
          cases mx' <;> simp_all
        have hrun := sliceBounds_run (P := P) (isS := true) (len := len) (cap := cap') (mx := mx') hLr hHr (.inl ⟨hmn, rfl⟩) k1 (by omega) (Nat.le_refl _) (.inl hmn) W
        refine ⟨.slice (some (if cap' = l then ⟨i.blk, i.base + off, none⟩ else (⟨i.blk, i.base + off, none⟩ : Addr).add (l * it.size))) (hh - l) (cap' - l), ?_,
          (.slice _ _ _ _ _ _ hb (by omega) (by omega) fun i2 hi3 => ?_)⟩
        · simp only [Instr.sliceAt, Instr.slice, Sem.run_bind, run_underlying e1, Result.andThen_ok, hrun, sizeOf, typeInfo, Sem.run_pure, program, Sem.run, e2]
          split <;> rfl
        · rw [hs] at hi3
          injection hi3 with hi3
          subst hi3
          refine ⟨?_, ?_⟩
          · by_cases hml : cap' = l
            · have hl0 : l = 0 := by
                rcases k4 with k4 | k4
                · simpa using k4
                · omega
              rw [if_pos hml, hl0]
              simp
            · rw [if_neg hml, Addr.add_mid, Nat.add_assoc]
          · simp only [capOk, hgr]
            have h9 : (cap' - l) * it.size + l * it.size = cap' * it.size := by
              rw [← Nat.add_mul]
              congr 1
              omega
            omega
theorem slice_sound (hX : TabOk P X) (h : Rep σ S H W B) {t : TypeId} {v v' r : Value} {lo hi mx lo' hi' mx' : Option Value} (hv : VR σ S v v')
    (hlo : lo.isSome = lo'.isSome ∧ ∀ u u', lo = some u → lo' = some u' → VR σ S u u') (hhi : hi.isSome = hi'.isSome ∧ ∀ u u', hi = some u → hi' = some u' → VR σ S u u')
    (hmx : mx.isSome = mx'.isSome ∧ ∀ u u', mx = some u → mx' = some u' → VR σ S u u') (ha : aslice X H t v lo hi mx = some r) : Shows P σ S H W B (Instr.sliceAt t v' lo' hi' mx') r H := by
  obtain ⟨r', h1, h2⟩ := slice_calm hX h hv hlo hhi hmx ha
  exact Shows.pure_ h h1 h2
def alen (X : Tab) (H : AH) (t : TypeId) (v : Value) : Option Value := do
  let d ← X.und t
  match d, v with
  | .slice _, .slice (some _) n _ => some (.int .i64 n)
  | .map _ _, .map (some r) => match H.get r with
    | some (.map es _) => some (.int .i64 es.length)
    | _ => none
  | _, _ => none
theorem len_sound (hX : TabOk P X) (h : Rep σ S H W B) {t ty : TypeId} {v v' r : Value} (hv : VR σ S v v') (ha : alen X H t v = some r) : Shows P σ S H W B (Builtin.len_ #[t] ty #[v']) r H := by
  unfold alen at ha
  simp only [Option.bind_eq_bind, Option.bind_eq_some_iff] at ha
  obtain ⟨d, h1, h2⟩ := ha
  have e1 := hX.und t _ h1
  split at h2
  · injection h2 with h2
    subst h2
    cases hv with
    | slice _ _ _ _ cap' a' hb hl hm hi =>
      refine Shows.pure_ h ?_ (.int _ _)
      simp [Builtin.len_, run_underlying e1, goInt]
  · split at h2
    · rename_i b es clock hg
      injection h2 with h2
      subst h2
      cases hv with
      | map _ b' hb hi =>
        obtain ⟨_, i, hs, ⟨es', h3, h4, _⟩, _⟩ := h.live _ _ hg
        rw [hi i hs]
        refine Shows.pure_ h ?_ (.int _ _)
        simp [Builtin.len_, run_underlying e1, goInt, getObj, Sem.run, h3, h4]
    · cases h2
  · cases h2
def aextract (v : Value) (i : Nat) : Option Value := match v with
  | .tuple vs => vs.toList[i]?
  | _ => none
theorem extract_sound (h : Rep σ S H W B) {v v' r : Value} {i : Nat} (hv : VR σ S v v') (ha : aextract v i = some r) : Shows P σ S H W B (Instr.extract v' i) r H := by
  unfold aextract at ha
  split at ha
  · cases hv with
    | tuple _ cs' hc =>
      obtain ⟨r', h1, h2⟩ := hc.get ha
      rw [Array.getElem?_toList] at h1
      refine Shows.pure_ h (r' := r') ?_ h2
      simp [Instr.extract, h1]
  · cases ha
def amakeIface (X : Tab) (t : TypeId) (v : Value) : Option Value := do
  let d ← X.und t
  match d with
  | .interface _ => none
  | _ => some (.iface t v)
theorem makeIface_sound (hX : TabOk P X) (h : Rep σ S H W B) {t : TypeId} {v v' r : Value} (hv : VR σ S v v') (ha : amakeIface X t v = some r) : Shows P σ S H W B (Instr.makeInterface t v') r H := by
  unfold amakeIface at ha
  simp only [Option.bind_eq_bind, Option.bind_eq_some_iff] at ha
  obtain ⟨d, h1, h2⟩ := ha
  have e1 := hX.und t _ h1
  split at h2
  · cases h2
  · rename_i hd
    injection h2 with h2
    subst h2
    refine Shows.pure_ h (r' := .iface t v') ?_ (.iface _ _ _ hv)
    unfold Instr.makeInterface
    rw [Sem.run_bind, run_underlying e1]
    simp only [Result.andThen_ok]
    cases d <;> first
      | (exact absurd rfl (hd _))
      | rfl
/-- an assertion that holds, of a concrete type; with 'ok' also one that does not -/
def atypeAssert (X : Tab) (v : Value) (t : TypeId) (ok : Bool) : Option Value := do
  let d ← X.und t
  match d, v with
  | .interface _, _ => none
  | _, .iface u x => cond (Nat.beq u t) (some (cond ok (.tuple #[x, .bool true]) x)) (cond ok (do
      let i ← X.inf t
      let z ← i.zero
      cond (flatF 8 z) (some (.tuple #[z, .bool false])) none) none)
  | _, _ => none
theorem typeAssert_sound (hX : TabOk P X) (h : Rep σ S H W B) {t xt : TypeId} {v v' r : Value} {ok : Bool} (hv : VR σ S v v') (ha : atypeAssert X v t ok = some r) : Shows P σ S H W B (Instr.typeAssert v' xt t ok) r H := by
  unfold atypeAssert at ha
  simp only [Option.bind_eq_bind, Option.bind_eq_some_iff] at ha
  obtain ⟨d, h1, h2⟩ := ha
  have e1 := hX.und t _ h1
  split at h2
  · cases h2
  · rename_i u x hd
    cases hv with
    | iface _ _ x' hx =>
      cases hu : Nat.beq u t with
      | true =>
        rw [hu] at h2
        have hu' : u = t := by simpa using hu
        subst hu'
        simp only [cond_true] at h2
        injection h2 with h2
        subst h2
        cases ok with
        | true =>
          refine Shows.pure_ h (r' := .tuple #[x', .bool true]) ?_ (.tuple _ _ (.cons _ _ _ _ hx (.cons _ _ _ _ (.bool _) .nil)))
          unfold Instr.typeAssert
          rw [Sem.run_bind, run_underlying e1]
          simp only [Result.andThen_ok]
          cases d <;> first
            | (exact absurd rfl (hd _))
            | simp
        | false =>
          refine Shows.pure_ h (r' := x') ?_ hx
          unfold Instr.typeAssert
          rw [Sem.run_bind, run_underlying e1]
          simp only [Result.andThen_ok]
          cases d <;> first
            | (exact absurd rfl (hd _))
            | simp
      | false =>
        rw [hu] at h2
        have hu' : ¬ u = t := by intro e; rw [e] at hu; simp at hu
        simp only [cond_false] at h2
        cases ok with
        | false => cases h2
        | true =>
          simp only [cond_true, Option.bind_eq_some_iff] at h2
          obtain ⟨it, h3, z, h4, h5⟩ := h2
          cases hf : flatF 8 z with
          | false => rw [hf] at h5; cases h5
          | true =>
            rw [hf] at h5
            injection h5 with h5
            subst h5
            have e2 := hX.inf _ _ h3
            refine Shows.pure_ h (r' := .tuple #[z, .bool false]) ?_ (.tuple _ _ (.cons _ _ _ _ (VR.flat 8 z hf) (.cons _ _ _ _ (.bool _) .nil)))
            unfold Instr.typeAssert
            rw [Sem.run_bind, run_underlying e1]
            simp only [Result.andThen_ok]
            cases d <;> first
              | (exact absurd rfl (hd _))
              | simp [hu', zeroValue, typeInfo, e2, h4]
  · cases h2
end
end
end Go.Proofs.YtfnamalajmfjbaaGreatDoor.Ev
