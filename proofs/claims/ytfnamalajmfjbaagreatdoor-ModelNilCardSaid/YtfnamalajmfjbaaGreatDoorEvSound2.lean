/- One operation of the evaluator stands for one of the real run: all of them. -/
import Derived.Test.YtfnamalajmfjbaaGreatDoorEvSound
set_option linter.unusedVariables false
set_option linter.unusedSimpArgs false
namespace Go.Proofs.YtfnamalajmfjbaaGreatDoor.Ev
noncomputable section
section
variable {P : Program} {X : Tab} {σ : Ren} {S : Ids} {H : AH} {W : World} {B : Nat}
theorem two_list {n : Ids} {a b : Value} {l : List Value} (h : VRs σ n [a, b] l) : ∃ a' b', l = [a', b'] ∧ VR σ n a a' ∧ VR σ n b b' := by
  cases h with
  | cons _ a' _ l' h1 t =>
    cases t with
    | cons _ b' _ l'' h2 t =>
      cases t
      exact ⟨a', b', rfl, h1, h2⟩
theorem one_list {n : Ids} {a : Value} {l : List Value} (h : VRs σ n [a] l) : ∃ a', l = [a'] ∧ VR σ n a a' := by
  cases h with
  | cons _ a' _ l' h1 t =>
    cases t
    exact ⟨a', rfl, h1⟩
theorem arr_of {α : Type} {a : Array α} {l : List α} (h : a.toList = l) : a = l.toArray := by cases a; simpa using h
theorem builtin_sound (hX : TabOk P X) (h : Rep σ S H W B) (hfree : ¬ S H.next) (hB : B ≤ W.heap.size) {b : Builtin} {ts : Array TypeId} {ty : TypeId} {cs : Array Bool} {vs : List Value} {vs' : Array Value} {r : ANext} {H' : AH} (hv : VRs σ S vs vs'.toList)
    (ha : abuiltin X H b ts.toList vs = some (r, H')) : Does P σ S H W B (builtin b ts ty cs vs') r H' := by
  unfold abuiltin at ha
  split at ha
  · rename_i t tx s x hts
    obtain ⟨u, h1, rfl⟩ := vals_eq ha
    obtain ⟨s', x', hl, h2, h3⟩ := two_list hv
    rw [arr_of hts, arr_of hl]
    exact Does.of_value (append_sound hX h hfree hB h2 h3 h1)
  · rename_i t v hts
    obtain ⟨u, h1, rfl, rfl⟩ := val_eq ha
    obtain ⟨v', hl, h2⟩ := one_list hv
    rw [arr_of hts, arr_of hl]
    exact Does.of_value (len_sound hX h h2 h1)
  · rename_i t t2 d s hts
    obtain ⟨d', s', hl, h2, h3⟩ := two_list hv
    rw [arr_of hts, arr_of hl]
    split at ha
    · rename_i q hq
      obtain ⟨u, h1, rfl⟩ := vals_eq ha
      injection h1 with h1
      subst h1
      exact Does.of_value (copy0_sound hX h h2 h3 hq)
    · obtain ⟨u, h1, rfl⟩ := vals_eq ha
      exact Does.of_value (copy_sound hX h h2 h3 h1)
  · rename_i t t2 m k hts
    obtain ⟨u, h1, rfl⟩ := vals_eq ha
    obtain ⟨m', k', hl, h2, h3⟩ := two_list hv
    rw [arr_of hts, arr_of hl]
    exact Does.of_value (delete_sound hX h h2 h3 h1)
  · cases ha
theorem all_flat_eq {n : Ids} {l l' : List Value} (h : VRs σ n l l') (hf : l.all (flatF 8) = true) : l' = l := VRs.flat_eq (VR.flat_eq 8) l l' h hf
theorem callFn_sound (hX : TabOk P X) (h : Rep σ S H W B) (hfree : ¬ S H.next) (hB : B ≤ W.heap.size) {g : FuncId} {vs vs' : Array Value} {r : ANext} {H' : AH} (hv : VRs σ S vs.toList vs'.toList) (ha : acallFn P X H g vs = some (r, H')) : Does P σ S H W B (callFunc g vs') r H' := by
  unfold acallFn at ha
  split at ha
  · rename_i fn hfn
    injection ha with ha
    injection ha with ha ha2
    subst ha ha2
    exact ⟨σ, S, W, .enter g vs', (hX.fn g fn hfn).2 vs' W, h, h.refl, ⟨rfl, hv⟩, Taken.refl _ _⟩
  · split at ha
    · rename_i he
      obtain ⟨u, h1, rfl⟩ := vals_eq ha
      obtain ⟨σ', S', W', r', k1, k2, k3, k4, k5⟩ := Does.of_value (P := P) (clone_sound h hfree hB hv h1)
      exact ⟨σ', S', W', r', by rw [hX.ext g _ he]; exact k1, k2, k3, k4, k5⟩
    · rename_i q he
      cases hc : vs.toList.all (flatF 8) with
      | false => rw [hc] at ha; cases ha
      | true =>
        rw [hc] at ha
        simp only [cond_true] at ha
        split at ha
        · rename_i v hp
          cases hf : flatF 8 v with
          | false => rw [hf] at ha; cases ha
          | true =>
            rw [hf] at ha
            injection ha with ha
            injection ha with ha ha2
            subst ha ha2
            have hvv : vs' = vs := array_eq (all_flat_eq hv hc)
            subst hvv
            refine Does.pure_ h (v' := v) ?_ (VR.flat 8 v hf)
            rw [hX.ext g _ he, Sem.run_bind]
            show ((Sem.run P (q vs') W).andThen _) = _
            rw [pureRun_run _ hp W]
            rfl
        · cases ha
    · cases ha
theorem func_vr {n : Ids} {g : FuncId} {first cap : Array Value} {v' : Value} (h : VR σ n (.func (.func g) first cap) v') : ∃ first' cap', v' = .func (.func g) first' cap' ∧ VRs σ n first.toList first'.toList ∧ VRs σ n cap.toList cap'.toList := by
  cases h with
  | func _ _ first' _ cap' h1 h2 => exact ⟨first', cap', rfl, h1, h2⟩
theorem call_sound (hX : TabOk P X) (h : Rep σ S H W B) (hfree : ¬ S H.next) (hB : B ≤ W.heap.size) {ρ : Env} {ρ' : Operand → Value} (hρ : EnvOk σ S ρ ρ') {c : Call} {ty : TypeId} {r : ANext} {H' : AH} (ha : acall P X H ρ c = some (r, H')) :
    Does P σ S H W B (do let d ← resolve ρ' c ty; invoke d.target d.args) r H' := by
  unfold acall at ha
  rw [Option.bind_eq_some_iff] at ha
  obtain ⟨vs, h1, h2⟩ := ha
  have hvs : VRs σ S vs (c.args.map ρ').toList := by rw [Array.toList_map]; exact argsM_vr hρ _ _ h1
  split at h2
  · rename_i b hc
    have := builtin_sound (ty := ty) (cs := c.args.map fun | .const _ => true | _ => false) hX h hfree hB hvs h2
    obtain ⟨σ', S', W', r', k1, k2, k3, k4, k5⟩ := this
    refine ⟨σ', S', W', r', ?_, k2, k3, k4, k5⟩
    unfold resolve
    rw [hc]
    exact k1
  · rename_i f hc
    rw [Option.bind_eq_some_iff] at h2
    obtain ⟨fv, h3, h4⟩ := h2
    split at h4
    · rename_i g first cap
      obtain ⟨first', cap', he, h5, h6⟩ := func_vr (hρ f _ h3)
      have hall : VRs σ S (first ++ vs.toArray ++ cap).toList (first' ++ c.args.map ρ' ++ cap').toList := by
        simp only [Array.toList_append]
        exact (h5.append hvs).append h6
      obtain ⟨σ', S', W', r', k1, k2, k3, k4, k5⟩ := callFn_sound hX h hfree hB hall h4
      refine ⟨σ', S', W', r', ?_, k2, k3, k4, k5⟩
      unfold resolve
      rw [hc]
      dsimp only
      rw [he]
      exact k1
    · cases h4
  · cases h2
theorem aop_sound (hX : TabOk P X) (h : Rep σ S H W B) (hfree : ¬ S H.next) (hB : B ≤ W.heap.size) {ρ : Env} {ρ' : Operand → Value} (hρ : EnvOk σ S ρ ρ') {o : Oper} {r : ANext} {H' : AH} (ha : aop P X H ρ o = some (r, H')) : Does P σ S H W B (execOp ρ' o) r H' := by
  have flat1 : ∀ q, aflat P ρ o = some q → some (q, H) = some (r, H') → Does P σ S H W B (execOp ρ' o) r H' := by
    intro q hq e
    injection e with e
    injection e with e1 e2
    subst e1 e2
    exact flat_sound h hρ hq
  have V : ∀ {s : Sem Value}, execOp ρ' o = (do pure (.value (← s))) → ∀ {u : Value}, r = .value u → Shows P σ S H W B s u H' → Does P σ S H W B (execOp ρ' o) r H' := by
    intro s he u hr hs
    rw [he, hr]
    exact Does.of_value hs
  have U : ∀ {s : Sem Unit}, execOp ρ' o = (do s; pure .skip) → r = .skip → ShowsU P σ S H W B s H' → Does P σ S H W B (execOp ρ' o) r H' := by
    intro s he hr hs
    rw [he, hr]
    exact Does.of_unit hs
  rw [aop_eq] at ha
  unfold aop0 at ha
  split at ha
  case h_1 x hop =>
    obtain ⟨u, h1, rfl, rfl⟩ := val_eq ha
    exact Does.pure_ h (by unfold execOp; rw [hop]; rfl) (hρ x u h1)
  case h_2 x hop =>
    obtain ⟨u, h1, rfl, rfl⟩ := val_eq ha
    exact Does.pure_ h (by unfold execOp; rw [hop]; rfl) (hρ x u h1)
  case h_3 c a b hop =>
    rw [Option.bind_eq_some_iff] at ha
    obtain ⟨cv, h1, h2⟩ := ha
    split at h2
    · obtain ⟨u, h3, rfl, rfl⟩ := val_eq h2
      have hc := hρ c _ h1
      generalize hcv : ρ' c = cv at hc
      cases hc
      exact Does.pure_ h (v' := ρ' a) (by unfold execOp; rw [hop]; simp [hcv, asBool]) (hρ a u h3)
    · obtain ⟨u, h3, rfl, rfl⟩ := val_eq h2
      have hc := hρ c _ h1
      generalize hcv : ρ' c = cv at hc
      cases hc
      exact Does.pure_ h (v' := ρ' b) (by unfold execOp; rw [hop]; simp [hcv, asBool]) (hρ b u h3)
    · cases h2
  case h_4 e hop =>
    obtain ⟨u, h1, hr⟩ := vals_eq ha
    exact V (by unfold execOp; rw [hop]) hr (alloc_sound hX h hfree hB h1)
  case h_5 e x hop =>
    rw [Option.bind_eq_some_iff] at ha
    obtain ⟨v, h1, h2⟩ := ha
    obtain ⟨u, h3, hr⟩ := vals_eq h2
    exact V (by unfold execOp; rw [hop]) hr (box_sound h hfree hB (hρ x v h1) h3)
  case h_6 t parts hop =>
    rw [Option.bind_eq_some_iff] at ha
    obtain ⟨ps, h1, h2⟩ := ha
    obtain ⟨u, h3, hr, rfl⟩ := val_eq h2
    exact V (by unfold execOp; rw [hop]) hr (build_sound hX h (parts := ps.toArray) (by rw [Array.toList_map]; exact partsM_vr hρ _ _ h1) (by simpa using h3))
  case h_7 t len parts hop =>
    rw [Option.bind_eq_some_iff] at ha
    obtain ⟨ps, h1, h2⟩ := ha
    obtain ⟨u, h3, hr⟩ := vals_eq h2
    exact V (by unfold execOp; rw [hop]) hr (buildSlice_sound hX h hfree hB (parts := ps.toArray) (by rw [Array.toList_map]; exact partsM_vr hρ _ _ h1) (by simpa using h3))
  case h_8 t x hop =>
    rw [Option.bind_eq_some_iff] at ha
    obtain ⟨v, h1, h2⟩ := ha
    obtain ⟨u, h3, hr, rfl⟩ := val_eq h2
    obtain ⟨r', k1, k2⟩ := load_sound hX h (hρ x v h1) h3
    exact V (by unfold execOp; rw [hop]) hr (Shows.pure_ h k1 k2)
  case h_9 t p x hop =>
    rw [Option.bind_eq_some_iff] at ha
    obtain ⟨pv, h1, h2⟩ := ha
    rw [Option.bind_eq_some_iff] at h2
    obtain ⟨v, h3, h4⟩ := h2
    obtain ⟨h5, hr⟩ := unit_eq h4
    obtain ⟨W', k1, k2, k3, k4⟩ := store_sound hX h (hρ p pv h1) (hρ x v h3) h5
    exact U (by unfold execOp; rw [hop]) hr ⟨σ, S, W', k1, k2, k3, by rw [k4]; exact Taken.refl _ _⟩
  case h_10 x hop =>
    rw [Option.bind_eq_some_iff] at ha
    obtain ⟨v, h1, h2⟩ := ha
    cases hk : okNil v with
    | false => rw [hk] at h2; cases h2
    | true =>
      rw [hk] at h2
      injection h2 with h2
      injection h2 with h2 h3
      subst h2 h3
      have hv := hρ x v h1
      generalize hx : ρ' x = v' at hv
      refine Does.pure_ h (v' := v') ?_ hv
      unfold execOp
      rw [hop]
      dsimp only
      rw [hx]
      cases hv <;> first
        | rfl
        | (simp [okNil] at hk; done)
  case h_11 op t x y yt hop =>
    split at ha
    · exact flat1 _ (by assumption) ha
    · rw [Option.bind_eq_some_iff] at ha
      obtain ⟨a, h1, h2⟩ := ha
      rw [Option.bind_eq_some_iff] at h2
      obtain ⟨b, h3, h4⟩ := h2
      obtain ⟨u, h5, hr, rfl⟩ := val_eq h4
      exact V (by unfold execOp; rw [hop]) hr (nilcmp_sound hX h (hρ x a h1) (hρ y b h3) h5)
  case h_12 t x hop =>
    rw [Option.bind_eq_some_iff] at ha
    obtain ⟨v, h1, h2⟩ := ha
    obtain ⟨u, h3, hr, rfl⟩ := val_eq h2
    exact V (by unfold execOp; rw [hop]) hr (makeIface_sound hX h (hρ x v h1) h3)
  case h_13 f first cap hop =>
    rw [Option.bind_eq_some_iff] at ha
    obtain ⟨fs, h1, h2⟩ := ha
    rw [Option.bind_eq_some_iff] at h2
    obtain ⟨cs, h3, h4⟩ := h2
    injection h4 with h4
    injection h4 with h4 h5
    subst h4 h5
    refine Does.pure_ h (v' := .func (.func f) (first.map ρ') (cap.map ρ')) (by unfold execOp; rw [hop]; rfl) (.func _ _ _ _ _ ?_ ?_)
    · rw [Array.toList_map]; simpa using argsM_vr hρ _ _ h1
    · rw [Array.toList_map]; simpa using argsM_vr hρ _ _ h3
  case h_14 t hop =>
    obtain ⟨u, h1, hr⟩ := vals_eq ha
    exact V (by unfold execOp; rw [hop]; rfl) hr (makeMap_sound h hfree hB h1)
  case h_15 t x lo hi mx hop =>
    split at ha
    · exact flat1 _ (by assumption) ha
    · rw [Option.bind_eq_some_iff] at ha
      obtain ⟨v, h1, h2⟩ := ha
      rw [Option.bind_eq_some_iff] at h2
      obtain ⟨l, h3, h4⟩ := h2
      rw [Option.bind_eq_some_iff] at h4
      obtain ⟨hh, h5, h6⟩ := h4
      rw [Option.bind_eq_some_iff] at h6
      obtain ⟨m, h7, h8⟩ := h6
      obtain ⟨u, h9, hr, rfl⟩ := val_eq h8
      exact V (by unfold execOp; rw [hop]) hr (slice_sound hX h (hρ x v h1) (optM_vr hρ h3) (optM_vr hρ h5) (optM_vr hρ h7) h9)
  case h_16 t x f hop =>
    rw [Option.bind_eq_some_iff] at ha
    obtain ⟨v, h1, h2⟩ := ha
    obtain ⟨u, h3, hr, rfl⟩ := val_eq h2
    exact V (by unfold execOp; rw [hop]) hr (fieldAddr_sound hX h (hρ x v h1) h3)
  case h_17 t x f hop =>
    rw [Option.bind_eq_some_iff] at ha
    obtain ⟨v, h1, h2⟩ := ha
    obtain ⟨u, h3, hr, rfl⟩ := val_eq h2
    exact V (by unfold execOp; rw [hop]) hr (field_sound hX h (hρ x v h1) h3)
  case h_18 t x i hop =>
    rw [Option.bind_eq_some_iff] at ha
    obtain ⟨v, h1, h2⟩ := ha
    rw [Option.bind_eq_some_iff] at h2
    obtain ⟨ix, h3, h4⟩ := h2
    obtain ⟨u, h5, hr, rfl⟩ := val_eq h4
    exact V (by unfold execOp; rw [hop]) hr (indexAddr_sound hX h (hρ x v h1) (hρ i ix h3) h5)
  case h_19 t x i hop =>
    split at ha
    · exact flat1 _ (by assumption) ha
    · rw [Option.bind_eq_some_iff] at ha
      obtain ⟨v, h1, h2⟩ := ha
      rw [Option.bind_eq_some_iff] at h2
      obtain ⟨ix, h3, h4⟩ := h2
      obtain ⟨u, h5, hr, rfl⟩ := val_eq h4
      exact V (by unfold execOp; rw [hop]) hr (index_sound hX h (hρ x v h1) (hρ i ix h3) h5)
  case h_20 t m k ok hop =>
    rw [Option.bind_eq_some_iff] at ha
    obtain ⟨mv, h1, h2⟩ := ha
    rw [Option.bind_eq_some_iff] at h2
    obtain ⟨kv, h3, h4⟩ := h2
    obtain ⟨u, h5, hr, rfl⟩ := val_eq h4
    exact V (by unfold execOp; rw [hop]) hr (lookup_sound hX h (hρ m mv h1) (hρ k kv h3) h5)
  case h_21 t m k x hop =>
    rw [Option.bind_eq_some_iff] at ha
    obtain ⟨mv, h1, h2⟩ := ha
    rw [Option.bind_eq_some_iff] at h2
    obtain ⟨kv, h3, h4⟩ := h2
    rw [Option.bind_eq_some_iff] at h4
    obtain ⟨vv, h5, h6⟩ := h4
    obtain ⟨h7, hr⟩ := unit_eq h6
    exact U (by unfold execOp; rw [hop]) hr (mapUpdate_sound hX h (hρ m mv h1) (hρ k kv h3) (hρ x vv h5) h7)
  case h_22 t m k x hop =>
    rw [Option.bind_eq_some_iff] at ha
    obtain ⟨mv, h1, h2⟩ := ha
    rw [Option.bind_eq_some_iff] at h2
    obtain ⟨kv, h3, h4⟩ := h2
    rw [Option.bind_eq_some_iff] at h4
    obtain ⟨vv, h5, h6⟩ := h4
    obtain ⟨h7, hr⟩ := unit_eq h6
    exact U (by unfold execOp; rw [hop]) hr (mapUpdate_sound hX h (hρ m mv h1) (hρ k kv h3) (hρ x vv h5) h7)
  case h_23 t x hop =>
    rw [Option.bind_eq_some_iff] at ha
    obtain ⟨v, h1, h2⟩ := ha
    obtain ⟨u, h3, hr⟩ := vals_eq h2
    exact V (by unfold execOp; rw [hop]) hr (range_sound hX h hfree hB (hρ x v h1) h3)
  case h_24 x xt t ok hop =>
    rw [Option.bind_eq_some_iff] at ha
    obtain ⟨v, h1, h2⟩ := ha
    obtain ⟨u, h3, hr, rfl⟩ := val_eq h2
    exact V (by unfold execOp; rw [hop]) hr (typeAssert_sound hX h (hρ x v h1) h3)
  case h_25 x i hop =>
    rw [Option.bind_eq_some_iff] at ha
    obtain ⟨v, h1, h2⟩ := ha
    obtain ⟨u, h3, hr, rfl⟩ := val_eq h2
    exact V (by unfold execOp; rw [hop]) hr (extract_sound h (hρ x v h1) h3)
  case h_26 c hop =>
    split at ha
    · exact flat1 _ (by assumption) ha
    · have := call_sound (ty := o.type) hX h hfree hB hρ ha
      obtain ⟨σ', S', W', r', k1, k2, k3, k4, k5⟩ := this
      exact ⟨σ', S', W', r', by unfold execOp; rw [hop]; exact k1, k2, k3, k4, k5⟩
  case h_27 c hop =>
    split at ha
    · rename_i f hc
      rw [Option.bind_eq_some_iff] at ha
      obtain ⟨vs, h1, h2⟩ := ha
      rw [Option.bind_eq_some_iff] at h2
      obtain ⟨fv, h3, h4⟩ := h2
      split at h4
      · rename_i g first cap
        rw [Option.bind_eq_some_iff] at h4
        obtain ⟨fn, h5, h6⟩ := h4
        injection h6 with h6
        injection h6 with h6 h7
        subst h6 h7
        obtain ⟨first', cap', he, h8, h9⟩ := func_vr (hρ f _ h3)
        refine ⟨σ, S, W, .defer { target := .fn (.func g) cap', args := first' ++ c.args.map ρ' }, ?_, h, h.refl, ⟨cap', rfl, h9, ?_⟩, Taken.refl _ _⟩
        · unfold execOp
          rw [hop]
          simp only [resolve, hc, he, Deferred.ofValue]
          rfl
        · simp only [Array.toList_append, Array.toList_map]
          exact h8.append (by simpa using argsM_vr hρ _ _ h1)
      · cases h4
    · cases ha
  case h_28 op t x hop =>
    split at ha
    · exact flat1 _ (by assumption) ha
    · cases ha
  case h_29 s d x hop =>
    split at ha
    · exact flat1 _ (by assumption) ha
    · rw [Option.bind_eq_some_iff] at ha
      obtain ⟨v, h1, h2⟩ := ha
      obtain ⟨u, h3, hr⟩ := vals_eq h2
      exact V (by unfold execOp; rw [hop]) hr (convert_sound hX h hfree hB (hρ x v h1) h3)
  case h_30 it isS hop =>
    rw [Option.bind_eq_some_iff] at ha
    obtain ⟨v, h1, h2⟩ := ha
    obtain ⟨u, h3, hr⟩ := vals_eq h2
    exact V (by unfold execOp; rw [hop]) hr (next_sound h (hρ it v h1) h3)
  case h_31 it hop =>
    rw [Option.bind_eq_some_iff] at ha
    obtain ⟨v, h1, h2⟩ := ha
    obtain ⟨u, h3, hr, rfl⟩ := val_eq h2
    exact V (by unfold execOp; rw [hop]) hr (entry_sound h (hρ it v h1) h3)
  case h_32 t l c hop =>
    rw [Option.bind_eq_some_iff] at ha
    obtain ⟨lv, h1, h2⟩ := ha
    rw [Option.bind_eq_some_iff] at h2
    obtain ⟨cv, h3, h4⟩ := h2
    obtain ⟨u, h5, hr⟩ := vals_eq h4
    exact V (by unfold execOp; rw [hop]) hr (makeSlice_sound hX h hfree hB (hρ l lv h1) (hρ c cv h3) h5)
  case h_33 => cases ha
end
end
end Go.Proofs.YtfnamalajmfjbaaGreatDoor.Ev
