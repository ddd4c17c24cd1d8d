/- Calls, deferred calls: the evaluator stands for the real run. -/
import Derived.Test.YtfnamalajmfjbaaGreatDoorEvCode
import Derived.Recover
import Derived.Laws.Sem
set_option linter.unusedVariables false
set_option linter.unusedSimpArgs false
namespace Go.Proofs.YtfnamalajmfjbaaGreatDoor.Ev
noncomputable section
section
variable {P : Program} {X : Tab} {σ : Ren} {S : Ids} {H : AH} {W : World} {B : Nat}
def resF (tmps : Array Value) : ResultVar → Sem Value
  | .tmp t => pure (tmps.getD t undef)
  | .cell a t => do loadVar t (← asAddr (tmps.getD a undef))
theorem mapM_res (hX : TabOk P X) (h : Rep σ S H W B) {A : AAct} {a : Act} (hact : ActR σ S A a) : ∀ (l : List ResultVar) (vs : List Value), aresults X H A l = some vs → ∃ vs', (l.mapM (resF a.tmps)).run P W = .ok vs' W ∧ VRs σ S vs vs'
  | [], vs, he => by
    simp only [aresults] at he
    injection he with he
    subst he
    exact ⟨[], rfl, .nil⟩
  | .tmp t :: l, vs, he => by
    simp only [aresults, Option.bind_eq_some_iff] at he
    obtain ⟨r, h1, h2⟩ := he
    injection h2 with h2
    subst h2
    obtain ⟨vs', k1, k2⟩ := mapM_res hX h hact l r h1
    refine ⟨a.tmps.getD t undef :: vs', ?_, .cons _ _ _ _ (hact.at_ t) k2⟩
    rw [List.mapM_cons]
    simp only [resF, Sem.run_bind, Sem.run_pure, Result.andThen_ok, k1]
  | .cell p t :: l, vs, he => by
    simp only [aresults, Option.bind_eq_some_iff] at he
    obtain ⟨v, h1, r, h2, h3⟩ := he
    injection h3 with h3
    subst h3
    obtain ⟨vs', k1, k2⟩ := mapM_res hX h hact l r h2
    obtain ⟨a', r', e1, e2, e3⟩ := loadVar_sound hX h (hact.at_ p) h1
    refine ⟨r' :: vs', ?_, .cons _ _ _ _ e3 k2⟩
    rw [List.mapM_cons]
    simp only [resF, e1, asAddr, Sem.run_bind, Sem.run_pure, Result.andThen_ok, e2, k1]
theorem results_sound (hX : TabOk P X) (h : Rep σ S H W B) {A : AAct} {a : Act} (hact : ActR σ S A a) {fn : Func} {vs : List Value} (he : aresults X H A fn.results.toList = some vs) : ∃ v', (results fn a.tmps).run P W = .ok v' W ∧ VR σ S (result vs) v' := by
  obtain ⟨vs', k1, k2⟩ := mapM_res hX h hact _ _ he
  have hm : (fn.results.mapM (resF a.tmps)).run P W = .ok vs'.toArray W := by
    rw [Array.mapM_eq_mapM_toList]
    simp only [map_eq_pure_bind, Sem.run_bind, k1, Result.andThen_ok, Sem.run_pure]
  have hr : results fn a.tmps = (do
    let vs ← fn.results.mapM (resF a.tmps)
    pure (if h : vs.size = 1 then vs[0] else .tuple vs)) := rfl
  rw [hr, Sem.run_bind, hm]
  simp only [Result.andThen_ok, Sem.run_pure]
  rcases vs with _ | ⟨v, _ | ⟨u, l⟩⟩
  · cases k2
    exact ⟨.tuple #[], rfl, .tuple _ _ .nil⟩
  · cases k2 with
    | cons _ v' _ l' h1 t =>
      cases t
      exact ⟨v', rfl, h1⟩
  · refine ⟨.tuple vs'.toArray, ?_, .tuple _ _ (by simpa using k2)⟩
    have hl := k2.length
    rw [dif_neg (by simp only [List.size_toArray]; rw [← hl]; simp)]
theorem layArgs_get : ∀ (l : List Value) (i : Nat) (t : T Value) (j : Nat), i + l.length < 16777215 → (layArgs l i t).get j = if i ≤ j ∧ j < i + l.length then l[j - i]? else t.get j
  | [], i, t, j, _ => by simp only [layArgs, List.length_nil]; rw [if_neg (by omega)]
  | v :: l, i, t, j, h => by
    simp only [List.length_cons] at h
    simp only [layArgs]
    rw [layArgs_get l (i + 1) _ j (by omega), T.get_set _ _ _ _ (by omega)]
    simp only [List.length_cons]
    by_cases h1 : i + 1 ≤ j ∧ j < i + 1 + l.length
    · rw [if_pos h1, if_pos (by omega), show j - i = (j - (i + 1)) + 1 from by omega]
      simp
    · rw [if_neg h1]
      by_cases h2 : j = i
      · subst h2
        rw [if_pos rfl, if_pos (by omega)]
        simp
      · rw [if_neg h2, if_neg (by omega)]
theorem enter_act {fn : Func} {args args' : Array Value} (hv : VRs σ S args.toList args'.toList) (hs : args.size < 1000000) : ActR σ S (enter fn args) { tmps := args' ++ Array.replicate (fn.ntmps - args'.size) undef, defers := [] } := by
  have hsz := size_vr hv
  refine ⟨by simp only [enter, Array.size_append, Array.size_replicate]; rw [show fn.ntmps.max args.size = max fn.ntmps args.size from rfl]; omega, fun t => ?_⟩
  have hg := layArgs_get args.toList 0 .lf t (by simp; omega)
  simp only [AAct.at_, enter, hg, Nat.sub_zero, Nat.zero_add, Nat.zero_le, true_and, Array.length_toList]
  rw [Array.getD_eq_getD_getElem?]
  by_cases ht : t < args.size
  · rw [if_pos ht, Array.getElem?_append_left (by rw [hsz]; exact ht)]
    rw [Array.getElem?_toList, Array.getElem?_eq_getElem ht]
    obtain ⟨v', h1, h2⟩ := hv.get (i := t) (v := args[t]) (by rw [Array.getElem?_toList, Array.getElem?_eq_getElem ht])
    rw [Array.getElem?_toList] at h1
    rw [h1]
    exact h2
  · rw [if_neg ht]
    simp only [T.get_lf]
    rw [Array.getElem?_append_right (by omega)]
    rw [Array.getElem?_replicate]
    split <;> exact undef_vr
/-- a deferred function's code, where nothing panics -/
def PostS (H0 : AH) (σ : Ren) (S : Ids) (W : World) (B : Nat) (cs : List Frame) (x : AExit) (A' : AAct) (H' : AH) (Q : Exit → Act → List Frame → World → Prop) : Prop :=
  ∀ σ' S' a' W', St σ' S' H' W' B A' a' → Later σ S H0.next W σ' S' H'.next W' → Q (toExit x) a' cs W'
theorem evOpsD_wp (hX : TabOk P X) {call : ACall} (hcall : CallOk P call) {ops : Array Oper} {B : Nat} {cs : List Frame} (hcs : recoverD cs = none) {Q : Exit → Act → List Frame → World → Prop} : ∀ (l : List Oper) (k : Nat) (A : AAct) (H : AH) (A' : AAct) (H' : AH) (σ : Ren) (S : Ids) (W : World) (a : Act), (∀ j, l[j]? = ops[k + j]?) → evOpsD P X call ops.toList l A H = some (A', H') → St σ S H W B A a →
    (∀ σ' S' a' W', St σ' S' H' W' B A' a' → Later σ S H.next W σ' S' H'.next W' → Q .normal a' cs W') → wpOpsS P ops Q (List.range' k l.length) a cs W
  | [], k, A, H, A', H', σ, S, W, a, _, he, h, hQ => by
    simp only [evOpsD] at he
    injection he with he
    injection he with he he2
    subst he he2
    exact hQ σ S a W h h.refl
  | o :: l, k, A, H, A', H', σ, S, W, a, hl, he, h, hQ => by
    have h0 : ops[k]? = some o := by simpa using (hl 0).symm
    have hl' : ∀ j, l[j]? = ops[k + 1 + j]? := fun j => by have := hl (j + 1); simpa [Nat.add_assoc, Nat.add_comm 1 j] using this
    simp only [List.length_cons, List.range'_succ, wpOpsS, h0]
    have plain : ∀ (A1 : AAct) (H1 : AH), evOp P X call ops.toList o A H = some (A1, H1) → evOpsD P X call ops.toList l A1 H1 = some (A', H') →
        (if Region.wanted o (yielded ops a.tmps) then match (execOp a.eval o).run P W with
          | .ok .recover w' => match recoverD cs with
            | some (v, cs') => wpOpsS P ops Q (List.range' (k + 1) l.length) (a.put o.dst v) cs' w'
            | none => wpOpsS P ops Q (List.range' (k + 1) l.length) (a.put o.dst .nilIface) cs w'
          | r => o.upon P a (fun a' w' => wpOpsS P ops Q (List.range' (k + 1) l.length) a' cs w') (fun e a' w' => Q e a' cs w') r
        else wpOpsS P ops Q (List.range' (k + 1) l.length) (a.put o.dst undef) cs W) := by
      intro A1 H1 h1 h2
      have := evOp_wp hX hcall h1 h (K := fun a' w' => wpOpsS P ops Q (List.range' (k + 1) l.length) a' cs w') (Q := fun e a' w' => Q e a' cs w') fun σ' S' a' W' hst hlat =>
        evOpsD_wp hX hcall hcs l (k + 1) A1 H1 A' H' σ' S' W' a' hl' h2 hst fun σ2 S2 a2 W2 hst2 hlat2 => hQ σ2 S2 a2 W2 hst2 (hlat.trans hlat2)
      split at this
      · rename_i hw
        rw [if_pos hw]
        unfold Oper.wp at this
        generalize (execOp a.eval o).run P W = r at this ⊢
        cases r with
        | halt x w' => exact this
        | ok n w' =>
          cases n <;> first
            | exact this
            | (simp only [Oper.upon] at this)
      · rename_i hw
        rw [if_neg hw]
        exact this
    unfold evOpsD at he
    split at he
    · rename_i c hop
      split at he
      · rename_i hc
        cases hw : (awanted ops.toList A o && Nat.beq c.args.size 0) with
        | false => rw [hw] at he; cases he
        | true =>
          rw [hw] at he
          simp only [cond_true, Option.bind_eq_some_iff] at he
          obtain ⟨A1, h1, h2⟩ := he
          simp only [Bool.and_eq_true] at hw
          have hwr : Region.wanted o (yielded ops a.tmps) = true := by rw [← wanted_eq h.act]; exact hw.1
          rw [if_pos hwr]
          have hrun : (execOp a.eval o).run P W = .ok .recover W := by
            unfold execOp
            rw [hop]
            simp only [resolve, hc]
            rfl
          rw [hrun]
          simp only [hcs]
          obtain ⟨p1, p2, p3⟩ := h.act.put (v := .nilIface) (v' := .nilIface) .nilIface h1
          refine evOpsD_wp hX hcall hcs l (k + 1) A1 H A' H' σ S W _ hl' h2 ⟨h.rep, h.free, h.base, p1, ?_⟩ hQ
          rw [p2]
          cases o.dst <;> exact h.defs
      · split at he
        · rename_i A1 H1 h1
          exact plain A1 H1 h1 he
        · cases he
    · split at he
      · rename_i A1 H1 h1
        exact plain A1 H1 h1 he
      · cases he
theorem evCodeD_wp (hX : TabOk P X) {call : ACall} (hcall : CallOk P call) (hdraw : DrawOk P X call) {cs : List Frame} (hcs : recoverD cs = none) : ∀ (n : Nat) (c : Code) (A : AAct) (H : AH) (x : AExit) (A' : AAct) (H' : AH), evCodeD P X call n c A H = some (x, A', H') →
    ∀ (σ : Ren) (S : Ids) (W : World) (B : Nat) (a : Act) (Q : Exit → Act → List Frame → World → Prop), St σ S H W B A a → PostS H σ S W B cs x A' H' Q → c.wpS P Q a cs W := by
  intro n
  induction n with
  | zero => intro c A H x A' H' he; simp [evCodeD] at he
  | succ n ih =>
    intro c A H x A' H' he σ S W B a Q h hQ
    unfold evCodeD at he
    split at he
    · rename_i id ops
      split at he
      case h_2 => cases he
      rename_i A1 H1 h1
      injection he with he
      injection he with h2 h3
      injection h3 with h3 h4
      subst h2 h3 h4
      refine wpS_region ?_
      rw [List.range_eq_range']
      have := evOpsD_wp hX hcall hcs (ops := ops) (B := B) (Q := Q) ops.toList 0 A H A1 H1 σ S W a (by simp) h1 h hQ
      simpa using this
    · rename_i y z
      refine wpS_seq ?_
      split at he
      · rename_i A1 H1 h1
        exact ih y A H .normal A1 H1 h1 σ S W B a _ h fun σ' S' a' W' hst hl => ih z A1 H1 x A' H' he σ' S' W' B a' Q hst fun σ2 S2 a2 W2 hst2 hl2 => hQ σ2 S2 a2 W2 hst2 (hl.trans hl2)
      · rename_i r hr
        refine ih y A H x A' H' he σ S W B a _ h fun σ' S' a' W' hst hl => ?_
        have := hQ σ' S' a' W' hst hl
        cases x with
        | normal => exact (hr A' H' he).elim
        | exit id => exact this
        | ret => exact this
    · rename_i b y z
      split at he
      · rename_i hb
        exact wpS_cond (t := true) (cond_eval h.act hb) (ih y A H x A' H' he σ S W B a Q h hQ)
      · rename_i hb
        exact wpS_cond (t := false) (cond_eval h.act hb) (ih z A H x A' H' he σ S W B a Q h hQ)
      · cases he
    · exact wpS_of_wp ((evCode_wp hX hcall hdraw n).1 _ A H x A' H' he σ S W B a _ h hQ)
theorem enter_st {fn : Func} {args args' : Array Value} (h : Rep σ S H W B) (hf : Free S H.next) (hB : B ≤ W.heap.size) (hv : VRs σ S args.toList args'.toList) (hs : args.size < 1000000) :
    St σ S H W B (enter fn args) { tmps := args' ++ Array.replicate (fn.ntmps - args'.size) undef, defers := [] } := ⟨h, hf, hB, enter_act hv hs, .nil⟩
theorem settle_ret : settle .returning = .returning := rfl
theorem evDefs_sound (hX : TabOk P X) {call : ACall} (hcall : CallOk P call) (hdraw : DrawOk P X call) {lf : Nat} {fn0 : Func} {tmps : Array Value} {R : Ending → World → Prop} : ∀ (ds : List ADef) (H H' : AH) (ds' : List Deferred) (σ : Ren) (S : Ids) (W : World) (B : Nat), evDefs P X call lf ds H = some H' → Rep σ S H W B → Free S H.next → B ≤ W.heap.size → DRs σ S ds ds' →
    (∀ σ' S' W', Rep σ' S' H' W' B → Free S' H'.next → B ≤ W'.heap.size → Later σ S H.next W σ' S' H'.next W' → Leaves P fn0 tmps R [] .returning W') → Leaves P fn0 tmps R ds' .returning W
  | [], H, H', ds', σ, S, W, B, he, h, hf, hB, hd, hR => by
    cases hd
    simp only [evDefs] at he
    injection he with he
    subst he
    exact hR σ S W h hf hB ⟨h.refl, Taken.refl _ _⟩
  | d :: ds, H, H', ds', σ, S, W, B, he, h, hf, hB, hd, hR => by
    cases hd with
    | cons _ d' _ l' cap' h1 h2 h3 t =>
      simp only [evDefs, Option.bind_eq_some_iff] at he
      obtain ⟨fn, k1, k2⟩ := he
      split at k2
      case h_1 => cases k2
      rename_i body hbody
      cases hsz : Nat.blt (d.args ++ d.cap).size 1000000 with
      | false => rw [hsz] at k2; cases k2
      | true =>
        rw [hsz] at k2
        simp only [cond_true] at k2
        split at k2
        case h_2 => cases k2
        rename_i v H1 hl
        have hargs : VRs σ S (d.args ++ d.cap).toList (d'.args ++ cap').toList := by
          simp only [Array.toList_append]
          exact h3.append h2
        obtain ⟨hfn, hrun⟩ := hX.fn d.f fn k1
        refine ⟨fun e => (by cases e), .func d.f, cap', d.f, d'.args ++ cap', h1, ?_, ?_⟩
        · rw [h1]
          exact hrun _ W
        · refine callsD_of_wpS hfn hbody fun c₀ cs hu => ?_
          have hrec : recoverD (c₀ :: cs) = none := by simp [recoverD, hu]
          have hst := enter_st (fn := fn) h hf hB hargs (by simpa using hsz)
          have fin : ∀ (x : AExit) (A1 : AAct), (x = .normal ∨ x = .ret) → evCodeD P X call lf body (enter fn (d.args ++ d.cap)) H = some (x, A1, H1) → A1.defers = [] → ∀ vs, aresults X H1 A1 fn.results.toList = some vs →
              body.wpS P (bodyPostS P fn c₀ cs (fun
                | .returned _, u', w' => Leaves P fn0 tmps R l' (settle u') w'
                | .panicked chain, u', w' => Leaves P fn0 tmps R l' (raised u' chain) w'
                | .outgrown, _, w' => R .outgrown w')) { tmps := (d'.args ++ cap') ++ Array.replicate (fn.ntmps - (d'.args ++ cap').size) undef, defers := [] } (c₀ :: cs) W := by
            intro x A1 hx he1 hd1 vs hvs
            refine evCodeD_wp hX hcall hdraw hrec lf body _ H x A1 H1 he1 σ S W B _ _ hst fun σ' S' a' W' hst' hl' => ?_
            obtain ⟨v', r1, r2⟩ := results_sound hX hst'.rep hst'.act hvs
            have hdf : a'.defers = [] := by
              have := hst'.defs
              rw [hd1] at this
              cases hq : a'.defers with
              | nil => rfl
              | cons y l => rw [hq] at this; cases this
            have hc0 : ({ c₀ with mode := .returning } : Frame) = c₀ := by rw [← hu]
            have hpost : a'.defers = [] ∧ ∃ u', (c₀ :: cs) = { c₀ with mode := u' } :: cs ∧ ∃ v, (results fn a'.tmps).run P W' = .ok v W' ∧ Leaves P fn0 tmps R l' (settle u') W' :=
              ⟨hdf, .returning, by rw [hc0], v', r1, evDefs_sound hX hcall hdraw ds H1 H' l' σ' S' W' B k2 hst'.rep hst'.free hst'.base (t.ext hl'.evo.ext) fun σ2 S2 W2 q1 q2 q3 q4 => hR σ2 S2 W2 q1 q2 q3 (hl'.trans q4)⟩
            rcases hx with rfl | rfl
            · exact hpost
            · exact hpost
          unfold leaveD at hl
          split at hl
          · rename_i A1 H2 he1
            split at hl
            · rename_i hd1
              rw [Option.bind_eq_some_iff] at hl
              obtain ⟨vs, q1, q2⟩ := hl
              injection q2 with q2
              injection q2 with q2 q3
              subst q3
              exact fin .normal A1 (.inl rfl) he1 hd1 vs q1
            · cases hl
          · rename_i A1 H2 he1
            split at hl
            · rename_i hd1
              rw [Option.bind_eq_some_iff] at hl
              obtain ⟨vs, q1, q2⟩ := hl
              injection q2 with q2
              injection q2 with q2 q3
              subst q3
              exact fin .ret A1 (.inr rfl) he1 hd1 vs q1
            · cases hl
          · cases hl
/-- EVERY CALL -/
theorem evCall_ok (hX : TabOk P X) (lf : Nat) (hdraw : ∀ call, CallOk P call → DrawOk P X call) : ∀ d, CallOk P (evCall P X lf d)
  | 0 => fun f args H v H' he => by simp [evCall] at he
  | d + 1 => by
    intro f args H v H' he σ S W B args' h hf hB hv
    have ih := evCall_ok hX lf hdraw d
    simp only [evCall, Option.bind_eq_some_iff] at he
    obtain ⟨fn, k1, k2⟩ := he
    split at k2
    case h_1 => cases k2
    rename_i body hbody
    cases hsz : Nat.blt args.size 1000000 with
    | false => rw [hsz] at k2; cases k2
    | true =>
      rw [hsz] at k2
      simp only [cond_true] at k2
      have hst := enter_st (fn := fn) h hf hB hv (by simpa using hsz)
      refine calls_of_wp_defers (hX.fn f fn k1).1 hbody ?_
      have fin : ∀ (x : AExit) (A1 : AAct) (H1 : AH), (x = .normal ∨ x = .ret) → evCode P X (evCall P X lf d) lf body (enter fn args) H = some (x, A1, H1) → leave P X (evCall P X lf d) lf fn A1 H1 = some (v, H') →
          body.wp P (bodyPostD P fn fun e W' => ∃ (σ' : Ren) (S' : Ids) (v' : Value), e = .returned v' ∧ VR σ' S' v v' ∧ Rep σ' S' H' W' B ∧ Later σ S H.next W σ' S' H'.next W') { tmps := args' ++ Array.replicate (fn.ntmps - args'.size) undef, defers := [] } W := by
        intro x A1 H1 hx he1 hl
        refine (evCode_wp hX ih (hdraw _ ih) lf).1 body _ H x A1 H1 he1 σ S W B _ _ hst fun σ' S' a' W' hst' hl' => ?_
        unfold leave at hl
        rw [Option.bind_eq_some_iff] at hl
        obtain ⟨H2, q1, q2⟩ := hl
        rw [Option.bind_eq_some_iff] at q2
        obtain ⟨vs, q3, q4⟩ := q2
        injection q4 with q4
        injection q4 with q4 q5
        subst q4 q5
        have hleave : Leaves P fn a'.tmps (fun e W' => ∃ (σ' : Ren) (S' : Ids) (v' : Value), e = .returned v' ∧ VR σ' S' (result vs) v' ∧ Rep σ' S' H2 W' B ∧ Later σ S H.next W σ' S' H2.next W') a'.defers .returning W' :=
          evDefs_sound hX ih (hdraw _ ih) A1.defers H1 H2 a'.defers σ' S' W' B q1 hst'.rep hst'.free hst'.base hst'.defs fun σ2 S2 W2 r1 r2 r3 r4 => by
            obtain ⟨v', s1, s2⟩ := results_sound hX r1 (hst'.act.ext r4.evo.ext) q3
            exact ⟨v', s1, σ2, S2, v', rfl, s2, r1, hl'.trans r4⟩
        rcases hx with rfl | rfl
        · exact hleave
        · exact hleave
      split at k2
      · rename_i A1 H1 he1
        exact fin .normal A1 H1 (.inl rfl) he1 k2
      · rename_i A1 H1 he1
        exact fin .ret A1 H1 (.inr rfl) he1 k2
      · cases k2
end
end
end Go.Proofs.YtfnamalajmfjbaaGreatDoor.Ev
