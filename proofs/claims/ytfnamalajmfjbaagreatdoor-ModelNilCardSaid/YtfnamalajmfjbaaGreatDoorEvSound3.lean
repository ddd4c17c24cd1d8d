/- A region's operations, in the order of the text. -/
import Derived.Test.YtfnamalajmfjbaaGreatDoorEvSound2
set_option linter.unusedVariables false
set_option linter.unusedSimpArgs false
namespace Go.Proofs.YtfnamalajmfjbaaGreatDoor.Ev
noncomputable section
section
variable {P : Program} {X : Tab}
inductive DRs (σ : Ren) (S : Ids) : List ADef → List Deferred → Prop
  | nil : DRs σ S [] []
  | cons (d : ADef) (d' : Deferred) (l : List ADef) (l' : List Deferred) (cap' : Array Value) (h1 : d'.target = .fn (.func d.f) cap') (h2 : VRs σ S d.cap.toList cap'.toList) (h3 : VRs σ S d.args.toList d'.args.toList) (t : DRs σ S l l') : DRs σ S (d :: l) (d' :: l')
theorem DRs.ext {σ σ' : Ren} {S S' : Ids} {l : List ADef} {l' : List Deferred} (h : DRs σ S l l') (e : Ext σ S σ' S') : DRs σ' S' l l' := by
  induction h with
  | nil => exact .nil
  | cons d d' l l' cap' h1 h2 h3 t ih => exact .cons d d' l l' cap' h1 (h2.ext e) (h3.ext e) ih
/-- the abstract state stands for the real one -/
structure St (σ : Ren) (S : Ids) (H : AH) (W : World) (B : Nat) (A : AAct) (a : Act) : Prop where
  rep : Rep σ S H W B
  free : Free S H.next
  base : B ≤ W.heap.size
  act : ActR σ S A a
  defs : DRs σ S A.defers a.defers
/-- a later state -/
structure Later (σ : Ren) (S : Ids) (n : Nat) (W : World) (σ' : Ren) (S' : Ids) (n' : Nat) (W' : World) : Prop where
  evo : Evo σ S W σ' S' W'
  taken : Taken S n S' n'
theorem Later.trans {σ σ' σ'' : Ren} {S S' S'' : Ids} {n n' n'' : Nat} {W W' W'' : World} (h : Later σ S n W σ' S' n' W') (k : Later σ' S' n' W' σ'' S'' n'' W'') : Later σ S n W σ'' S'' n'' W'' := ⟨h.evo.trans k.evo, h.taken.trans k.taken⟩
theorem St.refl {σ : Ren} {S : Ids} {H : AH} {W : World} {B : Nat} {A : AAct} {a : Act} (h : St σ S H W B A a) : Later σ S H.next W σ S H.next W := ⟨h.rep.refl, Taken.refl _ _⟩
def CallOk (P : Program) (call : ACall) : Prop := ∀ f args H v H', call f args H = some (v, H') → ∀ (σ : Ren) (S : Ids) (W : World) (B : Nat) (args' : Array Value), Rep σ S H W B → Free S H.next → B ≤ W.heap.size → VRs σ S args.toList args'.toList →
  Calls P f args' W fun e W' => ∃ (σ' : Ren) (S' : Ids) (v' : Value), e = .returned v' ∧ VR σ' S' v v' ∧ Rep σ' S' H' W' B ∧ Later σ S H.next W σ' S' H'.next W'
theorem yielded_eq {σ : Ren} {S : Ids} {A : AAct} {a : Act} (h : ActR σ S A a) (ops : Array Oper) (j : Nat) : ayielded ops.toList A j = yielded ops a.tmps j := by
  unfold ayielded yielded
  rw [Array.getElem?_toList]
  cases hd : (ops[j]?).bind (·.dst) with
  | none => rfl
  | some d =>
    simp only [Option.bind_some]
    have hv := h.at_ d
    rcases Nat.lt_or_ge d a.tmps.size with hlt | hge
    · have e1 : a.tmps[d]? = some (a.tmps.getD d undef) := by
        rw [Array.getD_eq_getD_getElem?, Array.getElem?_eq_getElem hlt]
        rfl
      rw [e1]
      generalize A.at_ d = u at hv ⊢
      generalize a.tmps.getD d undef = u' at hv ⊢
      cases hv <;> rfl
    · have e1 : a.tmps[d]? = none := Array.getElem?_eq_none hge
      have e2 : a.tmps.getD d undef = undef := by rw [Array.getD_eq_getD_getElem?, e1]; rfl
      rw [e1]
      rw [e2] at hv
      generalize A.at_ d = u at hv
      unfold undef at hv
      cases hv with
      | tuple cs _ hc => rfl
theorem wanted_eq {σ : Ren} {S : Ids} {A : AAct} {a : Act} (h : ActR σ S A a) (ops : Array Oper) (o : Oper) : awanted ops.toList A o = Region.wanted o (yielded ops a.tmps) := by
  unfold awanted Region.wanted
  cases o.guard with
  | none => rfl
  | some p =>
    obtain ⟨j, want⟩ := p
    simp only
    rw [yielded_eq h]
    cases yielded ops a.tmps j with
    | none => rfl
    | some b => cases b <;> cases want <;> rfl
/-- one operation, at its place -/
theorem evOp_wp (hX : TabOk P X) {call : ACall} (hcall : CallOk P call) {ops : Array Oper} {o : Oper} {A A' : AAct} {H H' : AH} (he : evOp P X call ops.toList o A H = some (A', H')) {σ : Ren} {S : Ids} {W : World} {B : Nat} {a : Act} (h : St σ S H W B A a)
    {K : Act → World → Prop} {Q : Exit → Act → World → Prop} (hK : ∀ σ' S' a' W', St σ' S' H' W' B A' a' → Later σ S H.next W σ' S' H'.next W' → K a' W') :
    if Region.wanted o (yielded ops a.tmps) = true then o.wp P a W K Q else K (a.put o.dst undef) W := by
  rw [← wanted_eq h.act]
  unfold evOp at he
  cases hw : awanted ops.toList A o with
  | false =>
    rw [hw] at he
    simp only [cond_false, Option.bind_eq_some_iff] at he
    obtain ⟨A1, h1, h2⟩ := he
    injection h2 with h2
    injection h2 with h2 h3
    subst h2 h3
    rw [if_neg (by simp)]
    obtain ⟨p1, p2, p3⟩ := h.act.put undef_vr h1
    refine hK σ S _ W ⟨h.rep, h.free, h.base, p1, ?_⟩ h.refl
    rw [p2]
    cases o.dst <;> exact h.defs
  | true =>
    rw [hw] at he
    simp only [cond_true, Option.bind_eq_some_iff] at he
    obtain ⟨⟨r, H1⟩, h1, h2⟩ := he
    rw [if_pos rfl]
    obtain ⟨σ1, S1, W1, r1, k1, k2, k3, k4, k5⟩ := aop_sound hX h.rep (h.free _ (Nat.le_refl _)) h.base h.act.env h1
    have hfree1 := h.free.taken k5
    have hb1 : B ≤ W1.heap.size := Nat.le_trans h.base k3.size
    have hact1 := h.act.ext k3.ext
    have hdef1 := h.defs.ext k3.ext
    have hl1 : Later σ S H.next W σ1 S1 H1.next W1 := ⟨k3, k5⟩
    unfold Oper.wp
    rw [k1]
    cases r with
    | value v =>
      simp only [Option.bind_eq_some_iff] at h2
      obtain ⟨A2, h3, h4⟩ := h2
      injection h4 with h4
      injection h4 with h4 h5
      subst h4 h5
      cases r1 <;> simp only [NR] at k4
      rename_i v'
      obtain ⟨p1, p2, p3⟩ := hact1.put k4 h3
      rw [Oper.upon_value]
      refine hK σ1 S1 _ W1 ⟨k2, hfree1, hb1, p1, ?_⟩ hl1
      rw [p2]
      cases o.dst <;> exact hdef1
    | skip =>
      simp only [Option.bind_eq_some_iff] at h2
      obtain ⟨A2, h3, h4⟩ := h2
      injection h4 with h4
      injection h4 with h4 h5
      subst h4 h5
      cases r1 <;> simp only [NR] at k4
      obtain ⟨p1, p2, p3⟩ := hact1.put undef_vr h3
      rw [Oper.upon_skip]
      refine hK σ1 S1 _ W1 ⟨k2, hfree1, hb1, p1, ?_⟩ hl1
      rw [p2]
      cases o.dst <;> exact hdef1
    | enter f args =>
      simp only [Option.bind_eq_some_iff] at h2
      obtain ⟨⟨v, H2⟩, h3, A2, h4, h5⟩ := h2
      injection h5 with h5
      injection h5 with h5 h6
      subst h5 h6
      cases r1 <;> simp only [NR] at k4
      rename_i f' args'
      obtain ⟨rfl, hargs⟩ := k4
      rw [Oper.upon_enter]
      refine (hcall f args H1 v H2 h3 σ1 S1 W1 B args' k2 hfree1 hb1 hargs).mono ?_
      rintro e W2 ⟨σ2, S2, v', rfl, q1, q2, q3⟩
      have hact2 := hact1.ext q3.evo.ext
      obtain ⟨p1, p2, p3⟩ := hact2.put q1 h4
      refine hK σ2 S2 _ W2 ⟨q2, hfree1.taken q3.taken, Nat.le_trans hb1 q3.evo.size, p1, ?_⟩ (hl1.trans q3)
      rw [p2]
      have := hdef1.ext q3.evo.ext
      cases o.dst <;> exact this
    | defer f cap args =>
      simp only [Option.bind_eq_some_iff] at h2
      obtain ⟨A2, h3, h4⟩ := h2
      injection h4 with h4
      injection h4 with h4 h5
      subst h4 h5
      cases r1 <;> simp only [NR] at k4
      rename_i d
      obtain ⟨cap', q1, q2, q3⟩ := k4
      rw [Oper.upon_defer]
      have hact2 : ActR σ1 S1 ⟨A.tmps, A.n, ⟨f, cap, args⟩ :: A.defers⟩ { a with defers := d :: a.defers } := ⟨hact1.size, hact1.at_⟩
      obtain ⟨p1, p2, p3⟩ := hact2.put undef_vr h3
      refine hK σ1 S1 _ W1 ⟨k2, hfree1, hb1, p1, ?_⟩ hl1
      rw [p2]
      have hd : DRs σ1 S1 (⟨f, cap, args⟩ :: A.defers) (d :: a.defers) := .cons _ _ _ _ cap' q1 q2 q3 hdef1
      cases o.dst <;> exact hd
theorem evOps_wp (hX : TabOk P X) {call : ACall} (hcall : CallOk P call) {ops : Array Oper} {B : Nat} {Q : Exit → Act → World → Prop} : ∀ (l : List Oper) (k : Nat) (A : AAct) (H : AH) (A' : AAct) (H' : AH) (σ : Ren) (S : Ids) (W : World) (a : Act), (∀ j, l[j]? = ops[k + j]?) → evOps P X call ops.toList l A H = some (A', H') → St σ S H W B A a →
    (∀ σ' S' a' W', St σ' S' H' W' B A' a' → Later σ S H.next W σ' S' H'.next W' → Q .normal a' W') → wpOps P ops Q (List.range' k l.length) a W
  | [], k, A, H, A', H', σ, S, W, a, _, he, h, hQ => by
    simp only [evOps] at he
    injection he with he
    injection he with he he2
    subst he he2
    exact hQ σ S a W h h.refl
  | o :: l, k, A, H, A', H', σ, S, W, a, hl, he, h, hQ => by
    simp only [evOps] at he
    split at he
    case h_2 => cases he
    rename_i A1 H1 h1
    have h0 : ops[k]? = some o := by simpa using (hl 0).symm
    simp only [List.length_cons, List.range'_succ, wpOps, h0]
    have := evOp_wp hX hcall h1 h (K := wpOps P ops Q (List.range' (k + 1) l.length)) (Q := Q) fun σ' S' a' W' hst hlat =>
      evOps_wp hX hcall l (k + 1) A1 H1 A' H' σ' S' W' a' (fun j => by have := hl (j + 1); simpa [Nat.add_assoc, Nat.add_comm 1 j] using this) he hst fun σ2 S2 a2 W2 hst2 hlat2 => hQ σ2 S2 a2 W2 hst2 (hlat.trans hlat2)
    split at this
    · rename_i hw
      rw [if_pos hw]
      exact .inl this
    · rename_i hw
      rw [if_neg hw]
      exact this
end
end
end Go.Proofs.YtfnamalajmfjbaaGreatDoor.Ev
