/- Code and calls: the evaluator stands for the real run. -/
import Derived.Test.YtfnamalajmfjbaaGreatDoorEvSound3
set_option linter.unusedVariables false
set_option linter.unusedSimpArgs false
namespace Go.Proofs.YtfnamalajmfjbaaGreatDoor.Ev
noncomputable section
section
variable {P : Program} {X : Tab}
def toExit : AExit → Exit
  | .normal => .normal
  | .exit id => .exit id
  | .ret => .ret
/-- a loop that is entered, or goes on -/
def LoopWp (P : Program) (c : Code) (Q : Exit → Act → World → Prop) (a : Act) (w : World) : Prop :=
  ∀ (b : Frame) (k : List Item) (cs : List Frame), ∃ e a' w', Q e a' w' ∧ Arrives P (lone (b.at a (.code c :: .inLoop c :: k)) cs w) b k cs e a' w'
theorem wp_of_loop {c : Code} {Q : Exit → Act → World → Prop} {a : Act} {w : World} (h : LoopWp P c Q a w) : (Code.loop c).wp P Q a w := by
  intro b k cs
  obtain ⟨e, a', w', hq, harr⟩ := h b k cs
  exact ⟨e, a', w', hq, .of_steps (.one step_loop) harr⟩
theorem loop_round {c : Code} {Q : Exit → Act → World → Prop} {a : Act} {w : World} (h : c.wp P (Exit.then (LoopWp P c Q) Q) a w) : LoopWp P c Q a w := by
  intro b k cs
  obtain ⟨e, a₁, w₁, hq, harr⟩ := h b (.inLoop c :: k) cs
  cases e with
  | normal =>
    obtain ⟨e₂, a₂, w₂, hq₂, harr₂⟩ := hq b k cs
    exact ⟨e₂, a₂, w₂, hq₂, .of_steps (Steps.trans harr (.one step_inLoop)) harr₂⟩
  | exit id => exact ⟨_, a₁, w₁, hq, .pass (x := .inLoop c) rfl (fun _ _ => .inl (by simp)) harr⟩
  | goto l => exact ⟨_, a₁, w₁, hq, .pass (x := .inLoop c) rfl (fun _ _ => .inl (by simp)) harr⟩
  | ret => exact ⟨_, a₁, w₁, hq, .pass (x := .inLoop c) rfl (fun _ _ => .inl (by simp)) harr⟩
  | panic ch => exact ⟨_, a₁, w₁, hq, .pass (x := .inLoop c) rfl (fun _ _ => .inl (by simp)) harr⟩
  | outgrown => exact ⟨_, a₁, w₁, hq, .pass (x := .inLoop c) rfl (fun _ _ => .inl (by simp)) harr⟩
/-- what is asked of what follows -/
def Post (H0 : AH) (σ : Ren) (S : Ids) (W : World) (B : Nat) (x : AExit) (A' : AAct) (H' : AH) (Q : Exit → Act → World → Prop) : Prop :=
  ∀ σ' S' a' W', St σ' S' H' W' B A' a' → Later σ S H0.next W σ' S' H'.next W' → Q (toExit x) a' W'
theorem cond_eval {σ : Ren} {S : Ids} {A : AAct} {a : Act} (h : ActR σ S A a) {b : Operand} {t : Bool} (he : A.env b = some (.bool t)) : a.eval b = .bool t := by
  have := h.env b _ he
  generalize a.eval b = u at this
  cases this
  rfl
def DrawOk (P : Program) (X : Tab) (call : ACall) : Prop := ∀ (ops : Array Oper) (A : AAct) (H : AH) (A' : AAct) (H' : AH), evDraw P X call ops A H = some (A', H') → ∀ (σ : Ren) (S : Ids) (W : World) (B : Nat) (a : Act) (id : Nat) (Q : Exit → Act → World → Prop), St σ S H W B A a →
  Post H σ S W B .normal A' H' Q → (Code.region id ops true).wp P Q a W
theorem Post.later {H0 H1 : AH} {σ σ1 : Ren} {S S1 : Ids} {W W1 : World} {B : Nat} {x : AExit} {A' : AAct} {H' : AH} {Q : Exit → Act → World → Prop} (h : Post H0 σ S W B x A' H' Q) (l : Later σ S H0.next W σ1 S1 H1.next W1) : Post H1 σ1 S1 W1 B x A' H' Q :=
  fun σ' S' a' W' hst hl => h σ' S' a' W' hst (l.trans hl)
theorem evCode_wp (hX : TabOk P X) {call : ACall} (hcall : CallOk P call) (hdraw : DrawOk P X call) : ∀ n : Nat,
    (∀ (c : Code) (A : AAct) (H : AH) (x : AExit) (A' : AAct) (H' : AH), evCode P X call n c A H = some (x, A', H') → ∀ (σ : Ren) (S : Ids) (W : World) (B : Nat) (a : Act) (Q : Exit → Act → World → Prop), St σ S H W B A a → Post H σ S W B x A' H' Q → c.wp P Q a W) ∧
    (∀ (c : Code) (A : AAct) (H : AH) (x : AExit) (A' : AAct) (H' : AH), evCode P X call n (.loop c) A H = some (x, A', H') → ∀ (σ : Ren) (S : Ids) (W : World) (B : Nat) (a : Act) (Q : Exit → Act → World → Prop), St σ S H W B A a → Post H σ S W B x A' H' Q → LoopWp P c Q a W) := by
  intro n
  induction n with
  | zero => exact ⟨fun c A H x A' H' he => by simp [evCode] at he, fun c A H x A' H' he => by simp [evCode] at he⟩
  | succ n ih =>
    obtain ⟨ih1, ih2⟩ := ih
    have loop : ∀ (c : Code) (A : AAct) (H : AH) (x : AExit) (A' : AAct) (H' : AH), evCode P X call (n + 1) (.loop c) A H = some (x, A', H') → ∀ (σ : Ren) (S : Ids) (W : World) (B : Nat) (a : Act) (Q : Exit → Act → World → Prop), St σ S H W B A a → Post H σ S W B x A' H' Q → LoopWp P c Q a W := by
      intro c A H x A' H' he σ S W B a Q h hQ
      simp only [evCode] at he
      refine loop_round ?_
      split at he
      · rename_i A1 H1 h1
        exact ih1 c A H .normal A1 H1 h1 σ S W B a _ h fun σ' S' a' W' hst hl => ih2 c A1 H1 x A' H' he σ' S' W' B a' Q hst (hQ.later hl)
      · rename_i r hr
        refine ih1 c A H x A' H' he σ S W B a _ h fun σ' S' a' W' hst hl => ?_
        have := hQ σ' S' a' W' hst hl
        cases x with
        | normal => exact (hr A' H' he).elim
        | exit id => exact this
        | ret => exact this
    refine ⟨?_, loop⟩
    intro c A H x A' H' he σ S W B a Q h hQ
    cases c with
    | skip =>
      simp only [evCode] at he
      injection he with he
      injection he with h1 h2
      injection h2 with h2 h3
      subst h1 h2 h3
      exact wp_skip (hQ σ S a W h h.refl)
    | label l =>
      simp only [evCode] at he
      injection he with he
      injection he with h1 h2
      injection h2 with h2 h3
      subst h1 h2 h3
      exact wp_label (hQ σ S a W h h.refl)
    | exit id =>
      simp only [evCode] at he
      injection he with he
      injection he with h1 h2
      injection h2 with h2 h3
      subst h1 h2 h3
      exact wp_exit (hQ σ S a W h h.refl)
    | ret =>
      simp only [evCode] at he
      injection he with he
      injection he with h1 h2
      injection h2 with h2 h3
      subst h1 h2 h3
      exact wp_ret (hQ σ S a W h h.refl)
    | region id ops draw =>
      simp only [evCode] at he
      split at he
      case h_2 => cases he
      rename_i A1 H1 h1
      injection he with he
      injection he with h2 h3
      injection h3 with h3 h4
      subst h2 h3 h4
      cases draw with
      | true => exact hdraw ops A H A1 H1 h1 σ S W B a id Q h hQ
      | false =>
        refine wp_region ?_
        rw [List.range_eq_range']
        have := evOps_wp hX hcall (ops := ops) (B := B) (Q := Q) ops.toList 0 A H A1 H1 σ S W a (by simp) h1 h hQ
        simpa using this
    | seq y z =>
      simp only [evCode] at he
      refine wp_seq ?_
      split at he
      · rename_i A1 H1 h1
        exact ih1 y A H .normal A1 H1 h1 σ S W B a _ h fun σ' S' a' W' hst hl => ih1 z A1 H1 x A' H' he σ' S' W' B a' Q hst (hQ.later hl)
      · rename_i r hr
        refine ih1 y A H x A' H' he σ S W B a _ h fun σ' S' a' W' hst hl => ?_
        have := hQ σ' S' a' W' hst hl
        cases x with
        | normal => exact (hr A' H' he).elim
        | exit id => exact this
        | ret => exact this
    | cond b y z =>
      simp only [evCode] at he
      split at he
      · rename_i hb
        exact wp_cond_true (cond_eval h.act hb) (ih1 y A H x A' H' he σ S W B a Q h hQ)
      · rename_i hb
        exact wp_cond_false (cond_eval h.act hb) (ih1 z A H x A' H' he σ S W B a Q h hQ)
      · cases he
    | block id y =>
      simp only [evCode] at he
      refine wp_block ?_
      split at he
      · rename_i id' A1 H1 h1
        refine ih1 y A H _ A1 H1 h1 σ S W B a _ h fun σ' S' a' W' hst hl => ?_
        cases hc : Nat.beq id' id with
        | true =>
          rw [hc] at he
          simp only [cond_true] at he
          injection he with he
          injection he with h2 h3
          injection h3 with h3 h4
          subst h2 h3 h4
          have hid : id' = id := by simpa using hc
          simp only [toExit, Exit.inBlock, hid, if_true]
          exact hQ σ' S' a' W' hst hl
        | false =>
          rw [hc] at he
          simp only [cond_false] at he
          injection he with he
          injection he with h2 h3
          injection h3 with h3 h4
          subst h2 h3 h4
          have hid : ¬ id' = id := by intro e; rw [e] at hc; simp at hc
          simp only [toExit, Exit.inBlock, hid, if_false]
          exact hQ σ' S' a' W' hst hl
      · rename_i r hr
        refine ih1 y A H x A' H' he σ S W B a _ h fun σ' S' a' W' hst hl => ?_
        have := hQ σ' S' a' W' hst hl
        cases x with
        | normal => exact this
        | exit id' => exact (hr id' A' H' he).elim
        | ret => exact this
    | loop y => exact wp_of_loop (loop y A H x A' H' he σ S W B a Q h hQ)
    | rangeFunc f ps as b => simp [evCode] at he
    | scope b => simp [evCode] at he
    | goto l => simp [evCode] at he
    | refuse w => simp [evCode] at he
end
end
end Go.Proofs.YtfnamalajmfjbaaGreatDoor.Ev
