/- A range over a function: the evaluator stands for the real run, where each round ends normally. -/
import Derived.Test.YtbjmakigdglghaaGreatDoorEvF
import Derived.RangeFuncLeaves
import Derived.RangeFuncRecord
import Derived.RangeFuncOwn
set_option linter.unusedVariables false
set_option linter.unusedSimpArgs false
set_option linter.unusedSectionVars false
namespace Go.Proofs.YtbjmakigdglghaaGreatDoor.Ev
noncomputable section
variable [Laid]
open Go.RowKit
def setPs : List Tmp → List Value → AAct → Option AAct
  | [], [], A => some A
  | p :: ps, v :: vs, A => cond (flatF 8 v) ((A.put (some p) v).bind fun A1 => setPs ps vs A1) none
  | _, _, _ => none
/-- the rounds: the memory behind each -/
def evRounds (P : Program) (X : Tab) (call : ACall) (lf : Nat) (ps : List Tmp) (as body : Code) (A : AAct) (kp : AH → Bool) : List (List Value) → AH → Option (List AH)
  | [], H => cond (kp H) (some [H]) none
  | x :: l, H => cond (kp H) ((setPs ps x ⟨A.tmps, A.n, []⟩).bind fun A0 => match evCode P X call lf as A0 H with
    | some (.normal, A1, H1) => (match A1.defers with
      | [] => (match evCode P X call lf body A1 H1 with
        | some (.normal, _, H2) => (evRounds P X call lf ps as body A kp l H2).bind fun r => some (H :: r)
        | _ => none)
      | _ => none)
    | _ => none) none
def strAt (H : AH) (id off : Nat) (text : ByteArray) : Bool := match H.get id with
  | some (.cells cs _ none) => (match cs[off]? with
    | some (.string s) => bytesEq s text
    | _ => false)
  | _ => false
def lastH : List AH → Option AH
  | [] => none
  | [H] => some H
  | _ :: l => lastH l
/-- iterators that read one text which they hold -/
abbrev AIter := FuncId → Option (ByteArray → List (List Value))
def evRange (P : Program) (X : Tab) (call : ACall) (it : AIter) (lf : Nat) (g : Operand) (ps : List Tmp) (as body : Code) (A : AAct) (H : AH) : Option AH :=
  (A.env g).bind fun gv => match gv with
  | .func (.func gf) first cap => match first.toList, cap.toList with
    | [], [.pointer (some ⟨id, off, none⟩)] => (it gf).bind fun F => (X.fn gf).bind fun _ => match H.get id with
      | some (.cells cs _ none) => (match cs[off]? with
        | some (.string text) => cond (nd as && nd body && Nat.ble text.size 1000000000) ((evRounds P X call lf ps as body A (fun H => strAt H id off text) (F text) H).bind lastH) none
        | _ => none)
      | _ => none
    | _, _ => none
  | _ => none
def evCodeR (P : Program) (X : Tab) (call : ACall) (it : AIter) (lf : Nat) : Nat → Code → AAct → AH → Option (AExit × AAct × AH)
  | 0, _, _, _ => none
  | n + 1, c, a, H => match c with
    | .seq x y => match evCodeR P X call it lf n x a H with
      | some (.normal, a', H') => evCodeR P X call it lf n y a' H'
      | r => r
    | .rangeFunc g ps as body => (evRange P X call it lf g ps.toList as body a H).bind fun H' => some (.normal, a, H')
    | .block id x => match evCodeR P X call it lf n x a H with
      | some (.exit id', a', H') => cond (Nat.beq id' id) (some (.normal, a', H')) (some (.exit id', a', H'))
      | r => r
    | c => match evCode P X call n c a H with
      | some (x, a', H') => (match a'.defers with
        | [] => some (x, a', H')
        | _ => none)
      | none => none
/-- an iterator goes over these -/
def Runs (P : Program) (gf : FuncId) (cap : Array Value) (keep : World → Prop) (ls : List (Array Value)) : Prop :=
  ∀ (n l : Nat) (J : Nat → World → Prop) (W : World), (∀ k A A', J k A → Below A.heap.size A A' → J k A') → (∀ k A, J k A → keep A) →
    (∀ k x A, ls[k]? = some x → J k A → YieldAt (WF none) (n - 1) P l x A fun e A' => e = .returned (.bool true) ∧ J (k + 1) A') → J 0 W →
    CallsIn (WF none) n P gf (#[.func (.yield l) #[] #[]] ++ cap) W fun e A' => (∃ v, e = .returned v) ∧ J ls.length A'
def ItOk (P : Program) (it : AIter) : Prop := ∀ gf F, it gf = some F → ∀ (text : ByteArray) (p : Addr), text.size ≤ 1000000000 → Runs P gf #[.pointer (some p)] (fun A => A.cell? p = some (.string text)) ((F text).map List.toArray)
section
variable {P : Program} {X : Tab} {σ : Ren} {S : Ids} {H : AH} {W : World} {B : Nat}
theorem not_image (h : Rep σ S H W B) {l : Nat} {o : Obj} (hl : W.heap[l]? = some o) (ho : (match o with | .cells .. => false | .map .. => false | .stringIter .. => false | .mapIter .. => false | _ => true) = true) : ∀ id i, σ id = some i → i.blk ≠ l := by
  rintro id i e rfl
  obtain ⟨o', _, h2, _⟩ := h.at_ e
  cases o' <;> simp only [ORel] at h2
  · obtain ⟨c', lo, hi, h1, _⟩ := h2
    rw [hl] at h1
    injection h1 with h1
    subst h1
    simp at ho
  · obtain ⟨c', h1, _⟩ := h2
    rw [hl] at h1
    injection h1 with h1
    subst h1
    simp at ho
  · obtain ⟨c', lo, hi, tot, h1, _⟩ := h2
    rw [hl] at h1
    injection h1 with h1
    subst h1
    simp at ho
  · rw [hl] at h2
    obtain ⟨h1, _⟩ := h2
    injection h1 with h1
    subst h1
    simp at ho
  · obtain ⟨m', h1, _⟩ := h2
    rw [hl] at h1
    injection h1 with h1
    subst h1
    simp at ho
theorem ORel.same_ {i : Inf} {o : AObj} {W' : World} (h : ORel σ S W i o) (hb : W'.heap[i.blk]? = W.heap[i.blk]?) : ORel σ S W' i o := h.same hb
theorem LowOk.putObj {W : World} {B : Nat} (h : LowOk W B) {l : Nat} {o o' : Obj} (hl : W.heap[l]? = some o) (ho : (match o with | .cells .. => false | .map .. => false | .stringIter .. => false | .mapIter .. => false | _ => true) = true) : LowOk (W.putObj l o') B := by
  intro x m
  refine ⟨(h x m).1, ?_⟩
  have h1 := (h x m).2
  refine (World.putObj_heap_other fun e => ?_).trans h1
  rw [e] at h1
  rw [hl] at h1
  injection h1 with h1
  subst h1
  cases ho
/-- a block of another kind is turned -/
theorem Rep.putObj (h : Rep σ S H W B) {l : Nat} {r r' : Loop} (hl : W.heap[l]? = some (.loop r)) : Rep σ S H (W.putObj l (.loop r')) B := by
  refine ⟨fun id o hg => ?_, h.dead, h.inj, h.low.putObj hl rfl⟩
  obtain ⟨h1, i, h2, h3, h4⟩ := h.live id o hg
  refine ⟨h1, i, h2, h3.same ?_, h4⟩
  exact World.putObj_heap_other (not_image h hl rfl id i h2)
theorem Evo.putObj {σ' : Ren} {S' : Ids} {W' : World} (h : Evo σ S W σ' S' W') {l : Nat} (o : Obj) (hl : W.heap.size ≤ l) : Evo σ S W σ' S' (W'.putObj l o) :=
  ⟨h.ext, h.new, by simpa using h.size, fun b hb hf => (World.putObj_heap_other (by omega)).trans (h.frame b hb hf), h.os, h.tape, h.output⟩
theorem Evo.below {σ' : Ren} {S' : Ids} {W' W'' : World} (h : Evo σ S W σ' S' W') (k : Below W'.heap.size W' W'') : Evo σ S W σ' S' W'' :=
  ⟨h.ext, h.new, Nat.le_trans h.size k.size, fun b hb hf => (k.block b (Nat.lt_of_lt_of_le hb h.size)).trans (h.frame b hb hf), k.os.trans h.os, k.tape.trans h.tape, k.output.trans h.output⟩
theorem setPs_sound : ∀ (ps : List Tmp) (vs : List Value) (A A' : AAct) (a : Act), setPs ps vs A = some A' → ActR σ S A a → a.defers = [] →
    ActR σ S A' { tmps := (ps.zip vs).foldl (fun t (p, v) => t.setIfInBounds p v) a.tmps, defers := [] } ∧ A'.defers = A.defers ∧ ps.length = vs.length
  | [], [], A, A', a, h, ha, hd => by
    simp only [setPs] at h
    injection h with h
    subst h
    exact ⟨⟨ha.size, ha.at_⟩, rfl, rfl⟩
  | p :: ps, v :: vs, A, A', a, h, ha, hd => by
    simp only [setPs] at h
    cases hf : flatF 8 v with
    | false => rw [hf] at h; cases h
    | true =>
      rw [hf] at h
      simp only [cond_true, Option.bind_eq_some_iff] at h
      obtain ⟨A1, h1, h2⟩ := h
      obtain ⟨q1, q2, q3⟩ := ha.put (VR.flat 8 v hf) h1
      obtain ⟨r1, r2, r3⟩ := setPs_sound ps vs A1 A' (a.put (some p) v) h2 q1 (by simpa [Act.put] using hd)
      exact ⟨by simpa [Act.put] using r1, r2.trans q2, by simp [r3]⟩
  | [], _ :: _, _, _, _, h, _, _ => by simp [setPs] at h
  | _ :: _, [], _, _, _, h, _, _ => by simp [setPs] at h
theorem evRounds_spec {call : ACall} {lf : Nat} {ps : List Tmp} {as body : Code} {A : AAct} {kp : AH → Bool} : ∀ (ls : List (List Value)) (H : AH) (hs : List AH), evRounds P X call lf ps as body A kp ls H = some hs →
    hs[0]? = some H ∧ hs[ls.length]? = lastH hs ∧ (∃ Hl, lastH hs = some Hl) ∧ (∀ (k : Nat) (Hk : AH), hs[k]? = some Hk → kp Hk = true) ∧ ∀ (k : Nat) (x : List Value), ls[k]? = some x → ∃ Hk Hk1 A0 A1 H1 A2, hs[k]? = some Hk ∧ hs[k + 1]? = some Hk1 ∧ setPs ps x ⟨A.tmps, A.n, []⟩ = some A0 ∧
      evCode P X call lf as A0 Hk = some (.normal, A1, H1) ∧ A1.defers = [] ∧ evCode P X call lf body A1 H1 = some (.normal, A2, Hk1)
  | [], H, hs, h => by
    simp only [evRounds] at h
    cases hk : kp H with
    | false => rw [hk] at h; cases h
    | true =>
      rw [hk] at h
      simp only [cond_true] at h
      injection h with h
      subst h
      refine ⟨rfl, rfl, ⟨H, rfl⟩, fun k Hk e => ?_, fun k x e => by simp at e⟩
      cases k with
      | zero => injection e with e; subst e; exact hk
      | succ k => simp at e
  | x :: ls, H, hs, h => by
    simp only [evRounds] at h
    cases hk : kp H with
    | false => rw [hk] at h; cases h
    | true =>
      rw [hk] at h
      simp only [cond_true, Option.bind_eq_some_iff] at h
      obtain ⟨A0, h1, h2⟩ := h
      split at h2
      case h_2 => cases h2
      rename_i A1 H1 e1
      split at h2
      case h_2 => cases h2
      rename_i hd
      split at h2
      case h_2 => cases h2
      rename_i A2 H2 e2
      rw [Option.bind_eq_some_iff] at h2
      obtain ⟨r, h3, h4⟩ := h2
      injection h4 with h4
      subst h4
      obtain ⟨g1, g2, ⟨Hl, g3⟩, g4, g5⟩ := evRounds_spec ls H2 r h3
      have hr : lastH (H :: r) = lastH r := by
        cases r with
        | nil => simp at g1
        | cons y r => rfl
      refine ⟨rfl, by rw [hr]; simpa using g2, ⟨Hl, by rw [hr]; exact g3⟩, fun k Hk e => ?_, fun k y e => ?_⟩
      · cases k with
        | zero => injection e with e; subst e; exact hk
        | succ k => exact g4 k Hk (by simpa using e)
      · cases k with
        | zero =>
          injection e with e
          subst e
          exact ⟨H, H2, A0, A1, H1, A2, rfl, by simpa using g1, h1, e1, hd, e2⟩
        | succ k =>
          obtain ⟨Hk, Hk1, B0, B1, K1, B2, q1, q2, q3⟩ := g5 k y (by simpa using e)
          exact ⟨Hk, Hk1, B0, B1, K1, B2, by simpa using q1, by simpa using q2, q3⟩
/-- between two rounds -/
def JR (hs : List AH) (rec : LoopState → Loop) (σ0 : Ren) (S0 : Ids) (n0 : Nat) (W0 : World) (A : AAct) (a : Act) (B l D : Nat) (k : Nat) (Wc : World) : Prop :=
  ∃ Hk σ' S', hs[k]? = some Hk ∧ Rep σ' S' Hk Wc B ∧ Free S' Hk.next ∧ B ≤ Wc.heap.size ∧ ActR σ' S' A a ∧ Later σ0 S0 n0 W0 σ' S' Hk.next Wc ∧ Wc.heap[l]? = some (.loop (rec .ready)) ∧ Wc.heap[D]? = some (.deferred (some []))
theorem evRange_wp (hX : TabOk P X) {call : ACall} (hcall : CallOk P call) (hdraw : DrawOk P X call) {it : AIter} (hit : ItOk P it) {lf : Nat} {g : Operand} {ps : Array Tmp} {as body : Code} {A : AAct} {H' : AH} (he : evRange P X call it lf g ps.toList as body A H = some H')
    {tl : List Deferred} {a : Act} (h : St tl σ S H W B A a) {n : Nat} {Q : Exit → Act → World → Prop}
    (hQ : ∀ D σ' S' W', W.heap.size ≤ D → W'.heap[D]? = some (.deferred (some [])) → St ({ target := .collected D, args := #[] } :: tl) σ' S' H' W' B ⟨A.tmps, A.n, A.defers⟩ { a with defers := { target := .collected D, args := #[] } :: a.defers } → Later σ S H.next W σ' S' H'.next W' → Q .normal { a with defers := { target := .collected D, args := #[] } :: a.defers } W') (hnd : A.defers = []) :
    (Code.rangeFunc g ps as body).wpIn (WF none) n P Q a W := by
  unfold evRange at he
  rw [Option.bind_eq_some_iff] at he
  obtain ⟨gv, hg, he⟩ := he
  split at he
  case h_2 => cases he
  rename_i gf first cap
  split at he
  case h_2 => cases he
  rename_i id off hfirst hcap
  simp only [Option.bind_eq_some_iff] at he
  obtain ⟨F, hF, fn0, hfn0, he⟩ := he
  split at he
  case h_2 => cases he
  rename_i cs el hcs
  split at he
  case h_2 => cases he
  rename_i text htext
  cases hnds : (nd as && nd body && Nat.ble text.size 1000000000) with
  | false => rw [hnds] at he; cases he
  | true =>
    rw [hnds] at he
    simp only [cond_true, Option.bind_eq_some_iff] at he
    obtain ⟨hs, hrs, hlast⟩ := he
    obtain ⟨hs0, hsl, _, hkp, hround⟩ := evRounds_spec (F text) H hs hrs
    rw [hlast] at hsl
    obtain ⟨hnd12, htsz⟩ := Bool.and_eq_true_iff.1 hnds
    obtain ⟨hnd1, hnd2⟩ := Bool.and_eq_true_iff.1 hnd12
    -- the function's value
    have hv := h.act.env g _ hg
    obtain ⟨cap', hgv, hcap'⟩ : ∃ cap', a.eval g = .func (.func gf) #[] cap' ∧ VRs σ S cap.toList cap'.toList := by
      generalize a.eval g = u at hv
      cases hv with
      | func _ _ first' _ cap' h1 h2 =>
        rw [hfirst] at h1
        have : first'.toList = [] := by cases hq : first'.toList with
          | nil => rfl
          | cons y l => rw [hq] at h1; cases h1
        have : first' = #[] := by simpa using this
        subst this
        exact ⟨cap', rfl, h2⟩
    obtain ⟨i, hsi, hOR, hBi⟩ : ∃ i, σ id = some i ∧ ORel σ S W i (.cells cs el none) ∧ B ≤ i.blk := by
      obtain ⟨_, i, h2, h3, h4⟩ := h.rep.live id _ hcs
      exact ⟨i, h2, h3, h4⟩
    obtain ⟨p, hp1, hp2⟩ : ∃ p : Addr, cap' = #[.pointer (some p)] ∧ p = ⟨i.blk, i.base + off, none⟩ := by
      rw [hcap] at hcap'
      cases hq : cap'.toList with
      | nil => rw [hq] at hcap'; cases hcap'
      | cons y l =>
        rw [hq] at hcap'
        cases hcap' with
        | cons _ _ _ _ h1 h2 =>
          cases h2
          cases h1 with
          | ptr b o a' hb hh =>
            refine ⟨a', ?_, hh i hsi⟩
            have := congrArg List.toArray hq
            simpa using this
    subst hp1
    -- where the text lies, at whatever moment
    have hkeep : ∀ (k : Nat) (Hk : AH) (σ' : Ren) (S' : Ids) (Wc : World), hs[k]? = some Hk → Rep σ' S' Hk Wc B → Ext σ S σ' S' → Wc.cell? p = some (.string text) := by
      intro k Hk σ' S' Wc e hr hx
      have hk := hkp k Hk e
      unfold strAt at hk
      split at hk
      case h_2 => cases hk
      rename_i cs' el' hc'
      split at hk
      case h_2 => cases hk
      rename_i s hs'
      have hst := bytesEq_eq hk
      subst hst
      obtain ⟨_, i', h2, h3, _⟩ := hr.live id _ hc'
      have hSid : S id := (h.rep.live id _ hcs).1
      have hi' : i' = i := by
        have := hx.old id i' hSid h2
        rw [hsi] at this
        injection this with this
        exact this.symm
      subst hi'
      obtain ⟨c', lo, hi, k1, k2, _⟩ := h3
      obtain ⟨v', k3, k4⟩ := k2 off _ hs'
      cases k4
      subst hp2
      rw [cell_of_row Wc i'.blk (i'.base + off) c' el' (lo, hi) k1]
      exact k3
    refine wpIn_rangeFunc ?_
    intro fn hfn
    show ∃ l mark w₁ d w₁' f args w₂, _
    obtain ⟨rec, hrec⟩ : ∃ rec : LoopState → Option Code → Loop, rec = fun st pe => { state := st, pending := pe, fn, tmps := a.tmps, params := ps, assign := as, body, defers := W.heap.size } := ⟨_, rfl⟩
    obtain ⟨W1, hW1⟩ : ∃ W1, (W.alloc (.deferred (some []))).alloc (.loop (rec .ready none)) = W1 := ⟨_, rfl⟩
    have hL1 : W1.heap[W.heap.size + 1]? = some (.loop (rec .ready none)) := by
      rw [← hW1]; have := World.alloc_heap_new (W.alloc (.deferred (some []))) (.loop (rec .ready none)); rwa [World.size_alloc] at this
    have hK1 : W1.heap[W.heap.size]? = some (.deferred (some [])) := by
      rw [← hW1]; exact (Below.heap_alloc _ _ _ (by simp)).trans (World.alloc_heap_new W _)
    have hb1 : Below W.heap.size W W1 := by
      rw [← hW1]; exact ((Below.refl _ W).alloc (Nat.le_refl _) _).alloc (by simp) _
    refine ⟨W.heap.size + 1, [{ target := .collected W.heap.size, args := #[] }], W1, { target := .fn (.func gf) #[.pointer (some p)], args := #[.func (.yield (W.heap.size + 1)) #[] #[]] }, W1, gf,
      #[.func (.yield (W.heap.size + 1)) #[] #[]] ++ #[.pointer (some p)], W1, ?_, ?_, ?_, ?_, fun h => by simp [WF, Fence.wide] at h, ?_⟩
    · rw [← hW1, hrec]; exact run_enterLoop_outer _ _ _ _ _
    · simp only [resolve, hgv]
      simp [go_sem]
    · intro f' _; trivial
    · have eg := (hX.fn gf fn0 hfn0).2
      simp [invoke, go_sem, eg]
    · have hJ0 : JR hs (fun st => rec st none) σ S H.next W A a B (W.heap.size + 1) W.heap.size 0 W1 :=
        ⟨H, σ, S, hs0, h.rep.world fun b hb => hb1.block b hb, h.free, Nat.le_trans h.base hb1.size, h.act, ⟨h.rep.refl.below hb1, Taken.refl _ _⟩, hL1, hK1⟩
      refine (hit gf F hF text p (Nat.le_of_ble_eq_true htsz) (n - 1) (W.heap.size + 1) (JR hs (fun st => rec st none) σ S H.next W A a B (W.heap.size + 1) W.heap.size) W1 ?_ ?_ ?_ hJ0).mono ?_
      · -- the iterator's own doing
        rintro k A1 A2 ⟨Hk, σ', S', q1, q2, q3, q4, q5, q6, q7, q8⟩ hb
        refine ⟨Hk, σ', S', q1, q2.world fun b hb' => hb.block b hb', q3, Nat.le_trans q4 hb.size, q5, ⟨q6.evo.below hb, q6.taken⟩, (hb.block _ (Array.getElem?_eq_some_iff.1 q7).1).trans q7, (hb.block _ (Array.getElem?_eq_some_iff.1 q8).1).trans q8⟩
      · rintro k A1 ⟨Hk, σ', S', q1, q2, q3, q4, q5, q6, q7, q8⟩
        exact hkeep k Hk σ' S' A1 q1 q2 q6.evo.ext
      · -- one round
        rintro k x Wk hx ⟨Hk, σ', S', q1, q2, q3, q4, q5, q6, q7, q8⟩
        rw [List.getElem?_map, Option.map_eq_some_iff] at hx
        obtain ⟨xl, hx1, rfl⟩ := hx
        obtain ⟨Hk', Hk1, A0, A1, H1, A2, r1, r2, r3, r4, r5, r6⟩ := hround k xl hx1
        rw [q1] at r1
        injection r1 with r1
        subst r1
        have hact0 : ActR σ' S' ⟨A.tmps, A.n, []⟩ { tmps := a.tmps, defers := [] } := ⟨q5.size, q5.at_⟩
        obtain ⟨p1, p2, p3⟩ := setPs_sound ps.toList xl _ A0 _ r3 hact0 rfl
        have hy := run_yield (P := P) (args := xl.toArray) q7 (by rw [hrec]; simpa using p3.symm)
        rw [hrec] at hy
        refine ⟨fn, _, as, body, hy, roundIn_of_wpIn trivial ?_⟩
        have htm : (ps.zip xl.toArray).foldl (fun tmps (t, a) => tmps.setIfInBounds t a) a.tmps = (ps.toList.zip xl).foldl (fun t (p, v) => t.setIfInBounds p v) a.tmps := by
          rw [← Array.foldl_toList]
          simp
        have hst0 : St [] σ' S' Hk Wk B A0 { tmps := (ps.zip xl.toArray).foldl (fun tmps (t, a) => tmps.setIfInBounds t a) a.tmps, defers := [] } := by
          rw [htm]
          exact ⟨q2, q3, q4, p1, by rw [p2]; exact .nil⟩
        have hlt : W.heap.size + 1 < Wk.heap.size := (Array.getElem?_eq_some_iff.1 q7).1
        show as.wpIn (WF (some (W.heap.size + 1))) (n - 1 - 1) P _ _ Wk
        refine (evCode_wpIn hX hcall hdraw (some (W.heap.size + 1)) (n - 1 - 1) lf).1 as A0 Hk .normal A1 H1 r4 (.inr hnd1) [] σ' S' Wk B _ _ hst0 fun σ1 S1 a1 Wa hst1 hl1 => ?_
        have hla : Wa.heap[W.heap.size + 1]? = some (.loop (rec .ready none)) := (hl1.evo.frame _ hlt (not_image q2 q7 rfl)).trans q7
        have hda : Wa.heap[W.heap.size]? = some (.deferred (some [])) := (hl1.evo.frame _ (by omega) (not_image q2 q8 rfl)).trans q8
        refine ⟨_, run_beginRound hla (by rw [hrec]), ?_⟩
        have hlt1 : W.heap.size + 1 < Wa.heap.size := (Array.getElem?_eq_some_iff.1 hla).1
        have hlb : (Wa.putObj (W.heap.size + 1) (.loop { rec .ready none with state := .busy })).heap[W.heap.size + 1]? = some (.loop { rec .ready none with state := .busy }) := World.putObj_heap_same hlt1
        have hdb : (Wa.putObj (W.heap.size + 1) (.loop { rec .ready none with state := .busy })).heap[W.heap.size]? = some (.deferred (some [])) := (World.putObj_heap_other (by omega)).trans hda
        have hst1' : St [] σ1 S1 H1 (Wa.putObj (W.heap.size + 1) (.loop { rec .ready none with state := .busy })) B A1 a1 :=
          ⟨hst1.rep.putObj hla, hst1.free, by simpa using hst1.base, hst1.act, hst1.defs⟩
        refine (evCode_wpIn hX hcall hdraw (some (W.heap.size + 1)) (n - 1 - 1) lf).1 body A1 H1 .normal A2 Hk1 r6 (.inr hnd2) [] σ1 S1 _ B _ _ hst1' fun σ2 S2 a2 Wb hst2 hl2 => ?_
        have hlc : Wb.heap[W.heap.size + 1]? = some (.loop { rec .ready none with state := .busy }) := (hl2.evo.frame _ (by simpa using hlt1) (not_image hst1'.rep hlb rfl)).trans hlb
        have hdc : Wb.heap[W.heap.size]? = some (.deferred (some [])) := (hl2.evo.frame _ (by simpa using (by omega : W.heap.size < Wa.heap.size)) (not_image hst1'.rep hdb rfl)).trans hdb
        have hend := run_endRound (P := P) none hlc
        refine ⟨_, _, hend, rfl, Hk1, σ2, S2, r2, hst2.rep.putObj hlc, hst2.free, by simpa using hst2.base, (q5.ext (hl1.evo.ext.trans hl2.evo.ext)), ?_, ?_, ?_⟩
        · exact ⟨((((q6.evo.trans hl1.evo).putObj _ (by omega)).trans hl2.evo).putObj _ (by omega)), (q6.taken.trans hl1.taken).trans hl2.taken⟩
        · rw [hrec]
          exact World.putObj_heap_same (Array.getElem?_eq_some_iff.1 hlc).1
        · exact (World.putObj_heap_other (by omega)).trans hdc
      · -- behind the iterator
        rintro e W2 ⟨⟨v, rfl⟩, Hk, σ', S', q1, q2, q3, q4, q5, q6, q7, q8⟩
        rw [List.length_map, hsl] at q1
        injection q1 with q1
        subst q1
        have hend := run_endLoop (P := P) q7 (by rw [hrec]; simp)
        refine ⟨none, _, by rw [hend, hrec], ?_⟩
        have hlt : W.heap.size + 1 < W2.heap.size := (Array.getElem?_eq_some_iff.1 q7).1
        refine hQ W.heap.size σ' S' _ (Nat.le_refl _) ((World.putObj_heap_other (by omega)).trans q8) ⟨q2.putObj q7, q3, by simpa using q4, ⟨q5.size, q5.at_⟩, ?_⟩ ⟨q6.evo.putObj _ (by omega), q6.taken⟩
        have hd := h.defs
        rw [hnd] at hd
        show DRs _ σ' S' A.defers _
        rw [hnd]
        generalize a.defers = ds at hd ⊢
        cases hd
        exact .nil
theorem Rep.putO (h : Rep σ S H W B) {l : Nat} {o o' : Obj} (hl : W.heap[l]? = some o) (ho : (match o with | .cells .. => false | .map .. => false | .stringIter .. => false | .mapIter .. => false | _ => true) = true) : Rep σ S H (W.putObj l o') B := by
  refine ⟨fun id o hg => ?_, h.dead, h.inj, h.low.putObj hl ho⟩
  obtain ⟨h1, i, h2, h3, h4⟩ := h.live id o hg
  exact ⟨h1, i, h2, h3.same (World.putObj_heap_other (not_image h hl ho id i h2)), h4⟩
/-- marks: blocks for the rounds' deferred calls, in which none are -/
def Marks (lo : Nat) (W : World) : List Deferred → Prop
  | [] => True
  | d :: l => (∃ D, d = { target := .collected D, args := #[] } ∧ lo ≤ D ∧ W.heap[D]? = some (.deferred (some [])) ∧ ∀ d' ∈ l, d' ≠ d) ∧ Marks lo W l
theorem Marks.keep {lo : Nat} {W' : World} {σ' : Ren} {S' : Ids} (h : Rep σ S H W B) (e : Evo σ S W σ' S' W') : ∀ {l : List Deferred}, Marks lo W l → Marks lo W' l
  | [], _ => trivial
  | d :: l, ⟨⟨D, h1, h0, h2, h4⟩, h3⟩ => ⟨⟨D, h1, h0, (e.frame D (Array.getElem?_eq_some_iff.1 h2).1 (not_image h h2 rfl)).trans h2, h4⟩, Marks.keep h e h3⟩
theorem Marks.lt {lo : Nat} : ∀ {l : List Deferred}, Marks lo W l → ∀ D, { target := .collected D, args := #[] } ∈ l → D < W.heap.size
  | d :: l, ⟨⟨D, h1, h0, h2, h4⟩, h3⟩, D', hm => by
    rcases List.mem_cons.1 hm with e | e
    · rw [h1] at e
      injection e with e _
      injection e with e
      subst e
      exact (Array.getElem?_eq_some_iff.1 h2).1
    · exact Marks.lt h3 D' e
theorem Marks.other {lo D : Nat} {o : Obj} : ∀ {l : List Deferred}, Marks lo W l → (∀ d' ∈ l, d' ≠ { target := .collected D, args := #[] }) → Marks lo (W.putObj D o) l
  | [], _, _ => trivial
  | d :: l, ⟨⟨D', h1, h0, h2, h4⟩, h3⟩, hne => ⟨⟨D', h1, h0, (World.putObj_heap_other (fun e => hne d (by simp) (by rw [h1, e]))).trans h2, h4⟩, Marks.other h3 fun d' hd' => hne d' (by simp [hd'])⟩
theorem evCodeR_wp (hX : TabOk P X) {call : ACall} (hcall : CallOk P call) (hdraw : DrawOk P X call) {it : AIter} (hit : ItOk P it) {lf : Nat} : ∀ (n : Nat) (c : Code) (A : AAct) (H : AH) (x : AExit) (A' : AAct) (H' : AH), evCodeR P X call it lf n c A H = some (x, A', H') → A.defers = [] →
    ∀ (tl : List Deferred) (σ : Ren) (S : Ids) (W : World) (B : Nat) (a : Act) (Q : Exit → Act → World → Prop), ∀ lo, lo ≤ W.heap.size → St tl σ S H W B A a → Marks lo W tl →
      (A'.defers = [] → ∀ tl' σ' S' a' W', Marks lo W' tl' → St tl' σ' S' H' W' B A' a' → Later σ S H.next W σ' S' H'.next W' → Q (toExit x) a' W') → c.wpIn (WF none) 0 P Q a W := by
  intro n
  induction n with
  | zero => intro c A H x A' H' he; simp [evCodeR] at he
  | succ n ih =>
    intro c A H x A' H' he hd tl σ S W B a Q lo hlo h hm hQ
    have plain : (match evCode P X call n c A H with
        | some (x, a', H') => (match a'.defers with
          | [] => some (x, a', H')
          | _ => none)
        | none => none) = some (x, A', H') → c.wpIn (WF none) 0 P Q a W := fun he => by
      split at he
      case h_2 => cases he
      rename_i x1 A1 H1 h1
      split at he
      case h_2 => cases he
      rename_i hd1
      injection he with he
      injection he with e1 e2
      injection e2 with e2 e3
      subst e1 e2 e3
      exact (evCode_wpIn hX hcall hdraw none 0 n).1 c A H x1 A1 H1 h1 (.inl rfl) tl σ S W B a Q h fun σ' S' a' W' hst hl => hQ hd1 tl σ' S' a' W' (hm.keep h.rep hl.evo) hst hl
    cases c with
    | seq y z =>
      simp only [evCodeR] at he
      refine wpIn_seq ?_
      split at he
      · rename_i A1 H1 h1
        refine ih y A H .normal A1 H1 h1 hd tl σ S W B a _ lo hlo h hm fun hd1 tl1 σ1 S1 a1 W1 hm1 hst1 hl1 => ?_
        exact ih z A1 H1 x A' H' he hd1 tl1 σ1 S1 W1 B a1 Q lo (Nat.le_trans hlo hl1.evo.size) hst1 hm1 fun hd2 tl2 σ2 S2 a2 W2 hm2 hst2 hl2 => hQ hd2 tl2 σ2 S2 a2 W2 hm2 hst2 (hl1.trans hl2)
      · rename_i r hr
        refine ih y A H x A' H' he hd tl σ S W B a _ lo hlo h hm fun hd1 tl1 σ1 S1 a1 W1 hm1 hst1 hl1 => ?_
        have := hQ hd1 tl1 σ1 S1 a1 W1 hm1 hst1 hl1
        cases x with
        | normal => exact (hr A' H' he).elim
        | exit id => exact this
        | ret => exact this
    | rangeFunc g ps as body =>
      simp only [evCodeR, Option.bind_eq_some_iff] at he
      obtain ⟨H1, h1, h2⟩ := he
      injection h2 with h2
      injection h2 with h2 h3
      injection h3 with h3 h4
      subst h2 h3 h4
      exact evRange_wp hX hcall hdraw hit h1 h (fun D σ' S' W' hlt hD hst hl => hQ hd ({ target := .collected D, args := #[] } :: tl) σ' S' _ W' ⟨⟨D, rfl, Nat.le_trans hlo hlt, hD, fun d' hd' e => by subst e; have := hm.lt D hd'; omega⟩, hm.keep h.rep hl.evo⟩ hst hl) hd
    | skip => exact plain (by simpa only [evCodeR] using he)
    | label l => exact plain (by simpa only [evCodeR] using he)
    | exit id => exact plain (by simpa only [evCodeR] using he)
    | ret => exact plain (by simpa only [evCodeR] using he)
    | region id ops draw => exact plain (by simpa only [evCodeR] using he)
    | cond b y z => exact plain (by simpa only [evCodeR] using he)
    | block id y =>
      simp only [evCodeR] at he
      refine wpIn_block ?_
      split at he
      · rename_i id' A1 H1 h1
        cases hc : Nat.beq id' id with
        | true =>
          rw [hc] at he
          simp only [cond_true] at he
          injection he with he
          injection he with h2 h3
          injection h3 with h3 h4
          subst h2 h3 h4
          have hid : id' = id := by simpa using hc
          refine ih y A H _ A1 H1 h1 hd tl σ S W B a _ lo hlo h hm fun hd1 tl1 σ1 S1 a1 W1 hm1 hst1 hl1 => ?_
          simp only [toExit, Exit.inBlock, hid, if_true]
          exact hQ hd1 tl1 σ1 S1 a1 W1 hm1 hst1 hl1
        | false =>
          rw [hc] at he
          simp only [cond_false] at he
          injection he with he
          injection he with h2 h3
          injection h3 with h3 h4
          subst h2 h3 h4
          have hid : ¬ id' = id := by intro e; rw [e] at hc; simp at hc
          refine ih y A H _ A1 H1 h1 hd tl σ S W B a _ lo hlo h hm fun hd1 tl1 σ1 S1 a1 W1 hm1 hst1 hl1 => ?_
          simp only [toExit, Exit.inBlock, hid, if_false]
          exact hQ hd1 tl1 σ1 S1 a1 W1 hm1 hst1 hl1
      · rename_i r0 hr0
        refine ih y A H x A' H' he hd tl σ S W B a _ lo hlo h hm fun hd1 tl1 σ1 S1 a1 W1 hm1 hst1 hl1 => ?_
        have := hQ hd1 tl1 σ1 S1 a1 W1 hm1 hst1 hl1
        cases x with
        | normal => exact this
        | exit id' => exact (hr0 id' A' H' he).elim
        | ret => exact this
    | loop y => exact plain (by simpa only [evCodeR] using he)
    | scope b => exact plain (by simpa only [evCodeR] using he)
    | goto l => exact plain (by simpa only [evCodeR] using he)
    | refuse w => exact plain (by simpa only [evCodeR] using he)
theorem leaves_marks {fn : Func} {tmps : Array Value} {R : Ending → World → Prop} {σ0 : Ren} {S0 : Ids} {W0 : World} : ∀ (l : List Deferred) (W : World), Rep σ S H W B → B ≤ W.heap.size → Evo σ0 S0 W0 σ S W → Marks W0.heap.size W l →
    (∀ W', Rep σ S H W' B → B ≤ W'.heap.size → Evo σ0 S0 W0 σ S W' → LeavesIn (WF none) 0 P fn tmps R [] .returning W') → LeavesInM (WF none) 0 P fn tmps R l .returning W
  | [], W, h, hB, he, _, hK => hK W h hB he
  | d :: l, W, h, hB, he, ⟨⟨D, h1, h0, h2, h4⟩, h3⟩, hK => by
    subst h1
    exact ⟨by simp, .inl ⟨D, _, rfl, run_takeDeferred h2, leaves_marks l _ (h.putO h2 rfl) (by simpa using hB) (he.putObj _ h0) (Marks.other h3 h4) hK⟩⟩
/-- a call of a function with ranges over functions in it -/
def evFn (P : Program) (X : Tab) (call : ACall) (it : AIter) (lf : Nat) (f : FuncId) (args : Array Value) (H : AH) : Option (Value × AH) := (X.fn f).bind fun fn => match fn.body with
  | none => none
  | some body => cond (Nat.blt args.size 1000000) (match evCodeR P X call it lf lf body (enter fn args) H with
    | some (.normal, a, H') => (aresults X H' a fn.results.toList).bind fun vs => some (result vs, H')
    | some (.ret, a, H') => (aresults X H' a fn.results.toList).bind fun vs => some (result vs, H')
    | _ => none) none
theorem evFn_ok (hX : TabOk P X) {call : ACall} (hcall : CallOk P call) (hdraw : DrawOk P X call) {it : AIter} (hit : ItOk P it) {lf : Nat} {f : FuncId} {args : Array Value} {v : Value} {H' : AH} (he : evFn P X call it lf f args H = some (v, H')) {args' : Array Value} (h : Rep σ S H W B) (hf : Free S H.next) (hB : B ≤ W.heap.size) (hv : VRs σ S args.toList args'.toList) :
    Calls P f args' W fun e W' => ∃ (σ' : Ren) (S' : Ids) (v' : Value), e = .returned v' ∧ VR σ' S' v v' ∧ Rep σ' S' H' W' B ∧ Later σ S H.next W σ' S' H'.next W' := by
  simp only [evFn, Option.bind_eq_some_iff] at he
  obtain ⟨fn, k1, k2⟩ := he
  split at k2
  case h_1 => cases k2
  rename_i body hbody
  cases hsz : Nat.blt args.size 1000000 with
  | false => rw [hsz] at k2; cases k2
  | true =>
    rw [hsz] at k2
    simp only [cond_true] at k2
    have hst := enter_st (fn := fn) h hf hB hv (by simpa using hsz)
    refine callsIn_wide.1 (?_ : CallsIn (WF none) 0 P f args' W _)
    refine callsIn_of_wp_marks (hX.fn f fn k1).1 hbody trivial ?_ rfl
    have fin : ∀ (x : AExit) (A1 : AAct) (H1 : AH), (x = .normal ∨ x = .ret) → evCodeR P X call it lf lf body (enter fn args) H = some (x, A1, H1) → ((aresults X H1 A1 fn.results.toList).bind fun vs => some (result vs, H1)) = some (v, H') →
        body.wpIn (WF none) 0 P (bodyPostM (WF none) 0 P fn fun e W' => ∃ (σ' : Ren) (S' : Ids) (v' : Value), e = .returned v' ∧ VR σ' S' v v' ∧ Rep σ' S' H' W' B ∧ Later σ S H.next W σ' S' H'.next W') { tmps := args' ++ Array.replicate (fn.ntmps - args'.size) undef, defers := [] } W := by
      intro x A1 H1 hx he1 hl
      rw [Option.bind_eq_some_iff] at hl
      obtain ⟨vs, q3, q4⟩ := hl
      injection q4 with q4
      injection q4 with q4 q5
      subst q4 q5
      refine evCodeR_wp hX hcall hdraw hit lf body _ H x A1 H1 he1 rfl [] σ S W B _ _ W.heap.size (Nat.le_refl _) hst trivial fun hd1 tl' σ' S' a' W' hm' hst' hl' => ?_
      have hdf : a'.defers = tl' := by
        have := hst'.defs
        rw [hd1] at this
        generalize a'.defers = ds at this ⊢
        cases this
        rfl
      have hleave : LeavesInM (WF none) 0 P fn a'.tmps (fun e W' => ∃ (σ' : Ren) (S' : Ids) (v' : Value), e = .returned v' ∧ VR σ' S' (result vs) v' ∧ Rep σ' S' H1 W' B ∧ Later σ S H.next W σ' S' H1.next W') a'.defers .returning W' := by
        rw [hdf]
        refine leaves_marks tl' W' hst'.rep hst'.base hl'.evo hm' fun W2 r1 r2 r3 => ?_
        obtain ⟨v', s1, s2⟩ := results_sound hX r1 hst'.act q3
        exact ⟨v', s1, σ', S', v', rfl, s2, r1, r3, hl'.taken⟩
      rcases hx with rfl | rfl
      · exact hleave
      · exact hleave
    split at k2
    · rename_i A1 H1 he1
      exact fin .normal A1 H1 (.inl rfl) he1 k2
    · rename_i A1 H1 he1
      exact fin .ret A1 H1 (.inr rfl) he1 k2
    · cases k2
/-- calls: some functions hold ranges over functions -/
def evCallR (P : Program) (X : Tab) (it : AIter) (rf : FuncId → Bool) (lf : Nat) : Nat → ACall
  | 0 => fun _ _ _ => none
  | d + 1 => fun f args H => match rf f with
    | true => evFn P X (evCallR P X it rf lf d) it lf f args H
    | false => evCall1 P X (evCallR P X it rf lf d) lf f args H
theorem evCallR_ok (hX : TabOk P X) (hm : P.follows .mixedOrders = true) {it : AIter} (hit : ItOk P it) (rf : FuncId → Bool) (lf : Nat) : ∀ d, CallOk P (evCallR P X it rf lf d)
  | 0 => fun f args H v H' he => by simp [evCallR] at he
  | d + 1 => by
    have ih := evCallR_ok hX hm hit rf lf d
    intro f args H v H' he σ S W B args' h hf hB hv
    simp only [evCallR] at he
    split at he
    · exact evFn_ok hX ih (draw_ok hX hm _ ih) hit he h hf hB hv
    · exact evCall1_ok hX ih (draw_ok hX hm _ ih) he h hf hB hv
end
end
end Go.Proofs.YtbjmakigdglghaaGreatDoor.Ev
namespace Go.Proofs.YtbjmakigdglghaaGreatDoor.Ev
noncomputable section
set_option linter.unusedSectionVars false
variable [Laid]
open Go.RowKit
/-- functions whose answers at flat arguments are known -/
abbrev AOv := FuncId → Array Value → Option Value
def OvOk (P : Program) (ov : AOv) : Prop := ∀ f args v, ov f args = some v → args.toList.all (flatF 8) = true ∧ flatF 8 v = true ∧ ∀ W B, LowOk W B → Calls P f args W fun e w' => e = .returned v ∧ Below W.heap.size W w'
def evCallO (P : Program) (X : Tab) (it : AIter) (rf : FuncId → Bool) (ov : AOv) (lf : Nat) : Nat → ACall
  | 0 => fun _ _ _ => none
  | d + 1 => fun f args H => match ov f args with
    | some v => some (v, H)
    | none => match rf f with
      | true => evFn P X (evCallO P X it rf ov lf d) it lf f args H
      | false => evCall1 P X (evCallO P X it rf ov lf d) lf f args H
section
variable {P : Program} {X : Tab}
theorem evCallO_ok (hX : TabOk P X) (hm : P.follows .mixedOrders = true) {it : AIter} (hit : ItOk P it) (rf : FuncId → Bool) {ov : AOv} (hov : OvOk P ov) (lf : Nat) : ∀ d, CallOk P (evCallO P X it rf ov lf d)
  | 0 => fun f args H v H' he => by simp [evCallO] at he
  | d + 1 => by
    have ih := evCallO_ok hX hm hit rf hov lf d
    intro f args H v H' he σ S W B args' h hf hB hv
    simp only [evCallO] at he
    split at he
    · rename_i u hu
      injection he with he
      injection he with h1 h2
      subst h1 h2
      obtain ⟨k1, k2, k3⟩ := hov f args u hu
      have e : args' = args := array_eq (all_flat_eq hv k1)
      subst e
      refine (k3 W B h.low).mono ?_
      rintro e w' ⟨rfl, hb⟩
      exact ⟨σ, S, u, rfl, VR.flat 8 u k2, h.world fun b hb' => hb.block b hb', ⟨h.refl.below hb, Taken.refl _ _⟩⟩
    · split at he
      · exact evFn_ok hX ih (draw_ok hX hm _ ih) hit he h hf hB hv
      · exact evCall1_ok hX ih (draw_ok hX hm _ ih) he h hf hB hv
/-- a closed law, at a world where something was laid -/
theorem closedO_true (hX : TabOk P X) (hm : P.follows .mixedOrders = true) {it : AIter} (hit : ItOk P it) (rf : FuncId → Bool) {ov : AOv} (hov : OvOk P ov) (lf d : Nat) (f : FuncId) (he : saysTrue (evCallO P X it rf ov lf d f #[] ⟨0, .lf⟩) = true) (W : World) (hlow : LowOk W W.heap.size) :
    Calls P f #[] W fun e w' => e = .returned (.bool true) ∧ Below W.heap.size W w' := by
  unfold saysTrue at he
  split at he
  · rename_i b H' h
    subst he
    refine (evCallO_ok hX hm hit rf hov lf d f #[] ⟨0, .lf⟩ (.bool true) H' h (fun _ => none) (fun _ => False) W W.heap.size #[] ⟨fun id o h => ?_, fun _ _ => rfl, (fun _ _ _ _ h => by cases h), hlow⟩ (fun _ _ h => h) (Nat.le_refl _) .nil).mono ?_
    · simp [AH.get, T.get_lf] at h
    · rintro e w' ⟨σ', S', v', rfl, hv, hr, hl⟩
      cases hv
      exact ⟨rfl, hl.evo.os, hl.evo.tape, hl.evo.output, hl.evo.size, fun k hk => hl.evo.frame k hk fun _ _ h => by cases h⟩
  · cases he
end
end
end Go.Proofs.YtbjmakigdglghaaGreatDoor.Ev
namespace Go.Proofs.YtbjmakigdglghaaGreatDoor.Ev
noncomputable section
def T.ofFn {α : Type} (g : Nat → Option α) : Nat → T α
  | 0 => .lf
  | d + 1 => .nd (T.ofFn (fun k => g (2 * k + 1)) d) (g 0) (T.ofFn (fun k => g (2 * k + 2)) d)
theorem T.get0_ofFn {α : Type} : ∀ (d : Nat) (g : Nat → Option α) (k : Nat) (v : α), (T.ofFn g d).get0 k = some v → g k = some v
  | 0, g, k, v, h => by cases h
  | d + 1, g, k, v, h => by
    simp only [T.ofFn, T.get0] at h
    split at h
    · rename_i e
      have : k = 0 := by simpa using e
      rw [this]
      exact h
    · rename_i e
      have e0 : k ≠ 0 := fun h => by subst h; simp at e
      split at h
      · rename_i e1
        have e1' : k % 2 = 1 := by simpa using e1
        have := T.get0_ofFn d _ _ v h
        rw [show 2 * (k / 2) + 1 = k from by omega] at this
        exact this
      · rename_i e1
        have e1' : k % 2 ≠ 1 := fun h => by simp [h] at e1
        have := T.get0_ofFn d _ _ v h
        rw [show 2 * (k / 2 - 1) + 2 = k from by omega] at this
        exact this
theorem T.get_ofFn {α : Type} {d : Nat} {g : Nat → Option α} {k : Nat} {v : α} (h : (T.ofFn g d).get k = some v) : g k = some v := T.get0_ofFn d g k v (by rw [← T.get_eq]; exact h)
def tabT (P : Program) (ext : FuncId → Option ExtF) (d : Nat) (rows : Bool) : Tab :=
  { und := (T.ofFn (tabOf P ext).und d).get, inf := (T.ofFn (tabOf P ext).inf d).get, fn := (T.ofFn (tabOf P ext).fn d).get, ext := ext, rows := rows }
theorem tabT_ok {P : Program} {ext : FuncId → Option ExtF} (h : TabOk P (tabOf P ext)) (d : Nat) (rows : Bool) : TabOk P (tabT P ext d rows) :=
  ⟨fun t x e => h.und t x (T.get_ofFn e), fun t x e => h.inf t x (T.get_ofFn e), fun t x e => h.fn t x (T.get_ofFn e), h.ext⟩
end
end Go.Proofs.YtbjmakigdglghaaGreatDoor.Ev
namespace Go.Proofs.YtbjmakigdglghaaGreatDoor.Ev
noncomputable section
set_option linter.unusedSectionVars false
variable [Laid]
open Go.RowKit
/-- a call that is known: what it reads of the heap, what it leaves -/
structure Kn where
  f : FuncId
  args : List Value
  n : Nat
  pre : List (Nat × AObj)
  v : Value
  post : List (Nat × AObj)
  n' : Nat
def look : List (Nat × AObj) → Nat → Option AObj
  | [], _ => none
  | (k, o) :: l, b => cond (Nat.beq b k) (some o) (look l b)
def hasK : List (Nat × AObj) → Nat → Bool
  | [], _ => false
  | (k, _) :: l, b => Nat.beq b k || hasK l b
def putsT : List (Nat × AObj) → T AObj → T AObj
  | [], t => t
  | (k, o) :: l, t => (putsT l t).set k (some o)
def killT : List (Nat × AObj) → T AObj → T AObj
  | [], t => t
  | (k, _) :: l, t => (killT l t).set k none
def idsOk (l : List (Nat × AObj)) : Bool := l.all fun p => Nat.blt p.1 16777215
theorem get_putsT : ∀ (l : List (Nat × AObj)) (t : T AObj) (b : Nat), idsOk l = true → (putsT l t).get b = match look l b with | some o => some o | none => t.get b
  | [], t, b, _ => rfl
  | (k, o) :: l, t, b, h => by
    simp only [idsOk, List.all_cons, Bool.and_eq_true, Nat.blt_eq] at h
    simp only [putsT, look]
    rw [T.get_set _ _ _ _ h.1]
    by_cases e : b = k
    · rw [if_pos e]
      simp [e]
    · have : Nat.beq b k = false := by cases hq : Nat.beq b k with
        | false => rfl
        | true => exact absurd (Nat.eq_of_beq_eq_true hq) e
      rw [if_neg e, this, get_putsT l t b h.2]
      rfl
theorem get_killT : ∀ (l : List (Nat × AObj)) (t : T AObj) (b : Nat), idsOk l = true → (killT l t).get b = cond (hasK l b) none (t.get b)
  | [], t, b, _ => rfl
  | (k, o) :: l, t, b, h => by
    simp only [idsOk, List.all_cons, Bool.and_eq_true, Nat.blt_eq] at h
    simp only [killT, hasK]
    rw [T.get_set _ _ _ _ h.1]
    by_cases e : b = k
    · rw [if_pos e]
      simp [e]
    · have : Nat.beq b k = false := by cases hq : Nat.beq b k with
        | false => rfl
        | true => exact absurd (Nat.eq_of_beq_eq_true hq) e
      rw [if_neg e, this, get_killT l t b h.2]
      rfl
theorem hasK_look : ∀ (l : List (Nat × AObj)) (b : Nat), hasK l b = (look l b).isSome
  | [], _ => rfl
  | (k, o) :: l, b => by
    simp only [hasK, look]
    cases Nat.beq b k with
    | true => rfl
    | false => simpa using hasK_look l b
def eeq (e e' : MapEntry) : Bool := veq 8 e.key e'.key && veq 8 e.val e'.val && Nat.beq e.born e'.born
def lEq {α : Type} (q : α → α → Bool) : List α → List α → Bool
  | [], [] => true
  | a :: l, b :: r => q a b && lEq q l r
  | _, _ => false
theorem lEq_eq {α : Type} {q : α → α → Bool} (hq : ∀ a b, q a b = true → a = b) : ∀ l r : List α, lEq q l r = true → l = r
  | [], [], _ => rfl
  | a :: l, b :: r, h => by
    simp only [lEq, Bool.and_eq_true] at h
    rw [hq a b h.1, lEq_eq hq l r h.2]
  | [], _ :: _, h => by simp [lEq] at h
  | _ :: _, [], h => by simp [lEq] at h
theorem eeq_eq (e e' : MapEntry) (h : eeq e e' = true) : e = e' := by
  simp only [eeq, Bool.and_eq_true] at h
  obtain ⟨⟨h1, h2⟩, h3⟩ := h
  cases e; cases e'
  simp only at h1 h2 h3
  rw [veq_eq 8 _ _ h1, veq_eq 8 _ _ h2, Nat.eq_of_beq_eq_true h3]
def oNat : Option Nat → Option Nat → Bool
  | none, none => true
  | some a, some b => Nat.beq a b
  | _, _ => false
theorem oNat_eq (a b : Option Nat) (h : oNat a b = true) : a = b := by
  cases a <;> cases b <;> simp_all [oNat]
/-- the same object (iterators over maps: never) -/
def oeq : AObj → AObj → Bool
  | .cells cs e g, .cells cs' e' g' => lEq (veq 8) cs cs' && Nat.beq e e' && oNat g g'
  | .map es c, .map es' c' => lEq eeq es es' && Nat.beq c c'
  | .row cs e s, .row cs' e' s' => lEq (veq 8) cs cs' && Nat.beq e e' && Nat.beq s s'
  | .sit s p, .sit s' p' => bytesEq s s' && Nat.beq p p'
  | _, _ => false
theorem oeq_eq (a b : AObj) (h : oeq a b = true) : a = b := by
  cases a <;> cases b <;> simp only [oeq, Bool.and_eq_true, reduceCtorEq] at h
  · rw [lEq_eq (veq_eq 8) _ _ h.1.1, Nat.eq_of_beq_eq_true h.1.2, oNat_eq _ _ h.2]
  · rw [lEq_eq eeq_eq _ _ h.1, Nat.eq_of_beq_eq_true h.2]
  · rw [lEq_eq (veq_eq 8) _ _ h.1.1, Nat.eq_of_beq_eq_true h.1.2, Nat.eq_of_beq_eq_true h.2]
  · rw [bytesEq_eq h.1, Nat.eq_of_beq_eq_true h.2]
/-- what is listed lies there -/
def liesIn (t : T AObj) (l : List (Nat × AObj)) : Bool := l.all fun p => match t.get p.1 with
  | some o => oeq o p.2
  | none => false
theorem liesIn_look : ∀ (t : T AObj) (l : List (Nat × AObj)) (b : Nat) (o : AObj), liesIn t l = true → look l b = some o → t.get b = some o
  | t, (k, o') :: l, b, o, h, hl => by
    simp only [liesIn, List.all_cons, Bool.and_eq_true] at h
    simp only [look] at hl
    cases e : Nat.beq b k with
    | true =>
      rw [e] at hl
      injection hl with hl
      subst hl
      have e2 : b = k := by simpa using e
      subst e2
      have h1 := h.1
      split at h1
      · rename_i o2 h2
        rw [h2, oeq_eq _ _ h1]
      · cases h1
    | false =>
      rw [e] at hl
      exact liesIn_look t l b o h.2 hl
def Kn.preH (k : Kn) : AH := ⟨k.n, putsT k.pre .lf⟩
def Kn.postH (k : Kn) : AH := ⟨k.n', putsT k.post .lf⟩
def KnOk (P : Program) (k : Kn) : Prop := ∀ (σ : Ren) (S : Ids) (W : World) (B : Nat) (args' : Array Value), Rep σ S k.preH W B → Free S k.n → B ≤ W.heap.size → VRs σ S k.args args'.toList →
  Calls P k.f args' W fun e W' => ∃ (σ' : Ren) (S' : Ids) (v' : Value), e = .returned v' ∧ VR σ' S' k.v v' ∧ Rep σ' S' k.postH W' B ∧ Later σ S k.n W σ' S' k.n' W'
/-- every number in an object is one of these -/
def oIn (p : Nat → Bool) : AObj → Bool
  | .cells cs _ _ => cs.all (allIn p 8)
  | .map es _ => es.all fun e => allIn p 8 e.val
  | .row cs _ _ => cs.all (allIn p 8)
  | .sit _ _ => true
  | .mit .. => false
def Kn.mine (k : Kn) (b : Nat) : Bool := hasK k.post b || hasK k.pre b || (Nat.ble k.n b && Nat.blt b k.n')
def Kn.sound (k : Kn) : Bool := idsOk k.pre && idsOk k.post && allIn k.mine 8 k.v && k.post.all fun p => oIn k.mine p.2
theorem look_all {l : List (Nat × AObj)} {q : AObj → Bool} (h : (l.all fun p => q p.2) = true) {b : Nat} {o : AObj} (hl : look l b = some o) : q o = true := by
  induction l with
  | nil => cases hl
  | cons x l ih =>
    obtain ⟨k, o'⟩ := x
    simp only [List.all_cons, Bool.and_eq_true] at h
    simp only [look] at hl
    cases e : Nat.beq b k with
    | true => rw [e] at hl; injection hl with hl; subst hl; exact h.1
    | false => rw [e] at hl; exact ih h.2 hl
/-- a part of a heap -/
def part (σ : Ren) (H0 : AH) : Ren := fun id => match H0.get id with | some _ => σ id | none => none
theorem part_some {σ : Ren} {H0 : AH} {id : Nat} {i : Inf} (h : part σ H0 id = some i) : σ id = some i ∧ ∃ o, H0.get id = some o := by
  unfold part at h
  split at h
  · rename_i o e
    exact ⟨h, o, e⟩
  · cases h
theorem part_of {σ : Ren} {H0 : AH} {id : Nat} {o : AObj} (h : H0.get id = some o) : part σ H0 id = σ id := by
  unfold part
  rw [h]
theorem part_ext (σ : Ren) (S : Ids) (H0 : AH) : Ext σ S (part σ H0) S := ⟨fun _ h => h, fun _ _ _ h => (part_some h).1⟩
theorem Rep.part {σ : Ren} {S : Ids} {H : AH} {W : World} {B : Nat} (h : Rep σ S H W B) (H0 : AH) (hs : ∀ id o, H0.get id = some o → H.get id = some o) : Rep (part σ H0) S H0 W B := by
  refine ⟨fun id o hg => ?_, fun id hg => ?_, fun id id' i i' e e' hb => h.inj id id' i i' (part_some e).1 (part_some e').1 hb, h.low⟩
  · obtain ⟨h0, i, h1, h2, h3⟩ := h.live id o (hs id o hg)
    exact ⟨h0, i, (part_of hg).trans h1, h2.ext (part_ext σ S H0), h3⟩
  · unfold Ev.part
    rw [hg]
theorem VRs.ext' {σ σ' : Ren} {n n' : Nat → Prop} {l l' : List Value} (e : Ext σ n σ' n') (h : VRs σ n l l') : VRs σ' n' l l' := VRs.ext e h
theorem ORel.restrictO {σ : Ren} {S U : Ids} {W : World} {i : Inf} {p : Nat → Bool} (hp : ∀ b, p b = true → U b) {o : AObj} (h : ORel σ S W i o) (ha : oIn p o = true) : ORel σ (cut S U) W i o := by
  cases o with
  | cells cs e g =>
    obtain ⟨c', lo, hi, h1, h2, h3⟩ := h
    simp only [oIn, List.all_eq_true] at ha
    exact ⟨c', lo, hi, h1, fun j v hv => by obtain ⟨v', a, b⟩ := h2 j v hv; exact ⟨v', a, VR.restrict hp 8 _ _ b (ha v (List.mem_of_getElem? hv))⟩, h3⟩
  | map es c =>
    obtain ⟨es', h1, h2, h3⟩ := h
    simp only [oIn, List.all_eq_true] at ha
    exact ⟨es', h1, h2, fun j e he => by obtain ⟨e', a, b, c, d, f⟩ := h3 j e he; exact ⟨e', a, b, c, d, VR.restrict hp 8 _ _ f (ha e (List.mem_of_getElem? he))⟩⟩
  | row cs e s =>
    obtain ⟨c', lo, hi, tot, h1, h2, h3⟩ := h
    simp only [oIn, List.all_eq_true] at ha
    exact ⟨c', lo, hi, tot, h1, fun j v hv => by obtain ⟨v', a, b⟩ := h2 j v hv; exact ⟨v', a, VR.restrict hp 8 _ _ b (ha v (List.mem_of_getElem? hv))⟩, h3⟩
  | sit s pos => exact h
  | mit m since seen st => simp [oIn] at ha
/-- does the call at hand fit? -/
def Kn.fits (k : Kn) (f : FuncId) (args : Array Value) (H : AH) : Bool := Nat.beq f k.f && (Nat.beq H.next k.n && (veqs (veq 8) args.toList k.args && liesIn H.tab k.pre))
def Kn.res (k : Kn) (H : AH) : Value × AH := (k.v, ⟨k.n', putsT k.post (killT k.pre H.tab)⟩)
def Kn.call (k : Kn) : ACall := fun f args H => cond (k.fits f args H) (some (k.res H)) none
theorem known_ok {P : Program} {k : Kn} (hk : KnOk P k) (hs : k.sound = true) : CallOk P k.call := by
  intro f args H v H' he σ S W B args' h hf hB hv
  unfold Kn.call at he
  cases hfit : k.fits f args H with
  | false => rw [hfit] at he; cases he
  | true =>
    rw [hfit] at he
    simp only [cond_true] at he
    injection he with he
    injection he with he1 he2
    subst he1 he2
    simp only [Kn.fits, Bool.and_eq_true] at hfit
    obtain ⟨e1, e2, e3, e4⟩ := hfit
    have e1 : f = k.f := by simpa using e1
    have e2 : H.next = k.n := by simpa using e2
    have e3 : args.toList = k.args := veqs_eq (veq_eq 8) _ _ e3
    subst e1
    simp only [Kn.sound, Bool.and_eq_true] at hs
    obtain ⟨⟨⟨s1, s2⟩, s3⟩, s4⟩ := hs
    have hpre : ∀ id, k.preH.get id = look k.pre id := fun id => by
      simp only [AH.get, Kn.preH, get_putsT _ _ _ s1]
      cases look k.pre id <;> rfl
    have hpost : ∀ id, k.postH.get id = look k.post id := fun id => by
      simp only [AH.get, Kn.postH, get_putsT _ _ _ s2]
      cases look k.post id <;> rfl
    have hH : ∀ id, (⟨k.n', putsT k.post (killT k.pre H.tab)⟩ : AH).get id = match look k.post id with | some o => some o | none => cond (hasK k.pre id) none (H.get id) := fun id => by
      simp only [AH.get, get_putsT _ _ _ s2, get_killT _ _ _ s1]
    have hsub : ∀ id o, k.preH.get id = some o → H.get id = some o := fun id o hg => liesIn_look _ _ _ _ e4 (by rw [← hpre]; exact hg)
    have h0 := h.part k.preH hsub
    rw [e2] at hf
    refine (hk (part σ k.preH) S W B args' h0 hf hB (by rw [← e3]; exact hv.ext (part_ext σ S _))).mono ?_
    rintro e W' ⟨σ1, S', v', rfl, hv1, h1, hl⟩
    -- the renaming behind it
    let σ' : Ren := fun id => match look k.post id with | some _ => σ1 id | none => cond (hasK k.pre id) none (σ id)
    have hσpost : ∀ id o, look k.post id = some o → σ' id = σ1 id := fun id o e => by simp only [σ', e]
    have hσold : ∀ id i, look k.post id = none → σ' id = some i → hasK k.pre id = false ∧ σ id = some i := fun id i e e' => by
      simp only [σ', e] at e'
      cases hq : hasK k.pre id with
      | true => rw [hq] at e'; cases e'
      | false => rw [hq] at e'; exact ⟨rfl, e'⟩
    have hnopre : ∀ id, hasK k.pre id = false → k.preH.get id = none := fun id e => by
      rw [hpre]
      rw [hasK_look] at e
      cases hq : look k.pre id with
      | none => rfl
      | some o => rw [hq] at e; cases e
    have hp0 : ∀ id i, part σ k.preH id = some i → σ id = some i := fun id i e => (part_some e).1
    have hold : ∀ id i, S id → σ' id = some i → σ id = some i := fun id i hS e => by
      cases hq : look k.post id with
      | some o =>
        rw [hσpost id o hq] at e
        exact hp0 _ _ (hl.evo.ext.old id i hS e)
      | none => exact (hσold id i hq e).2
    have hext : Ext σ S σ' S' := ⟨hl.evo.ext.le, hold⟩
    have hU : ∀ b, k.mine b = true → (fun b => ∀ i, σ' b = some i → σ1 b = some i) b := by
      intro b hb i hi
      cases hq : look k.post b with
      | some o => rw [← hσpost b o hq]; exact hi
      | none =>
        obtain ⟨a1, a2⟩ := hσold b i hq hi
        have h2 : hasK k.post b = false := by rw [hasK_look, hq]; rfl
        simp only [Kn.mine, h2, a1, Bool.false_or, Bool.and_eq_true] at hb
        exact absurd (h.dom a2) (hf b (by simpa using hb.1))
    have hext2 : Ext σ1 (cut S' fun b => ∀ i, σ' b = some i → σ1 b = some i) σ' S' := ⟨fun b hb => hb.1, fun b i hb e => hb.2 i e⟩
    have kept : ∀ id i o, hasK k.pre id = false → σ id = some i → H.get id = some o → ORel σ S W i o → ORel σ' S' W' i o := fun id i o a1 a2 a3 a4 =>
      (a4.same (hl.evo.frame i.blk a4.lt fun id0 i0 e0 hb => by
        have := h.inj _ _ _ _ (hp0 _ _ e0) a2 hb
        subst this
        obtain ⟨_, o2, e3⟩ := part_some e0
        rw [hnopre id0 a1] at e3
        cases e3)).ext hext
    refine ⟨σ', S', v', rfl, (VR.restrict hU 8 _ _ hv1 s3).ext hext2, ⟨fun id o hg => ?_, fun id hg => ?_, fun id id' i i' e e' hb => ?_, h1.low⟩, ⟨⟨hext, fun id i hi e => ?_, hl.evo.size, fun b hb hn => hl.evo.frame b hb fun id i e => hn id i (hp0 _ _ e), hl.evo.os, hl.evo.tape, hl.evo.output⟩, by rw [e2]; exact hl.taken⟩⟩
    · rw [hH] at hg
      cases hq : look k.post id with
      | some o2 =>
        rw [hq] at hg
        simp only at hg
        injection hg with hg
        subst hg
        obtain ⟨b1, i, b2, b3, b4⟩ := h1.live id o2 (by rw [hpost]; exact hq)
        exact ⟨b1, i, (hσpost id o2 hq).trans b2, (b3.restrictO hU (look_all s4 hq)).ext hext2, b4⟩
      | none =>
        rw [hq] at hg
        simp only at hg
        cases hq2 : hasK k.pre id with
        | true => rw [hq2] at hg; cases hg
        | false =>
          rw [hq2] at hg
          obtain ⟨b1, i, b2, b3, b4⟩ := h.live id o hg
          exact ⟨hext.le id b1, i, by simp only [σ', hq, hq2]; exact b2, kept id i o hq2 b2 hg b3, b4⟩
    · rw [hH] at hg
      cases hq : look k.post id with
      | some o2 => rw [hq] at hg; cases hg
      | none =>
        rw [hq] at hg
        simp only at hg
        simp only [σ', hq]
        cases hq2 : hasK k.pre id with
        | true => rfl
        | false =>
          rw [hq2] at hg
          exact h.dead id hg
    · -- no two at one block
      have mixed : ∀ id id' i i' o, look k.post id = some o → look k.post id' = none → σ' id = some i → σ' id' = some i' → i.blk = i'.blk → False := by
        intro id id' i i' o q q' e e' hb
        rw [hσpost id o q] at e
        obtain ⟨a1, a2⟩ := hσold id' i' q' e'
        have nopre : ∀ i0, part σ k.preH id' = some i0 → False := fun i0 e0 => by
          obtain ⟨_, o2, e3⟩ := part_some e0
          rw [hnopre id' a1] at e3
          cases e3
        by_cases hS : S id
        · have e0 := hl.evo.ext.old id i hS e
          have := h.inj _ _ _ _ (hp0 _ _ e0) a2 hb
          subst this
          exact nopre i e0
        · rcases hl.evo.new id i hS e with h5 | ⟨id0, i0, h5, h6⟩
          · obtain ⟨o3, _, h7, _⟩ := h.at_ a2
            have := h7.lt
            omega
          · have := h.inj _ _ _ _ (hp0 _ _ h5) a2 (h6.trans hb)
            subst this
            exact nopre i0 h5
      cases hq : look k.post id with
      | some o =>
        cases hq' : look k.post id' with
        | some o' =>
          rw [hσpost _ _ hq] at e
          rw [hσpost _ _ hq'] at e'
          exact h1.inj _ _ _ _ e e' hb
        | none => exact (mixed id id' i i' o hq hq' e e' hb).elim
      | none =>
        cases hq' : look k.post id' with
        | some o' => exact (mixed id' id i' i o' hq' hq e' e hb.symm).elim
        | none => exact h.inj _ _ _ _ (hσold _ _ hq e).2 (hσold _ _ hq' e').2 hb
    · cases hq : look k.post id with
      | some o =>
        rw [hσpost id o hq] at e
        rcases hl.evo.new id i hi e with h5 | ⟨id0, i0, h5, h6⟩
        · exact .inl h5
        · exact .inr ⟨id0, i0, hp0 _ _ h5, h6⟩
      | none => exact absurd (h.dom (hσold id i hq e).2) hi
/-- a run that gives what is said to be known -/
def Kn.ran (k : Kn) (r : Option (Value × AH)) : Bool := match r with
  | some (v, H') => veq 8 v k.v && (Nat.beq H'.next k.n' && liesIn H'.tab k.post)
  | none => false
theorem known_of_run {P : Program} {call : ACall} (hc : CallOk P call) {k : Kn} (hs : k.sound = true) (h : k.ran (call k.f k.args.toArray k.preH) = true) : KnOk P k := by
  intro σ S W B args' hr hf hB hv
  unfold Kn.ran at h
  split at h
  · rename_i v H' he
    simp only [Bool.and_eq_true] at h
    obtain ⟨h1, h2, h3⟩ := h
    have h1 := veq_eq 8 _ _ h1
    subst h1
    have h2 : H'.next = k.n' := by simpa using h2
    simp only [Kn.sound, Bool.and_eq_true] at hs
    obtain ⟨⟨⟨s1, s2⟩, s3⟩, s4⟩ := hs
    have hpost : ∀ id, k.postH.get id = look k.post id := fun id => by
      simp only [AH.get, Kn.postH, get_putsT _ _ _ s2]
      cases look k.post id <;> rfl
    refine (hc _ _ _ _ _ he σ S W B args' hr hf hB (by simpa using hv)).mono ?_
    rintro e W' ⟨σ1, S', v', rfl, hv1, hr1, hl⟩
    refine ⟨part σ1 k.postH, S', v', rfl, hv1.ext (part_ext _ _ _), hr1.part k.postH (fun id o hg => liesIn_look _ _ _ _ h3 (by rw [← hpost]; exact hg)), ⟨⟨⟨hl.evo.ext.le, fun id i hS e => hl.evo.ext.old id i hS (part_some e).1⟩, fun id i hi e => hl.evo.new id i hi (part_some e).1, hl.evo.size, hl.evo.frame, hl.evo.os, hl.evo.tape, hl.evo.output⟩, by rw [← h2]; exact hl.taken⟩⟩
  · cases h
/-- several -/
def kns : List Kn → ACall
  | [] => fun _ _ _ => none
  | k :: l => fun f args H => match k.call f args H with
    | some r => some r
    | none => kns l f args H
def KnsOk (P : Program) (l : List Kn) : Prop := ∀ k ∈ l, KnOk P k ∧ k.sound = true
theorem KnsOk.nil {P : Program} : KnsOk P [] := fun _ h => by cases h
theorem KnsOk.cons {P : Program} {k : Kn} {l : List Kn} (h1 : KnOk P k) (h2 : k.sound = true) (h : KnsOk P l) : KnsOk P (k :: l) := fun k' m => by
  rcases List.mem_cons.1 m with rfl | m
  · exact ⟨h1, h2⟩
  · exact h k' m
theorem kns_ok {P : Program} : ∀ {l : List Kn}, KnsOk P l → CallOk P (kns l)
  | [], _ => fun f args H v H' he => by cases he
  | k :: l, h => by
    intro f args H v H' he
    simp only [kns] at he
    split at he
    · rename_i r hr
      injection he with he
      subst he
      exact known_ok (h k (List.mem_cons_self ..)).1 (h k (List.mem_cons_self ..)).2 f args H v H' hr
    · exact kns_ok (fun k' m => h k' (List.mem_cons_of_mem _ m)) f args H v H' he
def evCallK (P : Program) (X : Tab) (it : AIter) (rf : FuncId → Bool) (ov : AOv) (kn : ACall) (lf : Nat) : Nat → ACall
  | 0 => fun _ _ _ => none
  | d + 1 => fun f args H => match ov f args with
    | some v => some (v, H)
    | none => match kn f args H with
      | some r => some r
      | none => match rf f with
        | true => evFn P X (evCallK P X it rf ov kn lf d) it lf f args H
        | false => evCall1 P X (evCallK P X it rf ov kn lf d) lf f args H
section
variable {P : Program} {X : Tab}
theorem evCallK_ok (hX : TabOk P X) (hm : P.follows .mixedOrders = true) {it : AIter} (hit : ItOk P it) (rf : FuncId → Bool) {ov : AOv} (hov : OvOk P ov) {kn : ACall} (hkn : CallOk P kn) (lf : Nat) : ∀ d, CallOk P (evCallK P X it rf ov kn lf d)
  | 0 => fun f args H v H' he => by simp [evCallK] at he
  | d + 1 => by
    have ih := evCallK_ok hX hm hit rf hov hkn lf d
    intro f args H v H' he σ S W B args' h hf hB hv
    simp only [evCallK] at he
    split at he
    · rename_i u hu
      injection he with he
      injection he with h1 h2
      subst h1 h2
      obtain ⟨k1, k2, k3⟩ := hov f args u hu
      have e : args' = args := array_eq (all_flat_eq hv k1)
      subst e
      refine (k3 W B h.low).mono ?_
      rintro e w' ⟨rfl, hb⟩
      exact ⟨σ, S, u, rfl, VR.flat 8 u k2, h.world fun b hb' => hb.block b hb', ⟨h.refl.below hb, Taken.refl _ _⟩⟩
    · split at he
      · rename_i r hr
        injection he with he
        subst he
        exact hkn f args H v H' hr σ S W B args' h hf hB hv
      · split at he
        · exact evFn_ok hX ih (draw_ok hX hm _ ih) hit he h hf hB hv
        · exact evCall1_ok hX ih (draw_ok hX hm _ ih) he h hf hB hv
/-- a closed law, at a world where something was laid -/
theorem closedK_true (hX : TabOk P X) (hm : P.follows .mixedOrders = true) {it : AIter} (hit : ItOk P it) (rf : FuncId → Bool) {ov : AOv} (hov : OvOk P ov) {kn : ACall} (hkn : CallOk P kn) (lf d : Nat) (f : FuncId) (he : saysTrue (evCallK P X it rf ov kn lf d f #[] ⟨0, .lf⟩) = true) (W : World) (hlow : LowOk W W.heap.size) :
    Calls P f #[] W fun e w' => e = .returned (.bool true) ∧ Below W.heap.size W w' := by
  unfold saysTrue at he
  split at he
  · rename_i b H' h
    subst he
    refine (evCallK_ok hX hm hit rf hov hkn lf d f #[] ⟨0, .lf⟩ (.bool true) H' h (fun _ => none) (fun _ => False) W W.heap.size #[] ⟨fun id o h => ?_, fun _ _ => rfl, (fun _ _ _ _ h => by cases h), hlow⟩ (fun _ _ h => h) (Nat.le_refl _) .nil).mono ?_
    · simp [AH.get, T.get_lf] at h
    · rintro e w' ⟨σ', S', v', rfl, hv, hr, hl⟩
      cases hv
      exact ⟨rfl, hl.evo.os, hl.evo.tape, hl.evo.output, hl.evo.size, fun k hk => hl.evo.frame k hk fun _ _ h => by cases h⟩
  · cases he
end
end
end Go.Proofs.YtbjmakigdglghaaGreatDoor.Ev
