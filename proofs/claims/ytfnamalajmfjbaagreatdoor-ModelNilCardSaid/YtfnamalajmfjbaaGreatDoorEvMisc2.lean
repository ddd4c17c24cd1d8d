/- Iterators' steps, deleting, copying, making: abstract, and what they say of the real run. -/
import Derived.Test.YtfnamalajmfjbaaGreatDoorEvMisc
set_option linter.unusedVariables false
set_option linter.unusedSimpArgs false
namespace Go.Proofs.YtfnamalajmfjbaaGreatDoor.Ev
noncomputable section
open Go.MapKept
section
variable {P : Program} {X : Tab} {σ : Ren} {S : Ids} {H : AH} {W : World} {B : Nat}
theorem ERs.inv {n : Ids} {e e' : MapEntry} {l l' : List MapEntry} (h : ERs σ n (e :: l) (e' :: l')) : ERel σ n e e' ∧ ERs σ n l l' := by
  obtain ⟨e2, h1, h2⟩ := h.2 0 e rfl
  simp at h1
  subst h1
  exact ⟨h2, by have := h.1; simpa using this, fun j x hx => by have := h.2 (j + 1) x (by simpa using hx); simpa using this⟩
theorem ERs.cons {n : Ids} {e e' : MapEntry} {l l' : List MapEntry} (h : ERel σ n e e') (t : ERs σ n l l') : ERs σ n (e :: l) (e' :: l') := by
  refine ⟨by simp [t.1], fun j x hx => ?_⟩
  cases j with
  | zero => simp at hx; subst hx; exact ⟨e', rfl, h⟩
  | succ j => simpa using t.2 j x (by simpa using hx)
theorem ERs.filter {n : Ids} (p : Nat → Bool) : ∀ (l l' : List MapEntry), ERs σ n l l' → ERs σ n (l.filter fun e => p e.born) (l'.filter fun e => p e.born)
  | [], l', h => by
    have : l' = [] := List.eq_nil_of_length_eq_zero h.1.symm
    subst this
    exact h
  | e :: l, l', h => by
    cases l' with
    | nil => have := h.1; simp at this
    | cons e' l' =>
      obtain ⟨h1, h2⟩ := h.inv
      have ih := ERs.filter p l l' h2
      have hb : e'.born = e.born := h1.2.2.1
      simp only [List.filter_cons, hb]
      split
      · exact ih.cons h1
      · exact ih
theorem ERs.all {n : Ids} (p : Nat → Bool) : ∀ (l l' : List MapEntry), ERs σ n l l' → (l'.all fun e => p e.born) = (l.all fun e => p e.born)
  | [], l', h => by
    have : l' = [] := List.eq_nil_of_length_eq_zero h.1.symm
    subst this
    rfl
  | e :: l, l', h => by
    cases l' with
    | nil => have := h.1; simp at this
    | cons e' l' =>
      obtain ⟨h1, h2⟩ := h.inv
      have hb : e'.born = e.born := h1.2.2.1
      simp only [List.all_cons, hb, ERs.all p l l' h2]
theorem ERs.find {n : Ids} (p : Nat → Bool) : ∀ (l l' : List MapEntry) (e : MapEntry), ERs σ n l l' → (l.find? fun e => p e.born) = some e → ∃ e', (l'.find? fun e => p e.born) = some e' ∧ ERel σ n e e'
  | [], l', e, h, hf => by simp at hf
  | x :: l, l', e, h, hf => by
    cases l' with
    | nil => have := h.1; simp at this
    | cons x' l' =>
      obtain ⟨h1, h2⟩ := h.inv
      have hb : x'.born = x.born := h1.2.2.1
      simp only [List.find?_cons, hb] at hf ⊢
      split at hf
      · rename_i hp
        injection hf with hf
        subst hf
        exact ⟨x', by simp, h1⟩
      · rename_i hp
        exact ERs.find p l l' e h2 hf
def anextMap (H : AH) (b m since : Nat) (seen : List Nat) (last : Nat) : Option (Value × AH) :=
  match H.get m with
  | some (.map es clock) =>
    cond (!seen.isEmpty && !es.isEmpty && es.all fun e => decide (e.born ≥ last)) none
      (match ((es.filter fun e => !seen.contains e.born).filter fun e => decide (e.born < since)), ((es.filter fun e => !seen.contains e.born).filter fun e => decide (e.born ≥ since)) with
        | [], [] => some (.tuple #[.bool false], H)
        | [e], [] => cond (Nat.blt b 16777215) (some (.tuple #[.bool true, e.key, e.val], H.put b (.mit (some m) since (seen ++ [e.born]) clock))) none
        | _, _ => none)
  | _ => none
def anext (H : AH) (it : Value) (isS : Bool) : Option (Value × AH) := do
  let (b, off) ← addrOf it
  cond (Nat.beq off 0) (match H.get b, isS with
    | some (.sit s pos), true => cond (Nat.blt pos s.size && Nat.blt b 16777215) (some (.tuple #[.bool true, .int .i64 pos, .int .i32 (Utf8.decode s pos).1], H.put b (.sit s (pos + (Utf8.decode s pos).2))))
      (cond (Nat.blt pos s.size) none (some (.tuple #[.bool false], H)))
    | some (.mit none _ _ _), false => some (.tuple #[.bool false], H)
    | some (.mit (some m) since seen last), false => anextMap H b m since seen last
    | _, _ => none) none
theorem put_obj (h : Rep σ S H W B) {b : Nat} {i : Inf} {o o2 : AObj} {ob ob2 : Obj} (hg : H.get b = some o) (hs : σ b = some i) (hb : b < 16777215) (hob : W.heap[i.blk]? = some ob)
    (ho : ORel σ S { W with heap := W.heap.setIfInBounds i.blk ob2 } i o2) : Rep σ S (H.put b o2) { W with heap := W.heap.setIfInBounds i.blk ob2 } B ∧ Evo σ S W σ S { W with heap := W.heap.setIfInBounds i.blk ob2 } :=
  h.put_ (W' := { W with heap := W.heap.setIfInBounds i.blk ob2 }) hg hs hb (by simp) (heap_set (o' := ob2) hob).2 rfl rfl rfl ho
theorem list_arr {a : Array MapEntry} {l : List MapEntry} (h : a.toList = l) : a = l.toArray := by cases a; simpa using h
theorem next_sound (h : Rep σ S H W B) {it it' r : Value} {isS : Bool} {ty : TypeId} {H' : AH} (hi : VR σ S it it') (ha : anext H it isS = some (r, H')) : Shows P σ S H W B (Instr.next it' isS ty) r H' := by
  unfold anext at ha
  simp only [Option.bind_eq_bind, Option.bind_eq_some_iff] at ha
  obtain ⟨⟨b, off⟩, h1, h2⟩ := ha
  simp only at h2
  cases h0 : Nat.beq off 0 with
  | false => rw [h0] at h2; cases h2
  | true =>
    rw [h0] at h2
    have hoff : off = 0 := by simpa using h0
    subst hoff
    simp only [cond_true] at h2
    obtain ⟨a', rfl, hb, hi2⟩ := addrOf_vr h1 hi
    split at h2
    · rename_i s pos hg
      obtain ⟨_, i, hs, ⟨g1, g2⟩, _⟩ := h.live _ _ hg
      have ha' := hi2 i hs
      rw [g2] at ha'
      subst ha'
      cases hp : Nat.blt pos s.size with
      | true =>
        have hp' : pos < s.size := by simpa using hp
        rw [hp] at h2
        cases hbb : Nat.blt b 16777215 with
        | false => rw [hbb] at h2; cases h2
        | true =>
          rw [hbb] at h2
          simp only [Bool.and_self, cond_true] at h2
          injection h2 with h2
          injection h2 with h2 h3
          subst h2 h3
          have hput := put_obj (o2 := .sit s (pos + (Utf8.decode s pos).2)) (ob2 := .stringIter s (pos + (Utf8.decode s pos).2)) h hg hs (by simpa using hbb) g1 ⟨(heap_set g1).1, g2⟩
          refine ⟨σ, S, _, .tuple #[.bool true, .int .i64 pos, .int .i32 (Utf8.decode s pos).1], ?_, hput.1, hput.2, VR.flat 8 _ rfl, Taken.refl _ _⟩
          simp only [Instr.next, getObj, setObj, Sem.run_bind, Sem.run, g1, Result.andThen, hp', if_true]
          rfl
      | false =>
        rw [hp] at h2
        simp only [Bool.false_and, cond_false] at h2
        injection h2 with h2
        injection h2 with h2 h3
        subst h2 h3
        have hp' : ¬ pos < s.size := by intro e; have : Nat.blt pos s.size = true := by simpa using e
                                        rw [this] at hp; cases hp
        refine Shows.pure_ h (r' := .tuple #[.bool false]) ?_ (VR.flat 8 _ rfl)
        simp only [Instr.next, getObj, Sem.run_bind, Sem.run, g1, Result.andThen, hp', if_false]
        rfl
    · rename_i x y z hg
      obtain ⟨_, i, hs, ⟨m', g1, g2, g3⟩, _⟩ := h.live _ _ hg
      have ha' := hi2 i hs
      rw [g3] at ha'
      subst ha'
      cases g2
      injection h2 with h2
      injection h2 with h2 h3
      subst h2 h3
      refine Shows.pure_ h (r' := .tuple #[.bool false]) ?_ (VR.flat 8 _ rfl)
      simp only [Instr.next, getObj, Sem.run_bind, Sem.run, g1, Result.andThen]
      rfl
    · rename_i m since seen last hg
      obtain ⟨_, i, hs, ⟨m', g1, g2, g3⟩, _⟩ := h.live _ _ hg
      have ha' := hi2 i hs
      rw [g3] at ha'
      subst ha'
      unfold anextMap at h2
      split at h2
      case h_2 => cases h2
      rename_i es clock hgm
      obtain ⟨_, im, hsm, ⟨es', q1, q2, q3⟩, _⟩ := h.live _ _ hgm
      have hrel : ERs σ S es es'.toList := ⟨by simpa using q2, fun j e he => by obtain ⟨e', a, b⟩ := q3 j e he; exact ⟨e', by simpa using a, b⟩⟩
      cases g2 with
      | map _ mb hmb hmi =>
        have := hmi im hsm
        subst this
        cases htest : (!seen.isEmpty && !es.isEmpty && es.all fun e => decide (e.born ≥ last)) with
        | true => rw [htest] at h2; cases h2
        | false =>
          rw [htest] at h2
          simp only [cond_false] at h2
          have hemp : es'.isEmpty = es.isEmpty := by
            cases es with
            | nil => have : es' = #[] := Array.eq_empty_of_size_eq_zero q2.symm; subst this; rfl
            | cons x l =>
              have : 0 < es'.size := by rw [← q2]; simp
              simp [Array.isEmpty]
              intro e; rw [e] at this; simp at this
          have hall : (es'.all fun e => decide (e.born ≥ last)) = (es.all fun e => decide (e.born ≥ last)) := by
            rw [← Array.all_toList]
            exact ERs.all (fun k => decide (k ≥ last)) es es'.toList hrel
          have htest' : (!seen.toArray.isEmpty && !es'.isEmpty && es'.all fun e => decide (e.born ≥ last)) = false := by
            rw [hemp, hall]
            simpa using htest
          have hleft := ERs.filter (fun k => !seen.contains k) es es'.toList hrel
          have hold := ERs.filter (fun k => decide (k < since)) _ _ hleft
          have hnew := ERs.filter (fun k => decide (k ≥ since)) _ _ hleft
          have hf : ∀ q : MapEntry → Bool, ((es'.filter fun e => !seen.toArray.contains e.born).filter q).toList = ((es'.toList.filter fun e => !seen.contains e.born).filter q) := by
            intro q
            simp [Array.toList_filter]
          split at h2
          · rename_i ho hn
            injection h2 with h2
            injection h2 with h2 h3
            subst h2 h3
            rw [ho] at hold
            rw [hn] at hnew
            have ho' := list_arr ((hf (fun e => decide (e.born < since))).trans (List.eq_nil_of_length_eq_zero hold.1.symm))
            have hn' := list_arr ((hf (fun e => decide (e.born ≥ since))).trans (List.eq_nil_of_length_eq_zero hnew.1.symm))
            refine Shows.pure_ h (r' := .tuple #[.bool false]) ?_ (VR.flat 8 _ rfl)
            simp only [Instr.next, getObj, Sem.run_bind, Sem.run, g1, q1, Result.andThen, htest', Bool.false_eq_true, if_false, ho', hn', choose, Question.forced]
            rw [show ((if (#[] : Array MapEntry).isEmpty = true then #[none] else #[]) ++ Array.map some (#[] ++ #[])) = #[(none : Option MapEntry)] from by simp]
            rfl
          · rename_i e ho hn
            cases hbb : Nat.blt b 16777215 with
            | false => rw [hbb] at h2; cases h2
            | true =>
              rw [hbb] at h2
              simp only [cond_true] at h2
              injection h2 with h2
              injection h2 with h2 h3
              subst h2 h3
              rw [ho] at hold
              rw [hn] at hnew
              obtain ⟨e', he1, he2⟩ := hold.2 0 e rfl
              have hol : ((es'.toList.filter fun e => !seen.contains e.born).filter fun e => decide (e.born < since)) = [e'] := by
                cases hx : ((es'.toList.filter fun e => !seen.contains e.born).filter fun e => decide (e.born < since)) with
                | nil => rw [hx] at he1; simp at he1
                | cons y l =>
                  have h8 := hold.1
                  rw [hx] at he1 h8
                  simp at he1 h8
                  rw [he1, h8]
              have ho' := list_arr ((hf (fun e => decide (e.born < since))).trans hol)
              have hn' := list_arr ((hf (fun e => decide (e.born ≥ since))).trans (List.eq_nil_of_length_eq_zero hnew.1.symm))
              have hput := put_obj (o2 := .mit (some m) since (seen ++ [e.born]) clock) (ob2 := .mapIter (some im.blk) since (seen.toArray.push e'.born) clock) h hg hs (by simpa using hbb) g1
                ⟨some im.blk, by rw [(heap_set g1).1, he2.2.2.1]; simp, .map _ _ hmb hmi, g3⟩
              refine ⟨σ, S, _, .tuple #[.bool true, e'.key, e'.val], ?_, hput.1, hput.2, .tuple _ _ (.cons _ _ _ _ (.bool _) (.cons _ _ _ _ ?_ (.cons _ _ _ _ he2.2.2.2 .nil))), Taken.refl _ _⟩
              · simp only [Instr.next, getObj, setObj, Sem.run_bind, Sem.run, g1, q1, Result.andThen, htest', Bool.false_eq_true, if_false, ho', hn', choose, Question.forced]
                rw [show ((if (#[e'] : Array MapEntry).isEmpty = true then #[none] else #[]) ++ Array.map some (#[e'] ++ #[])) = #[some e'] from by simp]
                simp [Sem.run, g1]
              · rw [he2.1]
                exact VR.flat 8 _ he2.2.1
          · cases h2
    · cases h2
end
end
end Go.Proofs.YtfnamalajmfjbaaGreatDoor.Ev
