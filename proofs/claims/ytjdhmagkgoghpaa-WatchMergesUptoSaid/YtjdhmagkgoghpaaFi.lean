/- Whoever asks again and again: plain. What is owed is what stands behind the stamp up to which was told. -/
import Derived.Test.YtjdhmagkgoghpaaTold
namespace Go.Proofs.Ytjdhmagkgoghpaa
set_option linter.unusedVariables false
def newer (after : Int) (c : Ch) : Bool := decide (after < c.s)
theorem tel_empty (after : Int) : tel after ⟨#[]⟩ = newer after := by
  funext c
  simp [tel, newer, ByteArray.toList_eq]
/-- The log, how far was told, what is owed. -/
structure FI (l : Lg) (after : Int) (owed : List Ch) (G : List Ch) : Prop where
  rises : Rises (G ++ l.L)
  le_last : ∀ c ∈ G ++ l.L, c.s ≤ l.last
  owed_ : owed = (G ++ l.L).filter (newer after)
  after_last : after ≤ l.last
  after_0 : 0 ≤ after
  gone_le : ∀ c ∈ G, c.s ≤ l.hor
  gone_is : (G = [] ∧ l.hor = 0) ∨ ∃ c ∈ G, c.s = l.hor
  full : G ≠ [] → l.L.length = l.keep
  most : l.L.length ≤ l.keep
theorem FI.start (keep : Nat) : FI ⟨keep, [], 0, 0⟩ 0 [] [] :=
  ⟨by simp [Rises], by simp, rfl, Int.le_refl _, Int.le_refl _, by simp, .inl ⟨rfl, rfl⟩, by simp, by simp⟩
section
variable {l : Lg} {after : Int} {owed G : List Ch}
theorem FI.rises_L (h : FI l after owed G) : Rises l.L := (List.pairwise_append.1 h.rises).2.1
theorem FI.gone (h : FI l after owed G) (ha : after < l.hor) : l.keep < owed.length := by
  rcases h.gone_is with ⟨_, h0⟩ | ⟨c, hc, hs⟩
  · have := h.after_0; omega
  · have hne : G ≠ [] := by rintro rfl; simp at hc
    have h1 : l.L.filter (newer after) = l.L := by
      rw [List.filter_eq_self]
      intro x hx
      have := (List.pairwise_append.1 h.rises).2.2 c hc x hx
      simp only [newer, decide_eq_true_eq]
      omega
    have h2 : 0 < (G.filter (newer after)).length := List.length_pos_of_mem (List.mem_filter.2 ⟨hc, by simp only [newer, decide_eq_true_eq]; omega⟩)
    rw [h.owed_, List.filter_append, List.length_append, h1, h.full hne]
    omega
theorem filter_none {p : Ch → Bool} {L : List Ch} (h : ∀ c ∈ L, p c = false) : L.filter p = [] := by
  rw [List.filter_eq_nil_iff]
  intro c hc
  simp [h c hc]
theorem FI.told (h : FI l after owed G) (ha : l.hor ≤ after) : owed = l.L.filter (newer after) := by
  rw [h.owed_, List.filter_append, filter_none (L := G), List.nil_append]
  intro c hc
  have := h.gone_le c hc
  simp only [newer, decide_eq_false_iff_not]
  omega
/-- where a group begins -/
def Bd (T : List Ch) (n : Nat) : Prop := ∀ (h : n < T.length) (h0 : 0 < n), (T[n - 1]'(by omega)).s ≠ (T[n]).s
theorem takeWhile_next {p : Ch → Bool} : ∀ {l : List Ch} (h : (l.takeWhile p).length < l.length), p (l[(l.takeWhile p).length]) = false
  | x :: r, h => by
    by_cases hp : p x = true
    · simp only [List.takeWhile_cons, hp, if_true, List.length_cons, List.getElem_cons_succ] at h ⊢
      exact takeWhile_next (by omega)
    · simp only [List.takeWhile_cons, hp] at h ⊢
      simpa using hp
theorem takeWhile_all {p : Ch → Bool} : ∀ {l : List Ch} {j : Nat} (h : j < (l.takeWhile p).length) (hl : j < l.length), p l[j] = true
  | x :: r, j, h, hl => by
    by_cases hp : p x = true
    · simp only [List.takeWhile_cons, hp, if_true] at h
      cases j with
      | zero => exact hp
      | succ j =>
        simp only [List.length_cons] at h
        simp only [List.getElem_cons_succ]
        exact takeWhile_all (by omega) _
    · simp [hp] at h
theorem Bd.next (T : List Ch) (n : Nat) (hn : n < T.length) : Bd T (n + grp (T.drop n)) := by
  intro h h0
  obtain ⟨x, r, hx⟩ : ∃ x r, T.drop n = x :: r := by
    cases e : T.drop n with
    | nil => have := congrArg List.length e; simp at this; omega
    | cons x r => exact ⟨x, r, rfl⟩
  have hget : ∀ j (hj : n + j < T.length) (hj' : j < (x :: r).length), T[n + j] = (x :: r)[j] := by
    intro j hj hj'
    have : (T.drop n)[j]? = (x :: r)[j]? := by rw [hx]
    rw [List.getElem?_drop, List.getElem?_eq_getElem hj, List.getElem?_eq_getElem hj'] at this
    injection this
  have hlen : (x :: r).length = T.length - n := by rw [← hx, List.length_drop]
  simp only [hx, grp] at h ⊢
  have hr : (r.takeWhile fun y => y.s == x.s).length < r.length := by simp at hlen; omega
  have h1 := takeWhile_next hr
  have e1 : T[n + (1 + (r.takeWhile fun y => y.s == x.s).length)] = r[(r.takeWhile fun y => y.s == x.s).length] := by
    rw [hget _ h (by simp; omega)]
    simp [Nat.add_comm 1]
  have e2 : (T[n + (1 + (r.takeWhile fun y => y.s == x.s).length) - 1]'(by omega)).s = x.s := by
    have e3 : n + (1 + (r.takeWhile fun y => y.s == x.s).length) - 1 = n + (r.takeWhile fun y => y.s == x.s).length := by omega
    simp only [e3]
    rw [hget _ (by omega) (by simp; omega)]
    have hall : ∀ j (hj : j < (x :: r).length), j ≤ (r.takeWhile fun y => y.s == x.s).length → ((x :: r)[j]).s = x.s := by
      intro j hj hle
      cases j with
      | zero => rfl
      | succ k =>
        simp only [List.getElem_cons_succ]
        have := takeWhile_all (p := fun y : Ch => y.s == x.s) (l := r) (j := k) (by omega) (by simpa using hj)
        simpa using this
    exact hall _ _ (Nat.le_refl _)
  rw [e2, e1]
  simp only [beq_eq_false_iff_ne] at h1
  exact fun e => h1 e.symm
theorem cut_bd (limit : Int) (T : List Ch) : Bd T (cut limit T 0) ∧ (0 < T.length → 0 < cut limit T 0) := by
  have hF : ∀ f n, Bd T n → Bd T (cutF limit T f n) ∧ n ≤ cutF limit T f n := by
    intro f
    induction f with
    | zero => intro n h; exact ⟨h, Nat.le_refl _⟩
    | succ f ih =>
      intro n h
      simp only [cutF]
      split
      · exact ⟨h, Nat.le_refl _⟩
      · split
        · exact ⟨h, Nat.le_refl _⟩
        · rename_i hn _
          have := ih _ (Bd.next T n (by omega))
          exact ⟨this.1, by omega⟩
  have h0 : Bd T 0 := fun _ h => by omega
  refine ⟨(hF _ 0 h0).1, fun hl => ?_⟩
  rw [cut_go limit T 0 hl (by omega)]
  have := (hF (T.length + 1) _ (Bd.next T 0 hl)).2
  have hp := grp_pos (l := T.drop 0) (by simpa using hl)
  exact Nat.lt_of_lt_of_le (by omega) this
theorem cutAt_bd (limit : Int) (T : List Ch) : Bd T (cutAt limit T) ∧ (0 < T.length → 0 < cutAt limit T) ∧ cutAt limit T ≤ T.length := by
  unfold cutAt
  split
  · exact ⟨fun h => by omega, fun h => h, Nat.le_refl _⟩
  · exact ⟨(cut_bd limit T).1, (cut_bd limit T).2, cut_le limit T 0 (Nat.zero_le _)⟩
theorem filter_rise (T : List Ch) (hT : Rises T) (r : Nat) (hr : r < T.length) (h0 : 0 < r) (hb : Bd T r) (z : Ch) (hz : T[r - 1]'(by omega) = z) : T.filter (newer z.s) = T.drop r := by
  have hp := List.pairwise_iff_getElem.1 hT
  have hlt : z.s < (T[r]).s := by
    have h1 := hp (r - 1) r (by omega) hr (by omega)
    have h2 := hb hr h0
    rw [hz] at h1 h2
    omega
  have e1 : (T.take r).filter (newer z.s) = [] := by
    apply filter_none
    intro c hc
    obtain ⟨j, hj, rfl⟩ := List.getElem_of_mem hc
    rw [List.length_take] at hj
    rw [List.getElem_take]
    simp only [newer, decide_eq_false_iff_not]
    rcases Nat.lt_or_ge j (r - 1) with h | h
    · have := hp j (r - 1) (by omega) (by omega) h
      rw [hz] at this
      omega
    · have : j = r - 1 := by omega
      subst this
      rw [hz]
      omega
  have e2 : (T.drop r).filter (newer z.s) = T.drop r := by
    rw [List.filter_eq_self]
    intro c hc
    obtain ⟨j, hj, rfl⟩ := List.getElem_of_mem hc
    rw [List.length_drop] at hj
    rw [List.getElem_drop]
    simp only [newer, decide_eq_true_eq]
    rcases Nat.eq_zero_or_pos j with rfl | hj0
    · simpa using hlt
    · have := hp r (r + j) hr (by omega) (by omega)
      omega
  clear hz
  conv => lhs; rw [← List.take_append_drop r T]
  rw [List.filter_append, e1, e2, List.nil_append]
theorem FI.ask (h : FI l after owed G) (ha : l.hor ≤ after) (lim : Int) :
    (toldL l.L after lim ⟨#[]⟩).length ≤ owed.length ∧ owed.take (toldL l.L after lim ⟨#[]⟩).length = toldL l.L after lim ⟨#[]⟩ ∧ after ≤ toldUp l.L after lim ⟨#[]⟩ l.last ∧
      (0 < owed.length → 0 < (toldL l.L after lim ⟨#[]⟩).length) ∧ FI l (toldUp l.L after lim ⟨#[]⟩ l.last) (owed.drop (toldL l.L after lim ⟨#[]⟩).length) G := by
  have ho := h.told ha
  obtain ⟨b1, b2, b3⟩ := cutAt_bd lim owed
  have hrT : Rises owed := by rw [ho]; exact List.Pairwise.sublist List.filter_sublist h.rises_L
  have e1 : toldL l.L after lim ⟨#[]⟩ = owed.take (cutAt lim owed) := by unfold toldL; rw [tel_empty, ← ho]
  have e2 : (toldL l.L after lim ⟨#[]⟩).length = cutAt lim owed := by rw [e1, List.length_take]; omega
  have hall : ∀ c ∈ owed, after < c.s ∧ c.s ≤ l.last := by
    intro c hc
    rw [ho] at hc
    have h1 := List.mem_filter.1 hc
    exact ⟨by simpa [newer] using h1.2, h.le_last c (List.mem_append.2 (.inr h1.1))⟩
  rw [e2]
  refine ⟨b3, e1.symm, ?_⟩
  unfold toldUp
  rw [tel_empty, ← ho]
  by_cases hc : cutAt lim owed = owed.length
  · rw [if_pos hc, hc]
    refine ⟨by omega, fun h => h, ?_⟩
    have hm : max after l.last = l.last := by have := h.after_last; omega
    rw [hm, List.drop_length]
    refine ⟨h.rises, h.le_last, ?_, Int.le_refl _, by have := h.after_0; have := h.after_last; omega, h.gone_le, h.gone_is, h.full, h.most⟩
    rw [filter_none]
    intro c hc
    have := h.le_last c hc
    simp only [newer, decide_eq_false_iff_not]
    omega
  · have hr : cutAt lim owed < owed.length := by omega
    have h0 := b2 (by omega)
    rw [if_neg hc]
    obtain ⟨z, hz⟩ : ∃ z, owed[cutAt lim owed - 1]'(by omega) = z := ⟨_, rfl⟩
    have hz2 : owed[cutAt lim owed - 1]? = some z := by rw [← hz]; exact List.getElem?_eq_getElem _
    rw [hz2]
    have hm := hall z (by rw [← hz]; exact List.getElem_mem _)
    show after ≤ z.s ∧ _ ∧ FI l z.s _ _
    refine ⟨by omega, fun _ => h0, h.rises, h.le_last, ?_, hm.2, by have := h.after_0; omega, h.gone_le, h.gone_is, h.full, h.most⟩
    rw [← filter_rise owed hrT _ hr h0 b1 z hz]
    clear hz hz2 hr h0 hc e1 e2 b1 b2 b3
    rw [h.owed_, List.filter_filter]
    apply List.filter_congr
    intro c _
    simp only [newer]
    have := hm.1
    by_cases h1 : z.s < c.s <;> simp [h1] <;> omega
theorem FI.put (h : FI l after owed G) (s : Int) (cs : List Ch) (hk : 0 < l.keep) : ∃ G', FI (l.put s cs) after (if s ≤ l.last ∨ cs.length = 0 then owed else owed ++ stampAll s cs) G' := by
  by_cases hc : s ≤ l.last ∨ cs.length = 0
  · rw [put_same l s cs hc, if_pos hc]
    exact ⟨G, h⟩
  · rw [if_neg hc]
    have hs : l.last < s := by omega
    have hm : 0 < cs.length := by omega
    have hst : ∀ c ∈ stampAll s cs, c.s = s := by
      intro c hc
      simp only [stampAll, List.mem_map] at hc
      obtain ⟨x, _, rfl⟩ := hc
      rfl
    have hr : Rises (G ++ (l.L ++ stampAll s cs)) := by
      rw [← List.append_assoc]
      unfold Rises
      rw [List.pairwise_append]
      refine ⟨h.rises, ?_, fun a ha b hb => ?_⟩
      · rw [List.pairwise_iff_getElem]
        intro i j hi hj hij
        rw [hst _ (List.getElem_mem hi), hst _ (List.getElem_mem hj)]
        exact Int.le_refl _
      · have := h.le_last a ha
        rw [hst b hb]
        omega
    have hle : ∀ c ∈ G ++ (l.L ++ stampAll s cs), c.s ≤ s := by
      intro c hc
      rw [← List.append_assoc, List.mem_append] at hc
      rcases hc with hc | hc
      · have := h.le_last c hc; omega
      · rw [hst c hc]; exact Int.le_refl _
    have ho : owed ++ stampAll s cs = (G ++ (l.L ++ stampAll s cs)).filter (newer after) := by
      rw [← List.append_assoc, List.filter_append, ← h.owed_]
      congr 1
      symm
      rw [List.filter_eq_self]
      intro c hc
      have := hst c hc
      have := h.after_last
      simp only [newer, decide_eq_true_eq]
      omega
    have hal : after ≤ s := by have := h.after_last; omega
    by_cases hf : l.L.length + cs.length ≤ l.keep
    · rw [put_fits l s cs hs hm hf]
      refine ⟨G, hr, hle, ho, hal, h.after_0, h.gone_le, h.gone_is, fun hG => ?_, ?_⟩
      · have := h.full hG; omega
      · show (l.L ++ stampAll s cs).length ≤ l.keep
        rw [List.length_append, stampAll_length]; exact hf
    · obtain ⟨n, hn⟩ : ∃ n, l.L.length + cs.length - l.keep = n := ⟨_, rfl⟩
      have hlen : (l.L ++ stampAll s cs).length = l.L.length + cs.length := by rw [List.length_append, stampAll_length]
      have hn1 : n - 1 < (l.L ++ stampAll s cs).length := by omega
      rw [put_goes l s cs hs hm (by omega) ((l.L ++ stampAll s cs)[n - 1]) (by rw [hn]; exact List.getElem?_eq_getElem hn1), hn]
      have hsplit : G ++ (l.L ++ stampAll s cs) = (G ++ (l.L ++ stampAll s cs).take n) ++ (l.L ++ stampAll s cs).drop n := by
        rw [List.append_assoc, List.take_append_drop]
      have hr2 := hr
      rw [hsplit] at hr hle ho
      have hmem : (l.L ++ stampAll s cs)[n - 1] ∈ (l.L ++ stampAll s cs).take n := by
        rw [List.mem_take_iff_getElem]
        exact ⟨n - 1, by omega, rfl⟩
      refine ⟨G ++ (l.L ++ stampAll s cs).take n, hr, hle, ho, hal, h.after_0, ?_, .inr ⟨_, List.mem_append.2 (.inr hmem), rfl⟩, fun _ => ?_, ?_⟩
      · intro c hc
        rw [List.mem_append] at hc
        have hp := List.pairwise_append.1 hr2
        rcases hc with hc | hc
        · exact hp.2.2 c hc _ (List.getElem_mem hn1)
        · obtain ⟨j, hj, rfl⟩ := List.mem_take_iff_getElem.1 hc
          rcases Nat.lt_or_ge j (n - 1) with h1 | h1
          · exact List.pairwise_iff_getElem.1 hp.2.1 j (n - 1) (by omega) hn1 h1
          · have : j = n - 1 := by omega
            subst this
            exact Int.le_refl _
      · show ((l.L ++ stampAll s cs).drop n).length = l.keep
        rw [List.length_drop]; omega
      · show ((l.L ++ stampAll s cs).drop n).length ≤ l.keep
        rw [List.length_drop]; omega
end
end Go.Proofs.Ytjdhmagkgoghpaa
