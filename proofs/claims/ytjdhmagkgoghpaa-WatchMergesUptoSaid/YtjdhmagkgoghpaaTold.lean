/- What After tells, plain: the told changes, and where they are cut. -/
import Derived.Test.YtjdhmagkgoghpaaLg
namespace Go.Proofs.Ytjdhmagkgoghpaa
set_option linter.unusedVariables false
/-- is a change told? -/
def tel (after : Int) (inn : ByteArray) (c : Ch) : Bool := decide (after < c.s) && (inn.toList.isEmpty || c.c.toList == inn.toList)
/-- how many of the first stand under one stamp -/
def grp : List Ch → Nat
  | [] => 0
  | x :: r => 1 + (r.takeWhile fun y => y.s == x.s).length
def cutF (limit : Int) (T : List Ch) : Nat → Nat → Nat
  | 0, n => n
  | f + 1, n => if T.length ≤ n then n else if 0 < n ∧ limit < ((n + grp (T.drop n) : Nat) : Int) then n else cutF limit T f (n + grp (T.drop n))
def cut (limit : Int) (T : List Ch) (n : Nat) : Nat := cutF limit T (T.length + 1) n
theorem grp_pos {l : List Ch} (h : 0 < l.length) : 0 < grp l := by
  cases l with
  | nil => simp at h
  | cons x r => simp [grp]; omega
theorem grp_le (l : List Ch) : grp l ≤ l.length := by
  cases l with
  | nil => simp [grp]
  | cons x r =>
    have := (List.takeWhile_sublist (p := fun y : Ch => y.s == x.s) (l := r)).length_le
    simp [grp]; omega
theorem cutF_fuel (limit : Int) (T : List Ch) : ∀ f f' n, T.length - n < f → T.length - n < f' → cutF limit T f n = cutF limit T f' n
  | 0, _, _, h, _ => by omega
  | _ + 1, 0, _, _, h => by omega
  | f + 1, f' + 1, n, h, h' => by
    simp only [cutF]
    split
    · rfl
    · split
      · rfl
      · rename_i hn _
        have := grp_pos (l := T.drop n) (by rw [List.length_drop]; omega)
        exact cutF_fuel limit T f f' _ (by omega) (by omega)
theorem cut_end (limit : Int) (T : List Ch) : cut limit T T.length = T.length := by simp [cut, cutF]
theorem cut_stop (limit : Int) (T : List Ch) (n : Nat) (hn : n < T.length) (h0 : 0 < n) (h : limit < ((n + grp (T.drop n) : Nat) : Int)) : cut limit T n = n := by
  unfold cut cutF
  rw [if_neg (by omega), if_pos ⟨h0, h⟩]
theorem cut_go (limit : Int) (T : List Ch) (n : Nat) (hn : n < T.length) (h : ¬ (0 < n ∧ limit < ((n + grp (T.drop n) : Nat) : Int))) : cut limit T n = cut limit T (n + grp (T.drop n)) := by
  have hp := grp_pos (l := T.drop n) (by rw [List.length_drop]; omega)
  unfold cut
  conv => lhs; unfold cutF
  rw [if_neg (by omega), if_neg h]
  exact cutF_fuel limit T _ _ _ (by omega) (by omega)
theorem cut_le (limit : Int) (T : List Ch) (n : Nat) (hn : n ≤ T.length) : cut limit T n ≤ T.length := by
  suffices ∀ f n, n ≤ T.length → cutF limit T f n ≤ T.length from this _ _ hn
  intro f
  induction f with
  | zero => intro n h; simpa [cutF] using h
  | succ f ih =>
    intro n h
    simp only [cutF]
    split
    · exact h
    · split
      · exact h
      · have := grp_le (T.drop n)
        rw [List.length_drop] at this
        exact ih _ (by omega)
/-- where it is cut -/
def cutAt (limit : Int) (T : List Ch) : Nat := if limit ≤ 0 then T.length else cut limit T 0
def toldL (L : List Ch) (after limit : Int) (inn : ByteArray) : List Ch := (L.filter (tel after inn)).take (cutAt limit (L.filter (tel after inn)))
def toldUp (L : List Ch) (after limit : Int) (inn : ByteArray) (last : Int) : Int :=
  if cutAt limit (L.filter (tel after inn)) = (L.filter (tel after inn)).length then max after last else ((L.filter (tel after inn))[cutAt limit (L.filter (tel after inn)) - 1]?.map Ch.s).getD 0
/-- stamps that do not fall -/
def Rises (L : List Ch) : Prop := L.Pairwise fun a b => a.s ≤ b.s
theorem takeWhile_head {l r : List Ch} {s : Int} (h1 : ∀ x ∈ l, x.s = s) (h2 : ∀ x, r.head? = some x → x.s ≠ s) : ((l ++ r).takeWhile fun y => y.s == s) = l := by
  induction l with
  | nil =>
    cases r with
    | nil => rfl
    | cons x r => simp [h2 x rfl]
  | cons y l ih =>
    have hy := h1 y (by simp)
    simp only [List.cons_append, List.takeWhile_cons, hy, beq_self_eq_true, if_true]
    rw [ih fun x hx => h1 x (by simp [hx])]
theorem grp_of {l r : List Ch} {s : Int} (hl : l ≠ []) (h1 : ∀ x ∈ l, x.s = s) (h2 : ∀ x, r.head? = some x → x.s ≠ s) : grp (l ++ r) = l.length := by
  cases l with
  | nil => exact absurd rfl hl
  | cons y l =>
    have hy := h1 y (by simp)
    simp only [List.cons_append, grp, hy]
    rw [takeWhile_head (fun x hx => h1 x (by simp [hx])) h2]
    simp; omega
theorem filter_split (p : Ch → Bool) (L : List Ch) (i k : Nat) (hik : i ≤ k) : L.filter p = (L.take i).filter p ++ (((L.take k).drop i).filter p ++ (L.drop k).filter p) := by
  have h1 : L = L.take k ++ L.drop k := (List.take_append_drop k L).symm
  have h2 : L.take k = (L.take k).take i ++ (L.take k).drop i := (List.take_append_drop i _).symm
  have h3 : (L.take k).take i = L.take i := by rw [List.take_take, Nat.min_eq_left hik]
  conv => lhs; rw [h1, h2, h3]
  rw [List.filter_append, List.filter_append, List.append_assoc]
/-- one group: how many of the told ones stand under its stamp -/
theorem grp_step (p : Ch → Bool) (L : List Ch) (hL : Rises L) (i k : Nat) (hik : i < k) (hk : k ≤ L.length) (s : Int) (hs : ∀ j (h : j < L.length), i ≤ j → j < k → L[j].s = s) (hend : ∀ (h : k < L.length), L[k].s ≠ s)
    (hne : ((L.take k).drop i).filter p ≠ []) : grp ((L.filter p).drop ((L.take i).filter p).length) = (((L.take k).drop i).filter p).length := by
  rw [filter_split p L i k (Nat.le_of_lt hik), List.drop_left]
  refine grp_of hne (s := s) ?_ ?_
  · intro x hx
    have hx := (List.mem_filter.1 hx).1
    obtain ⟨j, hj, rfl⟩ := List.getElem_of_mem hx
    rw [List.length_drop, List.length_take] at hj
    rw [List.getElem_drop, List.getElem_take]
    exact hs (i + j) (by omega) (by omega) (by omega)
  · intro x hx hxs
    have hm : x ∈ (L.drop k).filter p := List.mem_of_mem_head? hx
    have hx := (List.mem_filter.1 hm).1
    obtain ⟨j, hj, rfl⟩ := List.getElem_of_mem hx
    rw [List.length_drop] at hj
    rw [List.getElem_drop] at hxs
    have h0 := hend (by omega)
    have hi := hs i (by omega) (Nat.le_refl _) hik
    have hr := List.pairwise_iff_getElem.1 hL
    have h1 := hr i k (by omega) (by omega) hik
    rcases Nat.eq_zero_or_pos j with rfl | hj0
    · exact h0 hxs
    · have h2 := hr k (k + j) (by omega) (by omega) (by omega)
      omega
section
variable {after limit : Int} {inn : ByteArray} {L O S T : List Ch} {i k : Nat} {σ : Int} {last : Int}
theorem told_brk (hT : L.filter (tel after inn) = T) (hR : Rises L) (hik : i < k) (hk : k ≤ L.length) (hs : ∀ j (h : j < L.length), i ≤ j → j < k → L[j].s = σ) (hend : ∀ (h : k < L.length), L[k].s ≠ σ)
    (hO : (L.take i).filter (tel after inn) = O) (hS : ((L.take k).drop i).filter (tel after inn) = S) (hcut : 0 < limit → cut limit T O.length = cut limit T 0)
    (h1 : 0 < limit) (h2 : 0 < O.length) (h3 : limit < (O.length : Int) + S.length) (h4 : 0 < S.length) (z : Ch) (hz : O[O.length - 1]? = some z) : toldL L after limit inn = O ∧ toldUp L after limit inn last = z.s := by
  have hTe : T = O ++ (S ++ (L.drop k).filter (tel after inn)) := by rw [← hT, ← hO, ← hS]; exact filter_split _ L i k (Nat.le_of_lt hik)
  have hg : grp (T.drop O.length) = S.length := by
    rw [← hT, ← hO, ← hS]
    exact grp_step _ L hR i k hik hk σ hs hend (by rw [hS]; exact List.ne_nil_of_length_pos h4)
  have hc : cutAt limit T = O.length := by
    unfold cutAt
    rw [if_neg (by omega), ← hcut h1]
    exact cut_stop limit T _ (by rw [hTe, List.length_append, List.length_append]; omega) h2 (by rw [hg]; omega)
  have hlt : O.length < T.length := by rw [hTe, List.length_append, List.length_append]; omega
  unfold toldL toldUp
  rw [hT, hc]
  refine ⟨by rw [hTe]; simp, ?_⟩
  rw [if_neg (by omega)]
  have : ∀ r, (O ++ r)[O.length - 1]? = some z := fun r => by
    rw [List.getElem?_append_left (by omega)]
    exact hz
  rw [hTe, this]
  rfl
theorem told_go (hT : L.filter (tel after inn) = T) (hR : Rises L) (hik : i < k) (hk : k ≤ L.length) (hs : ∀ j (h : j < L.length), i ≤ j → j < k → L[j].s = σ) (hend : ∀ (h : k < L.length), L[k].s ≠ σ)
    (hO : (L.take i).filter (tel after inn) = O) (hS : ((L.take k).drop i).filter (tel after inn) = S) (hcut : 0 < limit → cut limit T O.length = cut limit T 0)
    (hb : ¬ (0 < limit ∧ 0 < O.length ∧ limit < (O.length : Int) + S.length ∧ 0 < S.length)) : (L.take k).filter (tel after inn) = O ++ S ∧ (0 < limit → cut limit T (O ++ S).length = cut limit T 0) := by
  have hTe : T = O ++ (S ++ (L.drop k).filter (tel after inn)) := by rw [← hT, ← hO, ← hS]; exact filter_split _ L i k (Nat.le_of_lt hik)
  constructor
  · have h2 : L.take k = (L.take k).take i ++ (L.take k).drop i := (List.take_append_drop i _).symm
    rw [List.take_take, Nat.min_eq_left (Nat.le_of_lt hik)] at h2
    rw [h2, List.filter_append, hO, hS]
  · intro hl
    rw [← hcut hl, List.length_append]
    rcases Nat.eq_zero_or_pos S.length with h0 | h0
    · rw [h0]; rfl
    · have hg : grp (T.drop O.length) = S.length := by
        rw [← hT, ← hO, ← hS]
        exact grp_step _ L hR i k hik hk σ hs hend (by rw [hS]; exact List.ne_nil_of_length_pos h0)
      have := cut_go limit T O.length (by rw [hTe, List.length_append, List.length_append]; omega) (by rw [hg]; rintro ⟨a, b⟩; exact hb ⟨hl, a, by omega, h0⟩)
      rw [this, hg]
theorem told_end (hT : L.filter (tel after inn) = T) (hO : (L.take i).filter (tel after inn) = O) (hi : L.length ≤ i) (hcut : 0 < limit → cut limit T O.length = cut limit T 0) : toldL L after limit inn = O ∧ toldUp L after limit inn last = max after last := by
  rw [List.take_of_length_le hi, hT] at hO
  subst hO
  have hc : cutAt limit T = T.length := by
    unfold cutAt
    split
    · rfl
    · rw [← hcut (by omega)]; exact cut_end _ _
  unfold toldL toldUp
  rw [hT, hc]
  exact ⟨List.take_length, if_pos rfl⟩
end
end Go.Proofs.Ytjdhmagkgoghpaa
