/- Several lists of changes in one, as plain lists: always the first list whose head has the least stamp. -/
import Derived.Test.YtjdhmagkgoghpaaFi
namespace Go.Proofs.Ytjdhmagkgoghpaa
set_option linter.unusedVariables false
/-- the place of the least head among the first k lists -/
def leastAt (ls : List (List Ch)) : Nat → Option Nat
  | 0 => none
  | k + 1 => match ls[k]? with
    | some (x :: _) => match leastAt ls k with
      | none => some k
      | some j => match ls[j]? with
        | some (y :: _) => if x.s < y.s then some k else some j
        | _ => some j
    | _ => leastAt ls k
section
variable {ls : List (List Ch)} {k j : Nat} {x y : Ch} {t r : List Ch}
theorem least_empty (h : ls[k]? = some []) : leastAt ls (k + 1) = leastAt ls k := by simp [leastAt, h]
theorem least_first (h : ls[k]? = some (x :: t)) (h0 : leastAt ls k = none) : leastAt ls (k + 1) = some k := by simp [leastAt, h, h0]
theorem least_less (h : ls[k]? = some (x :: t)) (h0 : leastAt ls k = some j) (hj : ls[j]? = some (y :: r)) (hl : x.s < y.s) : leastAt ls (k + 1) = some k := by simp [leastAt, h, h0, hj, hl]
theorem least_not (h : ls[k]? = some (x :: t)) (h0 : leastAt ls k = some j) (hj : ls[j]? = some (y :: r)) (hl : ¬ x.s < y.s) : leastAt ls (k + 1) = some j := by simp [leastAt, h, h0, hj, hl]
theorem least_some {k : Nat} (hk : k ≤ ls.length) : ∀ {j : Nat}, leastAt ls k = some j → j < k ∧ ∃ y r, ls[j]? = some (y :: r) ∧ ∀ i, i < k → ∀ x t, ls[i]? = some (x :: t) → y.s ≤ x.s := by
  induction k with
  | zero => intro j h; simp [leastAt] at h
  | succ k ih =>
    intro j h
    obtain ⟨l, hl⟩ : ∃ l, ls[k]? = some l := ⟨_, List.getElem?_eq_getElem (by omega)⟩
    rcases l with _ | ⟨x, t⟩
    · rw [least_empty hl] at h
      obtain ⟨h1, y, r, h2, h3⟩ := ih (by omega) h
      refine ⟨by omega, y, r, h2, fun i hi x t hx => ?_⟩
      rcases Nat.lt_or_ge i k with h5 | h5
      · exact h3 i h5 x t hx
      · obtain rfl : i = k := by omega
        rw [hl] at hx
        cases hx
    · cases h0 : leastAt ls k with
      | none =>
        rw [least_first hl h0] at h
        injection h with h
        subst h
        refine ⟨by omega, x, t, hl, fun i hi z u hz => ?_⟩
        rcases Nat.lt_or_ge i k with h5 | h5
        · exfalso
          clear hl ih hi
          induction k with
          | zero => omega
          | succ k ih2 =>
            obtain ⟨l, hl⟩ : ∃ l, ls[k]? = some l := ⟨_, List.getElem?_eq_getElem (by omega)⟩
            rcases l with _ | ⟨a, b⟩
            · rw [least_empty hl] at h0
              rcases Nat.lt_or_ge i k with h6 | h6
              · exact ih2 (by omega) h0 h6
              · obtain rfl : i = k := by omega
                rw [hl] at hz
                cases hz
            · cases h1 : leastAt ls k with
              | none => rw [least_first hl h1] at h0; cases h0
              | some q =>
                simp only [leastAt, hl, h1] at h0
                split at h0
                · split at h0 <;> cases h0
                · cases h0
        · obtain rfl : i = k := by omega
          rw [hl] at hz
          injection hz with hz
          injection hz with hz
          rw [hz]
          exact Int.le_refl _
      | some q =>
        obtain ⟨h1, y, r, h2, h3⟩ := ih (by omega) h0
        by_cases hlt : x.s < y.s
        · rw [least_less hl h0 h2 hlt] at h
          injection h with h
          subst h
          refine ⟨by omega, x, t, hl, fun i hi z u hz => ?_⟩
          rcases Nat.lt_or_ge i k with h5 | h5
          · have := h3 i h5 z u hz
            omega
          · obtain rfl : i = k := by omega
            rw [hl] at hz
            injection hz with hz
            injection hz with hz
            rw [hz]
            exact Int.le_refl _
        · rw [least_not hl h0 h2 hlt] at h
          injection h with h
          subst h
          refine ⟨by omega, y, r, h2, fun i hi z u hz => ?_⟩
          rcases Nat.lt_or_ge i k with h5 | h5
          · exact h3 i h5 z u hz
          · obtain rfl : i = k := by omega
            rw [hl] at hz
            injection hz with hz
            injection hz with hz
            rw [← hz]
            omega
theorem least_none {k : Nat} (hk : k ≤ ls.length) (h : leastAt ls k = none) : ∀ i, i < k → ls[i]? = some [] := by
  induction k with
  | zero => intro i hi; omega
  | succ k ih =>
    intro i hi
    obtain ⟨l, hl⟩ : ∃ l, ls[k]? = some l := ⟨_, List.getElem?_eq_getElem (by omega)⟩
    rcases l with _ | ⟨x, t⟩
    · rw [least_empty hl] at h
      rcases Nat.lt_or_ge i k with h5 | h5
      · exact ih (by omega) h i h5
      · obtain rfl : i = k := by omega
        exact hl
    · exfalso
      cases h0 : leastAt ls k with
      | none => rw [least_first hl h0] at h; cases h
      | some q =>
        simp only [leastAt, hl, h0] at h
        split at h
        · split at h <;> cases h
        · cases h
end
/-- how many changes -/
def tot (ls : List (List Ch)) : Nat := (ls.map List.length).sum
theorem tot_set {ls : List (List Ch)} {j : Nat} {y : Ch} {r : List Ch} (h : ls[j]? = some (y :: r)) : tot ls = tot (ls.set j r) + 1 := by
  induction ls generalizing j with
  | nil => simp at h
  | cons l ls ih =>
    cases j with
    | zero => simp at h; subst h; simp [tot]; omega
    | succ j =>
      have h' : ls[j]? = some (y :: r) := by simpa using h
      have := ih h'
      simp [tot] at this ⊢
      omega
theorem tot_nil {ls : List (List Ch)} (h : ∀ i, i < ls.length → ls[i]? = some []) : tot ls = 0 := by
  induction ls with
  | nil => rfl
  | cons l ls ih =>
    have h0 := h 0 (by simp)
    simp at h0
    subst h0
    have := ih fun i hi => by have := h (i + 1) (by simpa using hi); simpa using this
    simp [tot] at this ⊢
    exact this
theorem tot_take (ls : List (List Ch)) (k : Nat) (hk : k < ls.length) : tot (ls.take (k + 1)) = tot (ls.take k) + (ls[k]).length := by
  rw [List.take_succ_eq_append_getElem hk]
  unfold tot
  rw [List.map_append, List.sum_append]
  simp only [List.map_cons, List.map_nil, List.sum_cons, List.sum_nil, Nat.add_zero]
theorem tot_take_le (ls : List (List Ch)) (k : Nat) : tot (ls.take k) ≤ tot ls := by
  induction ls generalizing k with
  | nil => simp [tot]
  | cons l ls ih =>
    cases k with
    | zero => simp [tot]
    | succ k => have := ih k; simp [tot] at this ⊢; exact this
theorem len_le_tot {ls : List (List Ch)} {k : Nat} {l : List Ch} (h : ls[k]? = some l) : l.length ≤ tot ls := by
  have hk : k < ls.length := (List.getElem?_eq_some_iff.1 h).1
  have e : ls[k] = l := (List.getElem?_eq_some_iff.1 h).2
  have h1 := tot_take ls k hk
  have h2 := tot_take_le ls (k + 1)
  rw [e] at h1
  omega
/-- the lists in one, with so many steps at most -/
def mg : Nat → List (List Ch) → List Ch
  | 0, _ => []
  | f + 1, ls => match leastAt ls ls.length with
    | none => []
    | some j => match ls[j]? with
      | some (y :: r) => y :: mg f (ls.set j r)
      | _ => []
def merge (ls : List (List Ch)) : List Ch := mg (tot ls) ls
theorem merge_none {ls : List (List Ch)} (h : leastAt ls ls.length = none) : merge ls = [] := by
  unfold merge
  cases tot ls with
  | zero => rfl
  | succ f => simp [mg, h]
theorem merge_some {ls : List (List Ch)} {j : Nat} {y : Ch} {r : List Ch} (h : leastAt ls ls.length = some j) (hj : ls[j]? = some (y :: r)) : merge ls = y :: merge (ls.set j r) := by
  unfold merge
  rw [tot_set hj]
  simp [mg, h, hj]
theorem merge_ind {P : List (List Ch) → Prop} (h0 : ∀ ls, leastAt ls ls.length = none → P ls)
    (h1 : ∀ ls j y r, leastAt ls ls.length = some j → ls[j]? = some (y :: r) → P (ls.set j r) → P ls) : ∀ ls, P ls := by
  intro ls
  obtain ⟨n, hn⟩ : ∃ n, tot ls = n := ⟨_, rfl⟩
  induction n generalizing ls with
  | zero =>
    cases h : leastAt ls ls.length with
    | none => exact h0 ls h
    | some j =>
      obtain ⟨_, y, r, h2, _⟩ := least_some (Nat.le_refl _) h
      have := tot_set h2
      omega
  | succ n ih =>
    cases h : leastAt ls ls.length with
    | none => exact h0 ls h
    | some j =>
      obtain ⟨_, y, r, h2, _⟩ := least_some (Nat.le_refl _) h
      have := tot_set h2
      exact h1 ls j y r h h2 (ih _ (by omega))
theorem merge_length (ls : List (List Ch)) : (merge ls).length = tot ls := by
  refine merge_ind (P := fun ls => (merge ls).length = tot ls) (fun ls h => ?_) (fun ls j y r h hj ih => ?_) ls
  · rw [merge_none h, tot_nil (least_none (Nat.le_refl _) h)]
    rfl
  · rw [merge_some h hj, tot_set hj, List.length_cons, ih]
theorem mem_set {ls : List (List Ch)} {j : Nat} {y : Ch} {r : List Ch} (hj : ls[j]? = some (y :: r)) {l : List Ch} (h : l ∈ ls.set j r) : ∃ l' ∈ ls, ∀ x ∈ l, x ∈ l' := by
  rcases List.mem_or_eq_of_mem_set h with h | h
  · exact ⟨l, h, fun _ hx => hx⟩
  · subst h
    exact ⟨y :: l, List.mem_of_getElem? hj, fun x hx => by simp [hx]⟩
theorem merge_mem (ls : List (List Ch)) : ∀ x ∈ merge ls, ∃ l ∈ ls, x ∈ l := by
  refine merge_ind (P := fun ls => ∀ x ∈ merge ls, ∃ l ∈ ls, x ∈ l) (fun ls h => ?_) (fun ls j y r h hj ih => ?_) ls
  · rw [merge_none h]; simp
  · rw [merge_some h hj]
    intro x hx
    rcases List.mem_cons.1 hx with rfl | hx
    · exact ⟨_, List.mem_of_getElem? hj, by simp⟩
    · obtain ⟨l, hl, hxl⟩ := ih x hx
      obtain ⟨l', hl', hs⟩ := mem_set hj hl
      exact ⟨l', hl', hs x hxl⟩
theorem merge_rises (ls : List (List Ch)) : (∀ l ∈ ls, Rises l) → Rises (merge ls) := by
  refine merge_ind (P := fun ls => (∀ l ∈ ls, Rises l) → Rises (merge ls)) (fun ls h _ => ?_) (fun ls j y r h hj ih hr => ?_) ls
  · rw [merge_none h]; simp [Rises]
  · rw [merge_some h hj]
    have hset : ∀ l ∈ ls.set j r, Rises l := by
      intro l hl
      rcases List.mem_or_eq_of_mem_set hl with hl | hl
      · exact hr l hl
      · subst hl
        exact (List.pairwise_cons.1 (hr _ (List.mem_of_getElem? hj))).2
    refine List.pairwise_cons.2 ⟨fun x hx => ?_, ih hset⟩
    obtain ⟨l, hl, hxl⟩ := merge_mem _ x hx
    obtain ⟨l', hl', hs⟩ := mem_set hj hl
    obtain ⟨i, hi, hi'⟩ := List.getElem_of_mem hl'
    obtain ⟨_, y', r', hy', hmin⟩ := least_some (Nat.le_refl _) h
    rw [hj] at hy'
    injection hy' with hy'
    injection hy' with e1 e2
    subst e1 e2
    rcases l' with _ | ⟨z, u⟩
    · exact absurd (hs x hxl) (by simp)
    · have hz := hmin i hi z u (by rw [List.getElem?_eq_getElem hi, hi'])
      have hrl := hr _ hl'
      rcases List.mem_cons.1 (hs x hxl) with rfl | hx2
      · exact hz
      · have := (List.pairwise_cons.1 hrl).1 x hx2
        omega
end Go.Proofs.Ytjdhmagkgoghpaa
