/- A slice of changes that begins anywhere in a row of the call's own: append and cuts. -/
import Derived.Test.YtjdhmagkgoghpaaApp
import Derived.ArgAppend
namespace Go.Proofs.Ytjdhmagkgoghpaa
set_option linter.unusedVariables false
open Go.RowKit
theorem heap_setCells_same (g : Nat) (e : TypeId) : ∀ (vs : List Value) (o : Nat) (w : World) (cur : Array Value), w.heap[g]? = some (.cells cur e (0, 0)) →
    ∃ cur' : Array Value, (w.setCells g o vs).heap[g]? = some (.cells cur' e (0, 0)) ∧ cur'.size = cur.size ∧ (∀ j, j < o → cur'[j]? = cur[j]?) ∧ ∀ j u, vs[j]? = some u → o + j < cur.size → cur'[o + j]? = some u
  | [], o, w, cur, h => ⟨cur, h, rfl, fun _ _ => rfl, fun j u hj => by simp at hj⟩
  | v :: vs, o, w, cur, h => by
    obtain ⟨cur', h1, h2, h3, h4⟩ := heap_setCells_same g e vs (o + 1) (w.setCell ⟨g, o, none⟩ v) (cur.setIfInBounds o v) (heap_setCell_same w g o cur e v h)
    refine ⟨cur', h1, by rw [h2]; simp, fun j hj => ?_, fun j u hj hlt => ?_⟩
    · rw [h3 j (by omega), Array.getElem?_setIfInBounds_ne (by omega)]
    · cases j with
      | zero =>
        simp only [List.getElem?_cons_zero, Option.some.injEq] at hj
        subst hj
        rw [Nat.add_zero] at hlt ⊢
        rw [h3 o (by omega), Array.getElem?_setIfInBounds_self_of_lt hlt]
      | succ j =>
        have := h4 j u (by simpa using hj) (by simp; omega)
        rw [show o + (j + 1) = o + 1 + j from by omega]
        exact this
theorem grown_setCells (g : Nat) : ∀ (vs : List Value) (o : Nat) (w : World), w.grownBy (w.setCells g o vs) (some g)
  | [], o, w => World.grownBy.refl w _
  | v :: vs, o, w => by
    have h := grown_setCells g vs (o + 1) (w.setCell ⟨g, o, none⟩ v)
    exact ⟨h.os, h.tape, h.output, Nat.le_trans (by simp [World.setCell]) h.size, fun k hk hne => (h.block k (by simpa [World.setCell] using hk) hne).trans (Below.heap_setCell w ⟨g, o, none⟩ v k (fun e => hne (by rw [e])))⟩
def Seg (w : World) (base : Nat) (v : Value) (l : List Ch) : Prop :=
  (v = .slice none 0 0 ∧ l = []) ∨ ∃ g off cap cur, v = .slice (some ⟨g, off, none⟩) l.length cap ∧ base ≤ g ∧ w.heap[g]? = some (.cells cur 36 (0, 0)) ∧ l.length ≤ cap ∧ off + cap * 4 ≤ cur.size ∧ ∀ j u, (chs l)[j]? = some u → cur[off + j]? = some u
section
variable {w w' : World} {base base' : Nat} {v : Value} {l r : List Ch}
theorem Seg.nil_ : Seg w base (.slice none 0 0) [] := .inl ⟨rfl, rfl⟩
theorem Seg.lt (h : Seg w base v l) : ∀ g, v.ownBlock = some g → base ≤ g ∧ g < w.heap.size := by
  intro k hk
  rcases h with ⟨rfl, _⟩ | ⟨g, off, cap, cur, rfl, h1, h2, _⟩
  · simp [Value.ownBlock] at hk
  · simp only [Value.ownBlock, Option.some.injEq] at hk
    subst hk
    refine ⟨h1, ?_⟩
    rcases Nat.lt_or_ge g w.heap.size with h | h
    · exact h
    · rw [Array.getElem?_eq_none h] at h2; cases h2
theorem Seg.of_own (h : Own w base v l) : Seg w base v l := by
  rcases h.2 with ⟨h1, h2⟩ | ⟨g, cap, cur, h1, h2, h3, h4, h5, h6, h7⟩
  · exact .inl ⟨h1, List.eq_nil_of_length_eq_zero h2⟩
  · refine .inr ⟨g, 0, cap, cur, h1, h2, h3, h4, by omega, fun j u hj => ?_⟩
    rw [← h7] at hj
    rw [List.getElem?_take] at hj
    split at hj
    · rw [Nat.zero_add]; simpa using hj
    · cases hj
theorem Seg.kept {row : Option Nat} (h : Seg w base v l) (hg : w.grownBy w' row) (hne : v.ownBlock ≠ row ∨ v.ownBlock = none) : Seg w' base v l := by
  have hl := h.lt
  rcases h with h0 | ⟨g, off, cap, cur, rfl, h1, h2, h3⟩
  · exact .inl h0
  · refine .inr ⟨g, off, cap, cur, rfl, h1, ?_, h3⟩
    rw [hg.block g (hl g rfl).2 (by rcases hne with h | h; exact h; cases h)]
    exact h2
theorem Seg.below (h : Seg w base v l) (hb : Below w.heap.size w w') : Seg w' base v l := by
  have hl := h.lt
  rcases h with h0 | ⟨g, off, cap, cur, rfl, h1, h2, h3⟩
  · exact .inl h0
  · refine .inr ⟨g, off, cap, cur, rfl, h1, ?_, h3⟩
    rw [hb.block g (hl g rfl).2]
    exact h2
theorem Seg.ne_blk {g : Nat} {t : TypeId} {cs : Array Value} (h : Seg w base v l) (hb : Blk w g t cs) (ht : 36 ≠ t) : v.ownBlock ≠ some g := by
  rcases h with ⟨rfl, _⟩ | ⟨g', off, cap, cur, rfl, h1, h2, _⟩
  · simp [Value.ownBlock]
  · intro e
    simp only [Value.ownBlock, Option.some.injEq] at e
    subst e
    exact Blk.ne_ (t := 36) h2 hb ht rfl
theorem Seg.alloc (h : Seg w base v l) (o : Obj) : Seg (w.alloc o) base v l := h.below ((Below.refl _ _).alloc (Nat.le_refl _) o)
theorem Seg.drewN (h : Seg w base v l) (n : Nat) : Seg (w.drewN n) base v l := h
theorem Seg.len (h : Seg w base v l) : ∃ A c, v = .slice A l.length c ∧ l.length ≤ c ∧ (c = 0 → l.length = 0) := by
  rcases h with ⟨rfl, rfl⟩ | ⟨g, off, cap, cur, rfl, _, _, hc, _⟩
  · exact ⟨none, 0, rfl, by simp, fun _ => rfl⟩
  · exact ⟨_, cap, rfl, hc, fun h => by omega⟩
theorem Seg.reads {A : Option Addr} {n c : Nat} (h : Seg w base (.slice A n c) l) : n = l.length ∧ l.length ≤ c ∧ Rd w w.heap.size A l := by
  have hl := h.lt
  rcases h with ⟨h0, rfl⟩ | ⟨g, off, cap, cur, h0, h1, h2, h3, h4, h5⟩
  · injection h0 with _ e _
    subst e
    exact ⟨rfl, Nat.zero_le _, fun h => by simp at h⟩
  · injection h0 with e1 e2 e3
    subst e1 e2 e3
    refine ⟨rfl, h3, fun hpos => ?_⟩
    refine Rd.of_reads (n := l.length) rfl ⟨chs_length l, fun _ => ⟨_, rfl, (hl g rfl).2, fun j u hj => ?_⟩⟩ hpos
    have ha : (⟨g, off, none⟩ : Addr).add j = ⟨g, off + j, none⟩ := by
      unfold Addr.add
      split
      · rename_i e; subst e; rfl
      · rfl
    rw [ha, cell_of_row w g _ cur 36 (0, 0) h2]
    exact h5 j u hj
theorem Seg.cut {A : Option Addr} {n c k : Nat} (h : Seg w base (.slice A n c) l) (hk : k ≤ n) :
    Seg w base (.slice (if c = k then A else A.map (·.add (k * 4))) (n - k) (c - k)) (l.drop k) := by
  rcases h with ⟨h0, rfl⟩ | ⟨g, off, cap, cur, h0, h1, h2, h3, h4, h5⟩
  · injection h0 with e1 e2 e3
    subst e1 e2 e3
    obtain rfl : k = 0 := by omega
    exact .inl ⟨by simp, by simp⟩
  · injection h0 with e1 e2 e3
    subst e1 e2 e3
    by_cases hck : c = k
    · rw [if_pos hck]
      have : l.drop k = [] := List.drop_of_length_le (by omega)
      refine .inr ⟨g, off, c - k, cur, by rw [List.length_drop], h1, h2, by rw [List.length_drop]; omega, by omega, fun j u hj => ?_⟩
      rw [this] at hj
      simp [chs] at hj
    · rw [if_neg hck]
      have ha : (⟨g, off, none⟩ : Addr).add (k * 4) = ⟨g, off + k * 4, none⟩ := by
        unfold Addr.add
        split
        · rename_i e; rw [e]; rfl
        · rfl
      refine .inr ⟨g, off + k * 4, c - k, cur, by rw [List.length_drop, Option.map_some, ha], h1, h2, by rw [List.length_drop]; omega, by omega, fun j u hj => ?_⟩
      rw [← chs_drop, List.getElem?_drop] at hj
      rw [show off + k * 4 + j = off + (k * 4 + j) from by omega]
      exact h5 _ u hj
end
theorem wpList_seg {ops : Array Oper} {rest : List Oper} {o : Oper} {a : Act} {Q : Exit → Act → World → Prop} (w : World) (hgd : o.guard = none) (s x : Operand) (ho : o.op = .call { callee := .builtin .append, args := #[s, x], argTypes := #[31, 31] })
    (base : Nat) (v : Value) (l : List Ch) (hs : a.eval s = v) (hv : Seg w base v l) (hbase : base ≤ w.heap.size)
    (ad : Addr) (m c B : Nat) (r : List Ch) (hx : a.eval x = .slice (some ad) m c) (hm : r.length = m) (hr : Rd w B (some ad) r) (hm0 : 0 < m) (hlen : l.length + m ≤ 16777216)
    (h : ∀ v' w', Seg w' base v' (l ++ r) → Below base w w' → w.grownBy w' v.ownBlock → (v'.ownBlock = v.ownBlock ∨ ∀ b, v'.ownBlock = some b → w.heap.size ≤ b) → wpList Try.prog ops Q rest (a.put o.dst v') w') :
    wpList Try.prog ops Q (o :: rest) a w := by
  rcases hv with ⟨rfl, rfl⟩ | ⟨g, off, cap, cur, rfl, h1, h2, h3, h4, h5⟩
  · exact wpList_own w hgd s x ho base _ [] hs Own.nil_ hbase B (some ad) m c r hx hm hr hlen fun v' w' o1 g1 at1 => h v' w' (Seg.of_own o1) ((Below.refl _ _).grown g1 hbase (by simp [Value.ownBlock])) g1 (at1.imp id fun e b hb => by rw [e] at hb; injection hb with hb; omega)
  · obtain ⟨i0, hi, hz0, hz1, hz2⟩ := info_parts info36
    subst hm
    have h6 := hr.reads
    have hcell : ∀ j, off + j < cur.size → (w.cell? ⟨g, off + j, none⟩).isSome = true := by
      intro j hj
      rw [cell_of_row w g _ cur 36 (0, 0) h2, Array.getElem?_eq_getElem hj]
      rfl
    refine wpList_append_arg w hgd s x 31 ho 36 i0 _ 4 48 Try.underlying31 hi hz0 hz1 hz2 rfl (by omega) g off l.length cap (chs l) hs (chs_length l) ?_ ad r.length c (chs r) hx (chs_length r) ?_ (chs_oneCell r) ?_
      (by simp only [maxLen]; omega) (by omega) ?_ ?_
    · intro j u hj
      rw [cell_of_row w g _ cur 36 (0, 0) h2]
      exact h5 j u hj
    · intro j u hu
      obtain ⟨b', e, _, hc⟩ := h6.2 hm0
      injection e with e
      subst e
      exact hc j u hu
    · intro hroom j hj
      rw [chs_length] at hj
      refine ⟨?_, frozen_of_row w g _ cur 36 h2⟩
      rw [show off + l.length * 4 + j = off + (l.length * 4 + j) from by omega]
      exact hcell _ (by omega)
    · intro hroom
      have hg1 := grown_setCells g (chs r) (off + l.length * 4) w
      refine h _ _ ?_ ((Below.refl _ _).grown hg1 hbase (by intro k hk; injection hk with hk; omega)) hg1 (.inl rfl)
      obtain ⟨cur', e1, e2, e3, e4⟩ := heap_setCells_same g 36 (chs r) (off + l.length * 4) w cur h2
      refine .inr ⟨g, off, cap, cur', by rw [List.length_append], h1, e1, by rw [List.length_append]; exact hroom, by rw [e2]; exact h4, fun j u hj => ?_⟩
      rw [chs_append] at hj
      rcases Nat.lt_or_ge j (chs l).length with hlt | hge
      · rw [List.getElem?_append_left hlt] at hj
        rw [chs_length] at hlt
        rw [e3 _ (by omega)]
        exact h5 j u hj
      · rw [List.getElem?_append_right hge, chs_length] at hj
        rw [chs_length] at hge
        have hb : j - l.length * 4 < (chs r).length := (List.getElem?_eq_some_iff.1 hj).1
        rw [chs_length] at hb
        have := e4 _ u hj (by omega)
        rw [show off + l.length * 4 + (j - l.length * 4) = off + j from by omega] at this
        exact this
    · intro _ v' w' o1 g1
      have hown : Own w' w.heap.size v' (l ++ r) := by
        unfold Own
        rw [List.length_append, chs_append]
        exact o1
      exact h v' w' (Seg.of_own (hown.more hbase)) ((Below.refl _ _).grown g1 hbase (by simp)) ⟨g1.os, g1.tape, g1.output, g1.size, fun k hk _ => g1.block k hk (by simp)⟩ (.inr fun b hb => (hown.lt b hb).1)
end Go.Proofs.Ytjdhmagkgoghpaa
