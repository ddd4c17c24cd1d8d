/- Append on slices of changes: a slice of the call's own, and one that is full. -/
import Derived.Test.YtjdhmagkgoghpaaLg
import Derived.ArgAppend
namespace Go.Proofs.Ytjdhmagkgoghpaa
set_option linter.unusedVariables false
open Go.RowKit
/-- A slice of the call's own that holds these changes. -/
def Own (w : World) (base : Nat) (v : Value) (l : List Ch) : Prop := w.ownsRow base 36 4 v l.length (chs l)
theorem info36 : (Try.prog.info? 36).map (fun i => (i.zero, i.size, i.bytes)) = some (some (.agg #[.int .i64 0, .string .empty, .string .empty, .int .i64 0]), 4, 48) := by kernel_rfl
theorem chs_oneCell (l : List Ch) : ∀ u ∈ chs l, u.oneCell' = true := by
  intro u hu
  simp only [chs, List.mem_flatMap, Ch.cells, List.mem_cons, List.not_mem_nil, or_false] at hu
  obtain ⟨x, _, h | h | h | h⟩ := hu <;> subst h <;> rfl
section
variable {w w' : World} {base base' : Nat} {v : Value} {l r : List Ch}
theorem Own.nil_ : Own w base (.slice none 0 0) [] := World.ownsRow_nil _ _ _ _
theorem Own.len (h : Own w base v l) : ∃ A c, v = .slice A l.length c ∧ l.length ≤ c := by
  rcases h.2 with ⟨rfl, h0⟩ | ⟨g, cap, cur, rfl, _, _, hc, _⟩
  · exact ⟨none, 0, by rw [h0], by omega⟩
  · exact ⟨_, cap, rfl, hc⟩
theorem Own.more (h : Own w base v l) (hb : base' ≤ base) : Own w base' v l := by
  refine ⟨h.1, ?_⟩
  rcases h.2 with h0 | ⟨g, cap, cur, h1, h2, h3⟩
  · exact .inl h0
  · exact .inr ⟨g, cap, cur, h1, Nat.le_trans hb h2, h3⟩
theorem Own.kept {row : Option Nat} (h : Own w base v l) (hg : w.grownBy w' row) (hne : v.ownBlock = none ∨ v.ownBlock ≠ row) : Own w' base v l := World.ownsRow.kept h hg hne
theorem Own.below (h : Own w base v l) {B : Nat} (hb : Below B w w') (hB : ∀ g, v.ownBlock = some g → g < B) : Own w' base v l := by
  refine ⟨h.1, ?_⟩
  rcases h.2 with h0 | ⟨g, cap, cur, h1, h2, h3, h4⟩
  · exact .inl h0
  · exact .inr ⟨g, cap, cur, h1, h2, by rw [hb.block g (hB g (by rw [h1]; rfl))]; exact h3, h4⟩
theorem Own.lt (h : Own w base v l) : ∀ g, v.ownBlock = some g → base ≤ g ∧ g < w.heap.size := World.ownsRow.lt h
theorem Own.below_all (h : Own w base v l) (hb : Below w.heap.size w w') : Own w' base v l := h.below hb fun g hg => (h.lt g hg).2
theorem Own.drew (h : Own w base v l) : Own w.drew base v l := h
theorem Own.drewN (h : Own w base v l) (n : Nat) : Own (w.drewN n) base v l := h
theorem Own.alloc (h : Own w base v l) (o : Obj) : Own (w.alloc o) base v l := World.ownsRow.alloc h o
theorem Own.rd (h : Own w base v l) : ∃ A c, v = .slice A l.length c ∧ l.length ≤ c ∧ Rd w w.heap.size A l := by
  obtain ⟨A, c, rfl, hc⟩ := Own.len h
  exact ⟨A, c, rfl, hc, Rd.own h⟩
theorem Own.at_ (h : Own w base v l) {k : Nat} (hk : k < l.length) : ∃ g c, v = .slice (some ⟨g, 0, none⟩) l.length c ∧ base ≤ g ∧ g < w.heap.size ∧ l.length ≤ c ∧ ChAt w g (k * 4) l[k] := by
  obtain ⟨A, c, rfl, hc, hr⟩ := h.rd
  obtain ⟨b, off, rfl, hb, hx⟩ := hr (by omega)
  have h0 : off = 0 := by
    rcases h.2 with ⟨h1, _⟩ | ⟨g, cap, cur, h1, _⟩
    · injection h1 with h1 _ _; cases h1
    · injection h1 with h1 _ _; injection h1 with h1; injection h1
  subst h0
  have := h.lt b rfl
  refine ⟨b, c, rfl, this.1, this.2, hc, ?_⟩
  have := hx k hk
  simpa using this
/-- an empty slice that is made at once -/
theorem Own.empty (w : World) (hb : base ≤ w.heap.size) (g : Nat) (hg : g = w.heap.size) : Own (w.alloc (.cells #[] 36)) base (.slice (some ⟨g, 0, none⟩) 0 0) [] := by
  subst hg
  exact World.ownsRow_lit (base := base) w #[] 0 hb (by simp [maxLen]) rfl
end
section
variable {ops : Array Oper} {rest : List Oper} {o : Oper} {a : Act} {Q : Exit → Act → World → Prop}
theorem wpList_own (w : World) (hgd : o.guard = none) (s x : Operand) (ho : o.op = .call { callee := .builtin .append, args := #[s, x], argTypes := #[31, 31] })
    (base : Nat) (v : Value) (l : List Ch) (hs : a.eval s = v) (hv : Own w base v l) (hbase : base ≤ w.heap.size)
    (B : Nat) (A : Option Addr) (m c : Nat) (r : List Ch) (hx : a.eval x = .slice A m c) (hm : r.length = m) (hr : Rd w B A r) (hlen : l.length + m ≤ 16777216)
    (h : ∀ v' w', Own w' base v' (l ++ r) → w.grownBy w' v.ownBlock → (v'.ownBlock = v.ownBlock ∨ v'.ownBlock = some w.heap.size) → wpList Try.prog ops Q rest (a.put o.dst v') w') :
    wpList Try.prog ops Q (o :: rest) a w := by
  obtain ⟨i0, hi, hz0, hz1, hz2⟩ := info_parts info36
  subst hm
  refine wpList_append_any w hgd s x 31 ho base 36 i0 _ 4 48 Try.underlying31 hi hz0 hz1 hz2 rfl (by omega) v l.length (chs l) hs hv B A r.length c (chs r) hx hr.reads (chs_oneCell r)
    (by simp only [maxLen]; omega) (by omega) hbase fun v' w' h1 h2 h3 => h v' w' ?_ h2 h3
  unfold Own
  rw [List.length_append, chs_append]
  exact h1
theorem wpList_full (w : World) (hgd : o.guard = none) (s x : Operand) (ho : o.op = .call { callee := .builtin .append, args := #[s, x], argTypes := #[31, 31] })
    (A : Option Addr) (n : Nat) (l : List Ch) (hs : a.eval s = .slice A n n) (hn : l.length = n) (B : Nat) (hv : Rd w B A l) (hA : A = none → n = 0)
    (ad : Addr) (m c B' : Nat) (r : List Ch) (hx : a.eval x = .slice (some ad) m c) (hm : r.length = m) (hr : Rd w B' (some ad) r) (hm0 : 0 < m) (hlen : n + m ≤ 16777216)
    (h : ∀ v' w', Own w' w.heap.size v' (l ++ r) → w.grownBy w' none → wpList Try.prog ops Q rest (a.put o.dst v') w') :
    wpList Try.prog ops Q (o :: rest) a w := by
  obtain ⟨i0, hi, hz0, hz1, hz2⟩ := info_parts info36
  subst hm hn
  have h1 := hv.reads
  have h2 := hr.reads
  refine wpList_append_grows w hgd s x 31 ho 36 i0 _ 4 48 Try.underlying31 hi hz0 hz1 hz2 rfl (by omega) A l.length l.length (chs l) hs (fun e => ⟨hA e, hA e⟩) (chs_length l) ?_ ad r.length c (chs r) hx (chs_length r) ?_ (chs_oneCell r)
    (by omega) (by simp only [maxLen]; omega) (by omega) fun v' w' h1 h2 => h v' w' ?_ h2
  · rintro b rfl j u hu
    rcases Nat.eq_zero_or_pos l.length with h0 | h0
    · have : l = [] := List.eq_nil_of_length_eq_zero h0
      subst this
      simp [chs] at hu
    · obtain ⟨b', e, _, hc⟩ := h1.2 h0
      injection e with e
      subst e
      exact hc j u hu
  · intro j u hu
    obtain ⟨b', e, _, hc⟩ := h2.2 hm0
    injection e with e
    subst e
    exact hc j u hu
  · unfold Own
    rw [List.length_append, chs_append]
    exact h1
end
/-- a change that has just been laid in a block of its own reads as a list of one -/
theorem Rd.one (w : World) (b : Nat) (hb : b = w.heap.size) (s : Int) (c i : ByteArray) (k : Int) : Rd (w.alloc (.cells #[.int .i64 s, .string c, .string i, .int .i64 k] 36)) (b + 1) (some ⟨b, 0, none⟩) [⟨s, c, i, k⟩] := by
  intro _
  subst hb
  refine ⟨w.heap.size, 0, rfl, by omega, fun j hj => ?_⟩
  have : j = 0 := by simpa using hj
  subst this
  have hb := Blk.new w 36 #[.int .i64 s, .string c, .string i, .int .i64 k]
  exact ⟨hb.cell 0, hb.cell 1, hb.cell 2, hb.cell 3⟩
theorem Rd.alloc {w : World} {B : Nat} {A : Option Addr} {l : List Ch} (h : Rd w B A l) (hB : B ≤ w.heap.size) (o : Obj) : Rd (w.alloc o) B A l := h.keep fun p hp => World.cell?_alloc_lt w o p (by omega)
theorem stamp_snoc (s : Int) (cs : List Ch) (k : Nat) (hk : k < cs.length) (x : Ch) (hx : cs[k] = x) : stampAll s (cs.take (k + 1)) = stampAll s (cs.take k) ++ [⟨s, x.c, x.i, x.k⟩] := by
  rw [List.take_succ_eq_append_getElem hk, hx]
  simp [stampAll]
theorem bel_grown {B : Nat} {a w w' : World} {base : Nat} {v : Value} {l : List Ch} (h : Below B a w) (hg : w.grownBy w' v.ownBlock) (hB : B ≤ w.heap.size) (hv : Own w base v l) (hb : B ≤ base) : Below B a w' :=
  h.grown hg hB fun k hk => Nat.le_trans hb (hv.lt k hk).1
theorem Rd.drop_ {w : World} {B b off : Nat} {l : List Ch} (h : Rd w B (some ⟨b, off, none⟩) l) (k : Nat) : Rd w B (some ⟨b, off + k * 4, none⟩) (l.drop k) := by
  intro hl
  rw [List.length_drop] at hl
  obtain ⟨b', off', e, hb, hc⟩ := h (by omega)
  injection e with e
  injection e with e1 e2
  subst e1 e2
  refine ⟨b, _, rfl, hb, fun i hi => ?_⟩
  rw [List.length_drop] at hi
  have := hc (k + i) (by omega)
  rw [List.getElem_drop]
  rwa [show off + k * 4 + i * 4 = off + (k + i) * 4 from by omega]
theorem Rd.take_ {w : World} {B : Nat} {A : Option Addr} {l : List Ch} (h : Rd w B A l) (k : Nat) : Rd w B A (l.take k) := by
  intro hl
  rw [List.length_take] at hl
  obtain ⟨b, off, e, hb, hc⟩ := h (by omega)
  refine ⟨b, off, e, hb, fun i hi => ?_⟩
  rw [List.length_take] at hi
  have := hc i (by omega)
  rwa [List.getElem_take]
theorem Own.setOther {w : World} {base : Nat} {v : Value} {l : List Ch} (h : Own w base v l) {p : Addr} (hne : v.ownBlock ≠ some p.block) (u : Value) : Own (w.setCell p u) base v l := by
  refine ⟨h.1, ?_⟩
  rcases h.2 with h0 | ⟨g, cap, cur, h1, h2, h3, h4⟩
  · exact .inl h0
  · refine .inr ⟨g, cap, cur, h1, h2, ?_, h4⟩
    rw [Below.heap_setCell w p u g (by rintro rfl; exact hne (by rw [h1]; rfl))]
    exact h3
theorem Own.pos {w : World} {base : Nat} {A : Option Addr} {n c : Nat} {l : List Ch} (h : Own w base (.slice A n c) l) (hl : 0 < l.length) : A ≠ none := by
  rintro rfl
  rcases h.2 with ⟨_, h0⟩ | ⟨g, cap, cur, h1, _⟩
  · omega
  · injection h1 with h1
    cases h1
theorem Own.slice_ {w : World} {base : Nat} {A : Option Addr} {n c : Nat} {l : List Ch} (h : Own w base (.slice A n c) l) : n = l.length ∧ l.length ≤ c ∧ Rd w w.heap.size A l := by
  obtain ⟨A2, c2, e, h2, h3⟩ := h.rd
  injection e with e1 e2 e3
  subst e1 e2 e3
  exact ⟨rfl, h2, h3⟩
end Go.Proofs.Ytjdhmagkgoghpaa
