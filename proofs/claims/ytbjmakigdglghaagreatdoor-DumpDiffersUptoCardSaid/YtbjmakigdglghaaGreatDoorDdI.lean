/- Copies: what reads on where more is there; a list's cells, flat; a row that is being written. -/
import Derived.Test.YtbjmakigdglghaaGreatDoorDdG
import Derived.Deep.RegionLaw
import Derived.Deep.RegionWith
set_option linter.unusedVariables false
set_option linter.unusedSimpArgs false
set_option linter.unusedSectionVars false
namespace Go.Proofs.YtbjmakigdglghaaGreatDoor.Dd
set_option linter.unusedVariables false
open Go.RowKit
/-- what a cell held it still holds -/
def Mono (w w' : World) : Prop := ∀ p u, w.cell? p = some u → w'.cell? p = some u
section
variable {w w' : World} {B B' b o n : Nat} {cs : List Value} {α : Type}
theorem CellsAt.mono (h : CellsAt w b o cs) (hm : Mono w w') : CellsAt w' b o cs := fun j u hu => hm _ _ (h j u hu)
theorem Lst.mono {R R' : α → List Value → Prop} {A : Option Addr} {l : List α} (h : Lst n R w B A l) (hm : Mono w w') (hB : B ≤ B') (hR : ∀ x cs, R x cs → R' x cs) : Lst n R' w' B' A l := by
  refine ⟨h.1, fun hl => ?_⟩
  obtain ⟨b, off, e, hb, hc⟩ := h.2 hl
  refine ⟨b, off, e, by omega, fun i hi => ?_⟩
  obtain ⟨cs, h1, h2, h3⟩ := hc i hi
  exact ⟨cs, h1, h2.mono hm, hR _ _ h3⟩
mutual
theorem V.At.mono (hB : B ≤ B') (hm : Mono w w') : ∀ {x : V} {cs : List Value}, V.At w B x cs → V.At w' B' x cs
  | .mk k i t ns xs, cs, h => by
    rw [V.At] at h ⊢
    obtain ⟨An, cn, Ai, ci, h1, h2, h0, h3⟩ := h
    refine ⟨An, cn, Ai, ci, h1, h2.mono hm hB fun _ _ h => h, h0, fun hl => ?_⟩
    obtain ⟨b, off, e, hb, h⟩ := h3 hl
    exact ⟨b, off, e, by omega, V.Ats.mono hB hm h⟩
theorem V.Ats.mono (hB : B ≤ B') (hm : Mono w w') {b : Nat} : ∀ {l : List V} {off : Nat}, V.Ats w B l b off → V.Ats w' B' l b off
  | [], _, _ => by rw [V.Ats]; trivial
  | x :: l, off, h => by
    rw [V.Ats] at h ⊢
    obtain ⟨⟨cs, h1, h2, h3⟩, h4⟩ := h
    exact ⟨⟨cs, h1, h2.mono hm, V.At.mono hB hm h3⟩, V.Ats.mono hB hm h4⟩
end
theorem CR.mono {x : C} (h : CR w B x cs) (hB : B ≤ B') (hm : Mono w w') : CR w' B' x cs := by
  obtain ⟨vs, A, c, h1, h2, h3⟩ := h
  exact ⟨vs, A, c, h1, h2.mono hB hm, h3.mono hm hB fun _ _ h => h⟩
theorem IR.mono {x : I} (h : IR w B x cs) (hB : B ≤ B') (hm : Mono w w') : IR w' B' x cs := by
  obtain ⟨vs, h1, h2⟩ := h
  exact ⟨vs, h1, h2.mono hB hm⟩
end
/-- the world without the cells of block g -/
def hole (w : World) (g : Nat) : World := { w with heap := w.heap.setIfInBounds g (.map #[] 0) }
section
variable {w w' : World} {g : Nat}
theorem hole_size (w : World) (g : Nat) : (hole w g).heap.size = w.heap.size := by simp [hole]
theorem hole_get {b : Nat} (h : b ≠ g) : (hole w g).heap[b]? = w.heap[b]? := by simp [hole, Array.getElem?_setIfInBounds, Ne.symm h]
theorem hole_at (p : Addr) (h : p.block = g) : (hole w g).cell? p = none := by
  unfold World.cell?
  subst h
  rcases Nat.lt_or_ge p.block w.heap.size with hl | hl
  · simp [hole, hl]
  · simp [hole, Array.getElem?_eq_none hl, Nat.not_lt.2 hl]
theorem hole_sub (w : World) (g : Nat) : Mono (hole w g) w := by
  intro p u hu
  by_cases h : p.block = g
  · rw [hole_at p h] at hu; cases hu
  · rwa [World.cell?_of_block (w := w) (w' := hole w g) (hole_get h)] at hu
theorem hole_mono (hk : ∀ b, b < w.heap.size → b ≠ g → w'.heap[b]? = w.heap[b]?) : Mono (hole w g) (hole w' g) := by
  intro p u hu
  by_cases h : p.block = g
  · rw [hole_at p h] at hu; cases hu
  · rw [World.cell?_of_block (w := w) (w' := hole w g) (hole_get h)] at hu
    rw [World.cell?_of_block (w := w') (w' := hole w' g) (hole_get h)]
    have hl := block_lt_of_cell hu
    rwa [World.cell?_of_block (hk p.block hl h)]
theorem mono_of_keep (hk : ∀ b, b < w.heap.size → w'.heap[b]? = w.heap[b]?) : Mono w w' := by
  intro p u hu
  rwa [World.cell?_of_block (hk p.block (block_lt_of_cell hu))]
theorem mono_hole_of_lt {B : Nat} {A : Option Addr} {α : Type} {n : Nat} {R : α → List Value → Prop} {l : List α} (h : Lst n R w B A l) (hB : B ≤ g) : Lst n R (hole w g) B A l :=
  h.keep (fun p hp => World.cell?_of_block (hole_get (by omega))) fun _ _ h => h
end
/-- a list's cells in one row -/
def Flat {α : Type} (n : Nat) (R : α → List Value → Prop) (l : List α) (news : List Value) : Prop :=
  news.length = l.length * n ∧ ∀ j (h : j < l.length), ∃ cs, cs.length = n ∧ R l[j] cs ∧ ∀ i, i < n → news[j * n + i]? = cs[i]?
section
variable {w : World} {B n : Nat} {α : Type} {R R' : α → List Value → Prop} {A : Option Addr} {l : List α} {news : List Value}
theorem Flat.imp (h : Flat n R l news) (hR : ∀ x cs, R x cs → R' x cs) : Flat n R' l news :=
  ⟨h.1, fun j hj => by obtain ⟨cs, h1, h2, h3⟩ := h.2 j hj; exact ⟨cs, h1, hR _ _ h2, h3⟩⟩
theorem Flat.one (h : Flat n R l news) (hn : 0 < n) (ho : ∀ x cs, R x cs → ∀ u ∈ cs, u.oneCell' = true) : ∀ u ∈ news, u.oneCell' = true := by
  intro u hu
  obtain ⟨q, hq, rfl⟩ := List.getElem_of_mem hu
  have hj : q / n < l.length := Nat.div_lt_of_lt_mul (by rw [Nat.mul_comm, ← h.1]; exact hq)
  obtain ⟨cs, h1, h2, h3⟩ := h.2 (q / n) hj
  have hm : q % n < n := Nat.mod_lt _ hn
  have h4 := h3 (q % n) hm
  rw [show q / n * n + q % n = q by rw [Nat.mul_comm]; exact Nat.div_add_mod q n] at h4
  rw [List.getElem?_eq_getElem hq, List.getElem?_eq_getElem (by omega)] at h4
  injection h4 with h4
  rw [h4]
  exact ho _ _ h2 _ (List.getElem_mem _)
theorem Lst.flat (h : Lst n R w B A l) (hn : 0 < n) : ∃ news, Flat n R l news ∧ Reads w B n A l.length news := by
  rcases Nat.eq_zero_or_pos l.length with h0 | h0
  · refine ⟨[], ⟨by simp [h0], fun j hj => by omega⟩, ⟨by simp [h0], fun hp => by omega⟩⟩
  obtain ⟨b, off, e, hb, hc⟩ := h.2 h0
  have key : ∀ k, k ≤ l.length → ∃ news : List Value, news.length = k * n ∧ ∀ j (h : j < l.length), j < k → ∃ cs, cs.length = n ∧ CellsAt w b (off + j * n) cs ∧ R l[j] cs ∧ ∀ i, i < n → news[j * n + i]? = cs[i]? := by
    intro k
    induction k with
    | zero => intro _; exact ⟨[], by simp, fun j _ h => by omega⟩
    | succ k ih =>
      intro hk
      obtain ⟨news, hl, hh⟩ := ih (by omega)
      obtain ⟨cs, h1, h2, h3⟩ := hc k (by omega)
      refine ⟨news ++ cs, by rw [List.length_append, hl, h1, Nat.succ_mul], fun j hj hjk => ?_⟩
      rcases Nat.lt_or_ge j k with hlt | hge
      · obtain ⟨cs', k1, k2, k3, k4⟩ := hh j hj hlt
        refine ⟨cs', k1, k2, k3, fun i hi => ?_⟩
        rw [List.getElem?_append_left (by
          rw [hl]
          have : (j + 1) * n ≤ k * n := Nat.mul_le_mul_right n hlt
          rw [Nat.succ_mul] at this
          omega)]
        exact k4 i hi
      · have : j = k := by omega
        subst this
        refine ⟨cs, h1, h2, h3, fun i hi => ?_⟩
        rw [List.getElem?_append_right (by rw [hl]; omega), hl]
        congr 1
        omega
  obtain ⟨news, hl, hh⟩ := key l.length (Nat.le_refl _)
  refine ⟨news, ⟨hl, fun j hj => by obtain ⟨cs, h1, _, h3, h4⟩ := hh j hj hj; exact ⟨cs, h1, h3, h4⟩⟩, ⟨hl, fun _ => ⟨_, e, hb, fun q u hu => ?_⟩⟩⟩
  have hq : q < news.length := by
    rcases Nat.lt_or_ge q news.length with h | h
    · exact h
    · rw [List.getElem?_eq_none h] at hu; cases hu
  have hj : q / n < l.length := Nat.div_lt_of_lt_mul (by rw [Nat.mul_comm, ← hl]; exact hq)
  obtain ⟨cs, h1, h2, h3, h4⟩ := hh (q / n) hj hj
  have hm : q % n < n := Nat.mod_lt _ hn
  have hd : q / n * n + q % n = q := by rw [Nat.mul_comm]; exact Nat.div_add_mod q n
  have h5 := h4 (q % n) hm
  rw [hd, hu] at h5
  have h6 := h2 (q % n) u h5.symm
  rw [add_lit]
  rw [show off + q / n * n + q % n = off + q by omega] at h6
  exact h6
theorem own_lst {base : Nat} {e : TypeId} {v : Value} (h : w.ownsRow base e n v l.length news) (hf : Flat n R l news) (hm : l.length ≤ 1048576) : ∃ A c, v = .slice A l.length c ∧ l.length ≤ c ∧ c ≤ maxLen ∧ Lst n R w w.heap.size A l := by
  rcases h.2 with ⟨rfl, h0⟩ | ⟨g, cap, cur, rfl, hbase, hb, h1, h2, h3, h4⟩
  · refine ⟨none, 0, by rw [h0], by omega, Nat.zero_le _, hm, fun hp => by omega⟩
  · refine ⟨_, cap, rfl, h1, h2, hm, fun hp => ⟨g, 0, rfl, lt_of_some hb, fun i hi => ?_⟩⟩
    obtain ⟨cs, k1, k2, k3⟩ := hf.2 i hi
    refine ⟨cs, k1, fun j u hj => ?_, k2⟩
    have hjn : j < n := by
      rcases Nat.lt_or_ge j cs.length with h | h
      · omega
      · rw [List.getElem?_eq_none h] at hj; cases hj
    have hlt : i * n + j < l.length * n := by
      have : (i + 1) * n ≤ l.length * n := Nat.mul_le_mul_right n hi
      rw [Nat.succ_mul] at this
      omega
    have := h.cellAt (i * n + j) hlt
    rw [show 0 + i * n + j = i * n + j by omega, this, k3 j hjn, hj]
end
theorem V.At.one {w : World} {B : Nat} {x : V} {cs : List Value} (h : V.At w B x cs) : ∀ u ∈ cs, u.oneCell' = true := by
  obtain ⟨_, _, _, _, _, _, _, _, _, rfl⟩ := h.form
  simp [Value.oneCell']
theorem SR.one {s : S} {cs : List Value} (h : SR s cs) : ∀ u ∈ cs, u.oneCell' = true := by
  rw [h]
  simp [Value.oneCell']
theorem CR.one {w : World} {B : Nat} {x : C} {cs : List Value} (h : CR w B x cs) : ∀ u ∈ cs, u.oneCell' = true := by
  obtain ⟨vs, A, c, rfl, hv, _⟩ := h
  intro u hu
  simp only [List.mem_append, List.mem_cons, List.not_mem_nil, or_false] at hu
  rcases hu with ((rfl | rfl | rfl) | hu) | (rfl | rfl | rfl)
  all_goals first | rfl | exact hv.one u hu
theorem IR.one {w : World} {B : Nat} {x : I} {cs : List Value} (h : IR w B x cs) : ∀ u ∈ cs, u.oneCell' = true := by
  obtain ⟨vs, rfl, hv⟩ := h
  intro u hu
  simp only [List.mem_append, List.mem_cons, List.not_mem_nil, or_false] at hu
  rcases hu with (rfl | rfl) | hu
  all_goals first | rfl | exact hv.one u hu
theorem CR.len {w : World} {B : Nat} {x : C} {cs : List Value} (h : CR w B x cs) : cs.length = 11 := by
  obtain ⟨vs, A, c, rfl, hv, _⟩ := h
  have := V.at_len hv
  simp [this]
/-- a row of collections, whose own block may be written -/
def RowAt (wr : World) (g : Nat) (l : List C) : Prop :=
  ∃ cur, wr.heap[g]? = some (.cells cur 70 (0, 0)) ∧ ∀ j (h : j < l.length), ∃ cs, (∀ i u, cs[i]? = some u → cur[j * 11 + i]? = some u) ∧ CR (hole wr g) wr.heap.size l[j] cs
section
variable {w wr w' : World} {g : Nat} {l : List C}
theorem RowAt.keep (h : RowAt wr g l) (hk : ∀ b, b < wr.heap.size → w'.heap[b]? = wr.heap[b]?) (hs : wr.heap.size ≤ w'.heap.size) : RowAt w' g l := by
  obtain ⟨cur, hb, hh⟩ := h
  refine ⟨cur, (hk g (lt_of_some hb)).trans hb, fun j hj => ?_⟩
  obtain ⟨cs, h1, h2⟩ := hh j hj
  exact ⟨cs, h1, h2.mono hs (hole_mono fun b hb _ => hk b hb)⟩
theorem RowAt.get (h : RowAt wr g l) {k : Nat} (hk : k < l.length) : ∃ A c, wr.cell? ⟨g, k * 11 + 10, none⟩ = some (.slice A l[k].ss.length c) ∧ Lst 3 SR wr wr.heap.size A l[k].ss := by
  obtain ⟨cur, hb, hh⟩ := h
  obtain ⟨cs, h1, h2⟩ := hh k hk
  obtain ⟨e1, e2, t, An, nn, cn, Ai, ni, ci, A, c, rfl, hv, hs⟩ := h2.parts2
  refine ⟨A, c, ?_, hs.mono (hole_sub _ _) (Nat.le_refl _) fun _ _ h => h⟩
  rw [cell_of_row wr g (k * 11 + 10) cur 70 (0, 0) hb]
  exact h1 10 _ rfl
theorem RowAt.frozen (h : RowAt wr g l) (i : Nat) : wr.frozen? ⟨g, i, none⟩ = false := by
  obtain ⟨cur, hb, _⟩ := h
  simp [World.frozen?, hb]
theorem RowAt.lt (h : RowAt wr g l) : g < wr.heap.size := by
  obtain ⟨cur, hb, _⟩ := h
  exact lt_of_some hb
theorem RowAt.set (h : RowAt w' g l) {k : Nat} (hk : k < l.length) {A : Option Addr} {c : Nat} (hl : Lst 3 SR (hole w' g) w'.heap.size A l[k].ss) : RowAt (w'.setCell ⟨g, k * 11 + 10, none⟩ (.slice A l[k].ss.length c)) g l := by
  obtain ⟨cur, hb, hh⟩ := h
  have hm : Mono (hole w' g) (hole (w'.setCell ⟨g, k * 11 + 10, none⟩ (.slice A l[k].ss.length c)) g) := hole_mono fun b _ hne => Below.heap_setCell _ _ _ _ hne
  have hsz : (w'.setCell ⟨g, k * 11 + 10, none⟩ (.slice A l[k].ss.length c)).heap.size = w'.heap.size := by simp
  refine ⟨cur.setIfInBounds (k * 11 + 10) (.slice A l[k].ss.length c), by simp [World.setCell, Array.getElem?_modify, hb], fun j hj => ?_⟩
  obtain ⟨cs, h1, h2⟩ := hh j hj
  by_cases hjk : j = k
  · subst hjk
    obtain ⟨e1, e2, t, An, nn, cn, Ai, ni, ci, A0, c0, rfl, hv, hs⟩ := h2.parts2
    refine ⟨[.string l[j].n, .int .i64 l[j].c, .int .i64 l[j].m, .int .i64 e1, .int .i64 e2, .string t, .slice An nn cn, .slice Ai ni ci, .int .i64 l[j].a, .int .i64 l[j].g, .slice A l[j].ss.length c], fun i u hu => ?_, [.int .i64 e1, .int .i64 e2, .string t, .slice An nn cn, .slice Ai ni ci], A, c, rfl, hv.mono (by rw [hsz]; exact Nat.le_refl _) hm, hl.mono hm (by rw [hsz]; exact Nat.le_refl _) fun _ _ h => h⟩
    have h10 : j * 11 + 10 < cur.size := by
      have := h1 10 _ rfl
      exact (Array.getElem?_eq_some_iff.1 this).1
    by_cases hi : i = 10
    · subst hi
      have hu' : some (Value.slice A l[j].ss.length c) = some u := hu
      rw [← hu', Array.getElem?_setIfInBounds_self_of_lt h10]
    · rw [Array.getElem?_setIfInBounds_ne (by omega)]
      apply h1
      rw [← hu]
      match i, hi with
      | 0, _ | 1, _ | 2, _ | 3, _ | 4, _ | 5, _ | 6, _ | 7, _ | 8, _ | 9, _ => rfl
      | n + 11, _ => rfl
  · refine ⟨cs, fun i u hu => ?_, h2.mono (by rw [hsz]; exact Nat.le_refl _) hm⟩
    have hi : i < 11 := by
      have := CR.len h2
      rcases Nat.lt_or_ge i cs.length with h | h
      · omega
      · rw [List.getElem?_eq_none h] at hu; cases hu
    rw [Array.getElem?_setIfInBounds_ne (by omega)]
    exact h1 i u hu
theorem RowAt.lst (h : RowAt wr g l) (hm : l.length ≤ 1048576) : Lst 11 (CR wr wr.heap.size) wr wr.heap.size (some ⟨g, 0, none⟩) l := by
  obtain ⟨cur, hb, hh⟩ := h
  refine ⟨hm, fun hp => ⟨g, 0, rfl, lt_of_some hb, fun i hi => ?_⟩⟩
  obtain ⟨cs, h1, h2⟩ := hh i hi
  refine ⟨cs, CR.len h2, fun j u hu => ?_, h2.mono (Nat.le_refl _) (hole_sub _ _)⟩
  rw [show 0 + i * 11 + j = i * 11 + j by omega, cell_of_row wr g _ cur 70 (0, 0) hb]
  exact h1 j u hu
theorem RowAt.make {base cap n : Nat} {news : List Value} (h : wr.ownsRow base 70 11 (.slice (some ⟨g, 0, none⟩) n cap) n news) (hn : l.length = n) (hf : Flat 11 (CR (hole wr g) wr.heap.size) l news) : RowAt wr g l := by
  rcases h.2 with ⟨h0, _⟩ | ⟨g', cap', cur, he, hbase, hb, h1, h2, h3, h4⟩
  · cases h0
  · injection he with he1 he2 he3
    injection he1 with he1
    injection he1 with he1
    subst he1
    refine ⟨cur, hb, fun j hj => ?_⟩
    obtain ⟨cs, k1, k2, k3⟩ := hf.2 j hj
    refine ⟨cs, fun i u hu => ?_, k2⟩
    have hi : i < 11 := by
      rcases Nat.lt_or_ge i cs.length with h | h
      · omega
      · rw [List.getElem?_eq_none h] at hu; cases hu
    have h5 := h.cellAt (j * 11 + i) (by omega)
    rw [cell_of_row wr g _ cur 70 (0, 0) hb] at h5
    rw [h5, k3 i hi, hu]
end
end Go.Proofs.YtbjmakigdglghaaGreatDoor.Dd
namespace Go.Proofs.YtbjmakigdglghaaGreatDoor.Dd
set_option linter.unusedVariables false
open Go.RowKit
theorem info70 : (Tryz.prog.info? 70).map (fun i => (i.zero, i.size, i.bytes)) = some (some zC, 11, 152) := by kernel_rfl
theorem info75 : (Tryz.prog.info? 75).map (fun i => (i.zero, i.size, i.bytes)) = some (some zI, 7, 104) := by kernel_rfl
theorem info84 : (Tryz.prog.info? 84).map (fun i => (i.zero, i.size, i.bytes)) = some (some (.agg #[.string ⟨#[]⟩, .string ⟨#[]⟩, .bool false]), 3, 40) := by kernel_rfl
theorem own_form {w : World} {base size n : Nat} {e : TypeId} {v : Value} {xs : List Value} (h : w.ownsRow base e size v n xs) {q : Nat} (hb : v.ownBlock = some q) : ∃ cap, v = .slice (some ⟨q, 0, none⟩) n cap ∧ base ≤ q ∧ n ≤ cap ∧ cap ≤ maxLen := by
  rcases h.2 with ⟨rfl, _⟩ | ⟨g, cap, cur, rfl, h1, _, h2, h3, _⟩
  · simp [Value.ownBlock] at hb
  · simp [Value.ownBlock] at hb
    subst hb
    exact ⟨cap, rfl, h1, h2, h3⟩
/-- the world without these blocks -/
def mask (lo hi : Nat) (w : World) : World := { w with heap := w.heap.mapIdx fun i o => if lo ≤ i ∧ i < hi then .map #[] 0 else o }
theorem mask_size (lo hi : Nat) (w : World) : (mask lo hi w).heap.size = w.heap.size := by simp [mask]
theorem mask_get {lo hi b : Nat} {w : World} (h : ¬ (lo ≤ b ∧ b < hi)) : (mask lo hi w).heap[b]? = w.heap[b]? := by
  simp only [mask, Array.getElem?_mapIdx]
  cases w.heap[b]? with
  | none => rfl
  | some o => simp [h]
theorem mask_in {lo hi b : Nat} {w : World} (h : lo ≤ b ∧ b < hi) : (mask lo hi w).heap[b]? = (w.heap[b]?).map fun _ => .map #[] 0 := by
  simp only [mask, Array.getElem?_mapIdx]
  cases w.heap[b]? with
  | none => rfl
  | some o => simp [h]
theorem mask_sub (lo hi : Nat) (w : World) : Mono (mask lo hi w) w := by
  intro p u hu
  by_cases h : lo ≤ p.block ∧ p.block < hi
  · unfold World.cell? at hu
    rw [mask_in h] at hu
    cases hw : w.heap[p.block]? with
    | none => rw [hw] at hu; simp at hu
    | some o => rw [hw] at hu; simp at hu
  · rwa [World.cell?_of_block (w := w) (w' := mask lo hi w) (mask_get h)] at hu
/-- what the mask leaves is as it was -/
theorem mask_mono {lo hi : Nat} {w w' : World} (hk : ∀ b, b < w.heap.size → ¬ (lo ≤ b ∧ b < hi) → w'.heap[b]? = w.heap[b]?) : Mono (mask lo hi w) w' := by
  intro p u hu
  by_cases h : lo ≤ p.block ∧ p.block < hi
  · unfold World.cell? at hu
    rw [mask_in h] at hu
    cases hw : w.heap[p.block]? with
    | none => rw [hw] at hu; simp at hu
    | some o => rw [hw] at hu; simp at hu
  · rw [World.cell?_of_block (w := w) (w' := mask lo hi w) (mask_get h)] at hu
    rwa [World.cell?_of_block (hk p.block (block_lt_of_cell hu) h)]
/-- the world without the blocks between B and the two boxes -/
def v0 (B : Nat) (w wr : World) : World := mask B (w.heap.size + 2) wr
section
variable {w wr w' : World} {B g : Nat} {l : List C}
theorem v0_size (B : Nat) (w wr : World) : (v0 B w wr).heap.size = wr.heap.size := mask_size _ _ _
theorem v0_get {b : Nat} (h : b < B ∨ w.heap.size + 2 ≤ b) : (v0 B w wr).heap[b]? = wr.heap[b]? := mask_get (by omega)
theorem v0_sub (B : Nat) (w wr : World) : Mono (v0 B w wr) wr := mask_sub _ _ _
theorem v0_eq {b : Nat} (h : b < B ∨ w.heap.size + 2 ≤ b → w'.heap[b]? = wr.heap[b]?) (hs : b < wr.heap.size) (hs' : b < w'.heap.size) : (v0 B w w').heap[b]? = (v0 B w wr).heap[b]? := by
  by_cases h1 : b < B ∨ w.heap.size + 2 ≤ b
  · rw [v0_get h1, v0_get h1, h h1]
  · unfold v0
    rw [mask_in (by omega), mask_in (by omega), Array.getElem?_eq_getElem hs, Array.getElem?_eq_getElem hs']
    rfl
theorem row_keep (h : RowAt (v0 B w wr) g l) (hs : wr.heap.size ≤ w'.heap.size) (hk : ∀ b, b < wr.heap.size → (b < B ∨ w.heap.size + 2 ≤ b) → w'.heap[b]? = wr.heap[b]?) : RowAt (v0 B w w') g l :=
  h.keep (fun b hb => by rw [v0_size] at hb; exact v0_eq (hk b hb) hb (by omega)) (by rw [v0_size, v0_size]; exact hs)
theorem row_get (h : RowAt (v0 B w wr) g l) {k : Nat} (hk : k < l.length) : ∃ A c, wr.cell? ⟨g, k * 11 + 10, none⟩ = some (.slice A l[k].ss.length c) ∧ Lst 3 SR wr wr.heap.size A l[k].ss := by
  obtain ⟨A, c, h1, h2⟩ := h.get hk
  exact ⟨A, c, v0_sub _ _ _ _ _ h1, h2.mono (v0_sub _ _ _) (by rw [v0_size]; exact Nat.le_refl _) fun _ _ h => h⟩
theorem row_frozen (h : RowAt (v0 B w wr) g l) (hg : w.heap.size + 2 ≤ g) (i : Nat) : wr.frozen? ⟨g, i, none⟩ = false := by
  have := h.frozen i
  rwa [World.frozen?_of_block (w := wr) (w' := v0 B w wr) (v0_get (.inr hg))] at this
theorem row_lt (h : RowAt (v0 B w wr) g l) : g < wr.heap.size := by have := h.lt; rwa [v0_size] at this
end
/-- copied's boxes and its row -/
structure Cp (B : Nat) (w wr : World) (s : Int) (g n cap : Nat) (A' : Option Addr) (n' c' : Nat) (l : List C) : Prop where
  bel : Below w.heap.size w wr
  box : Blk wr w.heap.size 25 #[.int .i64 s, .slice (some ⟨g, 0, none⟩) n cap, .slice A' n' c']
  res : Blk wr (w.heap.size + 1) 25 #[.int .i64 0, .slice none 0 0, .slice none 0 0]
  row : RowAt (v0 B w wr) g l
  low : w.heap.size + 2 ≤ g
section
variable {B : Nat} {w wr w' : World} {s : Int} {g n cap : Nat} {A' : Option Addr} {n' c' : Nat} {l : List C}
theorem cp_start {W2 w3 : World} {A : Option Addr} {c : Nat} {v : Value} {news : List Value} (hb2 : Below w.heap.size w W2) (hbox : Blk W2 w.heap.size 25 #[.int .i64 s, .slice A n c, .slice A' n' c']) (hres : Blk W2 (w.heap.size + 1) 25 #[.int .i64 0, .slice none 0 0, .slice none 0 0])
    (hgrow : W2.grownBy w3 (some (w.heap.size + 2))) (hs2 : W2.heap.size = w.heap.size + 3) (hown : w3.ownsRow (w.heap.size + 2) 70 11 v n news) (hloc : v.ownBlock = some (w.heap.size + 2) ∨ v.ownBlock = some W2.heap.size) (hl : l.length = n) (hB : B ≤ w.heap.size) (hf : Flat 11 (CR w B) l news) :
    ∃ g cap, v = .slice (some ⟨g, 0, none⟩) n cap ∧ Cp B w (w3.setCell ⟨w.heap.size, 1, none⟩ v) s g n cap A' n' c' l := by
  obtain ⟨g, hg⟩ : ∃ g, v.ownBlock = some g := by rcases hloc with h | h <;> exact ⟨_, h⟩
  obtain ⟨cap, rfl, hlow, hcap, hcm⟩ := own_form hown hg
  have hb3 : Below w.heap.size w w3 := hb2.grown hgrow hb2.size (fun j hj => by injection hj with hj; omega)
  have hbox3 := hbox.grown hgrow (by intro e; injection e with e; omega)
  have hres3 := hres.grown hgrow (by intro e; injection e with e; omega)
  refine ⟨g, cap, rfl, hb3.setCell (p := ⟨w.heap.size, 1, none⟩) (Nat.le_refl _) _, hbox3.set_ 1 _, hres3.far (p := ⟨w.heap.size, 1, none⟩) (by show w.heap.size + 1 ≠ w.heap.size; omega) _, ?_, hlow⟩
  have hown' : (v0 B w (w3.setCell ⟨w.heap.size, 1, none⟩ (.slice (some ⟨g, 0, none⟩) n cap))).ownsRow (w.heap.size + 2) 70 11 (.slice (some ⟨g, 0, none⟩) n cap) n news := by
    refine ⟨hown.1, ?_⟩
    rcases hown.2 with h0 | ⟨g', cap', cur, h1, h2, h3, h4⟩
    · exact .inl h0
    · exact .inr ⟨g', cap', cur, h1, h2, (v0_get (.inr h2)).trans ((Below.heap_setCell w3 ⟨w.heap.size, 1, none⟩ _ g' (by show g' ≠ w.heap.size; omega)).trans h3), h4⟩
  have hb4 : Below w.heap.size w (w3.setCell ⟨w.heap.size, 1, none⟩ (.slice (some ⟨g, 0, none⟩) n cap)) := hb3.setCell (p := ⟨w.heap.size, 1, none⟩) (Nat.le_refl _) _
  refine RowAt.make hown' hl (hf.imp fun x cs h => h.keep (by rw [v0_size]; exact Nat.le_trans hB hb4.size) fun p hp => ?_)
  rw [World.cell?_of_block ((hole_get (by omega)).trans (v0_get (.inl hp)))]
  exact hb4.cell (Nat.lt_of_lt_of_le hp hB)
theorem cp_round {k : Nat} (h : Cp B w wr s g n cap A' n' c' l) (hk : k < l.length) {W2 w3 : World} {v : Value} {news : List Value} (hW2 : ∃ j, W2 = (wr.drewN j).alloc (.cells #[] 84)) (hgrow : W2.grownBy w3 (some wr.heap.size)) (hown : w3.ownsRow wr.heap.size 84 3 v l[k].ss.length news) (hf : Flat 3 SR l[k].ss news) (hm : l[k].ss.length ≤ 1048576) :
    Cp B w w3 s g n cap A' n' c' l ∧ Cp B w (w3.setCell ⟨g, k * 11 + 10, none⟩ v) s g n cap A' n' c' l := by
  obtain ⟨j, rfl⟩ := hW2
  have hsz : ((wr.drewN j).alloc (.cells #[] 84)).heap.size = wr.heap.size + 1 := by simp
  have hs3 : wr.heap.size + 1 ≤ w3.heap.size := by have := hgrow.size; omega
  have hkeep : ∀ b, b < wr.heap.size → w3.heap[b]? = wr.heap[b]? := fun b hb =>
    (hgrow.block b (by omega) (by intro e; injection e with e; omega)).trans (Below.heap_alloc (wr.drewN j) _ b hb)
  have hB : Below wr.heap.size wr w3 := ((bel_drewN (Below.refl _ _) j).alloc (Nat.le_refl _) (.cells #[] 84)).grown hgrow (by simp) (fun q hq => by injection hq with hq; show wr.heap.size ≤ q; omega)
  have hrow : RowAt (v0 B w w3) g l := row_keep h.row (by omega) fun b hb _ => hkeep b hb
  have hglt := row_lt h.row
  have hlt := h.box.lt
  have hlow := h.low
  have h1 : Cp B w w3 s g n cap A' n' c' l := ⟨bel_next h.bel hB, h.box.below hB h.box.lt, h.res.below hB h.res.lt, hrow, h.low⟩
  refine ⟨h1, ?_⟩
  have hne : v.ownBlock ≠ some g := fun e => by have := (hown.lt g e).1; omega
  have hbw : w.heap.size + 1 < wr.heap.size := h.res.lt
  have hown' : (hole (v0 B w w3) g).ownsRow wr.heap.size 84 3 v l[k].ss.length news := by
    refine ⟨hown.1, ?_⟩
    rcases hown.2 with h0 | ⟨g', cap', cur', rfl, h2, h3, h4⟩
    · exact .inl h0
    · refine .inr ⟨g', cap', cur', rfl, h2, ((hole_get ?_).trans (v0_get (.inr (by omega)))).trans h3, h4⟩
      rintro rfl
      exact hne rfl
  obtain ⟨A, c, rfl, _, _, hl⟩ := own_lst hown' hf hm
  rw [hole_size] at hl
  have hp : ∀ q : Nat, q < w.heap.size + 2 → q ≠ (⟨g, k * 11 + 10, none⟩ : Addr).block := fun q hq => by show q ≠ g; omega
  refine ⟨h1.bel.setCell (p := ⟨g, k * 11 + 10, none⟩) (by show w.heap.size ≤ g; omega) _, h1.box.far (hp _ (by omega)) _, h1.res.far (hp _ (by omega)) _, ?_, h.low⟩
  refine RowAt.keep (wr := (v0 B w w3).setCell ⟨g, k * 11 + 10, none⟩ (.slice A l[k].ss.length c)) (h1.row.set hk (c := c) hl) (fun b hb => ?_) (by simp [v0_size])
  have hb' : b < w3.heap.size := by simpa [v0_size] using hb
  by_cases hbg : b = g
  · subst hbg
    rw [v0_get (.inr hlow)]
    have e : (v0 B w w3).heap[b]? = w3.heap[b]? := v0_get (.inr hlow)
    simp only [World.setCell, Array.getElem?_modify, e]
  · refine Eq.trans ?_ (Below.heap_setCell (v0 B w w3) ⟨g, k * 11 + 10, none⟩ _ b hbg).symm
    exact v0_eq (fun _ => Below.heap_setCell w3 ⟨g, k * 11 + 10, none⟩ _ b hbg) hb' (by simpa using hb')
theorem cp_end (h : Cp B w wr s g n cap A' n' c' l) {w5 W : World} {q cap5 : Nat} {news : List Value} {ds : List I} (hgrow : (wr.alloc (.cells #[] 75)).grownBy w5 (some wr.heap.size)) (hown : w5.ownsRow wr.heap.size 75 7 (.slice (some ⟨q, 0, none⟩) n' cap5) n' news)
    (hl : l.length = n) (hl' : ds.length = n') (hB : B ≤ w.heap.size) (hf : Flat 7 (IR w B) ds news) (hm : n ≤ 1048576) (hm' : n' ≤ 1048576) (hs : W.heap.size = w5.heap.size) (hk : ∀ b, b ≠ w.heap.size → b ≠ w.heap.size + 1 → W.heap[b]? = w5.heap[b]?) (hbel : Below w.heap.size w W) :
    SnR (v0 B w W) W.heap.size ⟨s, l, ds⟩ [.int .i64 s, .slice (some ⟨g, 0, none⟩) n cap, .slice (some ⟨q, 0, none⟩) n' cap5] := by
  have hs5 : wr.heap.size + 1 ≤ w5.heap.size := by have := hgrow.size; simpa using this
  have hkeep : ∀ b, b < wr.heap.size → w5.heap[b]? = wr.heap[b]? := fun b hb =>
    (hgrow.block b (by simp; omega) (by intro e; injection e with e; omega)).trans (Below.heap_alloc wr _ b hb)
  have hrow : RowAt (v0 B w W) g l := row_keep h.row (by omega) fun b hb h0 => (hk b (by omega) (by omega)).trans (hkeep b hb)
  have hbw : w.heap.size + 1 < wr.heap.size := h.res.lt
  have hownW : (v0 B w W).ownsRow wr.heap.size 75 7 (.slice (some ⟨q, 0, none⟩) n' cap5) n' news := by
    refine ⟨hown.1, ?_⟩
    rcases hown.2 with h0 | ⟨g', cap', cur', h1, h2, h3, h4⟩
    · exact .inl h0
    · exact .inr ⟨g', cap', cur', h1, h2, ((v0_get (.inr (by omega))).trans (hk g' (by omega) (by omega))).trans h3, h4⟩
  subst hl
  subst hl'
  obtain ⟨A, c, e, _, _, hd⟩ := own_lst hownW (hf.imp fun x cs h => (h.keep (Nat.le_trans hB hbel.size) fun p hp => (World.cell?_of_block (v0_get (.inl hp))).trans (hbel.cell (Nat.lt_of_lt_of_le hp hB)) : IR (v0 B w W) W.heap.size x cs)) hm'
  injection e with e1 e2 e3
  subst e1
  have hrl := hrow.lst hm
  rw [v0_size] at hrl hd
  exact ⟨_, cap, _, cap5, rfl, hrl, hd⟩
end
end Go.Proofs.YtbjmakigdglghaaGreatDoor.Dd
namespace Go.Proofs.YtbjmakigdglghaaGreatDoor.Dd
set_option linter.unusedVariables false
open Go.RowKit
theorem results_cell1 {fn : Func} {p : Tmp} {ty : TypeId} (h : fn.results = #[.cell p ty]) (tmps : Array Value) (P : Program) (w : World) :
    (results fn tmps).run P w =
      ((asAddr (tmps.getD p undef)).run P w).andThen fun a w₁ => ((loadVar ty a).run P w₁).andThen fun v w₂ => .ok v w₂ := by
  simp only [results, h]
  simp [Sem.run_bind, Result.andThen]
  cases (asAddr (tmps[p]?.getD undef)).run P w with
  | halt _ _ => rfl
  | ok a w => simp only []; cases (loadVar ty a).run P w <;> rfl
set_option maxRecDepth 100000 in
set_option maxHeartbeats 8000000 in
theorem copied_any (B : Nat) (w : World) (a : Sn) (ca : List Value) (hB : B ≤ w.heap.size) (ha : SnR w B a ca) :
    Calls Tryz.prog 12 #[.agg ca.toArray] w fun e w' => ∃ cs, e = .returned (.agg cs.toArray) ∧ SnR (v0 B w w') w'.heap.size a cs ∧ Below w.heap.size w w' := by
  obtain ⟨A, c, A', c', rfl, hc, hd⟩ := ha
  obtain ⟨s, hs⟩ : ∃ q, a.s = q := ⟨_, rfl⟩
  obtain ⟨n, hn⟩ : ∃ q, a.cs.length = q := ⟨_, rfl⟩
  obtain ⟨n', hn'⟩ : ∃ q, a.ds.length = q := ⟨_, rfl⟩
  rw [hs, hn, hn']
  have m1 : n ≤ 1048576 := by rw [← hn]; exact hc.1
  have m2 : n' ≤ 1048576 := by rw [← hn']; exact hd.1
  obtain ⟨news, hfl, hrd⟩ := hc.flat (by omega)
  obtain ⟨news', hfl', hrd'⟩ := hd.flat (by omega)
  rw [hn] at hrd
  rw [hn'] at hrd'
  have hrd := hrd.more hB
  have hrd' := hrd'.more hB
  have HB := Lib.hid hB
  have HS := Lib.hid hs
  have HN := Lib.hid hn
  have HN' := Lib.hid hn'
  have HF := Lib.hid hfl
  have HF' := Lib.hid hfl'
  have HR := Lib.hid hrd
  have HR' := Lib.hid hrd'
  have HO := Lib.hid (hfl.one (by omega) fun x cs h => CR.one h)
  have HO' := Lib.hid (hfl'.one (by omega) fun x cs h => IR.one h)
  clear hs hn hn' hc hd hfl hfl' hrd hrd' hB
  obtain ⟨i0, hi, hz0, hz1, hz2⟩ := info_parts info70
  have hb2 : Below w.heap.size w (((w.alloc (.cells #[.int .i64 s, .slice A n c, .slice A' n' c'] 25)).alloc (.cells #[.int .i64 0, .slice none 0 0, .slice none 0 0] 25)).alloc (.cells #[] 70)) := (((Below.refl _ _).alloc (Nat.le_refl _) _).alloc (by simp) _).alloc (by simp; omega) _
  have HB2 := Lib.hid hb2
  have hbox : Blk (((w.alloc (.cells #[.int .i64 s, .slice A n c, .slice A' n' c'] 25)).alloc (.cells #[.int .i64 0, .slice none 0 0, .slice none 0 0] 25)).alloc (.cells #[] 70)) w.heap.size 25 #[.int .i64 s, .slice A n c, .slice A' n' c'] := ((Blk.new w 25 #[.int .i64 s, .slice A n c, .slice A' n' c']).alloc _).alloc _
  have hres : Blk (((w.alloc (.cells #[.int .i64 s, .slice A n c, .slice A' n' c'] 25)).alloc (.cells #[.int .i64 0, .slice none 0 0, .slice none 0 0] 25)).alloc (.cells #[] 70)) (w.heap.size + 1) 25 #[.int .i64 0, .slice none 0 0, .slice none 0 0] := by
    have := (Blk.new (w.alloc (.cells #[.int .i64 s, .slice A n c, .slice A' n' c'] 25)) 25 #[.int .i64 0, .slice none 0 0, .slice none 0 0]).alloc (.cells #[] 70)
    simpa only [World.size_alloc] using this
  have hown0 : (((w.alloc (.cells #[.int .i64 s, .slice A n c, .slice A' n' c'] 25)).alloc (.cells #[.int .i64 0, .slice none 0 0, .slice none 0 0] 25)).alloc (.cells #[] 70)).ownsRow (w.heap.size + 1 + 1) 70 11 (.slice (some ⟨w.heap.size + 1 + 1, 0, none⟩) 0 0) 0 [] := by
    have := World.ownsRow_made (base := w.heap.size + 1 + 1) (e := 70) (size := 11) ((w.alloc (.cells #[.int .i64 s, .slice A n c, .slice A' n' c'] 25)).alloc (.cells #[.int .i64 0, .slice none 0 0, .slice none 0 0] 25)) #[] 0 (by simp) (by unfold maxLen; omega) rfl
    simpa only [World.size_alloc] using this
  have HBOX := Lib.hid hbox
  have HRES := Lib.hid hres
  have HOWN := Lib.hid hown0
  clear hb2 hbox hres hown0
  go_enter Tryz.func12, Tryz.ntmps12
  go_wp2_with (first
    | (at_builtin
       refine wpList_append_any _ rfl _ _ 22 rfl (w.heap.size + 1 + 1) 70 i0 _ 11 152 Tryz.underlying22 hi hz0 hz1 hz2 rfl (by decide) _ 0 [] rfl HOWN.out _ A n c news rfl (HR.out.below HB2.out) HO.out (by unfold maxLen; omega) (by omega) (by simp) ?_
       intro v w3 hown hgrow hloc
       have hblk3 := HBOX.out.grown hgrow (fun e => by have e' : (some w.heap.size : Option Nat) = some (w.heap.size + 1 + 1) := e; injection e' with e'; omega)
       have hx1 := hblk3.cell 1
       have hx2 := hblk3.frozen 1
       rw [List.nil_append, Nat.zero_add] at hown
       obtain ⟨g, cap, rfl, hcp⟩ := cp_start (w := w) (s := s) (A' := A') (n' := n') (c' := c') (l := a.cs) HB2.out HBOX.out HRES.out hgrow (by simp) hown hloc HN.out HB.out HF.out
       have HCP := Lib.hid hcp
       clear hown hgrow hloc hblk3 hcp)
    | go_in)
  clear hx1 hx2 HB2 HBOX HRES HOWN
  obtain ⟨w4, hw4⟩ : ∃ q, w3.setCell ⟨w.heap.size, 1, none⟩ (.slice (some ⟨g, 0, none⟩) n cap) = q := ⟨_, rfl⟩
  rw [hw4] at HCP ⊢
  clear hw4
  go_loopw [3] (fun i wr => ∃ k : Nat, k ≤ n ∧ i = .int .i64 k ∧ Cp B w wr s g n cap A' n' c' a.cs) (fun i _ => n - (intOf i).toNat)
  case atStart => exact ⟨0, Nat.zero_le _, rfl, HCP.out⟩
  case round =>
    clear HCP
    obtain ⟨k, hk, rfl, hcp⟩ := hrel
    have HCP := Lib.hid hcp
    have hc1 : wr.cell? ⟨w.heap.size, 1, none⟩ = some (.slice (some ⟨g, 0, none⟩) n cap) := hcp.box.cell 1
    by_cases hlt : k < n
    · have hkl : k < a.cs.length := by have := HN.out; omega
      obtain ⟨As, cs, hsc, hsl⟩ := row_get hcp.row hkl
      obtain ⟨m, hm⟩ : ∃ q, a.cs[k].ss.length = q := ⟨_, rfl⟩
      rw [hm] at hsc
      have hm1 : m ≤ 1048576 := by rw [← hm]; exact hsl.1
      obtain ⟨ns, hnf, hnr⟩ := hsl.flat (by omega)
      rw [hm] at hnr
      have HM := Lib.hid hm
      have HNF := Lib.hid hnf
      have HNR := Lib.hid hnr
      have HNO := Lib.hid (hnf.one (by omega) fun x cs h => SR.one h)
      have HKL := Lib.hid hkl
      have hg1 : g < wr.heap.size := row_lt hcp.row
      have hg2 : w.heap.size < wr.heap.size := hcp.box.lt
      have hfz : ∀ j, wr.frozen? ⟨g, j, none⟩ = false := fun j => row_frozen hcp.row hcp.low j
      obtain ⟨i1, hi', hy0, hy1, hy2⟩ := info_parts info84
      have hown1 := World.ownsRow_made (base := wr.heap.size) (e := 84) (size := 3) wr.drew #[] 0 (by simp) (by unfold maxLen; omega) rfl
      have HOWN1 := Lib.hid hown1
      clear hown1 hm hsl hnf hnr hcp
      go_upto_region 5 with fail
      go_region_law (first
        | (refine step_append_any _ rfl (.tmp 19) (.tmp 25) 68 rfl wr.heap.size 84 i1 _ 3 40 Tryz.underlying68 hi' hy0 hy1 hy2 rfl (by omega) _ 0 [] rfl HOWN1.out wr.heap.size As m cs ns rfl (HNR.out.below ((bel_drewN (Below.refl _ _) 1).alloc (Nat.le_refl _) _)) HNO.out (by unfold maxLen; omega) (by omega) (by simp) ?_
           intro v w5 hown hgrow hloc
           rw [Nat.zero_add, List.nil_append] at hown
           obtain ⟨q5, hq5⟩ : ∃ q, v.ownBlock = some q := by rcases hloc with h | h <;> exact ⟨_, h⟩
           obtain ⟨cap5, rfl, _⟩ := own_form hown hq5
           clear hq5
           have hcp5 := cp_round HCP.out HKL.out ⟨1, rfl⟩ hgrow (by rw [HM.out]; exact hown) HNF.out (by rw [HM.out]; exact hm1)
           have hx1 := hcp5.1.box.cell 1
           have hx2 := fun j => row_frozen hcp5.1.row hcp5.1.low j
           obtain ⟨Ay, cy, hx3, _⟩ := row_get hcp5.1.row HKL.out)
        | fail)
      all_goals
        have HC5 := Lib.hid hcp5.2
        clear hcp5 hgrow hown hloc hx1 hx2 hx3 hfz hsc hc1
        go_wp2
        go_roundw
        case rel => exact ⟨k + 1, by omega, by go_num, HC5.out⟩
        case measure => simp [intOf]; omega
    · obtain rfl : n = k := by omega
      obtain ⟨i1, hi', hy0, hy1, hy2⟩ := info_parts info75
      have hc2 : wr.cell? ⟨w.heap.size, 2, none⟩ = some (.slice A' n' c') := hcp.box.cell 2
      have hg2 : w.heap.size < wr.heap.size := hcp.box.lt
      have hg3 : w.heap.size + 1 < wr.heap.size := hcp.res.lt
      have hown1 := World.ownsRow_made (base := wr.heap.size) (e := 75) (size := 7) wr #[] 0 (by simp) (by unfold maxLen; omega) rfl
      have HOWN1 := Lib.hid hown1
      clear hown1 hcp
      go_wp2_with (first
        | (at_builtin
           refine wpList_append_any _ rfl _ _ 23 rfl wr.heap.size 75 i1 _ 7 104 Tryz.underlying23 hi' hy0 hy1 hy2 rfl (by decide) _ 0 [] rfl HOWN1.out w.heap.size A' n' c' news' rfl (HR'.out.below (HCP.out.bel.alloc HCP.out.bel.size _)) HO'.out (by unfold maxLen; omega) (by omega) (by simp) ?_
           intro v w5 hown hgrow hloc
           rw [Nat.zero_add, List.nil_append] at hown
           obtain ⟨q5, hq5⟩ : ∃ q, v.ownBlock = some q := by rcases hloc with h | h <;> exact ⟨_, h⟩
           obtain ⟨cap5, rfl, _⟩ := own_form hown hq5
           clear hq5
           have hbk5 := (HCP.out.box.alloc (.cells #[] 75)).grown hgrow (fun e => by have e' : (some w.heap.size : Option Nat) = some wr.heap.size := e; injection e' with e'; omega)
           have hrs5 := (HCP.out.res.alloc (.cells #[] 75)).grown hgrow (fun e => by have e' : (some (w.heap.size + 1) : Option Nat) = some wr.heap.size := e; injection e' with e'; omega)
           have hx0 : w5.cell? ⟨w.heap.size, 0, none⟩ = some (.int .i64 s) := hbk5.cell 0
           have hx1 : w5.cell? ⟨w.heap.size, 1, none⟩ = some (.slice (some ⟨g, 0, none⟩) n cap) := hbk5.cell 1
           have hx2 : w5.cell? ⟨w.heap.size, 2, none⟩ = some (.slice A' n' c') := hbk5.cell 2
           have hx3 : w5.cell? ⟨w.heap.size + 1, 0, none⟩ = some (.int .i64 0) := hrs5.cell 0
           have hx4 : w5.cell? ⟨w.heap.size + 1, 1, none⟩ = some (.slice none 0 0) := hrs5.cell 1
           have hx5 : w5.cell? ⟨w.heap.size + 1, 2, none⟩ = some (.slice none 0 0) := hrs5.cell 2
           have hx6 := fun j => hbk5.frozen j
           have hx7 := fun j => hrs5.frozen j
           have HBK5 := Lib.hid hbk5
           have HRS5 := Lib.hid hrs5
           have HOWN5 := Lib.hid hown
           have HGROW5 := Lib.hid hgrow
           clear hbk5 hrs5 hown hgrow hloc)
        | go_in)
      refine bodyPost_ret (v := .agg #[.int .i64 s, .slice (some ⟨g, 0, none⟩) n cap, .slice (some ⟨q5, 0, none⟩) n' cap5]) (by rw [results_cell1 rfl]; go_simp) rfl ?_
      have hbel : Below w.heap.size w w5 := (HCP.out.bel.alloc HCP.out.bel.size _).grown HGROW5.out (by simp; omega) (fun j hj => by have hj' : some wr.heap.size = some j := hj; injection hj' with hj'; omega)
      have hbelW := (((hbel.setCell (p := ⟨w.heap.size, 2, none⟩) (Nat.le_refl _) (.slice (some ⟨q5, 0, none⟩) n' cap5)).setCell (p := ⟨w.heap.size + 1, 0, none⟩) (Nat.le_succ _) (.int .i64 s)).setCell (p := ⟨w.heap.size + 1, 1, none⟩) (Nat.le_succ _) (.slice (some ⟨g, 0, none⟩) n cap)).setCell (p := ⟨w.heap.size + 1, 2, none⟩) (Nat.le_succ _) (.slice (some ⟨q5, 0, none⟩) n' cap5)
      refine ⟨[.int .i64 s, .slice (some ⟨g, 0, none⟩) n cap, .slice (some ⟨q5, 0, none⟩) n' cap5], rfl, ?_, hbelW⟩
      have hsn := cp_end (l := a.cs) (ds := a.ds) HCP.out HGROW5.out HOWN5.out HN.out HN'.out HB.out HF'.out m1 m2 (by simp) (fun b h0 h1 => ?_) hbelW
      · rw [← HS.out] at hsn ⊢
        exact hsn
      · exact (Below.heap_setCell _ ⟨w.heap.size + 1, 2, none⟩ _ b h1).trans ((Below.heap_setCell _ ⟨w.heap.size + 1, 1, none⟩ _ b h1).trans ((Below.heap_setCell _ ⟨w.heap.size + 1, 0, none⟩ _ b h1).trans (Below.heap_setCell _ ⟨w.heap.size, 2, none⟩ _ b h0)))
end Go.Proofs.YtbjmakigdglghaaGreatDoor.Dd
