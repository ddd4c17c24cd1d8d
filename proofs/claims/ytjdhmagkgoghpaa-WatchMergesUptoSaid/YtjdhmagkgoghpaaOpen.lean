/- Arguments opened: a slice of changes, a slice of acts, as lists; the bound on their bulk; arguments read again behind the call. -/
import Derived.Test.YtjdhmagkgoghpaaAct
import Derived.Deep.Slices
import Derived.Deep.Fields
import Derived.ChangeSame
import Derived.ProofKit
import Derived.JoinedCond
import Derived.OpenShut
namespace Go.Proofs.Ytjdhmagkgoghpaa
set_option linter.unusedVariables false
open Go.ChangeShapes Go.WideShapes Go.Deep Go.RowKit
section
variable {H : Type} {enc : TypeId × Value → H} {P : Program} {w : World} {base : Nat} {spare : Nat → Bool} {held : Bool}
theorem open_slice_fields {t e : TypeId} {fs : Array Field} {fuel : Nat} {cs : List Value} {x : DataW H × List MemPlace} (ht : P.underlying t = some (.slice e)) (he : P.underlying e = some (.struct fs))
    (hone : oneCellFields P fs = true) (hC : P.cellsOf e = fs.size) (h : DataW.trod enc P w base spare held fuel t cs = some x) :
    (cs = [.slice none 0 0] ∧ x = (.nil, [])) ∨
    ∃ (a : Addr) (len cap m : Nat) (D : Nat → DataW H) (Pl : Nat → List MemPlace), cs = [.slice (some a) len cap] ∧ base ≤ a.block ∧ len ≤ cap ∧ cap ≤ maxLen ∧ m = (if spare a.block then cap else len) ∧
      x = (.slice ((List.range len).map D) ((List.range (m - len)).map fun j => D (len + j)), MemPlace.row a (m * fs.size) ++ (List.range m).flatMap Pl) ∧
      ∀ i, i < m → ∃ (ys : List (DataW H × List MemPlace)) (n : Nat), D i = .agg (ys.map (·.1)) ∧ Pl i = ys.flatMap (·.2) ∧ ys.length = fs.size ∧
        ∀ (j : Nat) (f : Field), fs[j]? = some f → ∃ (v : Value) (y : DataW H × List MemPlace), w.cell? (a.add (i * fs.size + j)) = some v ∧ ys[j]? = some y ∧ DataW.trod enc P w base spare held n f.type [v] = some y := by
  rcases open_slice ht h with h0 | ⟨a, len, cap, m, n, D, Pl, hcs, hb, hl, hm, hmm, hx, hi⟩
  · exact .inl h0
  · refine .inr ⟨a, len, cap, m, D, Pl, hcs, hb, hl, hm, hmm, by rw [hC] at hx; exact hx, fun i him => ?_⟩
    obtain ⟨cs', hc, ht'⟩ := hi i him
    rw [hC] at hc
    obtain ⟨ys, n', hn', hy, hlen, hyl, hf⟩ := DataW.trod_struct he ht'
    obtain ⟨_, hcl, hat⟩ := World.cells?_some hc
    simp only [Prod.mk.injEq] at hy
    refine ⟨ys, n', hy.1, hy.2, hyl, fun j f hj => ?_⟩
    obtain ⟨ho, hk⟩ := hone_of hone j f hj
    have hjl : j < fs.size := (Array.getElem?_eq_some_iff.1 hj).1
    have hcell := hat j hjl
    have hv : cs'[j]? = some (cs'[j]'(by omega)) := List.getElem?_eq_getElem (by omega)
    have h1 := hf j f hj
    rw [ho, hk] at h1
    have hone' : (cs'.drop j).take 1 = [cs'[j]'(by omega)] := by
      rw [List.drop_eq_getElem_cons (by omega)]
      rfl
    rw [hone'] at h1
    have hys : ys[j]? = some (ys[j]'(by omega)) := List.getElem?_eq_getElem (by omega)
    refine ⟨_, _, ?_, hys, h1.trans hys⟩
    rw [← Go.Deep.add_add, hcell, hv]
end
theorem one_le {H : Type} (d : DataW H) : 1 ≤ Rows.uptoBulk d := by
  cases d with
  | lit l => cases l <;> simp [Rows.uptoBulk]
  | nil => simp [Rows.uptoBulk]
  | ptr d => simp [Rows.uptoBulk]
  | slice elems spare => simp [Rows.uptoBulk]
  | agg parts => simp [Rows.uptoBulk]
  | iface t d => simp [Rows.uptoBulk]
  | map entries => simp [Rows.uptoBulk]
  | held h => simp [Rows.uptoBulk]

/-- a part's bulk is at most the whole's -/
theorem part_le {H : Type} {d : DataW H} {l : List (DataW H)} (h : d ∈ l) : Rows.uptoBulk d ≤ Rows.uptoBulkAll l := by
  induction l with
  | nil => cases h
  | cons x r ih =>
    simp only [Rows.uptoBulkAll]
    cases List.mem_cons.1 h with
    | inl e => subst e; omega
    | inr e => have := ih e; omega

theorem append {H : Type} (l r : List (DataW H)) : Rows.uptoBulkAll (l ++ r) = Rows.uptoBulkAll l + Rows.uptoBulkAll r := by
  induction l with
  | nil => simp [Rows.uptoBulkAll]
  | cons x l ih => simp only [List.cons_append, Rows.uptoBulkAll, ih]; omega

/-- so many values at the most -/
theorem length_le {H : Type} (l : List (DataW H)) : l.length ≤ Rows.uptoBulkAll l := by
  induction l with
  | nil => simp [Rows.uptoBulkAll]
  | cons x r ih => have := one_le x; simp only [Rows.uptoBulkAll, List.length_cons]; omega

/-- a slice's places, and what they hold -/
theorem slice_le {H : Type} (elems spare : List (DataW H)) : elems.length + spare.length + 1 ≤ Rows.uptoBulk (.slice elems spare) := by
  have h1 := length_le elems
  have h2 := length_le spare
  simp only [Rows.uptoBulk]
  omega
theorem slice_elems {H : Type} (elems spare : List (DataW H)) : Rows.uptoBulkAll elems + 1 ≤ Rows.uptoBulk (.slice elems spare) := by
  simp only [Rows.uptoBulk]
  omega

/-- a string's letters -/
theorem string_eq {H : Type} (bytes : List UInt8) : Rows.uptoBulk (DataW.lit (H := H) (.string bytes)) = bytes.length + 1 := by
  simp [Rows.uptoBulk]

/-- THE BOUND, as the builder hands it over ('hk') -/
theorem bound {H : Type} {l : List (DataW H)} (hk : Rows.uptoSmall H l = true) : Rows.uptoBulkAll l ≤ 1048576 := by
  simpa [Rows.uptoSmall] using hk


instance : Inhabited Ch := ⟨⟨0, .empty, .empty, 0⟩⟩
instance : Inhabited Ac := ⟨⟨0, [], false, 0, 0, .empty⟩⟩
theorem cells36 : Try.prog.cellsOf 36 = 4 := by kernel_rfl
theorem cells33 : Try.prog.cellsOf 33 = 6 := by kernel_rfl
theorem spot_none {w : World} {a : Addr} {v : Value} (h : w.cell? a = some v) : a.spot = none := by
  unfold World.cell? at h
  split at h
  · split at h
    · cases h
    · rename_i h2; simpa using h2
  · cases h
theorem addr_none {w : World} {a : Addr} {v : Value} (h : w.cell? a = some v) : a = ⟨a.block, a.off, none⟩ := by
  have := spot_none h
  cases a
  simp_all
theorem add_lit (b off n : Nat) : (⟨b, off, none⟩ : Addr).add n = ⟨b, off + n, none⟩ := by
  unfold Addr.add
  split
  · rename_i e; subst e; rfl
  · rfl
section
variable {H : Type} {enc : TypeId × Value → H} {w : World} {held : Bool}
/-- a slice of changes, opened -/
theorem open_changes {base : Nat} {spare : Nat → Bool} {fuel : Nat} {cs : List Value} {x : DataW H × List MemPlace} (h : DataW.trod enc Try.prog w base spare held fuel 31 cs = some x) :
    ∃ (A : Option Addr) (len cap : Nat) (l : List Ch), cs = [.slice A len cap] ∧ l.length = len ∧ len ≤ cap ∧ cap ≤ maxLen ∧ Rd w w.heap.size A l ∧ len ≤ Rows.uptoBulk x.1 ∧ (A = none → cap = 0) := by
  rcases open_slice_fields Try.underlying31 Try.underlying36 (by kernel_rfl) cells36 h with ⟨rfl, rfl⟩ | ⟨a, len, cap, m, D, Pl, rfl, hb, hlc, hcm, hm, rfl, hi⟩
  · exact ⟨none, 0, 0, [], rfl, rfl, Nat.le_refl _, Nat.zero_le _, fun h => by simp at h, Nat.zero_le _, fun _ => rfl⟩
  · have hlm : len ≤ m := by rw [hm]; split <;> omega
    have hch : ∀ i, i < len → ∃ c : Ch, (a.spot = none ∧ a.block < w.heap.size) ∧ ChAt w a.block (a.off + i * 4) c := by
      intro i hil
      obtain ⟨ys, n, _, _, _, hf⟩ := hi i (by omega)
      obtain ⟨v0, y0, c0, _, t0⟩ := hf 0 _ rfl
      obtain ⟨v1, y1, c1, _, t1⟩ := hf 1 _ rfl
      obtain ⟨v2, y2, c2, _, t2⟩ := hf 2 _ rfl
      obtain ⟨v3, y3, c3, _, t3⟩ := hf 3 _ rfl
      obtain ⟨s, e0, _, _⟩ := DataW.trod_int Try.underlying2 t0
      obtain ⟨c, e1, _, _⟩ := DataW.trod_string Try.underlying9 t1
      obtain ⟨i', e2, _, _⟩ := DataW.trod_string Try.underlying9 t2
      obtain ⟨k, e3, _, _⟩ := DataW.trod_int Try.underlying3 t3
      injection e0 with e0
      injection e1 with e1
      injection e2 with e2
      injection e3 with e3
      subst e0 e1 e2 e3
      have hbl : (a.add (i * 4 + 0)).block < w.heap.size := block_lt_of_cell c0
      have hsp : a.spot = none ∨ 0 < i * 4 + 0 := by
        rcases Nat.eq_zero_or_pos (i * 4 + 0) with h0 | h0
        · left
          have h2 : a.add (i * 4 + 0) = a := by unfold Addr.add; rw [if_pos h0]
          have c0' : w.cell? (a.add (i * 4 + 0)) = some (.int .i64 s) := c0
          rw [h2] at c0'
          exact spot_none c0'
        · exact .inr h0
      have hsp0 : a.spot = none := by
        obtain ⟨ys', n', _, _, _, hf'⟩ := hi 0 (by omega)
        obtain ⟨v0', y0', c0', _, _⟩ := hf' 0 _ rfl
        have h2 : a.add (0 * 4 + 0) = a := rfl
        have c0'' : w.cell? (a.add (0 * 4 + 0)) = some v0' := c0'
        rw [h2] at c0''
        exact spot_none c0''
      have ha : a = ⟨a.block, a.off, none⟩ := by cases a; simp_all
      rw [block_of_add] at hbl
      refine ⟨⟨s, c, i', k⟩, ⟨hsp0, hbl⟩, ?_⟩
      have g : ∀ j v, w.cell? (a.add (i * 4 + j)) = some v → w.cell? ⟨a.block, a.off + i * 4 + j, none⟩ = some v := by
        intro j v hv
        rw [ha, add_lit] at hv
        rw [show a.off + i * 4 + j = a.off + (i * 4 + j) from by omega]
        exact hv
      exact ⟨g 0 _ c0, g 1 _ c1, g 2 _ c2, g 3 _ c3⟩
    obtain ⟨f, hf⟩ := choose_lt (n := len) hch
    refine ⟨some a, len, cap, (List.range len).map f, rfl, by simp, hlc, hcm, fun hpos => ?_, ?_, fun h => by cases h⟩
    · have hpos' : 0 < len := by simpa using hpos
      have ha := (hf 0 hpos').1
      refine ⟨a.block, a.off, by obtain ⟨ab, ao, asp⟩ := a; simp only at ha; rw [ha.1], ha.2, fun i hil => ?_⟩
      have hil' : i < len := by simpa using hil
      simp only [List.getElem_map, List.getElem_range]
      exact (hf i hil').2
    · have := slice_le ((List.range len).map D) ((List.range (m - len)).map fun j => D (len + j))
      simp at this
      show len ≤ Rows.uptoBulk (DataW.slice _ _)
      omega
theorem bulk_list (D : Nat → DataW H) (f : Nat → Nat) (n : Nat) (h : ∀ i, i < n → f i ≤ Rows.uptoBulk (D i)) : ((List.range n).map f).sum ≤ Rows.uptoBulkAll ((List.range n).map D) := by
  induction n with
  | zero => simp [Rows.uptoBulkAll]
  | succ n ih =>
    have h1 := ih fun i hi => h i (by omega)
    have h2 := h n (by omega)
    rw [List.range_succ, List.map_append, List.map_append, List.sum_append, append]
    simp only [List.map_cons, List.map_nil, List.sum_cons, List.sum_nil, Rows.uptoBulkAll]
    omega
/-- a slice of acts, opened -/
theorem open_acts {base : Nat} {spare : Nat → Bool} {fuel : Nat} {cs : List Value} {x : DataW H × List MemPlace} (h : DataW.trod enc Try.prog w base spare held fuel 22 cs = some x) :
    ∃ (A : Option Addr) (len cap : Nat) (l : List Ac), cs = [.slice A len cap] ∧ l.length = len ∧ len ≤ cap ∧ Acts w w.heap.size A l ∧ len ≤ Rows.uptoBulk x.1 ∧ sumCh l ≤ Rows.uptoBulk x.1 := by
  rcases open_slice_fields Try.underlying22 Try.underlying33 (by kernel_rfl) cells33 h with ⟨rfl, rfl⟩ | ⟨a, len, cap, m, D, Pl, rfl, hb, hlc, hcm, hm, rfl, hi⟩
  · exact ⟨none, 0, 0, [], rfl, rfl, Nat.le_refl _, fun h => by simp at h, Nat.zero_le _, by simp [sumCh]⟩
  · have hlm : len ≤ m := by rw [hm]; split <;> omega
    have hch : ∀ i, i < len → ∃ c : Ac, (a.spot = none ∧ a.block < w.heap.size) ∧ (∃ A' c', AcAt w w.heap.size a.block (a.off + i * 6) A' c' c) ∧ c.ch.length ≤ Rows.uptoBulk (D i) := by
      intro i hil
      obtain ⟨ys, n, hD, _, _, hf⟩ := hi i (by omega)
      obtain ⟨v0, y0, c0, _, t0⟩ := hf 0 _ rfl
      obtain ⟨v1, y1, c1, g1, t1⟩ := hf 1 _ rfl
      obtain ⟨v2, y2, c2, _, t2⟩ := hf 2 _ rfl
      obtain ⟨v3, y3, c3, _, t3⟩ := hf 3 _ rfl
      obtain ⟨v4, y4, c4, _, t4⟩ := hf 4 _ rfl
      obtain ⟨v5, y5, c5, _, t5⟩ := hf 5 _ rfl
      obtain ⟨s, e0, _, _⟩ := DataW.trod_int Try.underlying2 t0
      obtain ⟨A', len', cap', l', e1, hl', hlc', _, hrd', hbk, _⟩ := open_changes t1
      obtain ⟨q, e2, _⟩ := DataW.trod_bool Try.underlying4 t2
      obtain ⟨af, e3, _, _⟩ := DataW.trod_int Try.underlying2 t3
      obtain ⟨lm, e4, _, _⟩ := DataW.trod_int Try.underlying2 t4
      obtain ⟨inn, e5, _, _⟩ := DataW.trod_string Try.underlying9 t5
      injection e0 with e0
      injection e1 with e1
      injection e2 with e2
      injection e3 with e3
      injection e4 with e4
      injection e5 with e5
      subst e0 e1 e2 e3 e4 e5 hl'
      have hbl : (a.add (i * 6 + 0)).block < w.heap.size := block_lt_of_cell c0
      have hsp0 : a.spot = none := by
        obtain ⟨ys', n', _, _, _, hf'⟩ := hi 0 (by omega)
        obtain ⟨v0', y0', c0', _, _⟩ := hf' 0 _ rfl
        have h2 : a.add (0 * 6 + 0) = a := rfl
        have c0'' : w.cell? (a.add (0 * 6 + 0)) = some v0' := c0'
        rw [h2] at c0''
        exact spot_none c0''
      have ha : a = ⟨a.block, a.off, none⟩ := by cases a; simp_all
      rw [block_of_add] at hbl
      have g : ∀ j v, w.cell? (a.add (i * 6 + j)) = some v → w.cell? ⟨a.block, a.off + i * 6 + j, none⟩ = some v := by
        intro j v hv
        rw [ha, add_lit] at hv
        rw [show a.off + i * 6 + j = a.off + (i * 6 + j) from by omega]
        exact hv
      refine ⟨⟨s, l', q, af, lm, inn⟩, ⟨hsp0, hbl⟩, ⟨A', cap', g 0 _ c0, g 1 _ c1, g 2 _ c2, g 3 _ c3, g 4 _ c4, g 5 _ c5, hrd', hlc'⟩, ?_⟩
      have hy : y1.1 ∈ ys.map (·.1) := List.mem_map.2 ⟨y1, List.mem_of_getElem? g1, rfl⟩
      have := part_le hy
      rw [hD]
      simp only [Rows.uptoBulk]
      show l'.length ≤ _
      omega
    obtain ⟨f, hf⟩ := choose_lt (n := len) hch
    refine ⟨some a, len, cap, (List.range len).map f, rfl, by simp, hlc, fun hpos => ?_, ?_, ?_⟩
    · have hpos' : 0 < len := by simpa using hpos
      have ha := (hf 0 hpos').1
      refine ⟨a.block, a.off, by obtain ⟨ab, ao, asp⟩ := a; simp only at ha; rw [ha.1], ha.2, fun i hil => ?_⟩
      have hil' : i < len := by simpa using hil
      simp only [List.getElem_map, List.getElem_range]
      exact (hf i hil').2.1
    · have := slice_le ((List.range len).map D) ((List.range (m - len)).map fun j => D (len + j))
      simp at this
      show len ≤ Rows.uptoBulk (DataW.slice _ _)
      omega
    · have h1 := bulk_list D (fun i => (f i).ch.length) len fun i hi => (hf i hi).2.2
      have h2 := slice_elems ((List.range len).map D) ((List.range (m - len)).map fun j => D (len + j))
      unfold sumCh
      rw [List.map_map]
      show ((List.range len).map fun i => (f i).ch.length).sum ≤ Rows.uptoBulk (DataW.slice _ _)
      omega
end
theorem laidOut : laidOutB Try.prog = true := by kernel_rfl
/-- what was read reads behind the call as before -/
theorem trodAll_stays {H : Type} {enc : TypeId × Value → H} {P : Program} (hl : laidOutB P = true) {W W' : World} {sp : Nat → Bool} (hb : Below W.heap.size W W') : ∀ {ts : List TypeId} {vs : List Value} {ds : List (DataW H)} {ps : List MemPlace},
    DataW.TrodAll enc P W 0 (fun _ => true) true ts vs ds ps → (∀ t ∈ ts, P.readableRec t = true ∧ t < P.types.size) → (∀ x ∈ ps, x.block < W.heap.size) → (∀ x ∈ ps, sp x.block = true) →
    DataW.TrodAll enc P W' 0 sp true ts vs ds ps
  | [], vs, ds, ps, h, _, _, _ => by
    obtain ⟨rfl, rfl, rfl⟩ := trodAll_nil h
    exact trodAll_mk0
  | t :: ts, vs, ds, ps, h, hr, hlt, hsp => by
    obtain ⟨v0, vs0, d0, ds0, p0, q0, rfl, rfl, rfl, h0, r0⟩ := trodAll_cons h
    have hr0 := hr t (by simp)
    have h1 := WideElems.Trod_stays (W' := W') (sp' := sp) hl hr0.1 hr0.2 h0 (fun x hx => hb.same (hlt x (List.mem_append.2 (.inl hx)))) (fun x hx => hsp x (List.mem_append.2 (.inl hx)))
    have h2 := trodAll_stays hl hb r0 (fun t ht => hr t (by simp [ht])) (fun x hx => hlt x (List.mem_append.2 (.inr hx))) (fun x hx => hsp x (List.mem_append.2 (.inr hx)))
    exact trodAll_cons_mk h1 h2
end Go.Proofs.Ytjdhmagkgoghpaa
