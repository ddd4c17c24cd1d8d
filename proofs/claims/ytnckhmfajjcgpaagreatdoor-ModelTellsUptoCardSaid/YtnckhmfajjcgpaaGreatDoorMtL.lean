/- The argument opened: a page as data; the bound on its bulk. -/
import Derived.Test.YtnckhmfajjcgpaaGreatDoorMtK
import Derived.Deep.Slices
import Derived.Deep.Fields
import Derived.ChangeSame
import Derived.ProofKit
import Derived.JoinedCond
import Derived.OpenShut
import Derived.Test.YtnckhmfajjcgpaaGreatDoorRows
set_option linter.unusedVariables false
set_option linter.unusedSimpArgs false
set_option linter.unusedSectionVars false
namespace Go.Proofs.YtnckhmfajjcgpaaGreatDoor.Mt
set_option linter.unusedVariables false
open Go.ChangeShapes Go.WideShapes Go.Deep Go.RowKit Go.Proofs.YtnckhmfajjcgpaaGreatDoor
theorem one_le {H : Type} (d : DataW H) : 1 ≤ Rows.uptoBulk d := by
  cases d with
  | lit l => cases l <;> simp [Rows.uptoBulk]
  | nil => simp [Rows.uptoBulk]
  | ptr d => simp [Rows.uptoBulk]
  | slice elems spare => simp [Rows.uptoBulk]
  | agg parts => simp [Rows.uptoBulk]
  | iface t d => simp [Rows.uptoBulk]
  | map entries => simp [Rows.uptoBulk]
  | held h => simp [Rows.uptoBulk]
theorem part_le {H : Type} {d : DataW H} {l : List (DataW H)} (h : d ∈ l) : Rows.uptoBulk d ≤ Rows.uptoBulkAll l := by
  induction l with
  | nil => cases h
  | cons x r ih =>
    simp only [Rows.uptoBulkAll]
    cases List.mem_cons.1 h with
    | inl e => subst e; omega
    | inr e => have := ih e; omega
theorem length_le {H : Type} (l : List (DataW H)) : l.length ≤ Rows.uptoBulkAll l := by
  induction l with
  | nil => simp [Rows.uptoBulkAll]
  | cons x r ih => have := one_le x; simp only [Rows.uptoBulkAll, List.length_cons]; omega
theorem all_app {H : Type} : ∀ (l l' : List (DataW H)), Rows.uptoBulkAll (l ++ l') = Rows.uptoBulkAll l + Rows.uptoBulkAll l'
  | [], l' => by simp [Rows.uptoBulkAll]
  | x :: l, l' => by simp only [List.cons_append, Rows.uptoBulkAll, all_app l l']; omega
theorem bound {H : Type} {l : List (DataW H)} (hk : Rows.uptoSmall H l = true) : Rows.uptoBulkAll l ≤ 1048576 := by
  simpa [Rows.uptoSmall] using hk
theorem spot_none {w : World} {a : Addr} {v : Value} (h : w.cell? a = some v) : a.spot = none := by
  unfold World.cell? at h
  split at h
  · split at h
    · cases h
    · rename_i h2; simpa using h2
  · cases h
/-- what a list holds, against what is read -/
theorem sum_range {H : Type} {α : Type} (μ : α → Nat) (D : Nat → DataW H) (f : Nat → α) : ∀ (n : Nat), (∀ i, i < n → μ (f i) ≤ Rows.uptoBulk (D i)) → (((List.range n).map f).map μ).sum ≤ Rows.uptoBulkAll ((List.range n).map D)
  | 0, _ => by simp [Rows.uptoBulkAll]
  | n + 1, h => by
    have h1 := sum_range μ D f n fun i hi => h i (by omega)
    have h2 := h n (by omega)
    rw [List.range_succ, List.map_append, List.map_append, List.map_append, List.sum_append, all_app]
    simp only [List.map_cons, List.map_nil, List.sum_cons, List.sum_nil, Rows.uptoBulkAll]
    omega
theorem sum_ge {α : Type} (μ : α → Nat) : ∀ (l : List α), (∀ a ∈ l, 1 ≤ μ a) → l.length ≤ (l.map μ).sum
  | [], _ => by simp
  | x :: l, h => by
    have h1 := sum_ge μ l fun a ha => h a (by simp [ha])
    have h2 := h x (by simp)
    simp only [List.map_cons, List.sum_cons, List.length_cons]
    omega
section
variable {H : Type} {enc : TypeId × Value → H} {P : Program} {w : World} {base : Nat} {spare : Nat → Bool} {held : Bool}
/-- a slice as a list -/
theorem open_lst {t e : TypeId} {n : Nat} {α : Type} [Inhabited α] {R : α → List Value → Prop} {Q : α → Prop} {μ : α → Nat} {fuel : Nat} {cs : List Value} {x : DataW H × List MemPlace} (ht : P.underlying t = some (.slice e)) (hC : P.cellsOf e = n) (hn : 0 < n)
    (h : DataW.trod enc P w base spare held fuel t cs = some x) (hb : Rows.uptoBulk x.1 ≤ 1048576)
    (hel : ∀ (cs' : List Value) (y : DataW H × List MemPlace) (k : Nat), cs'.length = n → DataW.trod enc P w base spare held k e cs' = some y → Rows.uptoBulk y.1 < Rows.uptoBulk x.1 → ∃ a : α, R a cs' ∧ Q a ∧ μ a ≤ Rows.uptoBulk y.1) :
    ∃ (A : Option Addr) (c : Nat) (l : List α), cs = [.slice A l.length c] ∧ l.length ≤ c ∧ Lst n R w w.heap.size A l ∧ (∀ a ∈ l, Q a) ∧ (l.map μ).sum + 1 ≤ Rows.uptoBulk x.1 := by
  rcases open_slice ht h with ⟨rfl, rfl⟩ | ⟨a, len, cap, m, k, D, Pl, rfl, hb0, hlc, hcm, hm, rfl, hi⟩
  · exact ⟨none, 0, [], rfl, Nat.le_refl _, Lst.nil none, fun a (h : a ∈ ([] : List α)) => (List.not_mem_nil h).elim, by simp [Rows.uptoBulk]⟩
  · have hlm : len ≤ m := by rw [hm]; split <;> omega
    rw [hC] at hi
    have hall : Rows.uptoBulk (DataW.slice ((List.range len).map D) ((List.range (m - len)).map fun j => D (len + j))) = Rows.uptoBulkAll ((List.range len).map D) + Rows.uptoBulkAll ((List.range (m - len)).map fun j => D (len + j)) + 1 := by simp only [Rows.uptoBulk]
    have hbk : ∀ i, i < len → Rows.uptoBulk (D i) < Rows.uptoBulk (DataW.slice ((List.range len).map D) ((List.range (m - len)).map fun j => D (len + j))) := by
      intro i hil
      have hmem := part_le (List.mem_map.2 ⟨i, List.mem_range.2 hil, rfl⟩ : D i ∈ (List.range len).map D)
      rw [hall]
      omega
    have key : ∀ i, i < len → ∃ y : α, a.spot = none ∧ a.block < w.heap.size ∧ (∃ cs' : List Value, cs'.length = n ∧ CellsAt w a.block (a.off + i * n) cs' ∧ R y cs') ∧ Q y ∧ μ y ≤ Rows.uptoBulk (D i) := by
      intro i hil
      obtain ⟨cs', hc, ht'⟩ := hi i (by omega)
      obtain ⟨_, hcl, hat⟩ := World.cells?_some hc
      obtain ⟨y, hy, hq, hmu⟩ := hel cs' _ k hcl ht' (hbk i hil)
      have h0 := hat 0 hn
      rw [List.getElem?_eq_getElem (by omega)] at h0
      have hsp : a.spot = none := by
        obtain ⟨cs2, hc2, _⟩ := hi 0 (by omega)
        obtain ⟨_, hcl2, hat2⟩ := World.cells?_some hc2
        have h2 := hat2 0 hn
        rw [List.getElem?_eq_getElem (by omega), Nat.zero_mul] at h2
        exact spot_none (a := a) h2
      have hbl := World.block_lt_of_cell? w _ h0
      rw [block_of_add, block_of_add] at hbl
      refine ⟨y, hsp, hbl, ⟨cs', hcl, fun j u hu => ?_, hy⟩, hq, hmu⟩
      have hj : j < n := by have := (List.getElem?_eq_some_iff.1 hu).1; omega
      have := hat j hj
      rw [hu] at this
      have ha : a = ⟨a.block, a.off, none⟩ := by cases a; simp_all
      rw [ha, add_lit, add_lit] at this
      exact this
    obtain ⟨f, hf⟩ := choose_lt (n := len) key
    have hsum := sum_range μ D f len fun i hi => (hf i hi).2.2.2.2
    have hlen : len ≤ 1048576 := by
      have h1 := length_le ((List.range len).map D)
      rw [List.length_map, List.length_range] at h1
      rw [hall] at hb
      omega
    refine ⟨some a, cap, (List.range len).map f, by simp, by simpa using hlc, ⟨by simpa using hlen, fun hpos => ?_⟩, ?_, by rw [hall]; omega⟩
    · have hpos' : 0 < len := by simpa using hpos
      have ha := (hf 0 hpos')
      refine ⟨a.block, a.off, by obtain ⟨ab, ao, asp⟩ := a; simp only at ha; rw [ha.1], ha.2.1, fun i hil => ?_⟩
      have hil' : i < len := by simpa using hil
      simp only [List.getElem_map, List.getElem_range]
      exact (hf i hil').2.2.1
    · intro y hy
      obtain ⟨i, hi2, rfl⟩ := List.mem_map.1 hy
      exact (hf i (List.mem_range.1 hi2)).2.2.2.1
end
instance : Inhabited V := ⟨.mk 0 0 .empty [] []⟩
instance : Inhabited D := ⟨⟨.empty, 0, default⟩⟩
instance : Inhabited ByteArray := ⟨.empty⟩
theorem cellsI64 : Tryz.prog.cellsOf 2 = 1 := by kernel_rfl
theorem cellsInt : Tryz.prog.cellsOf 3 = 1 := by kernel_rfl
theorem cellsBool : Tryz.prog.cellsOf 4 = 1 := by kernel_rfl
theorem cellsStr : Tryz.prog.cellsOf 9 = 1 := by kernel_rfl
theorem cellsStrs : Tryz.prog.cellsOf 26 = 1 := by kernel_rfl
theorem cellsVs : Tryz.prog.cellsOf 27 = 1 := by kernel_rfl
theorem cellsDocs : Tryz.prog.cellsOf 22 = 1 := by kernel_rfl
theorem cellsV : Tryz.prog.cellsOf 29 = 5 := by kernel_rfl
theorem cellsDoc : Tryz.prog.cellsOf 31 = 7 := by kernel_rfl
theorem cellsPage : Tryz.prog.cellsOf 24 = 4 := by kernel_rfl
theorem len4 {l : List Value} (h : l.length = 4) : ∃ a b c d, l = [a, b, c, d] := by
  rcases l with _ | ⟨a, _ | ⟨b, _ | ⟨c, _ | ⟨d, _ | _⟩⟩⟩⟩ <;> simp_all
theorem len5 {l : List Value} (h : l.length = 5) : ∃ a b c d e, l = [a, b, c, d, e] := by
  rcases l with _ | ⟨a, _ | ⟨b, _ | ⟨c, _ | ⟨d, _ | ⟨e, _ | _⟩⟩⟩⟩⟩ <;> simp_all
theorem len7 {l : List Value} (h : l.length = 7) : ∃ a b c d e f g, l = [a, b, c, d, e, f, g] := by
  rcases l with _ | ⟨a, _ | ⟨b, _ | ⟨c, _ | ⟨d, _ | ⟨e, _ | ⟨f, _ | ⟨g, _ | _⟩⟩⟩⟩⟩⟩⟩ <;> simp_all
theorem wf64 {n : Int} (h : (Lit.int .i64 n).wf = true) : -9223372036854775808 ≤ n ∧ n ≤ 9223372036854775807 := by
  simp only [Lit.wf, Bool.and_eq_true, decide_eq_true_eq] at h
  exact h
theorem szs_sum : ∀ (l : List V), V.szs l + 5 * l.length ≤ (l.map fun v => V.sz v + 5).sum
  | [] => by simp [V.szs]
  | x :: l => by
    have := szs_sum l
    rw [V.szs, List.map_cons, List.sum_cons, List.length_cons]
    omega
theorem rngs_all : ∀ {l : List V}, (∀ a ∈ l, V.rng a) → V.rngs l
  | [], _ => by rw [V.rngs]; trivial
  | x :: l, h => by
    rw [V.rngs]
    exact ⟨h x (by simp), rngs_all fun a ha => h a (by simp [ha])⟩
theorem two {α : Type} {ys : List α} {n j : Nat} (h : ys.length = n) (hj : j < n) : ∃ y, ys[j]? = some y := ⟨_, List.getElem?_eq_getElem (by omega)⟩
theorem list5 {α : Type} {ys : List α} (h : ys.length = 5) {y0 y1 y2 y3 y4 : α} (g0 : ys[0]? = some y0) (g1 : ys[1]? = some y1) (g2 : ys[2]? = some y2) (g3 : ys[3]? = some y3) (g4 : ys[4]? = some y4) : ys = [y0, y1, y2, y3, y4] := by
  rcases ys with _ | ⟨a, _ | ⟨b, _ | ⟨c, _ | ⟨d, _ | ⟨e, _ | _⟩⟩⟩⟩⟩ <;> simp_all
theorem list3 {α : Type} {ys : List α} (h : ys.length = 3) {y0 y1 y2 : α} (g0 : ys[0]? = some y0) (g1 : ys[1]? = some y1) (g2 : ys[2]? = some y2) : ys = [y0, y1, y2] := by
  rcases ys with _ | ⟨a, _ | ⟨b, _ | ⟨c, _ | _⟩⟩⟩ <;> simp_all
theorem list4 {α : Type} {ys : List α} (h : ys.length = 4) {y0 y1 y2 y3 : α} (g0 : ys[0]? = some y0) (g1 : ys[1]? = some y1) (g2 : ys[2]? = some y2) (g3 : ys[3]? = some y3) : ys = [y0, y1, y2, y3] := by
  rcases ys with _ | ⟨a, _ | ⟨b, _ | ⟨c, _ | ⟨d, _ | _⟩⟩⟩⟩ <;> simp_all
section
variable {H : Type} {enc : TypeId × Value → H} {w : World} {base : Nat} {spare : Nat → Bool} {held : Bool}
/-- a value, opened -/
theorem open_value : ∀ (N : Nat) {fuel : Nat} {cs : List Value} {x : DataW H × List MemPlace}, DataW.trod enc Tryz.prog w base spare held fuel 29 cs = some x → Rows.uptoBulk x.1 ≤ 1048576 → Rows.uptoBulk x.1 ≤ N → ∃ v : V, V.At w w.heap.size v cs ∧ v.rng ∧ V.sz v + 5 ≤ Rows.uptoBulk x.1
  | 0, _, _, x, _, _, hN => absurd (one_le x.1) (by omega)
  | N + 1, fuel, cs, x, h, hb, hN => by
    obtain ⟨ys, n, rfl, hx, hl, hyl, hf⟩ := DataW.trod_struct Tryz.underlying29 h
    rw [cellsV] at hl
    obtain ⟨c0, c1, c2, c3, c4, rfl⟩ := len5 hl
    have t0 : DataW.trod enc Tryz.prog w base spare held n 3 (List.take (Tryz.prog.cellsOf 3) (List.drop 0 [c0, c1, c2, c3, c4])) = ys[0]? := hf 0 _ rfl
    have t1 : DataW.trod enc Tryz.prog w base spare held n 2 (List.take (Tryz.prog.cellsOf 2) (List.drop 1 [c0, c1, c2, c3, c4])) = ys[1]? := hf 1 _ rfl
    have t2 : DataW.trod enc Tryz.prog w base spare held n 9 (List.take (Tryz.prog.cellsOf 9) (List.drop 2 [c0, c1, c2, c3, c4])) = ys[2]? := hf 2 _ rfl
    have t3 : DataW.trod enc Tryz.prog w base spare held n 26 (List.take (Tryz.prog.cellsOf 26) (List.drop 3 [c0, c1, c2, c3, c4])) = ys[3]? := hf 3 _ rfl
    have t4 : DataW.trod enc Tryz.prog w base spare held n 27 (List.take (Tryz.prog.cellsOf 27) (List.drop 4 [c0, c1, c2, c3, c4])) = ys[4]? := hf 4 _ rfl
    simp only [cellsInt, cellsI64, cellsStr, cellsStrs, cellsVs, List.drop_zero, List.drop_succ_cons, List.take_succ_cons, List.take_zero] at t0 t1 t2 t3 t4
    have hsz : ys.length = 5 := hyl
    obtain ⟨y0, g0⟩ := two hsz (by omega : 0 < 5)
    obtain ⟨y1, g1⟩ := two hsz (by omega : 1 < 5)
    obtain ⟨y2, g2⟩ := two hsz (by omega : 2 < 5)
    obtain ⟨y3, g3⟩ := two hsz (by omega : 3 < 5)
    obtain ⟨y4, g4⟩ := two hsz (by omega : 4 < 5)
    have hys := list5 hsz g0 g1 g2 g3 g4
    have hbx : Rows.uptoBulk x.1 = Rows.uptoBulk y0.1 + (Rows.uptoBulk y1.1 + (Rows.uptoBulk y2.1 + (Rows.uptoBulk y3.1 + (Rows.uptoBulk y4.1 + 0)))) + 1 := by
      rw [hx, hys]
      simp only [List.map_cons, List.map_nil, Rows.uptoBulk, Rows.uptoBulkAll]
    obtain ⟨k, e0, x0, _⟩ := DataW.trod_int Tryz.underlying3 (t0.trans g0)
    obtain ⟨i, e1, x1, r1⟩ := DataW.trod_int Tryz.underlying2 (t1.trans g1)
    obtain ⟨s, e2, x2, _⟩ := DataW.trod_string Tryz.underlying9 (t2.trans g2)
    have z0 : Rows.uptoBulk y0.1 = 1 := by rw [x0]; simp [Rows.uptoBulk]
    have z1 : Rows.uptoBulk y1.1 = 1 := by rw [x1]; simp [Rows.uptoBulk]
    have z2 : Rows.uptoBulk y2.1 = s.size + 1 := by rw [x2]; simp [Rows.uptoBulk]
    obtain ⟨An, cn, ns, e3, hnc, hn, _, hsn⟩ := open_lst (R := StrR) (Q := fun _ => True) (μ := fun s : ByteArray => s.size + 1) Tryz.underlying26 cellsStr (by decide) (t3.trans g3) (by omega) fun cs' y k _ ht _ => by
      obtain ⟨s, e, ex, _⟩ := DataW.trod_string Tryz.underlying9 ht
      exact ⟨s, e, trivial, by rw [ex]; simp [Rows.uptoBulk]⟩
    obtain ⟨Ai, ci, xs, e4, _, hi, hrg, hsx⟩ := open_lst (R := V.At w w.heap.size) (Q := V.rng) (μ := fun v => V.sz v + 5) Tryz.underlying27 cellsV (by decide) (t4.trans g4) (by omega) fun cs' y k _ ht hlt => open_value N ht (by omega) (by omega)
    injection e0 with e0
    injection e1 with e1
    injection e2 with e2
    injection e3 with e3
    injection e4 with e4
    subst e0 e1 e2 e3 e4
    refine ⟨.mk k i s ns xs, (V.at_mk _ _ _ _ _ _ _ _).2 ⟨An, cn, Ai, ci, rfl, ⟨hn, hnc⟩, hi⟩, (V.rng_mk _ _ _ _ _).2 ⟨wf64 r1, rngs_all hrg⟩, ?_⟩
    have h1 := szs_sum xs
    have h2 : nsz ns = (ns.map fun s : ByteArray => s.size + 1).sum := rfl
    rw [V.sz, hbx]
    omega
/-- a document, opened -/
theorem open_doc {fuel : Nat} {cs : List Value} {x : DataW H × List MemPlace} (h : DataW.trod enc Tryz.prog w base spare held fuel 31 cs = some x) (hb : Rows.uptoBulk x.1 ≤ 1048576) :
    ∃ v : D, DocR w w.heap.size v cs ∧ ((-9223372036854775808 ≤ v.ver ∧ v.ver ≤ 9223372036854775807) ∧ v.v.rng) ∧ v.id.size + v.v.sz + 8 ≤ Rows.uptoBulk x.1 := by
  obtain ⟨ys, n, rfl, hx, hl, hyl, hf⟩ := DataW.trod_struct Tryz.underlying31 h
  rw [cellsDoc] at hl
  obtain ⟨c0, c1, c2, c3, c4, c5, c6, rfl⟩ := len7 hl
  have t0 : DataW.trod enc Tryz.prog w base spare held n 9 (List.take (Tryz.prog.cellsOf 9) (List.drop 0 [c0, c1, c2, c3, c4, c5, c6])) = ys[0]? := hf 0 _ rfl
  have t1 : DataW.trod enc Tryz.prog w base spare held n 2 (List.take (Tryz.prog.cellsOf 2) (List.drop 1 [c0, c1, c2, c3, c4, c5, c6])) = ys[1]? := hf 1 _ rfl
  have t2 : DataW.trod enc Tryz.prog w base spare held n 29 (List.take (Tryz.prog.cellsOf 29) (List.drop 2 [c0, c1, c2, c3, c4, c5, c6])) = ys[2]? := hf 2 _ rfl
  simp only [cellsI64, cellsStr, cellsV, List.drop_zero, List.drop_succ_cons, List.take_succ_cons, List.take_zero] at t0 t1 t2
  have hsz : ys.length = 3 := hyl
  obtain ⟨y0, g0⟩ := two hsz (by omega : 0 < 3)
  obtain ⟨y1, g1⟩ := two hsz (by omega : 1 < 3)
  obtain ⟨y2, g2⟩ := two hsz (by omega : 2 < 3)
  have hys := list3 hsz g0 g1 g2
  have hbx : Rows.uptoBulk x.1 = Rows.uptoBulk y0.1 + (Rows.uptoBulk y1.1 + (Rows.uptoBulk y2.1 + 0)) + 1 := by
    rw [hx, hys]
    simp only [List.map_cons, List.map_nil, Rows.uptoBulk, Rows.uptoBulkAll]
  obtain ⟨s, e0, x0, _⟩ := DataW.trod_string Tryz.underlying9 (t0.trans g0)
  obtain ⟨k, e1, x1, r1⟩ := DataW.trod_int Tryz.underlying2 (t1.trans g1)
  have z0 : Rows.uptoBulk y0.1 = s.size + 1 := by rw [x0]; simp [Rows.uptoBulk]
  have z1 : Rows.uptoBulk y1.1 = 1 := by rw [x1]; simp [Rows.uptoBulk]
  obtain ⟨v, hv, hr, hz⟩ := open_value _ (t2.trans g2) (by omega) (Nat.le_refl _)
  injection e0 with e0
  injection e1 with e1
  subst e0 e1
  exact ⟨⟨s, k, v⟩, ⟨_, rfl, hv⟩, ⟨wf64 r1, hr⟩, by simp only []; omega⟩
/-- a page, opened -/
theorem open_page {fuel : Nat} {cs : List Value} {x : DataW H × List MemPlace} (h : DataW.trod enc Tryz.prog w base spare held fuel 24 cs = some x) (hb : Rows.uptoBulk x.1 ≤ 1048576) :
    ∃ (a s : Int) (A : Option Addr) (c : Nat) (ds : List D) (fl : Bool), cs = [.int .i64 a, .int .i64 s, .slice A ds.length c, .bool fl] ∧ Lst 7 (DocR w w.heap.size) w w.heap.size A ds ∧ bulkD ds ≤ 1048576 ∧
      (∀ d ∈ ds, (-9223372036854775808 ≤ d.ver ∧ d.ver ≤ 9223372036854775807) ∧ d.v.rng) ∧ (-9223372036854775808 ≤ a ∧ a ≤ 9223372036854775807) ∧ (-9223372036854775808 ≤ s ∧ s ≤ 9223372036854775807) := by
  obtain ⟨ys, n, rfl, hx, hl, hyl, hf⟩ := DataW.trod_struct Tryz.underlying24 h
  rw [cellsPage] at hl
  obtain ⟨c0, c1, c2, c3, rfl⟩ := len4 hl
  have t0 : DataW.trod enc Tryz.prog w base spare held n 2 (List.take (Tryz.prog.cellsOf 2) (List.drop 0 [c0, c1, c2, c3])) = ys[0]? := hf 0 _ rfl
  have t1 : DataW.trod enc Tryz.prog w base spare held n 2 (List.take (Tryz.prog.cellsOf 2) (List.drop 1 [c0, c1, c2, c3])) = ys[1]? := hf 1 _ rfl
  have t2 : DataW.trod enc Tryz.prog w base spare held n 22 (List.take (Tryz.prog.cellsOf 22) (List.drop 2 [c0, c1, c2, c3])) = ys[2]? := hf 2 _ rfl
  have t3 : DataW.trod enc Tryz.prog w base spare held n 4 (List.take (Tryz.prog.cellsOf 4) (List.drop 3 [c0, c1, c2, c3])) = ys[3]? := hf 3 _ rfl
  simp only [cellsI64, cellsDocs, cellsBool, List.drop_zero, List.drop_succ_cons, List.take_succ_cons, List.take_zero] at t0 t1 t2 t3
  have hsz : ys.length = 4 := hyl
  obtain ⟨y0, g0⟩ := two hsz (by omega : 0 < 4)
  obtain ⟨y1, g1⟩ := two hsz (by omega : 1 < 4)
  obtain ⟨y2, g2⟩ := two hsz (by omega : 2 < 4)
  obtain ⟨y3, g3⟩ := two hsz (by omega : 3 < 4)
  have hys := list4 hsz g0 g1 g2 g3
  have hbx : Rows.uptoBulk x.1 = Rows.uptoBulk y0.1 + (Rows.uptoBulk y1.1 + (Rows.uptoBulk y2.1 + (Rows.uptoBulk y3.1 + 0))) + 1 := by
    rw [hx, hys]
    simp only [List.map_cons, List.map_nil, Rows.uptoBulk, Rows.uptoBulkAll]
  obtain ⟨a, e0, _, r0⟩ := DataW.trod_int Tryz.underlying2 (t0.trans g0)
  obtain ⟨s, e1, _, r1⟩ := DataW.trod_int Tryz.underlying2 (t1.trans g1)
  obtain ⟨A, c, ds, e2, _, hds, hq, hsum⟩ := open_lst (R := DocR w w.heap.size) (Q := fun v : D => (-9223372036854775808 ≤ v.ver ∧ v.ver ≤ 9223372036854775807) ∧ v.v.rng) (μ := fun v : D => v.id.size + v.v.sz + 8) Tryz.underlying22 cellsDoc (by decide) (t2.trans g2) (by omega) fun cs' y k _ ht hlt => open_doc ht (by omega)
  obtain ⟨fl, e3, _⟩ := DataW.trod_bool Tryz.underlying4 (t3.trans g3)
  injection e0 with e0
  injection e1 with e1
  injection e2 with e2
  injection e3 with e3
  subst e0 e1 e2 e3
  exact ⟨a, s, A, c, ds, fl, rfl, hds, by unfold bulkD; omega, hq, wf64 r0, wf64 r1⟩
end
end Go.Proofs.YtnckhmfajjcgpaaGreatDoor.Mt
