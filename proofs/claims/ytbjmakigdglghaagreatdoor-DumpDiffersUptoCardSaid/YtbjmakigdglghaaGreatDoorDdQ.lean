/- The arguments opened: a snapshot as data; the bound on their bulk. -/
import Derived.Test.YtbjmakigdglghaaGreatDoorDdA
import Derived.Deep.Slices
import Derived.Deep.Fields
import Derived.ChangeSame
import Derived.ProofKit
import Derived.JoinedCond
import Derived.OpenShut
import Derived.Test.YtbjmakigdglghaaGreatDoorRows
set_option linter.unusedVariables false
set_option linter.unusedSimpArgs false
set_option linter.unusedSectionVars false
namespace Go.Proofs.YtbjmakigdglghaaGreatDoor.Dd
set_option linter.unusedVariables false
open Go.ChangeShapes Go.WideShapes Go.Deep Go.RowKit Go.Proofs.YtbjmakigdglghaaGreatDoor
theorem one_le {H : Type} (d : DataW H) : 1 ≤ Rows.uptoBulk d := by
  cases d with
  | lit l => cases l <;> simp [Rows.uptoBulk]
  | nil => simp [Rows.uptoBulk]
  | ptr d => simp [Rows.uptoBulk]
  | slice elems spare => simp [Rows.uptoBulk]
  | agg parts => simp [Rows.uptoBulk]
  | iface t d => simp [Rows.uptoBulk]
  | map entries => simp [Rows.uptoBulk]
  | held h => simp [Rows.uptoBulk]
theorem part_le {H : Type} {d : DataW H} {l : List (DataW H)} (h : d ∈ l) : Rows.uptoBulk d ≤ Rows.uptoBulkAll l := by
  induction l with
  | nil => cases h
  | cons x r ih =>
    simp only [Rows.uptoBulkAll]
    cases List.mem_cons.1 h with
    | inl e => subst e; omega
    | inr e => have := ih e; omega
theorem length_le {H : Type} (l : List (DataW H)) : l.length ≤ Rows.uptoBulkAll l := by
  induction l with
  | nil => simp [Rows.uptoBulkAll]
  | cons x r ih => have := one_le x; simp only [Rows.uptoBulkAll, List.length_cons]; omega
theorem bound {H : Type} {l : List (DataW H)} (hk : Rows.uptoSmall H l = true) : Rows.uptoBulkAll l ≤ 1048576 := by
  simpa [Rows.uptoSmall] using hk
theorem spot_none {w : World} {a : Addr} {v : Value} (h : w.cell? a = some v) : a.spot = none := by
  unfold World.cell? at h
  split at h
  · split at h
    · cases h
    · rename_i h2; simpa using h2
  · cases h
theorem agg_part {H : Type} {ys : List (DataW H × List MemPlace)} {pl : List MemPlace} {j : Nat} {y : DataW H × List MemPlace} {x : DataW H × List MemPlace} (hx : x = (.agg (ys.map (·.1)), pl)) (h : ys[j]? = some y) : Rows.uptoBulk y.1 < Rows.uptoBulk x.1 := by
  subst hx
  have hy : y.1 ∈ ys.map (·.1) := List.mem_map.2 ⟨y, List.mem_of_getElem? h, rfl⟩
  have := part_le hy
  simp only [Rows.uptoBulk]
  omega
section
variable {H : Type} {enc : TypeId × Value → H} {P : Program} {w : World} {base : Nat} {spare : Nat → Bool} {held : Bool}
/-- a slice as a list -/
theorem open_lst {t e : TypeId} {n : Nat} {α : Type} [Inhabited α] {R : α → List Value → Prop} {fuel : Nat} {cs : List Value} {x : DataW H × List MemPlace} (ht : P.underlying t = some (.slice e)) (hC : P.cellsOf e = n) (hn : 0 < n)
    (h : DataW.trod enc P w base spare held fuel t cs = some x) (hb : Rows.uptoBulk x.1 ≤ 1048576)
    (hel : ∀ (cs' : List Value) (y : DataW H × List MemPlace) (k : Nat), cs'.length = n → DataW.trod enc P w base spare held k e cs' = some y → Rows.uptoBulk y.1 < Rows.uptoBulk x.1 → ∃ a : α, R a cs') :
    ∃ (A : Option Addr) (c : Nat) (l : List α), cs = [.slice A l.length c] ∧ Lst n R w w.heap.size A l := by
  rcases open_slice ht h with ⟨rfl, rfl⟩ | ⟨a, len, cap, m, k, D, Pl, rfl, hb0, hlc, hcm, hm, rfl, hi⟩
  · exact ⟨none, 0, [], rfl, Lst.nil none⟩
  · have hlm : len ≤ m := by rw [hm]; split <;> omega
    rw [hC] at hi
    have hbk : ∀ i, i < m → Rows.uptoBulk (D i) < Rows.uptoBulk (DataW.slice ((List.range len).map D) ((List.range (m - len)).map fun j => D (len + j))) := by
      intro i him
      simp only [Rows.uptoBulk]
      rcases Nat.lt_or_ge i len with h1 | h1
      · have : D i ∈ (List.range len).map D := List.mem_map.2 ⟨i, List.mem_range.2 h1, rfl⟩
        have := part_le this
        omega
      · have : D i ∈ (List.range (m - len)).map fun j => D (len + j) := List.mem_map.2 ⟨i - len, List.mem_range.2 (by omega), by rw [show len + (i - len) = i by omega]⟩
        have := part_le this
        omega
    have hlen : len ≤ 1048576 := by
      have h1 := length_le ((List.range len).map D)
      simp only [Rows.uptoBulk] at hb
      simp at h1
      omega
    have key : ∀ i, i < len → ∃ y : α, a.spot = none ∧ a.block < w.heap.size ∧ ∃ cs' : List Value, cs'.length = n ∧ CellsAt w a.block (a.off + i * n) cs' ∧ R y cs' := by
      intro i hil
      obtain ⟨cs', hc, ht'⟩ := hi i (by omega)
      obtain ⟨_, hcl, hat⟩ := World.cells?_some hc
      obtain ⟨y, hy⟩ := hel cs' _ k hcl ht' (hbk i (by omega))
      have h0 := hat 0 hn
      rw [List.getElem?_eq_getElem (by omega)] at h0
      have hsp : a.spot = none := by
        obtain ⟨cs2, hc2, _⟩ := hi 0 (by omega)
        obtain ⟨_, hcl2, hat2⟩ := World.cells?_some hc2
        have h2 := hat2 0 hn
        rw [List.getElem?_eq_getElem (by omega), Nat.zero_mul] at h2
        exact spot_none (a := a) h2
      have hbl := World.block_lt_of_cell? w _ h0
      rw [block_of_add, block_of_add] at hbl
      refine ⟨y, hsp, hbl, cs', hcl, fun j u hu => ?_, hy⟩
      have hj : j < n := by have := (List.getElem?_eq_some_iff.1 hu).1; omega
      have := hat j hj
      rw [hu] at this
      have ha : a = ⟨a.block, a.off, none⟩ := by cases a; simp_all
      rw [ha, add_lit, add_lit] at this
      exact this
    obtain ⟨f, hf⟩ := choose_lt (n := len) key
    refine ⟨some a, cap, (List.range len).map f, by simp, by simpa using hlen, fun hpos => ?_⟩
    have hpos' : 0 < len := by simpa using hpos
    have ha := (hf 0 hpos')
    refine ⟨a.block, a.off, by obtain ⟨ab, ao, asp⟩ := a; simp only at ha; rw [ha.1], ha.2.1, fun i hil => ?_⟩
    have hil' : i < len := by simpa using hil
    simp only [List.getElem_map, List.getElem_range]
    exact (hf i hil').2.2
end
instance : Inhabited V := ⟨.mk 0 0 .empty [] []⟩
instance : Inhabited S := ⟨⟨.empty, .empty, false⟩⟩
instance : Inhabited C := ⟨⟨.empty, 0, 0, default, 0, 0, []⟩⟩
instance : Inhabited I := ⟨⟨.empty, 0, default⟩⟩
instance : Inhabited ByteArray := ⟨.empty⟩
theorem cells2 : Tryz.prog.cellsOf 2 = 1 := by kernel_rfl
theorem cells3 : Tryz.prog.cellsOf 3 = 1 := by kernel_rfl
theorem cells4 : Tryz.prog.cellsOf 4 = 1 := by kernel_rfl
theorem cells9 : Tryz.prog.cellsOf 9 = 1 := by kernel_rfl
theorem cells57 : Tryz.prog.cellsOf 57 = 1 := by kernel_rfl
theorem cells58 : Tryz.prog.cellsOf 58 = 1 := by kernel_rfl
theorem cells22 : Tryz.prog.cellsOf 22 = 1 := by kernel_rfl
theorem cells23 : Tryz.prog.cellsOf 23 = 1 := by kernel_rfl
theorem cells68 : Tryz.prog.cellsOf 68 = 1 := by kernel_rfl
theorem cells67 : Tryz.prog.cellsOf 67 = 2 := by kernel_rfl
theorem cells60 : Tryz.prog.cellsOf 60 = 5 := by kernel_rfl
theorem cells84 : Tryz.prog.cellsOf 84 = 3 := by kernel_rfl
theorem cells70 : Tryz.prog.cellsOf 70 = 11 := by kernel_rfl
theorem cells75 : Tryz.prog.cellsOf 75 = 7 := by kernel_rfl
theorem cells25 : Tryz.prog.cellsOf 25 = 3 := by kernel_rfl
theorem len3 {l : List Value} (h : l.length = 3) : ∃ a b c, l = [a, b, c] := by
  rcases l with _ | ⟨a, _ | ⟨b, _ | ⟨c, _ | _⟩⟩⟩ <;> simp_all
theorem len2 {l : List Value} (h : l.length = 2) : ∃ a b, l = [a, b] := by
  rcases l with _ | ⟨a, _ | ⟨b, _ | _⟩⟩ <;> simp_all
theorem len5 {l : List Value} (h : l.length = 5) : ∃ a b c d e, l = [a, b, c, d, e] := by
  rcases l with _ | ⟨a, _ | ⟨b, _ | ⟨c, _ | ⟨d, _ | ⟨e, _ | _⟩⟩⟩⟩⟩ <;> simp_all
theorem len7 {l : List Value} (h : l.length = 7) : ∃ a b c d e f g, l = [a, b, c, d, e, f, g] := by
  rcases l with _ | ⟨a, _ | ⟨b, _ | ⟨c, _ | ⟨d, _ | ⟨e, _ | ⟨f, _ | ⟨g, _ | _⟩⟩⟩⟩⟩⟩⟩ <;> simp_all
theorem len11 {l : List Value} (h : l.length = 11) : ∃ a b c d e f g h i j k, l = [a, b, c, d, e, f, g, h, i, j, k] := by
  rcases l with _ | ⟨a, _ | ⟨b, _ | ⟨c, _ | ⟨d, _ | ⟨e, _ | ⟨f, _ | ⟨g, _ | ⟨h, _ | ⟨i, _ | ⟨j, _ | ⟨k, _ | _⟩⟩⟩⟩⟩⟩⟩⟩⟩⟩⟩ <;> simp_all
section
variable {H : Type} {enc : TypeId × Value → H} {w : World} {base : Nat} {spare : Nat → Bool} {held : Bool}
theorem open_strs {fuel : Nat} {cs : List Value} {x : DataW H × List MemPlace} (h : DataW.trod enc Tryz.prog w base spare held fuel 57 cs = some x) (hb : Rows.uptoBulk x.1 ≤ 1048576) :
    ∃ (A : Option Addr) (c : Nat) (l : List ByteArray), cs = [.slice A l.length c] ∧ Lst 1 StrR w w.heap.size A l :=
  open_lst Tryz.underlying57 cells9 (by decide) h hb fun cs' y k _ ht _ => by
    obtain ⟨s, e, _, _⟩ := DataW.trod_string Tryz.underlying9 ht
    exact ⟨s, e⟩
/-- a value, opened -/
theorem open_value : ∀ (N : Nat) {fuel : Nat} {cs : List Value} {x : DataW H × List MemPlace}, DataW.trod enc Tryz.prog w base spare held fuel 60 cs = some x → Rows.uptoBulk x.1 ≤ 1048576 → Rows.uptoBulk x.1 ≤ N → ∃ v : V, V.At w w.heap.size v cs
  | 0, _, _, x, _, _, hN => absurd (one_le x.1) (by omega)
  | N + 1, fuel, cs, x, h, hb, hN => by
    obtain ⟨ys, n, rfl, hx, hl, hyl, hf⟩ := DataW.trod_struct Tryz.underlying60 h
    rw [cells60] at hl
    obtain ⟨c0, c1, c2, c3, c4, rfl⟩ := len5 hl
    have t0 : DataW.trod enc Tryz.prog w base spare held n 3 (List.take (Tryz.prog.cellsOf 3) (List.drop 0 [c0, c1, c2, c3, c4])) = ys[0]? := hf 0 _ rfl
    have t1 : DataW.trod enc Tryz.prog w base spare held n 2 (List.take (Tryz.prog.cellsOf 2) (List.drop 1 [c0, c1, c2, c3, c4])) = ys[1]? := hf 1 _ rfl
    have t2 : DataW.trod enc Tryz.prog w base spare held n 9 (List.take (Tryz.prog.cellsOf 9) (List.drop 2 [c0, c1, c2, c3, c4])) = ys[2]? := hf 2 _ rfl
    have t3 : DataW.trod enc Tryz.prog w base spare held n 57 (List.take (Tryz.prog.cellsOf 57) (List.drop 3 [c0, c1, c2, c3, c4])) = ys[3]? := hf 3 _ rfl
    have t4 : DataW.trod enc Tryz.prog w base spare held n 58 (List.take (Tryz.prog.cellsOf 58) (List.drop 4 [c0, c1, c2, c3, c4])) = ys[4]? := hf 4 _ rfl
    simp only [cells3, cells2, cells9, cells57, cells58, List.drop_zero, List.drop_succ_cons, List.take_succ_cons, List.take_zero] at t0 t1 t2 t3 t4
    have hsz : ys.length = 5 := hyl
    have g : ∀ j, j < 5 → ∃ y, ys[j]? = some y := fun j hj => ⟨_, List.getElem?_eq_getElem (by omega)⟩
    obtain ⟨y0, g0⟩ := g 0 (by omega)
    obtain ⟨y1, g1⟩ := g 1 (by omega)
    obtain ⟨y2, g2⟩ := g 2 (by omega)
    obtain ⟨y3, g3⟩ := g 3 (by omega)
    obtain ⟨y4, g4⟩ := g 4 (by omega)
    have b3 := agg_part hx g3
    have b4 := agg_part hx g4
    obtain ⟨k, e0, _, _⟩ := DataW.trod_int Tryz.underlying3 (t0.trans g0)
    obtain ⟨i, e1, _, _⟩ := DataW.trod_int Tryz.underlying2 (t1.trans g1)
    obtain ⟨s, e2, _, _⟩ := DataW.trod_string Tryz.underlying9 (t2.trans g2)
    obtain ⟨An, cn, ns, e3, hn⟩ := open_strs (t3.trans g3) (by omega)
    obtain ⟨Ai, ci, xs, e4, hi⟩ := open_lst (R := V.At w w.heap.size) Tryz.underlying58 cells60 (by decide) (t4.trans g4) (by omega) fun cs' y k _ ht hlt => open_value N ht (by omega) (by omega)
    injection e0 with e0
    injection e1 with e1
    injection e2 with e2
    injection e3 with e3
    injection e4 with e4
    subst e0 e1 e2 e3 e4
    exact ⟨.mk k i s ns xs, (V.at_mk _ _ _ _ _ _ _ _).2 ⟨An, cn, Ai, ci, rfl, hn, hi⟩⟩
theorem open_coll {fuel : Nat} {cs : List Value} {x : DataW H × List MemPlace} (h : DataW.trod enc Tryz.prog w base spare held fuel 70 cs = some x) (hb : Rows.uptoBulk x.1 ≤ 1048576) : ∃ v : C, CR w w.heap.size v cs := by
  obtain ⟨ys, n, rfl, hx, hl, hyl, hf⟩ := DataW.trod_struct Tryz.underlying70 h
  rw [cells70] at hl
  obtain ⟨c0, c1, c2, c3, c4, c5, c6, c7, c8, c9, c10, rfl⟩ := len11 hl
  have t0 : DataW.trod enc Tryz.prog w base spare held n 9 (List.take (Tryz.prog.cellsOf 9) (List.drop 0 [c0, c1, c2, c3, c4, c5, c6, c7, c8, c9, c10])) = ys[0]? := hf 0 _ rfl
  have t1 : DataW.trod enc Tryz.prog w base spare held n 3 (List.take (Tryz.prog.cellsOf 3) (List.drop 1 [c0, c1, c2, c3, c4, c5, c6, c7, c8, c9, c10])) = ys[1]? := hf 1 _ rfl
  have t2 : DataW.trod enc Tryz.prog w base spare held n 3 (List.take (Tryz.prog.cellsOf 3) (List.drop 2 [c0, c1, c2, c3, c4, c5, c6, c7, c8, c9, c10])) = ys[2]? := hf 2 _ rfl
  have t3 : DataW.trod enc Tryz.prog w base spare held n 60 (List.take (Tryz.prog.cellsOf 60) (List.drop 3 [c0, c1, c2, c3, c4, c5, c6, c7, c8, c9, c10])) = ys[3]? := hf 3 _ rfl
  have t4 : DataW.trod enc Tryz.prog w base spare held n 67 (List.take (Tryz.prog.cellsOf 67) (List.drop 8 [c0, c1, c2, c3, c4, c5, c6, c7, c8, c9, c10])) = ys[4]? := hf 4 _ rfl
  have t5 : DataW.trod enc Tryz.prog w base spare held n 68 (List.take (Tryz.prog.cellsOf 68) (List.drop 10 [c0, c1, c2, c3, c4, c5, c6, c7, c8, c9, c10])) = ys[5]? := hf 5 _ rfl
  simp only [cells3, cells2, cells9, cells60, cells67, cells68, List.drop_zero, List.drop_succ_cons, List.take_succ_cons, List.take_zero] at t0 t1 t2 t3 t4 t5
  have hsz : ys.length = 6 := hyl
  have g : ∀ j, j < 6 → ∃ y, ys[j]? = some y := fun j hj => ⟨_, List.getElem?_eq_getElem (by omega)⟩
  obtain ⟨y0, g0⟩ := g 0 (by omega)
  obtain ⟨y1, g1⟩ := g 1 (by omega)
  obtain ⟨y2, g2⟩ := g 2 (by omega)
  obtain ⟨y3, g3⟩ := g 3 (by omega)
  obtain ⟨y4, g4⟩ := g 4 (by omega)
  obtain ⟨y5, g5⟩ := g 5 (by omega)
  have b3 := agg_part hx g3
  have b5 := agg_part hx g5
  obtain ⟨s, e0, _, _⟩ := DataW.trod_string Tryz.underlying9 (t0.trans g0)
  obtain ⟨k, e1, _, _⟩ := DataW.trod_int Tryz.underlying3 (t1.trans g1)
  obtain ⟨i, e2, _, _⟩ := DataW.trod_int Tryz.underlying3 (t2.trans g2)
  obtain ⟨v, hv⟩ := open_value _ (t3.trans g3) (by omega) (Nat.le_refl _)
  obtain ⟨ys', n', rfl, hx', hl', hyl', hf'⟩ := DataW.trod_struct Tryz.underlying67 (t4.trans g4)
  have u0 : DataW.trod enc Tryz.prog w base spare held n' 3 (List.take (Tryz.prog.cellsOf 3) (List.drop 0 [c8, c9])) = ys'[0]? := hf' 0 _ rfl
  have u1 : DataW.trod enc Tryz.prog w base spare held n' 3 (List.take (Tryz.prog.cellsOf 3) (List.drop 1 [c8, c9])) = ys'[1]? := hf' 1 _ rfl
  simp only [cells3, cells2, List.drop_zero, List.drop_succ_cons, List.take_succ_cons, List.take_zero] at u0 u1
  have hsz' : ys'.length = 2 := hyl'
  obtain ⟨z0, k0⟩ : ∃ y, ys'[0]? = some y := ⟨_, List.getElem?_eq_getElem (by omega)⟩
  obtain ⟨z1, k1⟩ : ∃ y, ys'[1]? = some y := ⟨_, List.getElem?_eq_getElem (by omega)⟩
  obtain ⟨a, e8, _, _⟩ := DataW.trod_int Tryz.underlying3 (u0.trans k0)
  obtain ⟨b, e9, _, _⟩ := DataW.trod_int Tryz.underlying3 (u1.trans k1)
  obtain ⟨A, c, ss, e10, hs⟩ := open_lst (R := SR) Tryz.underlying68 cells84 (by decide) (t5.trans g5) (by omega) fun cs' y k hcl ht hlt => by
    obtain ⟨zs, n2, rfl, hx2, hl2, hyl2, hf2⟩ := DataW.trod_struct Tryz.underlying84 ht
    obtain ⟨d0, d1, d2, rfl⟩ := len3 hcl
    have q0 : DataW.trod enc Tryz.prog w base spare held n2 9 (List.take (Tryz.prog.cellsOf 9) (List.drop 0 [d0, d1, d2])) = zs[0]? := hf2 0 _ rfl
    have q1 : DataW.trod enc Tryz.prog w base spare held n2 9 (List.take (Tryz.prog.cellsOf 9) (List.drop 1 [d0, d1, d2])) = zs[1]? := hf2 1 _ rfl
    have q2 : DataW.trod enc Tryz.prog w base spare held n2 4 (List.take (Tryz.prog.cellsOf 4) (List.drop 2 [d0, d1, d2])) = zs[2]? := hf2 2 _ rfl
    simp only [cells9, cells4, List.drop_zero, List.drop_succ_cons, List.take_succ_cons, List.take_zero] at q0 q1 q2
    have hsz2 : zs.length = 3 := hyl2
    obtain ⟨w0, k0⟩ : ∃ y, zs[0]? = some y := ⟨_, List.getElem?_eq_getElem (by omega)⟩
    obtain ⟨w1, k1⟩ : ∃ y, zs[1]? = some y := ⟨_, List.getElem?_eq_getElem (by omega)⟩
    obtain ⟨w2, k2⟩ : ∃ y, zs[2]? = some y := ⟨_, List.getElem?_eq_getElem (by omega)⟩
    obtain ⟨s1, f0, _, _⟩ := DataW.trod_string Tryz.underlying9 (q0.trans k0)
    obtain ⟨s2, f1, _, _⟩ := DataW.trod_string Tryz.underlying9 (q1.trans k1)
    obtain ⟨b3, f2, _⟩ := DataW.trod_bool Tryz.underlying4 (q2.trans k2)
    injection f0 with f0
    injection f1 with f1
    injection f2 with f2
    subst f0 f1 f2
    exact ⟨⟨s1, s2, b3⟩, rfl⟩
  injection e0 with e0
  injection e1 with e1
  injection e2 with e2
  injection e8 with e8
  injection e9 with e9
  injection e10 with e10
  subst e0 e1 e2 e8 e9 e10
  exact ⟨⟨s, k, i, v, a, b, ss⟩, _, A, c, rfl, hv, hs⟩
theorem open_doc {fuel : Nat} {cs : List Value} {x : DataW H × List MemPlace} (h : DataW.trod enc Tryz.prog w base spare held fuel 75 cs = some x) (hb : Rows.uptoBulk x.1 ≤ 1048576) : ∃ v : I, IR w w.heap.size v cs := by
  obtain ⟨ys, n, rfl, hx, hl, hyl, hf⟩ := DataW.trod_struct Tryz.underlying75 h
  rw [cells75] at hl
  obtain ⟨c0, c1, c2, c3, c4, c5, c6, rfl⟩ := len7 hl
  have t0 : DataW.trod enc Tryz.prog w base spare held n 9 (List.take (Tryz.prog.cellsOf 9) (List.drop 0 [c0, c1, c2, c3, c4, c5, c6])) = ys[0]? := hf 0 _ rfl
  have t1 : DataW.trod enc Tryz.prog w base spare held n 2 (List.take (Tryz.prog.cellsOf 2) (List.drop 1 [c0, c1, c2, c3, c4, c5, c6])) = ys[1]? := hf 1 _ rfl
  have t2 : DataW.trod enc Tryz.prog w base spare held n 60 (List.take (Tryz.prog.cellsOf 60) (List.drop 2 [c0, c1, c2, c3, c4, c5, c6])) = ys[2]? := hf 2 _ rfl
  simp only [cells3, cells2, cells9, cells60, List.drop_zero, List.drop_succ_cons, List.take_succ_cons, List.take_zero] at t0 t1 t2
  have hsz : ys.length = 3 := hyl
  obtain ⟨y0, g0⟩ : ∃ y, ys[0]? = some y := ⟨_, List.getElem?_eq_getElem (by omega)⟩
  obtain ⟨y1, g1⟩ : ∃ y, ys[1]? = some y := ⟨_, List.getElem?_eq_getElem (by omega)⟩
  obtain ⟨y2, g2⟩ : ∃ y, ys[2]? = some y := ⟨_, List.getElem?_eq_getElem (by omega)⟩
  have b2 := agg_part hx g2
  obtain ⟨s, e0, _, _⟩ := DataW.trod_string Tryz.underlying9 (t0.trans g0)
  obtain ⟨k, e1, _, _⟩ := DataW.trod_int Tryz.underlying2 (t1.trans g1)
  obtain ⟨v, hv⟩ := open_value _ (t2.trans g2) (by omega) (Nat.le_refl _)
  injection e0 with e0
  injection e1 with e1
  subst e0 e1
  exact ⟨⟨s, k, v⟩, _, rfl, hv⟩
theorem open_snap {fuel : Nat} {cs : List Value} {x : DataW H × List MemPlace} (h : DataW.trod enc Tryz.prog w base spare held fuel 25 cs = some x) (hb : Rows.uptoBulk x.1 ≤ 1048576) : ∃ v : Sn, SnR w w.heap.size v cs := by
  obtain ⟨ys, n, rfl, hx, hl, hyl, hf⟩ := DataW.trod_struct Tryz.underlying25 h
  rw [cells25] at hl
  obtain ⟨c0, c1, c2, rfl⟩ := len3 hl
  have t0 : DataW.trod enc Tryz.prog w base spare held n 2 (List.take (Tryz.prog.cellsOf 2) (List.drop 0 [c0, c1, c2])) = ys[0]? := hf 0 _ rfl
  have t1 : DataW.trod enc Tryz.prog w base spare held n 22 (List.take (Tryz.prog.cellsOf 22) (List.drop 1 [c0, c1, c2])) = ys[1]? := hf 1 _ rfl
  have t2 : DataW.trod enc Tryz.prog w base spare held n 23 (List.take (Tryz.prog.cellsOf 23) (List.drop 2 [c0, c1, c2])) = ys[2]? := hf 2 _ rfl
  simp only [cells3, cells2, cells22, cells23, List.drop_zero, List.drop_succ_cons, List.take_succ_cons, List.take_zero] at t0 t1 t2
  have hsz : ys.length = 3 := hyl
  obtain ⟨y0, g0⟩ : ∃ y, ys[0]? = some y := ⟨_, List.getElem?_eq_getElem (by omega)⟩
  obtain ⟨y1, g1⟩ : ∃ y, ys[1]? = some y := ⟨_, List.getElem?_eq_getElem (by omega)⟩
  obtain ⟨y2, g2⟩ : ∃ y, ys[2]? = some y := ⟨_, List.getElem?_eq_getElem (by omega)⟩
  have b1 := agg_part hx g1
  have b2 := agg_part hx g2
  obtain ⟨s, e0, _, _⟩ := DataW.trod_int Tryz.underlying2 (t0.trans g0)
  obtain ⟨A, c, l, e1, h1⟩ := open_lst (R := CR w w.heap.size) Tryz.underlying22 cells70 (by decide) (t1.trans g1) (by omega) fun cs' y k _ ht hlt => open_coll ht (by omega)
  obtain ⟨A', c', l', e2, h2⟩ := open_lst (R := IR w w.heap.size) Tryz.underlying23 cells75 (by decide) (t2.trans g2) (by omega) fun cs' y k _ ht hlt => open_doc ht (by omega)
  injection e0 with e0
  injection e1 with e1
  injection e2 with e2
  subst e0 e1 e2
  exact ⟨⟨s, l, l'⟩, A, c, A', c', rfl, h1, h2⟩
end
end Go.Proofs.YtbjmakigdglghaaGreatDoor.Dd
