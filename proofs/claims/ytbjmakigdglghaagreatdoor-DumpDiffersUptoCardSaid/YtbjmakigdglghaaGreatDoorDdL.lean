/- The law's own parts: a snapshot behind a mask; the row of differences as a list. -/
import Derived.Test.YtbjmakigdglghaaGreatDoorDdI
import Derived.Test.YtbjmakigdglghaaGreatDoorDdJ
import Derived.Test.YtbjmakigdglghaaGreatDoorDdH
import Derived.Test.YtbjmakigdglghaaGreatDoorDdE
set_option linter.unusedVariables false
set_option linter.unusedSimpArgs false
set_option linter.unusedSectionVars false
namespace Go.Proofs.YtbjmakigdglghaaGreatDoor.Dd
set_option linter.unusedVariables false
open Go.RowKit
theorem SnR.mono {w w' : World} {B B' : Nat} {x : Sn} {cs : List Value} (h : SnR w B x cs) (hB : B ≤ B') (hm : Mono w w') : SnR w' B' x cs := by
  obtain ⟨A, c, A', c', h1, h2, h3⟩ := h
  exact ⟨A, c, A', c', h1, h2.mono hm hB fun _ _ h => h.mono hB hm, h3.mono hm hB fun _ _ h => h.mono hB hm⟩
theorem SnR.form {w : World} {B : Nat} {x : Sn} {cs : List Value} (h : SnR w B x cs) : ∃ s A n c A' n' c', cs = [.int .i64 s, .slice A n c, .slice A' n' c'] := by
  obtain ⟨A, c, A', c', rfl, _⟩ := h
  exact ⟨_, _, _, _, _, _, _, rfl⟩
theorem SnR.at_ {w w' : World} {x : Sn} {cs : List Value} (h : SnR w w.heap.size x cs) (hb : Below w.heap.size w w') : SnR w' w'.heap.size x cs := h.keep hb.size fun p hp => hb.cell hp
theorem flat_ds : ∀ (l : List D), Flat 2 DR l (dcells l)
  | l => by
    refine ⟨dcells_len l, fun j hj => ⟨[.int .i64 l[j].k, .string l[j].s], rfl, rfl, fun i hi => ?_⟩⟩
    have key : ∀ (l : List D) (j : Nat) (hj : j < l.length) (i : Nat), i < 2 → (dcells l)[j * 2 + i]? = [Value.int .i64 l[j].k, .string l[j].s][i]? := by
      intro l
      induction l with
      | nil => intro j hj; simp at hj
      | cons d l ih =>
        intro j hj i hi
        have e : dcells (d :: l) = [.int .i64 d.k, .string d.s] ++ dcells l := by simp [dcells]
        rw [e]
        cases j with
        | zero => rw [Nat.zero_mul, Nat.zero_add, List.getElem?_append_left (by simpa using hi)]; rfl
        | succ j =>
          rw [List.getElem?_append_right (by simp; omega)]
          have := ih j (by simpa using hj) i hi
          rw [show (j + 1) * 2 + i - [Value.int .i64 d.k, .string d.s].length = j * 2 + i by simp; omega, this]
          rfl
    exact key l j hj i hi
theorem own_ds {w : World} {B : Nat} {v : Value} {l : List D} (h : w.ownsRow B 41 2 v l.length (dcells l)) (hm : l.length ≤ 1048576) : ∃ A c, v = .slice A l.length c ∧ l.length ≤ c ∧ Lst 2 DR w w.heap.size A l := by
  obtain ⟨A, c, h1, h2, _, h3⟩ := own_lst h (flat_ds l) hm
  exact ⟨A, c, h1, h2, h3⟩
theorem uni_le (l : List ByteArray) : ((uni l).map ub).length ≤ l.length := by rw [List.length_map]; exact uni_len l
theorem differ_len (a b : Sn) : (differ a b).length ≤ a.cs.length + b.cs.length + (a.ds.length + b.ds.length) := by
  unfold differ
  rw [List.length_append]
  have h1 := List.length_filterMap_le (dC a.cs b.cs) ((uni (a.cs.map (·.n) ++ b.cs.map (·.n))).map ub)
  have h2 := List.length_filterMap_le (dI a.ds b.ds) ((uni (a.ds.map (·.k) ++ b.ds.map (·.k))).map ub)
  have h3 := uni_le (a.cs.map (·.n) ++ b.cs.map (·.n))
  have h4 := uni_le (a.ds.map (·.k) ++ b.ds.map (·.k))
  simp only [List.length_append, List.length_map] at h3 h4
  rw [List.length_map] at h1 h2
  omega
theorem bel_alloc {w w' : World} (h : Below w.heap.size w w') (o : Obj) : Below w.heap.size w (w'.alloc o) := h.alloc h.size o
theorem bel_set {B : Nat} {w w' : World} {p : Addr} (h : Below B w w') (hp : B ≤ p.block) (u : Value) : Below B w (w'.setCell p u) := h.setCell hp u
theorem bel_set3 {B g : Nat} {w w' : World} (u0 u1 u2 : Value) (h : Below B w w') (hg : B ≤ g) : Below B w (((w'.setCell ⟨g, 0, none⟩ u0).setCell ⟨g, 1, none⟩ u1).setCell ⟨g, 2, none⟩ u2) :=
  ((h.setCell (p := ⟨g, 0, none⟩) hg u0).setCell (p := ⟨g, 1, none⟩) hg u1).setCell (p := ⟨g, 2, none⟩) hg u2
theorem blk_set3 {g : Nat} {w : World} {v0 v1 v2 : Value} (u0 u1 u2 : Value) (h : Blk w g 25 #[v0, v1, v2]) : Blk (((w.setCell ⟨g, 0, none⟩ u0).setCell ⟨g, 1, none⟩ u1).setCell ⟨g, 2, none⟩ u2) g 25 #[u0, u1, u2] := by
  have h1 : Blk (w.setCell ⟨g, 0, none⟩ u0) g 25 #[u0, v1, v2] := h.set_ 0 u0
  have h2 : Blk ((w.setCell ⟨g, 0, none⟩ u0).setCell ⟨g, 1, none⟩ u1) g 25 #[u0, u1, v2] := h1.set_ 1 u1
  exact h2.set_ 2 u2
theorem blk_far3 {g g' : Nat} {w : World} {t : TypeId} {cs : Array Value} (u0 u1 u2 : Value) (h : Blk w g' t cs) (hne : g' ≠ g) : Blk (((w.setCell ⟨g, 0, none⟩ u0).setCell ⟨g, 1, none⟩ u1).setCell ⟨g, 2, none⟩ u2) g' t cs :=
  ((h.far (p := ⟨g, 0, none⟩) hne u0).far (p := ⟨g, 1, none⟩) hne u1).far (p := ⟨g, 2, none⟩) hne u2
theorem blkn_at1 (w : World) (o : Obj) (t : TypeId) (cs : Array Value) : Blk ((w.alloc o).alloc (.cells cs t)) (w.heap.size + 1) t cs := by
  have := Blk.new (w.alloc o) t cs
  rw [World.size_alloc] at this
  exact this
theorem blkn_at0 (w : World) (o : Obj) (t : TypeId) (cs : Array Value) : Blk ((w.alloc (.cells cs t)).alloc o) w.heap.size t cs := (Blk.new w t cs).alloc o
theorem blk_new' {w : World} {g : Nat} {t : TypeId} {cs : Array Value} (h : w.heap.size = g) : Blk (w.alloc (.cells cs t)) g t cs := by subst h; exact Blk.new w t cs
theorem sn_keep {w wr W : World} {x : Sn} {cs : List Value} (h : SnR w w.heap.size x cs) (h1 : Below w.heap.size w wr) (h2 : Below wr.heap.size wr W) : SnR W w.heap.size x cs :=
  h.keep (Nat.le_refl _) fun p hp => (bel_next h1 h2).cell hp
theorem size_drew_ (w : World) : w.drew.heap.size = w.heap.size := rfl
/-- but for blocks between B and hi what lay there lies there -/
structure Okk (B hi : Nat) (w w' : World) : Prop where
  size : w.heap.size ≤ w'.heap.size
  keep : ∀ b, b < w.heap.size → ¬ (B ≤ b ∧ b < hi) → w'.heap[b]? = w.heap[b]?
section
variable {B hi g : Nat} {w w' w'' : World}
theorem okk_refl : Okk B hi w w := ⟨Nat.le_refl _, fun _ _ _ => rfl⟩
theorem okk_alloc (h : Okk B hi w w') (o : Obj) : Okk B hi w (w'.alloc o) := ⟨by rw [World.size_alloc]; exact Nat.le_succ_of_le h.size, fun b hb hm => (Below.heap_alloc w' o b (Nat.lt_of_lt_of_le hb h.size)).trans (h.keep b hb hm)⟩
theorem okk_next (h : Okk B hi w w') (k : Below w'.heap.size w' w'') : Okk B hi w w'' := ⟨Nat.le_trans h.size k.size, fun b hb hm => (k.block b (Nat.lt_of_lt_of_le hb h.size)).trans (h.keep b hb hm)⟩
theorem okk_set3 (u0 u1 u2 : Value) (h : Okk B hi w w') (hg : (B ≤ g ∧ g < hi) ∨ w.heap.size ≤ g) : Okk B hi w (((w'.setCell ⟨g, 0, none⟩ u0).setCell ⟨g, 1, none⟩ u1).setCell ⟨g, 2, none⟩ u2) := by
  refine ⟨by simpa using h.size, fun b hb hm => ?_⟩
  have hne : b ≠ g := by rintro rfl; omega
  exact (Below.heap_setCell _ ⟨g, 2, none⟩ _ b hne).trans ((Below.heap_setCell _ ⟨g, 1, none⟩ _ b hne).trans ((Below.heap_setCell _ ⟨g, 0, none⟩ _ b hne).trans (h.keep b hb hm)))
theorem okk_lt {a b c : Nat} (h : a ≤ b) (k : b < c) : a < c := Nat.lt_of_le_of_lt h k
theorem okk_trans (h : Okk B hi w w') (k : Okk B hi w' w'') : Okk B hi w w'' := ⟨Nat.le_trans h.size k.size, fun b hb hm => (k.keep b (Nat.lt_of_lt_of_le hb h.size) hm).trans (h.keep b hb hm)⟩
theorem okk_sn {W : World} {x : Sn} {cs : List Value} (h : SnR (v0 B W w) w.heap.size x cs) (k : Okk B (W.heap.size + 2) w w') : SnR w' w'.heap.size x cs :=
  h.mono k.size (mask_mono k.keep)
end
end Go.Proofs.YtbjmakigdglghaaGreatDoor.Dd
namespace Go.Proofs.YtbjmakigdglghaaGreatDoor.Dd
set_option linter.unusedVariables false
open Go.RowKit
def RDiffers : Prop := ∀ (w : World) (a b : Sn) (ca cb : List Value), SnR w w.heap.size a ca → SnR w w.heap.size b cb → a.cs.length + b.cs.length ≤ 1048575 → a.ds.length + b.ds.length ≤ 1048575 →
    Calls Tryz.prog 15 #[.agg ca.toArray, .agg cb.toArray] w fun e w' => ∃ v, e = .returned v ∧ Below w.heap.size w w' ∧ ∃ B, w'.ownsRow B 41 2 v (differ a b).length (dcells (differ a b))
def Lives (w : World) : Prop := ∀ W : World, Below w.heap.size w W → Calls Tryz.prog 10 #[] W fun e w' => e = .returned (.bool true) ∧ Below W.heap.size W w'
def Got (w : World) (a b : Sn) (wr : World) (p q : Value) (wz : World) : Prop :=
  ∃ gx gy X Y, p = .pointer (some ⟨gx, 0, none⟩) ∧ q = .pointer (some ⟨gy, 0, none⟩) ∧ Blk wz gx 25 (X : List Value).toArray ∧ Blk wz gy 25 (Y : List Value).toArray ∧ SnR wz wz.heap.size a X ∧ SnR wz wz.heap.size b Y ∧ Below wr.heap.size wr wz
theorem got_mk {w wr wz : World} {a b : Sn} {gx gy : Nat} {x0 x1 x2 y0 y1 y2 : Value} (h1 : Blk wz gx 25 #[x0, x1, x2]) (h2 : Blk wz gy 25 #[y0, y1, y2]) (h3 : SnR wz wz.heap.size a [x0, x1, x2]) (h4 : SnR wz wz.heap.size b [y0, y1, y2]) (h5 : Below wr.heap.size wr wz) : Got w a b wr (.pointer (some ⟨gx, 0, none⟩)) (.pointer (some ⟨gy, 0, none⟩)) wz :=
  ⟨gx, gy, [x0, x1, x2], [y0, y1, y2], rfl, rfl, h1, h2, h3, h4, h5⟩
open Classical in
set_option maxRecDepth 100000 in
set_option maxHeartbeats 60000000 in
theorem law_any (w : World) (HLV : Lives w) (HRD : RDiffers) (a b : Sn) (ca cb : List Value) (ha : SnR w w.heap.size a ca) (hb : SnR w w.heap.size b cb) :
    Calls Tryz.prog 4 #[.agg ca.toArray, .agg cb.toArray] w fun e w' => e = .returned (.bool true) ∧ Below w.heap.size w w' := by
  have HA := Lib.hid ha
  have HB := Lib.hid hb
  obtain ⟨s, A, n, c, A', n', c', rfl⟩ := ha.form
  obtain ⟨s2, A2, n2, c2, A2', n2', c2', rfl⟩ := hb.form
  have HL := Lib.hid HLV
  have HR := Lib.hid HRD
  clear ha hb HLV HRD
  have hbx : Bx w ((w.alloc (.cells #[.int .i64 s, .slice A n c, .slice A' n' c'] 25)).alloc (.cells #[.int .i64 s2, .slice A2 n2 c2, .slice A2' n2' c2'] 25)) (.cells #[.int .i64 s, .slice A n c, .slice A' n' c'] 25) (.cells #[.int .i64 s2, .slice A2 n2 c2, .slice A2' n2' c2'] 25) :=
    ⟨((Below.refl _ _).alloc (Nat.le_refl _) _).alloc (by simp) _, (((Hold.nil _).cons (p := (w.heap.size, _)) (heap_alloc_new w _)).alloc _).head, by simpa using heap_alloc_new (w.alloc _) _⟩
  have HBX := Lib.hid hbx
  clear hbx
  go_enter Tryz.func4, Tryz.ntmps4
  go_wp2_with fail
  refine (large_any _ a _ (HA.out.at_ HBX.out.bel)).mono ?_
  rintro e wa ⟨r1, rfl, hr1, hb1⟩
  have HBXa := Lib.hid (HBX.out.next hb1)
  have HR1 := Lib.hid hr1
  clear hr1 hb1 HBX
  have ca0 : wa.cell? ⟨w.heap.size, 0, none⟩ = some (.int .i64 s) := cell_of_row wa w.heap.size 0 _ 25 (0, 0) HBXa.out.one
  have ca1 : wa.cell? ⟨w.heap.size, 1, none⟩ = some (.slice A n c) := cell_of_row wa w.heap.size 1 _ 25 (0, 0) HBXa.out.one
  have ca2 : wa.cell? ⟨w.heap.size, 2, none⟩ = some (.slice A' n' c') := cell_of_row wa w.heap.size 2 _ 25 (0, 0) HBXa.out.one
  have cb0 : wa.cell? ⟨w.heap.size + 1, 0, none⟩ = some (.int .i64 s2) := cell_of_row wa (w.heap.size + 1) 0 _ 25 (0, 0) HBXa.out.two
  have cb1 : wa.cell? ⟨w.heap.size + 1, 1, none⟩ = some (.slice A2 n2 c2) := cell_of_row wa (w.heap.size + 1) 1 _ 25 (0, 0) HBXa.out.two
  have cb2 : wa.cell? ⟨w.heap.size + 1, 2, none⟩ = some (.slice A2' n2' c2') := cell_of_row wa (w.heap.size + 1) 2 _ 25 (0, 0) HBXa.out.two
  cases r1 with
  | true =>
    go_wp2_with (first
      | (go_at_call 10
         refine (HL.out _ HBXa.out.bel).mono ?_
         rintro e w9 ⟨rfl, hb9⟩)
      | go_in)
    go_ret
    exact ⟨rfl, bel_next HBXa.out.bel hb9⟩
  | false =>
    go_wp2_with fail
    refine (large_any _ b _ (HB.out.at_ HBXa.out.bel)).mono ?_
    rintro e wr ⟨r2, rfl, hr2, hb2⟩
    have HBR := Lib.hid (HBXa.out.next hb2)
    have HR2 := Lib.hid hr2
    clear hr2 hb2 ca0 ca1 ca2 cb0 cb1 cb2 HBXa
    cases r2 with
    | true =>
      go_wp2_with (first
        | (go_at_call 10
           refine (HL.out _ HBR.out.bel).mono ?_
           rintro e w9 ⟨rfl, hb9⟩)
        | go_in)
      go_ret
      exact ⟨rfl, bel_next HBR.out.bel hb9⟩
    | false =>
      have hlen : a.cs.length + b.cs.length ≤ 400 ∧ a.ds.length + b.ds.length ≤ 600 := by
        have h1 : a.cs.length ≤ 200 ∧ a.ds.length ≤ 300 := by first | exact HR1.out trivial | exact HR1.out rfl
        have h2 : b.cs.length ≤ 200 ∧ b.ds.length ≤ 300 := by first | exact HR2.out rfl | exact HR2.out trivial
        omega
      have HLEN := Lib.hid hlen
      clear hlen HR1 HR2
      have ca0 : wr.cell? ⟨w.heap.size, 0, none⟩ = some (.int .i64 s) := cell_of_row wr w.heap.size 0 _ 25 (0, 0) HBR.out.one
      have ca1 : wr.cell? ⟨w.heap.size, 1, none⟩ = some (.slice A n c) := cell_of_row wr w.heap.size 1 _ 25 (0, 0) HBR.out.one
      have ca2 : wr.cell? ⟨w.heap.size, 2, none⟩ = some (.slice A' n' c') := cell_of_row wr w.heap.size 2 _ 25 (0, 0) HBR.out.one
      have cb0 : wr.cell? ⟨w.heap.size + 1, 0, none⟩ = some (.int .i64 s2) := cell_of_row wr (w.heap.size + 1) 0 _ 25 (0, 0) HBR.out.two
      have cb1 : wr.cell? ⟨w.heap.size + 1, 1, none⟩ = some (.slice A2 n2 c2) := cell_of_row wr (w.heap.size + 1) 1 _ 25 (0, 0) HBR.out.two
      have cb2 : wr.cell? ⟨w.heap.size + 1, 2, none⟩ = some (.slice A2' n2' c2') := cell_of_row wr (w.heap.size + 1) 2 _ 25 (0, 0) HBR.out.two
      have hw2 : w.heap.size < wr.heap.size := lt_of_some HBR.out.one
      have hw3 : w.heap.size + 1 < wr.heap.size := lt_of_some HBR.out.two
      go_upto_region 3 with fail
      go_cut [5, 6] (fun p q wz => Got w a b wr p q wz)
      case first =>
        focus
          have sof : ∀ wx, Below wr.heap.size wr wx → (wx.cell? ⟨w.heap.size, 0, none⟩ = some (.int .i64 s) ∧ wx.cell? ⟨w.heap.size, 1, none⟩ = some (.slice A n c) ∧ wx.cell? ⟨w.heap.size, 2, none⟩ = some (.slice A' n' c') ∧ wx.cell? ⟨w.heap.size + 1, 0, none⟩ = some (.int .i64 s2) ∧ wx.cell? ⟨w.heap.size + 1, 1, none⟩ = some (.slice A2 n2 c2) ∧ wx.cell? ⟨w.heap.size + 1, 2, none⟩ = some (.slice A2' n2' c2')) := fun wx h => ⟨(h.cell (p := ⟨w.heap.size, 0, none⟩) hw2).trans ca0, (h.cell (p := ⟨w.heap.size, 1, none⟩) hw2).trans ca1, (h.cell (p := ⟨w.heap.size, 2, none⟩) hw2).trans ca2, (h.cell (p := ⟨w.heap.size + 1, 0, none⟩) hw3).trans cb0, (h.cell (p := ⟨w.heap.size + 1, 1, none⟩) hw3).trans cb1, (h.cell (p := ⟨w.heap.size + 1, 2, none⟩) hw3).trans cb2⟩
          have SOF := Lib.hid sof
          clear sof
          refine wp_region_noPanic ?_
          go_region_held3 (fun wx => wx.cell? ⟨w.heap.size, 0, none⟩ = some (.int .i64 s) ∧ wx.cell? ⟨w.heap.size, 1, none⟩ = some (.slice A n c) ∧ wx.cell? ⟨w.heap.size, 2, none⟩ = some (.slice A' n' c') ∧ wx.cell? ⟨w.heap.size + 1, 0, none⟩ = some (.int .i64 s2) ∧ wx.cell? ⟨w.heap.size + 1, 1, none⟩ = some (.slice A2 n2 c2) ∧ wx.cell? ⟨w.heap.size + 1, 2, none⟩ = some (.slice A2' n2' c2'))
            (first
              | ((with_reducible refine SOF.out _ ?_)
                 (repeat (first | (with_reducible refine bel_set3 _ _ _ ?_ ?_) | (with_reducible refine bel_alloc ?_ _) | (with_reducible refine bel_drew ?_) | (with_reducible exact K9.out) | (with_reducible exact K10.out) | (with_reducible exact Below.refl _ _)))
                 all_goals (first | exact Nat.le_refl _ | exact Nat.le_succ _ | exact z0 | (show _ ≤ _; omega))))
            (first
              | (go_at_call_of 12 (Value.slice A n c)
                 refine (copied_any w.heap.size _ a _ ?_ ?_).mono ?_
                 · exact Nat.le_trans HBR.out.bel.size (Below.size (B := wr.heap.size) (by (repeat (first | (with_reducible refine bel_set3 _ _ _ ?_ ?_) | (with_reducible refine bel_alloc ?_ _) | (with_reducible refine bel_drew ?_) | (with_reducible exact K9.out) | (with_reducible exact K10.out) | (with_reducible exact Below.refl _ _)))))
                 · exact sn_keep HA.out HBR.out.bel (by (repeat (first | (with_reducible refine bel_set3 _ _ _ ?_ ?_) | (with_reducible refine bel_alloc ?_ _) | (with_reducible refine bel_drew ?_) | (with_reducible exact K9.out) | (with_reducible exact K10.out) | (with_reducible exact Below.refl _ _))))
                 rintro e w9 ⟨cx, rfl, hS, hb9⟩
                 obtain ⟨xs, XA, xn, xc, XA', xn', xc', rfl⟩ := hS.form
                 have K9 : Hid (Below wr.heap.size wr w9) := Lib.hid (bel_next (w := wr) (by (repeat (first | (with_reducible refine bel_set3 _ _ _ ?_ ?_) | (with_reducible refine bel_alloc ?_ _) | (with_reducible refine bel_drew ?_) | (with_reducible exact K9.out) | (with_reducible exact K10.out) | (with_reducible exact Below.refl _ _)))) hb9)
                 have HS9 := Lib.hid hS
                 have z0 : wr.heap.size ≤ w9.heap.size := K9.out.size
                 have z0' : wr.heap.size + 2 ≤ w9.heap.size + 2 := by omega
                 have SF9 := Lib.hid (SOF.out _ K9.out)
                 (first
                   | (have P0 := Lib.hid (by with_reducible exact Blk.below (blk_at0 wr (.cells #[.int .i64 0, .slice none 0 0, .slice none 0 0] 25) 25 #[.int .i64 0, .slice none 0 0, .slice none 0 0]) hb9 (blk_at0 wr (.cells #[.int .i64 0, .slice none 0 0, .slice none 0 0] 25) 25 #[.int .i64 0, .slice none 0 0, .slice none 0 0]).lt : Blk w9 wr.heap.size 25 #[.int .i64 0, .slice none 0 0, .slice none 0 0])
                      have P0c0 : w9.cell? ⟨wr.heap.size, 0, none⟩ = some (.int .i64 0) := P0.out.cell 0
                      have P0c1 : w9.cell? ⟨wr.heap.size, 1, none⟩ = some (.slice none 0 0) := P0.out.cell 1
                      have P0c2 : w9.cell? ⟨wr.heap.size, 2, none⟩ = some (.slice none 0 0) := P0.out.cell 2
                      have P0f : ∀ i, w9.frozen? ⟨wr.heap.size, i, none⟩ = false := fun i => P0.out.frozen i
                      have P0l : wr.heap.size < w9.heap.size := P0.out.lt)
                   | (have P0 := Lib.hid (by with_reducible exact Blk.below (Blk.drew (Blk.new wr 25 #[.int .i64 0, .slice none 0 0, .slice none 0 0])) hb9 (Blk.drew (Blk.new wr 25 #[.int .i64 0, .slice none 0 0, .slice none 0 0])).lt : Blk w9 wr.heap.size 25 #[.int .i64 0, .slice none 0 0, .slice none 0 0])
                      have P0c0 : w9.cell? ⟨wr.heap.size, 0, none⟩ = some (.int .i64 0) := P0.out.cell 0
                      have P0c1 : w9.cell? ⟨wr.heap.size, 1, none⟩ = some (.slice none 0 0) := P0.out.cell 1
                      have P0c2 : w9.cell? ⟨wr.heap.size, 2, none⟩ = some (.slice none 0 0) := P0.out.cell 2
                      have P0f : ∀ i, w9.frozen? ⟨wr.heap.size, i, none⟩ = false := fun i => P0.out.frozen i
                      have P0l : wr.heap.size < w9.heap.size := P0.out.lt)
                   | skip)
                 (first
                   | (have P1 := Lib.hid (by with_reducible exact Blk.below (blk_at1 wr (.cells #[.int .i64 0, .slice none 0 0, .slice none 0 0] 25) 25 #[.int .i64 0, .slice none 0 0, .slice none 0 0]) hb9 (blk_at1 wr (.cells #[.int .i64 0, .slice none 0 0, .slice none 0 0] 25) 25 #[.int .i64 0, .slice none 0 0, .slice none 0 0]).lt : Blk w9 (wr.heap.size + 1) 25 #[.int .i64 0, .slice none 0 0, .slice none 0 0])
                      have P1c0 : w9.cell? ⟨(wr.heap.size + 1), 0, none⟩ = some (.int .i64 0) := P1.out.cell 0
                      have P1c1 : w9.cell? ⟨(wr.heap.size + 1), 1, none⟩ = some (.slice none 0 0) := P1.out.cell 1
                      have P1c2 : w9.cell? ⟨(wr.heap.size + 1), 2, none⟩ = some (.slice none 0 0) := P1.out.cell 2
                      have P1f : ∀ i, w9.frozen? ⟨(wr.heap.size + 1), i, none⟩ = false := fun i => P1.out.frozen i
                      have P1l : (wr.heap.size + 1) < w9.heap.size := P1.out.lt)
                   | skip)
                 have HSZ9 : Hid True := Lib.hid trivial)
              | (go_at_call_of 12 (Value.slice A2 n2 c2)
                 refine (copied_any w.heap.size _ b _ ?_ ?_).mono ?_
                 · exact Nat.le_trans HBR.out.bel.size (Below.size (B := wr.heap.size) (by (repeat (first | (with_reducible refine bel_set3 _ _ _ ?_ ?_) | (with_reducible refine bel_alloc ?_ _) | (with_reducible refine bel_drew ?_) | (with_reducible exact K9.out) | (with_reducible exact K10.out) | (with_reducible exact Below.refl _ _)))))
                 · exact sn_keep HB.out HBR.out.bel (by (repeat (first | (with_reducible refine bel_set3 _ _ _ ?_ ?_) | (with_reducible refine bel_alloc ?_ _) | (with_reducible refine bel_drew ?_) | (with_reducible exact K9.out) | (with_reducible exact K10.out) | (with_reducible exact Below.refl _ _))))
                 rintro e w10 ⟨cy, rfl, hS, hb10⟩
                 obtain ⟨ys, YA, yn, yc, YA', yn', yc', rfl⟩ := hS.form
                 have K10 : Hid (Below wr.heap.size wr w10) := Lib.hid (bel_next (w := wr) (by (repeat (first | (with_reducible refine bel_set3 _ _ _ ?_ ?_) | (with_reducible refine bel_alloc ?_ _) | (with_reducible refine bel_drew ?_) | (with_reducible exact K9.out) | (with_reducible exact K10.out) | (with_reducible exact Below.refl _ _)))) hb10)
                 have HS10 := Lib.hid hS
                 have z1 : w9.heap.size ≤ w10.heap.size := Below.size (bel_next (w := w9) (by (repeat (first | (with_reducible refine bel_alloc ?_ _) | (with_reducible exact Below.refl _ _)))) hb10)
                 (first
                   | (have Q0 := Lib.hid (by with_reducible exact Blk.below (P0.out) hb10 (P0.out).lt : Blk w10 wr.heap.size 25 #[.int .i64 0, .slice none 0 0, .slice none 0 0])
                      have Q0c0 : w10.cell? ⟨wr.heap.size, 0, none⟩ = some (.int .i64 0) := Q0.out.cell 0
                      have Q0c1 : w10.cell? ⟨wr.heap.size, 1, none⟩ = some (.slice none 0 0) := Q0.out.cell 1
                      have Q0c2 : w10.cell? ⟨wr.heap.size, 2, none⟩ = some (.slice none 0 0) := Q0.out.cell 2
                      have Q0f : ∀ i, w10.frozen? ⟨wr.heap.size, i, none⟩ = false := fun i => Q0.out.frozen i
                      have Q0l : wr.heap.size < w10.heap.size := Q0.out.lt)
                   | (have Q0 := Lib.hid (by with_reducible exact Blk.below (Blk.alloc (P0.out) (.cells #[.int .i64 0, .slice none 0 0, .slice none 0 0] 25)) hb10 (Blk.alloc (P0.out) (.cells #[.int .i64 0, .slice none 0 0, .slice none 0 0] 25)).lt : Blk w10 wr.heap.size 25 #[.int .i64 0, .slice none 0 0, .slice none 0 0])
                      have Q0c0 : w10.cell? ⟨wr.heap.size, 0, none⟩ = some (.int .i64 0) := Q0.out.cell 0
                      have Q0c1 : w10.cell? ⟨wr.heap.size, 1, none⟩ = some (.slice none 0 0) := Q0.out.cell 1
                      have Q0c2 : w10.cell? ⟨wr.heap.size, 2, none⟩ = some (.slice none 0 0) := Q0.out.cell 2
                      have Q0f : ∀ i, w10.frozen? ⟨wr.heap.size, i, none⟩ = false := fun i => Q0.out.frozen i
                      have Q0l : wr.heap.size < w10.heap.size := Q0.out.lt)
                   | (have Q0 := Lib.hid (by with_reducible exact Blk.below (Blk.alloc (Blk.alloc (P0.out) (.cells #[.int .i64 0, .slice none 0 0, .slice none 0 0] 25)) (.cells #[.int .i64 0, .slice none 0 0, .slice none 0 0] 25)) hb10 (Blk.alloc (Blk.alloc (P0.out) (.cells #[.int .i64 0, .slice none 0 0, .slice none 0 0] 25)) (.cells #[.int .i64 0, .slice none 0 0, .slice none 0 0] 25)).lt : Blk w10 wr.heap.size 25 #[.int .i64 0, .slice none 0 0, .slice none 0 0])
                      have Q0c0 : w10.cell? ⟨wr.heap.size, 0, none⟩ = some (.int .i64 0) := Q0.out.cell 0
                      have Q0c1 : w10.cell? ⟨wr.heap.size, 1, none⟩ = some (.slice none 0 0) := Q0.out.cell 1
                      have Q0c2 : w10.cell? ⟨wr.heap.size, 2, none⟩ = some (.slice none 0 0) := Q0.out.cell 2
                      have Q0f : ∀ i, w10.frozen? ⟨wr.heap.size, i, none⟩ = false := fun i => Q0.out.frozen i
                      have Q0l : wr.heap.size < w10.heap.size := Q0.out.lt)
                   | skip)
                 (first
                   | (have Q1 := Lib.hid (by with_reducible exact Blk.below (P1.out) hb10 (P1.out).lt : Blk w10 (wr.heap.size + 1) 25 #[.int .i64 0, .slice none 0 0, .slice none 0 0])
                      have Q1c0 : w10.cell? ⟨(wr.heap.size + 1), 0, none⟩ = some (.int .i64 0) := Q1.out.cell 0
                      have Q1c1 : w10.cell? ⟨(wr.heap.size + 1), 1, none⟩ = some (.slice none 0 0) := Q1.out.cell 1
                      have Q1c2 : w10.cell? ⟨(wr.heap.size + 1), 2, none⟩ = some (.slice none 0 0) := Q1.out.cell 2
                      have Q1f : ∀ i, w10.frozen? ⟨(wr.heap.size + 1), i, none⟩ = false := fun i => Q1.out.frozen i
                      have Q1l : (wr.heap.size + 1) < w10.heap.size := Q1.out.lt)
                   | (have Q1 := Lib.hid (by with_reducible exact Blk.below (Blk.alloc (P1.out) (.cells #[.int .i64 0, .slice none 0 0, .slice none 0 0] 25)) hb10 (Blk.alloc (P1.out) (.cells #[.int .i64 0, .slice none 0 0, .slice none 0 0] 25)).lt : Blk w10 (wr.heap.size + 1) 25 #[.int .i64 0, .slice none 0 0, .slice none 0 0])
                      have Q1c0 : w10.cell? ⟨(wr.heap.size + 1), 0, none⟩ = some (.int .i64 0) := Q1.out.cell 0
                      have Q1c1 : w10.cell? ⟨(wr.heap.size + 1), 1, none⟩ = some (.slice none 0 0) := Q1.out.cell 1
                      have Q1c2 : w10.cell? ⟨(wr.heap.size + 1), 2, none⟩ = some (.slice none 0 0) := Q1.out.cell 2
                      have Q1f : ∀ i, w10.frozen? ⟨(wr.heap.size + 1), i, none⟩ = false := fun i => Q1.out.frozen i
                      have Q1l : (wr.heap.size + 1) < w10.heap.size := Q1.out.lt)
                   | (have Q1 := Lib.hid (by with_reducible exact Blk.below (Blk.alloc (Blk.alloc (P1.out) (.cells #[.int .i64 0, .slice none 0 0, .slice none 0 0] 25)) (.cells #[.int .i64 0, .slice none 0 0, .slice none 0 0] 25)) hb10 (Blk.alloc (Blk.alloc (P1.out) (.cells #[.int .i64 0, .slice none 0 0, .slice none 0 0] 25)) (.cells #[.int .i64 0, .slice none 0 0, .slice none 0 0] 25)).lt : Blk w10 (wr.heap.size + 1) 25 #[.int .i64 0, .slice none 0 0, .slice none 0 0])
                      have Q1c0 : w10.cell? ⟨(wr.heap.size + 1), 0, none⟩ = some (.int .i64 0) := Q1.out.cell 0
                      have Q1c1 : w10.cell? ⟨(wr.heap.size + 1), 1, none⟩ = some (.slice none 0 0) := Q1.out.cell 1
                      have Q1c2 : w10.cell? ⟨(wr.heap.size + 1), 2, none⟩ = some (.slice none 0 0) := Q1.out.cell 2
                      have Q1f : ∀ i, w10.frozen? ⟨(wr.heap.size + 1), i, none⟩ = false := fun i => Q1.out.frozen i
                      have Q1l : (wr.heap.size + 1) < w10.heap.size := Q1.out.lt)
                   | skip)
                 (first
                   | (have N0 := Lib.hid (by with_reducible exact Blk.below (Blk.alloc (Blk.new w9 25 #[.int .i64 0, .slice none 0 0, .slice none 0 0]) (.cells #[.int .i64 0, .slice none 0 0, .slice none 0 0] 25)) hb10 (Blk.alloc (Blk.new w9 25 #[.int .i64 0, .slice none 0 0, .slice none 0 0]) (.cells #[.int .i64 0, .slice none 0 0, .slice none 0 0] 25)).lt : Blk w10 w9.heap.size 25 #[.int .i64 0, .slice none 0 0, .slice none 0 0])
                      have N0c0 : w10.cell? ⟨w9.heap.size, 0, none⟩ = some (.int .i64 0) := N0.out.cell 0
                      have N0c1 : w10.cell? ⟨w9.heap.size, 1, none⟩ = some (.slice none 0 0) := N0.out.cell 1
                      have N0c2 : w10.cell? ⟨w9.heap.size, 2, none⟩ = some (.slice none 0 0) := N0.out.cell 2
                      have N0f : ∀ i, w10.frozen? ⟨w9.heap.size, i, none⟩ = false := fun i => N0.out.frozen i
                      have N0l : w9.heap.size < w10.heap.size := N0.out.lt)
                   | (have N0 := Lib.hid (by with_reducible exact Blk.below (Blk.new w9 25 #[.int .i64 0, .slice none 0 0, .slice none 0 0]) hb10 (Blk.new w9 25 #[.int .i64 0, .slice none 0 0, .slice none 0 0]).lt : Blk w10 w9.heap.size 25 #[.int .i64 0, .slice none 0 0, .slice none 0 0])
                      have N0c0 : w10.cell? ⟨w9.heap.size, 0, none⟩ = some (.int .i64 0) := N0.out.cell 0
                      have N0c1 : w10.cell? ⟨w9.heap.size, 1, none⟩ = some (.slice none 0 0) := N0.out.cell 1
                      have N0c2 : w10.cell? ⟨w9.heap.size, 2, none⟩ = some (.slice none 0 0) := N0.out.cell 2
                      have N0f : ∀ i, w10.frozen? ⟨w9.heap.size, i, none⟩ = false := fun i => N0.out.frozen i
                      have N0l : w9.heap.size < w10.heap.size := N0.out.lt)
                   | skip)
                 (first
                   | (have N1 := Lib.hid (by with_reducible exact Blk.below (blkn_at1 w9 (.cells #[.int .i64 0, .slice none 0 0, .slice none 0 0] 25) 25 #[.int .i64 0, .slice none 0 0, .slice none 0 0]) hb10 (blkn_at1 w9 (.cells #[.int .i64 0, .slice none 0 0, .slice none 0 0] 25) 25 #[.int .i64 0, .slice none 0 0, .slice none 0 0]).lt : Blk w10 (w9.heap.size + 1) 25 #[.int .i64 0, .slice none 0 0, .slice none 0 0])
                      have N1c0 : w10.cell? ⟨(w9.heap.size + 1), 0, none⟩ = some (.int .i64 0) := N1.out.cell 0
                      have N1c1 : w10.cell? ⟨(w9.heap.size + 1), 1, none⟩ = some (.slice none 0 0) := N1.out.cell 1
                      have N1c2 : w10.cell? ⟨(w9.heap.size + 1), 2, none⟩ = some (.slice none 0 0) := N1.out.cell 2
                      have N1f : ∀ i, w10.frozen? ⟨(w9.heap.size + 1), i, none⟩ = false := fun i => N1.out.frozen i
                      have N1l : (w9.heap.size + 1) < w10.heap.size := N1.out.lt)
                   | skip)
                 have HSZ10 : Hid True := Lib.hid trivial))
          all_goals (refine NoPanic.normal ?_; go_wp2_with fail; go_meet)
          all_goals
            focus
              refine got_mk ?bx ?by_ (okk_sn HS9.out ?sa) (okk_sn HS10.out ?sb) ?bel
              case bel =>
                (repeat (first | (with_reducible refine bel_set3 _ _ _ ?_ ?_) | (with_reducible refine bel_alloc ?_ _) | (with_reducible exact K10.out)))
                all_goals (show _ ≤ _; omega)
              case bx =>
                (repeat (first | (with_reducible refine blk_set3 (v0 := .int .i64 0) (v1 := .slice none 0 0) (v2 := .slice none 0 0) _ _ _ ?_) | (with_reducible refine blk_new' ?_) | (with_reducible refine blk_far3 _ _ _ ?_ ?_) | (with_reducible refine Blk.alloc ?_ _) | (with_reducible exact Q0.out) | (with_reducible exact Q1.out) | (with_reducible exact N0.out) | (with_reducible exact N1.out) | (with_reducible exact Blk.new _ _ _) | (with_reducible exact blkn_at1 _ _ _ _)))
                all_goals (first | (show _ ≠ _; omega) | (simp; done) | (simp; omega))
              case by_ =>
                (repeat (first | (with_reducible refine blk_set3 (v0 := .int .i64 0) (v1 := .slice none 0 0) (v2 := .slice none 0 0) _ _ _ ?_) | (with_reducible refine blk_new' ?_) | (with_reducible refine blk_far3 _ _ _ ?_ ?_) | (with_reducible refine Blk.alloc ?_ _) | (with_reducible exact Q0.out) | (with_reducible exact Q1.out) | (with_reducible exact N0.out) | (with_reducible exact N1.out) | (with_reducible exact Blk.new _ _ _) | (with_reducible exact blkn_at1 _ _ _ _)))
                all_goals (first | (show _ ≠ _; omega) | (simp; done) | (simp; omega))
              case sa =>
                (repeat (first | (with_reducible refine okk_set3 _ _ _ ?_ ?_) | (with_reducible refine okk_alloc ?_ _) | (with_reducible refine okk_next ?_ hb10) | (with_reducible exact okk_refl)))
                all_goals (first | (right; show _ ≤ _; omega) | (left; constructor <;> ((try simp only [World.size_alloc, size_drew_]); omega)))
              case sb =>
                (repeat (first | (with_reducible refine okk_set3 _ _ _ ?_ ?_) | (with_reducible refine okk_alloc ?_ _) | (with_reducible exact okk_refl)))
                all_goals (first | (right; show _ ≤ _; omega) | (left; constructor <;> ((try simp only [World.size_alloc, size_drew_]); omega)))
      case rest =>
        obtain ⟨gx, gy, X, Y, rfl, rfl, hX, hY, hSA, hSB, hbz⟩ := hcut
        obtain ⟨sx, AX, nx, kx, AX', nx', kx', rfl⟩ := hSA.form
        obtain ⟨sy, AY, ny, ky, AY', ny', ky', rfl⟩ := hSB.form
        obtain ⟨w0, hZ⟩ : ∃ q, wc = q := ⟨_, rfl⟩
        rw [hZ] at hX hY hSA hSB hbz ⊢
        clear hZ ca0 ca1 ca2 cb0 cb1 cb2 hw2 hw3
        have HX0 := Lib.hid hX
        have HY0 := Lib.hid hY
        have HB0 := Lib.hid (HBR.out.next hbz)
        have HSA := Lib.hid hSA
        have HSB := Lib.hid hSB
        clear hX hY hSA hSB hbz
        have x0_0 : w0.cell? ⟨gx, 0, none⟩ = some (.int .i64 sx) := HX0.out.cell 0
        have x0_1 : w0.cell? ⟨gx, 1, none⟩ = some (.slice AX nx kx) := HX0.out.cell 1
        have x0_2 : w0.cell? ⟨gx, 2, none⟩ = some (.slice AX' nx' kx') := HX0.out.cell 2
        have y0_0 : w0.cell? ⟨gy, 0, none⟩ = some (.int .i64 sy) := HY0.out.cell 0
        have y0_1 : w0.cell? ⟨gy, 1, none⟩ = some (.slice AY ny ky) := HY0.out.cell 1
        have y0_2 : w0.cell? ⟨gy, 2, none⟩ = some (.slice AY' ny' ky') := HY0.out.cell 2
        have a0_0 : w0.cell? ⟨w.heap.size, 0, none⟩ = some (.int .i64 s) := cell_of_row w0 (w.heap.size) 0 _ 25 (0, 0) HB0.out.one
        have a0_1 : w0.cell? ⟨w.heap.size, 1, none⟩ = some (.slice A n c) := cell_of_row w0 (w.heap.size) 1 _ 25 (0, 0) HB0.out.one
        have a0_2 : w0.cell? ⟨w.heap.size, 2, none⟩ = some (.slice A' n' c') := cell_of_row w0 (w.heap.size) 2 _ 25 (0, 0) HB0.out.one
        have b0_0 : w0.cell? ⟨w.heap.size + 1, 0, none⟩ = some (.int .i64 s2) := cell_of_row w0 (w.heap.size + 1) 0 _ 25 (0, 0) HB0.out.two
        have b0_1 : w0.cell? ⟨w.heap.size + 1, 1, none⟩ = some (.slice A2 n2 c2) := cell_of_row w0 (w.heap.size + 1) 1 _ 25 (0, 0) HB0.out.two
        have b0_2 : w0.cell? ⟨w.heap.size + 1, 2, none⟩ = some (.slice A2' n2' c2') := cell_of_row w0 (w.heap.size + 1) 2 _ 25 (0, 0) HB0.out.two
        obtain ⟨D, hD⟩ : ∃ q, differ a b = q := ⟨_, rfl⟩
        have hDs : differ b a = D.map swap := by rw [differ_swap a b, hD]
        obtain ⟨L, hL⟩ : ∃ q, D.length = q := ⟨_, rfl⟩
        have hLs : (D.map swap).length = L := by rw [List.length_map, hL]
        have hLm : L ≤ 1048576 := by
          have h1 := differ_len a b
          rw [hD, hL] at h1
          have := HLEN.out
          omega
        have HD := Lib.hid hD
        have HDs := Lib.hid hDs
        have HLL := Lib.hid hL
        have HLs := Lib.hid hLs
        clear hD hDs hL hLs
        go_wp2_with fail
        refine (differ_any w0 a b _ _ HSA.out HSB.out).mono ?_
        rintro e w1 ⟨v1, rfl, hb1, ho1⟩
        rw [HD.out] at ho1
        obtain ⟨A1, c1, rfl, _, hl1⟩ := own_ds ho1 (by rw [HLL.out]; exact hLm)
        rw [HLL.out]
        have HL1 := Lib.hid hl1
        have K1 := Lib.hid hb1
        have HX1 := Lib.hid (HX0.out.below hb1 HX0.out.lt)
        have HY1 := Lib.hid (HY0.out.below hb1 HY0.out.lt)
        have HB1 := Lib.hid (HB0.out.next hb1)
        have x1_0 : w1.cell? ⟨gx, 0, none⟩ = some (.int .i64 sx) := HX1.out.cell 0
        have x1_1 : w1.cell? ⟨gx, 1, none⟩ = some (.slice AX nx kx) := HX1.out.cell 1
        have x1_2 : w1.cell? ⟨gx, 2, none⟩ = some (.slice AX' nx' kx') := HX1.out.cell 2
        have y1_0 : w1.cell? ⟨gy, 0, none⟩ = some (.int .i64 sy) := HY1.out.cell 0
        have y1_1 : w1.cell? ⟨gy, 1, none⟩ = some (.slice AY ny ky) := HY1.out.cell 1
        have y1_2 : w1.cell? ⟨gy, 2, none⟩ = some (.slice AY' ny' ky') := HY1.out.cell 2
        have a1_0 : w1.cell? ⟨w.heap.size, 0, none⟩ = some (.int .i64 s) := cell_of_row w1 (w.heap.size) 0 _ 25 (0, 0) HB1.out.one
        have a1_1 : w1.cell? ⟨w.heap.size, 1, none⟩ = some (.slice A n c) := cell_of_row w1 (w.heap.size) 1 _ 25 (0, 0) HB1.out.one
        have a1_2 : w1.cell? ⟨w.heap.size, 2, none⟩ = some (.slice A' n' c') := cell_of_row w1 (w.heap.size) 2 _ 25 (0, 0) HB1.out.one
        have b1_0 : w1.cell? ⟨w.heap.size + 1, 0, none⟩ = some (.int .i64 s2) := cell_of_row w1 (w.heap.size + 1) 0 _ 25 (0, 0) HB1.out.two
        have b1_1 : w1.cell? ⟨w.heap.size + 1, 1, none⟩ = some (.slice A2 n2 c2) := cell_of_row w1 (w.heap.size + 1) 1 _ 25 (0, 0) HB1.out.two
        have b1_2 : w1.cell? ⟨w.heap.size + 1, 2, none⟩ = some (.slice A2' n2' c2') := cell_of_row w1 (w.heap.size + 1) 2 _ 25 (0, 0) HB1.out.two
        clear hl1 ho1 hb1
        clear x0_0 x0_1 x0_2 y0_0 y0_1 y0_2 a0_0 a0_1 a0_2 b0_0 b0_1 b0_2
        go_wp2_with fail
        refine (differ_any w1 b a _ _ (HSB.out.at_ K1.out) (HSA.out.at_ K1.out)).mono ?_
        rintro e w2 ⟨v2, rfl, hb2, ho2⟩
        rw [HDs.out] at ho2
        obtain ⟨A2_, c2_, rfl, _, hl2⟩ := own_ds ho2 (by rw [HLs.out]; exact hLm)
        rw [HLs.out]
        have HL2 := Lib.hid hl2
        have K2 := Lib.hid (bel_next K1.out hb2)
        have HL1 := Lib.hid (HL1.out.at_ hb2)
        have HX2 := Lib.hid (HX1.out.below hb2 HX1.out.lt)
        have HY2 := Lib.hid (HY1.out.below hb2 HY1.out.lt)
        have HB2 := Lib.hid (HB1.out.next hb2)
        have x2_0 : w2.cell? ⟨gx, 0, none⟩ = some (.int .i64 sx) := HX2.out.cell 0
        have x2_1 : w2.cell? ⟨gx, 1, none⟩ = some (.slice AX nx kx) := HX2.out.cell 1
        have x2_2 : w2.cell? ⟨gx, 2, none⟩ = some (.slice AX' nx' kx') := HX2.out.cell 2
        have y2_0 : w2.cell? ⟨gy, 0, none⟩ = some (.int .i64 sy) := HY2.out.cell 0
        have y2_1 : w2.cell? ⟨gy, 1, none⟩ = some (.slice AY ny ky) := HY2.out.cell 1
        have y2_2 : w2.cell? ⟨gy, 2, none⟩ = some (.slice AY' ny' ky') := HY2.out.cell 2
        have a2_0 : w2.cell? ⟨w.heap.size, 0, none⟩ = some (.int .i64 s) := cell_of_row w2 (w.heap.size) 0 _ 25 (0, 0) HB2.out.one
        have a2_1 : w2.cell? ⟨w.heap.size, 1, none⟩ = some (.slice A n c) := cell_of_row w2 (w.heap.size) 1 _ 25 (0, 0) HB2.out.one
        have a2_2 : w2.cell? ⟨w.heap.size, 2, none⟩ = some (.slice A' n' c') := cell_of_row w2 (w.heap.size) 2 _ 25 (0, 0) HB2.out.one
        have b2_0 : w2.cell? ⟨w.heap.size + 1, 0, none⟩ = some (.int .i64 s2) := cell_of_row w2 (w.heap.size + 1) 0 _ 25 (0, 0) HB2.out.two
        have b2_1 : w2.cell? ⟨w.heap.size + 1, 1, none⟩ = some (.slice A2 n2 c2) := cell_of_row w2 (w.heap.size + 1) 1 _ 25 (0, 0) HB2.out.two
        have b2_2 : w2.cell? ⟨w.heap.size + 1, 2, none⟩ = some (.slice A2' n2' c2') := cell_of_row w2 (w.heap.size + 1) 2 _ 25 (0, 0) HB2.out.two
        clear hl2 ho2 hb2
        clear x1_0 x1_1 x1_2 y1_0 y1_1 y1_2 a1_0 a1_1 a1_2 b1_0 b1_1 b1_2
        go_wp2_with fail
        refine (HR.out w2 a b _ _ (HA.out.at_ HB2.out.bel) (HB.out.at_ HB2.out.bel) (by have := HLEN.out; omega) (by have := HLEN.out; omega)).mono ?_
        rintro e w3 ⟨v3, rfl, hb3, B3, ho3⟩
        rw [HD.out] at ho3
        obtain ⟨A3_, c3_, rfl, _, hl3⟩ := own_ds ho3 (by rw [HLL.out]; exact hLm)
        rw [HLL.out]
        have HL3 := Lib.hid hl3
        have K3 := Lib.hid (bel_next K2.out hb3)
        have HL1 := Lib.hid (HL1.out.at_ hb3)
        have HL2 := Lib.hid (HL2.out.at_ hb3)
        have HX3 := Lib.hid (HX2.out.below hb3 HX2.out.lt)
        have HY3 := Lib.hid (HY2.out.below hb3 HY2.out.lt)
        have HB3 := Lib.hid (HB2.out.next hb3)
        have x3_0 : w3.cell? ⟨gx, 0, none⟩ = some (.int .i64 sx) := HX3.out.cell 0
        have x3_1 : w3.cell? ⟨gx, 1, none⟩ = some (.slice AX nx kx) := HX3.out.cell 1
        have x3_2 : w3.cell? ⟨gx, 2, none⟩ = some (.slice AX' nx' kx') := HX3.out.cell 2
        have y3_0 : w3.cell? ⟨gy, 0, none⟩ = some (.int .i64 sy) := HY3.out.cell 0
        have y3_1 : w3.cell? ⟨gy, 1, none⟩ = some (.slice AY ny ky) := HY3.out.cell 1
        have y3_2 : w3.cell? ⟨gy, 2, none⟩ = some (.slice AY' ny' ky') := HY3.out.cell 2
        have a3_0 : w3.cell? ⟨w.heap.size, 0, none⟩ = some (.int .i64 s) := cell_of_row w3 (w.heap.size) 0 _ 25 (0, 0) HB3.out.one
        have a3_1 : w3.cell? ⟨w.heap.size, 1, none⟩ = some (.slice A n c) := cell_of_row w3 (w.heap.size) 1 _ 25 (0, 0) HB3.out.one
        have a3_2 : w3.cell? ⟨w.heap.size, 2, none⟩ = some (.slice A' n' c') := cell_of_row w3 (w.heap.size) 2 _ 25 (0, 0) HB3.out.one
        have b3_0 : w3.cell? ⟨w.heap.size + 1, 0, none⟩ = some (.int .i64 s2) := cell_of_row w3 (w.heap.size + 1) 0 _ 25 (0, 0) HB3.out.two
        have b3_1 : w3.cell? ⟨w.heap.size + 1, 1, none⟩ = some (.slice A2 n2 c2) := cell_of_row w3 (w.heap.size + 1) 1 _ 25 (0, 0) HB3.out.two
        have b3_2 : w3.cell? ⟨w.heap.size + 1, 2, none⟩ = some (.slice A2' n2' c2') := cell_of_row w3 (w.heap.size + 1) 2 _ 25 (0, 0) HB3.out.two
        clear hl3 ho3 hb3
        clear x2_0 x2_1 x2_2 y2_0 y2_1 y2_2 a2_0 a2_1 a2_2 b2_0 b2_1 b2_2
        go_wp2_with fail
        refine (eqDiffs w3 _ _ _ _ _ _ D D HLL.out HLL.out HL1.out HL3.out).mono ?_
        rintro e w4 ⟨rfl, q4, rfl⟩
        rw [@decide_eq_true _ _ (rfl : D = D)]
        obtain ⟨w4, hw4⟩ : ∃ w4, w3.drewN q4 = w4 := ⟨_, rfl⟩
        have hb4 : Below w3.heap.size w3 w4 := by rw [← hw4]; exact bel_drewN (Below.refl _ _) q4
        rw [hw4]
        clear hw4
        have K4 := Lib.hid (bel_next K3.out hb4)
        have HL1 := Lib.hid (HL1.out.at_ hb4)
        have HL2 := Lib.hid (HL2.out.at_ hb4)
        have HX4 := Lib.hid (HX3.out.below hb4 HX3.out.lt)
        have HY4 := Lib.hid (HY3.out.below hb4 HY3.out.lt)
        have HB4 := Lib.hid (HB3.out.next hb4)
        have x4_0 : w4.cell? ⟨gx, 0, none⟩ = some (.int .i64 sx) := HX4.out.cell 0
        have x4_1 : w4.cell? ⟨gx, 1, none⟩ = some (.slice AX nx kx) := HX4.out.cell 1
        have x4_2 : w4.cell? ⟨gx, 2, none⟩ = some (.slice AX' nx' kx') := HX4.out.cell 2
        have y4_0 : w4.cell? ⟨gy, 0, none⟩ = some (.int .i64 sy) := HY4.out.cell 0
        have y4_1 : w4.cell? ⟨gy, 1, none⟩ = some (.slice AY ny ky) := HY4.out.cell 1
        have y4_2 : w4.cell? ⟨gy, 2, none⟩ = some (.slice AY' ny' ky') := HY4.out.cell 2
        have a4_0 : w4.cell? ⟨w.heap.size, 0, none⟩ = some (.int .i64 s) := cell_of_row w4 (w.heap.size) 0 _ 25 (0, 0) HB4.out.one
        have a4_1 : w4.cell? ⟨w.heap.size, 1, none⟩ = some (.slice A n c) := cell_of_row w4 (w.heap.size) 1 _ 25 (0, 0) HB4.out.one
        have a4_2 : w4.cell? ⟨w.heap.size, 2, none⟩ = some (.slice A' n' c') := cell_of_row w4 (w.heap.size) 2 _ 25 (0, 0) HB4.out.one
        have b4_0 : w4.cell? ⟨w.heap.size + 1, 0, none⟩ = some (.int .i64 s2) := cell_of_row w4 (w.heap.size + 1) 0 _ 25 (0, 0) HB4.out.two
        have b4_1 : w4.cell? ⟨w.heap.size + 1, 1, none⟩ = some (.slice A2 n2 c2) := cell_of_row w4 (w.heap.size + 1) 1 _ 25 (0, 0) HB4.out.two
        have b4_2 : w4.cell? ⟨w.heap.size + 1, 2, none⟩ = some (.slice A2' n2' c2') := cell_of_row w4 (w.heap.size + 1) 2 _ 25 (0, 0) HB4.out.two
        clear hb4
        clear x3_0 x3_1 x3_2 y3_0 y3_1 y3_2 a3_0 a3_1 a3_2 b3_0 b3_1 b3_2
        go_wp2_with fail
        refine (same_any w4 a _ _ (HSA.out.at_ K4.out) (HA.out.at_ HB4.out.bel)).mono ?_
        rintro e w5 ⟨rfl, hb5⟩
        have K5 := Lib.hid (bel_next K4.out hb5)
        have HL1 := Lib.hid (HL1.out.at_ hb5)
        have HL2 := Lib.hid (HL2.out.at_ hb5)
        have HX5 := Lib.hid (HX4.out.below hb5 HX4.out.lt)
        have HY5 := Lib.hid (HY4.out.below hb5 HY4.out.lt)
        have HB5 := Lib.hid (HB4.out.next hb5)
        have x5_0 : w5.cell? ⟨gx, 0, none⟩ = some (.int .i64 sx) := HX5.out.cell 0
        have x5_1 : w5.cell? ⟨gx, 1, none⟩ = some (.slice AX nx kx) := HX5.out.cell 1
        have x5_2 : w5.cell? ⟨gx, 2, none⟩ = some (.slice AX' nx' kx') := HX5.out.cell 2
        have y5_0 : w5.cell? ⟨gy, 0, none⟩ = some (.int .i64 sy) := HY5.out.cell 0
        have y5_1 : w5.cell? ⟨gy, 1, none⟩ = some (.slice AY ny ky) := HY5.out.cell 1
        have y5_2 : w5.cell? ⟨gy, 2, none⟩ = some (.slice AY' ny' ky') := HY5.out.cell 2
        have a5_0 : w5.cell? ⟨w.heap.size, 0, none⟩ = some (.int .i64 s) := cell_of_row w5 (w.heap.size) 0 _ 25 (0, 0) HB5.out.one
        have a5_1 : w5.cell? ⟨w.heap.size, 1, none⟩ = some (.slice A n c) := cell_of_row w5 (w.heap.size) 1 _ 25 (0, 0) HB5.out.one
        have a5_2 : w5.cell? ⟨w.heap.size, 2, none⟩ = some (.slice A' n' c') := cell_of_row w5 (w.heap.size) 2 _ 25 (0, 0) HB5.out.one
        have b5_0 : w5.cell? ⟨w.heap.size + 1, 0, none⟩ = some (.int .i64 s2) := cell_of_row w5 (w.heap.size + 1) 0 _ 25 (0, 0) HB5.out.two
        have b5_1 : w5.cell? ⟨w.heap.size + 1, 1, none⟩ = some (.slice A2 n2 c2) := cell_of_row w5 (w.heap.size + 1) 1 _ 25 (0, 0) HB5.out.two
        have b5_2 : w5.cell? ⟨w.heap.size + 1, 2, none⟩ = some (.slice A2' n2' c2') := cell_of_row w5 (w.heap.size + 1) 2 _ 25 (0, 0) HB5.out.two
        clear hb5
        clear x4_0 x4_1 x4_2 y4_0 y4_1 y4_2 a4_0 a4_1 a4_2 b4_0 b4_1 b4_2
        go_wp2_with fail
        refine (same_any w5 b _ _ (HSB.out.at_ K5.out) (HB.out.at_ HB5.out.bel)).mono ?_
        rintro e w6 ⟨rfl, hb6⟩
        have K6 := Lib.hid (bel_next K5.out hb6)
        have HL1 := Lib.hid (HL1.out.at_ hb6)
        have HL2 := Lib.hid (HL2.out.at_ hb6)
        have HX6 := Lib.hid (HX5.out.below hb6 HX5.out.lt)
        have HY6 := Lib.hid (HY5.out.below hb6 HY5.out.lt)
        have HB6 := Lib.hid (HB5.out.next hb6)
        have x6_0 : w6.cell? ⟨gx, 0, none⟩ = some (.int .i64 sx) := HX6.out.cell 0
        have x6_1 : w6.cell? ⟨gx, 1, none⟩ = some (.slice AX nx kx) := HX6.out.cell 1
        have x6_2 : w6.cell? ⟨gx, 2, none⟩ = some (.slice AX' nx' kx') := HX6.out.cell 2
        have y6_0 : w6.cell? ⟨gy, 0, none⟩ = some (.int .i64 sy) := HY6.out.cell 0
        have y6_1 : w6.cell? ⟨gy, 1, none⟩ = some (.slice AY ny ky) := HY6.out.cell 1
        have y6_2 : w6.cell? ⟨gy, 2, none⟩ = some (.slice AY' ny' ky') := HY6.out.cell 2
        have a6_0 : w6.cell? ⟨w.heap.size, 0, none⟩ = some (.int .i64 s) := cell_of_row w6 (w.heap.size) 0 _ 25 (0, 0) HB6.out.one
        have a6_1 : w6.cell? ⟨w.heap.size, 1, none⟩ = some (.slice A n c) := cell_of_row w6 (w.heap.size) 1 _ 25 (0, 0) HB6.out.one
        have a6_2 : w6.cell? ⟨w.heap.size, 2, none⟩ = some (.slice A' n' c') := cell_of_row w6 (w.heap.size) 2 _ 25 (0, 0) HB6.out.one
        have b6_0 : w6.cell? ⟨w.heap.size + 1, 0, none⟩ = some (.int .i64 s2) := cell_of_row w6 (w.heap.size + 1) 0 _ 25 (0, 0) HB6.out.two
        have b6_1 : w6.cell? ⟨w.heap.size + 1, 1, none⟩ = some (.slice A2 n2 c2) := cell_of_row w6 (w.heap.size + 1) 1 _ 25 (0, 0) HB6.out.two
        have b6_2 : w6.cell? ⟨w.heap.size + 1, 2, none⟩ = some (.slice A2' n2' c2') := cell_of_row w6 (w.heap.size + 1) 2 _ 25 (0, 0) HB6.out.two
        clear hb6
        clear x5_0 x5_1 x5_2 y5_0 y5_1 y5_2 a5_0 a5_1 a5_2 b5_0 b5_1 b5_2
        go_wp2_with fail
        refine (differ_any w6 a a _ _ (HSA.out.at_ K6.out) (HSA.out.at_ K6.out)).mono ?_
        rintro e w7 ⟨v7, rfl, hb7, ho7⟩
        rw [differ_self] at ho7
        obtain ⟨A7_, c7_, rfl, _, _⟩ := own_ds ho7 (by simp)
        have HL1 := Lib.hid (HL1.out.at_ hb7)
        have HL2 := Lib.hid (HL2.out.at_ hb7)
        have HB7 := Lib.hid (HB6.out.next hb7)
        clear ho7 hb7 HSA HSB HA HB HX0 HX1 HX2 HX3 HX4 HX5 HX6 HY0 HY1 HY2 HY3 HY4 HY5 HY6 K1 K2 K3 K4 K5 K6 HL3 HR HLEN HD HDs
        clear x6_0 x6_1 x6_2 y6_0 y6_1 y6_2 a6_0 a6_1 a6_2 b6_0 b6_1 b6_2
        go_wp2
        go_loopw [9] (fun i wr => ∃ k q : Nat, k ≤ L ∧ i = .int .i64 k ∧ wr = w7.drewN q) (fun i _ => L - (intOf i).toNat)
        case atStart => exact ⟨0, 0, Nat.zero_le _, rfl, rfl⟩
        case round =>
          obtain ⟨k, q, hk, rfl, rfl⟩ := hrel
          by_cases hlt : k < L
          · have hkl : k < D.length := by have := HLL.out; omega
            have hkl' : k < (D.map swap).length := by have := HLs.out; omega
            obtain ⟨b1, o1, cs1, rfl, hb1, hR1, hc1⟩ := HL1.out.part hkl
            obtain ⟨b2, o2, cs2, rfl, hb2, hR2, hc2⟩ := HL2.out.part hkl'
            rw [List.getElem_map] at hR2
            unfold DR at hR1 hR2
            subst hR1 hR2
            have p0 : w7.cell? ⟨b1, o1 + k * 2, none⟩ = some (.int .i64 D[k].k) := hc1 0 _ rfl
            have p1 : w7.cell? ⟨b1, o1 + k * 2 + 1, none⟩ = some (.string D[k].s) := hc1 1 _ rfl
            have r0 : w7.cell? ⟨b2, o2 + k * 2, none⟩ = some (.int .i64 (kswap D[k].k)) := hc2 0 _ rfl
            have r1 : w7.cell? ⟨b2, o2 + k * 2 + 1, none⟩ = some (.string D[k].s) := hc2 1 _ rfl
            obtain ⟨dk, hdk⟩ : ∃ q, D[k].k = q := ⟨_, rfl⟩
            obtain ⟨ds, hds⟩ : ∃ q, D[k].s = q := ⟨_, rfl⟩
            rw [hdk] at p0 r0
            rw [hds] at p1 r1
            clear hdk hds hc1 hc2 hb1 hb2
            by_cases h3 : dk = 3
            · subst h3
              have hks : kswap 3 = 4 := rfl
              rw [hks] at r0
              clear hks
              go_wp2
              go_quiet (fail)
              go_wp2
              go_roundw
              case rel => exact ⟨k + 1, _, by omega, by go_num, rfl⟩
              case measure => simp [intOf]; omega
            · by_cases h4 : dk = 4
              · subst h4
                have hks : kswap 4 = 3 := rfl
                rw [hks] at r0
                clear hks
                go_wp2
                go_quiet (fail)
                go_wp2
                go_roundw
                case rel => exact ⟨k + 1, _, by omega, by go_num, rfl⟩
                case measure => simp [intOf]; omega
              · have hks : kswap dk = dk := by unfold kswap; rw [if_neg (by omega)]
                rw [hks] at r0
                clear hks
                have e3 : (dk == 3) = false := by simpa using h3
                have e4 : (dk == 4) = false := by simpa using h4
                go_wp2
                go_quiet (fail)
                go_wp2
                go_roundw
                case rel => exact ⟨k + 1, _, by omega, by go_num, rfl⟩
                case measure => simp [intOf]; omega
          · obtain rfl : L = k := by omega
            go_wp2_with (first
              | (go_at_call 10
                 refine (HL.out _ (bel_drewN HB7.out.bel q)).mono ?_
                 rintro e w9 ⟨rfl, hb9⟩)
              | go_in)
            go_ret
            exact ⟨rfl, bel_next (bel_drewN HB7.out.bel q) hb9⟩
end Go.Proofs.YtbjmakigdglghaaGreatDoor.Dd
