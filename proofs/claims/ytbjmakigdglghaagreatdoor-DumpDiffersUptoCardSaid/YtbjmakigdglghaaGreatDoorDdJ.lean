/- Same: two snapshots that read alike are alike. -/
import Derived.Test.YtbjmakigdglghaaGreatDoorDdG
import Derived.Deep.RegionHeld3
import Derived.StillTailTactics
import Derived.Test.YtbjmakigdglghaaGreatDoorDdF
set_option linter.unusedVariables false
set_option linter.unusedSimpArgs false
set_option linter.unusedSectionVars false
namespace Go.Proofs.YtbjmakigdglghaaGreatDoor.Dd
set_option linter.unusedVariables false
open Go.RowKit
attribute [local go_sem ↓] run_neq_R
attribute [local go_sem] guard67
theorem x_of {wr W9 w9 : World} (hb9 : Below W9.heap.size W9 w9) (hW : Below wr.heap.size wr W9) {p : Addr} (hp : p.block < wr.heap.size) : w9.cell? p = wr.cell? p := (hb9.cell (Nat.lt_of_lt_of_le hp hW.size)).trans (hW.cell hp)
theorem bel_drew {B : Nat} {w w' : World} (h : Below B w w') : Below B w w'.drew := ⟨h.os, h.tape, h.output, h.size, h.block⟩
theorem bel_set11 {B g : Nat} {w w' : World} (u0 u1 u2 u3 u4 u5 u6 u7 u8 u9 u10 : Value) (h : Below B w w') (hg : B ≤ g) : Below B w (((((((((((w'.setCell ⟨g, 0, none⟩ u0).setCell ⟨g, 1, none⟩ u1).setCell ⟨g, 2, none⟩ u2).setCell ⟨g, 3, none⟩ u3).setCell ⟨g, 4, none⟩ u4).setCell ⟨g, 5, none⟩ u5).setCell ⟨g, 6, none⟩ u6).setCell ⟨g, 7, none⟩ u7).setCell ⟨g, 8, none⟩ u8).setCell ⟨g, 9, none⟩ u9).setCell ⟨g, 10, none⟩ u10) :=
  ((((((((((h.setCell (p := ⟨g, 0, none⟩) hg u0).setCell (p := ⟨g, 1, none⟩) hg u1).setCell (p := ⟨g, 2, none⟩) hg u2).setCell (p := ⟨g, 3, none⟩) hg u3).setCell (p := ⟨g, 4, none⟩) hg u4).setCell (p := ⟨g, 5, none⟩) hg u5).setCell (p := ⟨g, 6, none⟩) hg u6).setCell (p := ⟨g, 7, none⟩) hg u7).setCell (p := ⟨g, 8, none⟩) hg u8).setCell (p := ⟨g, 9, none⟩) hg u9).setCell (p := ⟨g, 10, none⟩) hg u10
theorem blk_set11 {g : Nat} {w : World} (u0 u1 u2 u3 u4 u5 u6 u7 u8 u9 u10 : Value) (h : Blk w g 70 #[.string ⟨#[]⟩, .int .i64 0, .int .i64 0, .int .i64 0, .int .i64 0, .string ⟨#[]⟩, .slice none 0 0, .slice none 0 0, .int .i64 0, .int .i64 0, .slice none 0 0]) : Blk (((((((((((w.setCell ⟨g, 0, none⟩ u0).setCell ⟨g, 1, none⟩ u1).setCell ⟨g, 2, none⟩ u2).setCell ⟨g, 3, none⟩ u3).setCell ⟨g, 4, none⟩ u4).setCell ⟨g, 5, none⟩ u5).setCell ⟨g, 6, none⟩ u6).setCell ⟨g, 7, none⟩ u7).setCell ⟨g, 8, none⟩ u8).setCell ⟨g, 9, none⟩ u9).setCell ⟨g, 10, none⟩ u10) g 70 #[u0, u1, u2, u3, u4, u5, u6, u7, u8, u9, u10] := by
  have h1 : Blk (w.setCell ⟨g, 0, none⟩ u0) g 70 #[u0, .int .i64 0, .int .i64 0, .int .i64 0, .int .i64 0, .string ⟨#[]⟩, .slice none 0 0, .slice none 0 0, .int .i64 0, .int .i64 0, .slice none 0 0] := h.set_ 0 u0
  have h2 : Blk ((w.setCell ⟨g, 0, none⟩ u0).setCell ⟨g, 1, none⟩ u1) g 70 #[u0, u1, .int .i64 0, .int .i64 0, .int .i64 0, .string ⟨#[]⟩, .slice none 0 0, .slice none 0 0, .int .i64 0, .int .i64 0, .slice none 0 0] := h1.set_ 1 u1
  have h3 : Blk (((w.setCell ⟨g, 0, none⟩ u0).setCell ⟨g, 1, none⟩ u1).setCell ⟨g, 2, none⟩ u2) g 70 #[u0, u1, u2, .int .i64 0, .int .i64 0, .string ⟨#[]⟩, .slice none 0 0, .slice none 0 0, .int .i64 0, .int .i64 0, .slice none 0 0] := h2.set_ 2 u2
  have h4 : Blk ((((w.setCell ⟨g, 0, none⟩ u0).setCell ⟨g, 1, none⟩ u1).setCell ⟨g, 2, none⟩ u2).setCell ⟨g, 3, none⟩ u3) g 70 #[u0, u1, u2, u3, .int .i64 0, .string ⟨#[]⟩, .slice none 0 0, .slice none 0 0, .int .i64 0, .int .i64 0, .slice none 0 0] := h3.set_ 3 u3
  have h5 : Blk (((((w.setCell ⟨g, 0, none⟩ u0).setCell ⟨g, 1, none⟩ u1).setCell ⟨g, 2, none⟩ u2).setCell ⟨g, 3, none⟩ u3).setCell ⟨g, 4, none⟩ u4) g 70 #[u0, u1, u2, u3, u4, .string ⟨#[]⟩, .slice none 0 0, .slice none 0 0, .int .i64 0, .int .i64 0, .slice none 0 0] := h4.set_ 4 u4
  have h6 : Blk ((((((w.setCell ⟨g, 0, none⟩ u0).setCell ⟨g, 1, none⟩ u1).setCell ⟨g, 2, none⟩ u2).setCell ⟨g, 3, none⟩ u3).setCell ⟨g, 4, none⟩ u4).setCell ⟨g, 5, none⟩ u5) g 70 #[u0, u1, u2, u3, u4, u5, .slice none 0 0, .slice none 0 0, .int .i64 0, .int .i64 0, .slice none 0 0] := h5.set_ 5 u5
  have h7 : Blk (((((((w.setCell ⟨g, 0, none⟩ u0).setCell ⟨g, 1, none⟩ u1).setCell ⟨g, 2, none⟩ u2).setCell ⟨g, 3, none⟩ u3).setCell ⟨g, 4, none⟩ u4).setCell ⟨g, 5, none⟩ u5).setCell ⟨g, 6, none⟩ u6) g 70 #[u0, u1, u2, u3, u4, u5, u6, .slice none 0 0, .int .i64 0, .int .i64 0, .slice none 0 0] := h6.set_ 6 u6
  have h8 : Blk ((((((((w.setCell ⟨g, 0, none⟩ u0).setCell ⟨g, 1, none⟩ u1).setCell ⟨g, 2, none⟩ u2).setCell ⟨g, 3, none⟩ u3).setCell ⟨g, 4, none⟩ u4).setCell ⟨g, 5, none⟩ u5).setCell ⟨g, 6, none⟩ u6).setCell ⟨g, 7, none⟩ u7) g 70 #[u0, u1, u2, u3, u4, u5, u6, u7, .int .i64 0, .int .i64 0, .slice none 0 0] := h7.set_ 7 u7
  have h9 : Blk (((((((((w.setCell ⟨g, 0, none⟩ u0).setCell ⟨g, 1, none⟩ u1).setCell ⟨g, 2, none⟩ u2).setCell ⟨g, 3, none⟩ u3).setCell ⟨g, 4, none⟩ u4).setCell ⟨g, 5, none⟩ u5).setCell ⟨g, 6, none⟩ u6).setCell ⟨g, 7, none⟩ u7).setCell ⟨g, 8, none⟩ u8) g 70 #[u0, u1, u2, u3, u4, u5, u6, u7, u8, .int .i64 0, .slice none 0 0] := h8.set_ 8 u8
  have h10 : Blk ((((((((((w.setCell ⟨g, 0, none⟩ u0).setCell ⟨g, 1, none⟩ u1).setCell ⟨g, 2, none⟩ u2).setCell ⟨g, 3, none⟩ u3).setCell ⟨g, 4, none⟩ u4).setCell ⟨g, 5, none⟩ u5).setCell ⟨g, 6, none⟩ u6).setCell ⟨g, 7, none⟩ u7).setCell ⟨g, 8, none⟩ u8).setCell ⟨g, 9, none⟩ u9) g 70 #[u0, u1, u2, u3, u4, u5, u6, u7, u8, u9, .slice none 0 0] := h9.set_ 9 u9
  have h11 : Blk (((((((((((w.setCell ⟨g, 0, none⟩ u0).setCell ⟨g, 1, none⟩ u1).setCell ⟨g, 2, none⟩ u2).setCell ⟨g, 3, none⟩ u3).setCell ⟨g, 4, none⟩ u4).setCell ⟨g, 5, none⟩ u5).setCell ⟨g, 6, none⟩ u6).setCell ⟨g, 7, none⟩ u7).setCell ⟨g, 8, none⟩ u8).setCell ⟨g, 9, none⟩ u9).setCell ⟨g, 10, none⟩ u10) g 70 #[u0, u1, u2, u3, u4, u5, u6, u7, u8, u9, u10] := h10.set_ 10 u10
  exact h11
theorem blk_far11 {g g' : Nat} {w : World} {t : TypeId} {cs : Array Value} (u0 u1 u2 u3 u4 u5 u6 u7 u8 u9 u10 : Value) (h : Blk w g' t cs) (hne : g' ≠ g) : Blk (((((((((((w.setCell ⟨g, 0, none⟩ u0).setCell ⟨g, 1, none⟩ u1).setCell ⟨g, 2, none⟩ u2).setCell ⟨g, 3, none⟩ u3).setCell ⟨g, 4, none⟩ u4).setCell ⟨g, 5, none⟩ u5).setCell ⟨g, 6, none⟩ u6).setCell ⟨g, 7, none⟩ u7).setCell ⟨g, 8, none⟩ u8).setCell ⟨g, 9, none⟩ u9).setCell ⟨g, 10, none⟩ u10) g' t cs :=
  ((((((((((h.far (p := ⟨g, 0, none⟩) hne u0).far (p := ⟨g, 1, none⟩) hne u1).far (p := ⟨g, 2, none⟩) hne u2).far (p := ⟨g, 3, none⟩) hne u3).far (p := ⟨g, 4, none⟩) hne u4).far (p := ⟨g, 5, none⟩) hne u5).far (p := ⟨g, 6, none⟩) hne u6).far (p := ⟨g, 7, none⟩) hne u7).far (p := ⟨g, 8, none⟩) hne u8).far (p := ⟨g, 9, none⟩) hne u9).far (p := ⟨g, 10, none⟩) hne u10
theorem blk_two {g h : Nat} {W : World} (u0 u1 u2 u3 u4 u5 u6 u7 u8 u9 u10 v0 v1 v2 v3 v4 v5 v6 v7 v8 v9 v10 : Value) (k : Blk W g 70 #[.string ⟨#[]⟩, .int .i64 0, .int .i64 0, .int .i64 0, .int .i64 0, .string ⟨#[]⟩, .slice none 0 0, .slice none 0 0, .int .i64 0, .int .i64 0, .slice none 0 0]) (k' : Blk W h 70 #[.string ⟨#[]⟩, .int .i64 0, .int .i64 0, .int .i64 0, .int .i64 0, .string ⟨#[]⟩, .slice none 0 0, .slice none 0 0, .int .i64 0, .int .i64 0, .slice none 0 0]) (hne : g ≠ h) : Blk ((((((((((((((((((((((W.setCell ⟨g, 0, none⟩ u0).setCell ⟨g, 1, none⟩ u1).setCell ⟨g, 2, none⟩ u2).setCell ⟨g, 3, none⟩ u3).setCell ⟨g, 4, none⟩ u4).setCell ⟨g, 5, none⟩ u5).setCell ⟨g, 6, none⟩ u6).setCell ⟨g, 7, none⟩ u7).setCell ⟨g, 8, none⟩ u8).setCell ⟨g, 9, none⟩ u9).setCell ⟨g, 10, none⟩ u10).setCell ⟨h, 0, none⟩ v0).setCell ⟨h, 1, none⟩ v1).setCell ⟨h, 2, none⟩ v2).setCell ⟨h, 3, none⟩ v3).setCell ⟨h, 4, none⟩ v4).setCell ⟨h, 5, none⟩ v5).setCell ⟨h, 6, none⟩ v6).setCell ⟨h, 7, none⟩ v7).setCell ⟨h, 8, none⟩ v8).setCell ⟨h, 9, none⟩ v9).setCell ⟨h, 10, none⟩ v10) g 70 #[u0, u1, u2, u3, u4, u5, u6, u7, u8, u9, u10] ∧ Blk ((((((((((((((((((((((W.setCell ⟨g, 0, none⟩ u0).setCell ⟨g, 1, none⟩ u1).setCell ⟨g, 2, none⟩ u2).setCell ⟨g, 3, none⟩ u3).setCell ⟨g, 4, none⟩ u4).setCell ⟨g, 5, none⟩ u5).setCell ⟨g, 6, none⟩ u6).setCell ⟨g, 7, none⟩ u7).setCell ⟨g, 8, none⟩ u8).setCell ⟨g, 9, none⟩ u9).setCell ⟨g, 10, none⟩ u10).setCell ⟨h, 0, none⟩ v0).setCell ⟨h, 1, none⟩ v1).setCell ⟨h, 2, none⟩ v2).setCell ⟨h, 3, none⟩ v3).setCell ⟨h, 4, none⟩ v4).setCell ⟨h, 5, none⟩ v5).setCell ⟨h, 6, none⟩ v6).setCell ⟨h, 7, none⟩ v7).setCell ⟨h, 8, none⟩ v8).setCell ⟨h, 9, none⟩ v9).setCell ⟨h, 10, none⟩ v10) h 70 #[v0, v1, v2, v3, v4, v5, v6, v7, v8, v9, v10] :=
  ⟨blk_far11 v0 v1 v2 v3 v4 v5 v6 v7 v8 v9 v10 (blk_set11 u0 u1 u2 u3 u4 u5 u6 u7 u8 u9 u10 k) hne, blk_set11 v0 v1 v2 v3 v4 v5 v6 v7 v8 v9 v10 (blk_far11 u0 u1 u2 u3 u4 u5 u6 u7 u8 u9 u10 k' (Ne.symm hne))⟩
theorem blk_at1 (w : World) (o : Obj) (t : TypeId) (cs : Array Value) : Blk ((w.alloc o).alloc (.cells cs t)).drew (w.heap.size + 1) t cs := by
  have := Blk.new (w.alloc o) t cs
  rw [World.size_alloc] at this
  exact this
theorem blk_at0 (w : World) (o : Obj) (t : TypeId) (cs : Array Value) : Blk ((w.alloc (.cells cs t)).alloc o).drew w.heap.size t cs := (Blk.new w t cs).alloc o
theorem le_alloc (w : World) (o : Obj) : w.heap.size ≤ (w.alloc o).heap.size := by rw [World.size_alloc]; exact Nat.le_succ _
open Classical in
set_option maxRecDepth 100000 in
set_option maxHeartbeats 8000000 in
theorem same_any (w : World) (a : Sn) (ca cb : List Value) (ha : SnR w w.heap.size a ca) (hb : SnR w w.heap.size a cb) :
    Calls Tryz.prog 8 #[.agg ca.toArray, .agg cb.toArray] w fun e w' => e = .returned (.bool true) ∧ Below w.heap.size w w' := by
  obtain ⟨A, c, A', c', rfl, hc, hd⟩ := ha
  obtain ⟨A2, c2, A2', c2', rfl, hc2, hd2⟩ := hb
  obtain ⟨s, hs⟩ : ∃ q, a.s = q := ⟨_, rfl⟩
  obtain ⟨n, hn⟩ : ∃ q, a.cs.length = q := ⟨_, rfl⟩
  obtain ⟨n', hn'⟩ : ∃ q, a.ds.length = q := ⟨_, rfl⟩
  rw [hs, hn, hn']
  have m1 : n ≤ 1048576 := by rw [← hn]; exact hc.1
  have m2 : n' ≤ 1048576 := by rw [← hn']; exact hd.1
  have HN := Lib.hid hn
  have HN' := Lib.hid hn'
  have HC := Lib.hid hc
  have HC2 := Lib.hid hc2
  have HD := Lib.hid hd
  have HD2 := Lib.hid hd2
  clear hs hn hn' hc hc2 hd hd2
  go_enter Tryz.func8, Tryz.ntmps8
  go_wp2
  have hbx : Bx w ((w.alloc (.cells #[.int .i64 s, .slice A n c, .slice A' n' c'] 25)).alloc (.cells #[.int .i64 s, .slice A2 n c2, .slice A2' n' c2'] 25)) (.cells #[.int .i64 s, .slice A n c, .slice A' n' c'] 25) (.cells #[.int .i64 s, .slice A2 n c2, .slice A2' n' c2'] 25) :=
    ⟨((Below.refl _ _).alloc (Nat.le_refl _) _).alloc (by simp) _, (((Hold.nil _).cons (p := (w.heap.size, _)) (heap_alloc_new w _)).alloc _).head, by simpa using heap_alloc_new (w.alloc _) _⟩
  have HBX := Lib.hid hbx
  clear hbx
  go_loopw [5] (fun i wr => ∃ k : Nat, k ≤ n ∧ i = .int .i64 k ∧ Bx w wr (.cells #[.int .i64 s, .slice A n c, .slice A' n' c'] 25) (.cells #[.int .i64 s, .slice A2 n c2, .slice A2' n' c2'] 25)) (fun i _ => n - (intOf i).toNat)
  case atStart => exact ⟨0, Nat.zero_le _, rfl, HBX.out⟩
  case round =>
    clear HBX
    obtain ⟨k, hk, rfl, hbx⟩ := hrel
    have HBY := Lib.hid hbx
    have cA : wr.cell? ⟨w.heap.size, 1, none⟩ = some (.slice A n c) := cell_of_row wr w.heap.size 1 _ 25 (0, 0) hbx.one
    have cB : wr.cell? ⟨w.heap.size + 1, 1, none⟩ = some (.slice A2 n c2) := cell_of_row wr (w.heap.size + 1) 1 _ 25 (0, 0) hbx.two
    have hw2 : w.heap.size < wr.heap.size := lt_of_some hbx.one
    have hw3 : w.heap.size + 1 < wr.heap.size := lt_of_some hbx.two
    by_cases hlt : k < n
    · have hkl : k < a.cs.length := by have := HN.out; omega
      obtain ⟨b1, o1, cs1, rfl, hb1, hR1, hc1⟩ := HC.out.part hkl
      obtain ⟨b2, o2, cs2, rfl, hb2, hR2, hc2⟩ := HC2.out.part hkl
      obtain ⟨e1, e2, t, An, nn, cn, Ai, ni, ci, As, cs, rfl, hv1, hs1⟩ := hR1.parts2
      obtain ⟨f1, f2, u, Bn, mm, dn, Bi, mi, di, Bs, ds, rfl, hv2, hs2⟩ := hR2.parts2
      have p0 : wr.cell? ⟨b1, o1 + k * 11, none⟩ = some (.string a.cs[k].n) := (hbx.bel.cell (p := ⟨b1, _, none⟩) hb1).trans (hc1 0 _ rfl)
      have p1 : wr.cell? ⟨b1, o1 + k * 11 + 1, none⟩ = some (.int .i64 a.cs[k].c) := (hbx.bel.cell (p := ⟨b1, _, none⟩) hb1).trans (hc1 1 _ rfl)
      have p2 : wr.cell? ⟨b1, o1 + k * 11 + 2, none⟩ = some (.int .i64 a.cs[k].m) := (hbx.bel.cell (p := ⟨b1, _, none⟩) hb1).trans (hc1 2 _ rfl)
      have p3 : wr.cell? ⟨b1, o1 + k * 11 + 3, none⟩ = some (.int .i64 e1) := (hbx.bel.cell (p := ⟨b1, _, none⟩) hb1).trans (hc1 3 _ rfl)
      have p4 : wr.cell? ⟨b1, o1 + k * 11 + 4, none⟩ = some (.int .i64 e2) := (hbx.bel.cell (p := ⟨b1, _, none⟩) hb1).trans (hc1 4 _ rfl)
      have p5 : wr.cell? ⟨b1, o1 + k * 11 + 5, none⟩ = some (.string t) := (hbx.bel.cell (p := ⟨b1, _, none⟩) hb1).trans (hc1 5 _ rfl)
      have p6 : wr.cell? ⟨b1, o1 + k * 11 + 6, none⟩ = some (.slice An nn cn) := (hbx.bel.cell (p := ⟨b1, _, none⟩) hb1).trans (hc1 6 _ rfl)
      have p7 : wr.cell? ⟨b1, o1 + k * 11 + 7, none⟩ = some (.slice Ai ni ci) := (hbx.bel.cell (p := ⟨b1, _, none⟩) hb1).trans (hc1 7 _ rfl)
      have p8 : wr.cell? ⟨b1, o1 + k * 11 + 8, none⟩ = some (.int .i64 a.cs[k].a) := (hbx.bel.cell (p := ⟨b1, _, none⟩) hb1).trans (hc1 8 _ rfl)
      have p9 : wr.cell? ⟨b1, o1 + k * 11 + 9, none⟩ = some (.int .i64 a.cs[k].g) := (hbx.bel.cell (p := ⟨b1, _, none⟩) hb1).trans (hc1 9 _ rfl)
      have p10 : wr.cell? ⟨b1, o1 + k * 11 + 10, none⟩ = some (.slice As a.cs[k].ss.length cs) := (hbx.bel.cell (p := ⟨b1, _, none⟩) hb1).trans (hc1 10 _ rfl)
      have r0 : wr.cell? ⟨b2, o2 + k * 11, none⟩ = some (.string a.cs[k].n) := (hbx.bel.cell (p := ⟨b2, _, none⟩) hb2).trans (hc2 0 _ rfl)
      have r1 : wr.cell? ⟨b2, o2 + k * 11 + 1, none⟩ = some (.int .i64 a.cs[k].c) := (hbx.bel.cell (p := ⟨b2, _, none⟩) hb2).trans (hc2 1 _ rfl)
      have r2 : wr.cell? ⟨b2, o2 + k * 11 + 2, none⟩ = some (.int .i64 a.cs[k].m) := (hbx.bel.cell (p := ⟨b2, _, none⟩) hb2).trans (hc2 2 _ rfl)
      have r3 : wr.cell? ⟨b2, o2 + k * 11 + 3, none⟩ = some (.int .i64 f1) := (hbx.bel.cell (p := ⟨b2, _, none⟩) hb2).trans (hc2 3 _ rfl)
      have r4 : wr.cell? ⟨b2, o2 + k * 11 + 4, none⟩ = some (.int .i64 f2) := (hbx.bel.cell (p := ⟨b2, _, none⟩) hb2).trans (hc2 4 _ rfl)
      have r5 : wr.cell? ⟨b2, o2 + k * 11 + 5, none⟩ = some (.string u) := (hbx.bel.cell (p := ⟨b2, _, none⟩) hb2).trans (hc2 5 _ rfl)
      have r6 : wr.cell? ⟨b2, o2 + k * 11 + 6, none⟩ = some (.slice Bn mm dn) := (hbx.bel.cell (p := ⟨b2, _, none⟩) hb2).trans (hc2 6 _ rfl)
      have r7 : wr.cell? ⟨b2, o2 + k * 11 + 7, none⟩ = some (.slice Bi mi di) := (hbx.bel.cell (p := ⟨b2, _, none⟩) hb2).trans (hc2 7 _ rfl)
      have r8 : wr.cell? ⟨b2, o2 + k * 11 + 8, none⟩ = some (.int .i64 a.cs[k].a) := (hbx.bel.cell (p := ⟨b2, _, none⟩) hb2).trans (hc2 8 _ rfl)
      have r9 : wr.cell? ⟨b2, o2 + k * 11 + 9, none⟩ = some (.int .i64 a.cs[k].g) := (hbx.bel.cell (p := ⟨b2, _, none⟩) hb2).trans (hc2 9 _ rfl)
      have r10 : wr.cell? ⟨b2, o2 + k * 11 + 10, none⟩ = some (.slice Bs a.cs[k].ss.length ds) := (hbx.bel.cell (p := ⟨b2, _, none⟩) hb2).trans (hc2 10 _ rfl)
      obtain ⟨x, hx⟩ : ∃ x, a.cs[k] = x := ⟨_, rfl⟩
      rw [hx] at hv1 hv2 hs1 hs2 p0 p1 p2 p8 p9 p10 r0 r1 r2 r8 r9 r10
      have HV1 := Lib.hid hv1
      have HV2 := Lib.hid hv2
      have HS1 := Lib.hid hs1
      have HS2 := Lib.hid hs2
      obtain ⟨xn, hxn⟩ : ∃ q, x.n = q := ⟨_, rfl⟩
      obtain ⟨xc, hxc⟩ : ∃ q, x.c = q := ⟨_, rfl⟩
      obtain ⟨xm, hxm⟩ : ∃ q, x.m = q := ⟨_, rfl⟩
      obtain ⟨xa, hxa⟩ : ∃ q, x.a = q := ⟨_, rfl⟩
      obtain ⟨xg, hxg⟩ : ∃ q, x.g = q := ⟨_, rfl⟩
      obtain ⟨ls, hls⟩ : ∃ q, x.ss.length = q := ⟨_, rfl⟩
      rw [hxn] at p0 r0
      rw [hxc] at p1 r1
      rw [hxm] at p2 r2
      rw [hxa] at p8 r8
      rw [hxg] at p9 r9
      rw [hls] at p10 r10
      have HLS := Lib.hid hls
      have hb3 : b1 < wr.heap.size := Nat.lt_of_lt_of_le hb1 hbx.bel.size
      have hb4 : b2 < wr.heap.size := Nat.lt_of_lt_of_le hb2 hbx.bel.size
      clear hx hxn hxc hxm hxa hxg hls hv1 hv2 hs1 hs2 hR1 hR2 hc1 hc2 hb1 hb2 hbx
      have sof : ∀ wx, Below wr.heap.size wr wx → (wx.cell? ⟨w.heap.size, 1, none⟩ = some (.slice (some ⟨b1, o1, none⟩) n c) ∧ wx.cell? ⟨w.heap.size + 1, 1, none⟩ = some (.slice (some ⟨b2, o2, none⟩) n c2) ∧ wx.cell? ⟨b1, o1 + k * 11, none⟩ = some (.string xn) ∧ wx.cell? ⟨b1, o1 + k * 11 + 1, none⟩ = some (.int .i64 xc) ∧ wx.cell? ⟨b1, o1 + k * 11 + 2, none⟩ = some (.int .i64 xm) ∧ wx.cell? ⟨b1, o1 + k * 11 + 3, none⟩ = some (.int .i64 e1) ∧ wx.cell? ⟨b1, o1 + k * 11 + 4, none⟩ = some (.int .i64 e2) ∧ wx.cell? ⟨b1, o1 + k * 11 + 5, none⟩ = some (.string t) ∧ wx.cell? ⟨b1, o1 + k * 11 + 6, none⟩ = some (.slice An nn cn) ∧ wx.cell? ⟨b1, o1 + k * 11 + 7, none⟩ = some (.slice Ai ni ci) ∧ wx.cell? ⟨b1, o1 + k * 11 + 8, none⟩ = some (.int .i64 xa) ∧ wx.cell? ⟨b1, o1 + k * 11 + 9, none⟩ = some (.int .i64 xg) ∧ wx.cell? ⟨b1, o1 + k * 11 + 10, none⟩ = some (.slice As ls cs) ∧ wx.cell? ⟨b2, o2 + k * 11, none⟩ = some (.string xn) ∧ wx.cell? ⟨b2, o2 + k * 11 + 1, none⟩ = some (.int .i64 xc) ∧ wx.cell? ⟨b2, o2 + k * 11 + 2, none⟩ = some (.int .i64 xm) ∧ wx.cell? ⟨b2, o2 + k * 11 + 3, none⟩ = some (.int .i64 f1) ∧ wx.cell? ⟨b2, o2 + k * 11 + 4, none⟩ = some (.int .i64 f2) ∧ wx.cell? ⟨b2, o2 + k * 11 + 5, none⟩ = some (.string u) ∧ wx.cell? ⟨b2, o2 + k * 11 + 6, none⟩ = some (.slice Bn mm dn) ∧ wx.cell? ⟨b2, o2 + k * 11 + 7, none⟩ = some (.slice Bi mi di) ∧ wx.cell? ⟨b2, o2 + k * 11 + 8, none⟩ = some (.int .i64 xa) ∧ wx.cell? ⟨b2, o2 + k * 11 + 9, none⟩ = some (.int .i64 xg) ∧ wx.cell? ⟨b2, o2 + k * 11 + 10, none⟩ = some (.slice Bs ls ds)) := fun wx h => ⟨(h.cell (p := ⟨_, _, none⟩) hw2).trans cA, (h.cell (p := ⟨_, _, none⟩) hw3).trans cB, (h.cell (p := ⟨b1, _, none⟩) hb3).trans p0, (h.cell (p := ⟨b1, _, none⟩) hb3).trans p1, (h.cell (p := ⟨b1, _, none⟩) hb3).trans p2, (h.cell (p := ⟨b1, _, none⟩) hb3).trans p3, (h.cell (p := ⟨b1, _, none⟩) hb3).trans p4, (h.cell (p := ⟨b1, _, none⟩) hb3).trans p5, (h.cell (p := ⟨b1, _, none⟩) hb3).trans p6, (h.cell (p := ⟨b1, _, none⟩) hb3).trans p7, (h.cell (p := ⟨b1, _, none⟩) hb3).trans p8, (h.cell (p := ⟨b1, _, none⟩) hb3).trans p9, (h.cell (p := ⟨b1, _, none⟩) hb3).trans p10, (h.cell (p := ⟨b2, _, none⟩) hb4).trans r0, (h.cell (p := ⟨b2, _, none⟩) hb4).trans r1, (h.cell (p := ⟨b2, _, none⟩) hb4).trans r2, (h.cell (p := ⟨b2, _, none⟩) hb4).trans r3, (h.cell (p := ⟨b2, _, none⟩) hb4).trans r4, (h.cell (p := ⟨b2, _, none⟩) hb4).trans r5, (h.cell (p := ⟨b2, _, none⟩) hb4).trans r6, (h.cell (p := ⟨b2, _, none⟩) hb4).trans r7, (h.cell (p := ⟨b2, _, none⟩) hb4).trans r8, (h.cell (p := ⟨b2, _, none⟩) hb4).trans r9, (h.cell (p := ⟨b2, _, none⟩) hb4).trans r10⟩
      have SOF := Lib.hid sof
      clear sof
      have D0 := Lib.hid (bel_drew (Below.refl wr.heap.size wr))
      have D1 := Lib.hid (bel_drew ((Below.refl wr.heap.size wr).alloc (Nat.le_refl _) (.cells #[.string ⟨#[]⟩, .int .i64 0, .int .i64 0, .int .i64 0, .int .i64 0, .string ⟨#[]⟩, .slice none 0 0, .slice none 0 0, .int .i64 0, .int .i64 0, .slice none 0 0] 70)))
      have D2 := Lib.hid (bel_drew (((Below.refl wr.heap.size wr).alloc (Nat.le_refl _) (.cells #[.string ⟨#[]⟩, .int .i64 0, .int .i64 0, .int .i64 0, .int .i64 0, .string ⟨#[]⟩, .slice none 0 0, .slice none 0 0, .int .i64 0, .int .i64 0, .slice none 0 0] 70)).alloc (by simp) (.cells #[.string ⟨#[]⟩, .int .i64 0, .int .i64 0, .int .i64 0, .int .i64 0, .string ⟨#[]⟩, .slice none 0 0, .slice none 0 0, .int .i64 0, .int .i64 0, .slice none 0 0] 70)))
      have BA0 := Lib.hid (blk_at0 wr (.cells #[.string ⟨#[]⟩, .int .i64 0, .int .i64 0, .int .i64 0, .int .i64 0, .string ⟨#[]⟩, .slice none 0 0, .slice none 0 0, .int .i64 0, .int .i64 0, .slice none 0 0] 70) 70 #[.string ⟨#[]⟩, .int .i64 0, .int .i64 0, .int .i64 0, .int .i64 0, .string ⟨#[]⟩, .slice none 0 0, .slice none 0 0, .int .i64 0, .int .i64 0, .slice none 0 0])
      have BA1 := Lib.hid (blk_at1 wr (.cells #[.string ⟨#[]⟩, .int .i64 0, .int .i64 0, .int .i64 0, .int .i64 0, .string ⟨#[]⟩, .slice none 0 0, .slice none 0 0, .int .i64 0, .int .i64 0, .slice none 0 0] 70) 70 #[.string ⟨#[]⟩, .int .i64 0, .int .i64 0, .int .i64 0, .int .i64 0, .string ⟨#[]⟩, .slice none 0 0, .slice none 0 0, .int .i64 0, .int .i64 0, .slice none 0 0])
      have NE01 : Hid (wr.heap.size ≠ wr.heap.size + 1) := Lib.hid (by omega)
      have NE10 : Hid (wr.heap.size + 1 ≠ wr.heap.size) := Lib.hid (by omega)
      go_upto_region 6 with fail
      go_cut [6, 7] (fun p q wz => ∃ gx gy, p = .pointer (some ⟨gx, 0, none⟩) ∧ q = .pointer (some ⟨gy, 0, none⟩) ∧ Blk wz gx 70 #[.string xn, .int .i64 xc, .int .i64 xm, .int .i64 e1, .int .i64 e2, .string t, .slice An nn cn, .slice Ai ni ci, .int .i64 xa, .int .i64 xg, .slice As ls cs] ∧ Blk wz gy 70 #[.string xn, .int .i64 xc, .int .i64 xm, .int .i64 f1, .int .i64 f2, .string u, .slice Bn mm dn, .slice Bi mi di, .int .i64 xa, .int .i64 xg, .slice Bs ls ds] ∧ Below wr.heap.size wr wz)
      case first =>
        as_aux_lemma =>
          go_region_held3 (fun wx => wx.cell? ⟨w.heap.size, 1, none⟩ = some (.slice (some ⟨b1, o1, none⟩) n c) ∧ wx.cell? ⟨w.heap.size + 1, 1, none⟩ = some (.slice (some ⟨b2, o2, none⟩) n c2) ∧ wx.cell? ⟨b1, o1 + k * 11, none⟩ = some (.string xn) ∧ wx.cell? ⟨b1, o1 + k * 11 + 1, none⟩ = some (.int .i64 xc) ∧ wx.cell? ⟨b1, o1 + k * 11 + 2, none⟩ = some (.int .i64 xm) ∧ wx.cell? ⟨b1, o1 + k * 11 + 3, none⟩ = some (.int .i64 e1) ∧ wx.cell? ⟨b1, o1 + k * 11 + 4, none⟩ = some (.int .i64 e2) ∧ wx.cell? ⟨b1, o1 + k * 11 + 5, none⟩ = some (.string t) ∧ wx.cell? ⟨b1, o1 + k * 11 + 6, none⟩ = some (.slice An nn cn) ∧ wx.cell? ⟨b1, o1 + k * 11 + 7, none⟩ = some (.slice Ai ni ci) ∧ wx.cell? ⟨b1, o1 + k * 11 + 8, none⟩ = some (.int .i64 xa) ∧ wx.cell? ⟨b1, o1 + k * 11 + 9, none⟩ = some (.int .i64 xg) ∧ wx.cell? ⟨b1, o1 + k * 11 + 10, none⟩ = some (.slice As ls cs) ∧ wx.cell? ⟨b2, o2 + k * 11, none⟩ = some (.string xn) ∧ wx.cell? ⟨b2, o2 + k * 11 + 1, none⟩ = some (.int .i64 xc) ∧ wx.cell? ⟨b2, o2 + k * 11 + 2, none⟩ = some (.int .i64 xm) ∧ wx.cell? ⟨b2, o2 + k * 11 + 3, none⟩ = some (.int .i64 f1) ∧ wx.cell? ⟨b2, o2 + k * 11 + 4, none⟩ = some (.int .i64 f2) ∧ wx.cell? ⟨b2, o2 + k * 11 + 5, none⟩ = some (.string u) ∧ wx.cell? ⟨b2, o2 + k * 11 + 6, none⟩ = some (.slice Bn mm dn) ∧ wx.cell? ⟨b2, o2 + k * 11 + 7, none⟩ = some (.slice Bi mi di) ∧ wx.cell? ⟨b2, o2 + k * 11 + 8, none⟩ = some (.int .i64 xa) ∧ wx.cell? ⟨b2, o2 + k * 11 + 9, none⟩ = some (.int .i64 xg) ∧ wx.cell? ⟨b2, o2 + k * 11 + 10, none⟩ = some (.slice Bs ls ds))
            (first
              | (with_reducible exact SOF.out _ D0.out)
              | (with_reducible exact SOF.out _ D1.out)
              | (with_reducible exact SOF.out _ D2.out)
              | (with_reducible exact SOF.out _ (bel_set11 _ _ _ _ _ _ _ _ _ _ _ D2.out (Nat.le_refl _)))
              | (with_reducible exact SOF.out _ (bel_set11 _ _ _ _ _ _ _ _ _ _ _ D2.out (Nat.le_succ _)))
              | (with_reducible exact SOF.out _ (bel_set11 _ _ _ _ _ _ _ _ _ _ _ (bel_set11 _ _ _ _ _ _ _ _ _ _ _ D2.out (Nat.le_refl _)) (Nat.le_succ _)))
              | (with_reducible exact SOF.out _ (bel_set11 _ _ _ _ _ _ _ _ _ _ _ (bel_set11 _ _ _ _ _ _ _ _ _ _ _ D2.out (Nat.le_succ _)) (Nat.le_refl _)))
              | go_keep)
            (fail)
          all_goals (go_wp2_with fail; go_meet)
          all_goals first
            | (with_reducible exact ⟨_, _, rfl, rfl, blk_at0 _ _ _ _, blk_at1 _ _ _ _, bel_drew (((Below.refl _ _).alloc (Nat.le_refl _) _).alloc (le_alloc _ _) _)⟩)
            | (with_reducible exact ⟨_, _, rfl, rfl, blk_at1 _ _ _ _, blk_at0 _ _ _ _, bel_drew (((Below.refl _ _).alloc (Nat.le_refl _) _).alloc (le_alloc _ _) _)⟩)
      case rest =>
        obtain ⟨gx, gy, rfl, rfl, hX, hY, hbz⟩ := hcut
        obtain ⟨wz, hZ⟩ : ∃ q, wc = q := ⟨_, rfl⟩
        rw [hZ] at hX hY hbz ⊢
        clear hZ p0 p1 p2 p3 p4 p5 p6 p7 p8 p9 p10 r0 r1 r2 r3 r4 r5 r6 r7 r8 r9 r10 cA cB D0 D1 D2 BA0 BA1 NE01 NE10 SOF
        have HBZ := Lib.hid hbz
        have HXX : Hid (decide (x.v = x.v) = true) := Lib.hid (decide_eq_true rfl)
        have HSS : Hid (decide (x.ss = x.ss) = true) := Lib.hid (decide_eq_true rfl)
        have hrr : eqR xa xg xa xg = true := by simp [eqR]
        have x0 := hX.cell 0
        have y0 := hY.cell 0
        have x1 := hX.cell 1
        have y1 := hY.cell 1
        have x2 := hX.cell 2
        have y2 := hY.cell 2
        have x3 := hX.cell 3
        have y3 := hY.cell 3
        have x4 := hX.cell 4
        have y4 := hY.cell 4
        have x5 := hX.cell 5
        have y5 := hY.cell 5
        have x6 := hX.cell 6
        have y6 := hY.cell 6
        have x7 := hX.cell 7
        have y7 := hY.cell 7
        have x8 := hX.cell 8
        have y8 := hY.cell 8
        have x9 := hX.cell 9
        have y9 := hY.cell 9
        have x10 := hX.cell 10
        have y10 := hY.cell 10
        have HWZ := Lib.hid (bel_next HBY.out.bel HBZ.out)
        have HX := Lib.hid hX
        have HY := Lib.hid hY
        clear hX hY
        go_wp2_with (first
          | (go_at_call 22
             refine (refEqual_any x.v x.v _ _ _ ((HV1.out.below HWZ.out).more HWZ.out.size) ((HV2.out.below HWZ.out).more HWZ.out.size)).mono ?_
             rintro e w9 ⟨rfl, hb9⟩
             have x10' := (hb9.cell (p := ⟨gx, 10, none⟩) HX.out.lt).trans x10
             have y10' := (hb9.cell (p := ⟨gy, 10, none⟩) HY.out.lt).trans y10
             rw [HXX.out])
          | (go_at_call 23
             refine (refSpecs _ _ _ _ _ _ _ x.ss x.ss HLS.out HLS.out (Lst.at_ HS1.out (bel_next HWZ.out hb9)) (Lst.at_ HS2.out (bel_next HWZ.out hb9))).mono ?_
             rintro e w10 ⟨rfl, jj, rfl⟩
             rw [@decide_eq_true _ _ (rfl : x.ss = x.ss)])
          | go_in)
        go_roundw
        case rel => exact ⟨k + 1, by omega, by go_num, (HBY.out.next HBZ.out).next (bel_drewN hb9 jj)⟩
        case measure => simp [intOf]; omega
    · obtain rfl : n = k := by omega
      go_wp2
      clear cA cB hw2 hw3 hbx
      have HBX := Lib.hid HBY.out
      clear HBY
      go_loopw [8] (fun i wr => ∃ k : Nat, k ≤ n' ∧ i = .int .i64 k ∧ Bx w wr (.cells #[.int .i64 s, .slice A n c, .slice A' n' c'] 25) (.cells #[.int .i64 s, .slice A2 n c2, .slice A2' n' c2'] 25)) (fun i _ => n' - (intOf i).toNat)
      case atStart => exact ⟨0, Nat.zero_le _, rfl, HBX.out⟩
      case round =>
        clear HBX
        obtain ⟨k, hk, rfl, hbx⟩ := hrel
        have HBY := Lib.hid hbx
        have cA : wr.cell? ⟨w.heap.size, 2, none⟩ = some (.slice A' n' c') := cell_of_row wr w.heap.size 2 _ 25 (0, 0) hbx.one
        have cB : wr.cell? ⟨w.heap.size + 1, 2, none⟩ = some (.slice A2' n' c2') := cell_of_row wr (w.heap.size + 1) 2 _ 25 (0, 0) hbx.two
        by_cases hlt : k < n'
        · have hkl : k < a.ds.length := by have := HN'.out; omega
          obtain ⟨b1, o1, cs1, rfl, hb1, hR1, hc1⟩ := HD.out.part hkl
          obtain ⟨b2, o2, cs2, rfl, hb2, hR2, hc2⟩ := HD2.out.part hkl
          have HR1 := Lib.hid hR1
          have HR2 := Lib.hid hR2
          obtain ⟨e1, e2, t, An, nn, cn, Ai, ni, ci, rfl, hv1⟩ := hR1.parts2
          obtain ⟨f1, f2, u, Bn, mm, dn, Bi, mi, di, rfl, hv2⟩ := hR2.parts2
          have p0 : wr.cell? ⟨b1, o1 + k * 7, none⟩ = some (.string a.ds[k].k) := (hbx.bel.cell (p := ⟨b1, _, none⟩) hb1).trans (hc1 0 _ rfl)
          have p1 := (hbx.bel.cell (p := ⟨b1, _, none⟩) hb1).trans (hc1 1 _ rfl)
          have p2 := (hbx.bel.cell (p := ⟨b1, _, none⟩) hb1).trans (hc1 2 _ rfl)
          have p3 := (hbx.bel.cell (p := ⟨b1, _, none⟩) hb1).trans (hc1 3 _ rfl)
          have p4 := (hbx.bel.cell (p := ⟨b1, _, none⟩) hb1).trans (hc1 4 _ rfl)
          have p5 := (hbx.bel.cell (p := ⟨b1, _, none⟩) hb1).trans (hc1 5 _ rfl)
          have p6 := (hbx.bel.cell (p := ⟨b1, _, none⟩) hb1).trans (hc1 6 _ rfl)
          have r0 : wr.cell? ⟨b2, o2 + k * 7, none⟩ = some (.string a.ds[k].k) := (hbx.bel.cell (p := ⟨b2, _, none⟩) hb2).trans (hc2 0 _ rfl)
          have r1 := (hbx.bel.cell (p := ⟨b2, _, none⟩) hb2).trans (hc2 1 _ rfl)
          have r2 := (hbx.bel.cell (p := ⟨b2, _, none⟩) hb2).trans (hc2 2 _ rfl)
          have r3 := (hbx.bel.cell (p := ⟨b2, _, none⟩) hb2).trans (hc2 3 _ rfl)
          have r4 := (hbx.bel.cell (p := ⟨b2, _, none⟩) hb2).trans (hc2 4 _ rfl)
          have r5 := (hbx.bel.cell (p := ⟨b2, _, none⟩) hb2).trans (hc2 5 _ rfl)
          have r6 := (hbx.bel.cell (p := ⟨b2, _, none⟩) hb2).trans (hc2 6 _ rfl)
          obtain ⟨x, hx⟩ : ∃ x, a.ds[k] = x := ⟨_, rfl⟩
          rw [hx] at HR1 HR2 p0 p1 r0 r1
          have HBW := Lib.hid (bel_drew hbx.bel)
          clear hx hR1 hR2 hv1 hv2 hc1 hc2 hb1 hb2 hbx
          go_upto_region 12 with fail
          go_still_tail 10, (by kernel_rfl)
          change wpList _ _ _ _ _ wr.drew
          go_wp2_with (first
            | (go_at_call 24
               refine (itemSame _ x _ _ ((HR1.out.keep HBW.out.size (fun p hp => HBW.out.cell hp))) ((HR2.out.keep HBW.out.size (fun p hp => HBW.out.cell hp)))).mono ?_
               rintro e w9 ⟨rfl, hb9⟩)
            | go_in)
          go_roundw
          case rel => exact ⟨k + 1, by omega, by go_num, HBY.out.next (bel_next (bel_drewN (Below.refl _ _) 1) hb9)⟩
          case measure => simp [intOf]; omega
        · obtain rfl : n' = k := by omega
          go_wp2
          go_ret
          exact ⟨rfl, HBY.out.bel⟩
end Go.Proofs.YtbjmakigdglghaaGreatDoor.Dd
namespace Go.Proofs.YtbjmakigdglghaaGreatDoor.Dd
set_option linter.unusedVariables false
theorem uni_congr {l l' : List ByteArray} (h : ∀ x, x ∈ l ↔ x ∈ l') : uni l = uni l' := by
  unfold uni
  refine sort_of_perm ?_
  rw [List.perm_ext_iff_of_nodup (nodup_eraseDups _) (nodup_eraseDups _)]
  intro k
  rw [List.mem_eraseDups, List.mem_eraseDups, List.mem_map, List.mem_map]
  constructor <;> rintro ⟨x, hx, rfl⟩
  · exact ⟨x, (h x).1 hx, rfl⟩
  · exact ⟨x, (h x).2 hx, rfl⟩
def kswap (k : Int) : Int := if k = 3 ∨ k = 4 then 7 - k else k
def swap (d : D) : D := ⟨kswap d.k, d.s⟩
open Classical in
theorem dC_swap (a b : List C) (s : ByteArray) : dC b a s = (dC a b s).map swap := by
  unfold dC
  cases fnd (fun x : C => x.n) a s with
  | none => cases fnd (fun x : C => x.n) b s <;> simp [swap, kswap]
  | some x =>
    cases fnd (fun x : C => x.n) b s with
    | none => simp [swap, kswap]
    | some y =>
      simp only []
      by_cases h : x.m = y.m ∧ x.v = y.v
      · rw [if_pos h, if_pos ⟨h.1.symm, h.2.symm⟩]
        by_cases k : x.ss = y.ss
        · rw [if_pos k, if_pos k.symm]; rfl
        · rw [if_neg k, if_neg (Ne.symm k)]; simp [swap, kswap]
      · rw [if_neg h, if_neg (fun e => h ⟨e.1.symm, e.2.symm⟩)]; simp [swap, kswap]
open Classical in
theorem dI_swap (a b : List I) (s : ByteArray) (hs : fnd (fun x : I => x.k) a s = none → fnd (fun x : I => x.k) b s ≠ none) : dI b a s = (dI a b s).map swap := by
  unfold dI
  cases ha : fnd (fun x : I => x.k) a s with
  | none =>
    cases hb : fnd (fun x : I => x.k) b s with
    | none => exact absurd hb (hs ha)
    | some y => simp [swap, kswap]
  | some x =>
    cases fnd (fun x : I => x.k) b s with
    | none => simp [swap, kswap]
    | some y =>
      simp only []
      by_cases h : x.v = y.v
      · rw [if_pos h, if_pos h.symm]; rfl
      · rw [if_neg h, if_neg (Ne.symm h)]; simp [swap, kswap]
theorem filterMap_map {α β : Type} (f g : α → Option β) (k : β → β) : ∀ (l : List α), (∀ x ∈ l, g x = (f x).map k) → l.filterMap g = (l.filterMap f).map k
  | [], _ => rfl
  | x :: l, h => by
    rw [List.filterMap_cons, List.filterMap_cons, h x (by simp), filterMap_map f g k l fun y hy => h y (by simp [hy])]
    cases f x <;> rfl
theorem mem_names {l : List ByteArray} {s : ByteArray} (h : s ∈ (uni l).map ub) : s ∈ l := by
  obtain ⟨k, hk, rfl⟩ := List.mem_map.1 h
  rw [mem_uni] at hk
  obtain ⟨x, hx, rfl⟩ := List.mem_map.1 hk
  rwa [ub_bk]
theorem fnd_named {α : Type} {key : α → ByteArray} {l : List α} {s : ByteArray} (h : s ∈ l.map key) : fnd key l s ≠ none := by
  unfold fnd
  intro hn
  rw [List.find?_eq_none] at hn
  obtain ⟨x, hx, rfl⟩ := List.mem_map.1 h
  simpa using hn x hx
theorem differ_swap (a b : Sn) : differ b a = (differ a b).map swap := by
  unfold differ
  rw [List.map_append]
  congr 1
  · rw [uni_congr (l := b.cs.map (·.n) ++ a.cs.map (·.n)) (l' := a.cs.map (·.n) ++ b.cs.map (·.n)) (fun x => by simp only [List.mem_append]; exact Or.comm)]
    exact filterMap_map _ _ _ _ fun x _ => dC_swap a.cs b.cs x
  · rw [uni_congr (l := b.ds.map (·.k) ++ a.ds.map (·.k)) (l' := a.ds.map (·.k) ++ b.ds.map (·.k)) (fun x => by simp only [List.mem_append]; exact Or.comm)]
    refine filterMap_map _ _ _ _ fun x hx => dI_swap a.ds b.ds x fun ha => ?_
    rcases List.mem_append.1 (mem_names hx) with h | h
    · exact absurd ha (fnd_named h)
    · exact fnd_named h
open Classical in
theorem differ_self (a : Sn) : differ a a = [] := by
  unfold differ
  rw [List.append_eq_nil_iff]
  constructor
  · rw [List.filterMap_eq_nil_iff]
    intro s hs
    have hn := fnd_named (key := fun x : C => x.n) (l := a.cs) (s := s) (by have := mem_names hs; simpa using this)
    unfold dC
    cases h : fnd (fun x : C => x.n) a.cs s with
    | none => exact absurd h hn
    | some x => simp
  · rw [List.filterMap_eq_nil_iff]
    intro s hs
    have hn := fnd_named (key := fun x : I => x.k) (l := a.ds) (s := s) (by have := mem_names hs; simpa using this)
    unfold dI
    cases h : fnd (fun x : I => x.k) a.ds s with
    | none => exact absurd h hn
    | some x => simp
end Go.Proofs.YtbjmakigdglghaaGreatDoor.Dd
