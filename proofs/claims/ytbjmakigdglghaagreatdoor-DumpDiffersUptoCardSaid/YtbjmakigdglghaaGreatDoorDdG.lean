/- Same: alike snapshots are alike. -/
import Derived.Test.YtbjmakigdglghaaGreatDoorDdF
set_option linter.unusedVariables false
set_option linter.unusedSimpArgs false
set_option linter.unusedSectionVars false
namespace Go.Proofs.YtbjmakigdglghaaGreatDoor.Dd
set_option linter.unusedVariables false
open Go.RowKit
section
variable {w : World} {B : Nat}
theorem CR.parts2 {x : C} {cs : List Value} (h : CR w B x cs) : ∃ e1 e2 t An nn cn Ai ni ci A c, cs = [.string x.n, .int .i64 x.c, .int .i64 x.m, .int .i64 e1, .int .i64 e2, .string t, .slice An nn cn, .slice Ai ni ci, .int .i64 x.a, .int .i64 x.g, .slice A x.ss.length c] ∧
    x.v.At w B [.int .i64 e1, .int .i64 e2, .string t, .slice An nn cn, .slice Ai ni ci] ∧ Lst 3 SR w B A x.ss := by
  obtain ⟨vs, A, c, rfl, hv, hs⟩ := h
  obtain ⟨e1, e2, t, An, nn, cn, Ai, ni, ci, rfl⟩ := hv.form
  exact ⟨e1, e2, t, An, nn, cn, Ai, ni, ci, A, c, rfl, hv, hs⟩
theorem IR.parts2 {x : I} {cs : List Value} (h : IR w B x cs) : ∃ e1 e2 t An nn cn Ai ni ci, cs = [.string x.k, .int .i64 x.n, .int .i64 e1, .int .i64 e2, .string t, .slice An nn cn, .slice Ai ni ci] ∧
    x.v.At w B [.int .i64 e1, .int .i64 e2, .string t, .slice An nn cn, .slice Ai ni ci] := by
  obtain ⟨vs, rfl, hv⟩ := h
  obtain ⟨e1, e2, t, An, nn, cn, Ai, ni, ci, rfl⟩ := hv.form
  exact ⟨e1, e2, t, An, nn, cn, Ai, ni, ci, rfl, hv⟩
end
theorem Lst.part {α : Type} {n : Nat} {R : α → List Value → Prop} {w : World} {B : Nat} {A : Option Addr} {l : List α} (h : Lst n R w B A l) {k : Nat} (hk : k < l.length) :
    ∃ b off cs, A = some ⟨b, off, none⟩ ∧ b < B ∧ R l[k] cs ∧ CellsAt w b (off + k * n) cs := by
  obtain ⟨b, off, e, hb, hc⟩ := h.2 (by omega)
  obtain ⟨cs, _, h2, h3⟩ := hc k hk
  exact ⟨b, off, cs, e, hb, h3, h2⟩
open Classical in
set_option maxRecDepth 100000 in
set_option maxHeartbeats 4000000 in
theorem itemSame (w : World) (x : I) (cs cs' : List Value) (h : IR w w.heap.size x cs) (h' : IR w w.heap.size x cs') :
    Calls Tryz.prog 24 #[.agg cs.toArray, .agg cs'.toArray] w fun e w' => e = .returned (.bool true) ∧ Below w.heap.size w w' := by
  obtain ⟨e1, e2, t, An, nn, cn, Ai, ni, ci, rfl, hv⟩ := h.parts2
  obtain ⟨f1, f2, u, Bn, mm, dn, Bi, mi, di, rfl, hv'⟩ := h'.parts2
  obtain ⟨k, hk⟩ : ∃ q, x.k = q := ⟨_, rfl⟩
  obtain ⟨n, hn⟩ : ∃ q, x.n = q := ⟨_, rfl⟩
  rw [hk, hn]
  have HV := Lib.hid hv
  have HV' := Lib.hid hv'
  have HXX : Hid (decide (x.v = x.v) = true) := Lib.hid (decide_eq_true rfl)
  clear hk hn hv hv' h h'
  have hb : Below w.heap.size w ((w.alloc (.cells #[.string k, .int .i64 n, .int .i64 e1, .int .i64 e2, .string t, .slice An nn cn, .slice Ai ni ci] 75)).alloc (.cells #[.string k, .int .i64 n, .int .i64 f1, .int .i64 f2, .string u, .slice Bn mm dn, .slice Bi mi di] 75)) := ((Below.refl _ _).alloc (Nat.le_refl _) _).alloc (by simp) _
  have HB := Lib.hid hb
  clear hb
  go_enter Tryz.func24, Tryz.ntmps24
  go_wp2_with (first
    | (go_at_call 22
       refine (refEqual_any x.v x.v _ _ _ ((HV.out.below HB.out).more HB.out.size) ((HV'.out.below HB.out).more HB.out.size)).mono ?_
       rintro e w9 ⟨rfl, hb9⟩
       rw [HXX.out])
    | go_in)
  go_ret
  exact ⟨rfl, bel_next HB.out hb9⟩
end Go.Proofs.YtbjmakigdglghaaGreatDoor.Dd
namespace Go.Proofs.YtbjmakigdglghaaGreatDoor.Dd
set_option linter.unusedVariables false
open Go.RowKit
set_option maxRecDepth 100000 in
set_option maxHeartbeats 4000000 in
theorem parts (m : Nat) : ∀ (x : V) (cs : List Value) (w : World) (most : Int), SizeOf.sizeOf x < m → x.At w w.heap.size cs →
    Calls Tryz.prog 26 #[.agg cs.toArray, .int .i64 most] w fun e w' => (∃ z, e = .returned (.int .i64 z)) ∧ Below w.heap.size w w' := by
  induction m with
  | zero => intro x cs w most h; omega
  | succ m ih =>
    rintro ⟨k, i, t, ns, xs⟩ cs w most hsz hx
    rw [V.at_mk] at hx
    obtain ⟨An, cn, Ai, ci, rfl, hns, hxs⟩ := hx
    have hxl : ∀ j (h : j < xs.length), SizeOf.sizeOf xs[j] < m := fun j h => by
      have := V.sizeOf_at h
      simp only [V.mk.sizeOf_spec] at hsz
      omega
    have HXL := Lib.hid hxl
    have HIH := Lib.hid ih
    obtain ⟨nn, hnn⟩ : ∃ n, ns.length = n := ⟨_, rfl⟩
    obtain ⟨ni, hni⟩ : ∃ n, xs.length = n := ⟨_, rfl⟩
    rw [hnn, hni]
    have b1 := hns.1
    have b3 := hxs.1
    rw [hnn] at b1
    rw [hni] at b3
    have HNI := Lib.hid hni
    have HXS := Lib.hid hxs
    clear hsz hxl ih hns hxs hnn hni
    go_enter Tryz.func26, Tryz.ntmps26
    go_wp2
    have hB := Blk.new w 60 #[.int .i64 k, .int .i64 i, .string t, .slice An nn cn, .slice Ai ni ci]
    have hb0 := (Below.refl w.heap.size w).alloc (Nat.le_refl _) (.cells #[.int .i64 k, .int .i64 i, .string t, .slice An nn cn, .slice Ai ni ci] 60)
    obtain ⟨w1, hw1⟩ : ∃ w1, w.alloc (.cells #[.int .i64 k, .int .i64 i, .string t, .slice An nn cn, .slice Ai ni ci] 60) = w1 := ⟨_, rfl⟩
    rw [hw1] at hB hb0 ⊢
    clear hw1
    go_loopw [5, 6] (fun v ix wr => ∃ (k0 : Nat) (z : Int), k0 ≤ ni ∧ ix = .int .i64 k0 ∧ v = .int .i64 z ∧ Below w.heap.size w wr ∧ Blk wr w.heap.size 60 #[.int .i64 k, .int .i64 i, .string t, .slice An nn cn, .slice Ai ni ci]) (fun _ i _ => ni - (intOf i).toNat)
    case atStart => exact ⟨0, _, Nat.zero_le _, rfl, rfl, hb0, hB⟩
    case round =>
      clear hB hb0
      obtain ⟨q, z, hq, rfl, rfl, hbel, hblk⟩ := hrel
      have c4 : wr.cell? ⟨w.heap.size, 4, none⟩ = some (.slice Ai ni ci) := hblk.cell 4
      have HBE := Lib.hid hbel
      have HBK := Lib.hid hblk
      by_cases hlt : q < ni
      · by_cases hz : z ≤ most
        · have hkl : q < xs.length := by have := HNI.out; omega
          obtain ⟨b, off, c0', c1', c2', c3', c4', rfl, hb, hV, q0, q1, q2, q3, q4⟩ := HXS.out.val hkl
          obtain ⟨g1, g2, g3, g4, g5, g6, g7, g8, g9, hform⟩ := hV.form
          injection hform with e0 hform
          injection hform with e1 hform
          injection hform with e2 hform
          injection hform with e3 hform
          injection hform with e4 hform
          subst e0 e1 e2 e3 e4
          have p0 := (hbel.cell (p := ⟨b, _, none⟩) hb).trans q0
          have p1 := (hbel.cell (p := ⟨b, _, none⟩) hb).trans q1
          have p2 := (hbel.cell (p := ⟨b, _, none⟩) hb).trans q2
          have p3 := (hbel.cell (p := ⟨b, _, none⟩) hb).trans q3
          have p4 := (hbel.cell (p := ⟨b, _, none⟩) hb).trans q4
          have hV1 := (hV.below hbel).more hbel.size
          have hxm := HXL.out q hkl
          have HC : ∀ most', Hid (Calls Tryz.prog 26 _ _ _) := fun most' => Lib.hid (HIH.out _ _ wr most' hxm hV1)
          clear hV hV1 hxm q0 q1 q2 q3 q4 hform hblk hbel
          go_wp2_with (first
            | (go_at_call 26
               refine (HC _).out.mono ?_
               rintro e w9 ⟨⟨z2, rfl⟩, hb9⟩)
            | go_in)
          go_roundw
          case rel => exact ⟨q + 1, _, by omega, by go_num, rfl, bel_next HBE.out hb9, HBK.out.below hb9 HBK.out.lt⟩
          case measure => simp [intOf]; omega
        · go_wp2
          go_ret
          exact ⟨⟨_, rfl⟩, hbel⟩
      · go_wp2
        go_ret
        exact ⟨⟨_, rfl⟩, hbel⟩
end Go.Proofs.YtbjmakigdglghaaGreatDoor.Dd
