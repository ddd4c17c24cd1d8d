/- large: yes or no; where it says no there are few parts. -/
import Derived.Test.YtbjmakigdglghaaGreatDoorDdG
import Derived.Deep.RegionWith
set_option linter.unusedVariables false
set_option linter.unusedSimpArgs false
set_option linter.unusedSectionVars false
namespace Go.Proofs.YtbjmakigdglghaaGreatDoor.Dd
set_option linter.unusedVariables false
open Go.RowKit
theorem CR.vAt {w : World} {B : Nat} {x : C} {c0 c1 c2 v0 v1 v2 v3 v4 c8 c9 c10 : Value} (h : CR w B x [c0, c1, c2, v0, v1, v2, v3, v4, c8, c9, c10]) : x.v.At w B [v0, v1, v2, v3, v4] := by
  obtain ⟨vs, A, c, heq, hv, _⟩ := h
  have hl := V.at_len hv
  match vs, hl with
  | [u0, u1, u2, u3, u4], _ =>
    simp at heq
    obtain ⟨_, _, _, rfl, rfl, rfl, rfl, rfl, _⟩ := heq
    exact hv
theorem IR.vAt {w : World} {B : Nat} {x : I} {c0 c1 v0 v1 v2 v3 v4 : Value} (h : IR w B x [c0, c1, v0, v1, v2, v3, v4]) : x.v.At w B [v0, v1, v2, v3, v4] := by
  obtain ⟨vs, heq, hv⟩ := h
  have hl := V.at_len hv
  match vs, hl with
  | [u0, u1, u2, u3, u4], _ =>
    simp at heq
    obtain ⟨_, _, rfl, rfl, rfl, rfl, rfl⟩ := heq
    exact hv
set_option maxRecDepth 100000 in
set_option maxHeartbeats 8000000 in
theorem large_any (w : World) (a : Sn) (ca : List Value) (ha : SnR w w.heap.size a ca) :
    Calls Tryz.prog 11 #[.agg ca.toArray] w fun e w' => ∃ r : Bool, e = .returned (.bool r) ∧ (r = false → a.cs.length ≤ 200 ∧ a.ds.length ≤ 300) ∧ Below w.heap.size w w' := by
  obtain ⟨A, c, A', c', rfl, hc, hd⟩ := ha
  obtain ⟨s, hs⟩ : ∃ q, a.s = q := ⟨_, rfl⟩
  obtain ⟨n, hn⟩ : ∃ q, a.cs.length = q := ⟨_, rfl⟩
  obtain ⟨n', hn'⟩ : ∃ q, a.ds.length = q := ⟨_, rfl⟩
  rw [hs, hn, hn']
  have m1 : n ≤ 1048576 := by rw [← hn]; exact hc.1
  have m2 : n' ≤ 1048576 := by rw [← hn']; exact hd.1
  have HN := Lib.hid hn
  have HN' := Lib.hid hn'
  have HC := Lib.hid hc
  have HD := Lib.hid hd
  clear hs hn hn' hc hd
  have hb0 := (Below.refl w.heap.size w).alloc (Nat.le_refl _) (.cells #[.int .i64 s, .slice A n c, .slice A' n' c'] 25)
  have hB := Blk.new w 25 #[.int .i64 s, .slice A n c, .slice A' n' c']
  have HB0 := Lib.hid hb0
  have HBK0 := Lib.hid hB
  clear hb0 hB
  go_enter Tryz.func11, Tryz.ntmps11
  by_cases hl1 : n ≤ 200
  · have hl1' : ¬ 200 < n := by omega
    by_cases hl2 : n' ≤ 300
    · have hl2' : ¬ 300 < n' := by omega
      go_wp2
      obtain ⟨w1, hw1⟩ : ∃ w1, w.alloc (.cells #[.int .i64 s, .slice A n c, .slice A' n' c'] 25) = w1 := ⟨_, rfl⟩
      rw [hw1] at HB0 HBK0 ⊢
      clear hw1
      go_loopw [3, 4] (fun v i wr => ∃ (k : Nat) (z : Int), k ≤ n ∧ i = .int .i64 k ∧ v = .int .i64 z ∧ Below w.heap.size w wr ∧ Blk wr w.heap.size 25 #[.int .i64 s, .slice A n c, .slice A' n' c']) (fun _ i _ => n - (intOf i).toNat)
      case atStart => exact ⟨0, _, Nat.zero_le _, rfl, rfl, HB0.out, HBK0.out⟩
      case round =>
        obtain ⟨k, z, hk, rfl, rfl, hbel, hblk⟩ := hrel
        have c1 : wr.cell? ⟨w.heap.size, 1, none⟩ = some (.slice A n c) := hblk.cell 1
        have HBE := Lib.hid hbel
        have HBK := Lib.hid hblk
        by_cases hlt : k < n
        · have hkl : k < a.cs.length := by have := HN.out; omega
          obtain ⟨b, off, e1, e2, e3, e4, e5, a6, n6, m6, a7, n7, m7, e8, e9, a10, n10, m10, rfl, hb, hR, q0, q1, q2, q3, q4, q5, q6, q7, q8, q9, q10⟩ := HC.out.cat hkl
          have p3 := (hbel.cell (p := ⟨b, _, none⟩) hb).trans q3
          have p4 := (hbel.cell (p := ⟨b, _, none⟩) hb).trans q4
          have p5 := (hbel.cell (p := ⟨b, _, none⟩) hb).trans q5
          have p6 := (hbel.cell (p := ⟨b, _, none⟩) hb).trans q6
          have p7 := (hbel.cell (p := ⟨b, _, none⟩) hb).trans q7
          have p10 := (hbel.cell (p := ⟨b, _, none⟩) hb).trans q10
          have hV := (hR.vAt.below hbel).more hbel.size
          have HP := Lib.hid (parts _ _ _ wr.drew 20000 (Nat.lt_succ_self _) hV.drew)
          have HL := Lib.hid hblk.lt
          have HBB := Lib.hid (Nat.lt_of_lt_of_le hb hbel.size)
          have HP10 := Lib.hid p10
          have HC1 := Lib.hid c1
          clear hR hV q0 q1 q2 q3 q4 q5 q6 q7 q8 q9 q10 hblk
          go_upto_region 7 with fail
          go_region_with (go_at_call 26
                          refine HP.out.mono ?_
                          rintro e w9 ⟨⟨z2, rfl⟩, hb9⟩
                          have x1 := (hb9.cell (p := ⟨w.heap.size, 1, none⟩) HL.out).trans HC1.out
                          have x10 := (hb9.cell (p := ⟨b, _, none⟩) HBB.out).trans HP10.out)
          all_goals
            have HB9 := Lib.hid (bel_next (bel_drewN (Below.refl wr.heap.size wr) 1) hb9)
            clear hb9 p3 p4 p5 p6 p7 p10 c1 hbel
            go_wp2
            go_roundw
            case rel => exact ⟨k + 1, _, by omega, by go_num, rfl, bel_next HBE.out HB9.out, HBK.out.below HB9.out HBK.out.lt⟩
            case measure => simp [intOf]; omega
        · obtain rfl : n = k := by omega
          go_wp2
          clear c1 hbel hk hlt hblk
          go_loopw [3, 5] (fun v i wr => ∃ (k : Nat) (z : Int), k ≤ n' ∧ i = .int .i64 k ∧ v = .int .i64 z ∧ Below w.heap.size w wr ∧ Blk wr w.heap.size 25 #[.int .i64 s, .slice A n c, .slice A' n' c']) (fun _ i _ => n' - (intOf i).toNat)
          case atStart => exact ⟨0, _, Nat.zero_le _, rfl, rfl, HBE.out, HBK.out⟩
          case round =>
            clear HBE HBK
            obtain ⟨k, z, hk, rfl, rfl, hbel, hblk⟩ := hrel
            have c2 : wr.cell? ⟨w.heap.size, 2, none⟩ = some (.slice A' n' c') := hblk.cell 2
            have HBE := Lib.hid hbel
            have HBK := Lib.hid hblk
            by_cases hlt : k < n'
            · have hkl : k < a.ds.length := by have := HN'.out; omega
              obtain ⟨b, off, e1, e3, e4, e5, a6, n6, m6, a7, n7, m7, rfl, hb, hR, q0, q1, q2, q3, q4, q5, q6⟩ := HD.out.iat hkl
              have p2 := (hbel.cell (p := ⟨b, _, none⟩) hb).trans q2
              have p3 := (hbel.cell (p := ⟨b, _, none⟩) hb).trans q3
              have p4 := (hbel.cell (p := ⟨b, _, none⟩) hb).trans q4
              have p5 := (hbel.cell (p := ⟨b, _, none⟩) hb).trans q5
              have p6 := (hbel.cell (p := ⟨b, _, none⟩) hb).trans q6
              have hV := (hR.vAt.below hbel).more hbel.size
              have HP := Lib.hid (parts _ _ _ wr 20000 (Nat.lt_succ_self _) hV)
              clear hR hV q0 q1 q2 q3 q4 q5 q6 hblk
              go_wp2_with (first
                | (go_at_call 26
                   refine HP.out.mono ?_
                   rintro e w9 ⟨⟨z2, rfl⟩, hb9⟩)
                | go_in)
              go_roundw
              case rel => exact ⟨k + 1, _, by omega, by go_num, rfl, bel_next HBE.out hb9, HBK.out.below hb9 HBK.out.lt⟩
              case measure => simp [intOf]; omega
            · go_wp2
              go_ret
              exact ⟨_, rfl, fun _ => ⟨hl1, hl2⟩, HBE.out⟩
    · have hl2' : 300 < n' := by omega
      go_wp2
      go_ret

      first
        | exact HB0.out
        | exact ⟨rfl, HB0.out⟩
        | exact ⟨_, rfl, HB0.out⟩
        | exact ⟨_, rfl, by simp, HB0.out⟩
  · have hl1' : 200 < n := by omega
    go_wp2
    go_ret
    first
        | exact HB0.out
        | exact ⟨rfl, HB0.out⟩
        | exact ⟨_, rfl, HB0.out⟩
        | exact ⟨_, rfl, by simp, HB0.out⟩
end Go.Proofs.YtbjmakigdglghaaGreatDoor.Dd
