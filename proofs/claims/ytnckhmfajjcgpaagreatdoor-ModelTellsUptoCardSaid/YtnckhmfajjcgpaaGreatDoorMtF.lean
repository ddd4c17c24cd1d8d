/- The program's written, walked. -/
import Derived.Test.YtnckhmfajjcgpaaGreatDoorMtE
import Derived.Test.YtnckhmfajjcgpaaGreatDoorMtD
import Derived.Test.YtnckhmfajjcgpaaGreatDoorMtC
import Derived.Carry
set_option linter.unusedVariables false
set_option linter.unusedSimpArgs false
set_option linter.unusedSectionVars false
namespace Go.Proofs.YtnckhmfajjcgpaaGreatDoor.Mt
set_option linter.unusedVariables false
open Go.RowKit Go.Lib
/-- what the program's written leaves -/
def MwP (x : V) (B : Nat) (bs : List UInt8) (w : World) : Ending → World → Prop := fun e w' => ∃ v', e = .returned v' ∧ Bs w' B v' (bs ++ wrt x) ∧ Fr B w w'
set_option maxRecDepth 100000 in
set_option maxHeartbeats 16000000 in
theorem mwr_any (B C : Nat) (hCB : C ≤ B) (m : Nat) : ∀ (x : V) (cs : List Value) (w : World) (v0 : Value) (bs0 : List UInt8), SizeOf.sizeOf x < m → x.At w B cs → x.sz ≤ 4194304 → x.rng → x.ok → B ≤ w.heap.size → TbP C w → Bs w B v0 bs0 → bs0.length + (wrt x).length ≤ 1073741824 →
    Calls Tryz.prog 67 #[v0, .agg cs.toArray] w (MwP x B bs0 w) := by
  induction m with
  | zero => intro x cs w v0 bs0 h; omega
  | succ m ih =>
    rintro ⟨k, i, t, ns, xs⟩ cs w v0 bs0 hsm hx hsz hrn hok hBw hT hv0 hbl
    have HWL := Lib.hid hbl
    rw [V.at_mk] at hx
    obtain ⟨An, cn, Ai, ci, rfl, ⟨hns, hnc⟩, hxs⟩ := hx
    rw [V.ok_mk] at hok
    rw [V.rng_mk] at hrn
    obtain ⟨⟨hk0, hk6⟩, hvt, hnm, hoks⟩ := hok
    obtain ⟨hri, hrx⟩ := hrn
    have hszz : 1 + t.size + nsz ns + V.szs xs ≤ 4194304 := by simpa [V.sz] using hsz
    have IH := Lib.hid (fun (j : Nat) (h : j < xs.length) (cs : List Value) (w : World) (v0 : Value) (bs0 : List UInt8) (hx : xs[j].At w B cs) (hBw : B ≤ w.heap.size) (hT : TbP C w) (hv0 : Bs w B v0 bs0) (hbl : bs0.length + (wrt xs[j]).length ≤ 1073741824) =>
      ih xs[j] cs w v0 bs0 (by have := V.sizeOf_at h; simp only [V.mk.sizeOf_spec] at hsm; omega) hx (by have := V.szs_at h; omega) (V.rngs_at h hrx) (V.oks_at h hoks) hBw hT hv0 hbl)
    have HNQ := Lib.hid (fun (j : Nat) (h : j < ns.length) (h6 : k = 6) (w : World) (v : Value) (bs : List UInt8) (hB : B ≤ w.heap.size) (hb : Bs w B v bs) (hl : bs.length ≤ 1073741824) => mquo_any w B v bs ns[j] (by have := nsz_at h; omega) (by
      have h1 := (hnm h6).2 j h
      rwa [List.getD_eq_getElem?_getD, List.getElem?_eq_getElem h, Option.getD_some] at h1) hB hb hl)
    have HTQ := Lib.hid (fun (w : World) (v : Value) (bs : List UInt8) (hB : B ≤ w.heap.size) (hb : Bs w B v bs) (hl : bs.length ≤ 1073741824) => mquo_any w B v bs t (by omega) hvt hB hb hl)
    have HNM := Lib.hid hnm
    have HRI := Lib.hid hri
    have HT := Lib.hid hT
    have HBW := Lib.hid hBw
    have HB0 := Lib.hid hv0
    clear hsm hsz hszz ih hvt hnm hoks hri hrx hT hBw hv0 hbl
    obtain ⟨nn, hnn⟩ : ∃ n, ns.length = n := ⟨_, rfl⟩
    obtain ⟨ni, hni⟩ : ∃ n, xs.length = n := ⟨_, rfl⟩
    have b1 := hns.1
    have b3 := hxs.1
    have NS := Lib.hid hns
    have XS := Lib.hid hxs
    have HNN := Lib.hid hnn
    have HNI := Lib.hid hni
    rw [hnn] at hnc b1 ⊢
    rw [hni] at b3 ⊢
    clear hns hxs hnn hni
    have HK := Lib.hid (show k = 0 ∨ k = 1 ∨ k = 2 ∨ k = 3 ∨ k = 4 ∨ k = 5 ∨ k = 6 by omega)
    clear hk0 hk6
    go_enter Tryz.func67, Tryz.ntmps67
    go_upto_region 1 with fail
    have hB := Blk.new w 29 #[.int .i64 k, .int .i64 i, .string t, .slice An nn cn, .slice Ai ni ci]
    have HF0 := Lib.hid ((Fr.refl B w).alloc HBW.out (.cells #[.int .i64 k, .int .i64 i, .string t, .slice An nn cn, .slice Ai ni ci] 29))
    have HB1 := Lib.hid (HB0.out.alloc (.cells #[.int .i64 k, .int .i64 i, .string t, .slice An nn cn, .slice Ai ni ci] 29))
    obtain ⟨w1, hw1⟩ : ∃ w1, w.alloc (.cells #[.int .i64 k, .int .i64 i, .string t, .slice An nn cn, .slice Ai ni ci] 29) = w1 := ⟨_, rfl⟩
    obtain ⟨g, hg⟩ : ∃ g, w.heap.size = g := ⟨_, rfl⟩
    have HG := Lib.hid hg
    rw [hw1] at hB HF0 HB1 ⊢
    rw [hg] at hB ⊢
    clear hw1 hg
    have HBK := Lib.hid hB
    have HBA : Hid (B ≤ w1.heap.size) := Lib.hid (Nat.le_trans HBW.out HF0.out.size)
    have c0 : w1.cell? ⟨g, 0, none⟩ = some (.int .i64 k) := hB.cell 0
    have c1 : w1.cell? ⟨g, 1, none⟩ = some (.int .i64 i) := hB.cell 1
    have c2 : w1.cell? ⟨g, 2, none⟩ = some (.string t) := hB.cell 2
    have c4 : w1.cell? ⟨g, 4, none⟩ = some (.slice Ai ni ci) := hB.cell 4
    clear hB HB0
    rcases HK.out with rfl | rfl | rfl | rfl | rfl | rfl | rfl
    · have HW : Hid (wrt (.mk 0 i t ns xs) = [110, 117, 108, 108]) := Lib.hid (by rw [wrt_mk]; rfl)
      have HL0 : Hid (bs0.length ≤ 1073741824) := Lib.hid (by have := HWL.out; omega)
      go_wp2_with (first | (at_builtin; refine wpList_fr_str rfl _ _ rfl rfl HB1.out _ rfl (by have := HL0.out; show bs0.length + 4 ≤ _; omega) HBA.out ?_; intro v9 w9 hb9 hf9) | go_in)
      go_ret
      exact ⟨_, rfl, by rw [HW.out]; exact hb9, HF0.out.trans hf9⟩
    · have HW : Hid (wrt (.mk 1 i t ns xs) = [102, 97, 108, 115, 101]) := Lib.hid (by rw [wrt_mk]; rfl)
      have HL0 : Hid (bs0.length ≤ 1073741824) := Lib.hid (by have := HWL.out; omega)
      go_wp2_with (first | (at_builtin; refine wpList_fr_str rfl _ _ rfl rfl HB1.out _ rfl (by have := HL0.out; show bs0.length + 5 ≤ _; omega) HBA.out ?_; intro v9 w9 hb9 hf9) | go_in)
      go_ret
      exact ⟨_, rfl, by rw [HW.out]; exact hb9, HF0.out.trans hf9⟩
    · have HW : Hid (wrt (.mk 2 i t ns xs) = [116, 114, 117, 101]) := Lib.hid (by rw [wrt_mk]; rfl)
      have HL0 : Hid (bs0.length ≤ 1073741824) := Lib.hid (by have := HWL.out; omega)
      go_wp2_with (first | (at_builtin; refine wpList_fr_str rfl _ _ rfl rfl HB1.out _ rfl (by have := HL0.out; show bs0.length + 4 ≤ _; omega) HBA.out ?_; intro v9 w9 hb9 hf9) | go_in)
      go_ret
      exact ⟨_, rfl, by rw [HW.out]; exact hb9, HF0.out.trans hf9⟩
    · have HW : Hid (wrt (.mk 3 i t ns xs) = itoa i) := Lib.hid (by rw [wrt_mk]; rfl)
      have HL0 : Hid (bs0.length ≤ 1073741824) := Lib.hid (by have := HWL.out; omega)
      have HT1 := Lib.hid (HT.out.keep HF0.out.bel hCB)
      go_wp2_with (first | (go_at_call 125; refine (ai_any w1 B C v0 bs0 i HRI.out.1 HRI.out.2 HB1.out (by have := HL0.out; omega) HT1.out hCB HBA.out).mono ?_; rintro e9 w9 ⟨v9, rfl, hb9, hf9⟩) | go_in)
      go_ret
      exact ⟨_, rfl, by rw [HW.out]; exact hb9, HF0.out.trans hf9⟩
    · have HW : Hid (wrt (.mk 4 i t ns xs) = quo t.data.toList) := Lib.hid (by rw [wrt_mk]; rfl)
      have HL0 : Hid (bs0.length ≤ 1073741824) := Lib.hid (by have := HWL.out; omega)
      have HD := Lib.hid (HTQ.out w1 v0 bs0 HBA.out HB1.out HL0.out)
      go_wp2_with (first | (go_at_call 126; refine HD.out.mono ?_; rintro e9 w9 ⟨v9, rfl, hb9, hf9⟩) | go_in)
      go_ret
      exact ⟨_, rfl, by rw [HW.out]; exact hb9, HF0.out.trans hf9⟩
    · have HC44 : Hid (#[Value.int .u8 44] = (bc [44]).toArray) := Lib.hid rfl
      have HC58 : Hid (#[Value.int .u8 58] = (bc [58]).toArray) := Lib.hid rfl
      have HCE : Hid (#[Value.int .u8 93] = (bc [93]).toArray) := Lib.hid rfl
      have HCO : Hid (#[Value.int .u8 91] = (bc [91]).toArray) := Lib.hid rfl
      obtain ⟨WR, hWR⟩ : ∃ WR, bs0 ++ wrt (.mk 5 i t ns xs) = WR := ⟨_, rfl⟩
      have HWE : Hid ((bs0 ++ [91]) ++ (wrts 5 ns 0 (xs.drop 0) ++ [93]) = WR) := Lib.hid (by rw [← hWR, wrt_mk]; simp)
      have HWL2 : Hid (WR.length ≤ 1073741824) := Lib.hid (by rw [← hWR, List.length_append]; exact HWL.out)
      have HL0 : Hid (bs0.length ≤ 1073741824) := Lib.hid (by have := HWL.out; omega)
      have HWR := Lib.hid hWR
      clear hWR HWL
      go_wp2_with (first
        | (at_builtin; refine wpList_fr_lit rfl _ _ rfl rfl HB1.out _ _ HCO.out 1 1 rfl rfl (by have := HL0.out; omega) HBA.out ?_
           intro v2 w2 hb2 hf2
           have HK2 := Lib.hid (hf2.blk HBK.out (by decide))
           have HF2 := Lib.hid (HF0.out.trans hf2)
           have HB2 := Lib.hid hb2
           clear c0 c1 c2 c4 hf2 hb2
           have c4 : w2.cell? ⟨g, 4, none⟩ = some (.slice Ai ni ci) := HK2.out.cell 4)
        | go_in)
      clear c4
      go_loopw [0, 45] (fun v ix wr => ∃ (q : Nat) (bs : List UInt8), q ≤ ni ∧ ix = .int .i64 q ∧ Hid (Bs wr B v bs) ∧ Hid (bs ++ (wrts 5 ns q (xs.drop q) ++ [93]) = WR) ∧ Hid (Fr B w wr) ∧ Hid (Blk wr g 29 #[.int .i64 5, .int .i64 i, .string t, .slice An nn cn, .slice Ai ni ci])) (fun _ i _ => ni - (RowKit.intOf i).toNat)
      case atStart => exact ⟨0, bs0 ++ [91], Nat.zero_le _, rfl, HB2, HWE, HF2, HK2⟩
      case round =>
        clear HB1 HB2 HF2 HK2 HF0 HBK HWE HBA HL0
        obtain ⟨q, bs, hq, rfl, HB, HQ, HF, HKB⟩ := hrel
        have HBA : Hid (B ≤ wr.heap.size) := Lib.hid (Nat.le_trans HBW.out HF.out.size)
        have HBL : Hid (bs.length ≤ 1073741824) := Lib.hid (by have := HWL2.out; rw [← HQ.out] at this; simp only [List.length_append] at this; omega)
        by_cases hlt : q < ni
        · have hkl : q < xs.length := by have := HNI.out; omega
          have HQ2 := Lib.hid ((congrArg (fun z => bs ++ (z ++ [93])) (wrts_at (k := 5) (ns := ns) hkl)).symm.trans HQ.out)
          clear HQ
          obtain ⟨b, off, e0, e1, e2, e3, e4, rfl, hb, hV, p0, p1, p2, p3, p4⟩ := XS.out.val hkl
          obtain ⟨f1, f2, f3, f4, f5, f6, f7, f8, f9, hform⟩ := hV.form
          injection hform with z0 hform
          injection hform with z1 hform
          injection hform with z2 hform
          injection hform with z3 hform
          injection hform with z4 hform
          subst z0 z1 z2 z3 z4
          clear hform
          have q0 := (HF.out.bel.cell (p := ⟨b, _, none⟩) hb).trans p0
          have q1 := (HF.out.bel.cell (p := ⟨b, _, none⟩) hb).trans p1
          have q2 := (HF.out.bel.cell (p := ⟨b, _, none⟩) hb).trans p2
          have q3 := (HF.out.bel.cell (p := ⟨b, _, none⟩) hb).trans p3
          have q4 := (HF.out.bel.cell (p := ⟨b, _, none⟩) hb).trans p4
          clear p0 p1 p2 p3 p4
          have HV := Lib.hid hV
          clear hV
          obtain ⟨XQ, hXQ⟩ : ∃ XQ, xs[q] = XQ := ⟨_, rfl⟩
          have HI := Lib.hid (fun (w9 : World) (v9 : Value) (bs9 : List UInt8) (hf9 : Fr B w w9) (hb9 : Bs w9 B v9 bs9) (hl9 : bs9.length + (wrt xs[q]).length ≤ 1073741824) => IH.out q hkl _ w9 v9 bs9 (HV.out.below hf9.bel) (Nat.le_trans HBW.out hf9.size) (HT.out.keep hf9.bel hCB) hb9 hl9)
          rw [hXQ] at HI HQ2
          clear hXQ HV
          have hli : (q : Int) < (ni : Int) := by omega
          have HSEP : Hid (sep 5 ns q = (if 0 < q then [44] else [])) := Lib.hid (by unfold sep; rw [if_neg (show ¬ ((5 : Int) = 6) by decide)]; simp)
          have c4 : wr.cell? ⟨g, 4, none⟩ = some (.slice (some ⟨b, off, none⟩) ni ci) := HKB.out.cell 4
          go_upto_region 19 with fail
          have HHa := Lib.hid (Blk.new wr 29 #[.int .i64 f1, .int .i64 f2, .string f3, .slice f4 f5 f6, .slice f7 f8 f9])
          have HFa := Lib.hid (HF.out.alloc HBA.out (.cells #[.int .i64 f1, .int .i64 f2, .string f3, .slice f4 f5 f6, .slice f7 f8 f9] 29))
          have HKa := Lib.hid (HKB.out.alloc (.cells #[.int .i64 f1, .int .i64 f2, .string f3, .slice f4 f5 f6, .slice f7 f8 f9] 29))
          have HBa := Lib.hid (HB.out.alloc (.cells #[.int .i64 f1, .int .i64 f2, .string f3, .slice f4 f5 f6, .slice f7 f8 f9] 29))
          obtain ⟨wa, hwa⟩ : ∃ wa, wr.alloc (.cells #[.int .i64 f1, .int .i64 f2, .string f3, .slice f4 f5 f6, .slice f7 f8 f9] 29) = wa := ⟨_, rfl⟩
          obtain ⟨h, hh⟩ : ∃ h, wr.heap.size = h := ⟨_, rfl⟩
          rw [hwa] at HHa HFa HKa HBa ⊢
          rw [hh] at HHa ⊢
          have HAa : Hid (B ≤ wa.heap.size) := Lib.hid (Nat.le_trans HBW.out HFa.out.size)
          clear hwa hh q0 q1 q2 q3 q4 HF HKB HB HBA c4
          by_cases hq0 : q = 0
          · have hiq : ¬ (0 : Int) < (q : Int) := by omega
            have HS2 : Hid (sep 5 ns q = []) := Lib.hid (by rw [HSEP.out, if_neg (show ¬ 0 < q by omega)])
            rw [HS2.out] at HQ2
            clear HSEP HS2 hq0
            have c0a : wa.cell? ⟨g, 0, none⟩ = some (.int .i64 5) := HKa.out.cell 0
            have q0a : wa.cell? ⟨h, 0, none⟩ = some (.int .i64 f1) := HHa.out.cell 0
            have q1a : wa.cell? ⟨h, 1, none⟩ = some (.int .i64 f2) := HHa.out.cell 1
            have q2a : wa.cell? ⟨h, 2, none⟩ = some (.string f3) := HHa.out.cell 2
            have q3a : wa.cell? ⟨h, 3, none⟩ = some (.slice f4 f5 f6) := HHa.out.cell 3
            have q4a : wa.cell? ⟨h, 4, none⟩ = some (.slice f7 f8 f9) := HHa.out.cell 4
            have LBa : Hid ((bs).length + (wrt XQ).length ≤ 1073741824) := Lib.hid (by have := HWL2.out; rw [← HQ2.out] at this; simp only [List.length_append, List.length_cons, List.length_nil] at this ⊢; omega)
            go_wp2_with (first
              | (go_at_call 67; refine (HI.out wa _ _ HFa.out HBa.out LBa.out).mono ?_
                 rintro e_b w_b ⟨v_b, rfl, hb_b, hf_b⟩
                 have HBb := Lib.hid hb_b; have HFb := Lib.hid (HFa.out.trans hf_b); have HKb := Lib.hid (hf_b.blk HKa.out (by decide)); have HHb := Lib.hid (hf_b.blk HHa.out (by decide)); have HAb := Lib.hid (Nat.le_trans HAa.out hf_b.size)
                 clear c0a q0a q1a q2a q3a q4a hb_b hf_b)
              | go_in)
            go_roundw
            case rel => exact ⟨q + 1, _, by omega, by go_num, HBb, Lib.hid (by rw [← HQ2.out]; simp), HFb, HKb⟩
            case measure => simp [RowKit.intOf]; omega
          · have hiq : (0 : Int) < (q : Int) := by omega
            have HS2 : Hid (sep 5 ns q = [44]) := Lib.hid (by rw [HSEP.out, if_pos (show 0 < q by omega)])
            rw [HS2.out] at HQ2
            clear HSEP HS2 hq0
            have c0a : wa.cell? ⟨g, 0, none⟩ = some (.int .i64 5) := HKa.out.cell 0
            have q0a : wa.cell? ⟨h, 0, none⟩ = some (.int .i64 f1) := HHa.out.cell 0
            have q1a : wa.cell? ⟨h, 1, none⟩ = some (.int .i64 f2) := HHa.out.cell 1
            have q2a : wa.cell? ⟨h, 2, none⟩ = some (.string f3) := HHa.out.cell 2
            have q3a : wa.cell? ⟨h, 3, none⟩ = some (.slice f4 f5 f6) := HHa.out.cell 3
            have q4a : wa.cell? ⟨h, 4, none⟩ = some (.slice f7 f8 f9) := HHa.out.cell 4
            have LBa : Hid ((bs).length + 1 ≤ 140737488355328) := Lib.hid (by have := HWL2.out; rw [← HQ2.out] at this; simp only [List.length_append, List.length_cons, List.length_nil] at this ⊢; omega)
            go_wp2_with (first
              | (at_builtin; refine wpList_fr_lit rfl _ _ rfl rfl HBa.out _ _ HC44.out 1 1 rfl rfl LBa.out HAa.out ?_
                 intro v_b w_b hb_b hf_b
                 have HBb := Lib.hid hb_b; have HFb := Lib.hid (HFa.out.trans hf_b); have HKb := Lib.hid (hf_b.blk HKa.out (by decide)); have HHb := Lib.hid (hf_b.blk HHa.out (by decide)); have HAb := Lib.hid (Nat.le_trans HAa.out hf_b.size)
                 have c0b : w_b.cell? ⟨g, 0, none⟩ = some (.int .i64 5) := HKb.out.cell 0
                 have q0b : w_b.cell? ⟨h, 0, none⟩ = some (.int .i64 f1) := HHb.out.cell 0
                 have q1b : w_b.cell? ⟨h, 1, none⟩ = some (.int .i64 f2) := HHb.out.cell 1
                 have q2b : w_b.cell? ⟨h, 2, none⟩ = some (.string f3) := HHb.out.cell 2
                 have q3b : w_b.cell? ⟨h, 3, none⟩ = some (.slice f4 f5 f6) := HHb.out.cell 3
                 have q4b : w_b.cell? ⟨h, 4, none⟩ = some (.slice f7 f8 f9) := HHb.out.cell 4
                 have LBb : Hid ((bs ++ [44]).length + (wrt XQ).length ≤ 1073741824) := Lib.hid (by have := HWL2.out; rw [← HQ2.out] at this; simp only [List.length_append, List.length_cons, List.length_nil] at this ⊢; omega)
                 clear c0a q0a q1a q2a q3a q4a hb_b hf_b)
              | (go_at_call 67; refine (HI.out w_b _ _ HFb.out HBb.out LBb.out).mono ?_
                 rintro e_c w_c ⟨v_c, rfl, hb_c, hf_c⟩
                 have HBc := Lib.hid hb_c; have HFc := Lib.hid (HFb.out.trans hf_c); have HKc := Lib.hid (hf_c.blk HKb.out (by decide)); have HHc := Lib.hid (hf_c.blk HHb.out (by decide)); have HAc := Lib.hid (Nat.le_trans HAb.out hf_c.size)
                 clear c0b q0b q1b q2b q3b q4b hb_c hf_c)
              | go_in)
            go_roundw
            case rel => exact ⟨q + 1, _, by omega, by go_num, HBc, Lib.hid (by rw [← HQ2.out]; simp), HFc, HKc⟩
            case measure => simp [RowKit.intOf]; omega
        · obtain rfl : q = ni := by omega
          have HQ3 : Hid (bs ++ [93] = WR) := Lib.hid (by rw [← HQ.out, ← HNI.out, wrts_end]; rfl)
          have LB : Hid (bs.length + 1 ≤ 140737488355328) := Lib.hid (by have := HBL.out; omega)
          go_wp2_with (first | (at_builtin; refine wpList_fr_lit rfl _ _ rfl rfl HB.out _ _ HCE.out 1 1 rfl rfl LB.out HBA.out ?_; intro v9 w9 hb9 hf9) | go_in)
          go_ret
          rw [HQ3.out, ← HWR.out] at hb9
          exact ⟨_, rfl, hb9, HF.out.trans hf9⟩
    · have HC44 : Hid (#[Value.int .u8 44] = (bc [44]).toArray) := Lib.hid rfl
      have HC58 : Hid (#[Value.int .u8 58] = (bc [58]).toArray) := Lib.hid rfl
      have HCE : Hid (#[Value.int .u8 125] = (bc [125]).toArray) := Lib.hid rfl
      have HCO : Hid (#[Value.int .u8 123] = (bc [123]).toArray) := Lib.hid rfl
      obtain ⟨WR, hWR⟩ : ∃ WR, bs0 ++ wrt (.mk 6 i t ns xs) = WR := ⟨_, rfl⟩
      have HWE : Hid ((bs0 ++ [123]) ++ (wrts 6 ns 0 (xs.drop 0) ++ [125]) = WR) := Lib.hid (by rw [← hWR, wrt_mk]; simp)
      have HWL2 : Hid (WR.length ≤ 1073741824) := Lib.hid (by rw [← hWR, List.length_append]; exact HWL.out)
      have HL0 : Hid (bs0.length ≤ 1073741824) := Lib.hid (by have := HWL.out; omega)
      have HWR := Lib.hid hWR
      clear hWR HWL
      go_wp2_with (first
        | (at_builtin; refine wpList_fr_lit rfl _ _ rfl rfl HB1.out _ _ HCO.out 1 1 rfl rfl (by have := HL0.out; omega) HBA.out ?_
           intro v2 w2 hb2 hf2
           have HK2 := Lib.hid (hf2.blk HBK.out (by decide))
           have HF2 := Lib.hid (HF0.out.trans hf2)
           have HB2 := Lib.hid hb2
           clear c0 c1 c2 c4 hf2 hb2
           have c4 : w2.cell? ⟨g, 4, none⟩ = some (.slice Ai ni ci) := HK2.out.cell 4)
        | go_in)
      clear c4
      go_loopw [0, 45] (fun v ix wr => ∃ (q : Nat) (bs : List UInt8), q ≤ ni ∧ ix = .int .i64 q ∧ Hid (Bs wr B v bs) ∧ Hid (bs ++ (wrts 6 ns q (xs.drop q) ++ [125]) = WR) ∧ Hid (Fr B w wr) ∧ Hid (Blk wr g 29 #[.int .i64 6, .int .i64 i, .string t, .slice An nn cn, .slice Ai ni ci])) (fun _ i _ => ni - (RowKit.intOf i).toNat)
      case atStart => exact ⟨0, bs0 ++ [123], Nat.zero_le _, rfl, HB2, HWE, HF2, HK2⟩
      case round =>
        clear HB1 HB2 HF2 HK2 HF0 HBK HWE HBA HL0
        obtain ⟨q, bs, hq, rfl, HB, HQ, HF, HKB⟩ := hrel
        have HBA : Hid (B ≤ wr.heap.size) := Lib.hid (Nat.le_trans HBW.out HF.out.size)
        have HBL : Hid (bs.length ≤ 1073741824) := Lib.hid (by have := HWL2.out; rw [← HQ.out] at this; simp only [List.length_append] at this; omega)
        by_cases hlt : q < ni
        · have hkl : q < xs.length := by have := HNI.out; omega
          have HQ2 := Lib.hid ((congrArg (fun z => bs ++ (z ++ [125])) (wrts_at (k := 6) (ns := ns) hkl)).symm.trans HQ.out)
          clear HQ
          obtain ⟨b, off, e0, e1, e2, e3, e4, rfl, hb, hV, p0, p1, p2, p3, p4⟩ := XS.out.val hkl
          obtain ⟨f1, f2, f3, f4, f5, f6, f7, f8, f9, hform⟩ := hV.form
          injection hform with z0 hform
          injection hform with z1 hform
          injection hform with z2 hform
          injection hform with z3 hform
          injection hform with z4 hform
          subst z0 z1 z2 z3 z4
          clear hform
          have q0 := (HF.out.bel.cell (p := ⟨b, _, none⟩) hb).trans p0
          have q1 := (HF.out.bel.cell (p := ⟨b, _, none⟩) hb).trans p1
          have q2 := (HF.out.bel.cell (p := ⟨b, _, none⟩) hb).trans p2
          have q3 := (HF.out.bel.cell (p := ⟨b, _, none⟩) hb).trans p3
          have q4 := (HF.out.bel.cell (p := ⟨b, _, none⟩) hb).trans p4
          clear p0 p1 p2 p3 p4
          have HV := Lib.hid hV
          clear hV
          obtain ⟨XQ, hXQ⟩ : ∃ XQ, xs[q] = XQ := ⟨_, rfl⟩
          have HI := Lib.hid (fun (w9 : World) (v9 : Value) (bs9 : List UInt8) (hf9 : Fr B w w9) (hb9 : Bs w9 B v9 bs9) (hl9 : bs9.length + (wrt xs[q]).length ≤ 1073741824) => IH.out q hkl _ w9 v9 bs9 (HV.out.below hf9.bel) (Nat.le_trans HBW.out hf9.size) (HT.out.keep hf9.bel hCB) hb9 hl9)
          rw [hXQ] at HI HQ2
          clear hXQ HV
          have hli : (q : Int) < (ni : Int) := by omega
          have hqn : q < ns.length := by have := (HNM.out (by first | rfl | trivial)).1; omega
          obtain ⟨bn, offn, rfl, hbn, hcn⟩ := NS.out.str hqn
          have Y0 := Lib.hid (hcn q hqn)
          have hqi : (q : Int) < (nn : Int) := by have := HNN.out; omega
          have hgd : ns.getD q ByteArray.empty = ns[q] := by rw [List.getD_eq_getElem?_getD, List.getElem?_eq_getElem hqn, Option.getD_some]
          have HNQ2 := Lib.hid (HNQ.out q hqn (by first | rfl | trivial))
          obtain ⟨z, hz⟩ : ∃ z, ns[q] = z := ⟨_, rfl⟩
          rw [hz] at Y0 HNQ2 hgd
          have HSEP : Hid (sep 6 ns q = (if 0 < q then [44] else []) ++ (quo z.data.toList ++ [58])) := Lib.hid (by unfold sep; rw [if_pos rfl, hgd])
          clear hz hcn hgd
          have c4 : wr.cell? ⟨g, 4, none⟩ = some (.slice (some ⟨b, off, none⟩) ni ci) := HKB.out.cell 4
          go_upto_region 19 with fail
          have HHa := Lib.hid (Blk.new wr 29 #[.int .i64 f1, .int .i64 f2, .string f3, .slice f4 f5 f6, .slice f7 f8 f9])
          have HFa := Lib.hid (HF.out.alloc HBA.out (.cells #[.int .i64 f1, .int .i64 f2, .string f3, .slice f4 f5 f6, .slice f7 f8 f9] 29))
          have HKa := Lib.hid (HKB.out.alloc (.cells #[.int .i64 f1, .int .i64 f2, .string f3, .slice f4 f5 f6, .slice f7 f8 f9] 29))
          have HBa := Lib.hid (HB.out.alloc (.cells #[.int .i64 f1, .int .i64 f2, .string f3, .slice f4 f5 f6, .slice f7 f8 f9] 29))
          obtain ⟨wa, hwa⟩ : ∃ wa, wr.alloc (.cells #[.int .i64 f1, .int .i64 f2, .string f3, .slice f4 f5 f6, .slice f7 f8 f9] 29) = wa := ⟨_, rfl⟩
          obtain ⟨h, hh⟩ : ∃ h, wr.heap.size = h := ⟨_, rfl⟩
          rw [hwa] at HHa HFa HKa HBa ⊢
          rw [hh] at HHa ⊢
          have HAa : Hid (B ≤ wa.heap.size) := Lib.hid (Nat.le_trans HBW.out HFa.out.size)
          clear hwa hh q0 q1 q2 q3 q4 HF HKB HB HBA c4
          by_cases hq0 : q = 0
          · have hiq : ¬ (0 : Int) < (q : Int) := by omega
            have HS2 : Hid (sep 6 ns q = [] ++ (quo z.data.toList ++ [58])) := Lib.hid (by rw [HSEP.out, if_neg (show ¬ 0 < q by omega)])
            rw [HS2.out] at HQ2
            clear HSEP HS2 hq0
            have c0a : wa.cell? ⟨g, 0, none⟩ = some (.int .i64 6) := HKa.out.cell 0
            have c3a : wa.cell? ⟨g, 3, none⟩ = some (.slice (some ⟨bn, offn, none⟩) nn cn) := HKa.out.cell 3
            have y0a := (HFa.out.bel.cell (p := ⟨bn, _, none⟩) hbn).trans Y0.out
            have q0a : wa.cell? ⟨h, 0, none⟩ = some (.int .i64 f1) := HHa.out.cell 0
            have q1a : wa.cell? ⟨h, 1, none⟩ = some (.int .i64 f2) := HHa.out.cell 1
            have q2a : wa.cell? ⟨h, 2, none⟩ = some (.string f3) := HHa.out.cell 2
            have q3a : wa.cell? ⟨h, 3, none⟩ = some (.slice f4 f5 f6) := HHa.out.cell 3
            have q4a : wa.cell? ⟨h, 4, none⟩ = some (.slice f7 f8 f9) := HHa.out.cell 4
            have LBa : Hid ((bs).length ≤ 1073741824) := Lib.hid (by have := HWL2.out; rw [← HQ2.out] at this; simp only [List.length_append, List.length_cons, List.length_nil] at this ⊢; omega)
            go_wp2_with (first
              | (go_at_call 126; refine (HNQ2.out wa _ _ HAa.out HBa.out LBa.out).mono ?_
                 rintro e_b w_b ⟨v_b, rfl, hb_b, hf_b⟩
                 have HBb := Lib.hid hb_b; have HFb := Lib.hid (HFa.out.trans hf_b); have HKb := Lib.hid (hf_b.blk HKa.out (by decide)); have HHb := Lib.hid (hf_b.blk HHa.out (by decide)); have HAb := Lib.hid (Nat.le_trans HAa.out hf_b.size)
                 have c0b : w_b.cell? ⟨g, 0, none⟩ = some (.int .i64 6) := HKb.out.cell 0
                 have c3b : w_b.cell? ⟨g, 3, none⟩ = some (.slice (some ⟨bn, offn, none⟩) nn cn) := HKb.out.cell 3
                 have y0b := (HFb.out.bel.cell (p := ⟨bn, _, none⟩) hbn).trans Y0.out
                 have q0b : w_b.cell? ⟨h, 0, none⟩ = some (.int .i64 f1) := HHb.out.cell 0
                 have q1b : w_b.cell? ⟨h, 1, none⟩ = some (.int .i64 f2) := HHb.out.cell 1
                 have q2b : w_b.cell? ⟨h, 2, none⟩ = some (.string f3) := HHb.out.cell 2
                 have q3b : w_b.cell? ⟨h, 3, none⟩ = some (.slice f4 f5 f6) := HHb.out.cell 3
                 have q4b : w_b.cell? ⟨h, 4, none⟩ = some (.slice f7 f8 f9) := HHb.out.cell 4
                 have LBb : Hid ((bs ++ quo z.data.toList).length + 1 ≤ 140737488355328) := Lib.hid (by have := HWL2.out; rw [← HQ2.out] at this; simp only [List.length_append, List.length_cons, List.length_nil] at this ⊢; omega)
                 clear c0a q0a q1a q2a q3a q4a c3a y0a hb_b hf_b)
              | (at_builtin; refine wpList_fr_lit rfl _ _ rfl rfl HBb.out _ _ HC58.out 1 1 rfl rfl LBb.out HAb.out ?_
                 intro v_c w_c hb_c hf_c
                 have HBc := Lib.hid hb_c; have HFc := Lib.hid (HFb.out.trans hf_c); have HKc := Lib.hid (hf_c.blk HKb.out (by decide)); have HHc := Lib.hid (hf_c.blk HHb.out (by decide)); have HAc := Lib.hid (Nat.le_trans HAb.out hf_c.size)
                 have c0c : w_c.cell? ⟨g, 0, none⟩ = some (.int .i64 6) := HKc.out.cell 0
                 have c3c : w_c.cell? ⟨g, 3, none⟩ = some (.slice (some ⟨bn, offn, none⟩) nn cn) := HKc.out.cell 3
                 have y0c := (HFc.out.bel.cell (p := ⟨bn, _, none⟩) hbn).trans Y0.out
                 have q0c : w_c.cell? ⟨h, 0, none⟩ = some (.int .i64 f1) := HHc.out.cell 0
                 have q1c : w_c.cell? ⟨h, 1, none⟩ = some (.int .i64 f2) := HHc.out.cell 1
                 have q2c : w_c.cell? ⟨h, 2, none⟩ = some (.string f3) := HHc.out.cell 2
                 have q3c : w_c.cell? ⟨h, 3, none⟩ = some (.slice f4 f5 f6) := HHc.out.cell 3
                 have q4c : w_c.cell? ⟨h, 4, none⟩ = some (.slice f7 f8 f9) := HHc.out.cell 4
                 have LBc : Hid ((bs ++ quo z.data.toList ++ [58]).length + (wrt XQ).length ≤ 1073741824) := Lib.hid (by have := HWL2.out; rw [← HQ2.out] at this; simp only [List.length_append, List.length_cons, List.length_nil] at this ⊢; omega)
                 clear c0b q0b q1b q2b q3b q4b c3b y0b hb_c hf_c)
              | (go_at_call 67; refine (HI.out w_c _ _ HFc.out HBc.out LBc.out).mono ?_
                 rintro e_d w_d ⟨v_d, rfl, hb_d, hf_d⟩
                 have HBd := Lib.hid hb_d; have HFd := Lib.hid (HFc.out.trans hf_d); have HKd := Lib.hid (hf_d.blk HKc.out (by decide)); have HHd := Lib.hid (hf_d.blk HHc.out (by decide)); have HAd := Lib.hid (Nat.le_trans HAc.out hf_d.size)
                 clear c0c q0c q1c q2c q3c q4c c3c y0c hb_d hf_d)
              | go_in)
            go_roundw
            case rel => exact ⟨q + 1, _, by omega, by go_num, HBd, Lib.hid (by rw [← HQ2.out]; simp), HFd, HKd⟩
            case measure => simp [RowKit.intOf]; omega
          · have hiq : (0 : Int) < (q : Int) := by omega
            have HS2 : Hid (sep 6 ns q = [44] ++ (quo z.data.toList ++ [58])) := Lib.hid (by rw [HSEP.out, if_pos (show 0 < q by omega)])
            rw [HS2.out] at HQ2
            clear HSEP HS2 hq0
            have c0a : wa.cell? ⟨g, 0, none⟩ = some (.int .i64 6) := HKa.out.cell 0
            have c3a : wa.cell? ⟨g, 3, none⟩ = some (.slice (some ⟨bn, offn, none⟩) nn cn) := HKa.out.cell 3
            have y0a := (HFa.out.bel.cell (p := ⟨bn, _, none⟩) hbn).trans Y0.out
            have q0a : wa.cell? ⟨h, 0, none⟩ = some (.int .i64 f1) := HHa.out.cell 0
            have q1a : wa.cell? ⟨h, 1, none⟩ = some (.int .i64 f2) := HHa.out.cell 1
            have q2a : wa.cell? ⟨h, 2, none⟩ = some (.string f3) := HHa.out.cell 2
            have q3a : wa.cell? ⟨h, 3, none⟩ = some (.slice f4 f5 f6) := HHa.out.cell 3
            have q4a : wa.cell? ⟨h, 4, none⟩ = some (.slice f7 f8 f9) := HHa.out.cell 4
            have LBa : Hid ((bs).length + 1 ≤ 140737488355328) := Lib.hid (by have := HWL2.out; rw [← HQ2.out] at this; simp only [List.length_append, List.length_cons, List.length_nil] at this ⊢; omega)
            go_wp2_with (first
              | (at_builtin; refine wpList_fr_lit rfl _ _ rfl rfl HBa.out _ _ HC44.out 1 1 rfl rfl LBa.out HAa.out ?_
                 intro v_b w_b hb_b hf_b
                 have HBb := Lib.hid hb_b; have HFb := Lib.hid (HFa.out.trans hf_b); have HKb := Lib.hid (hf_b.blk HKa.out (by decide)); have HHb := Lib.hid (hf_b.blk HHa.out (by decide)); have HAb := Lib.hid (Nat.le_trans HAa.out hf_b.size)
                 have c0b : w_b.cell? ⟨g, 0, none⟩ = some (.int .i64 6) := HKb.out.cell 0
                 have c3b : w_b.cell? ⟨g, 3, none⟩ = some (.slice (some ⟨bn, offn, none⟩) nn cn) := HKb.out.cell 3
                 have y0b := (HFb.out.bel.cell (p := ⟨bn, _, none⟩) hbn).trans Y0.out
                 have q0b : w_b.cell? ⟨h, 0, none⟩ = some (.int .i64 f1) := HHb.out.cell 0
                 have q1b : w_b.cell? ⟨h, 1, none⟩ = some (.int .i64 f2) := HHb.out.cell 1
                 have q2b : w_b.cell? ⟨h, 2, none⟩ = some (.string f3) := HHb.out.cell 2
                 have q3b : w_b.cell? ⟨h, 3, none⟩ = some (.slice f4 f5 f6) := HHb.out.cell 3
                 have q4b : w_b.cell? ⟨h, 4, none⟩ = some (.slice f7 f8 f9) := HHb.out.cell 4
                 have LBb : Hid ((bs ++ [44]).length ≤ 1073741824) := Lib.hid (by have := HWL2.out; rw [← HQ2.out] at this; simp only [List.length_append, List.length_cons, List.length_nil] at this ⊢; omega)
                 clear c0a q0a q1a q2a q3a q4a c3a y0a hb_b hf_b)
              | (go_at_call 126; refine (HNQ2.out w_b _ _ HAb.out HBb.out LBb.out).mono ?_
                 rintro e_c w_c ⟨v_c, rfl, hb_c, hf_c⟩
                 have HBc := Lib.hid hb_c; have HFc := Lib.hid (HFb.out.trans hf_c); have HKc := Lib.hid (hf_c.blk HKb.out (by decide)); have HHc := Lib.hid (hf_c.blk HHb.out (by decide)); have HAc := Lib.hid (Nat.le_trans HAb.out hf_c.size)
                 have c0c : w_c.cell? ⟨g, 0, none⟩ = some (.int .i64 6) := HKc.out.cell 0
                 have c3c : w_c.cell? ⟨g, 3, none⟩ = some (.slice (some ⟨bn, offn, none⟩) nn cn) := HKc.out.cell 3
                 have y0c := (HFc.out.bel.cell (p := ⟨bn, _, none⟩) hbn).trans Y0.out
                 have q0c : w_c.cell? ⟨h, 0, none⟩ = some (.int .i64 f1) := HHc.out.cell 0
                 have q1c : w_c.cell? ⟨h, 1, none⟩ = some (.int .i64 f2) := HHc.out.cell 1
                 have q2c : w_c.cell? ⟨h, 2, none⟩ = some (.string f3) := HHc.out.cell 2
                 have q3c : w_c.cell? ⟨h, 3, none⟩ = some (.slice f4 f5 f6) := HHc.out.cell 3
                 have q4c : w_c.cell? ⟨h, 4, none⟩ = some (.slice f7 f8 f9) := HHc.out.cell 4
                 have LBc : Hid ((bs ++ [44] ++ quo z.data.toList).length + 1 ≤ 140737488355328) := Lib.hid (by have := HWL2.out; rw [← HQ2.out] at this; simp only [List.length_append, List.length_cons, List.length_nil] at this ⊢; omega)
                 clear c0b q0b q1b q2b q3b q4b c3b y0b hb_c hf_c)
              | (at_builtin; refine wpList_fr_lit rfl _ _ rfl rfl HBc.out _ _ HC58.out 1 1 rfl rfl LBc.out HAc.out ?_
                 intro v_d w_d hb_d hf_d
                 have HBd := Lib.hid hb_d; have HFd := Lib.hid (HFc.out.trans hf_d); have HKd := Lib.hid (hf_d.blk HKc.out (by decide)); have HHd := Lib.hid (hf_d.blk HHc.out (by decide)); have HAd := Lib.hid (Nat.le_trans HAc.out hf_d.size)
                 have c0d : w_d.cell? ⟨g, 0, none⟩ = some (.int .i64 6) := HKd.out.cell 0
                 have c3d : w_d.cell? ⟨g, 3, none⟩ = some (.slice (some ⟨bn, offn, none⟩) nn cn) := HKd.out.cell 3
                 have y0d := (HFd.out.bel.cell (p := ⟨bn, _, none⟩) hbn).trans Y0.out
                 have q0d : w_d.cell? ⟨h, 0, none⟩ = some (.int .i64 f1) := HHd.out.cell 0
                 have q1d : w_d.cell? ⟨h, 1, none⟩ = some (.int .i64 f2) := HHd.out.cell 1
                 have q2d : w_d.cell? ⟨h, 2, none⟩ = some (.string f3) := HHd.out.cell 2
                 have q3d : w_d.cell? ⟨h, 3, none⟩ = some (.slice f4 f5 f6) := HHd.out.cell 3
                 have q4d : w_d.cell? ⟨h, 4, none⟩ = some (.slice f7 f8 f9) := HHd.out.cell 4
                 have LBd : Hid ((bs ++ [44] ++ quo z.data.toList ++ [58]).length + (wrt XQ).length ≤ 1073741824) := Lib.hid (by have := HWL2.out; rw [← HQ2.out] at this; simp only [List.length_append, List.length_cons, List.length_nil] at this ⊢; omega)
                 clear c0c q0c q1c q2c q3c q4c c3c y0c hb_d hf_d)
              | (go_at_call 67; refine (HI.out w_d _ _ HFd.out HBd.out LBd.out).mono ?_
                 rintro e_e w_e ⟨v_e, rfl, hb_e, hf_e⟩
                 have HBe := Lib.hid hb_e; have HFe := Lib.hid (HFd.out.trans hf_e); have HKe := Lib.hid (hf_e.blk HKd.out (by decide)); have HHe := Lib.hid (hf_e.blk HHd.out (by decide)); have HAe := Lib.hid (Nat.le_trans HAd.out hf_e.size)
                 clear c0d q0d q1d q2d q3d q4d c3d y0d hb_e hf_e)
              | go_in)
            go_roundw
            case rel => exact ⟨q + 1, _, by omega, by go_num, HBe, Lib.hid (by rw [← HQ2.out]; simp), HFe, HKe⟩
            case measure => simp [RowKit.intOf]; omega
        · obtain rfl : q = ni := by omega
          have HQ3 : Hid (bs ++ [125] = WR) := Lib.hid (by rw [← HQ.out, ← HNI.out, wrts_end]; rfl)
          have LB : Hid (bs.length + 1 ≤ 140737488355328) := Lib.hid (by have := HBL.out; omega)
          go_wp2_with (first | (at_builtin; refine wpList_fr_lit rfl _ _ rfl rfl HB.out _ _ HCE.out 1 1 rfl rfl LB.out HBA.out ?_; intro v9 w9 hb9 hf9) | go_in)
          go_ret
          rw [HQ3.out, ← HWR.out] at hb9
          exact ⟨_, rfl, hb9, HF.out.trans hf9⟩
end Go.Proofs.YtnckhmfajjcgpaaGreatDoor.Mt
namespace Go.Proofs.YtnckhmfajjcgpaaGreatDoor.Mt
set_option linter.unusedVariables false
open Go.RowKit Go.Lib
def seen (l : List ByteArray) : List En := l.map fun x => (x, Value.int .i64 1)
theorem look_seen (s : ByteArray) : ∀ (l : List ByteArray), look (seen l) s = if hasB l s = true then some (Value.int .i64 1) else none
  | [] => by simp [look, seen, hasB]
  | x :: l => by
    have ih := look_seen s l
    unfold look seen hasB at ih ⊢
    rw [List.map_cons, List.find?_cons, List.any_cons]
    by_cases h : x = s
    · subst h
      simp
    · have h1 : (x.toList == s.toList) = false := by
        cases hb : x.toList == s.toList
        · rfl
        · exact absurd (bytes_toList_inj (by simpa using hb)) h
      rw [h1, decide_eq_false h]
      simpa using ih
theorem seen_next {ns : List ByteArray} {q : Nat} (h : q < ns.length) : seen (ns.take q) ++ [(ns[q], Value.int .i64 1)] = seen (ns.take (q + 1)) := by
  rw [List.take_succ_eq_append_getElem h]
  unfold seen
  rw [List.map_append]
  rfl
theorem zero_int (w : World) : (zeroValue 3).run Tryz.prog w = .ok (.int .i64 0) w := Tryz.zeroValue3 w
section
variable {P : Program} (w : World) {ops : Array Oper} {rest : List Oper} {o : Oper} {a : Act} {Q : Exit → Act → World → Prop} {b : Nat} {es : List En} {t kt et : TypeId}
theorem wpList_look1 (hg : o.guard = none) (m x : Operand) (t : TypeId) (hop : o.op = Op.lookup t m x false) (kt et : TypeId) (ht : P.underlying t = some (.map kt et)) (hk : P.underlying kt = some .string) (z : Value) (hz : (zeroValue et).run P w = .ok z w) (b : Nat) (es : List En)
    (hm : a.eval m = .map (some b)) (h : MAt w b es) (k : ByteArray) (hx : a.eval x = .string k) (u : Value) (hr : (look es k).getD z = u)
    (hK : wpList P ops Q rest (a.put o.dst u) w) : wpList P ops Q (o :: rest) a w := by
  refine wpList_plain hg fun K' hK' => ?_
  subst hr
  unfold Oper.wp
  simp [execOp, hop, hm, hx, run_look_at ht hk hz h, Result.andThen]
  exact hK' _ _ hK
end
set_option maxRecDepth 100000 in
set_option maxHeartbeats 16000000 in
theorem mchk_any {T : Tbs} (HV : ValidOk T) (m : Nat) : ∀ (x : V) (cs : List Value) (w : World) (d : Nat), SizeOf.sizeOf x < m → x.At w w.heap.size cs → x.sz ≤ 4194304 → d ≤ 65 → T.P w →
    Calls Tryz.prog 124 #[.agg cs.toArray, .int .i64 d] w fun e w' => e = .returned (.int .i64 (chk x d)) ∧ Below w.heap.size w w' := by
  induction m with
  | zero => intro x cs w d h; omega
  | succ m ih =>
    rintro ⟨k, i, t, ns, xs⟩ cs w d hsm hx hsz hd hT
    rw [V.at_mk] at hx
    obtain ⟨An, cn, Ai, ci, rfl, ⟨hns, hnc⟩, hxs⟩ := hx
    have hszz : 1 + t.size + nsz ns + V.szs xs ≤ 4194304 := by simpa [V.sz] using hsz
    have ht : t.size ≤ 9223372036854775807 := by omega
    have IH := Lib.hid (fun (j : Nat) (h : j < xs.length) (cs : List Value) (w : World) (d : Nat) (hx : xs[j].At w w.heap.size cs) (hd : d ≤ 65) (hT : T.P w) =>
      ih xs[j] cs w d (by have := V.sizeOf_at h; simp only [V.mk.sizeOf_spec] at hsm; omega) hx (by have := V.szs_at h; omega) hd hT)
    have HNV := Lib.hid (fun (j : Nat) (h : j < ns.length) (w : World) (hT : T.P w) => HV w ns[j] (by have := nsz_at h; omega) hT)
    have HT := Lib.hid hT
    rw [chk_mk]
    obtain ⟨C, hC⟩ : ∃ C, chks k ns 0 xs d = C := ⟨_, rfl⟩
    have HC := Lib.hid hC
    rw [hC]
    obtain ⟨F, hF⟩ : ∃ F, fitsB k i t.size ns.length xs.length (validD t.data.toList) = F := ⟨_, rfl⟩
    have HF := Lib.hid hF
    have HPT : Hid (F = true → k = 6 → ns.length = xs.length) := Lib.hid (fun h1 h2 => by
      have h3 := HF.out
      rw [h1, h2] at h3
      unfold fitsB at h3
      simp at h3
      omega)
    rw [hF]
    clear hsm hsz hszz ih hC hF hT
    obtain ⟨nn, hnn⟩ : ∃ n, ns.length = n := ⟨_, rfl⟩
    obtain ⟨ni, hni⟩ : ∃ n, xs.length = n := ⟨_, rfl⟩
    have b1 := hns.1
    have b3 := hxs.1
    have NS := Lib.hid hns
    have XS := Lib.hid hxs
    have HNN := Lib.hid hnn
    have HNI := Lib.hid hni
    rw [hnn] at hnc b1 HF HPT ⊢
    rw [hni] at b3 HF HPT ⊢
    clear hns hxs hnn hni
    obtain ⟨R, hR⟩ : ∃ R, (if most k < (d : Int) then 17 else if F = false then 18 else C) = R := ⟨_, rfl⟩
    have HR := Lib.hid hR
    rw [hR]
    clear hR
    have hwd : IntKind.i64.wrap ((d : Int) + 1) = (d : Int) + 1 := IntWalk.i64_in _ (by omega)
    go_enter Tryz.func124, Tryz.ntmps124
    go_upto_region 1 with fail
    have hB := Lib.hid (Blk.new w 29 #[.int .i64 k, .int .i64 i, .string t, .slice An nn cn, .slice Ai ni ci])
    have HBE := Lib.hid ((Below.refl w.heap.size w).alloc (Nat.le_refl _) (.cells #[.int .i64 k, .int .i64 i, .string t, .slice An nn cn, .slice Ai ni ci] 29))
    obtain ⟨w1, hw1⟩ : ∃ w1, w.alloc (.cells #[.int .i64 k, .int .i64 i, .string t, .slice An nn cn, .slice Ai ni ci] 29) = w1 := ⟨_, rfl⟩
    obtain ⟨g, hg⟩ : ∃ g, w.heap.size = g := ⟨_, rfl⟩
    have HG := Lib.hid hg
    rw [hw1] at hB HBE ⊢
    rw [hg] at hB ⊢
    clear hw1 hg
    generalize Value.agg #[.int .i64 k, .int .i64 i, .string t, .slice An nn cn, .slice Ai ni ci] = va
    go_upto_region 2 with fail
    go_cut [17] from 10 to 16 (fun v wx => v = .bool (decide (k = 5 ∨ k = 6)) ∧ w1 = wx)
    case first =>
      have c0 : w1.cell? ⟨g, 0, none⟩ = some (.int .i64 k) := hB.out.cell 0
      go_wp2
      all_goals
        go_meet
        case rel =>
          refine ⟨congrArg Value.bool ?_, rfl⟩
          clear c0 HF HR HC IH hB HBE HG XS NS HPT HNV HT
          first
            | (simp_all; done)
            | (rw [Bool.eq_iff_iff]; simp)
    case rest =>
      obtain ⟨rfl, rfl⟩ := hcut
      obtain ⟨D, hD⟩ : ∃ D, decide (k = 5 ∨ k = 6) = D := ⟨_, rfl⟩
      have HD := Lib.hid hD
      rw [hD]
      clear hD
      go_upto_if 17 with fail
      go_cut [5] from 18 to 19 (fun v wx => v = .int .i64 (most k) ∧ w1 = wx)
      case first =>
        cases D with
        | true =>
          have hk : Hid (most k = 63) := Lib.hid (by unfold most; rw [if_pos (by simpa using HD.out)])
          go_wp2
          go_meet
          case rel => exact ⟨by rw [hk.out], rfl⟩
        | false =>
          have hk : Hid (most k = 64) := Lib.hid (by unfold most; rw [if_neg (by simpa using HD.out)])
          go_wp2
          go_meet
          case rel => exact ⟨by rw [hk.out], rfl⟩
      case rest =>
        obtain ⟨rfl, rfl⟩ := hcut
        clear HD
        obtain ⟨mo, hmk⟩ : ∃ mo, most k = mo := ⟨_, rfl⟩
        have HMK := Lib.hid hmk
        rw [hmk] at HR ⊢
        clear hmk
        by_cases hmo : mo < (d : Int)
        · have HR2 : Hid (R = 17) := Lib.hid (by rw [← HR.out, if_pos hmo])
          go_wp2
          go_ret
          exact ⟨by rw [HR2.out]; rfl, HBE.out⟩
        · have HR2 : Hid (R = if F = false then 18 else C) := Lib.hid (by rw [← HR.out, if_neg hmo])
          have HMO2 : d ≤ 64 := by have := HMK.out; unfold most at this; split at this <;> omega
          clear HR
          have c0 : w1.cell? ⟨g, 0, none⟩ = some (.int .i64 k) := hB.out.cell 0
          have c1 : w1.cell? ⟨g, 1, none⟩ = some (.int .i64 i) := hB.out.cell 1
          have c2 : w1.cell? ⟨g, 2, none⟩ = some (.string t) := hB.out.cell 2
          have c3 : w1.cell? ⟨g, 3, none⟩ = some (.slice An nn cn) := hB.out.cell 3
          have c4 : w1.cell? ⟨g, 4, none⟩ = some (.slice Ai ni ci) := hB.out.cell 4
          have HFI := Lib.hid (fits_any HV w1 (T.keep w w1 HT.out HBE.out) k i t ht An nn cn Ai ni ci b1 b3)
          rw [HF.out] at HFI
          cases F with
          | false =>
            have HR3 : Hid (R = 18) := Lib.hid (by rw [HR2.out]; rfl)
            go_wp2_with (first | (go_at_call 229; refine HFI.out.mono ?_; rintro e wc ⟨rfl, hbc⟩; have HBC := Lib.hid (bel_next HBE.out hbc); clear hbc c0 c1 c2 c3 c4) | go_in)
            go_ret
            exact ⟨by rw [HR3.out]; rfl, HBC.out⟩
          | true =>
            have hRC : R = C := by rw [HR2.out]; rfl
            subst hRC
            clear HR2
            have hmm := @run_makeMap Tryz.prog
            go_wp2_with (first
              | (go_at_call 229; refine HFI.out.mono ?_; rintro e wc ⟨rfl, hbc⟩
                 have HBC := Lib.hid (bel_next HBE.out hbc)
                 have HB3 := Lib.hid (hB.out.below hbc hB.out.lt)
                 clear hbc c0 c1 c2 c3 c4
                 have c4 : (wc.alloc (.map #[] 0)).cell? ⟨g, 4, none⟩ = some (.slice Ai ni ci) := (HB3.out.alloc _).cell 4)
              | go_in)
            have HM0 := Lib.hid (MAt.made wc)
            have HB4 := Lib.hid (HB3.out.alloc (.map #[] 0))
            have HBD := Lib.hid (HBC.out.alloc HBC.out.size (.map #[] 0))
            have HMB : Hid (w.heap.size ≤ wc.heap.size) := Lib.hid HBC.out.size
            obtain ⟨w2, hw2⟩ : ∃ w2, wc.alloc (.map #[] 0) = w2 := ⟨_, rfl⟩
            obtain ⟨mb, hmb⟩ : ∃ mb, wc.heap.size = mb := ⟨_, rfl⟩
            have HGM : Hid (g ≠ mb) := Lib.hid (by have := HB3.out.lt; omega)
            rw [hw2] at HM0 HB4 HBD ⊢
            rw [hmb] at HM0 HMB ⊢
            clear hw2 hmb c4 hmm HB3 HBC hB HBE HFI
            go_loopw [30] (fun ix wr => ∃ q : Nat, q ≤ ni ∧ ix = .int .i64 q ∧ Hid (Below w.heap.size w wr) ∧ Hid (Blk wr g 29 #[.int .i64 k, .int .i64 i, .string t, .slice An nn cn, .slice Ai ni ci]) ∧ Hid (k = 6 → MAt wr mb (seen (ns.take q))) ∧ Hid (chks k ns q (xs.drop q) d = R)) (fun i _ => ni - (RowKit.intOf i).toNat)
            case atStart => exact ⟨0, Nat.zero_le _, rfl, HBD, HB4, Lib.hid (fun _ => HM0.out), HC⟩
            case round =>
              clear HBD HB4 HM0 HC
              obtain ⟨q, hq, rfl, HBR, HBK, HM, HQ⟩ := hrel
              by_cases hlt : q < ni
              · have hkl : q < xs.length := by have := HNI.out; omega
                have HQ2 := Lib.hid ((chks_at (k := k) (ns := ns) (d := d) hkl).symm.trans HQ.out)
                clear HQ
                obtain ⟨b, off, e0, e1, e2, e3, e4, rfl, hb, hV, p0, p1, p2, p3, p4⟩ := XS.out.val hkl
                obtain ⟨f1, f2, f3, f4, f5, f6, f7, f8, f9, hform⟩ := hV.form
                injection hform with z0 hform
                injection hform with z1 hform
                injection hform with z2 hform
                injection hform with z3 hform
                injection hform with z4 hform
                subst z0 z1 z2 z3 z4
                clear hform
                have q0 := (HBR.out.cell (p := ⟨b, _, none⟩) hb).trans p0
                have q1 := (HBR.out.cell (p := ⟨b, _, none⟩) hb).trans p1
                have q2 := (HBR.out.cell (p := ⟨b, _, none⟩) hb).trans p2
                have q3 := (HBR.out.cell (p := ⟨b, _, none⟩) hb).trans p3
                have q4 := (HBR.out.cell (p := ⟨b, _, none⟩) hb).trans p4
                clear p0 p1 p2 p3 p4
                obtain ⟨E, hE⟩ : ∃ E, chk xs[q] ((d : Int) + 1) = E := ⟨_, rfl⟩
                have HI := Lib.hid (fun (w9 : World) (h9 : Below w.heap.size w w9) => IH.out q hkl _ w9 (d + 1) ((hV.below h9).more h9.size) (by omega) (T.keep w w9 HT.out h9))
                have hde : ((d + 1 : Nat) : Int) = (d : Int) + 1 := by omega
                rw [hde] at HI
                rw [hE] at HI HQ2
                clear hV hE hde
                have hli : (q : Int) < (ni : Int) := by omega
                go_upto_region 12 with fail
                have HH := Lib.hid (Blk.new wr 29 #[.int .i64 f1, .int .i64 f2, .string f3, .slice f4 f5 f6, .slice f7 f8 f9])
                have HBR2 := Lib.hid (HBR.out.alloc HBR.out.size (.cells #[.int .i64 f1, .int .i64 f2, .string f3, .slice f4 f5 f6, .slice f7 f8 f9] 29))
                have HBK2 := Lib.hid (HBK.out.alloc (.cells #[.int .i64 f1, .int .i64 f2, .string f3, .slice f4 f5 f6, .slice f7 f8 f9] 29))
                have HM2 : Hid (k = 6 → MAt (wr.alloc (.cells #[.int .i64 f1, .int .i64 f2, .string f3, .slice f4 f5 f6, .slice f7 f8 f9] 29)) mb (seen (ns.take q)) ∧ wr.heap.size ≠ mb) := Lib.hid (fun h => ⟨(HM.out h).alloc _, by have := (HM.out h).lt; omega⟩)
                obtain ⟨wa, hwa⟩ : ∃ wa, wr.alloc (.cells #[.int .i64 f1, .int .i64 f2, .string f3, .slice f4 f5 f6, .slice f7 f8 f9] 29) = wa := ⟨_, rfl⟩
                obtain ⟨h, hh⟩ : ∃ h, wr.heap.size = h := ⟨_, rfl⟩
                rw [hwa] at HH HBR2 HBK2 HM2 ⊢
                rw [hh] at HH HM2 ⊢
                clear hwa hh q0 q1 q2 q3 q4 HBR HBK HM
                have c0 : wa.cell? ⟨g, 0, none⟩ = some (.int .i64 k) := HBK2.out.cell 0
                by_cases h6 : k = 6
                · have hqn : q < ns.length := by have := HPT.out (by first | rfl | trivial) h6; have := HNN.out; omega
                  obtain ⟨bn, offn, rfl, hbn, hcn⟩ := NS.out.str hqn
                  have hg6 : ns.getD q ByteArray.empty = ns[q] := by rw [List.getD_eq_getElem?_getD, List.getElem?_eq_getElem hqn, Option.getD_some]
                  have Y0 := Lib.hid (hcn q hqn)
                  have HNV2 := Lib.hid (fun (w9 : World) (h9 : Below w.heap.size w w9) => HNV.out q hqn w9 (T.keep w w9 HT.out h9))
                  have HSN := Lib.hid (seen_next hqn)
                  rw [hg6] at HQ2
                  obtain ⟨z, hz⟩ : ∃ z, ns[q] = z := ⟨_, rfl⟩
                  rw [hz] at Y0 HNV2 HQ2 HSN
                  obtain ⟨VN, hVN⟩ : ∃ v, validD z.data.toList = v := ⟨_, rfl⟩
                  obtain ⟨YN, hYN⟩ : ∃ v, hasB (ns.take q) z = v := ⟨_, rfl⟩
                  have HLK := Lib.hid (look_seen z (ns.take q))
                  rw [hVN] at HQ2 HNV2
                  rw [hYN] at HQ2 HLK
                  obtain ⟨HMM, HHM⟩ := HM2.out h6
                  have HM3 := Lib.hid HMM
                  have HHM3 := Lib.hid HHM
                  have h6b : (k == 6) = true := by simp [h6]
                  have hqi : (q : Int) < (nn : Int) := by have := HNN.out; omega
                  have y0 := (HBR2.out.cell (p := ⟨bn, _, none⟩) hbn).trans Y0.out
                  have c3 : wa.cell? ⟨g, 3, none⟩ = some (.slice (some ⟨bn, offn, none⟩) nn cn) := HBK2.out.cell 3
                  have H6 := Lib.hid h6
                  clear h6 hg6 hz hcn hVN hYN HMM HHM HM2
                  cases VN with
                  | false =>
                    have HR2 : Hid (R = 18) := Lib.hid (by rw [← HQ2.out, if_pos ⟨H6.out, rfl⟩])
                    go_wp2_with (first | (go_at_call 230; refine (HNV2.out wa HBR2.out).mono ?_; rintro e w8 ⟨rfl, hb8⟩; have HB8 := Lib.hid (bel_next HBR2.out hb8); clear hb8 c0 c3 y0) | go_in)
                    go_ret
                    exact ⟨by rw [HR2.out]; rfl, HB8.out⟩
                  | true =>
                    have HQ3 := Lib.hid ((if_neg (show ¬ (k = 6 ∧ true = false) by simp)).symm.trans HQ2.out)
                    clear HQ2
                    cases YN with
                    | true =>
                      have HR2 : Hid (R = 16) := Lib.hid (by rw [← HQ3.out, if_pos ⟨H6.out, rfl⟩])
                      go_wp2_with (first
                        | (go_at_call 230; refine (HNV2.out wa HBR2.out).mono ?_; rintro e w8 ⟨rfl, hb8⟩
                           have HB8 := Lib.hid (bel_next HBR2.out hb8)
                           have HK8 := Lib.hid (HBK2.out.below hb8 HBK2.out.lt)
                           have HM8 := Lib.hid (HM3.out.below hb8 HM3.out.lt)
                           clear hb8 c0 c3 y0
                           have y0 := (HB8.out.cell (p := ⟨bn, _, none⟩) hbn).trans Y0.out
                           have c3 : w8.cell? ⟨g, 3, none⟩ = some (.slice (some ⟨bn, offn, none⟩) nn cn) := HK8.out.cell 3)
                        | (at_lookup; refine wpList_look1 _ rfl _ _ 368 rfl 9 3 Tryz.underlying368 Tryz.underlying9 (.int .i64 0) (zero_int _) mb _ rfl HM8.out z rfl (.int .i64 1) (by rw [HLK.out]; rfl) ?_)
                        | go_in)
                      go_ret
                      exact ⟨by rw [HR2.out]; rfl, HB8.out⟩
                    | false =>
                      have HQ4 := Lib.hid ((if_neg (show ¬ (k = 6 ∧ false = true) by simp)).symm.trans HQ3.out)
                      clear HQ3
                      by_cases hE0 : E = 0
                      · have HQ5 := Lib.hid ((if_neg (show ¬ (E ≠ 0) by simpa using hE0)).symm.trans HQ4.out)
                        subst hE0
                        go_wp2_with (first
                        | (go_at_call 230; refine (HNV2.out wa HBR2.out).mono ?_; rintro e w8 ⟨rfl, hb8⟩
                           have HB8 := Lib.hid (bel_next HBR2.out hb8)
                           have HK8 := Lib.hid (HBK2.out.below hb8 HBK2.out.lt)
                           have HM8 := Lib.hid (HM3.out.below hb8 HM3.out.lt)
                           have HH8 := Lib.hid (HH.out.below hb8 HH.out.lt)
                           clear hb8 c0 c3 y0
                           have y0 := (HB8.out.cell (p := ⟨bn, _, none⟩) hbn).trans Y0.out
                           have c3 : w8.cell? ⟨g, 3, none⟩ = some (.slice (some ⟨bn, offn, none⟩) nn cn) := HK8.out.cell 3)
                        | (at_lookup; refine wpList_look1 _ rfl _ _ 368 rfl 9 3 Tryz.underlying368 Tryz.underlying9 (.int .i64 0) (zero_int _) mb _ rfl HM8.out z rfl (.int .i64 0) (by rw [HLK.out]; rfl) ?_)
                        | (at_mapUpdate; refine wpList_put _ rfl _ _ _ 368 rfl 9 3 Tryz.underlying368 Tryz.underlying9 mb _ rfl HM8.out z rfl (.int .i64 1) rfl (by rw [HLK.out]; rfl) ?_
                           have HPG := putMap_grown HM8.out z (.int .i64 1)
                           have HBP := Lib.hid (HB8.out.grown HPG HB8.out.size (fun j hj => by injection hj with hj; have := HMB.out; omega))
                           have HKP := Lib.hid (HK8.out.grown HPG (by have := HGM.out; simpa using this))
                           have HHP := Lib.hid (HH8.out.grown HPG (by have := HHM3.out; simpa using this))
                           have HMP := Lib.hid (putMap_at HM8.out z (.int .i64 1))
                           rw [HSN.out] at HMP
                           clear HPG y0 c3
                           obtain ⟨wp, hwp⟩ : ∃ wp, putMap w8 mb (seen (ns.take q)) z (.int .i64 1) = wp := ⟨_, rfl⟩
                           rw [hwp] at HBP HKP HHP HMP ⊢
                           clear hwp
                           have q0 : wp.cell? ⟨h, 0, none⟩ = some (.int .i64 f1) := HHP.out.cell 0
                           have q1 : wp.cell? ⟨h, 1, none⟩ = some (.int .i64 f2) := HHP.out.cell 1
                           have q2 : wp.cell? ⟨h, 2, none⟩ = some (.string f3) := HHP.out.cell 2
                           have q3 : wp.cell? ⟨h, 3, none⟩ = some (.slice f4 f5 f6) := HHP.out.cell 3
                           have q4 : wp.cell? ⟨h, 4, none⟩ = some (.slice f7 f8 f9) := HHP.out.cell 4)
                        | (go_at_call 124
                           refine (HI.out wp HBP.out).mono ?_
                           rintro e w9 ⟨rfl, hb9⟩
                           have HB9x := Lib.hid hb9
                           have HB9 := Lib.hid (bel_next HBP.out hb9)
                           have HK9 := Lib.hid (HKP.out.below hb9 HKP.out.lt)
                           clear hb9 q0 q1 q2 q3 q4)
                        | go_in)
                        go_roundw
                        case rel => exact ⟨q + 1, by omega, by go_num, HB9, HK9, Lib.hid (fun _ => HMP.out.below HB9x.out HMP.out.lt), HQ5⟩
                        case measure => simp [RowKit.intOf]; omega
                      · have HR2 : Hid (R = E) := Lib.hid (by rw [← HQ4.out, if_pos hE0])
                        have hEb : (E == 0) = false := by simp [hE0]
                        clear hE0
                        go_wp2_with (first
                        | (go_at_call 230; refine (HNV2.out wa HBR2.out).mono ?_; rintro e w8 ⟨rfl, hb8⟩
                           have HB8 := Lib.hid (bel_next HBR2.out hb8)
                           have HK8 := Lib.hid (HBK2.out.below hb8 HBK2.out.lt)
                           have HM8 := Lib.hid (HM3.out.below hb8 HM3.out.lt)
                           have HH8 := Lib.hid (HH.out.below hb8 HH.out.lt)
                           clear hb8 c0 c3 y0
                           have y0 := (HB8.out.cell (p := ⟨bn, _, none⟩) hbn).trans Y0.out
                           have c3 : w8.cell? ⟨g, 3, none⟩ = some (.slice (some ⟨bn, offn, none⟩) nn cn) := HK8.out.cell 3)
                        | (at_lookup; refine wpList_look1 _ rfl _ _ 368 rfl 9 3 Tryz.underlying368 Tryz.underlying9 (.int .i64 0) (zero_int _) mb _ rfl HM8.out z rfl (.int .i64 0) (by rw [HLK.out]; rfl) ?_)
                        | (at_mapUpdate; refine wpList_put _ rfl _ _ _ 368 rfl 9 3 Tryz.underlying368 Tryz.underlying9 mb _ rfl HM8.out z rfl (.int .i64 1) rfl (by rw [HLK.out]; rfl) ?_
                           have HPG := putMap_grown HM8.out z (.int .i64 1)
                           have HBP := Lib.hid (HB8.out.grown HPG HB8.out.size (fun j hj => by injection hj with hj; have := HMB.out; omega))
                           have HKP := Lib.hid (HK8.out.grown HPG (by have := HGM.out; simpa using this))
                           have HHP := Lib.hid (HH8.out.grown HPG (by have := HHM3.out; simpa using this))
                           have HMP := Lib.hid (putMap_at HM8.out z (.int .i64 1))
                           rw [HSN.out] at HMP
                           clear HPG y0 c3
                           obtain ⟨wp, hwp⟩ : ∃ wp, putMap w8 mb (seen (ns.take q)) z (.int .i64 1) = wp := ⟨_, rfl⟩
                           rw [hwp] at HBP HKP HHP HMP ⊢
                           clear hwp
                           have q0 : wp.cell? ⟨h, 0, none⟩ = some (.int .i64 f1) := HHP.out.cell 0
                           have q1 : wp.cell? ⟨h, 1, none⟩ = some (.int .i64 f2) := HHP.out.cell 1
                           have q2 : wp.cell? ⟨h, 2, none⟩ = some (.string f3) := HHP.out.cell 2
                           have q3 : wp.cell? ⟨h, 3, none⟩ = some (.slice f4 f5 f6) := HHP.out.cell 3
                           have q4 : wp.cell? ⟨h, 4, none⟩ = some (.slice f7 f8 f9) := HHP.out.cell 4)
                        | (go_at_call 124
                           refine (HI.out wp HBP.out).mono ?_
                           rintro e w9 ⟨rfl, hb9⟩
                           have HB9x := Lib.hid hb9
                           have HB9 := Lib.hid (bel_next HBP.out hb9)
                           have HK9 := Lib.hid (HKP.out.below hb9 HKP.out.lt)
                           clear hb9 q0 q1 q2 q3 q4)
                        | go_in)
                        go_ret
                        exact ⟨by rw [HR2.out]; rfl, HB9.out⟩
                · have h6b : (k == 6) = false := by simp [h6]
                  have HQ4 := Lib.hid ((if_neg (fun hh => h6 hh.1)).symm.trans ((if_neg (fun hh => h6 hh.1)).symm.trans HQ2.out))
                  have H6 := Lib.hid h6
                  clear h6 HQ2
                  have q0 : wa.cell? ⟨h, 0, none⟩ = some (.int .i64 f1) := HH.out.cell 0
                  have q1 : wa.cell? ⟨h, 1, none⟩ = some (.int .i64 f2) := HH.out.cell 1
                  have q2 : wa.cell? ⟨h, 2, none⟩ = some (.string f3) := HH.out.cell 2
                  have q3 : wa.cell? ⟨h, 3, none⟩ = some (.slice f4 f5 f6) := HH.out.cell 3
                  have q4 : wa.cell? ⟨h, 4, none⟩ = some (.slice f7 f8 f9) := HH.out.cell 4
                  by_cases hE0 : E = 0
                  · have HQ5 := Lib.hid ((if_neg (show ¬ (E ≠ 0) by simpa using hE0)).symm.trans HQ4.out)
                    subst hE0
                    go_wp2_with (first
                    | (go_at_call 124
                       refine (HI.out wa HBR2.out).mono ?_
                       rintro e w9 ⟨rfl, hb9⟩
                       have HB9x := Lib.hid hb9
                       have HB9 := Lib.hid (bel_next HBR2.out hb9)
                       have HK9 := Lib.hid (HBK2.out.below hb9 HBK2.out.lt)
                       clear hb9 q0 q1 q2 q3 q4)
                    | go_in)
                    go_roundw
                    case rel => exact ⟨q + 1, by omega, by go_num, HB9, HK9, Lib.hid (fun h6 => absurd h6 H6.out), HQ5⟩
                    case measure => simp [RowKit.intOf]; omega
                  · have HR2 : Hid (R = E) := Lib.hid (by rw [← HQ4.out, if_pos hE0])
                    have hEb : (E == 0) = false := by simp [hE0]
                    clear hE0
                    go_wp2_with (first
                    | (go_at_call 124
                       refine (HI.out wa HBR2.out).mono ?_
                       rintro e w9 ⟨rfl, hb9⟩
                       have HB9x := Lib.hid hb9
                       have HB9 := Lib.hid (bel_next HBR2.out hb9)
                       have HK9 := Lib.hid (HBK2.out.below hb9 HBK2.out.lt)
                       clear hb9 q0 q1 q2 q3 q4)
                    | go_in)
                    go_ret
                    exact ⟨by rw [HR2.out]; rfl, HB9.out⟩
              · obtain rfl : q = ni := by omega
                have HR2 : Hid (R = 0) := Lib.hid (by
                  rw [← HQ.out, ← HNI.out]
                  exact chks_end)
                go_wp2
                go_ret
                exact ⟨by rw [HR2.out]; rfl, HBR.out⟩
end Go.Proofs.YtnckhmfajjcgpaaGreatDoor.Mt
