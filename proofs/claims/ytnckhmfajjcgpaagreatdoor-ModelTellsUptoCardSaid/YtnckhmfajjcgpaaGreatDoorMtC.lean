/- The document's check, walked. -/
import Derived.Test.YtnckhmfajjcgpaaGreatDoorMtB
import Derived.Deep.CutBlock
import Derived.Test.YtnckhmfajjcgpaaGreatDoorMtA
import Derived.Deep.CutRange
import Derived.Laws.BytesString
import Derived.Laws.Cells
import Derived.Laws.Concat
import Derived.BigRegion
import Derived.Deep.RegionWith
import Derived.Deep.DrawnRows
import Derived.Lib.AppendStr
import Derived.Laws.IdiomStrings
import Derived.Lib.OthersKept
set_option linter.unusedVariables false
set_option linter.unusedSimpArgs false
set_option linter.unusedSectionVars false
namespace Go.Proofs.YtnckhmfajjcgpaaGreatDoor.Mt
set_option linter.unusedVariables false
open Go.RowKit Go.Lib
theorem Lst.take {α : Type} {n : Nat} {R : α → List Value → Prop} {w : World} {B : Nat} {A : Option Addr} {l : List α} (h : Lst n R w B A l) (q : Nat) : Lst n R w B A (l.take q) :=
  ⟨by rw [List.length_take]; have := h.1; omega, fun hl => by
    have hl' : 0 < l.length := by rw [List.length_take] at hl; omega
    obtain ⟨b, off, e, hb, hc⟩ := h.2 hl'
    refine ⟨b, off, e, hb, fun i hi => ?_⟩
    have hi' : i < l.length := by rw [List.length_take] at hi; omega
    obtain ⟨cs, h1, h2, h3⟩ := hc i hi'
    exact ⟨cs, h1, h2, by rw [List.getElem_take]; exact h3⟩⟩
set_option maxRecDepth 100000 in
set_option maxHeartbeats 8000000 in
theorem rchk_any (m : Nat) : ∀ (x : V) (cs : List Value) (w : World) (d : Nat), SizeOf.sizeOf x < m → x.At w w.heap.size cs → x.sz ≤ 4194304 → d ≤ 65 →
    Calls Tryz.prog 127 #[.agg cs.toArray, .int .i64 d] w fun e w' => e = .returned (.int .i64 (chk x d)) ∧ Below w.heap.size w w' := by
  induction m with
  | zero => intro x cs w d h; omega
  | succ m ih =>
    rintro ⟨k, i, t, ns, xs⟩ cs w d hsm hx hsz hd
    rw [V.at_mk] at hx
    obtain ⟨An, cn, Ai, ci, rfl, ⟨hns, hnc⟩, hxs⟩ := hx
    have hszz : 1 + t.size + nsz ns + V.szs xs ≤ 4194304 := by simpa [V.sz] using hsz
    have ht : t.size ≤ 9223372036854775807 := by omega
    have IH := Lib.hid (fun (j : Nat) (h : j < xs.length) (cs : List Value) (w : World) (d : Nat) (hx : xs[j].At w w.heap.size cs) (hd : d ≤ 65) =>
      ih xs[j] cs w d (by have := V.sizeOf_at h; simp only [V.mk.sizeOf_spec] at hsm; omega) hx (by have := V.szs_at h; omega) hd)
    have NSZ := Lib.hid (fun (j : Nat) (h : j < ns.length) => (show ns[j].size ≤ 9223372036854775807 by have := nsz_at h; omega))
    rw [chk_mk]
    obtain ⟨C, hC⟩ : ∃ C, chks k ns 0 xs d = C := ⟨_, rfl⟩
    have HC := Lib.hid hC
    rw [hC]
    obtain ⟨F, hF⟩ : ∃ F, fitsB k i t.size ns.length xs.length (validD t.data.toList) = F := ⟨_, rfl⟩
    have HF := Lib.hid ((fits_plain k i t.size ns.length xs.length (validD t.data.toList) (fun h0 => by rw [str_empty h0]; rfl)).symm.trans hF)
    rw [hF]
    clear hsm hsz hszz ih hC hF
    obtain ⟨nn, hnn⟩ : ∃ n, ns.length = n := ⟨_, rfl⟩
    obtain ⟨ni, hni⟩ : ∃ n, xs.length = n := ⟨_, rfl⟩
    have b1 := hns.1
    have b3 := hxs.1
    have NS := Lib.hid hns
    have XS := Lib.hid hxs
    have HNN := Lib.hid hnn
    have HNI := Lib.hid hni
    rw [hnn] at hnc b1 HF ⊢
    rw [hni] at b3 HF ⊢
    clear hns hxs hnn hni
    obtain ⟨R, hR⟩ : ∃ R, (if most k < (d : Int) then 17 else if F = false then 18 else C) = R := ⟨_, rfl⟩
    have HR := Lib.hid hR
    rw [hR]
    clear hR
    go_enter Tryz.func127, Tryz.ntmps127
    go_upto_region 1 with fail
    have hB := Lib.hid (Blk.new w 29 #[.int .i64 k, .int .i64 i, .string t, .slice An nn cn, .slice Ai ni ci])
    have HBE := Lib.hid ((Below.refl w.heap.size w).alloc (Nat.le_refl _) (.cells #[.int .i64 k, .int .i64 i, .string t, .slice An nn cn, .slice Ai ni ci] 29))
    obtain ⟨w1, hw1⟩ : ∃ w1, w.alloc (.cells #[.int .i64 k, .int .i64 i, .string t, .slice An nn cn, .slice Ai ni ci] 29) = w1 := ⟨_, rfl⟩
    obtain ⟨g, hg⟩ : ∃ g, w.heap.size = g := ⟨_, rfl⟩
    have HG := Lib.hid hg
    rw [hw1] at hB HBE ⊢
    rw [hg] at hB ⊢
    clear hw1 hg
    generalize Value.agg #[.int .i64 k, .int .i64 i, .string t, .slice An nn cn, .slice Ai ni ci] = v0
    go_cut [5] from 8 to 15 (fun v wx => v = .bool (decide (k = 5 ∨ k = 6)) ∧ w1 = wx)
    case first =>
      have c0 : w1.cell? ⟨g, 0, none⟩ = some (.int .i64 k) := hB.out.cell 0
      go_wp2
      all_goals
        go_meet
        case rel =>
          refine ⟨congrArg Value.bool ?_, rfl⟩
          clear c0 HF HR HC IH hB HBE HG XS NS
          first
            | (simp_all; done)
            | (rw [Bool.eq_iff_iff]; simp)
    case rest =>
      obtain ⟨rfl, rfl⟩ := hcut
      obtain ⟨D, hD⟩ : ∃ D, decide (k = 5 ∨ k = 6) = D := ⟨_, rfl⟩
      have HD := Lib.hid hD
      rw [hD]
      clear hD
      by_cases hmo : most k < (d : Int)
      · have hR : R = 17 := by rw [← HR.out, if_pos hmo]
        have HR2 := Lib.hid hR
        clear hR
        cases D with
        | true =>
          have hk : k = 5 ∨ k = 6 := by simpa using HD.out
          have hm2 : (63 : Int) < d := by unfold most at hmo; rw [if_pos hk] at hmo; exact hmo
          clear hk hmo HD
          have hd2 : d = 64 ∨ d = 65 := by omega
          clear hm2
          rcases hd2 with rfl | rfl
          · go_wp2
            go_ret
            exact ⟨by rw [HR2.out]; rfl, HBE.out⟩
          · go_wp2
            go_ret
            exact ⟨by rw [HR2.out]; rfl, HBE.out⟩
        | false =>
          have hk : ¬ (k = 5 ∨ k = 6) := by simpa using HD.out
          have hm2 : (64 : Int) < d := by unfold most at hmo; rw [if_neg hk] at hmo; exact hmo
          clear hk hmo HD
          go_wp2
          go_ret
          exact ⟨by rw [HR2.out]; rfl, HBE.out⟩
      · have hR : R = if F = false then 18 else C := by rw [← HR.out, if_neg hmo]
        have HR2 := Lib.hid hR
        clear hR HR
        have hd64 : d ≤ 64 := by unfold most at hmo; split at hmo <;> omega
        go_upto_region 2 with fail
        go_cut [24] from 16 to 23 (fun v wx => v = .bool false ∧ w1 = wx)
        case first =>
          cases D with
          | true =>
            have hk : k = 5 ∨ k = 6 := by simpa using HD.out
            have hm2 : ¬ (63 : Int) < d := by unfold most at hmo; rw [if_pos hk] at hmo; exact hmo
            have hm3 : ¬ (64 : Int) < d := by omega
            have hm4 : ((d : Int) == 64) = false := by simp; omega
            clear hk hmo HD
            go_wp2
            all_goals
              go_meet
              case rel => exact ⟨rfl, rfl⟩
          | false =>
            have hk : ¬ (k = 5 ∨ k = 6) := by simpa using HD.out
            have hm2 : ¬ (64 : Int) < d := by unfold most at hmo; rw [if_neg hk] at hmo; exact hmo
            clear hk hmo HD
            go_wp2
            all_goals
              go_meet
              case rel => exact ⟨rfl, rfl⟩
        case rest =>
          obtain ⟨rfl, rfl⟩ := hcut
          clear HD hmo
          have c0 : w1.cell? ⟨g, 0, none⟩ = some (.int .i64 k) := hB.out.cell 0
          have c1 : w1.cell? ⟨g, 1, none⟩ = some (.int .i64 i) := hB.out.cell 1
          have c2 : w1.cell? ⟨g, 2, none⟩ = some (.string t) := hB.out.cell 2
          have c3 : w1.cell? ⟨g, 3, none⟩ = some (.slice An nn cn) := hB.out.cell 3
          have c4 : w1.cell? ⟨g, 4, none⟩ = some (.slice Ai ni ci) := hB.out.cell 4
          have HP := Lib.hid (plain_any w1 k i t An nn cn Ai ni ci b1 b3)
          have HCL := Lib.hid (fun w => clean_any w t ht)
          obtain ⟨P, hP⟩ : ∃ P, plainB k i t.size nn ni = P := ⟨_, rfl⟩
          obtain ⟨v, hv⟩ : ∃ v, validD t.data.toList = v := ⟨_, rfl⟩
          rw [hP] at HP HF
          rw [hv] at HF
          have HCL2 : Hid (∀ w, Calls Tryz.prog 234 #[.string t] w fun e w' => e = .returned (.bool v) ∧ w' = w) := Lib.hid (fun w => hv ▸ HCL.out w)
          have HPB := Lib.hid hP
          clear HCL hP hv
          go_upto_region 4 with fail
          go_cut [43] from 25 to 42 (fun u wx => u = .bool (!F) ∧ Hid (Below w1.heap.size w1 wx))
          case first =>
            by_cases hk0 : k < 0
            · have hF2 : Hid (F = false) := Lib.hid (by rw [← HF.out]; have : ¬ (0 ≤ k ∧ k ≤ 6) := by omega
                                                        simp [this])
              go_wp2
              go_meet
              case rel => exact ⟨by rw [hF2.out]; rfl, Lib.hid (Below.refl _ _)⟩
            · by_cases hk6 : 6 < k
              · have hF2 : Hid (F = false) := Lib.hid (by rw [← HF.out]; have : ¬ (0 ≤ k ∧ k ≤ 6) := by omega
                                                          simp [this])
                go_wp2
                go_meet
                case rel => exact ⟨by rw [hF2.out]; rfl, Lib.hid (Below.refl _ _)⟩
              · cases P with
                | false =>
                  have hF2 : Hid (F = false) := Lib.hid (by rw [← HF.out]; simp)
                  go_wp2_with (first
                    | (go_at_call 233; refine HP.out.mono ?_; rintro e w9 ⟨rfl, hb9⟩
                       have HB9 := Lib.hid hb9
                       clear hb9 c0 c1 c2 c3 c4)
                    | go_in)
                  go_meet
                  case rel => exact ⟨by rw [hF2.out]; rfl, HB9⟩
                | true =>
                  have hF2 : Hid (v = F) := Lib.hid (by rw [← HF.out]; have : (0 ≤ k ∧ k ≤ 6) := by omega
                                                        simp [this])
                  go_wp2_with (first
                    | (go_at_call 233; refine HP.out.mono ?_; rintro e w9 ⟨rfl, hb9⟩
                       replace c2 := (hb9.cell (p := ⟨g, 2, none⟩) hB.out.lt).trans c2
                       have HB9 := Lib.hid hb9
                       clear hb9 c0 c1 c3 c4)
                    | (go_at_call 234; refine (HCL2.out _).mono ?_; rintro e w8 ⟨rfl, rfl⟩)
                    | go_in)
                  go_meet
                  case rel => exact ⟨by rw [hF2.out], HB9⟩
          case rest =>
            obtain ⟨rfl, HBC⟩ := hcut
            have HPT : Hid (F = true → k = 6 → nn = ni) := Lib.hid (fun hf hk => by
              have h1 := HF.out
              rw [hf] at h1
              have h2 : P = true := by cases P <;> simp_all
              have h3 := HPB.out
              rw [h2, hk] at h3
              unfold plainB at h3
              split at h3
              · cases h3
              · simpa using h3)
            clear HP HCL2 HF HPB c0 c1 c2 c3 c4
            have HBW := Lib.hid (bel_next HBE.out HBC.out)
            have HB3 := Lib.hid (hB.out.below HBC.out hB.out.lt)
            have HGW : Hid (g < wc.heap.size) := Lib.hid HB3.out.lt
            clear hB HBE HBC
            cases F with
            | false =>
              have hR : R = 18 := by rw [HR2.out]; rfl
              have HR3 := Lib.hid hR
              clear hR HR2
              go_wp2
              go_ret
              exact ⟨by rw [HR3.out]; rfl, HBW.out⟩
            | true =>
              have hR : R = C := by rw [HR2.out]; rfl
              subst hR
              clear HR2
              go_wp2
              go_loopw [6] (fun ix wr => ∃ q : Nat, q ≤ ni ∧ ix = .int .i64 q ∧ Hid (Below w.heap.size w wr) ∧ Hid (Blk wr g 29 #[.int .i64 k, .int .i64 i, .string t, .slice An nn cn, .slice Ai ni ci]) ∧ Hid (chks k ns q (xs.drop q) d = R)) (fun i _ => ni - (RowKit.intOf i).toNat)
              case atStart => exact ⟨0, Nat.zero_le _, rfl, HBW, HB3, HC⟩
              case round =>
                clear HBW HB3 HGW HC
                obtain ⟨q, hq, rfl, HBR, HBK, HQ⟩ := hrel
                have c0 : wr.cell? ⟨g, 0, none⟩ = some (.int .i64 k) := HBK.out.cell 0
                have c3 : wr.cell? ⟨g, 3, none⟩ = some (.slice An nn cn) := HBK.out.cell 3
                have c4 : wr.cell? ⟨g, 4, none⟩ = some (.slice Ai ni ci) := HBK.out.cell 4
                by_cases hlt : q < ni
                · have hkl : q < xs.length := by have := HNI.out; omega
                  have HQ2 := Lib.hid ((chks_at (k := k) (ns := ns) (d := d) hkl).symm.trans HQ.out)
                  clear HQ
                  obtain ⟨b, off, e0, e1, e2, e3, e4, rfl, hb, hV, p0, p1, p2, p3, p4⟩ := XS.out.val hkl
                  obtain ⟨f1, f2, f3, f4, f5, f6, f7, f8, f9, hform⟩ := hV.form
                  injection hform with z0 hform
                  injection hform with z1 hform
                  injection hform with z2 hform
                  injection hform with z3 hform
                  injection hform with z4 hform
                  subst z0 z1 z2 z3 z4
                  clear hform
                  have q0 := (HBR.out.cell (p := ⟨b, _, none⟩) hb).trans p0
                  have q1 := (HBR.out.cell (p := ⟨b, _, none⟩) hb).trans p1
                  have q2 := (HBR.out.cell (p := ⟨b, _, none⟩) hb).trans p2
                  have q3 := (HBR.out.cell (p := ⟨b, _, none⟩) hb).trans p3
                  have q4 := (HBR.out.cell (p := ⟨b, _, none⟩) hb).trans p4
                  clear p0 p1 p2 p3 p4
                  have hV1 := (hV.below HBR.out).more HBR.out.size
                  obtain ⟨E, hE⟩ : ∃ E, chk xs[q] ((d : Int) + 1) = E := ⟨_, rfl⟩
                  have HI := Lib.hid (fun (w2 : World) (h2 : V.At w2 w2.heap.size xs[q] [.int .i64 f1, .int .i64 f2, .string f3, .slice f4 f5 f6, .slice f7 f8 f9]) => IH.out q hkl _ w2 (d + 1) h2 (by omega))
                  have hde : ((d + 1 : Nat) : Int) = (d : Int) + 1 := by omega
                  rw [hde] at HI
                  rw [hE] at HI HQ2
                  have HV := Lib.hid hV1
                  clear hV hV1 hE hde
                  have hwr : IntKind.i64.wrap ((d : Int) + 1) = (d : Int) + 1 := IntWalk.i64_in _ (by omega)
                  have hli : (q : Int) < (ni : Int) := by omega
                  obtain ⟨VN, hVN⟩ : ∃ v, validD (ns.getD q ByteArray.empty).data.toList = v := ⟨_, rfl⟩
                  obtain ⟨YN, hYN⟩ : ∃ v, hasB (ns.take q) (ns.getD q ByteArray.empty) = v := ⟨_, rfl⟩
                  rw [hVN, hYN] at HQ2
                  have HVN := Lib.hid hVN
                  have HYN := Lib.hid hYN
                  clear hVN hYN
                  go_upto_region 9 with fail
                  go_cut [62] from 51 to 61 (fun u wx => u = .bool (decide (k = 6) && !VN) ∧ wr = wx)
                  case first =>
                    by_cases h6 : k = 6
                    · have hqn : q < ns.length := by have := HPT.out trivial h6; have := HNN.out; omega
                      obtain ⟨bn, offn, rfl, hbn, hcn⟩ := NS.out.str hqn
                      have y0 := (HBR.out.cell (p := ⟨bn, _, none⟩) hbn).trans (hcn q hqn)
                      have hg : ns.getD q ByteArray.empty = ns[q] := by rw [List.getD_eq_getElem?_getD, List.getElem?_eq_getElem hqn, Option.getD_some]
                      have HCLQ := Lib.hid (clean_any wr ns[q] (NSZ.out q hqn))
                      have hvz : validD ns[q].data.toList = VN := by rw [← hg]; exact HVN.out
                      rw [hvz] at HCLQ
                      obtain ⟨z, hz⟩ : ∃ z, ns[q] = z := ⟨_, rfl⟩
                      rw [hz] at y0 HCLQ
                      have h6b : (k == 6) = true := by simp [h6]
                      have hqi : (q : Int) < (nn : Int) := by have := HNN.out; omega
                      have H6 := Lib.hid h6
                      clear h6 hg hz hcn hvz
                      go_wp2_with (first | (go_at_call 234; refine HCLQ.out.mono ?_; rintro e w8 ⟨rfl, hw8⟩; rw [hw8]; clear hw8) | go_in)
                      go_meet
                      case rel => exact ⟨by rw [decide_eq_true H6.out]; rfl, rfl⟩
                    · have h6b : (k == 6) = false := by simp [h6]
                      have H6 := Lib.hid h6
                      clear h6
                      go_wp2
                      go_meet
                      case rel => exact ⟨by rw [decide_eq_false H6.out]; rfl, rfl⟩
                  case rest =>
                    obtain ⟨rfl, rfl⟩ := hcut
                    by_cases hX : (decide (k = 6) && !VN) = true
                    · have hR : R = 18 := by
                        rw [← HQ2.out, if_pos (by simpa using hX)]
                      have HR2 := Lib.hid hR
                      clear hR
                      rw [hX]
                      go_wp2
                      go_ret
                      exact ⟨by rw [HR2.out]; rfl, HBR.out⟩
                    · have hX2 : (decide (k = 6) && !VN) = false := by simpa using hX
                      have HQ3 := Lib.hid ((if_neg (by simpa using hX)).symm.trans HQ2.out)
                      rw [hX2]
                      clear hX hX2 HQ2
                      go_upto_region 11 with fail
                      go_cut [77] from 63 to 76 (fun u wx => u = .bool (decide (k = 6) && YN) ∧ ∃ nq, wr.drewN nq = wx)
                      case first =>
                        by_cases h6 : k = 6
                        · have hqn : q < ns.length := by have := HPT.out trivial h6; have := HNN.out; omega
                          have hqc : (q : Int) ≤ (cn : Int) := by have := HNN.out; omega
                          have hqc' : q ≤ cn := by omega
                          obtain ⟨bn, offn, rfl, hbn, hcn⟩ := NS.out.str hqn
                          have y0 := (HBR.out.cell (p := ⟨bn, _, none⟩) hbn).trans (hcn q hqn)
                          have hg : ns.getD q ByteArray.empty = ns[q] := by rw [List.getD_eq_getElem?_getD, List.getElem?_eq_getElem hqn, Option.getD_some]
                          have HHAS := Lib.hid (fun (n : Nat) (c : Nat) => has_any (wr.drewN n) (some ⟨bn, offn, none⟩) q c (ns.take q) ns[q] (by rw [List.length_take]; omega)
                            (((NS.out.keep (w' := wr.drewN n) (fun p hp => HBR.out.cell hp) (fun _ _ h => h)).more HBR.out.size).take q))
                          have hyz : hasB (ns.take q) ns[q] = YN := by rw [← hg]; exact HYN.out
                          rw [hyz] at HHAS
                          obtain ⟨z, hz⟩ : ∃ z, ns[q] = z := ⟨_, rfl⟩
                          rw [hz] at y0 HHAS
                          have h6b : (k == 6) = true := by simp [h6]
                          have hqi : (q : Int) < (nn : Int) := by have := HNN.out; omega
                          have H6 := Lib.hid h6
                          clear h6 hg hz hcn hyz
                          go_quiet ((go_at_call 235; exact Calls.quiet_of_same (HHAS.out _ _)))
                          go_wp2
                          go_meet
                          case rel => exact ⟨by rw [decide_eq_true H6.out]; rfl, _, rfl⟩
                        · have h6b : (k == 6) = false := by simp [h6]
                          have H6 := Lib.hid h6
                          clear h6
                          go_quiet (fail)
                          go_wp2
                          go_meet
                          case rel => exact ⟨by rw [decide_eq_false H6.out]; rfl, _, rfl⟩
                      case rest =>
                        obtain ⟨rfl, nq, rfl⟩ := hcut
                        have HBR2 := Lib.hid (bel_drewN2 HBR.out nq)
                        have HV2 : Hid (V.At (wr.drewN nq) (wr.drewN nq).heap.size xs[q] [.int .i64 f1, .int .i64 f2, .string f3, .slice f4 f5 f6, .slice f7 f8 f9]) := Lib.hid (HV.out.below (bel_drewN2 (Below.refl wr.heap.size wr) nq))
                        have HBK2 : Hid (Blk (wr.drewN nq) g 29 #[.int .i64 k, .int .i64 i, .string t, .slice An nn cn, .slice (some ⟨b, off, none⟩) ni ci]) := Lib.hid (HBK.out.drewN nq)
                        replace c0 : (wr.drewN nq).cell? ⟨g, 0, none⟩ = some (.int .i64 k) := c0
                        replace c4 : (wr.drewN nq).cell? ⟨g, 4, none⟩ = some (.slice (some ⟨b, off, none⟩) ni ci) := c4
                        replace q0 : (wr.drewN nq).cell? ⟨b, off + q * 5, none⟩ = some (.int .i64 f1) := q0
                        replace q1 : (wr.drewN nq).cell? ⟨b, off + q * 5 + 1, none⟩ = some (.int .i64 f2) := q1
                        replace q2 : (wr.drewN nq).cell? ⟨b, off + q * 5 + 2, none⟩ = some (.string f3) := q2
                        replace q3 : (wr.drewN nq).cell? ⟨b, off + q * 5 + 3, none⟩ = some (.slice f4 f5 f6) := q3
                        replace q4 : (wr.drewN nq).cell? ⟨b, off + q * 5 + 4, none⟩ = some (.slice f7 f8 f9) := q4
                        clear c3 HBR HV HBK
                        generalize wr.drewN nq = wq at HBR2 HV2 HBK2 c0 c4 q0 q1 q2 q3 q4 ⊢
                        have HCALL := Lib.hid (HI.out wq HV2.out)
                        clear HI HV2
                        by_cases hY : (decide (k = 6) && YN) = true
                        · have hR : R = 16 := by rw [← HQ3.out, if_pos (by simpa using hY)]
                          have HR2 := Lib.hid hR
                          clear hR
                          rw [hY]
                          go_wp2
                          go_ret
                          exact ⟨by rw [HR2.out]; rfl, HBR2.out⟩
                        · have hY2 : (decide (k = 6) && YN) = false := by simpa using hY
                          have HQ4 := Lib.hid ((if_neg (by simpa using hY)).symm.trans HQ3.out)
                          rw [hY2]
                          clear hY hY2 HQ3
                          by_cases hE0 : E = 0
                          · have HQ5 := Lib.hid ((if_neg (by simpa using hE0)).symm.trans HQ4.out)
                            subst hE0
                            go_wp2_with (first
                              | (go_at_call 127
                                 refine HCALL.out.mono ?_
                                 rintro e w9 ⟨rfl, hb9⟩
                                 have HB9 := Lib.hid hb9
                                 clear hb9 c0 c4 q0 q1 q2 q3 q4)
                              | go_in)
                            go_roundw
                            case rel => exact ⟨q + 1, by omega, by go_num, Lib.hid (bel_next HBR2.out HB9.out), Lib.hid (HBK2.out.below HB9.out HBK2.out.lt), HQ5⟩
                            case measure => simp [RowKit.intOf]; omega
                          · have hR : R = E := by rw [← HQ4.out, if_pos hE0]
                            have HR2 := Lib.hid hR
                            have hEb : (E == 0) = false := by simp [hE0]
                            clear hR hE0
                            go_wp2_with (first
                              | (go_at_call 127
                                 refine HCALL.out.mono ?_
                                 rintro e w9 ⟨rfl, hb9⟩
                                 have HB9 := Lib.hid hb9
                                 clear hb9 c0 c4 q0 q1 q2 q3 q4)
                              | go_in)
                            go_ret
                            exact ⟨by rw [HR2.out]; rfl, bel_next HBR2.out HB9.out⟩
                · obtain rfl : q = ni := by omega
                  have hR : R = 0 := by
                    rw [← HQ.out, ← HNI.out]
                    exact chks_end
                  have HR2 := Lib.hid hR
                  clear hR
                  go_wp2
                  go_ret
                  exact ⟨by rw [HR2.out]; rfl, HBR.out⟩
end Go.Proofs.YtnckhmfajjcgpaaGreatDoor.Mt
namespace Go.Proofs.YtnckhmfajjcgpaaGreatDoor.Mt
set_option linter.unusedVariables false
open Go.RowKit Go.Lib
/-- a text of one byte -/
theorem one_byte (w : World) (b : Int) : (convert 152 9 (.slice (some ⟨w.heap.size, 0, none⟩) 1 1)).run Tryz.prog (w.alloc (.cells #[.int .u8 b] 5)) =
    .ok (.string ⟨#[UInt8.ofNat b.toNat]⟩) (w.alloc (.cells #[.int .u8 b] 5)) := by
  rw [run_convert_bytes_string _ _ _ _ _ _ _ Tryz.underlying152 Tryz.underlying5 Tryz.underlying9]
  rw [run_bytesToString _ _ 1 1 [b] (by
    have := run_loadCells_list (P := Tryz.prog) (w := w.alloc (.cells #[.int .u8 b] 5)) ⟨w.heap.size, 0, none⟩ [.int .u8 b] (fun j v hj => by
      rw [show ((⟨w.heap.size, 0, none⟩ : Addr).add j) = ⟨w.heap.size, j, none⟩ by rw [add_lit, Nat.zero_add]]
      rw [(Blk.new w 5 #[.int .u8 b]).cell j]
      simpa using hj)
    exact this)]
  rfl
theorem one_byte_at (w : World) (g : Nat) (b : Int) (h : w.cell? ⟨g, 0, none⟩ = some (.int .u8 b)) : (convert 152 9 (.slice (some ⟨g, 0, none⟩) 1 1)).run Tryz.prog w = .ok (.string ⟨#[UInt8.ofNat b.toNat]⟩) w := by
  rw [run_convert_bytes_string _ _ _ _ _ _ _ Tryz.underlying152 Tryz.underlying5 Tryz.underlying9]
  rw [run_bytesToString _ _ 1 1 [b] (by
    have := run_loadCells_list (P := Tryz.prog) (w := w) ⟨g, 0, none⟩ [.int .u8 b] (fun j v hj => by
      cases j with
      | zero =>
        rw [show ((⟨g, 0, none⟩ : Addr).add 0) = ⟨g, 0, none⟩ by rw [add_lit], h]
        simpa using hj
      | succ j => simp at hj)
    exact this)]
  rfl
set_option maxRecDepth 100000 in
set_option maxHeartbeats 4000000 in
theorem natural_any (m : Nat) : ∀ (n : Nat) (w : World), n < m → n < 18446744073709551616 → Calls Tryz.prog 130 #[.int .u64 n] w fun e w' => e = .returned (.string ⟨(decDigits n).toArray⟩) ∧ Below w.heap.size w w' := by
  induction m with
  | zero => intro n w h; omega
  | succ m ih =>
    intro n w hm hn
    go_enter Tryz.func130, Tryz.ntmps130
    by_cases h10 : n < 10
    · have h10' : (n : Int) < 10 := by omega
      have h1 := one_byte w (48 + (n : Int))
      go_wp2
      go_ret
      refine ⟨?_, (Below.refl w.heap.size w).alloc (Nat.le_refl _) _⟩
      rw [decDigits, dif_pos h10]
      rfl
    · have h10' : ¬ (n : Int) < 10 := by omega
      have hq : IntKind.u64.wrap ((n : Int) / 10) = ((n / 10 : Nat) : Int) := by
        rw [show (n : Int) / 10 = ((n / 10 : Nat) : Int) by omega]
        exact IntWalk.u64_in _ (by omega)
      have HIH := Lib.hid (fun w => ih (n / 10) w (by omega) (by omega))
      clear ih
      obtain ⟨r, hr⟩ : ∃ r, n % 10 = r := ⟨_, rfl⟩
      have hr10 : r < 10 := by omega
      have hm10 : (n : Int).tmod 10 = (r : Int) := by rw [Int.tmod_eq_emod_of_nonneg (by omega)]; omega
      have hw64 : IntKind.u64.wrap (48 + (r : Int)) = 48 + (r : Int) := IntWalk.u64_in _ (by omega)
      have hw8 : IntKind.u8.wrap (48 + (r : Int)) = 48 + (r : Int) := IntWalk.u8_in _ (by omega)
      have h1 := fun w => one_byte w (48 + (r : Int))
      have HD : Hid (decDigits n = decDigits (n / 10) ++ [UInt8.ofNat (48 + (r : Int)).toNat]) := Lib.hid (by
        rw [decDigits, dif_neg h10, hr]
        rw [show (48 + (r : Int)).toNat = 48 + r by omega])
      clear hr
      obtain ⟨S, hS⟩ : ∃ S : ByteArray, (⟨(decDigits (n / 10)).toArray⟩ : ByteArray) = S := ⟨_, rfl⟩
      obtain ⟨D1, hD1⟩ : ∃ D : ByteArray, (⟨#[UInt8.ofNat (48 + (r : Int)).toNat]⟩ : ByteArray) = D := ⟨_, rfl⟩
      have hadd := fun (w : World) => run_string_add_sum (P := Tryz.prog) (w := w) S D1 (by
        have h1 := dec_len 19 (n / 10) (by omega)
        have h2 : S.size = (decDigits (n / 10)).length := by rw [← hS]; rfl
        have h3 : D1.size = 1 := by rw [← hD1]; rfl
        omega)
      have HS := Lib.hid hS
      have HD1 := Lib.hid hD1
      rw [hS] at HIH
      rw [hD1] at h1
      have HX : Hid (∀ (w9 : World), w9.cell? ⟨w.heap.size, 0, none⟩ = some (.int .u8 (48 + (r : Int))) → (convert 152 9 (.slice (some ⟨w.heap.size, 0, none⟩) 1 1)).run Tryz.prog w9 = .ok (.string D1) w9) :=
        Lib.hid (fun w9 h => by rw [one_byte_at w9 w.heap.size (48 + (r : Int)) h, hD1])
      have h2 : ∀ w : World, (convert 152 9 (.slice (some ⟨w.heap.size, 0, none⟩) 1 1)).run Tryz.prog (w.alloc (.cells #[.int .u8 (48 + (r : Int))] 5)).drew = .ok (.string D1) (w.alloc (.cells #[.int .u8 (48 + (r : Int))] 5)).drew := fun w => h1 w.drew
      have HLT : Hid (w.heap.size < (w.alloc (.cells #[.int .u8 (48 + (r : Int))] 5)).drew.heap.size) := Lib.hid (by simp)
      have HCE : Hid ((w.alloc (.cells #[.int .u8 (48 + (r : Int))] 5)).drew.cell? ⟨w.heap.size, 0, none⟩ = some (.int .u8 (48 + (r : Int)))) := Lib.hid (by simp)
      have HB0 : Hid (Below w.heap.size w (w.alloc (.cells #[.int .u8 (48 + (r : Int))] 5)).drew) := Lib.hid (by simpa using ((Below.refl w.heap.size w).alloc (Nat.le_refl _) (.cells #[.int .u8 (48 + (r : Int))] 5)).drew)
      clear hS hD1
      go_upto_region 3 with fail
      go_region_with (go_at_call 130; refine (HIH.out _).mono ?_; rintro e w9 ⟨rfl, hb9⟩; (first | (have hx := HX.out w9 ((hb9.cell (p := ⟨w.heap.size, 0, none⟩) HLT.out).trans HCE.out)) | skip); have HB9 := Lib.hid hb9; clear hb9)
      all_goals
        go_wp2
        go_ret
        refine ⟨?_, ?_⟩
        · rw [HD.out, ← HS.out, ← HD1.out]
          refine congrArg Ending.returned (congrArg Value.string ?_)
          refine ByteArray.ext (Array.toList_inj.1 ?_)
          simp
        · first
            | exact bel_next HB0.out HB9.out
            | exact (show Below w.heap.size w w9 from ⟨HB9.out.os, HB9.out.tape, HB9.out.output, HB9.out.size, HB9.out.block⟩).alloc HB9.out.size _
end Go.Proofs.YtnckhmfajjcgpaaGreatDoor.Mt
namespace Go.Proofs.YtnckhmfajjcgpaaGreatDoor.Mt
set_option linter.unusedVariables false
open Go.RowKit Go.Lib
set_option maxRecDepth 100000 in
set_option maxHeartbeats 4000000 in
theorem digits_any (w : World) (i : Int) (h0 : -9223372036854775808 ≤ i) (h1 : i ≤ 9223372036854775807) :
    Calls Tryz.prog 72 #[.int .i64 i] w fun e w' => e = .returned (.string ⟨(itoa i).toArray⟩) ∧ Below w.heap.size w w' := by
  go_enter Tryz.func72, Tryz.ntmps72
  by_cases hi : i < 0
  · obtain ⟨k, hk⟩ : ∃ k : Nat, i.natAbs = k := ⟨_, rfl⟩
    have HN := Lib.hid (fun w => natural_any _ k w (Nat.lt_succ_self _) (by omega))
    obtain ⟨S, hS⟩ : ∃ S : ByteArray, (⟨(decDigits k).toArray⟩ : ByteArray) = S := ⟨_, rfl⟩
    have HS := Lib.hid hS
    rw [hS] at HN
    have hadd := fun (w : World) => run_string_add_sum (P := Tryz.prog) (w := w) ⟨#[45]⟩ S (by
        have h1 := dec_len 19 k (by omega)
        have h2 : S.size = (decDigits k).length := by rw [← hS]; rfl
        have h3 : (⟨#[45]⟩ : ByteArray).size = 1 := rfl
        omega)
    have e1 : IntKind.i64.wrap (i + 1) = i + 1 := IntWalk.i64_in _ (by omega)
    have e2 : IntKind.i64.wrap (-(i + 1)) = -(i + 1) := IntWalk.i64_in _ (by omega)
    have e3 : IntKind.u64.wrap (-(i + 1)) = -(i + 1) := IntWalk.u64_in _ (by omega)
    have e4 : IntKind.u64.wrap (-(i + 1) + 1) = (k : Int) := by
      rw [show -(i + 1) + 1 = (k : Int) by omega]
      exact IntWalk.u64_in _ (by omega)
    have HI : Hid (itoa i = 45 :: decDigits k) := Lib.hid (by unfold itoa; rw [if_pos hi, hk])
    clear hS hk
    go_wp2_with (first | (go_at_call 130; refine (HN.out _).mono ?_; rintro e w9 ⟨rfl, hb9⟩) | go_in)
    go_ret
    refine ⟨?_, hb9⟩
    rw [HI.out, ← HS.out]
    refine congrArg Ending.returned (congrArg Value.string ?_)
    refine ByteArray.ext (Array.toList_inj.1 ?_)
    simp
  · obtain ⟨k, hk⟩ : ∃ k : Nat, i = k := ⟨i.toNat, by omega⟩
    subst hk
    have HN := Lib.hid (fun w => natural_any _ k w (Nat.lt_succ_self _) (by omega))
    have e3 : IntKind.u64.wrap (k : Int) = (k : Int) := IntWalk.u64_in _ (by omega)
    have HI : Hid (itoa (k : Int) = decDigits k) := Lib.hid (by unfold itoa; rw [if_neg hi]; simp)
    obtain ⟨S, hS⟩ : ∃ S : ByteArray, (⟨(decDigits k).toArray⟩ : ByteArray) = S := ⟨_, rfl⟩
    have HS := Lib.hid hS
    rw [hS] at HN
    clear hS
    go_wp2_with (first | (go_at_call 130; refine (HN.out _).mono ?_; rintro e w9 ⟨rfl, hb9⟩) | go_in)
    go_ret
    exact ⟨by rw [HI.out, HS.out]; rfl, hb9⟩
end Go.Proofs.YtnckhmfajjcgpaaGreatDoor.Mt
namespace Go.Proofs.YtnckhmfajjcgpaaGreatDoor.Mt
set_option linter.unusedVariables false
open Go.RowKit Go.Lib
/-- what stands ahead of an item -/
def sep (k : Int) (ns : List ByteArray) (q : Nat) : List UInt8 := (if 0 < q then [44] else []) ++ (if k = 6 then quo (ns.getD q ByteArray.empty).data.toList ++ [58] else [])
mutual
/-- a value's text -/
def wrt : V → List UInt8
  | .mk k i t ns xs =>
    if k = 0 then [110, 117, 108, 108]
    else if k = 1 then [102, 97, 108, 115, 101]
    else if k = 2 then [116, 114, 117, 101]
    else if k = 3 then itoa i
    else if k = 4 then quo t.data.toList
    else (if k = 6 then 123 else 91) :: (wrts k ns 0 xs ++ [if k = 6 then 125 else 93])
/-- of the items from the q-th on -/
def wrts (k : Int) (ns : List ByteArray) : Nat → List V → List UInt8
  | _, [] => []
  | q, x :: xs => sep k ns q ++ (wrt x ++ wrts k ns (q + 1) xs)
end
theorem wrt_mk (k i : Int) (t : ByteArray) (ns : List ByteArray) (xs : List V) : wrt (.mk k i t ns xs) =
    if k = 0 then [110, 117, 108, 108]
    else if k = 1 then [102, 97, 108, 115, 101]
    else if k = 2 then [116, 114, 117, 101]
    else if k = 3 then itoa i
    else if k = 4 then quo t.data.toList
    else (if k = 6 then 123 else 91) :: (wrts k ns 0 xs ++ [if k = 6 then 125 else 93]) := by rw [wrt]
theorem wrts_at {k : Int} {ns : List ByteArray} {xs : List V} {q : Nat} (h : q < xs.length) : wrts k ns q (xs.drop q) = sep k ns q ++ (wrt xs[q] ++ wrts k ns (q + 1) (xs.drop (q + 1))) := by
  rw [List.drop_eq_getElem_cons h, wrts]
theorem wrts_end {k : Int} {ns : List ByteArray} {xs : List V} : wrts k ns xs.length (xs.drop xs.length) = [] := by
  rw [List.drop_length, wrts]
mutual
/-- every number fits 64 bits -/
def V.rng : V → Prop
  | .mk _ i _ _ xs => (-9223372036854775808 ≤ i ∧ i ≤ 9223372036854775807) ∧ V.rngs xs
def V.rngs : List V → Prop
  | [] => True
  | x :: l => V.rng x ∧ V.rngs l
end
theorem V.rng_mk (k i : Int) (t : ByteArray) (ns : List ByteArray) (xs : List V) : V.rng (.mk k i t ns xs) ↔ (-9223372036854775808 ≤ i ∧ i ≤ 9223372036854775807) ∧ V.rngs xs := by rw [V.rng]
theorem V.rngs_at : ∀ {xs : List V} {q : Nat} (h : q < xs.length), V.rngs xs → V.rng xs[q]
  | x :: l, 0, _, h => by rw [V.rngs] at h; exact h.1
  | x :: l, q + 1, h, hr => by
    rw [V.rngs] at hr
    simpa using V.rngs_at (xs := l) (q := q) (by simpa using h) hr.2
mutual
/-- a value that is checked, as far as its writing hangs on it -/
def V.ok : V → Prop
  | .mk k _ t ns xs => (0 ≤ k ∧ k ≤ 6) ∧ validD t.data.toList = true ∧ (k = 6 → ns.length = xs.length ∧ ∀ q, q < ns.length → validD (ns.getD q ByteArray.empty).data.toList = true) ∧ V.oks xs
def V.oks : List V → Prop
  | [] => True
  | x :: l => V.ok x ∧ V.oks l
end
theorem V.ok_mk (k i : Int) (t : ByteArray) (ns : List ByteArray) (xs : List V) : V.ok (.mk k i t ns xs) ↔ (0 ≤ k ∧ k ≤ 6) ∧ validD t.data.toList = true ∧ (k = 6 → ns.length = xs.length ∧ ∀ q, q < ns.length → validD (ns.getD q ByteArray.empty).data.toList = true) ∧ V.oks xs := by rw [V.ok]
theorem V.oks_at : ∀ {xs : List V} {q : Nat} (h : q < xs.length), V.oks xs → V.ok xs[q]
  | x :: l, 0, _, h => by rw [V.oks] at h; exact h.1
  | x :: l, q + 1, h, hr => by
    rw [V.oks] at hr
    simpa using V.oks_at (xs := l) (q := q) (by simpa using h) hr.2
mutual
theorem ok_of_chk : ∀ (x : V) (d : Int), chk x d = 0 → V.ok x
  | .mk k i t ns xs, d, h => by
    rw [chk_mk] at h
    split at h
    · cases h
    · split at h
      · cases h
      · rename_i h1 h2
        have hf : fitsB k i t.size ns.length xs.length (validD t.data.toList) = true := by simpa using h2
        rw [fits_plain _ _ _ _ _ _ (fun h0 => by rw [str_empty h0]; rfl)] at hf
        simp only [Bool.and_eq_true, decide_eq_true_eq] at hf
        obtain ⟨⟨hk, hp⟩, hv⟩ := hf
        obtain ⟨ho, hn⟩ := oks_of_chks k ns 0 xs d h
        rw [V.ok_mk]
        refine ⟨hk, hv, fun h6 => ?_, ho⟩
        have hl : ns.length = xs.length := by
          subst h6
          unfold plainB at hp
          split at hp
          · cases hp
          · simpa using hp
        exact ⟨hl, fun q hq => hn h6 q (Nat.zero_le _) (by omega)⟩
theorem oks_of_chks : ∀ (k : Int) (ns : List ByteArray) (q : Nat) (xs : List V) (d : Int), chks k ns q xs d = 0 → V.oks xs ∧ (k = 6 → ∀ j, q ≤ j → j < q + xs.length → validD (ns.getD j ByteArray.empty).data.toList = true)
  | k, ns, q, [], d, _ => by
    rw [V.oks]
    exact ⟨trivial, fun _ j h1 h2 => by simp at h2; omega⟩
  | k, ns, q, x :: xs, d, h => by
    rw [chks] at h
    split at h
    · cases h
    · rename_i h1
      split at h
      · cases h
      · split at h
        · rename_i h3
          exact absurd h h3
        · rename_i h3
          have hx := ok_of_chk x (d + 1) (by simpa using h3)
          obtain ⟨ho, hn⟩ := oks_of_chks k ns (q + 1) xs d h
          rw [V.oks]
          refine ⟨⟨hx, ho⟩, fun h6 j hj hj2 => ?_⟩
          by_cases hq : j = q
          · subst hq
            have := h1
            simp only [h6, true_and, Bool.not_eq_false] at this
            exact this
          · exact hn h6 j (by omega) (by simp only [List.length_cons] at hj2; omega)
end
theorem esc_len (c : UInt8) : (esc c).length ≤ 6 := by
  unfold esc
  repeat' split
  all_goals simp
theorem escs_len : ∀ (l : List UInt8), (escs l).length ≤ 6 * l.length
  | [] => by simp [escs]
  | c :: l => by
    have h1 := escs_len l
    have h2 := esc_len c
    have e : escs (c :: l) = esc c ++ escs l := by simp [escs]
    rw [e, List.length_append, List.length_cons]
    omega
theorem quo_len (l : List UInt8) : (quo l).length ≤ 6 * l.length + 2 := by
  have := escs_len l
  unfold quo
  simp only [List.length_cons, List.length_append, List.length_nil]
  omega
theorem bytes_len (t : ByteArray) : t.data.toList.length = t.size := by simp
theorem sep_len (k : Int) (ns : List ByteArray) (q : Nat) : (sep k ns q).length ≤ 4 + 6 * (ns.getD q ByteArray.empty).size := by
  have := quo_len (ns.getD q ByteArray.empty).data.toList
  rw [bytes_len] at this
  unfold sep
  generalize ns.getD q ByteArray.empty = s at this ⊢
  rw [List.length_append]
  split <;> split <;> simp <;> omega
theorem nsz_drop : ∀ (ns : List ByteArray) (q : Nat), (ns.getD q ByteArray.empty).size + nsz (ns.drop (q + 1)) ≤ nsz (ns.drop q)
  | [], q => by simp [nsz]
  | s :: l, 0 => by
    have e : nsz (s :: l) = s.size + 1 + nsz l := by simp [nsz]
    simp [e]
  | s :: l, q + 1 => by simpa using nsz_drop l q
mutual
theorem wrt_len : ∀ (x : V), V.rng x → (wrt x).length + 4 ≤ 25 * V.sz x
  | .mk k i t ns xs, h => by
    rw [V.rng_mk] at h
    have h1 := itoa_len h.1
    have h2 := quo_len t.data.toList
    rw [bytes_len] at h2
    have h3 := wrts_len k ns 0 xs h.2
    rw [List.drop_zero] at h3
    have e : V.sz (.mk k i t ns xs) = 1 + t.size + nsz ns + V.szs xs := by rw [V.sz]
    rw [e, wrt_mk]
    split
    · simp only [List.length_cons, List.length_nil]; omega
    · split
      · simp only [List.length_cons, List.length_nil]; omega
      · split
        · simp only [List.length_cons, List.length_nil]; omega
        · split
          · omega
          · split
            · omega
            · simp only [List.length_cons, List.length_append, List.length_nil]; omega
theorem wrts_len : ∀ (k : Int) (ns : List ByteArray) (q : Nat) (xs : List V), V.rngs xs → (wrts k ns q xs).length ≤ 6 * nsz (ns.drop q) + 25 * V.szs xs
  | k, ns, q, [], _ => by
    rw [wrts]
    simp
  | k, ns, q, x :: xs, h => by
    rw [V.rngs] at h
    have h1 := wrt_len x h.1
    have h2 := wrts_len k ns (q + 1) xs h.2
    have h3 := sep_len k ns q
    have h4 := nsz_drop ns q
    have e : V.szs (x :: xs) = V.sz x + V.szs xs := by rw [V.szs]
    rw [wrts, e]
    simp only [List.length_append, List.length_cons]
    omega
end
end Go.Proofs.YtnckhmfajjcgpaaGreatDoor.Mt
namespace Go.Proofs.YtnckhmfajjcgpaaGreatDoor.Mt
set_option linter.unusedVariables false
open Go.RowKit Go.Lib
def bc (bs : List UInt8) : List Value := bs.map fun b => Value.int .u8 b.toNat
/-- a row of bytes of the call's own, from block B on -/
def Bs (w : World) (B : Nat) (v : Value) (bs : List UInt8) : Prop := w.ownsRow B 5 1 v bs.length (bc bs)
theorem bc_app (a b : List UInt8) : bc (a ++ b) = bc a ++ bc b := by simp [bc]
theorem bc_len (a : List UInt8) : (bc a).length = a.length := by simp [bc]
theorem bc_one (bs : List UInt8) : ∀ u ∈ bc bs, u.oneCell' = true := fun u hu => by
  obtain ⟨_, _, rfl⟩ := List.mem_map.1 hu
  rfl
theorem str_bc (s : ByteArray) : strCells s = bc s.data.toList := rfl
theorem info8 : (Tryz.prog.info? 5).map (fun i => (i.zero, i.size, i.bytes)) = some (some (.int .u8 0), 1, 1) := by kernel_rfl
section
variable {w : World} {B : Nat} {v : Value} {bs : List UInt8}
theorem Bs.drew (h : Bs w B v bs) : Bs w.drew B v bs := World.ownsRow.drew h
theorem Bs.alloc (h : Bs w B v bs) (o : Obj) : Bs (w.alloc o) B v bs := World.ownsRow.alloc h o
theorem wpList_bs_str {ops : Array Oper} {rest : List Oper} {o : Oper} {a : Act} {Q : Exit → Act → World → Prop} (hgd : o.guard = none) (sl x : Operand)
    (ho : o.op = .call { callee := .builtin .append, args := #[sl, x], argTypes := #[152, 9] }) (hs : a.eval sl = v) (hown : Bs w B v bs) (s : ByteArray) (hx : a.eval x = .string s)
    (hb : bs.length + s.size ≤ 140737488355328) (hbase : B ≤ w.heap.size)
    (h : ∀ v' w', Bs w' B v' (bs ++ s.data.toList) → w.grownBy w' v.ownBlock → wpList Tryz.prog ops Q rest (a.put o.dst v') w') : wpList Tryz.prog ops Q (o :: rest) a w := by
  obtain ⟨i0, hi, hz0, hz1, hz2⟩ := info_parts info8
  refine wpList_append_own_string w hgd sl x _ _ ho B 5 i0 Tryz.underlying152 Tryz.underlying9 hi hz0 hz1 hz2 v _ _ hs hown s hx (by unfold maxLen; omega) hb hbase fun v' w' h1 h2 _ => h v' w' ?_ h2
  unfold Bs
  rw [bc_app, List.length_append]
  rw [str_bc] at h1
  simpa using h1
theorem wpList_bs_row {ops : Array Oper} {rest : List Oper} {o : Oper} {a : Act} {Q : Exit → Act → World → Prop} (hgd : o.guard = none) (sl x : Operand)
    (ho : o.op = .call { callee := .builtin .append, args := #[sl, x], argTypes := #[152, 152] }) (hs : a.eval sl = v) (hown : Bs w B v bs) (ad : Addr) (m c : Nat) (ns : List UInt8) (hx : a.eval x = .slice (some ad) m c)
    (hm : ns.length = m) (hn : ∀ j u, (bc ns)[j]? = some u → w.cell? (ad.add j) = some u) (hb : bs.length + m ≤ 140737488355328) (hbase : B ≤ w.heap.size)
    (h : ∀ v' w', Bs w' B v' (bs ++ ns) → w.grownBy w' v.ownBlock → wpList Tryz.prog ops Q rest (a.put o.dst v') w') : wpList Tryz.prog ops Q (o :: rest) a w := by
  obtain ⟨i0, hi, hz0, hz1, hz2⟩ := info_parts info8
  refine wpList_append_own w hgd sl x _ ho B 5 i0 (.int .u8 0) 1 1 Tryz.underlying152 hi hz0 hz1 hz2 rfl (by decide) v _ _ hs hown ad m c (bc ns) hx (by rw [bc_len]; omega) hn (bc_one ns) (by unfold maxLen; omega) (by omega) hbase fun v' w' h1 h2 _ => h v' w' ?_ h2
  unfold Bs
  rw [bc_app, List.length_append, hm]
  exact h1
end
end Go.Proofs.YtnckhmfajjcgpaaGreatDoor.Mt
namespace Go.Proofs.YtnckhmfajjcgpaaGreatDoor.Mt
set_option linter.unusedVariables false
open Go.RowKit Go.Lib
/-- what lies below B, and every block that is no row of bytes, is as it was -/
structure Fr (B : Nat) (w w' : World) : Prop where
  bel : Below B w w'
  oth : OthersKept 5 none w w'
section
variable {B : Nat} {a w w' : World} {v : Value} {bs : List UInt8}
theorem Fr.refl (B : Nat) (w : World) : Fr B w w := ⟨Below.refl _ _, OthersKept.refl _ _ _⟩
theorem Fr.trans (h : Fr B a w) (k : Fr B w w') : Fr B a w' := ⟨h.bel.trans k.bel, h.oth.trans k.oth⟩
theorem Fr.alloc (h : Fr B a w) (hB : B ≤ w.heap.size) (o : Obj) : Fr B a (w.alloc o) := ⟨h.bel.alloc hB o, h.oth.alloc o⟩
theorem Fr.drew (h : Fr B a w) : Fr B a w.drew := ⟨h.bel.drew, h.oth⟩
theorem Fr.drewN (h : Fr B a w) (n : Nat) : Fr B a (w.drewN n) := ⟨bel_drewN2 h.bel n, h.oth⟩
theorem Fr.of_next (h : Below w.heap.size w w') (hB : B ≤ w.heap.size) : Fr B w w' :=
  ⟨h.mono hB, fun k o hk _ _ => (h.block k (Array.getElem?_eq_some_iff.1 hk).1).trans hk⟩
theorem Fr.mono {B' : Nat} (h : Fr B w w') (hB : B' ≤ B) : Fr B' w w' := ⟨h.bel.mono hB, h.oth⟩
theorem Fr.size (h : Fr B w w') : w.heap.size ≤ w'.heap.size := h.bel.size
theorem Fr.blk {g : Nat} {t : TypeId} {cs : Array Value} (h : Fr B w w') (hb : Blk w g t cs) (ht : t ≠ 5) : Blk w' g t cs :=
  h.oth g _ hb (by simp) (fun c fz e => by injection e with _ e; exact ht e)
theorem Fr.iter {k : Nat} {s : ByteArray} {pos : Nat} (h : Fr B w w') (hk : w.heap[k]? = some (.stringIter s pos)) : w'.heap[k]? = some (.stringIter s pos) :=
  h.oth k _ hk (by simp) (fun _ _ e => by cases e)
theorem Bs.kind (h : Bs w B v bs) : ∀ g, v.ownBlock = some g → ∃ c fz, w.heap[g]? = some (.cells c 5 fz) := by
  intro g hg
  rcases h.2 with ⟨rfl, _⟩ | ⟨g', cap, cur, rfl, _, hgg, _⟩
  · simp [Value.ownBlock] at hg
  · simp [Value.ownBlock] at hg
    subst hg
    exact ⟨cur, _, hgg⟩
theorem Fr.own (h : Bs w B v bs) (hg : w.grownBy w' v.ownBlock) (hB : B ≤ w.heap.size) : Fr B w w' :=
  ⟨(Below.refl B w).grown hg hB fun k hk => (World.ownsRow.lt h k hk).1, (OthersKept.refl _ _ _).grown hg (Bs.kind h)⟩
theorem Bs.none (w : World) (B : Nat) : Bs w B (.slice none 0 0) [] := World.ownsRow_nil _ _ _ _
theorem Bs.next (h : Bs w B v bs) (hb : Below w.heap.size w w') : Bs w' B v bs :=
  World.ownsRow.kept (row := Option.none) h ⟨hb.os, hb.tape, hb.output, hb.size, fun k hk _ => hb.block k hk⟩ (by
    cases v.ownBlock with
    | none => exact .inl rfl
    | some g => exact .inr (by simp))
theorem Bs.lit (w : World) (hB : B ≤ w.heap.size) (ns : List UInt8) (cs : Array Value) (hc : cs = (bc ns).toArray) (hm : ns.length ≤ 140737488355328) :
    Bs (w.alloc (.cells cs 5)) B (.slice (some ⟨w.heap.size, 0, .none⟩) ns.length ns.length) ns := by
  subst hc
  refine ⟨by simp [bc_len], .inr ⟨w.heap.size, ns.length, _, rfl, hB, heap_alloc_new w _, Nat.le_refl _, by unfold maxLen; omega, by simp [bc_len], ?_⟩⟩
  have : ns.length * 1 = (bc ns).length := by simp [bc_len]
  simp only [this, List.take_length]
theorem Bs.form (h : Bs w B v bs) (hne : bs ≠ []) : ∃ g c, v = .slice (some ⟨g, 0, .none⟩) bs.length c ∧ B ≤ g ∧ g < w.heap.size ∧ ∀ j u, (bc bs)[j]? = some u → w.cell? ((⟨g, 0, .none⟩ : Addr).add j) = some u := by
  rcases h.2 with ⟨_, h0⟩ | ⟨g, cap, cur, rfl, hBg, hgg, _⟩
  · exact absurd (List.length_eq_zero_iff.1 h0) hne
  · exact ⟨g, cap, rfl, hBg, (Array.getElem?_eq_some_iff.1 hgg).1, World.ownsRow.cells h rfl⟩
theorem bc_get (bs : List UInt8) (j : Nat) (hj : j < bs.length) : (bc bs)[j]? = some (.int .u8 (bs[j].toNat : Int)) := by
  unfold bc
  rw [List.getElem?_map, List.getElem?_eq_getElem hj]
  rfl
theorem Bs.str (h : Bs w B v bs) (hne : bs ≠ []) : (convert 152 9 v).run Tryz.prog w = .ok (.string ⟨bs.toArray⟩) w := by
  obtain ⟨g, c, rfl, _, _, hc⟩ := h.form hne
  exact run_convert_bytes_back w _ _ _ _ _ _ Tryz.underlying152 Tryz.underlying5 Tryz.underlying9 (fun j hj => hc j _ (bc_get bs j hj))
end
section
variable {w : World} {B : Nat} {v : Value} {bs : List UInt8}
/-- append of a text -/
theorem wpList_fr_str {ops : Array Oper} {rest : List Oper} {o : Oper} {a : Act} {Q : Exit → Act → World → Prop} (hgd : o.guard = none) (sl x : Operand)
    (ho : o.op = .call { callee := .builtin .append, args := #[sl, x], argTypes := #[152, 9] }) (hs : a.eval sl = v) (hown : Bs w B v bs) (s : ByteArray) (hx : a.eval x = .string s)
    (hb : bs.length + s.size ≤ 140737488355328) (hbase : B ≤ w.heap.size)
    (h : ∀ v' w', Bs w' B v' (bs ++ s.data.toList) → Fr B w w' → wpList Tryz.prog ops Q rest (a.put o.dst v') w') : wpList Tryz.prog ops Q (o :: rest) a w :=
  wpList_bs_str hgd sl x ho hs hown s hx hb hbase fun v' w' h1 h2 => h v' w' h1 (Fr.own hown h2 hbase)
/-- append of bytes that lie somewhere -/
theorem wpList_fr_row {ops : Array Oper} {rest : List Oper} {o : Oper} {a : Act} {Q : Exit → Act → World → Prop} (hgd : o.guard = none) (sl x : Operand)
    (ho : o.op = .call { callee := .builtin .append, args := #[sl, x], argTypes := #[152, 152] }) (hs : a.eval sl = v) (hown : Bs w B v bs) (ad : Addr) (m c : Nat) (ns : List UInt8) (hx : a.eval x = .slice (some ad) m c)
    (hm : ns.length = m) (hn : ∀ j u, (bc ns)[j]? = some u → w.cell? (ad.add j) = some u) (hb : bs.length + m ≤ 140737488355328) (hbase : B ≤ w.heap.size)
    (h : ∀ v' w', Bs w' B v' (bs ++ ns) → Fr B w w' → wpList Tryz.prog ops Q rest (a.put o.dst v') w') : wpList Tryz.prog ops Q (o :: rest) a w :=
  wpList_bs_row hgd sl x ho hs hown ad m c ns hx hm hn hb hbase fun v' w' h1 h2 => h v' w' h1 (Fr.own hown h2 hbase)
theorem lit_news (w : World) (ns : List UInt8) (cs : Array Value) (hc : cs = (bc ns).toArray) (fr : Nat × Nat := (0, 0)) : ∀ j u, (bc ns)[j]? = some u → (w.alloc (.cells cs 5 fr)).cell? ((⟨w.heap.size, 0, none⟩ : Addr).add j) = some u := by
  subst hc
  intro j u hj
  rw [add_lit, Nat.zero_add, World.cell?_alloc_mark]
  simpa using hj
/-- append of single bytes -/
theorem wpList_fr_lit {ops : Array Oper} {rest : List Oper} {o : Oper} {a : Act} {Q : Exit → Act → World → Prop} (hgd : o.guard = none) (sl x : Operand)
    (ho : o.op = .call { callee := .builtin .append, args := #[sl, x], argTypes := #[152, 152] }) (hs : a.eval sl = v) (hown : Bs w B v bs) (cs : Array Value) (ns : List UInt8) (hc : cs = (bc ns).toArray) (m c : Nat)
    (hx : a.eval x = .slice (some ⟨w.heap.size, 0, none⟩) m c)
    (hm : ns.length = m) (hb : bs.length + m ≤ 140737488355328) (hbase : B ≤ w.heap.size)
    (h : ∀ v' w', Bs w' B v' (bs ++ ns) → Fr B w w' → wpList Tryz.prog ops Q rest (a.put o.dst v') w') : wpList Tryz.prog ops Q (o :: rest) a (w.alloc (.cells cs 5)) :=
  wpList_fr_row hgd sl x ho hs (hown.alloc _) ⟨w.heap.size, 0, none⟩ m c ns hx hm (lit_news w ns cs hc) hb (by simp; omega) fun v' w' h1 h2 => h v' w' h1 (((Fr.refl B w).alloc hbase _).trans h2)
/-- append of single bytes, as a step of a region that draws its order -/
theorem step_fr_lit {ops : Array Oper} {o : Oper} {a : Act} {K : Act → World → Prop} {Q : Exit → Act → World → Prop} {E : Prop} (hgd : o.guard = none) (sl x : Operand)
    (ho : o.op = .call { callee := .builtin .append, args := #[sl, x], argTypes := #[152, 152] }) (hs : a.eval sl = v) (hown : Bs w B v bs) (cs : Array Value) (ns : List UInt8) (hc : cs = (bc ns).toArray) (m c : Nat)
    (hx : a.eval x = .slice (some ⟨w.heap.size, 0, none⟩) m c)
    (hm : ns.length = m) (hb : bs.length + m ≤ 140737488355328) (hbase : B ≤ w.heap.size)
    (h : ∀ v' w', Bs w' B v' (bs ++ ns) → Fr B w w' → K (a.put o.dst v') w') : if Region.wanted o (yielded ops a.tmps) = true then Oper.wp Tryz.prog o a (w.alloc (.cells cs 5)) K Q else E := by
  obtain ⟨i0, hi, hz0, hz1, hz2⟩ := info_parts info8
  refine step_append_any _ hgd sl x _ ho B 5 i0 (.int .u8 0) 1 1 Tryz.underlying152 hi hz0 hz1 hz2 rfl (by decide) v bs.length (bc bs) hs (hown.alloc _) (w.heap.size + 1) (some ⟨w.heap.size, 0, none⟩) m c (bc ns) hx
    ⟨by rw [bc_len]; omega, fun _ => ⟨_, rfl, Nat.lt_succ_self _, lit_news w ns cs hc⟩⟩ (bc_one ns) (by unfold maxLen; omega) (by omega) (by simp; omega) fun v' w' h1 h2 _ => h v' w' ?_ (((Fr.refl B w).alloc hbase _).trans (Fr.own (hown.alloc _) h2 (by simp; omega)))
  unfold Bs
  rw [bc_app, List.length_append, hm]
  exact h1
end
end Go.Proofs.YtnckhmfajjcgpaaGreatDoor.Mt
