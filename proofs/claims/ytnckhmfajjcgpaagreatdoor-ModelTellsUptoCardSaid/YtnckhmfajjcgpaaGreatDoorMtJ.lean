/- The program's Page, walked. -/
import Derived.Test.YtnckhmfajjcgpaaGreatDoorMtI
set_option linter.unusedVariables false
set_option linter.unusedSimpArgs false
set_option linter.unusedSectionVars false
namespace Go.Proofs.YtnckhmfajjcgpaaGreatDoor.Mt
set_option linter.unusedVariables false
open Go.RowKit Go.Lib
theorem listed_app {q : Nat} {ds : List D} (h : q < ds.length) : (ds.map D.told).take (q + 1) = (ds.map D.told).take q ++ [docV ds[q].id ds[q].ver ds[q].v] := told_take h
set_option maxRecDepth 100000 in
set_option maxHeartbeats 16000000 in
theorem mpage_any {C0 : Nat} {bt : Int → ByteArray} (HBAD : BadOk 26 bt) (w : World) (hT : TbP C0 w) (A : Option Addr) (n c : Nat) (ds : List D) (fl : Bool) (hn : ds.length = n) (h : Lst 7 (DocR w w.heap.size) w w.heap.size A ds) (hsz : (pgV ds fl).sz ≤ 4194304) (hrg : (pgV ds fl).rng) :
    Calls Tryz.prog 8 #[.slice A n c, .bool fl] w fun e w' => e = .returned (.string (good bt (pgV ds fl))) ∧ Below w.heap.size w w' := by
  have hm : n ≤ 1048576 := by rw [← hn]; exact h.1
  have HT := Lib.hid hT
  have HRG := Lib.hid hrg
  have HSZ := Lib.hid hsz
  have HBD := Lib.hid HBAD
  have HN := Lib.hid hn
  have H := Lib.hid h
  have HM := Lib.hid hm
  obtain ⟨i2, hj, hz0, hz1, hz2⟩ := info_parts infoV
  obtain ⟨G, hG⟩ : ∃ G, good bt (pgV ds fl) = G := ⟨_, rfl⟩
  have HG := Lib.hid hG
  rw [hG]
  have HFL := Lib.hid (fun w => flag_any w fl)
  obtain ⟨kf, hkf⟩ : ∃ kf : Int, (if fl = true then 2 else 1) = kf := ⟨_, rfl⟩
  rw [hkf] at HFL
  have HKF : Hid (∀ (W : World) (C : Nat), V.At W C (flagV fl) [.int .i64 kf, .int .i64 0, .string ⟨#[]⟩, .slice none 0 0, .slice none 0 0]) := Lib.hid (fun W C => by unfold flagV; rw [hkf]; exact leaf_at W C kf 0 ⟨#[]⟩)
  clear hT hn h hsz hrg HBAD hG hkf
  go_enter Tryz.func8, Tryz.ntmps8
  go_wp2
  go_loopw [5, 10] (fun v ix wr => ∃ q : Nat, q ≤ n ∧ ix = .int .i64 q ∧ Hid (RowV none wr w.heap.size v ((ds.map D.told).take q)) ∧ Hid (Below w.heap.size w wr)) (fun _ i _ => n - (RowKit.intOf i).toNat)
  case atStart => exact ⟨0, Nat.zero_le _, rfl, Lib.hid (RowV.none none w _), Lib.hid (Below.refl _ _)⟩
  case round =>
    obtain ⟨q, hq, rfl, HR, HB⟩ := hrel
    by_cases hlt : q < n
    · have hkl : q < ds.length := by have := HN.out; omega
      have hli : (q : Int) < (n : Int) := by omega
      obtain ⟨b, off, e0, e1, e2, e3, e4, rfl, hb, hV, p0, p1, p2, p3, p4, p5, p6⟩ := H.out.doc hkl
      obtain ⟨f1, f2, f3, f4, f5, f6, f7, f8, f9, hform⟩ := hV.form
      injection hform with z0 hform
      injection hform with z1 hform
      injection hform with z2 hform
      injection hform with z3 hform
      injection hform with z4 hform
      subst z0 z1 z2 z3 z4
      clear hform
      have HAP := Lib.hid (listed_app hkl)
      obtain ⟨id, hid⟩ : ∃ z, ds[q].id = z := ⟨_, rfl⟩
      obtain ⟨ver, hver⟩ : ∃ z, ds[q].ver = z := ⟨_, rfl⟩
      obtain ⟨x, hx⟩ : ∃ z, ds[q].v = z := ⟨_, rfl⟩
      rw [hid, hver, hx] at HAP
      rw [hid] at p0
      rw [hver] at p1
      rw [hx] at hV
      clear hid hver hx
      have q0 := (HB.out.cell (p := ⟨b, _, none⟩) hb).trans p0
      have q1 := (HB.out.cell (p := ⟨b, _, none⟩) hb).trans p1
      have q2 := (HB.out.cell (p := ⟨b, _, none⟩) hb).trans p2
      have q3 := (HB.out.cell (p := ⟨b, _, none⟩) hb).trans p3
      have q4 := (HB.out.cell (p := ⟨b, _, none⟩) hb).trans p4
      have q5 := (HB.out.cell (p := ⟨b, _, none⟩) hb).trans p5
      have q6 := (HB.out.cell (p := ⟨b, _, none⟩) hb).trans p6
      have HV := Lib.hid hV
      clear hV p0 p1 p2 p3 p4 p5 p6
      go_upto_region 5 with fail
      have FD := Lib.hid (Blk.new wr 31 #[.string id, .int .i64 ver, .int .i64 f1, .int .i64 f2, .string f3, .slice f4 f5 f6, .slice f7 f8 f9])
      have HRa := Lib.hid (HR.out.next (below_alloc wr (.cells #[.string id, .int .i64 ver, .int .i64 f1, .int .i64 f2, .string f3, .slice f4 f5 f6, .slice f7 f8 f9] 31)))
      have HBa := Lib.hid (HB.out.alloc HB.out.size (.cells #[.string id, .int .i64 ver, .int .i64 f1, .int .i64 f2, .string f3, .slice f4 f5 f6, .slice f7 f8 f9] 31))
      obtain ⟨wa, hwa⟩ : ∃ wa, wr.alloc (.cells #[.string id, .int .i64 ver, .int .i64 f1, .int .i64 f2, .string f3, .slice f4 f5 f6, .slice f7 f8 f9] 31) = wa := ⟨_, rfl⟩
      obtain ⟨hh, hhe⟩ : ∃ hh, wr.heap.size = hh := ⟨_, rfl⟩
      rw [hwa] at FD HRa HBa ⊢
      rw [hhe] at FD ⊢
      clear hwa hhe q0 q1 q2 q3 q4 q5 q6 HR HB
      have x0 : wa.cell? ⟨hh, 0, none⟩ = some (.string id) := FD.out.cell 0
      have x1 : wa.cell? ⟨hh, 1, none⟩ = some (.int .i64 ver) := FD.out.cell 1
      have x2 : wa.cell? ⟨hh, 2, none⟩ = some (.int .i64 f1) := FD.out.cell 2
      have x3 : wa.cell? ⟨hh, 3, none⟩ = some (.int .i64 f2) := FD.out.cell 3
      have x4 : wa.cell? ⟨hh, 4, none⟩ = some (.string f3) := FD.out.cell 4
      have x5 : wa.cell? ⟨hh, 5, none⟩ = some (.slice f4 f5 f6) := FD.out.cell 5
      have x6 : wa.cell? ⟨hh, 6, none⟩ = some (.slice f7 f8 f9) := FD.out.cell 6
      have hql : ((ds.map D.told).take q).length = q := by rw [List.length_take, List.length_map]; have := HN.out; omega
      obtain ⟨news, hrow, hflat⟩ := HRa.out
      rw [hql] at hrow
      have HROW := Lib.hid hrow
      have HFLAT := Lib.hid hflat
      have HQL := Lib.hid hql
      clear hrow hflat hql HRa
      go_wp2_with (first
        | (go_at_call 18
           refine (mtold_any wa id ver _ x w w.heap.size HV.out).mono ?_
           rintro e w9 ⟨A1, d1, A2, d2, rfl, hd1, hl1, hl2, hb9⟩
           have HB9 := Lib.hid (bel_next HBa.out hb9)
           have HBT := Lib.hid hb9
           have HD1 := Lib.hid hd1
           have HL1 := Lib.hid hl1
           have HL2 := Lib.hid hl2
           have HO9 := Lib.hid ((own_next HROW.out hb9).alloc (.cells #[.int .i64 6, .int .i64 0, .string ⟨#[]⟩, .slice A1 3 d1, .slice A2 3 d2] 29))
           clear hd1 hl1 hl2 hb9 x0 x1 x2 x3 x4 x5 x6)
        | (at_builtin
           refine wpList_append_any _ rfl _ _ 27 rfl w.heap.size 29 i2 _ 5 80 Tryz.underlying27 hj hz0 hz1 hz2 rfl (by decide) _ q news rfl HO9.out (w9.heap.size + 1) (some ⟨w9.heap.size, 0, none⟩) 1 1 [.int .i64 6, .int .i64 0, .string ⟨#[]⟩, .slice A1 3 d1, .slice A2 3 d2] rfl ⟨rfl, fun _ => ⟨_, rfl, Nat.lt_succ_self _, fun j u hu => by rw [add_lit, Nat.zero_add, (Blk.new w9 29 _).cell j]; simpa using hu⟩⟩ (by intro u hu; simp at hu; rcases hu with rfl | rfl | rfl | rfl | rfl <;> rfl) (by unfold maxLen; omega) (by omega) (Nat.le_trans HB9.out.size (by simp)) ?_
           intro v w5 hown hgrow hloc)
        | go_in)
      go_roundw
      case rel =>
        refine ⟨q + 1, by omega, by go_num, Lib.hid ?_, Lib.hid ?_⟩
        · rw [HAP.out]
          have hvb : ∀ g, u5.ownBlock = some g → w.heap.size ≤ g ∧ g < wa.heap.size := World.ownsRow.lt HROW.out
          refine RowV.push (W := w9.alloc (.cells #[.int .i64 6, .int .i64 0, .string ⟨#[]⟩, .slice A1 3 d1, .slice A2 3 d2] 29)) ?_ hgrow hloc ?_ (by rw [HQL.out]; exact hown)
          · refine HFLAT.out.imp fun y cs hy => hy.mono (Nat.le_trans HBT.out.size (by simp)) (off_next ?_)
            exact HBT.out.alloc HBT.out.size _
          · have hnew : ∀ {R : Nat}, Mono (new wa.heap.size w9) (Mt.off none u5 (w9.alloc (.cells #[.int .i64 6, .int .i64 0, .string ⟨#[]⟩, .slice A1 3 d1, .slice A2 3 d2] 29))) := fun {R} => only_mono fun b h1 h2 => by
              have h0 : wa.heap.size ≤ b := of_decide_eq_true h1
              refine ⟨decide_eq_true ⟨fun e => ?_, by simp⟩, Below.heap_alloc _ _ _ h2⟩
              have := (hvb b e.symm).2
              omega
            refine obj_at (W := w) (C := w.heap.size) rfl rfl HD1.out (HL1.out.mono (hnew (R := 0)) (by simp) fun _ _ h => h) (HL2.out.mono (hnew (R := 0)) (by simp) fun _ _ h => h) (mono_off (HB9.out.alloc HB9.out.size _) (fun b hb => (hvb b hb).1) (fun b e => by cases e)) (Nat.le_trans HB9.out.size (by simp))
        · exact (HB9.out.alloc HB9.out.size _).grown hgrow (Nat.le_trans HB9.out.size (by simp)) fun k hk => (World.ownsRow.lt HROW.out k hk).1
      case measure => simp [RowKit.intOf]; omega
    · obtain rfl : q = n := by omega
      have hall : (ds.map D.told).take q = ds.map D.told := List.take_of_length_le (by rw [List.length_map]; have := HN.out; omega)
      rw [hall] at HR
      have hdl : (ds.map D.told).length = q := by rw [List.length_map]; exact HN.out
      obtain ⟨A9, c9, hv9, hc9, hl9⟩ := HR.out.lst (by rw [hdl]; exact HM.out)
      rw [hdl] at hv9 hc9
      have HL9 := Lib.hid hl9
      have HDL := Lib.hid hdl
      subst hv9
      clear hall hdl hl9 hc9 HR
      have FN := Lib.hid (Blk.new wr 9 #[.string ⟨#[100, 111, 99, 115]⟩, .string ⟨#[100, 111, 110, 101]⟩])
      have HBN := Lib.hid (HB.out.alloc HB.out.size (.cells #[.string ⟨#[100, 111, 99, 115]⟩, .string ⟨#[100, 111, 110, 101]⟩] 9))
      have HLI := Lib.hid (listed_any (wr.alloc (.cells #[.string ⟨#[100, 111, 99, 115]⟩, .string ⟨#[100, 111, 110, 101]⟩] 9)) A9 q c9 wr.heap.size _ _ (ds.map D.told) HDL.out (HL9.out.keep (fun p hp => (below_alloc wr _).cell hp) fun _ _ h => h) (by simp))
      go_wp2_with (first
        | (go_at_call 19
           refine HLI.out.mono ?_
           rintro e w4 ⟨A4, d4, rfl, hl4, hb4⟩
           have HB4 := Lib.hid (bel_next HBN.out hb4)
           have HL4 := Lib.hid hl4
           have F4 := Lib.hid (FN.out.below hb4 FN.out.lt)
           have HBT := Lib.hid (bel_next (below_alloc wr _) hb4)
           clear hl4 hb4)
        | (go_at_call 20
           refine (HFL.out w4).mono ?_
           rintro e w5 ⟨rfl, hb5⟩
           have HB5 := Lib.hid (bel_next HB4.out hb5)
           have HBU := Lib.hid (bel_next HBT.out hb5)
           have HVL := Lib.hid (list_at (W' := w5) (B := w5.heap.size) (c2 := d4) HDL.out ((HL4.out.mono (new_sub _ _) (Nat.le_refl _) fun _ _ h => h).at_ hb5) ((off_sub _ _ _).trans (mono_below HBU.out)) HBU.out.size)
           have F5 := Lib.hid ((F4.out.below hb5 F4.out.lt).alloc (.cells #[.int .i64 5, .int .i64 0, .string ⟨#[]⟩, .slice none 0 0, .slice A4 q d4, .int .i64 kf, .int .i64 0, .string ⟨#[]⟩, .slice none 0 0, .slice none 0 0] 29))
           have FI := Lib.hid (Blk.new w5 29 #[.int .i64 5, .int .i64 0, .string ⟨#[]⟩, .slice none 0 0, .slice A4 q d4, .int .i64 kf, .int .i64 0, .string ⟨#[]⟩, .slice none 0 0, .slice none 0 0])
           have HB6 := Lib.hid (HB5.out.alloc HB5.out.size (.cells #[.int .i64 5, .int .i64 0, .string ⟨#[]⟩, .slice none 0 0, .slice A4 q d4, .int .i64 kf, .int .i64 0, .string ⟨#[]⟩, .slice none 0 0, .slice none 0 0] 29))
           have HLX := Lib.hid ((blk_rowV (l := pgX ds fl) FI.out rfl (pair_flat HVL.out (HKF.out w5 w5.heap.size))).lst (by show 2 ≤ 1048576; decide))
           have HLN := Lib.hid ((blk_rowS (l := pgN) F5.out rfl).lst (by decide))
           clear hb5)
        | (go_at_call 14
           refine (mgood_any HBD.out _ (HT.out.keep HB6.out HT.out.size) _ _ 2 2 _ pgN (pgX ds fl) w5 w5.heap.size rfl rfl (Nat.le_refl _) (Nat.le_refl _) HLN.out HLX.out (Nat.le_refl _) (mono_below (below_alloc w5 _)) (by simp) HSZ.out HRG.out).mono ?_
           rintro e w7 ⟨rfl, hb7⟩)
        | go_in)
      go_ret
      exact ⟨by rw [← HG.out]; rfl, bel_next HB6.out hb7⟩
end Go.Proofs.YtnckhmfajjcgpaaGreatDoor.Mt
namespace Go.Proofs.YtnckhmfajjcgpaaGreatDoor.Mt
set_option linter.unusedVariables false
open Go.RowKit Go.Lib
attribute [local go_sem ↓] Go.wp_at_zero Go.wp_at_succ
set_option maxRecDepth 100000 in
set_option maxHeartbeats 16000000 in
theorem rtold_any (w : World) (A : Option Addr) (n c : Nat) (ds : List D) (hn : ds.length = n) (h : Lst 7 (DocR w w.heap.size) w w.heap.size A ds) :
    Calls Tryz.prog 21 #[.slice A n c] w fun e w' => ∃ A1 c1, e = .returned (.agg #[.int .i64 5, .int .i64 0, .string ⟨#[]⟩, .slice none 0 0, .slice A1 n c1]) ∧ V.At w' w'.heap.size (.mk 5 0 ⟨#[]⟩ [] (ds.map D.told)) [.int .i64 5, .int .i64 0, .string ⟨#[]⟩, .slice none 0 0, .slice A1 n c1] ∧ Below w.heap.size w w' := by
  have hm : n ≤ 1048576 := by rw [← hn]; exact h.1
  have HN := Lib.hid hn
  have H := Lib.hid h
  have HM := Lib.hid hm
  obtain ⟨i2, hj, hz0, hz1, hz2⟩ := info_parts infoV
  clear hn h
  go_enter Tryz.func21, Tryz.ntmps21
  go_wp2
  have FR00 := Lib.hid (Blk.new w 29 #[.int .i64 0, .int .i64 0, .string ⟨#[]⟩, .slice none 0 0, .slice none 0 0])
  have HB00 := Lib.hid ((Below.refl w.heap.size w).alloc (Nat.le_refl _) (.cells #[.int .i64 0, .int .i64 0, .string ⟨#[]⟩, .slice none 0 0, .slice none 0 0] 29))
  obtain ⟨w1, hw1⟩ : ∃ w1, w.alloc (.cells #[.int .i64 0, .int .i64 0, .string ⟨#[]⟩, .slice none 0 0, .slice none 0 0] 29) = w1 := ⟨_, rfl⟩
  obtain ⟨gr, hgr⟩ : ∃ g, w.heap.size = g := ⟨_, rfl⟩
  have HGR : Hid (w.heap.size ≤ gr) := Lib.hid (Nat.le_of_eq hgr)
  rw [hw1] at FR00 HB00 ⊢
  rw [hgr] at FR00 ⊢
  clear hw1 hgr
  go_loopw [3, 4] (fun v ix wr => ∃ q : Nat, q ≤ n ∧ ix = .int .i64 q ∧ Hid (RowV (some gr) wr w.heap.size v ((ds.map D.told).take q)) ∧ Hid (Blk wr gr 29 #[.int .i64 0, .int .i64 0, .string ⟨#[]⟩, .slice none 0 0, .slice none 0 0]) ∧ Hid (some gr ≠ v.ownBlock) ∧ Hid (Below w.heap.size w wr)) (fun _ i _ => n - (RowKit.intOf i).toNat)
  case atStart => exact ⟨0, Nat.zero_le _, rfl, Lib.hid (RowV.none _ w1 _), FR00, Lib.hid (by simp [Value.ownBlock]), HB00⟩
  case round =>
    clear FR00 HB00
    obtain ⟨q, hq, rfl, HM0, FR0', HNR, HB⟩ := hrel
    by_cases hlt : q < n
    · have hkl : q < ds.length := by have := HN.out; omega
      have hli : (q : Int) < (n : Int) := by omega
      obtain ⟨b, off, e0, e1, e2, e3, e4, rfl, hb, hV, p0, p1, p2, p3, p4, p5, p6⟩ := H.out.doc hkl
      obtain ⟨f1, f2, f3, f4, f5, f6, f7, f8, f9, hform⟩ := hV.form
      injection hform with z0 hform
      injection hform with z1 hform
      injection hform with z2 hform
      injection hform with z3 hform
      injection hform with z4 hform
      subst z0 z1 z2 z3 z4
      clear hform
      have HAP := Lib.hid (listed_app hkl)
      obtain ⟨id, hid⟩ : ∃ z, ds[q].id = z := ⟨_, rfl⟩
      obtain ⟨ver, hver⟩ : ∃ z, ds[q].ver = z := ⟨_, rfl⟩
      obtain ⟨x, hx⟩ : ∃ z, ds[q].v = z := ⟨_, rfl⟩
      rw [hid, hver, hx] at HAP
      rw [hid] at p0
      rw [hver] at p1
      rw [hx] at hV
      clear hid hver hx
      have SOF : Hid (∀ wx, Below w.heap.size w wx → (wx.cell? ⟨b, off + q * 7, none⟩ = some (.string id) ∧ wx.cell? ⟨b, off + q * 7 + 1, none⟩ = some (.int .i64 ver) ∧ wx.cell? ⟨b, off + q * 7 + 2, none⟩ = some (.int .i64 f1) ∧ wx.cell? ⟨b, off + q * 7 + 3, none⟩ = some (.int .i64 f2) ∧ wx.cell? ⟨b, off + q * 7 + 4, none⟩ = some (.string f3) ∧ wx.cell? ⟨b, off + q * 7 + 5, none⟩ = some (.slice f4 f5 f6) ∧ wx.cell? ⟨b, off + q * 7 + 6, none⟩ = some (.slice f7 f8 f9))) := Lib.hid (fun wx hw => ⟨(hw.cell (p := ⟨b, _, none⟩) hb).trans p0, (hw.cell (p := ⟨b, _, none⟩) hb).trans p1, (hw.cell (p := ⟨b, _, none⟩) hb).trans p2, (hw.cell (p := ⟨b, _, none⟩) hb).trans p3, (hw.cell (p := ⟨b, _, none⟩) hb).trans p4, (hw.cell (p := ⟨b, _, none⟩) hb).trans p5, (hw.cell (p := ⟨b, _, none⟩) hb).trans p6⟩)
      have HFI := Lib.hid (docX_flat hV id ver)
      have HQL : Hid (((ds.map D.told).take q).length = q) := Lib.hid (by rw [List.length_take, List.length_map]; have := HN.out; omega)
      have FM0 : Hid (RowV (some gr) wr.drew w.heap.size u3 ((ds.map D.told).take q)) := Lib.hid HM0.out.drew
      have FR0 : Hid (Blk wr.drew gr 29 #[.int .i64 0, .int .i64 0, .string ⟨#[]⟩, .slice none 0 0, .slice none 0 0]) := Lib.hid FR0'.out.drew
      have HBd : Hid (Below w.heap.size w wr.drew) := Lib.hid HB.out.drew
      have h0q : (0 : Int) ≤ (q : Int) := by omega
      clear hV p0 p1 p2 p3 p4 p5 p6 HB FR0'
      go_upto_region 5 with fail
      refine wp_region_noPanic ?_
      refine wp_region_held_drew (S := (fun wx => wx.cell? ⟨b, off + q * 7, none⟩ = some (.string id) ∧ wx.cell? ⟨b, off + q * 7 + 1, none⟩ = some (.int .i64 ver) ∧ wx.cell? ⟨b, off + q * 7 + 2, none⟩ = some (.int .i64 f1) ∧ wx.cell? ⟨b, off + q * 7 + 3, none⟩ = some (.int .i64 f2) ∧ wx.cell? ⟨b, off + q * 7 + 4, none⟩ = some (.string f3) ∧ wx.cell? ⟨b, off + q * 7 + 5, none⟩ = some (.slice f4 f5 f6) ∧ wx.cell? ⟨b, off + q * 7 + 6, none⟩ = some (.slice f7 f8 f9))) (by kernel_rfl) ?_ (fun hHeld => ?_)
      · exact SOF.out _ HBd.out
      obtain ⟨W0, hW0⟩ : ∃ W0, wr.drew = W0 := ⟨_, rfl⟩
      rw [hW0] at HBd FM0 FR0 hHeld ⊢
      clear hW0
      refine wpAnyH_take (i := 0) (v := ?_) (by simp only [List.getElem?_toArray, List.getElem?_cons_succ, List.getElem?_cons_zero]; rfl) (by kernel_rfl) (by kernel_rfl) (by kernel_rfl) (fun _ _ _ h => h) (Or.inl ⟨by rfl, ?_⟩) (by assumption) ?_
      rotate_left
      · (intro w hSw; (try dsimp only at hSw); go_simp; try with_reducible rfl)
      try simp only [Act.put, List.setIfInBounds_toArray, List.set_cons_zero, List.set_cons_succ]
      refine wpAnyH_take (i := 2) (v := ?_) (by simp only [List.getElem?_toArray, List.getElem?_cons_succ, List.getElem?_cons_zero]; rfl) (by kernel_rfl) (by kernel_rfl) (by kernel_rfl) (fun _ _ _ h => h) (Or.inl ⟨by rfl, ?_⟩) (by assumption) ?_
      rotate_left
      · (intro w hSw; (try dsimp only at hSw); go_simp; try with_reducible rfl)
      try simp only [Act.put, List.setIfInBounds_toArray, List.set_cons_zero, List.set_cons_succ]
      refine wpAnyH_take (i := 3) (v := ?_) (by simp only [List.getElem?_toArray, List.getElem?_cons_succ, List.getElem?_cons_zero]; rfl) (by kernel_rfl) (by kernel_rfl) (by kernel_rfl) (fun _ _ _ h => h) (Or.inl ⟨by rfl, ?_⟩) (by assumption) ?_
      rotate_left
      · (intro w hSw; (try dsimp only at hSw); go_simp; try with_reducible rfl)
      try simp only [Act.put, List.setIfInBounds_toArray, List.set_cons_zero, List.set_cons_succ]
      refine wpAnyH_take (i := 4) (v := ?_) (by simp only [List.getElem?_toArray, List.getElem?_cons_succ, List.getElem?_cons_zero]; rfl) (by kernel_rfl) (by kernel_rfl) (by kernel_rfl) (fun _ _ _ h => h) (Or.inl ⟨by rfl, ?_⟩) (by assumption) ?_
      rotate_left
      · (intro w hSw; (try dsimp only at hSw); go_simp; try with_reducible rfl)
      try simp only [Act.put, List.setIfInBounds_toArray, List.set_cons_zero, List.set_cons_succ]
      refine wpAnyH_take (i := 5) (v := ?_) (by simp only [List.getElem?_toArray, List.getElem?_cons_succ, List.getElem?_cons_zero]; rfl) (by kernel_rfl) (by kernel_rfl) (by kernel_rfl) (fun _ _ _ h => h) (Or.inl ⟨by rfl, ?_⟩) (by assumption) ?_
      rotate_left
      · (intro w hSw; (try dsimp only at hSw); go_simp; try with_reducible rfl)
      try simp only [Act.put, List.setIfInBounds_toArray, List.set_cons_zero, List.set_cons_succ]
      refine wpAnyH_take (i := 6) (v := ?_) (by simp only [List.getElem?_toArray, List.getElem?_cons_succ, List.getElem?_cons_zero]; rfl) (by kernel_rfl) (by kernel_rfl) (by kernel_rfl) (fun _ _ _ h => h) (Or.inl ⟨by rfl, ?_⟩) (by assumption) ?_
      rotate_left
      · (intro w hSw; (try dsimp only at hSw); go_simp; try with_reducible rfl)
      try simp only [Act.put, List.setIfInBounds_toArray, List.set_cons_zero, List.set_cons_succ]
      refine wpAnyH_take (i := 8) (v := ?_) (by simp only [List.getElem?_toArray, List.getElem?_cons_succ, List.getElem?_cons_zero]; rfl) (by kernel_rfl) (by kernel_rfl) (by kernel_rfl) (fun _ _ _ h => h) (Or.inl ⟨by rfl, ?_⟩) (by assumption) ?_
      rotate_left
      · (intro w hSw; (try dsimp only at hSw); go_simp; try with_reducible rfl)
      try simp only [Act.put, List.setIfInBounds_toArray, List.set_cons_zero, List.set_cons_succ]
      refine wpAnyH_take (i := 9) (v := ?_) (by simp only [List.getElem?_toArray, List.getElem?_cons_succ, List.getElem?_cons_zero]; rfl) (by kernel_rfl) (by kernel_rfl) (by kernel_rfl) (fun _ _ _ h => h) (Or.inl ⟨by rfl, ?_⟩) (by assumption) ?_
      rotate_left
      · (intro w hSw; (try dsimp only at hSw); go_simp; try with_reducible rfl)
      try simp only [Act.put, List.setIfInBounds_toArray, List.set_cons_zero, List.set_cons_succ]
      refine wpAnyH_take (i := 10) (v := ?_) (by simp only [List.getElem?_toArray, List.getElem?_cons_succ, List.getElem?_cons_zero]; rfl) (by kernel_rfl) (by kernel_rfl) (by kernel_rfl) (fun _ _ _ h => h) (Or.inl ⟨by rfl, ?_⟩) (by assumption) ?_
      rotate_left
      · (intro w hSw; (try dsimp only at hSw); go_simp; try with_reducible rfl)
      try simp only [Act.put, List.setIfInBounds_toArray, List.set_cons_zero, List.set_cons_succ]
      refine wpAnyH_take (i := 11) (v := ?_) (by simp only [List.getElem?_toArray, List.getElem?_cons_succ, List.getElem?_cons_zero]; rfl) (by kernel_rfl) (by kernel_rfl) (by kernel_rfl) (fun _ _ _ h => h) (Or.inl ⟨by rfl, ?_⟩) (by assumption) ?_
      rotate_left
      · (intro w hSw; (try dsimp only at hSw); go_simp; try with_reducible rfl)
      try simp only [Act.put, List.setIfInBounds_toArray, List.set_cons_zero, List.set_cons_succ]
      refine wpAnyH_take (i := 12) (v := ?_) (by simp only [List.getElem?_toArray, List.getElem?_cons_succ, List.getElem?_cons_zero]; rfl) (by kernel_rfl) (by kernel_rfl) (by kernel_rfl) (fun _ _ _ h => h) (Or.inl ⟨by rfl, ?_⟩) (by assumption) ?_
      rotate_left
      · (intro w hSw; (try dsimp only at hSw); go_simp; try with_reducible rfl)
      try simp only [Act.put, List.setIfInBounds_toArray, List.set_cons_zero, List.set_cons_succ]
      refine wpAnyH_take (i := 14) (v := ?_) (by simp only [List.getElem?_toArray, List.getElem?_cons_succ, List.getElem?_cons_zero]; rfl) (by kernel_rfl) (by kernel_rfl) (by kernel_rfl) (fun _ _ _ h => h) (Or.inl ⟨by rfl, ?_⟩) (by assumption) ?_
      rotate_left
      · (intro w hSw; (try dsimp only at hSw); go_simp; try with_reducible rfl)
      try simp only [Act.put, List.setIfInBounds_toArray, List.set_cons_zero, List.set_cons_succ]
      refine wpAnyH_take (i := 15) (v := ?_) (by simp only [List.getElem?_toArray, List.getElem?_cons_succ, List.getElem?_cons_zero]; rfl) (by kernel_rfl) (by kernel_rfl) (by kernel_rfl) (fun _ _ _ h => h) (Or.inl ⟨by rfl, ?_⟩) (by assumption) ?_
      rotate_left
      · (intro w hSw; (try dsimp only at hSw); go_simp; try with_reducible rfl)
      try simp only [Act.put, List.setIfInBounds_toArray, List.set_cons_zero, List.set_cons_succ]
      refine wpAnyH_take (i := 16) (v := ?_) (by simp only [List.getElem?_toArray, List.getElem?_cons_succ, List.getElem?_cons_zero]; rfl) (by kernel_rfl) (by kernel_rfl) (by kernel_rfl) (fun _ _ _ h => h) (Or.inl ⟨by rfl, ?_⟩) (by assumption) ?_
      rotate_left
      · (intro w hSw; (try dsimp only at hSw); go_simp; try with_reducible rfl)
      try simp only [Act.put, List.setIfInBounds_toArray, List.set_cons_zero, List.set_cons_succ]
      refine wpAnyH_take (i := 17) (v := ?_) (by simp only [List.getElem?_toArray, List.getElem?_cons_succ, List.getElem?_cons_zero]; rfl) (by kernel_rfl) (by kernel_rfl) (by kernel_rfl) (fun _ _ _ h => h) (Or.inl ⟨by rfl, ?_⟩) (by assumption) ?_
      rotate_left
      · (intro w hSw; (try dsimp only at hSw); go_simp; try with_reducible rfl)
      try simp only [Act.put, List.setIfInBounds_toArray, List.set_cons_zero, List.set_cons_succ]
      refine wpAnyH_take (i := 18) (v := ?_) (by simp only [List.getElem?_toArray, List.getElem?_cons_succ, List.getElem?_cons_zero]; rfl) (by kernel_rfl) (by kernel_rfl) (by kernel_rfl) (fun _ _ _ h => h) (Or.inl ⟨by rfl, ?_⟩) (by assumption) ?_
      rotate_left
      · (intro w hSw; (try dsimp only at hSw); go_simp; try with_reducible rfl)
      try simp only [Act.put, List.setIfInBounds_toArray, List.set_cons_zero, List.set_cons_succ]
      refine wpAnyH_ready (rs := [1, 7]) (by kernel_rfl) (by simp) ?_
      refine AllReadyH.cons (o := _) (by simp only [List.getElem?_toArray, List.getElem?_cons_succ, List.getElem?_cons_zero]; rfl) (fun K hK => ?_) ?_
      · go_simp
        have HB2 := Lib.hid (HBd.out.alloc HBd.out.size (.cells #[.string ⟨#[105, 100]⟩, .string ⟨#[118, 101, 114, 115, 105, 111, 110]⟩, .string ⟨#[118, 97, 108, 117, 101]⟩] 9))
        have hbx := below_alloc W0 (.cells #[.string ⟨#[105, 100]⟩, .string ⟨#[118, 101, 114, 115, 105, 111, 110]⟩, .string ⟨#[118, 97, 108, 117, 101]⟩] 9)
        have hsz := hbx.size
        have lt_R := FR0.out.lt
        have FN3 : Hid (Blk (W0.alloc (.cells #[.string ⟨#[105, 100]⟩, .string ⟨#[118, 101, 114, 115, 105, 111, 110]⟩, .string ⟨#[118, 97, 108, 117, 101]⟩] 9)) W0.heap.size 9 #[.string ⟨#[105, 100]⟩, .string ⟨#[118, 101, 114, 115, 105, 111, 110]⟩, .string ⟨#[118, 97, 108, 117, 101]⟩]) := Lib.hid (Blk.new W0 9 #[.string ⟨#[105, 100]⟩, .string ⟨#[118, 101, 114, 115, 105, 111, 110]⟩, .string ⟨#[118, 97, 108, 117, 101]⟩])
        have FM4 := Lib.hid (RowV.next (W' := W0.alloc (.cells #[.string ⟨#[105, 100]⟩, .string ⟨#[118, 101, 114, 115, 105, 111, 110]⟩, .string ⟨#[118, 97, 108, 117, 101]⟩] 9)) FM0.out hbx)
        have FR4 := Lib.hid (blk_keep (W' := W0.alloc (.cells #[.string ⟨#[105, 100]⟩, .string ⟨#[118, 101, 114, 115, 105, 111, 110]⟩, .string ⟨#[118, 97, 108, 117, 101]⟩] 9)) FR0.out (below_old hbx lt_R))
        clear hHeld
        refine hK.out _ _ ?_ (fun hHeld => ?_)
        · exact SOF.out _ HB2.out
        clear hK K
        obtain ⟨W1, hWn⟩ : ∃ Wn, W0.alloc (.cells #[.string ⟨#[105, 100]⟩, .string ⟨#[118, 101, 114, 115, 105, 111, 110]⟩, .string ⟨#[118, 97, 108, 117, 101]⟩] 9) = Wn := ⟨_, rfl⟩
        obtain ⟨aN, ha⟩ : ∃ a, W0.heap.size = a := ⟨_, rfl⟩
        rw [hWn] at HB2 FN3 FM4 FR4 hHeld ⊢
        rw [ha] at FN3 ⊢
        have N5 : Hid (gr ≠ aN) := Lib.hid (by omega)
        have NVaN : Hid (some aN ≠ u3.ownBlock) := Lib.hid (fun e => Nat.lt_irrefl _ (ha ▸ (RowV.ltb FM0.out e.symm).2))
        clear hWn ha hbx hsz lt_R FM0 FR0 HBd
        try simp only [Act.put, List.setIfInBounds_toArray, List.set_cons_zero, List.set_cons_succ]
        refine wpAnyH_ready (rs := [7]) (by kernel_rfl) (by simp) ?_
        refine AllReadyH.cons (o := _) (by simp only [List.getElem?_toArray, List.getElem?_cons_succ, List.getElem?_cons_zero]; rfl) (fun K hK => ?_) AllReadyH.nil
        go_simp
        go_at_call 42
        refine (rword_any W1 id).mono ?_
        rintro e W6 ⟨rfl, hb⟩
        have HB7 := Lib.hid (bel_next HB2.out hb)
        have hsz := hb.size
        have hbx := hb
        have lt_R := FR4.out.lt
        have lt_N := FN3.out.lt
        have FM8 := Lib.hid (RowV.next (W' := W6) FM4.out hbx)
        have FR8 := Lib.hid (blk_keep (W' := W6) FR4.out (below_old hb lt_R))
        have FN8 := Lib.hid (blk_keep (W' := W6) FN3.out (below_old hb lt_N))
        clear hHeld
        refine hK.out _ _ ?_ (fun hHeld => ?_)
        · exact SOF.out _ HB7.out
        clear hK K
        clear hb hbx hsz lt_R lt_N FM4 FR4 FN3 HB2
        try simp only [Act.put, List.setIfInBounds_toArray, List.set_cons_zero, List.set_cons_succ]
        refine wpAnyH_ready (rs := [13]) (by kernel_rfl) (by simp) ?_
        refine AllReadyH.cons (o := _) (by simp only [List.getElem?_toArray, List.getElem?_cons_succ, List.getElem?_cons_zero]; rfl) (fun K hK => ?_) AllReadyH.nil
        go_simp
        go_at_call 17
        refine (whole_any W6 ver).mono ?_
        rintro e W9 ⟨rfl, hb⟩
        have HB10 := Lib.hid (bel_next HB7.out hb)
        have hsz := hb.size
        have hbx := hb
        have lt_R := FR8.out.lt
        have lt_N := FN8.out.lt
        have FM11 := Lib.hid (RowV.next (W' := W9) FM8.out hbx)
        have FR11 := Lib.hid (blk_keep (W' := W9) FR8.out (below_old hb lt_R))
        have FN11 := Lib.hid (blk_keep (W' := W9) FN8.out (below_old hb lt_N))
        clear hHeld
        refine hK.out _ _ ?_ (fun hHeld => ?_)
        · exact SOF.out _ HB10.out
        clear hK K
        clear hb hbx hsz lt_R lt_N FM8 FR8 FN8 HB7
        try simp only [Act.put, List.setIfInBounds_toArray, List.set_cons_zero, List.set_cons_succ]
        refine wpAnyH_ready (rs := [19]) (by kernel_rfl) (by simp) ?_
        refine AllReadyH.cons (o := _) (by simp only [List.getElem?_toArray, List.getElem?_cons_succ, List.getElem?_cons_zero]; rfl) (fun K hK => ?_) AllReadyH.nil
        go_simp
        have HB13 := Lib.hid (HB10.out.alloc HB10.out.size (.cells #[.int .i64 4, .int .i64 0, .string id, .slice none 0 0, .slice none 0 0, .int .i64 3, .int .i64 ver, .string ⟨#[]⟩, .slice none 0 0, .slice none 0 0, .int .i64 f1, .int .i64 f2, .string f3, .slice f4 f5 f6, .slice f7 f8 f9] 29))
        have hbx := below_alloc W9 (.cells #[.int .i64 4, .int .i64 0, .string id, .slice none 0 0, .slice none 0 0, .int .i64 3, .int .i64 ver, .string ⟨#[]⟩, .slice none 0 0, .slice none 0 0, .int .i64 f1, .int .i64 f2, .string f3, .slice f4 f5 f6, .slice f7 f8 f9] 29)
        have hsz := hbx.size
        have lt_R := FR11.out.lt
        have lt_N := FN11.out.lt
        have FI14 : Hid (Blk (W9.alloc (.cells #[.int .i64 4, .int .i64 0, .string id, .slice none 0 0, .slice none 0 0, .int .i64 3, .int .i64 ver, .string ⟨#[]⟩, .slice none 0 0, .slice none 0 0, .int .i64 f1, .int .i64 f2, .string f3, .slice f4 f5 f6, .slice f7 f8 f9] 29)) W9.heap.size 29 #[.int .i64 4, .int .i64 0, .string id, .slice none 0 0, .slice none 0 0, .int .i64 3, .int .i64 ver, .string ⟨#[]⟩, .slice none 0 0, .slice none 0 0, .int .i64 f1, .int .i64 f2, .string f3, .slice f4 f5 f6, .slice f7 f8 f9]) := Lib.hid (Blk.new W9 29 #[.int .i64 4, .int .i64 0, .string id, .slice none 0 0, .slice none 0 0, .int .i64 3, .int .i64 ver, .string ⟨#[]⟩, .slice none 0 0, .slice none 0 0, .int .i64 f1, .int .i64 f2, .string f3, .slice f4 f5 f6, .slice f7 f8 f9])
        have FM15 := Lib.hid (RowV.next (W' := W9.alloc (.cells #[.int .i64 4, .int .i64 0, .string id, .slice none 0 0, .slice none 0 0, .int .i64 3, .int .i64 ver, .string ⟨#[]⟩, .slice none 0 0, .slice none 0 0, .int .i64 f1, .int .i64 f2, .string f3, .slice f4 f5 f6, .slice f7 f8 f9] 29)) FM11.out hbx)
        have FR15 := Lib.hid (blk_keep (W' := W9.alloc (.cells #[.int .i64 4, .int .i64 0, .string id, .slice none 0 0, .slice none 0 0, .int .i64 3, .int .i64 ver, .string ⟨#[]⟩, .slice none 0 0, .slice none 0 0, .int .i64 f1, .int .i64 f2, .string f3, .slice f4 f5 f6, .slice f7 f8 f9] 29)) FR11.out (below_old hbx lt_R))
        have FN15 := Lib.hid (blk_keep (W' := W9.alloc (.cells #[.int .i64 4, .int .i64 0, .string id, .slice none 0 0, .slice none 0 0, .int .i64 3, .int .i64 ver, .string ⟨#[]⟩, .slice none 0 0, .slice none 0 0, .int .i64 f1, .int .i64 f2, .string f3, .slice f4 f5 f6, .slice f7 f8 f9] 29)) FN11.out (below_old hbx lt_N))
        clear hHeld
        refine hK.out _ _ ?_ (fun hHeld => ?_)
        · exact SOF.out _ HB13.out
        clear hK K
        obtain ⟨W12, hWn⟩ : ∃ Wn, W9.alloc (.cells #[.int .i64 4, .int .i64 0, .string id, .slice none 0 0, .slice none 0 0, .int .i64 3, .int .i64 ver, .string ⟨#[]⟩, .slice none 0 0, .slice none 0 0, .int .i64 f1, .int .i64 f2, .string f3, .slice f4 f5 f6, .slice f7 f8 f9] 29) = Wn := ⟨_, rfl⟩
        obtain ⟨aI, ha⟩ : ∃ a, W9.heap.size = a := ⟨_, rfl⟩
        rw [hWn] at HB13 FI14 FM15 FR15 FN15 hHeld ⊢
        rw [ha] at FI14 ⊢
        have N16 : Hid (gr ≠ aI) := Lib.hid (by omega)
        have N17 : Hid (aN ≠ aI) := Lib.hid (by omega)
        have NVaI : Hid (some aI ≠ u3.ownBlock) := Lib.hid (fun e => Nat.lt_irrefl _ (ha ▸ (RowV.ltb FM11.out e.symm).2))
        clear hWn ha hbx hsz lt_R lt_N FM11 FR11 FN11 HB10
        try simp only [Act.put, List.setIfInBounds_toArray, List.set_cons_zero, List.set_cons_succ]
        refine wpAnyH_ready (rs := [20]) (by kernel_rfl) (by simp) ?_
        refine AllReadyH.cons (o := _) (by simp only [List.getElem?_toArray, List.getElem?_cons_succ, List.getElem?_cons_zero]; rfl) (fun K hK => ?_) AllReadyH.nil
        go_simp
        go_at_call 41
        refine (robject_any W12 (some ⟨aN, 0, none⟩) (some ⟨aI, 0, none⟩) 3 3 3 3).mono ?_
        rintro e W18 ⟨rfl, hb⟩
        have HB19 := Lib.hid (bel_next HB13.out hb)
        have hsz := hb.size
        have hbx := hb
        have lt_R := FR15.out.lt
        have lt_N := FN15.out.lt
        have lt_I := FI14.out.lt
        have FM20 := Lib.hid (RowV.next (W' := W18) FM15.out hbx)
        have FR20 := Lib.hid (blk_keep (W' := W18) FR15.out (below_old hb lt_R))
        have FN20 := Lib.hid (blk_keep (W' := W18) FN15.out (below_old hb lt_N))
        have FI20 := Lib.hid (blk_keep (W' := W18) FI14.out (below_old hb lt_I))
        clear hHeld
        refine hK.out _ _ ?_ (fun hHeld => ?_)
        · exact SOF.out _ HB19.out
        clear hK K
        clear hb hbx hsz lt_R lt_N lt_I FM15 FR15 FN15 FI14 HB13
        try simp only [Act.put, List.setIfInBounds_toArray, List.set_cons_zero, List.set_cons_succ]
        refine wpAnyH_ready (rs := [21]) (by kernel_rfl) (by simp) ?_
        refine AllReadyH.cons (o := _) (by simp only [List.getElem?_toArray, List.getElem?_cons_succ, List.getElem?_cons_zero]; rfl) (fun K hK => ?_) AllReadyH.nil
        go_simp
        have HB22 := Lib.hid (HB19.out.alloc HB19.out.size (.cells #[.int .i64 6, .int .i64 0, .string ⟨#[]⟩, .slice (some ⟨aN, 0, none⟩) 3 3, .slice (some ⟨aI, 0, none⟩) 3 3] 29))
        have hbx := below_alloc W18 (.cells #[.int .i64 6, .int .i64 0, .string ⟨#[]⟩, .slice (some ⟨aN, 0, none⟩) 3 3, .slice (some ⟨aI, 0, none⟩) 3 3] 29)
        have hsz := hbx.size
        have lt_R := FR20.out.lt
        have lt_N := FN20.out.lt
        have lt_I := FI20.out.lt
        have FP23 : Hid (Blk (W18.alloc (.cells #[.int .i64 6, .int .i64 0, .string ⟨#[]⟩, .slice (some ⟨aN, 0, none⟩) 3 3, .slice (some ⟨aI, 0, none⟩) 3 3] 29)) W18.heap.size 29 #[.int .i64 6, .int .i64 0, .string ⟨#[]⟩, .slice (some ⟨aN, 0, none⟩) 3 3, .slice (some ⟨aI, 0, none⟩) 3 3]) := Lib.hid (Blk.new W18 29 #[.int .i64 6, .int .i64 0, .string ⟨#[]⟩, .slice (some ⟨aN, 0, none⟩) 3 3, .slice (some ⟨aI, 0, none⟩) 3 3])
        have FM24 := Lib.hid (RowV.next (W' := W18.alloc (.cells #[.int .i64 6, .int .i64 0, .string ⟨#[]⟩, .slice (some ⟨aN, 0, none⟩) 3 3, .slice (some ⟨aI, 0, none⟩) 3 3] 29)) FM20.out hbx)
        have FR24 := Lib.hid (blk_keep (W' := W18.alloc (.cells #[.int .i64 6, .int .i64 0, .string ⟨#[]⟩, .slice (some ⟨aN, 0, none⟩) 3 3, .slice (some ⟨aI, 0, none⟩) 3 3] 29)) FR20.out (below_old hbx lt_R))
        have FN24 := Lib.hid (blk_keep (W' := W18.alloc (.cells #[.int .i64 6, .int .i64 0, .string ⟨#[]⟩, .slice (some ⟨aN, 0, none⟩) 3 3, .slice (some ⟨aI, 0, none⟩) 3 3] 29)) FN20.out (below_old hbx lt_N))
        have FI24 := Lib.hid (blk_keep (W' := W18.alloc (.cells #[.int .i64 6, .int .i64 0, .string ⟨#[]⟩, .slice (some ⟨aN, 0, none⟩) 3 3, .slice (some ⟨aI, 0, none⟩) 3 3] 29)) FI20.out (below_old hbx lt_I))
        clear hHeld
        refine hK.out _ _ ?_ (fun hHeld => ?_)
        · exact SOF.out _ HB22.out
        clear hK K
        obtain ⟨W21, hWn⟩ : ∃ Wn, W18.alloc (.cells #[.int .i64 6, .int .i64 0, .string ⟨#[]⟩, .slice (some ⟨aN, 0, none⟩) 3 3, .slice (some ⟨aI, 0, none⟩) 3 3] 29) = Wn := ⟨_, rfl⟩
        obtain ⟨aP, ha⟩ : ∃ a, W18.heap.size = a := ⟨_, rfl⟩
        rw [hWn] at HB22 FP23 FM24 FR24 FN24 FI24 hHeld ⊢
        rw [ha] at FP23 ⊢
        have N25 : Hid (gr ≠ aP) := Lib.hid (by omega)
        have N26 : Hid (aN ≠ aP) := Lib.hid (by omega)
        have N27 : Hid (aI ≠ aP) := Lib.hid (by omega)
        clear hWn ha hbx hsz lt_R lt_N lt_I FM20 FR20 FN20 FI20 HB19
        try simp only [Act.put, List.setIfInBounds_toArray, List.set_cons_zero, List.set_cons_succ]
        refine wpAnyH_ready (rs := [22]) (by kernel_rfl) (by simp) ?_
        refine AllReadyH.cons (o := _) (by simp only [List.getElem?_toArray, List.getElem?_cons_succ, List.getElem?_cons_zero]; rfl) (fun K hK => ?_) AllReadyH.nil
        obtain ⟨news, hrow, hflat⟩ := FM24.out
        rw [HQL.out] at hrow
        refine step_append_any _ (by rfl) (.tmp 11) (.tmp 32) 27 (by rfl) w.heap.size 29 i2 _ 5 80 Tryz.underlying27 hj hz0 hz1 hz2 (by rfl) (by decide) _ q news (by rfl) hrow (aP + 1) (some ⟨aP, 0, none⟩) 1 1 [.int .i64 6, .int .i64 0, .string ⟨#[]⟩, .slice (some ⟨aN, 0, none⟩) 3 3, .slice (some ⟨aI, 0, none⟩) 3 3] (by rfl) ⟨rfl, fun _ => ⟨_, rfl, Nat.lt_succ_self _, fun j u hu => by rw [add_lit, Nat.zero_add, FP23.out.cell j]; simpa using hu⟩⟩ (by intro u hu; simp at hu; rcases hu with rfl | rfl | rfl | rfl | rfl <;> rfl) (by unfold maxLen; omega) (by omega) HB22.out.size ?_
        intro v9 W30 hown hgrow hloc
        have hX : V.At (Mt.off (some gr) u3 W21) W21.heap.size (docV id ver x) [.int .i64 6, .int .i64 0, .string ⟨#[]⟩, .slice (some ⟨aN, 0, none⟩) 3 3, .slice (some ⟨aI, 0, none⟩) 3 3] := obj_at (W := w) (C := w.heap.size) rfl rfl (Nat.le_refl _)
          (by have h9 := (((blk_rowS FN24.out rfl : RowIs 1 StrR W21 aN docN).off (ex := some gr) NVaN.out (fun e => (Ne.symm N5.out) (Option.some.inj e))).lst (by decide)); rwa [off_size] at h9)
          (by have h9 := (((blk_rowV FI24.out rfl HFI.out : RowIs 5 _ W21 aI (docX id ver x)).off (ex := some gr) NVaI.out (fun e => (Ne.symm N16.out) (Option.some.inj e))).lst (by show 3 ≤ 1048576; decide)); rwa [off_size] at h9)
          (mono_off HB22.out (fun b hb => (World.ownsRow.lt hrow b hb).1) (fun b e => by have := Option.some.inj e; have := HGR.out; omega)) HB22.out.size
        have FM9 := Lib.hid (RowV.push hflat hgrow hloc hX (by rw [HQL.out]; exact hown))
        have HB30 := Lib.hid (HB22.out.grown hgrow HB22.out.size (fun k hk => (World.ownsRow.lt hrow k hk).1))
        have hltr := FR24.out.lt
        have FR9 := Lib.hid (blk_keep (W' := W30) FR24.out (hgrow.block gr hltr HNR.out))
        have HNR9 : Hid (some gr ≠ v9.ownBlock) := Lib.hid (by
          rcases hloc with e | e
          · rw [e]; exact HNR.out
          · rw [e]
            intro e2
            have := Option.some.inj e2
            omega)
        clear hHeld
        refine hK.out _ _ ?_ (fun hHeld => ?_)
        · exact SOF.out _ HB30.out
        clear hK K
        try simp only [Act.put, List.setIfInBounds_toArray, List.set_cons_zero, List.set_cons_succ]
        refine wpAnyH_take (i := 23) (v := ?_) (by simp only [List.getElem?_toArray, List.getElem?_cons_succ, List.getElem?_cons_zero]; rfl) (by kernel_rfl) (by kernel_rfl) (by kernel_rfl) (fun _ _ _ h => h) (Or.inl ⟨by rfl, ?_⟩) (by assumption) ?_
        rotate_left
        · (intro w hSw; (try dsimp only at hSw); go_simp; try with_reducible rfl)
        try simp only [Act.put, List.setIfInBounds_toArray, List.set_cons_zero, List.set_cons_succ]
        refine wpAnyH_done (by kernel_rfl) ?_ _
        refine NoPanic.normal ?_
        go_wp2_with fail
        go_roundw
        case rel => exact ⟨q + 1, by omega, by go_num, Lib.hid (by rw [HAP.out]; exact FM9.out), FR9, HNR9, HB30⟩
        case measure => simp [RowKit.intOf]; omega
      refine AllReadyH.cons (o := _) (by simp only [List.getElem?_toArray, List.getElem?_cons_succ, List.getElem?_cons_zero]; rfl) (fun K hK => ?_) AllReadyH.nil
      go_simp
      go_at_call 42
      refine (rword_any W0 id).mono ?_
      rintro e W31 ⟨rfl, hb⟩
      have HB32 := Lib.hid (bel_next HBd.out hb)
      have hsz := hb.size
      have hbx := hb
      have lt_R := FR0.out.lt
      have FM33 := Lib.hid (RowV.next (W' := W31) FM0.out hbx)
      have FR33 := Lib.hid (blk_keep (W' := W31) FR0.out (below_old hb lt_R))
      clear hHeld
      refine hK.out _ _ ?_ (fun hHeld => ?_)
      · exact SOF.out _ HB32.out
      clear hK K
      clear hb hbx hsz lt_R FM0 FR0 HBd
      try simp only [Act.put, List.setIfInBounds_toArray, List.set_cons_zero, List.set_cons_succ]
      refine wpAnyH_ready (rs := [1, 13]) (by kernel_rfl) (by simp) ?_
      refine AllReadyH.cons (o := _) (by simp only [List.getElem?_toArray, List.getElem?_cons_succ, List.getElem?_cons_zero]; rfl) (fun K hK => ?_) ?_
      · go_simp
        have HB35 := Lib.hid (HB32.out.alloc HB32.out.size (.cells #[.string ⟨#[105, 100]⟩, .string ⟨#[118, 101, 114, 115, 105, 111, 110]⟩, .string ⟨#[118, 97, 108, 117, 101]⟩] 9))
        have hbx := below_alloc W31 (.cells #[.string ⟨#[105, 100]⟩, .string ⟨#[118, 101, 114, 115, 105, 111, 110]⟩, .string ⟨#[118, 97, 108, 117, 101]⟩] 9)
        have hsz := hbx.size
        have lt_R := FR33.out.lt
        have FN36 : Hid (Blk (W31.alloc (.cells #[.string ⟨#[105, 100]⟩, .string ⟨#[118, 101, 114, 115, 105, 111, 110]⟩, .string ⟨#[118, 97, 108, 117, 101]⟩] 9)) W31.heap.size 9 #[.string ⟨#[105, 100]⟩, .string ⟨#[118, 101, 114, 115, 105, 111, 110]⟩, .string ⟨#[118, 97, 108, 117, 101]⟩]) := Lib.hid (Blk.new W31 9 #[.string ⟨#[105, 100]⟩, .string ⟨#[118, 101, 114, 115, 105, 111, 110]⟩, .string ⟨#[118, 97, 108, 117, 101]⟩])
        have FM37 := Lib.hid (RowV.next (W' := W31.alloc (.cells #[.string ⟨#[105, 100]⟩, .string ⟨#[118, 101, 114, 115, 105, 111, 110]⟩, .string ⟨#[118, 97, 108, 117, 101]⟩] 9)) FM33.out hbx)
        have FR37 := Lib.hid (blk_keep (W' := W31.alloc (.cells #[.string ⟨#[105, 100]⟩, .string ⟨#[118, 101, 114, 115, 105, 111, 110]⟩, .string ⟨#[118, 97, 108, 117, 101]⟩] 9)) FR33.out (below_old hbx lt_R))
        clear hHeld
        refine hK.out _ _ ?_ (fun hHeld => ?_)
        · exact SOF.out _ HB35.out
        clear hK K
        obtain ⟨W34, hWn⟩ : ∃ Wn, W31.alloc (.cells #[.string ⟨#[105, 100]⟩, .string ⟨#[118, 101, 114, 115, 105, 111, 110]⟩, .string ⟨#[118, 97, 108, 117, 101]⟩] 9) = Wn := ⟨_, rfl⟩
        obtain ⟨aN, ha⟩ : ∃ a, W31.heap.size = a := ⟨_, rfl⟩
        rw [hWn] at HB35 FN36 FM37 FR37 hHeld ⊢
        rw [ha] at FN36 ⊢
        have N38 : Hid (gr ≠ aN) := Lib.hid (by omega)
        have NVaN : Hid (some aN ≠ u3.ownBlock) := Lib.hid (fun e => Nat.lt_irrefl _ (ha ▸ (RowV.ltb FM33.out e.symm).2))
        clear hWn ha hbx hsz lt_R FM33 FR33 HB32
        try simp only [Act.put, List.setIfInBounds_toArray, List.set_cons_zero, List.set_cons_succ]
        refine wpAnyH_ready (rs := [13]) (by kernel_rfl) (by simp) ?_
        refine AllReadyH.cons (o := _) (by simp only [List.getElem?_toArray, List.getElem?_cons_succ, List.getElem?_cons_zero]; rfl) (fun K hK => ?_) AllReadyH.nil
        go_simp
        go_at_call 17
        refine (whole_any W34 ver).mono ?_
        rintro e W39 ⟨rfl, hb⟩
        have HB40 := Lib.hid (bel_next HB35.out hb)
        have hsz := hb.size
        have hbx := hb
        have lt_R := FR37.out.lt
        have lt_N := FN36.out.lt
        have FM41 := Lib.hid (RowV.next (W' := W39) FM37.out hbx)
        have FR41 := Lib.hid (blk_keep (W' := W39) FR37.out (below_old hb lt_R))
        have FN41 := Lib.hid (blk_keep (W' := W39) FN36.out (below_old hb lt_N))
        clear hHeld
        refine hK.out _ _ ?_ (fun hHeld => ?_)
        · exact SOF.out _ HB40.out
        clear hK K
        clear hb hbx hsz lt_R lt_N FM37 FR37 FN36 HB35
        try simp only [Act.put, List.setIfInBounds_toArray, List.set_cons_zero, List.set_cons_succ]
        refine wpAnyH_ready (rs := [19]) (by kernel_rfl) (by simp) ?_
        refine AllReadyH.cons (o := _) (by simp only [List.getElem?_toArray, List.getElem?_cons_succ, List.getElem?_cons_zero]; rfl) (fun K hK => ?_) AllReadyH.nil
        go_simp
        have HB43 := Lib.hid (HB40.out.alloc HB40.out.size (.cells #[.int .i64 4, .int .i64 0, .string id, .slice none 0 0, .slice none 0 0, .int .i64 3, .int .i64 ver, .string ⟨#[]⟩, .slice none 0 0, .slice none 0 0, .int .i64 f1, .int .i64 f2, .string f3, .slice f4 f5 f6, .slice f7 f8 f9] 29))
        have hbx := below_alloc W39 (.cells #[.int .i64 4, .int .i64 0, .string id, .slice none 0 0, .slice none 0 0, .int .i64 3, .int .i64 ver, .string ⟨#[]⟩, .slice none 0 0, .slice none 0 0, .int .i64 f1, .int .i64 f2, .string f3, .slice f4 f5 f6, .slice f7 f8 f9] 29)
        have hsz := hbx.size
        have lt_R := FR41.out.lt
        have lt_N := FN41.out.lt
        have FI44 : Hid (Blk (W39.alloc (.cells #[.int .i64 4, .int .i64 0, .string id, .slice none 0 0, .slice none 0 0, .int .i64 3, .int .i64 ver, .string ⟨#[]⟩, .slice none 0 0, .slice none 0 0, .int .i64 f1, .int .i64 f2, .string f3, .slice f4 f5 f6, .slice f7 f8 f9] 29)) W39.heap.size 29 #[.int .i64 4, .int .i64 0, .string id, .slice none 0 0, .slice none 0 0, .int .i64 3, .int .i64 ver, .string ⟨#[]⟩, .slice none 0 0, .slice none 0 0, .int .i64 f1, .int .i64 f2, .string f3, .slice f4 f5 f6, .slice f7 f8 f9]) := Lib.hid (Blk.new W39 29 #[.int .i64 4, .int .i64 0, .string id, .slice none 0 0, .slice none 0 0, .int .i64 3, .int .i64 ver, .string ⟨#[]⟩, .slice none 0 0, .slice none 0 0, .int .i64 f1, .int .i64 f2, .string f3, .slice f4 f5 f6, .slice f7 f8 f9])
        have FM45 := Lib.hid (RowV.next (W' := W39.alloc (.cells #[.int .i64 4, .int .i64 0, .string id, .slice none 0 0, .slice none 0 0, .int .i64 3, .int .i64 ver, .string ⟨#[]⟩, .slice none 0 0, .slice none 0 0, .int .i64 f1, .int .i64 f2, .string f3, .slice f4 f5 f6, .slice f7 f8 f9] 29)) FM41.out hbx)
        have FR45 := Lib.hid (blk_keep (W' := W39.alloc (.cells #[.int .i64 4, .int .i64 0, .string id, .slice none 0 0, .slice none 0 0, .int .i64 3, .int .i64 ver, .string ⟨#[]⟩, .slice none 0 0, .slice none 0 0, .int .i64 f1, .int .i64 f2, .string f3, .slice f4 f5 f6, .slice f7 f8 f9] 29)) FR41.out (below_old hbx lt_R))
        have FN45 := Lib.hid (blk_keep (W' := W39.alloc (.cells #[.int .i64 4, .int .i64 0, .string id, .slice none 0 0, .slice none 0 0, .int .i64 3, .int .i64 ver, .string ⟨#[]⟩, .slice none 0 0, .slice none 0 0, .int .i64 f1, .int .i64 f2, .string f3, .slice f4 f5 f6, .slice f7 f8 f9] 29)) FN41.out (below_old hbx lt_N))
        clear hHeld
        refine hK.out _ _ ?_ (fun hHeld => ?_)
        · exact SOF.out _ HB43.out
        clear hK K
        obtain ⟨W42, hWn⟩ : ∃ Wn, W39.alloc (.cells #[.int .i64 4, .int .i64 0, .string id, .slice none 0 0, .slice none 0 0, .int .i64 3, .int .i64 ver, .string ⟨#[]⟩, .slice none 0 0, .slice none 0 0, .int .i64 f1, .int .i64 f2, .string f3, .slice f4 f5 f6, .slice f7 f8 f9] 29) = Wn := ⟨_, rfl⟩
        obtain ⟨aI, ha⟩ : ∃ a, W39.heap.size = a := ⟨_, rfl⟩
        rw [hWn] at HB43 FI44 FM45 FR45 FN45 hHeld ⊢
        rw [ha] at FI44 ⊢
        have N46 : Hid (gr ≠ aI) := Lib.hid (by omega)
        have N47 : Hid (aN ≠ aI) := Lib.hid (by omega)
        have NVaI : Hid (some aI ≠ u3.ownBlock) := Lib.hid (fun e => Nat.lt_irrefl _ (ha ▸ (RowV.ltb FM41.out e.symm).2))
        clear hWn ha hbx hsz lt_R lt_N FM41 FR41 FN41 HB40
        try simp only [Act.put, List.setIfInBounds_toArray, List.set_cons_zero, List.set_cons_succ]
        refine wpAnyH_ready (rs := [20]) (by kernel_rfl) (by simp) ?_
        refine AllReadyH.cons (o := _) (by simp only [List.getElem?_toArray, List.getElem?_cons_succ, List.getElem?_cons_zero]; rfl) (fun K hK => ?_) AllReadyH.nil
        go_simp
        go_at_call 41
        refine (robject_any W42 (some ⟨aN, 0, none⟩) (some ⟨aI, 0, none⟩) 3 3 3 3).mono ?_
        rintro e W48 ⟨rfl, hb⟩
        have HB49 := Lib.hid (bel_next HB43.out hb)
        have hsz := hb.size
        have hbx := hb
        have lt_R := FR45.out.lt
        have lt_N := FN45.out.lt
        have lt_I := FI44.out.lt
        have FM50 := Lib.hid (RowV.next (W' := W48) FM45.out hbx)
        have FR50 := Lib.hid (blk_keep (W' := W48) FR45.out (below_old hb lt_R))
        have FN50 := Lib.hid (blk_keep (W' := W48) FN45.out (below_old hb lt_N))
        have FI50 := Lib.hid (blk_keep (W' := W48) FI44.out (below_old hb lt_I))
        clear hHeld
        refine hK.out _ _ ?_ (fun hHeld => ?_)
        · exact SOF.out _ HB49.out
        clear hK K
        clear hb hbx hsz lt_R lt_N lt_I FM45 FR45 FN45 FI44 HB43
        try simp only [Act.put, List.setIfInBounds_toArray, List.set_cons_zero, List.set_cons_succ]
        refine wpAnyH_ready (rs := [21]) (by kernel_rfl) (by simp) ?_
        refine AllReadyH.cons (o := _) (by simp only [List.getElem?_toArray, List.getElem?_cons_succ, List.getElem?_cons_zero]; rfl) (fun K hK => ?_) AllReadyH.nil
        go_simp
        have HB52 := Lib.hid (HB49.out.alloc HB49.out.size (.cells #[.int .i64 6, .int .i64 0, .string ⟨#[]⟩, .slice (some ⟨aN, 0, none⟩) 3 3, .slice (some ⟨aI, 0, none⟩) 3 3] 29))
        have hbx := below_alloc W48 (.cells #[.int .i64 6, .int .i64 0, .string ⟨#[]⟩, .slice (some ⟨aN, 0, none⟩) 3 3, .slice (some ⟨aI, 0, none⟩) 3 3] 29)
        have hsz := hbx.size
        have lt_R := FR50.out.lt
        have lt_N := FN50.out.lt
        have lt_I := FI50.out.lt
        have FP53 : Hid (Blk (W48.alloc (.cells #[.int .i64 6, .int .i64 0, .string ⟨#[]⟩, .slice (some ⟨aN, 0, none⟩) 3 3, .slice (some ⟨aI, 0, none⟩) 3 3] 29)) W48.heap.size 29 #[.int .i64 6, .int .i64 0, .string ⟨#[]⟩, .slice (some ⟨aN, 0, none⟩) 3 3, .slice (some ⟨aI, 0, none⟩) 3 3]) := Lib.hid (Blk.new W48 29 #[.int .i64 6, .int .i64 0, .string ⟨#[]⟩, .slice (some ⟨aN, 0, none⟩) 3 3, .slice (some ⟨aI, 0, none⟩) 3 3])
        have FM54 := Lib.hid (RowV.next (W' := W48.alloc (.cells #[.int .i64 6, .int .i64 0, .string ⟨#[]⟩, .slice (some ⟨aN, 0, none⟩) 3 3, .slice (some ⟨aI, 0, none⟩) 3 3] 29)) FM50.out hbx)
        have FR54 := Lib.hid (blk_keep (W' := W48.alloc (.cells #[.int .i64 6, .int .i64 0, .string ⟨#[]⟩, .slice (some ⟨aN, 0, none⟩) 3 3, .slice (some ⟨aI, 0, none⟩) 3 3] 29)) FR50.out (below_old hbx lt_R))
        have FN54 := Lib.hid (blk_keep (W' := W48.alloc (.cells #[.int .i64 6, .int .i64 0, .string ⟨#[]⟩, .slice (some ⟨aN, 0, none⟩) 3 3, .slice (some ⟨aI, 0, none⟩) 3 3] 29)) FN50.out (below_old hbx lt_N))
        have FI54 := Lib.hid (blk_keep (W' := W48.alloc (.cells #[.int .i64 6, .int .i64 0, .string ⟨#[]⟩, .slice (some ⟨aN, 0, none⟩) 3 3, .slice (some ⟨aI, 0, none⟩) 3 3] 29)) FI50.out (below_old hbx lt_I))
        clear hHeld
        refine hK.out _ _ ?_ (fun hHeld => ?_)
        · exact SOF.out _ HB52.out
        clear hK K
        obtain ⟨W51, hWn⟩ : ∃ Wn, W48.alloc (.cells #[.int .i64 6, .int .i64 0, .string ⟨#[]⟩, .slice (some ⟨aN, 0, none⟩) 3 3, .slice (some ⟨aI, 0, none⟩) 3 3] 29) = Wn := ⟨_, rfl⟩
        obtain ⟨aP, ha⟩ : ∃ a, W48.heap.size = a := ⟨_, rfl⟩
        rw [hWn] at HB52 FP53 FM54 FR54 FN54 FI54 hHeld ⊢
        rw [ha] at FP53 ⊢
        have N55 : Hid (gr ≠ aP) := Lib.hid (by omega)
        have N56 : Hid (aN ≠ aP) := Lib.hid (by omega)
        have N57 : Hid (aI ≠ aP) := Lib.hid (by omega)
        clear hWn ha hbx hsz lt_R lt_N lt_I FM50 FR50 FN50 FI50 HB49
        try simp only [Act.put, List.setIfInBounds_toArray, List.set_cons_zero, List.set_cons_succ]
        refine wpAnyH_ready (rs := [22]) (by kernel_rfl) (by simp) ?_
        refine AllReadyH.cons (o := _) (by simp only [List.getElem?_toArray, List.getElem?_cons_succ, List.getElem?_cons_zero]; rfl) (fun K hK => ?_) AllReadyH.nil
        obtain ⟨news, hrow, hflat⟩ := FM54.out
        rw [HQL.out] at hrow
        refine step_append_any _ (by rfl) (.tmp 11) (.tmp 32) 27 (by rfl) w.heap.size 29 i2 _ 5 80 Tryz.underlying27 hj hz0 hz1 hz2 (by rfl) (by decide) _ q news (by rfl) hrow (aP + 1) (some ⟨aP, 0, none⟩) 1 1 [.int .i64 6, .int .i64 0, .string ⟨#[]⟩, .slice (some ⟨aN, 0, none⟩) 3 3, .slice (some ⟨aI, 0, none⟩) 3 3] (by rfl) ⟨rfl, fun _ => ⟨_, rfl, Nat.lt_succ_self _, fun j u hu => by rw [add_lit, Nat.zero_add, FP53.out.cell j]; simpa using hu⟩⟩ (by intro u hu; simp at hu; rcases hu with rfl | rfl | rfl | rfl | rfl <;> rfl) (by unfold maxLen; omega) (by omega) HB52.out.size ?_
        intro v9 W60 hown hgrow hloc
        have hX : V.At (Mt.off (some gr) u3 W51) W51.heap.size (docV id ver x) [.int .i64 6, .int .i64 0, .string ⟨#[]⟩, .slice (some ⟨aN, 0, none⟩) 3 3, .slice (some ⟨aI, 0, none⟩) 3 3] := obj_at (W := w) (C := w.heap.size) rfl rfl (Nat.le_refl _)
          (by have h9 := (((blk_rowS FN54.out rfl : RowIs 1 StrR W51 aN docN).off (ex := some gr) NVaN.out (fun e => (Ne.symm N38.out) (Option.some.inj e))).lst (by decide)); rwa [off_size] at h9)
          (by have h9 := (((blk_rowV FI54.out rfl HFI.out : RowIs 5 _ W51 aI (docX id ver x)).off (ex := some gr) NVaI.out (fun e => (Ne.symm N46.out) (Option.some.inj e))).lst (by show 3 ≤ 1048576; decide)); rwa [off_size] at h9)
          (mono_off HB52.out (fun b hb => (World.ownsRow.lt hrow b hb).1) (fun b e => by have := Option.some.inj e; have := HGR.out; omega)) HB52.out.size
        have FM9 := Lib.hid (RowV.push hflat hgrow hloc hX (by rw [HQL.out]; exact hown))
        have HB60 := Lib.hid (HB52.out.grown hgrow HB52.out.size (fun k hk => (World.ownsRow.lt hrow k hk).1))
        have hltr := FR54.out.lt
        have FR9 := Lib.hid (blk_keep (W' := W60) FR54.out (hgrow.block gr hltr HNR.out))
        have HNR9 : Hid (some gr ≠ v9.ownBlock) := Lib.hid (by
          rcases hloc with e | e
          · rw [e]; exact HNR.out
          · rw [e]
            intro e2
            have := Option.some.inj e2
            omega)
        clear hHeld
        refine hK.out _ _ ?_ (fun hHeld => ?_)
        · exact SOF.out _ HB60.out
        clear hK K
        try simp only [Act.put, List.setIfInBounds_toArray, List.set_cons_zero, List.set_cons_succ]
        refine wpAnyH_take (i := 23) (v := ?_) (by simp only [List.getElem?_toArray, List.getElem?_cons_succ, List.getElem?_cons_zero]; rfl) (by kernel_rfl) (by kernel_rfl) (by kernel_rfl) (fun _ _ _ h => h) (Or.inl ⟨by rfl, ?_⟩) (by assumption) ?_
        rotate_left
        · (intro w hSw; (try dsimp only at hSw); go_simp; try with_reducible rfl)
        try simp only [Act.put, List.setIfInBounds_toArray, List.set_cons_zero, List.set_cons_succ]
        refine wpAnyH_done (by kernel_rfl) ?_ _
        refine NoPanic.normal ?_
        go_wp2_with fail
        go_roundw
        case rel => exact ⟨q + 1, by omega, by go_num, Lib.hid (by rw [HAP.out]; exact FM9.out), FR9, HNR9, HB60⟩
        case measure => simp [RowKit.intOf]; omega
      refine AllReadyH.cons (o := _) (by simp only [List.getElem?_toArray, List.getElem?_cons_succ, List.getElem?_cons_zero]; rfl) (fun K hK => ?_) AllReadyH.nil
      go_simp
      go_at_call 17
      refine (whole_any W31 ver).mono ?_
      rintro e W61 ⟨rfl, hb⟩
      have HB62 := Lib.hid (bel_next HB32.out hb)
      have hsz := hb.size
      have hbx := hb
      have lt_R := FR33.out.lt
      have FM63 := Lib.hid (RowV.next (W' := W61) FM33.out hbx)
      have FR63 := Lib.hid (blk_keep (W' := W61) FR33.out (below_old hb lt_R))
      clear hHeld
      refine hK.out _ _ ?_ (fun hHeld => ?_)
      · exact SOF.out _ HB62.out
      clear hK K
      clear hb hbx hsz lt_R FM33 FR33 HB32
      try simp only [Act.put, List.setIfInBounds_toArray, List.set_cons_zero, List.set_cons_succ]
      refine wpAnyH_ready (rs := [1, 19]) (by kernel_rfl) (by simp) ?_
      refine AllReadyH.cons (o := _) (by simp only [List.getElem?_toArray, List.getElem?_cons_succ, List.getElem?_cons_zero]; rfl) (fun K hK => ?_) ?_
      · go_simp
        have HB65 := Lib.hid (HB62.out.alloc HB62.out.size (.cells #[.string ⟨#[105, 100]⟩, .string ⟨#[118, 101, 114, 115, 105, 111, 110]⟩, .string ⟨#[118, 97, 108, 117, 101]⟩] 9))
        have hbx := below_alloc W61 (.cells #[.string ⟨#[105, 100]⟩, .string ⟨#[118, 101, 114, 115, 105, 111, 110]⟩, .string ⟨#[118, 97, 108, 117, 101]⟩] 9)
        have hsz := hbx.size
        have lt_R := FR63.out.lt
        have FN66 : Hid (Blk (W61.alloc (.cells #[.string ⟨#[105, 100]⟩, .string ⟨#[118, 101, 114, 115, 105, 111, 110]⟩, .string ⟨#[118, 97, 108, 117, 101]⟩] 9)) W61.heap.size 9 #[.string ⟨#[105, 100]⟩, .string ⟨#[118, 101, 114, 115, 105, 111, 110]⟩, .string ⟨#[118, 97, 108, 117, 101]⟩]) := Lib.hid (Blk.new W61 9 #[.string ⟨#[105, 100]⟩, .string ⟨#[118, 101, 114, 115, 105, 111, 110]⟩, .string ⟨#[118, 97, 108, 117, 101]⟩])
        have FM67 := Lib.hid (RowV.next (W' := W61.alloc (.cells #[.string ⟨#[105, 100]⟩, .string ⟨#[118, 101, 114, 115, 105, 111, 110]⟩, .string ⟨#[118, 97, 108, 117, 101]⟩] 9)) FM63.out hbx)
        have FR67 := Lib.hid (blk_keep (W' := W61.alloc (.cells #[.string ⟨#[105, 100]⟩, .string ⟨#[118, 101, 114, 115, 105, 111, 110]⟩, .string ⟨#[118, 97, 108, 117, 101]⟩] 9)) FR63.out (below_old hbx lt_R))
        clear hHeld
        refine hK.out _ _ ?_ (fun hHeld => ?_)
        · exact SOF.out _ HB65.out
        clear hK K
        obtain ⟨W64, hWn⟩ : ∃ Wn, W61.alloc (.cells #[.string ⟨#[105, 100]⟩, .string ⟨#[118, 101, 114, 115, 105, 111, 110]⟩, .string ⟨#[118, 97, 108, 117, 101]⟩] 9) = Wn := ⟨_, rfl⟩
        obtain ⟨aN, ha⟩ : ∃ a, W61.heap.size = a := ⟨_, rfl⟩
        rw [hWn] at HB65 FN66 FM67 FR67 hHeld ⊢
        rw [ha] at FN66 ⊢
        have N68 : Hid (gr ≠ aN) := Lib.hid (by omega)
        have NVaN : Hid (some aN ≠ u3.ownBlock) := Lib.hid (fun e => Nat.lt_irrefl _ (ha ▸ (RowV.ltb FM63.out e.symm).2))
        clear hWn ha hbx hsz lt_R FM63 FR63 HB62
        try simp only [Act.put, List.setIfInBounds_toArray, List.set_cons_zero, List.set_cons_succ]
        refine wpAnyH_ready (rs := [19]) (by kernel_rfl) (by simp) ?_
        refine AllReadyH.cons (o := _) (by simp only [List.getElem?_toArray, List.getElem?_cons_succ, List.getElem?_cons_zero]; rfl) (fun K hK => ?_) AllReadyH.nil
        go_simp
        have HB70 := Lib.hid (HB65.out.alloc HB65.out.size (.cells #[.int .i64 4, .int .i64 0, .string id, .slice none 0 0, .slice none 0 0, .int .i64 3, .int .i64 ver, .string ⟨#[]⟩, .slice none 0 0, .slice none 0 0, .int .i64 f1, .int .i64 f2, .string f3, .slice f4 f5 f6, .slice f7 f8 f9] 29))
        have hbx := below_alloc W64 (.cells #[.int .i64 4, .int .i64 0, .string id, .slice none 0 0, .slice none 0 0, .int .i64 3, .int .i64 ver, .string ⟨#[]⟩, .slice none 0 0, .slice none 0 0, .int .i64 f1, .int .i64 f2, .string f3, .slice f4 f5 f6, .slice f7 f8 f9] 29)
        have hsz := hbx.size
        have lt_R := FR67.out.lt
        have lt_N := FN66.out.lt
        have FI71 : Hid (Blk (W64.alloc (.cells #[.int .i64 4, .int .i64 0, .string id, .slice none 0 0, .slice none 0 0, .int .i64 3, .int .i64 ver, .string ⟨#[]⟩, .slice none 0 0, .slice none 0 0, .int .i64 f1, .int .i64 f2, .string f3, .slice f4 f5 f6, .slice f7 f8 f9] 29)) W64.heap.size 29 #[.int .i64 4, .int .i64 0, .string id, .slice none 0 0, .slice none 0 0, .int .i64 3, .int .i64 ver, .string ⟨#[]⟩, .slice none 0 0, .slice none 0 0, .int .i64 f1, .int .i64 f2, .string f3, .slice f4 f5 f6, .slice f7 f8 f9]) := Lib.hid (Blk.new W64 29 #[.int .i64 4, .int .i64 0, .string id, .slice none 0 0, .slice none 0 0, .int .i64 3, .int .i64 ver, .string ⟨#[]⟩, .slice none 0 0, .slice none 0 0, .int .i64 f1, .int .i64 f2, .string f3, .slice f4 f5 f6, .slice f7 f8 f9])
        have FM72 := Lib.hid (RowV.next (W' := W64.alloc (.cells #[.int .i64 4, .int .i64 0, .string id, .slice none 0 0, .slice none 0 0, .int .i64 3, .int .i64 ver, .string ⟨#[]⟩, .slice none 0 0, .slice none 0 0, .int .i64 f1, .int .i64 f2, .string f3, .slice f4 f5 f6, .slice f7 f8 f9] 29)) FM67.out hbx)
        have FR72 := Lib.hid (blk_keep (W' := W64.alloc (.cells #[.int .i64 4, .int .i64 0, .string id, .slice none 0 0, .slice none 0 0, .int .i64 3, .int .i64 ver, .string ⟨#[]⟩, .slice none 0 0, .slice none 0 0, .int .i64 f1, .int .i64 f2, .string f3, .slice f4 f5 f6, .slice f7 f8 f9] 29)) FR67.out (below_old hbx lt_R))
        have FN72 := Lib.hid (blk_keep (W' := W64.alloc (.cells #[.int .i64 4, .int .i64 0, .string id, .slice none 0 0, .slice none 0 0, .int .i64 3, .int .i64 ver, .string ⟨#[]⟩, .slice none 0 0, .slice none 0 0, .int .i64 f1, .int .i64 f2, .string f3, .slice f4 f5 f6, .slice f7 f8 f9] 29)) FN66.out (below_old hbx lt_N))
        clear hHeld
        refine hK.out _ _ ?_ (fun hHeld => ?_)
        · exact SOF.out _ HB70.out
        clear hK K
        obtain ⟨W69, hWn⟩ : ∃ Wn, W64.alloc (.cells #[.int .i64 4, .int .i64 0, .string id, .slice none 0 0, .slice none 0 0, .int .i64 3, .int .i64 ver, .string ⟨#[]⟩, .slice none 0 0, .slice none 0 0, .int .i64 f1, .int .i64 f2, .string f3, .slice f4 f5 f6, .slice f7 f8 f9] 29) = Wn := ⟨_, rfl⟩
        obtain ⟨aI, ha⟩ : ∃ a, W64.heap.size = a := ⟨_, rfl⟩
        rw [hWn] at HB70 FI71 FM72 FR72 FN72 hHeld ⊢
        rw [ha] at FI71 ⊢
        have N73 : Hid (gr ≠ aI) := Lib.hid (by omega)
        have N74 : Hid (aN ≠ aI) := Lib.hid (by omega)
        have NVaI : Hid (some aI ≠ u3.ownBlock) := Lib.hid (fun e => Nat.lt_irrefl _ (ha ▸ (RowV.ltb FM67.out e.symm).2))
        clear hWn ha hbx hsz lt_R lt_N FM67 FR67 FN66 HB65
        try simp only [Act.put, List.setIfInBounds_toArray, List.set_cons_zero, List.set_cons_succ]
        refine wpAnyH_ready (rs := [20]) (by kernel_rfl) (by simp) ?_
        refine AllReadyH.cons (o := _) (by simp only [List.getElem?_toArray, List.getElem?_cons_succ, List.getElem?_cons_zero]; rfl) (fun K hK => ?_) AllReadyH.nil
        go_simp
        go_at_call 41
        refine (robject_any W69 (some ⟨aN, 0, none⟩) (some ⟨aI, 0, none⟩) 3 3 3 3).mono ?_
        rintro e W75 ⟨rfl, hb⟩
        have HB76 := Lib.hid (bel_next HB70.out hb)
        have hsz := hb.size
        have hbx := hb
        have lt_R := FR72.out.lt
        have lt_N := FN72.out.lt
        have lt_I := FI71.out.lt
        have FM77 := Lib.hid (RowV.next (W' := W75) FM72.out hbx)
        have FR77 := Lib.hid (blk_keep (W' := W75) FR72.out (below_old hb lt_R))
        have FN77 := Lib.hid (blk_keep (W' := W75) FN72.out (below_old hb lt_N))
        have FI77 := Lib.hid (blk_keep (W' := W75) FI71.out (below_old hb lt_I))
        clear hHeld
        refine hK.out _ _ ?_ (fun hHeld => ?_)
        · exact SOF.out _ HB76.out
        clear hK K
        clear hb hbx hsz lt_R lt_N lt_I FM72 FR72 FN72 FI71 HB70
        try simp only [Act.put, List.setIfInBounds_toArray, List.set_cons_zero, List.set_cons_succ]
        refine wpAnyH_ready (rs := [21]) (by kernel_rfl) (by simp) ?_
        refine AllReadyH.cons (o := _) (by simp only [List.getElem?_toArray, List.getElem?_cons_succ, List.getElem?_cons_zero]; rfl) (fun K hK => ?_) AllReadyH.nil
        go_simp
        have HB79 := Lib.hid (HB76.out.alloc HB76.out.size (.cells #[.int .i64 6, .int .i64 0, .string ⟨#[]⟩, .slice (some ⟨aN, 0, none⟩) 3 3, .slice (some ⟨aI, 0, none⟩) 3 3] 29))
        have hbx := below_alloc W75 (.cells #[.int .i64 6, .int .i64 0, .string ⟨#[]⟩, .slice (some ⟨aN, 0, none⟩) 3 3, .slice (some ⟨aI, 0, none⟩) 3 3] 29)
        have hsz := hbx.size
        have lt_R := FR77.out.lt
        have lt_N := FN77.out.lt
        have lt_I := FI77.out.lt
        have FP80 : Hid (Blk (W75.alloc (.cells #[.int .i64 6, .int .i64 0, .string ⟨#[]⟩, .slice (some ⟨aN, 0, none⟩) 3 3, .slice (some ⟨aI, 0, none⟩) 3 3] 29)) W75.heap.size 29 #[.int .i64 6, .int .i64 0, .string ⟨#[]⟩, .slice (some ⟨aN, 0, none⟩) 3 3, .slice (some ⟨aI, 0, none⟩) 3 3]) := Lib.hid (Blk.new W75 29 #[.int .i64 6, .int .i64 0, .string ⟨#[]⟩, .slice (some ⟨aN, 0, none⟩) 3 3, .slice (some ⟨aI, 0, none⟩) 3 3])
        have FM81 := Lib.hid (RowV.next (W' := W75.alloc (.cells #[.int .i64 6, .int .i64 0, .string ⟨#[]⟩, .slice (some ⟨aN, 0, none⟩) 3 3, .slice (some ⟨aI, 0, none⟩) 3 3] 29)) FM77.out hbx)
        have FR81 := Lib.hid (blk_keep (W' := W75.alloc (.cells #[.int .i64 6, .int .i64 0, .string ⟨#[]⟩, .slice (some ⟨aN, 0, none⟩) 3 3, .slice (some ⟨aI, 0, none⟩) 3 3] 29)) FR77.out (below_old hbx lt_R))
        have FN81 := Lib.hid (blk_keep (W' := W75.alloc (.cells #[.int .i64 6, .int .i64 0, .string ⟨#[]⟩, .slice (some ⟨aN, 0, none⟩) 3 3, .slice (some ⟨aI, 0, none⟩) 3 3] 29)) FN77.out (below_old hbx lt_N))
        have FI81 := Lib.hid (blk_keep (W' := W75.alloc (.cells #[.int .i64 6, .int .i64 0, .string ⟨#[]⟩, .slice (some ⟨aN, 0, none⟩) 3 3, .slice (some ⟨aI, 0, none⟩) 3 3] 29)) FI77.out (below_old hbx lt_I))
        clear hHeld
        refine hK.out _ _ ?_ (fun hHeld => ?_)
        · exact SOF.out _ HB79.out
        clear hK K
        obtain ⟨W78, hWn⟩ : ∃ Wn, W75.alloc (.cells #[.int .i64 6, .int .i64 0, .string ⟨#[]⟩, .slice (some ⟨aN, 0, none⟩) 3 3, .slice (some ⟨aI, 0, none⟩) 3 3] 29) = Wn := ⟨_, rfl⟩
        obtain ⟨aP, ha⟩ : ∃ a, W75.heap.size = a := ⟨_, rfl⟩
        rw [hWn] at HB79 FP80 FM81 FR81 FN81 FI81 hHeld ⊢
        rw [ha] at FP80 ⊢
        have N82 : Hid (gr ≠ aP) := Lib.hid (by omega)
        have N83 : Hid (aN ≠ aP) := Lib.hid (by omega)
        have N84 : Hid (aI ≠ aP) := Lib.hid (by omega)
        clear hWn ha hbx hsz lt_R lt_N lt_I FM77 FR77 FN77 FI77 HB76
        try simp only [Act.put, List.setIfInBounds_toArray, List.set_cons_zero, List.set_cons_succ]
        refine wpAnyH_ready (rs := [22]) (by kernel_rfl) (by simp) ?_
        refine AllReadyH.cons (o := _) (by simp only [List.getElem?_toArray, List.getElem?_cons_succ, List.getElem?_cons_zero]; rfl) (fun K hK => ?_) AllReadyH.nil
        obtain ⟨news, hrow, hflat⟩ := FM81.out
        rw [HQL.out] at hrow
        refine step_append_any _ (by rfl) (.tmp 11) (.tmp 32) 27 (by rfl) w.heap.size 29 i2 _ 5 80 Tryz.underlying27 hj hz0 hz1 hz2 (by rfl) (by decide) _ q news (by rfl) hrow (aP + 1) (some ⟨aP, 0, none⟩) 1 1 [.int .i64 6, .int .i64 0, .string ⟨#[]⟩, .slice (some ⟨aN, 0, none⟩) 3 3, .slice (some ⟨aI, 0, none⟩) 3 3] (by rfl) ⟨rfl, fun _ => ⟨_, rfl, Nat.lt_succ_self _, fun j u hu => by rw [add_lit, Nat.zero_add, FP80.out.cell j]; simpa using hu⟩⟩ (by intro u hu; simp at hu; rcases hu with rfl | rfl | rfl | rfl | rfl <;> rfl) (by unfold maxLen; omega) (by omega) HB79.out.size ?_
        intro v9 W87 hown hgrow hloc
        have hX : V.At (Mt.off (some gr) u3 W78) W78.heap.size (docV id ver x) [.int .i64 6, .int .i64 0, .string ⟨#[]⟩, .slice (some ⟨aN, 0, none⟩) 3 3, .slice (some ⟨aI, 0, none⟩) 3 3] := obj_at (W := w) (C := w.heap.size) rfl rfl (Nat.le_refl _)
          (by have h9 := (((blk_rowS FN81.out rfl : RowIs 1 StrR W78 aN docN).off (ex := some gr) NVaN.out (fun e => (Ne.symm N68.out) (Option.some.inj e))).lst (by decide)); rwa [off_size] at h9)
          (by have h9 := (((blk_rowV FI81.out rfl HFI.out : RowIs 5 _ W78 aI (docX id ver x)).off (ex := some gr) NVaI.out (fun e => (Ne.symm N73.out) (Option.some.inj e))).lst (by show 3 ≤ 1048576; decide)); rwa [off_size] at h9)
          (mono_off HB79.out (fun b hb => (World.ownsRow.lt hrow b hb).1) (fun b e => by have := Option.some.inj e; have := HGR.out; omega)) HB79.out.size
        have FM9 := Lib.hid (RowV.push hflat hgrow hloc hX (by rw [HQL.out]; exact hown))
        have HB87 := Lib.hid (HB79.out.grown hgrow HB79.out.size (fun k hk => (World.ownsRow.lt hrow k hk).1))
        have hltr := FR81.out.lt
        have FR9 := Lib.hid (blk_keep (W' := W87) FR81.out (hgrow.block gr hltr HNR.out))
        have HNR9 : Hid (some gr ≠ v9.ownBlock) := Lib.hid (by
          rcases hloc with e | e
          · rw [e]; exact HNR.out
          · rw [e]
            intro e2
            have := Option.some.inj e2
            omega)
        clear hHeld
        refine hK.out _ _ ?_ (fun hHeld => ?_)
        · exact SOF.out _ HB87.out
        clear hK K
        try simp only [Act.put, List.setIfInBounds_toArray, List.set_cons_zero, List.set_cons_succ]
        refine wpAnyH_take (i := 23) (v := ?_) (by simp only [List.getElem?_toArray, List.getElem?_cons_succ, List.getElem?_cons_zero]; rfl) (by kernel_rfl) (by kernel_rfl) (by kernel_rfl) (fun _ _ _ h => h) (Or.inl ⟨by rfl, ?_⟩) (by assumption) ?_
        rotate_left
        · (intro w hSw; (try dsimp only at hSw); go_simp; try with_reducible rfl)
        try simp only [Act.put, List.setIfInBounds_toArray, List.set_cons_zero, List.set_cons_succ]
        refine wpAnyH_done (by kernel_rfl) ?_ _
        refine NoPanic.normal ?_
        go_wp2_with fail
        go_roundw
        case rel => exact ⟨q + 1, by omega, by go_num, Lib.hid (by rw [HAP.out]; exact FM9.out), FR9, HNR9, HB87⟩
        case measure => simp [RowKit.intOf]; omega
      refine AllReadyH.cons (o := _) (by simp only [List.getElem?_toArray, List.getElem?_cons_succ, List.getElem?_cons_zero]; rfl) (fun K hK => ?_) AllReadyH.nil
      go_simp
      have HB89 := Lib.hid (HB62.out.alloc HB62.out.size (.cells #[.int .i64 4, .int .i64 0, .string id, .slice none 0 0, .slice none 0 0, .int .i64 3, .int .i64 ver, .string ⟨#[]⟩, .slice none 0 0, .slice none 0 0, .int .i64 f1, .int .i64 f2, .string f3, .slice f4 f5 f6, .slice f7 f8 f9] 29))
      have hbx := below_alloc W61 (.cells #[.int .i64 4, .int .i64 0, .string id, .slice none 0 0, .slice none 0 0, .int .i64 3, .int .i64 ver, .string ⟨#[]⟩, .slice none 0 0, .slice none 0 0, .int .i64 f1, .int .i64 f2, .string f3, .slice f4 f5 f6, .slice f7 f8 f9] 29)
      have hsz := hbx.size
      have lt_R := FR63.out.lt
      have FI90 : Hid (Blk (W61.alloc (.cells #[.int .i64 4, .int .i64 0, .string id, .slice none 0 0, .slice none 0 0, .int .i64 3, .int .i64 ver, .string ⟨#[]⟩, .slice none 0 0, .slice none 0 0, .int .i64 f1, .int .i64 f2, .string f3, .slice f4 f5 f6, .slice f7 f8 f9] 29)) W61.heap.size 29 #[.int .i64 4, .int .i64 0, .string id, .slice none 0 0, .slice none 0 0, .int .i64 3, .int .i64 ver, .string ⟨#[]⟩, .slice none 0 0, .slice none 0 0, .int .i64 f1, .int .i64 f2, .string f3, .slice f4 f5 f6, .slice f7 f8 f9]) := Lib.hid (Blk.new W61 29 #[.int .i64 4, .int .i64 0, .string id, .slice none 0 0, .slice none 0 0, .int .i64 3, .int .i64 ver, .string ⟨#[]⟩, .slice none 0 0, .slice none 0 0, .int .i64 f1, .int .i64 f2, .string f3, .slice f4 f5 f6, .slice f7 f8 f9])
      have FM91 := Lib.hid (RowV.next (W' := W61.alloc (.cells #[.int .i64 4, .int .i64 0, .string id, .slice none 0 0, .slice none 0 0, .int .i64 3, .int .i64 ver, .string ⟨#[]⟩, .slice none 0 0, .slice none 0 0, .int .i64 f1, .int .i64 f2, .string f3, .slice f4 f5 f6, .slice f7 f8 f9] 29)) FM63.out hbx)
      have FR91 := Lib.hid (blk_keep (W' := W61.alloc (.cells #[.int .i64 4, .int .i64 0, .string id, .slice none 0 0, .slice none 0 0, .int .i64 3, .int .i64 ver, .string ⟨#[]⟩, .slice none 0 0, .slice none 0 0, .int .i64 f1, .int .i64 f2, .string f3, .slice f4 f5 f6, .slice f7 f8 f9] 29)) FR63.out (below_old hbx lt_R))
      clear hHeld
      refine hK.out _ _ ?_ (fun hHeld => ?_)
      · exact SOF.out _ HB89.out
      clear hK K
      obtain ⟨W88, hWn⟩ : ∃ Wn, W61.alloc (.cells #[.int .i64 4, .int .i64 0, .string id, .slice none 0 0, .slice none 0 0, .int .i64 3, .int .i64 ver, .string ⟨#[]⟩, .slice none 0 0, .slice none 0 0, .int .i64 f1, .int .i64 f2, .string f3, .slice f4 f5 f6, .slice f7 f8 f9] 29) = Wn := ⟨_, rfl⟩
      obtain ⟨aI, ha⟩ : ∃ a, W61.heap.size = a := ⟨_, rfl⟩
      rw [hWn] at HB89 FI90 FM91 FR91 hHeld ⊢
      rw [ha] at FI90 ⊢
      have N92 : Hid (gr ≠ aI) := Lib.hid (by omega)
      have NVaI : Hid (some aI ≠ u3.ownBlock) := Lib.hid (fun e => Nat.lt_irrefl _ (ha ▸ (RowV.ltb FM63.out e.symm).2))
      clear hWn ha hbx hsz lt_R FM63 FR63 HB62
      try simp only [Act.put, List.setIfInBounds_toArray, List.set_cons_zero, List.set_cons_succ]
      refine wpAnyH_ready (rs := [1]) (by kernel_rfl) (by simp) ?_
      refine AllReadyH.cons (o := _) (by simp only [List.getElem?_toArray, List.getElem?_cons_succ, List.getElem?_cons_zero]; rfl) (fun K hK => ?_) AllReadyH.nil
      go_simp
      have HB94 := Lib.hid (HB89.out.alloc HB89.out.size (.cells #[.string ⟨#[105, 100]⟩, .string ⟨#[118, 101, 114, 115, 105, 111, 110]⟩, .string ⟨#[118, 97, 108, 117, 101]⟩] 9))
      have hbx := below_alloc W88 (.cells #[.string ⟨#[105, 100]⟩, .string ⟨#[118, 101, 114, 115, 105, 111, 110]⟩, .string ⟨#[118, 97, 108, 117, 101]⟩] 9)
      have hsz := hbx.size
      have lt_R := FR91.out.lt
      have lt_I := FI90.out.lt
      have FN95 : Hid (Blk (W88.alloc (.cells #[.string ⟨#[105, 100]⟩, .string ⟨#[118, 101, 114, 115, 105, 111, 110]⟩, .string ⟨#[118, 97, 108, 117, 101]⟩] 9)) W88.heap.size 9 #[.string ⟨#[105, 100]⟩, .string ⟨#[118, 101, 114, 115, 105, 111, 110]⟩, .string ⟨#[118, 97, 108, 117, 101]⟩]) := Lib.hid (Blk.new W88 9 #[.string ⟨#[105, 100]⟩, .string ⟨#[118, 101, 114, 115, 105, 111, 110]⟩, .string ⟨#[118, 97, 108, 117, 101]⟩])
      have FM96 := Lib.hid (RowV.next (W' := W88.alloc (.cells #[.string ⟨#[105, 100]⟩, .string ⟨#[118, 101, 114, 115, 105, 111, 110]⟩, .string ⟨#[118, 97, 108, 117, 101]⟩] 9)) FM91.out hbx)
      have FR96 := Lib.hid (blk_keep (W' := W88.alloc (.cells #[.string ⟨#[105, 100]⟩, .string ⟨#[118, 101, 114, 115, 105, 111, 110]⟩, .string ⟨#[118, 97, 108, 117, 101]⟩] 9)) FR91.out (below_old hbx lt_R))
      have FI96 := Lib.hid (blk_keep (W' := W88.alloc (.cells #[.string ⟨#[105, 100]⟩, .string ⟨#[118, 101, 114, 115, 105, 111, 110]⟩, .string ⟨#[118, 97, 108, 117, 101]⟩] 9)) FI90.out (below_old hbx lt_I))
      clear hHeld
      refine hK.out _ _ ?_ (fun hHeld => ?_)
      · exact SOF.out _ HB94.out
      clear hK K
      obtain ⟨W93, hWn⟩ : ∃ Wn, W88.alloc (.cells #[.string ⟨#[105, 100]⟩, .string ⟨#[118, 101, 114, 115, 105, 111, 110]⟩, .string ⟨#[118, 97, 108, 117, 101]⟩] 9) = Wn := ⟨_, rfl⟩
      obtain ⟨aN, ha⟩ : ∃ a, W88.heap.size = a := ⟨_, rfl⟩
      rw [hWn] at HB94 FN95 FM96 FR96 FI96 hHeld ⊢
      rw [ha] at FN95 ⊢
      have N97 : Hid (gr ≠ aN) := Lib.hid (by omega)
      have N98 : Hid (aI ≠ aN) := Lib.hid (by omega)
      have NVaN : Hid (some aN ≠ u3.ownBlock) := Lib.hid (fun e => Nat.lt_irrefl _ (ha ▸ (RowV.ltb FM91.out e.symm).2))
      clear hWn ha hbx hsz lt_R lt_I FM91 FR91 FI90 HB89
      try simp only [Act.put, List.setIfInBounds_toArray, List.set_cons_zero, List.set_cons_succ]
      refine wpAnyH_ready (rs := [20]) (by kernel_rfl) (by simp) ?_
      refine AllReadyH.cons (o := _) (by simp only [List.getElem?_toArray, List.getElem?_cons_succ, List.getElem?_cons_zero]; rfl) (fun K hK => ?_) AllReadyH.nil
      go_simp
      go_at_call 41
      refine (robject_any W93 (some ⟨aN, 0, none⟩) (some ⟨aI, 0, none⟩) 3 3 3 3).mono ?_
      rintro e W99 ⟨rfl, hb⟩
      have HB100 := Lib.hid (bel_next HB94.out hb)
      have hsz := hb.size
      have hbx := hb
      have lt_R := FR96.out.lt
      have lt_I := FI96.out.lt
      have lt_N := FN95.out.lt
      have FM101 := Lib.hid (RowV.next (W' := W99) FM96.out hbx)
      have FR101 := Lib.hid (blk_keep (W' := W99) FR96.out (below_old hb lt_R))
      have FI101 := Lib.hid (blk_keep (W' := W99) FI96.out (below_old hb lt_I))
      have FN101 := Lib.hid (blk_keep (W' := W99) FN95.out (below_old hb lt_N))
      clear hHeld
      refine hK.out _ _ ?_ (fun hHeld => ?_)
      · exact SOF.out _ HB100.out
      clear hK K
      clear hb hbx hsz lt_R lt_I lt_N FM96 FR96 FI96 FN95 HB94
      try simp only [Act.put, List.setIfInBounds_toArray, List.set_cons_zero, List.set_cons_succ]
      refine wpAnyH_ready (rs := [21]) (by kernel_rfl) (by simp) ?_
      refine AllReadyH.cons (o := _) (by simp only [List.getElem?_toArray, List.getElem?_cons_succ, List.getElem?_cons_zero]; rfl) (fun K hK => ?_) AllReadyH.nil
      go_simp
      have HB103 := Lib.hid (HB100.out.alloc HB100.out.size (.cells #[.int .i64 6, .int .i64 0, .string ⟨#[]⟩, .slice (some ⟨aN, 0, none⟩) 3 3, .slice (some ⟨aI, 0, none⟩) 3 3] 29))
      have hbx := below_alloc W99 (.cells #[.int .i64 6, .int .i64 0, .string ⟨#[]⟩, .slice (some ⟨aN, 0, none⟩) 3 3, .slice (some ⟨aI, 0, none⟩) 3 3] 29)
      have hsz := hbx.size
      have lt_R := FR101.out.lt
      have lt_I := FI101.out.lt
      have lt_N := FN101.out.lt
      have FP104 : Hid (Blk (W99.alloc (.cells #[.int .i64 6, .int .i64 0, .string ⟨#[]⟩, .slice (some ⟨aN, 0, none⟩) 3 3, .slice (some ⟨aI, 0, none⟩) 3 3] 29)) W99.heap.size 29 #[.int .i64 6, .int .i64 0, .string ⟨#[]⟩, .slice (some ⟨aN, 0, none⟩) 3 3, .slice (some ⟨aI, 0, none⟩) 3 3]) := Lib.hid (Blk.new W99 29 #[.int .i64 6, .int .i64 0, .string ⟨#[]⟩, .slice (some ⟨aN, 0, none⟩) 3 3, .slice (some ⟨aI, 0, none⟩) 3 3])
      have FM105 := Lib.hid (RowV.next (W' := W99.alloc (.cells #[.int .i64 6, .int .i64 0, .string ⟨#[]⟩, .slice (some ⟨aN, 0, none⟩) 3 3, .slice (some ⟨aI, 0, none⟩) 3 3] 29)) FM101.out hbx)
      have FR105 := Lib.hid (blk_keep (W' := W99.alloc (.cells #[.int .i64 6, .int .i64 0, .string ⟨#[]⟩, .slice (some ⟨aN, 0, none⟩) 3 3, .slice (some ⟨aI, 0, none⟩) 3 3] 29)) FR101.out (below_old hbx lt_R))
      have FI105 := Lib.hid (blk_keep (W' := W99.alloc (.cells #[.int .i64 6, .int .i64 0, .string ⟨#[]⟩, .slice (some ⟨aN, 0, none⟩) 3 3, .slice (some ⟨aI, 0, none⟩) 3 3] 29)) FI101.out (below_old hbx lt_I))
      have FN105 := Lib.hid (blk_keep (W' := W99.alloc (.cells #[.int .i64 6, .int .i64 0, .string ⟨#[]⟩, .slice (some ⟨aN, 0, none⟩) 3 3, .slice (some ⟨aI, 0, none⟩) 3 3] 29)) FN101.out (below_old hbx lt_N))
      clear hHeld
      refine hK.out _ _ ?_ (fun hHeld => ?_)
      · exact SOF.out _ HB103.out
      clear hK K
      obtain ⟨W102, hWn⟩ : ∃ Wn, W99.alloc (.cells #[.int .i64 6, .int .i64 0, .string ⟨#[]⟩, .slice (some ⟨aN, 0, none⟩) 3 3, .slice (some ⟨aI, 0, none⟩) 3 3] 29) = Wn := ⟨_, rfl⟩
      obtain ⟨aP, ha⟩ : ∃ a, W99.heap.size = a := ⟨_, rfl⟩
      rw [hWn] at HB103 FP104 FM105 FR105 FI105 FN105 hHeld ⊢
      rw [ha] at FP104 ⊢
      have N106 : Hid (gr ≠ aP) := Lib.hid (by omega)
      have N107 : Hid (aI ≠ aP) := Lib.hid (by omega)
      have N108 : Hid (aN ≠ aP) := Lib.hid (by omega)
      clear hWn ha hbx hsz lt_R lt_I lt_N FM101 FR101 FI101 FN101 HB100
      try simp only [Act.put, List.setIfInBounds_toArray, List.set_cons_zero, List.set_cons_succ]
      refine wpAnyH_ready (rs := [22]) (by kernel_rfl) (by simp) ?_
      refine AllReadyH.cons (o := _) (by simp only [List.getElem?_toArray, List.getElem?_cons_succ, List.getElem?_cons_zero]; rfl) (fun K hK => ?_) AllReadyH.nil
      obtain ⟨news, hrow, hflat⟩ := FM105.out
      rw [HQL.out] at hrow
      refine step_append_any _ (by rfl) (.tmp 11) (.tmp 32) 27 (by rfl) w.heap.size 29 i2 _ 5 80 Tryz.underlying27 hj hz0 hz1 hz2 (by rfl) (by decide) _ q news (by rfl) hrow (aP + 1) (some ⟨aP, 0, none⟩) 1 1 [.int .i64 6, .int .i64 0, .string ⟨#[]⟩, .slice (some ⟨aN, 0, none⟩) 3 3, .slice (some ⟨aI, 0, none⟩) 3 3] (by rfl) ⟨rfl, fun _ => ⟨_, rfl, Nat.lt_succ_self _, fun j u hu => by rw [add_lit, Nat.zero_add, FP104.out.cell j]; simpa using hu⟩⟩ (by intro u hu; simp at hu; rcases hu with rfl | rfl | rfl | rfl | rfl <;> rfl) (by unfold maxLen; omega) (by omega) HB103.out.size ?_
      intro v9 W111 hown hgrow hloc
      have hX : V.At (Mt.off (some gr) u3 W102) W102.heap.size (docV id ver x) [.int .i64 6, .int .i64 0, .string ⟨#[]⟩, .slice (some ⟨aN, 0, none⟩) 3 3, .slice (some ⟨aI, 0, none⟩) 3 3] := obj_at (W := w) (C := w.heap.size) rfl rfl (Nat.le_refl _)
        (by have h9 := (((blk_rowS FN105.out rfl : RowIs 1 StrR W102 aN docN).off (ex := some gr) NVaN.out (fun e => (Ne.symm N97.out) (Option.some.inj e))).lst (by decide)); rwa [off_size] at h9)
        (by have h9 := (((blk_rowV FI105.out rfl HFI.out : RowIs 5 _ W102 aI (docX id ver x)).off (ex := some gr) NVaI.out (fun e => (Ne.symm N92.out) (Option.some.inj e))).lst (by show 3 ≤ 1048576; decide)); rwa [off_size] at h9)
        (mono_off HB103.out (fun b hb => (World.ownsRow.lt hrow b hb).1) (fun b e => by have := Option.some.inj e; have := HGR.out; omega)) HB103.out.size
      have FM9 := Lib.hid (RowV.push hflat hgrow hloc hX (by rw [HQL.out]; exact hown))
      have HB111 := Lib.hid (HB103.out.grown hgrow HB103.out.size (fun k hk => (World.ownsRow.lt hrow k hk).1))
      have hltr := FR105.out.lt
      have FR9 := Lib.hid (blk_keep (W' := W111) FR105.out (hgrow.block gr hltr HNR.out))
      have HNR9 : Hid (some gr ≠ v9.ownBlock) := Lib.hid (by
        rcases hloc with e | e
        · rw [e]; exact HNR.out
        · rw [e]
          intro e2
          have := Option.some.inj e2
          omega)
      clear hHeld
      refine hK.out _ _ ?_ (fun hHeld => ?_)
      · exact SOF.out _ HB111.out
      clear hK K
      try simp only [Act.put, List.setIfInBounds_toArray, List.set_cons_zero, List.set_cons_succ]
      refine wpAnyH_take (i := 23) (v := ?_) (by simp only [List.getElem?_toArray, List.getElem?_cons_succ, List.getElem?_cons_zero]; rfl) (by kernel_rfl) (by kernel_rfl) (by kernel_rfl) (fun _ _ _ h => h) (Or.inl ⟨by rfl, ?_⟩) (by assumption) ?_
      rotate_left
      · (intro w hSw; (try dsimp only at hSw); go_simp; try with_reducible rfl)
      try simp only [Act.put, List.setIfInBounds_toArray, List.set_cons_zero, List.set_cons_succ]
      refine wpAnyH_done (by kernel_rfl) ?_ _
      refine NoPanic.normal ?_
      go_wp2_with fail
      go_roundw
      case rel => exact ⟨q + 1, by omega, by go_num, Lib.hid (by rw [HAP.out]; exact FM9.out), FR9, HNR9, HB111⟩
      case measure => simp [RowKit.intOf]; omega
    · obtain rfl : q = n := by omega
      have hall : (ds.map D.told).take q = ds.map D.told := List.take_of_length_le (by rw [List.length_map]; have := HN.out; omega)
      rw [hall] at HM0
      have hdl : (ds.map D.told).length = q := by rw [List.length_map]; exact HN.out
      obtain ⟨A9, c9, hv9, hc9, hl9⟩ := HM0.out.lst (by rw [hdl]; exact HM.out)
      rw [hdl] at hv9 hc9
      have HL9 := Lib.hid hl9
      have HDL := Lib.hid hdl
      have HLT := Lib.hid FR0'.out.lt
      subst hv9
      clear hall hdl hl9 hc9 HM0
      go_wp2_with (first
        | (go_at_call 43
           refine (rlist_any wr A9 q c9).mono ?_
           rintro e w4 ⟨rfl, hb4⟩
           have HB4 := Lib.hid (bel_next HB.out hb4)
           have HBX := Lib.hid hb4
           have FR4 := Lib.hid (FR0'.out.below hb4 FR0'.out.lt)
           clear hb4
           have x0 : w4.cell? ⟨gr, 0, none⟩ = some (.int .i64 0) := FR4.out.cell 0
           have x1 : w4.cell? ⟨gr, 1, none⟩ = some (.int .i64 0) := FR4.out.cell 1
           have x2 : w4.cell? ⟨gr, 2, none⟩ = some (.string ⟨#[]⟩) := FR4.out.cell 2
           have x3 : w4.cell? ⟨gr, 3, none⟩ = some (.slice none 0 0) := FR4.out.cell 3
           have x4 : w4.cell? ⟨gr, 4, none⟩ = some (.slice none 0 0) := FR4.out.cell 4
           have xf := fun j => FR4.out.frozen j)
        | go_in)
      refine bodyPost_ret (v := .agg #[.int .i64 5, .int .i64 0, .string ⟨#[]⟩, .slice none 0 0, .slice A9 q c9]) (by rw [results_cell1 rfl]; go_simp) rfl ?_
      suffices key : ∀ wF, wF = set5 w4 gr (.int .i64 5) (.int .i64 0) (.string ⟨#[]⟩) (.slice none 0 0) (.slice A9 q c9) → ∃ A1 c1, Ending.returned (.agg #[.int .i64 5, .int .i64 0, .string ⟨#[]⟩, .slice none 0 0, .slice A9 q c9]) = Ending.returned (.agg #[.int .i64 5, .int .i64 0, .string ⟨#[]⟩, .slice none 0 0, .slice A1 q c1]) ∧ V.At wF wF.heap.size (.mk 5 0 ⟨#[]⟩ [] (ds.map D.told)) [.int .i64 5, .int .i64 0, .string ⟨#[]⟩, .slice none 0 0, .slice A1 q c1] ∧ Below w.heap.size w wF from key _ rfl
      intro wF hwF
      have hbF : Below w.heap.size w wF := by rw [hwF]; exact set5_bel HB4.out HGR.out _ _ _ _ _
      have hzF : wF.heap.size = w4.heap.size := by rw [hwF]; exact set5_size _ _ _ _ _
      have hfF : ∀ b, b ≠ gr → wF.heap[b]? = w4.heap[b]? := fun b hb => by rw [hwF]; exact set5_far hb _ _ _ _ _
      clear hwF x0 x1 x2 x3 x4 xf
      have hms : Mono (off (some gr) (.slice A9 q c9) wr) wF := by
        refine (only_mono (q := fun _ => true) (w' := wF) fun b hb hl => ⟨rfl, ?_⟩).trans (only_sub _ _)
        have h0 := of_decide_eq_true hb
        exact (hfF b (fun e => h0.2 (by rw [e]))).trans (HBX.out.block b hl)
      have hl5 : Lst 5 (V.At (off (some gr) (.slice A9 q c9) wr) wr.heap.size) wF wF.heap.size A9 (ds.map D.told) := by
        refine ⟨HL9.out.1, fun hl => ?_⟩
        obtain ⟨b, off, e, hb, hc⟩ := HL9.out.2 hl
        refine ⟨b, off, e, by rw [hzF]; exact Nat.lt_of_lt_of_le hb HBX.out.size, fun i hi => ?_⟩
        obtain ⟨cs, h1, h2, h3⟩ := hc i hi
        refine ⟨cs, h1, fun j u hu => ?_, h3⟩
        have hne : b ≠ gr := fun e9 => HNR.out (by rw [e, e9]; rfl)
        exact (World.cell?_of_block ((hfF b hne).trans (HBX.out.block b hb))).trans (h2 j u hu)
      exact ⟨A9, c9, rfl, list_at HDL.out hl5 hms (by rw [hzF]; exact HBX.out.size), hbF⟩
end Go.Proofs.YtnckhmfajjcgpaaGreatDoor.Mt
