/- The document's Page, walked. -/
import Derived.Test.YtnckhmfajjcgpaaGreatDoorMtJ
import Derived.Test.YtnckhmfajjcgpaaGreatDoorMtA
import Derived.BigQuiet
set_option linter.unusedVariables false
set_option linter.unusedSimpArgs false
set_option linter.unusedSectionVars false
namespace Go.Proofs.YtnckhmfajjcgpaaGreatDoor.Mt
set_option linter.unusedVariables false
open Go.RowKit Go.Lib
theorem Lst.docs {w w' : World} {A : Option Addr} {ds : List D} (h : Lst 7 (DocR w w.heap.size) w w.heap.size A ds) (hb : Below w.heap.size w w') : Lst 7 (DocR w' w'.heap.size) w' w'.heap.size A ds :=
  (h.keep (fun p hp => hb.cell hp) fun x cs ⟨vs, h1, h2⟩ => ⟨vs, h1, (h2.below hb).more hb.size⟩).more hb.size
set_option maxRecDepth 100000 in
set_option maxHeartbeats 8000000 in
theorem rpage_any {bt : Int → ByteArray} (HBAD : BadOk 38 bt) (w : World) (A : Option Addr) (n c : Nat) (ds : List D) (fl : Bool) (hn : ds.length = n) (h : Lst 7 (DocR w w.heap.size) w w.heap.size A ds) (hsz : (pgV ds fl).sz ≤ 4194304) (hrg : (pgV ds fl).rng) :
    Calls Tryz.prog 9 #[.slice A n c, .bool fl] w fun e w' => e = .returned (.string (good bt (pgV ds fl))) ∧ Below w.heap.size w w' := by
  have HRG := Lib.hid hrg
  have HSZ := Lib.hid hsz
  have HBD := Lib.hid HBAD
  have HN := Lib.hid hn
  have H := Lib.hid h
  have FN := Lib.hid (Blk.new w 9 #[.string ⟨#[100, 111, 99, 115]⟩, .string ⟨#[100, 111, 110, 101]⟩])
  have HB0 := Lib.hid ((Below.refl w.heap.size w).alloc (Nat.le_refl _) (.cells #[.string ⟨#[100, 111, 99, 115]⟩, .string ⟨#[100, 111, 110, 101]⟩] 9))
  have HFL := Lib.hid (fun w => rtruth_any w fl)
  obtain ⟨kf, hkf⟩ : ∃ kf : Int, (if fl = true then 2 else 1) = kf := ⟨_, rfl⟩
  rw [hkf] at HFL
  have HKF : Hid (∀ (W : World) (C : Nat), V.At W C (flagV fl) [.int .i64 kf, .int .i64 0, .string ⟨#[]⟩, .slice none 0 0, .slice none 0 0]) := Lib.hid (fun W C => by unfold flagV; rw [hkf]; exact leaf_at W C kf 0 ⟨#[]⟩)
  obtain ⟨G, hG⟩ : ∃ G, good bt (pgV ds fl) = G := ⟨_, rfl⟩
  have HG := Lib.hid hG
  rw [hG]
  clear hn h hsz hrg HBAD hG hkf
  go_enter Tryz.func9, Tryz.ntmps9
  go_wp2_with (first
    | (go_at_call 21
       refine (rtold_any _ A n c ds HN.out (H.out.docs HB0.out)).mono ?_
       rintro e w4 ⟨A4, d4, rfl, hv4, hb4⟩
       have HB4 := Lib.hid (bel_next HB0.out hb4)
       have HV4 := Lib.hid hv4
       have F4 := Lib.hid (FN.out.below hb4 FN.out.lt)
       clear hv4 hb4)
    | (go_at_call 22
       refine (HFL.out w4).mono ?_
       rintro e w5 ⟨rfl, hb5⟩
       have HB5 := Lib.hid (bel_next HB4.out hb5)
       have HVL := Lib.hid ((HV4.out.below hb5).more hb5.size)
       have F5 := Lib.hid ((F4.out.below hb5 F4.out.lt).alloc (.cells #[.int .i64 5, .int .i64 0, .string ⟨#[]⟩, .slice none 0 0, .slice A4 n d4, .int .i64 kf, .int .i64 0, .string ⟨#[]⟩, .slice none 0 0, .slice none 0 0] 29))
       have FI := Lib.hid (Blk.new w5 29 #[.int .i64 5, .int .i64 0, .string ⟨#[]⟩, .slice none 0 0, .slice A4 n d4, .int .i64 kf, .int .i64 0, .string ⟨#[]⟩, .slice none 0 0, .slice none 0 0])
       have HB6 := Lib.hid (HB5.out.alloc HB5.out.size (.cells #[.int .i64 5, .int .i64 0, .string ⟨#[]⟩, .slice none 0 0, .slice A4 n d4, .int .i64 kf, .int .i64 0, .string ⟨#[]⟩, .slice none 0 0, .slice none 0 0] 29))
       have HLX := Lib.hid ((blk_rowV (l := pgX ds fl) FI.out rfl (pair_flat HVL.out (HKF.out w5 w5.heap.size))).lst (by show 2 ≤ 1048576; decide))
       have HLN := Lib.hid ((blk_rowS (l := pgN) F5.out rfl).lst (by decide))
       clear hb5)
    | (go_at_call 16
       refine (rgood_any HBD.out _ _ _ 2 2 _ pgN (pgX ds fl) w5 w5.heap.size rfl rfl (Nat.le_refl _) (Nat.le_refl _) HLN.out HLX.out (Nat.le_refl _) (mono_below (below_alloc w5 _)) (by simp) HSZ.out HRG.out).mono ?_
       rintro e w7 ⟨rfl, hb7⟩)
    | go_in)
  go_ret
  exact ⟨by rw [← HG.out]; rfl, bel_next HB6.out hb7⟩
end Go.Proofs.YtnckhmfajjcgpaaGreatDoor.Mt
namespace Go.Proofs.YtnckhmfajjcgpaaGreatDoor.Mt
set_option linter.unusedVariables false
open Go.RowKit Go.Lib
def bulkD (ds : List D) : Nat := (ds.map fun d => d.id.size + d.v.sz + 8).sum
theorem szs_told : ∀ (ds : List D), V.szs (ds.map D.told) ≤ 3 * bulkD ds
  | [] => by simp [V.szs]
  | d :: l => by
    have h := szs_told l
    have e : bulkD (d :: l) = d.id.size + d.v.sz + 8 + bulkD l := by simp [bulkD]
    have e2 : V.szs ((d :: l).map D.told) = d.told.sz + V.szs (l.map D.told) := by rw [List.map_cons, V.szs]
    have e3 : d.told.sz = 1 + 0 + 17 + ((1 + d.id.size + 0 + 0) + ((1 + 0 + 0 + 0) + (d.v.sz + 0))) := by
      unfold D.told docV docX docN
      simp only [V.sz, V.szs]
      rfl
    rw [e, e2, e3]
    omega
theorem pgV_sz (ds : List D) (fl : Bool) (h : bulkD ds ≤ 1048576) : (pgV ds fl).sz ≤ 4194304 := by
  have h1 := szs_told ds
  have e : (pgV ds fl).sz = 1 + 0 + 13 + ((1 + 0 + 0 + 0) + ((1 + 0 + 0 + V.szs (ds.map D.told)) + ((1 + 0 + 0 + 0) + 0))) := by
    unfold pgV gv pgX pgN flagV tru okT
    simp only [V.sz, V.szs]
    rfl
  rw [e]
  omega
theorem rngs_told : ∀ (ds : List D), (∀ d ∈ ds, (-9223372036854775808 ≤ d.ver ∧ d.ver ≤ 9223372036854775807) ∧ d.v.rng) → V.rngs (ds.map D.told)
  | [], _ => by simp [V.rngs]
  | d :: l, h => by
    rw [List.map_cons, V.rngs]
    refine ⟨?_, rngs_told l fun x hx => h x (by simp [hx])⟩
    have hd := h d (by simp)
    unfold D.told docV docX
    simp only [V.rng, V.rngs]
    exact ⟨by omega, ⟨by omega, trivial⟩, ⟨hd.1, trivial⟩, hd.2, trivial⟩
theorem pgV_rng (ds : List D) (fl : Bool) (h : ∀ d ∈ ds, (-9223372036854775808 ≤ d.ver ∧ d.ver ≤ 9223372036854775807) ∧ d.v.rng) : (pgV ds fl).rng := by
  have h1 := rngs_told ds h
  unfold pgV gv pgX flagV tru
  simp only [V.rng, V.rngs]
  refine ⟨by omega, ⟨by omega, trivial⟩, ⟨by omega, h1⟩, ⟨by omega, trivial⟩, trivial⟩
def LiveOk : Prop := ∀ (w : World), Calls Tryz.prog 5 #[] w fun e w' => e = .returned (.bool true) ∧ Below w.heap.size w w'
set_option maxRecDepth 100000 in
set_option maxHeartbeats 16000000 in
theorem law_any {bt : Int → ByteArray} (HM : BadOk 26 bt) (HR : BadOk 38 bt) (HL : LiveOk) (w : World) (hT : TbP w.heap.size w) (a s : Int) (A : Option Addr) (n c : Nat) (ds : List D) (fl : Bool) (hn : ds.length = n)
    (h : Lst 7 (DocR w w.heap.size) w w.heap.size A ds) (hb : bulkD ds ≤ 1048576) (hr : ∀ d ∈ ds, (-9223372036854775808 ≤ d.ver ∧ d.ver ≤ 9223372036854775807) ∧ d.v.rng)
    (ha : -9223372036854775808 ≤ a ∧ a ≤ 9223372036854775807) (hs : -9223372036854775808 ≤ s ∧ s ≤ 9223372036854775807) :
    Calls Tryz.prog 3 #[.agg #[.int .i64 a, .int .i64 s, .slice A n c, .bool fl]] w fun e w' => e = .returned (.bool true) ∧ Below w.heap.size w w' := by
  have hm : n ≤ 1048576 := by rw [← hn]; exact h.1
  have HN := Lib.hid hn
  have H := Lib.hid h
  have HLI := Lib.hid HL
  have HMO := Lib.hid (fun (w9 : World) (hb9 : Below w.heap.size w w9) => mopened_any HM w9 (hT.keep hb9 (Nat.le_refl _)) a s ha hs)
  have HRO := Lib.hid (fun (w9 : World) => ropened_any HR w9 a s ha hs)
  have HMP := Lib.hid (fun (w9 : World) (hb9 : Below w.heap.size w w9) => mpage_any HM w9 (hT.keep hb9 (Nat.le_refl _)) A n c ds fl hn (h.docs hb9) (pgV_sz ds fl hb) (pgV_rng ds fl hr))
  have HRP := Lib.hid (fun (w9 : World) (hb9 : Below w.heap.size w w9) => rpage_any HR w9 A n c ds fl hn (h.docs hb9) (pgV_sz ds fl hb) (pgV_rng ds fl hr))
  obtain ⟨G1, hG1⟩ : ∃ G, good bt (opV a s) = G := ⟨_, rfl⟩
  obtain ⟨G2, hG2⟩ : ∃ G, good bt (pgV ds fl) = G := ⟨_, rfl⟩
  rw [hG1] at HMO HRO
  rw [hG2] at HMP HRP
  clear hn h hT hb hr ha hs HM HR HL hG1 hG2
  go_enter Tryz.func3, Tryz.ntmps3
  go_upto_region 1 with fail
  have FP := Lib.hid (Blk.new w 24 #[.int .i64 a, .int .i64 s, .slice A n c, .bool fl])
  have HB0 := Lib.hid ((Below.refl w.heap.size w).alloc (Nat.le_refl _) (.cells #[.int .i64 a, .int .i64 s, .slice A n c, .bool fl] 24))
  obtain ⟨w1, hw1⟩ : ∃ w1, w.alloc (.cells #[.int .i64 a, .int .i64 s, .slice A n c, .bool fl] 24) = w1 := ⟨_, rfl⟩
  obtain ⟨gp, hgp⟩ : ∃ g, w.heap.size = g := ⟨_, rfl⟩
  rw [hw1] at FP HB0 ⊢
  rw [hgp] at FP ⊢
  clear hw1 hgp
  have c0 : w1.cell? ⟨gp, 0, none⟩ = some (.int .i64 a) := FP.out.cell 0
  have c1 : w1.cell? ⟨gp, 1, none⟩ = some (.int .i64 s) := FP.out.cell 1
  have c2 : w1.cell? ⟨gp, 2, none⟩ = some (.slice A n c) := FP.out.cell 2
  have c3 : w1.cell? ⟨gp, 3, none⟩ = some (.bool fl) := FP.out.cell 3
  go_quiet (fail)
  have HB1 := Lib.hid (bel_drewN2 HB0.out nq)
  clear c0 c1 c2 c3 HB0 FP
  generalize w1.drewN nq = wq at HB1 ⊢
  go_wp2
  go_loopw [7, 8] (fun v ix wr => ∃ (q : Nat) (z : Int), q ≤ n ∧ ix = .int .i64 q ∧ v = .int .i64 z ∧ Hid (Below w.heap.size w wr)) (fun _ i _ => n - (RowKit.intOf i).toNat)
  case atStart => exact ⟨0, _, Nat.zero_le _, rfl, rfl, HB1⟩
  case round =>
    clear HB1
    obtain ⟨q, z, hq, rfl, rfl, HB⟩ := hrel
    by_cases hgo : q < n ∧ z ≤ 20000
    · obtain ⟨hlt, hz⟩ := hgo
      have hkl : q < ds.length := by have := HN.out; omega
      have hli : (q : Int) < (n : Int) := by omega
      obtain ⟨b, off, e0, e1, e2, e3, e4, rfl, hb, hV, p0, p1, p2, p3, p4, p5, p6⟩ := H.out.doc hkl
      obtain ⟨f1, f2, f3, f4, f5, f6, f7, f8, f9, hform⟩ := hV.form
      injection hform with z0 hform
      injection hform with z1 hform
      injection hform with z2 hform
      injection hform with z3 hform
      injection hform with z4 hform
      subst z0 z1 z2 z3 z4
      clear hform p0 p1
      have q2 := (HB.out.cell (p := ⟨b, _, none⟩) hb).trans p2
      have q3 := (HB.out.cell (p := ⟨b, _, none⟩) hb).trans p3
      have q4 := (HB.out.cell (p := ⟨b, _, none⟩) hb).trans p4
      have q5 := (HB.out.cell (p := ⟨b, _, none⟩) hb).trans p5
      have q6 := (HB.out.cell (p := ⟨b, _, none⟩) hb).trans p6
      have HPA := Lib.hid (parts _ _ _ wr 20000 (Nat.lt_succ_self _) ((hV.below HB.out).more HB.out.size))
      clear hV p2 p3 p4 p5 p6
      go_wp2_with (first
        | (go_at_call 4
           refine HPA.out.mono ?_
           rintro e w9 ⟨⟨z2, rfl⟩, hb9⟩)
        | go_in)
      go_roundw
      case rel => exact ⟨q + 1, _, by omega, by go_num, rfl, Lib.hid (bel_next HB.out hb9)⟩
      case measure => simp [RowKit.intOf]; omega
    · by_cases hbig : 20000 < z
      · have hz : ¬ z ≤ 20000 := by omega
        by_cases hlt : q < n
        · have hli : (q : Int) < (n : Int) := by omega
          go_wp2_with (first | (go_at_call 5; refine (HLI.out _).mono ?_; rintro e w9 ⟨rfl, hb9⟩) | go_in)
          go_ret
          exact ⟨rfl, bel_next HB.out hb9⟩
        · have hli : ¬ (q : Int) < (n : Int) := by omega
          go_wp2_with (first | (go_at_call 5; refine (HLI.out _).mono ?_; rintro e w9 ⟨rfl, hb9⟩) | go_in)
          go_ret
          exact ⟨rfl, bel_next HB.out hb9⟩
      · have hli : ¬ (q : Int) < (n : Int) := by omega
        go_wp2_with (first
          | (go_at_call 6; refine (HMO.out wr HB.out).mono ?_; rintro e w2 ⟨rfl, hb2⟩; have HB2 := Lib.hid (bel_next HB.out hb2); clear hb2)
          | (go_at_call 7; refine (HRO.out w2).mono ?_; rintro e w3 ⟨rfl, hb3⟩; have HB3 := Lib.hid (bel_next HB2.out hb3); clear hb3)
          | (go_at_call 8; refine (HMP.out w3 HB3.out).mono ?_; rintro e w4 ⟨rfl, hb4⟩; have HB4 := Lib.hid (bel_next HB3.out hb4); clear hb4)
          | (go_at_call 9; refine (HRP.out w4 HB4.out).mono ?_; rintro e w5 ⟨rfl, hb5⟩; have HB5 := Lib.hid (bel_next HB4.out hb5); clear hb5)
          | (go_at_call 5; refine (HLI.out _).mono ?_; rintro e w6 ⟨rfl, hb6⟩)
          | go_in)
        go_ret
        exact ⟨rfl, bel_next HB5.out hb6⟩
end Go.Proofs.YtnckhmfajjcgpaaGreatDoor.Mt
