/- THE CONTRACT of the document's Differ. -/
import Derived.Test.YtbjmakigdglghaaGreatDoorDdJ
set_option linter.unusedVariables false
set_option linter.unusedSimpArgs false
set_option linter.unusedSectionVars false
namespace Go.Proofs.YtbjmakigdglghaaGreatDoor.Dd
set_option linter.unusedVariables false
open Go.RowKit
theorem bel_set7 {B g : Nat} {w w' : World} (u0 u1 u2 u3 u4 u5 u6 : Value) (h : Below B w w') (hg : B ≤ g) : Below B w (((((((w'.setCell ⟨g, 0, none⟩ u0).setCell ⟨g, 1, none⟩ u1).setCell ⟨g, 2, none⟩ u2).setCell ⟨g, 3, none⟩ u3).setCell ⟨g, 4, none⟩ u4).setCell ⟨g, 5, none⟩ u5).setCell ⟨g, 6, none⟩ u6) :=
  ((((((h.setCell (p := ⟨g, 0, none⟩) hg u0).setCell (p := ⟨g, 1, none⟩) hg u1).setCell (p := ⟨g, 2, none⟩) hg u2).setCell (p := ⟨g, 3, none⟩) hg u3).setCell (p := ⟨g, 4, none⟩) hg u4).setCell (p := ⟨g, 5, none⟩) hg u5).setCell (p := ⟨g, 6, none⟩) hg u6
theorem gotC_mk {w0 wr : World} {l : List C} {s : ByteArray} {g : Nat} {cs : Array Value} (h : Blk wr g 70 cs) (hF : FndC w0 w0.heap.size l s (.agg cs)) : GotC w0 l s (.pointer (some ⟨g, 0, none⟩)) (.bool (fnd (fun x : C => x.n) l s).isSome) wr := ⟨g, cs, rfl, rfl, h, hF⟩
theorem gotI_mk {w0 wr : World} {l : List I} {s : ByteArray} {g : Nat} {cs : Array Value} (h : Blk wr g 75 cs) (hF : FndI w0 w0.heap.size l s (.agg cs)) : GotI w0 l s (.pointer (some ⟨g, 0, none⟩)) (.bool (fnd (fun x : I => x.k) l s).isSome) wr := ⟨g, cs, rfl, rfl, h, hF⟩
theorem Ro.drew {w wr : World} {v : Value} {ds : List D} (h : Ro w wr v ds) : Ro w wr.drew v ds := ⟨bel_drew h.bel, h.own⟩
attribute [local go_sem ↓] Go.wp_at_zero Go.wp_at_succ
open Classical in
set_option maxRecDepth 100000 in
set_option maxHeartbeats 40000000 in
theorem rdiffer_any (w : World) (a b : Sn) (ca cb : List Value) (ha : SnR w w.heap.size a ca) (hb : SnR w w.heap.size b cb) (hsum : a.cs.length + b.cs.length ≤ 1048575) (hsum2 : a.ds.length + b.ds.length ≤ 1048575) :
    Calls Tryz.prog 15 #[.agg ca.toArray, .agg cb.toArray] w fun e w' => ∃ v, e = .returned v ∧ Below w.heap.size w w' ∧ ∃ B, w'.ownsRow B 41 2 v (differ a b).length (dcells (differ a b)) := by
  obtain ⟨A, c, A', c', rfl, hc, hd⟩ := ha
  obtain ⟨A2, c2, A2', c2', rfl, hc2, hd2⟩ := hb
  obtain ⟨s, hs⟩ : ∃ q, a.s = q := ⟨_, rfl⟩
  obtain ⟨s2, hs2⟩ : ∃ q, b.s = q := ⟨_, rfl⟩
  obtain ⟨n, hn⟩ : ∃ q, a.cs.length = q := ⟨_, rfl⟩
  obtain ⟨n', hn'⟩ : ∃ q, a.ds.length = q := ⟨_, rfl⟩
  obtain ⟨n2, hn2⟩ : ∃ q, b.cs.length = q := ⟨_, rfl⟩
  obtain ⟨n2', hn2'⟩ : ∃ q, b.ds.length = q := ⟨_, rfl⟩
  rw [hs, hn, hn']
  rw [hs2, hn2, hn2']
  rw [hn, hn2] at hsum
  rw [hn', hn2'] at hsum2
  have HN := Lib.hid hn
  have HN2 := Lib.hid hn2
  have HN' := Lib.hid hn'
  have HN2' := Lib.hid hn2'
  have HC := Lib.hid hc
  have HC2 := Lib.hid hc2
  have HD := Lib.hid hd
  have HD2 := Lib.hid hd2
  obtain ⟨i1, hi, hz0, hz1, hz2⟩ := info_parts info41
  clear hs hs2 hn hn' hn2 hn2' hc hc2 hd hd2
  go_enter Tryz.func15, Tryz.ntmps15
  go_wp2
  have hbx : Bx w ((w.alloc (.cells #[.int .i64 s, .slice A n c, .slice A' n' c'] 25)).alloc (.cells #[.int .i64 s2, .slice A2 n2 c2, .slice A2' n2' c2'] 25)) (.cells #[.int .i64 s, .slice A n c, .slice A' n' c'] 25) (.cells #[.int .i64 s2, .slice A2 n2 c2, .slice A2' n2' c2'] 25) :=
    ⟨((Below.refl _ _).alloc (Nat.le_refl _) _).alloc (by simp) _, (((Hold.nil _).cons (p := (w.heap.size, _)) (heap_alloc_new w _)).alloc _).head, by simpa using heap_alloc_new (w.alloc _) _⟩
  have HBX := Lib.hid hbx
  clear hbx
  go_loopw [5, 7] (fun v i wr => ∃ k : Nat, k ≤ n ∧ i = .int .i64 k ∧ Nm wr v ((a.cs.take k).map (fun x : C => x.n)) ∧ Bx w wr (.cells #[.int .i64 s, .slice A n c, .slice A' n' c'] 25) (.cells #[.int .i64 s2, .slice A2 n2 c2, .slice A2' n2' c2'] 25)) (fun _ i _ => n - (intOf i).toNat)
  case atStart => exact ⟨0, Nat.zero_le _, rfl, by simpa using Nm.nil _, HBX.out⟩
  case round =>
    obtain ⟨k, hk, rfl, hnm, hbx⟩ := hrel
    have HBX := Lib.hid hbx
    skip
    have hbc : wr.cell? ⟨w.heap.size, 1, none⟩ = some (.slice A n c) := cell_of_row wr w.heap.size 1 _ 25 (0, 0) hbx.one
    by_cases hlt : k < n
    · have hkl : k < a.cs.length := by have := HN.out; omega
      obtain ⟨B, off, e1, e2, e3, e4, e5, a6, n6, m6, a7, n7, m7, e8, e9, a10, n10, m10, rfl, hb, hR, q0, q1, q2, q3, q4, q5, q6, q7, q8, q9, q10⟩ := HC.out.cat hkl
      have p0 := (hbx.bel.cell (p := ⟨B, _, none⟩) hb).trans q0
      obtain ⟨x, hx⟩ : ∃ x, (a.cs[k]).n = x := ⟨_, rfl⟩
      rw [hx] at p0
      obtain ⟨Am, nm, cm, lm, rfl, hlm, hcm, hxm, hLm, hrm, hmm, hsm⟩ := hnm
      have hst : ((a.cs.take (k + 1)).map (fun x : C => x.n)) = ((a.cs.take k).map (fun x : C => x.n)) ++ [x] := by
        rw [List.take_succ_eq_append_getElem hkl, List.map_append, ← hx]
        simp
      have HST := Lib.hid hst
      have hnk : nm + 1 ≤ 1048576 := by
        have h9 : nm ≤ ((a.cs.take k).map (fun x : C => x.n)).length := hsm
        simp only [List.length_append, List.length_map, List.length_take] at h9
        have := HN.out
        have := HN2.out
        have := HN'.out
        have := HN2'.out
        omega
      have HP := Lib.hid (put_any wr Am nm cm lm x hlm hcm hxm hnk hLm hrm)
      have HMM := Lib.hid hmm
      have HSM : Hid (lm.length ≤ ((a.cs.take k).map (fun x : C => x.n)).length) := Lib.hid (by rw [hlm]; exact hsm)
      clear hR q0 q1 q2 q3 q4 q5 q6 q7 q8 q9 q10 hx hlm hcm hxm hLm hrm hmm hsm hst  hbx hb
      go_wp2_with (go_at_call 35
                   refine HP.out.mono ?_
                   rintro e w9 ⟨A9, n9, c9, l9, rfl, h1, h2, h3, hb9, h4, h5⟩
                   have HB9 := Lib.hid hb9
                   have HNM := Lib.hid (Nm.put HMM.out HSM.out h1 h2 h3 h4 h5)
                   clear h1 h2 h3 h4 h5 hb9)
      go_roundw
      case rel => exact ⟨k + 1, by omega, by go_num, by rw [HST.out]; exact HNM.out, HBX.out.next HB9.out⟩
      case measure => simp [intOf]; omega
    · obtain rfl : n = k := by omega
      have HNM1 : Hid (Nm wr u5 (a.cs.map (fun x : C => x.n))) := Lib.hid (by rw [List.take_of_length_le (by rw [HN.out]; exact Nat.le_refl _)] at hnm; exact hnm)
      clear hnm 
      go_wp2
      clear hbx hbc hk hlt
      go_loopw [5, 8] (fun v i wr => ∃ k : Nat, k ≤ n2 ∧ i = .int .i64 k ∧ Nm wr v (a.cs.map (fun x : C => x.n) ++ (b.cs.take k).map (fun x : C => x.n)) ∧ Bx w wr (.cells #[.int .i64 s, .slice A n c, .slice A' n' c'] 25) (.cells #[.int .i64 s2, .slice A2 n2 c2, .slice A2' n2' c2'] 25)) (fun _ i _ => n2 - (intOf i).toNat)
      case atStart => exact ⟨0, Nat.zero_le _, rfl, by simpa using HNM1.out, HBX.out⟩
      case round =>
        obtain ⟨k, hk, rfl, hnm, hbx⟩ := hrel
        have HBX := Lib.hid hbx
        skip
        have hbc : wr.cell? ⟨(w.heap.size + 1), 1, none⟩ = some (.slice A2 n2 c2) := cell_of_row wr (w.heap.size + 1) 1 _ 25 (0, 0) hbx.two
        by_cases hlt : k < n2
        · have hkl : k < b.cs.length := by have := HN2.out; omega
          obtain ⟨B, off, e1, e2, e3, e4, e5, a6, n6, m6, a7, n7, m7, e8, e9, a10, n10, m10, rfl, hb, hR, q0, q1, q2, q3, q4, q5, q6, q7, q8, q9, q10⟩ := HC2.out.cat hkl
          have p0 := (hbx.bel.cell (p := ⟨B, _, none⟩) hb).trans q0
          obtain ⟨x, hx⟩ : ∃ x, (b.cs[k]).n = x := ⟨_, rfl⟩
          rw [hx] at p0
          obtain ⟨Am, nm, cm, lm, rfl, hlm, hcm, hxm, hLm, hrm, hmm, hsm⟩ := hnm
          have hst : (a.cs.map (fun x : C => x.n) ++ (b.cs.take (k + 1)).map (fun x : C => x.n)) = (a.cs.map (fun x : C => x.n) ++ (b.cs.take k).map (fun x : C => x.n)) ++ [x] := by
            rw [List.take_succ_eq_append_getElem hkl, List.map_append, ← hx]
            simp
          have HST := Lib.hid hst
          have hnk : nm + 1 ≤ 1048576 := by
            have h9 : nm ≤ (a.cs.map (fun x : C => x.n) ++ (b.cs.take k).map (fun x : C => x.n)).length := hsm
            simp only [List.length_append, List.length_map, List.length_take] at h9
            have := HN.out
            have := HN2.out
            have := HN'.out
            have := HN2'.out
            omega
          have HP := Lib.hid (put_any wr Am nm cm lm x hlm hcm hxm hnk hLm hrm)
          have HMM := Lib.hid hmm
          have HSM : Hid (lm.length ≤ (a.cs.map (fun x : C => x.n) ++ (b.cs.take k).map (fun x : C => x.n)).length) := Lib.hid (by rw [hlm]; exact hsm)
          clear hR q0 q1 q2 q3 q4 q5 q6 q7 q8 q9 q10 hx hlm hcm hxm hLm hrm hmm hsm hst  hbx hb
          go_wp2_with (go_at_call 35
                       refine HP.out.mono ?_
                       rintro e w9 ⟨A9, n9, c9, l9, rfl, h1, h2, h3, hb9, h4, h5⟩
                       have HB9 := Lib.hid hb9
                       have HNM := Lib.hid (Nm.put HMM.out HSM.out h1 h2 h3 h4 h5)
                       clear h1 h2 h3 h4 h5 hb9)
          go_roundw
          case rel => exact ⟨k + 1, by omega, by go_num, by rw [HST.out]; exact HNM.out, HBX.out.next HB9.out⟩
          case measure => simp [intOf]; omega
        · obtain rfl : n2 = k := by omega
          have HNM2 : Hid (Nm wr u5 (a.cs.map (fun x : C => x.n) ++ b.cs.map (fun x : C => x.n))) := Lib.hid (by rw [List.take_of_length_le (by rw [HN2.out]; exact Nat.le_refl _)] at hnm; exact hnm)
          clear hnm 
          go_wp2
          clear hbx hbc hk hlt
          go_loopw [6, 9] (fun v i wr => ∃ k : Nat, k ≤ n' ∧ i = .int .i64 k ∧ Nm wr v ((a.ds.take k).map (fun x : I => x.k)) ∧ Nm wr u5 (a.cs.map (fun x : C => x.n) ++ b.cs.map (fun x : C => x.n)) ∧ Bx w wr (.cells #[.int .i64 s, .slice A n c, .slice A' n' c'] 25) (.cells #[.int .i64 s2, .slice A2 n2 c2, .slice A2' n2' c2'] 25)) (fun _ i _ => n' - (intOf i).toNat)
          case atStart => exact ⟨0, Nat.zero_le _, rfl, by simpa using Nm.nil _, HNM2.out, HBX.out⟩
          case round =>
            obtain ⟨k, hk, rfl, hnm, hnp, hbx⟩ := hrel
            have HBX := Lib.hid hbx
            have HNP := Lib.hid hnp
            have hbc : wr.cell? ⟨w.heap.size, 2, none⟩ = some (.slice A' n' c') := cell_of_row wr w.heap.size 2 _ 25 (0, 0) hbx.one
            by_cases hlt : k < n'
            · have hkl : k < a.ds.length := by have := HN'.out; omega
              obtain ⟨B, off, e1, e3, e4, e5, a6, n6, m6, a7, n7, m7, rfl, hb, hR, q0, q1, q2, q3, q4, q5, q6⟩ := HD.out.iat hkl
              have p0 := (hbx.bel.cell (p := ⟨B, _, none⟩) hb).trans q0
              obtain ⟨x, hx⟩ : ∃ x, (a.ds[k]).k = x := ⟨_, rfl⟩
              rw [hx] at p0
              obtain ⟨Am, nm, cm, lm, rfl, hlm, hcm, hxm, hLm, hrm, hmm, hsm⟩ := hnm
              have hst : ((a.ds.take (k + 1)).map (fun x : I => x.k)) = ((a.ds.take k).map (fun x : I => x.k)) ++ [x] := by
                rw [List.take_succ_eq_append_getElem hkl, List.map_append, ← hx]
                simp
              have HST := Lib.hid hst
              have hnk : nm + 1 ≤ 1048576 := by
                have h9 : nm ≤ ((a.ds.take k).map (fun x : I => x.k)).length := hsm
                simp only [List.length_append, List.length_map, List.length_take] at h9
                have := HN.out
                have := HN2.out
                have := HN'.out
                have := HN2'.out
                omega
              have HP := Lib.hid (put_any wr Am nm cm lm x hlm hcm hxm hnk hLm hrm)
              have HMM := Lib.hid hmm
              have HSM : Hid (lm.length ≤ ((a.ds.take k).map (fun x : I => x.k)).length) := Lib.hid (by rw [hlm]; exact hsm)
              clear hR q0 q1 q2 q3 q4 q5 q6 hx hlm hcm hxm hLm hrm hmm hsm hst hnp hbx hb
              go_wp2_with (go_at_call 35
                           refine HP.out.mono ?_
                           rintro e w9 ⟨A9, n9, c9, l9, rfl, h1, h2, h3, hb9, h4, h5⟩
                           have HB9 := Lib.hid hb9
                           have HNM := Lib.hid (Nm.put HMM.out HSM.out h1 h2 h3 h4 h5)
                           clear h1 h2 h3 h4 h5 hb9)
              go_roundw
              case rel => exact ⟨k + 1, by omega, by go_num, by rw [HST.out]; exact HNM.out, HNP.out.next HB9.out, HBX.out.next HB9.out⟩
              case measure => simp [intOf]; omega
            · obtain rfl : n' = k := by omega
              have HNM3 : Hid (Nm wr u6 (a.ds.map (fun x : I => x.k))) := Lib.hid (by rw [List.take_of_length_le (by rw [HN'.out]; exact Nat.le_refl _)] at hnm; exact hnm)
              clear hnm hnp
              go_wp2
              clear hbx hbc hk hlt
              go_loopw [6, 10] (fun v i wr => ∃ k : Nat, k ≤ n2' ∧ i = .int .i64 k ∧ Nm wr v (a.ds.map (fun x : I => x.k) ++ (b.ds.take k).map (fun x : I => x.k)) ∧ Nm wr u5 (a.cs.map (fun x : C => x.n) ++ b.cs.map (fun x : C => x.n)) ∧ Bx w wr (.cells #[.int .i64 s, .slice A n c, .slice A' n' c'] 25) (.cells #[.int .i64 s2, .slice A2 n2 c2, .slice A2' n2' c2'] 25)) (fun _ i _ => n2' - (intOf i).toNat)
              case atStart => exact ⟨0, Nat.zero_le _, rfl, by simpa using HNM3.out, HNP.out, HBX.out⟩
              case round =>
                obtain ⟨k, hk, rfl, hnm, hnp, hbx⟩ := hrel
                have HBX := Lib.hid hbx
                have HNP := Lib.hid hnp
                have hbc : wr.cell? ⟨(w.heap.size + 1), 2, none⟩ = some (.slice A2' n2' c2') := cell_of_row wr (w.heap.size + 1) 2 _ 25 (0, 0) hbx.two
                by_cases hlt : k < n2'
                · have hkl : k < b.ds.length := by have := HN2'.out; omega
                  obtain ⟨B, off, e1, e3, e4, e5, a6, n6, m6, a7, n7, m7, rfl, hb, hR, q0, q1, q2, q3, q4, q5, q6⟩ := HD2.out.iat hkl
                  have p0 := (hbx.bel.cell (p := ⟨B, _, none⟩) hb).trans q0
                  obtain ⟨x, hx⟩ : ∃ x, (b.ds[k]).k = x := ⟨_, rfl⟩
                  rw [hx] at p0
                  obtain ⟨Am, nm, cm, lm, rfl, hlm, hcm, hxm, hLm, hrm, hmm, hsm⟩ := hnm
                  have hst : (a.ds.map (fun x : I => x.k) ++ (b.ds.take (k + 1)).map (fun x : I => x.k)) = (a.ds.map (fun x : I => x.k) ++ (b.ds.take k).map (fun x : I => x.k)) ++ [x] := by
                    rw [List.take_succ_eq_append_getElem hkl, List.map_append, ← hx]
                    simp
                  have HST := Lib.hid hst
                  have hnk : nm + 1 ≤ 1048576 := by
                    have h9 : nm ≤ (a.ds.map (fun x : I => x.k) ++ (b.ds.take k).map (fun x : I => x.k)).length := hsm
                    simp only [List.length_append, List.length_map, List.length_take] at h9
                    have := HN.out
                    have := HN2.out
                    have := HN'.out
                    have := HN2'.out
                    omega
                  have HP := Lib.hid (put_any wr Am nm cm lm x hlm hcm hxm hnk hLm hrm)
                  have HMM := Lib.hid hmm
                  have HSM : Hid (lm.length ≤ (a.ds.map (fun x : I => x.k) ++ (b.ds.take k).map (fun x : I => x.k)).length) := Lib.hid (by rw [hlm]; exact hsm)
                  clear hR q0 q1 q2 q3 q4 q5 q6 hx hlm hcm hxm hLm hrm hmm hsm hst hnp hbx hb
                  go_wp2_with (go_at_call 35
                               refine HP.out.mono ?_
                               rintro e w9 ⟨A9, n9, c9, l9, rfl, h1, h2, h3, hb9, h4, h5⟩
                               have HB9 := Lib.hid hb9
                               have HNM := Lib.hid (Nm.put HMM.out HSM.out h1 h2 h3 h4 h5)
                               clear h1 h2 h3 h4 h5 hb9)
                  go_roundw
                  case rel => exact ⟨k + 1, by omega, by go_num, by rw [HST.out]; exact HNM.out, HNP.out.next HB9.out, HBX.out.next HB9.out⟩
                  case measure => simp [intOf]; omega
                · obtain rfl : n2' = k := by omega
                  have HNM4 : Hid (Nm wr u6 (a.ds.map (fun x : I => x.k) ++ b.ds.map (fun x : I => x.k))) := Lib.hid (by rw [List.take_of_length_le (by rw [HN2'.out]; exact Nat.le_refl _)] at hnm; exact hnm)
                  clear hnm hnp
                  go_wp2
                  clear hbx hbc hk hlt
                  obtain ⟨An, m, cn, ln, rfl, hln, hcn, hxn, hLn, hrn, hmn, hsn⟩ := HNP.out
                  obtain ⟨Ai, mi, ci, li, rfl, hli, hci, hxi, hLi, hri, hmi, hsi⟩ := HNM4.out
                  have HLN := Lib.hid hLn
                  have HLI := Lib.hid hLi
                  have HMN := Lib.hid hmn
                  have HMI := Lib.hid hmi
                  have HNL := Lib.hid hln
                  have HNI := Lib.hid hli
                  have HEQ := Lib.hid (rise_eq hrn hmn)
                  have HEI := Lib.hid (rise_eq hri hmi)
                  have hm5 : m ≤ 1048576 := by rw [← hln]; exact hLn.1
                  have hmi5 : mi ≤ 1048576 := by rw [← hli]; exact hLi.1
                  clear hln hcn hxn hLn hrn hmn hsn hli hci hxi hLi hri hmi hsi HNM1 HNM2 HNM3 HNM4 HNP
                  obtain ⟨w5, hw5⟩ : ∃ q, wr = q := ⟨_, rfl⟩
                  rw [hw5] at HLN HLI HBX ⊢
                  clear hw5
                  go_loopw [11, 12] (fun v i wr => ∃ k ds, k ≤ m ∧ i = .int .i64 k ∧ (ln.take k).filterMap (dC a.cs b.cs) = ds ∧ Ro w5 wr v ds) (fun _ i _ => m - (intOf i).toNat)
                  case atStart => exact ⟨0, [], Nat.zero_le _, rfl, rfl, ⟨Below.refl _ _, ⟨rfl, .inl ⟨rfl, rfl⟩⟩⟩⟩
                  case round =>
                    obtain ⟨k, ds, hk, rfl, hds, hro⟩ := hrel
                    have hdl : ds.length ≤ 1048576 := by
                      rw [← hds]
                      refine Nat.le_trans (List.length_filterMap_le _ _) ?_
                      rw [List.length_take]
                      exact Nat.le_trans (Nat.min_le_left _ _) (Nat.le_trans hk hm5)
                    by_cases hlt : k < m
                    · have hkl : k < ln.length := by have := HNL.out; omega
                      obtain ⟨gk, ok, rfl, hgk, hcs⟩ := HLN.out.str hkl
                      have hcell := (hro.bel.cell (p := ⟨gk, _, none⟩) hgk).trans (hcs k hkl)
                      obtain ⟨q, hq⟩ : ∃ q, ln[k] = q := ⟨_, rfl⟩
                      rw [hq] at hcell
                      have hst := take_filterMap (dC a.cs b.cs) ln (k := k) hkl
                      rw [hq, hds] at hst
                      have HST := Lib.hid hst
                      have HQM : Hid (q ∈ a.cs.map (fun x : C => x.n) ++ b.cs.map (fun x : C => x.n)) := Lib.hid ((HMN.out q).1 (by rw [← hq]; exact List.getElem_mem hkl))
                      have hbx := HBX.out.next hro.bel
                      have HBY := Lib.hid hbx
                      have HRO := Lib.hid hro
                      have HGK := Lib.hid hgk
                      have HCE := Lib.hid hcell
                      clear hcs hq hst hds hbx hro hgk hcell
                      have hbc : wr.cell? ⟨w.heap.size, 1, none⟩ = some (.slice A n c) := cell_of_row wr w.heap.size 1 _ 25 (0, 0) HBY.out.one
                      have hcell := HCE.out
                      have hgk2 : gk < wr.heap.size := Nat.lt_of_lt_of_le HGK.out HRO.out.bel.size
                      have hgk3 : gk ≠ wr.heap.size := by omega
                      have hw2 : w.heap.size < wr.heap.size := lt_of_some HBY.out.one
                      have hw3 : w.heap.size ≠ wr.heap.size := by omega
                      have BA := Lib.hid (bel_drew HBY.out.bel)
                      have BB := Lib.hid (bel_drew (HBY.out.bel.alloc HBY.out.bel.size (.cells #[.string ⟨#[]⟩, .int .i64 0, .int .i64 0, .int .i64 0, .int .i64 0, .string ⟨#[]⟩, .slice none 0 0, .slice none 0 0, .int .i64 0, .int .i64 0, .slice none 0 0] 70)))
                      have DA := Lib.hid (bel_drew (Below.refl wr.heap.size wr))
                      have DB := Lib.hid (bel_drew ((Below.refl wr.heap.size wr).alloc (Nat.le_refl _) (.cells #[.string ⟨#[]⟩, .int .i64 0, .int .i64 0, .int .i64 0, .int .i64 0, .string ⟨#[]⟩, .slice none 0 0, .slice none 0 0, .int .i64 0, .int .i64 0, .slice none 0 0] 70)))
                      go_upto_region 22 with fail
                      go_cut [13, 14] (fun p bb wz => GotC w a.cs q p bb wz ∧ Ro w5 wz u11 ds ∧ Below wr.heap.size wr wz)
                      case first =>
                        focus
                          have sof : ∀ wx, Below wr.heap.size wr wx → (wx.cell? ⟨w.heap.size, 1, none⟩ = some (.slice A n c) ∧ wx.cell? ⟨gk, ok + k, none⟩ = some (.string q)) := fun wx h => ⟨(h.cell (p := ⟨w.heap.size, 1, none⟩) hw2).trans hbc, (h.cell (p := ⟨gk, _, none⟩) hgk2).trans hcell⟩
                          have SOF := Lib.hid sof
                          clear sof
                          refine wp_region_noPanic ?_
                          go_region_held3 (fun wx => wx.cell? ⟨w.heap.size, 1, none⟩ = some (.slice A n c) ∧ wx.cell? ⟨gk, ok + k, none⟩ = some (.string q))
                            (first
                              | (with_reducible exact SOF.out _ DA.out)
                              | (with_reducible exact SOF.out _ DB.out)
                              | (with_reducible exact SOF.out _ (bel_next DA.out hb9))
                              | (with_reducible exact SOF.out _ (bel_next DB.out hb9))
                              | (with_reducible exact SOF.out _ ((bel_next DA.out hb9).alloc z1 _))
                              | (with_reducible exact SOF.out _ (bel_set11 _ _ _ _ _ _ _ _ _ _ _ (bel_next DB.out hb9) (Nat.le_refl _)))
                              | go_keep)
                            (first
                              | (go_at_call 36
                                 refine (find_C _ w w.heap.size A n c a.cs q HN.out ?_).mono ?_
                                 (first | (with_reducible exact Lst.at_ HC.out BA.out) | (with_reducible exact Lst.at_ HC.out BB.out))
                                 rintro e w9 ⟨v, rfl, hF, hb9⟩
                                 obtain ⟨s0, c1, x1, f1, f2, t, An2, nn, cn2, Ai2, ni, ci2, a0, g0, A0, n0, c0, rfl⟩ := fndC_form hF
                                 have hx1 : w9.cell? ⟨w.heap.size, 1, none⟩ = some (.slice A n c) := by first | (with_reducible exact (x_of hb9 DA.out hw2).trans hbc) | (with_reducible exact (x_of hb9 DB.out hw2).trans hbc)
                                 have hx2 : w9.cell? ⟨gk, ok + k, none⟩ = some (.string q) := by first | (with_reducible exact (x_of hb9 DA.out hgk2).trans hcell) | (with_reducible exact (x_of hb9 DB.out hgk2).trans hcell)
                                 have z1 : wr.heap.size ≤ w9.heap.size := by first | (with_reducible exact Nat.le_trans DA.out.size hb9.size) | (with_reducible exact Nat.le_trans DB.out.size hb9.size)
                                 have z2 : w.heap.size ≠ w9.heap.size := by omega
                                 have z3 : gk ≠ w9.heap.size := by omega
                                 (first
                                   | (have hg9 : Blk w9 wr.heap.size 70 #[.string ⟨#[]⟩, .int .i64 0, .int .i64 0, .int .i64 0, .int .i64 0, .string ⟨#[]⟩, .slice none 0 0, .slice none 0 0, .int .i64 0, .int .i64 0, .slice none 0 0] := by with_reducible exact Blk.below (Blk.drew (Blk.new wr 70 #[.string ⟨#[]⟩, .int .i64 0, .int .i64 0, .int .i64 0, .int .i64 0, .string ⟨#[]⟩, .slice none 0 0, .slice none 0 0, .int .i64 0, .int .i64 0, .slice none 0 0])) hb9 (Blk.drew (Blk.new wr 70 #[.string ⟨#[]⟩, .int .i64 0, .int .i64 0, .int .i64 0, .int .i64 0, .string ⟨#[]⟩, .slice none 0 0, .slice none 0 0, .int .i64 0, .int .i64 0, .slice none 0 0])).lt
                                      have hfr : ∀ i, w9.frozen? ⟨wr.heap.size, i, none⟩ = false := fun i => hg9.frozen i
                                      have y0 : w9.cell? ⟨wr.heap.size, 0, none⟩ = some (.string ⟨#[]⟩) := hg9.cell 0
                                      have y1 : w9.cell? ⟨wr.heap.size, 1, none⟩ = some (.int .i64 0) := hg9.cell 1
                                      have y2 : w9.cell? ⟨wr.heap.size, 2, none⟩ = some (.int .i64 0) := hg9.cell 2
                                      have y3 : w9.cell? ⟨wr.heap.size, 3, none⟩ = some (.int .i64 0) := hg9.cell 3
                                      have y4 : w9.cell? ⟨wr.heap.size, 4, none⟩ = some (.int .i64 0) := hg9.cell 4
                                      have y5 : w9.cell? ⟨wr.heap.size, 5, none⟩ = some (.string ⟨#[]⟩) := hg9.cell 5
                                      have y6 : w9.cell? ⟨wr.heap.size, 6, none⟩ = some (.slice none 0 0) := hg9.cell 6
                                      have y7 : w9.cell? ⟨wr.heap.size, 7, none⟩ = some (.slice none 0 0) := hg9.cell 7
                                      have y8 : w9.cell? ⟨wr.heap.size, 8, none⟩ = some (.int .i64 0) := hg9.cell 8
                                      have y9 : w9.cell? ⟨wr.heap.size, 9, none⟩ = some (.int .i64 0) := hg9.cell 9
                                      have y10 : w9.cell? ⟨wr.heap.size, 10, none⟩ = some (.slice none 0 0) := hg9.cell 10)
                                   | skip)))
                          all_goals (refine NoPanic.normal ?_; go_wp2_with fail; go_meet)
                          all_goals first
                            | (have S0 : St w5 wr w9 u11 ds wr.heap.size 70 #[.string ⟨#[]⟩, .int .i64 0, .int .i64 0, .int .i64 0, .int .i64 0, .string ⟨#[]⟩, .slice none 0 0, .slice none 0 0, .int .i64 0, .int .i64 0, .slice none 0 0] := ⟨(Ro.drew (HRO.out.alloc (.cells #[.string ⟨#[]⟩, .int .i64 0, .int .i64 0, .int .i64 0, .int .i64 0, .string ⟨#[]⟩, .slice none 0 0, .slice none 0 0, .int .i64 0, .int .i64 0, .slice none 0 0] 70))).next hb9, hg9, bel_next DB.out hb9, Nat.le_refl _, HRO.out.bel.size⟩
                               have TT := st_all70 (.string s0) (.int .i64 c1) (.int .i64 x1) (.int .i64 f1) (.int .i64 f2) (.string t) (.slice An2 nn cn2) (.slice Ai2 ni ci2) (.int .i64 a0) (.int .i64 g0) (.slice A0 n0 c0) S0
                               have X1 := gotC_mk TT.blk hF
                               refine ⟨?_, ?_, ?_⟩
                               · with_reducible exact X1
                               · with_reducible exact TT.ro
                               · with_reducible exact TT.bel)
                            | (fail_if_success (have := hg9)
                               have R0 := (HRO.out.drew.next hb9).alloc (.cells #[.string s0, .int .i64 c1, .int .i64 x1, .int .i64 f1, .int .i64 f2, .string t, .slice An2 nn cn2, .slice Ai2 ni ci2, .int .i64 a0, .int .i64 g0, .slice A0 n0 c0] 70)
                               with_reducible exact ⟨gotC_mk (Blk.new w9 70 #[.string s0, .int .i64 c1, .int .i64 x1, .int .i64 f1, .int .i64 f2, .string t, .slice An2 nn cn2, .slice Ai2 ni ci2, .int .i64 a0, .int .i64 g0, .slice A0 n0 c0]) hF, R0, (bel_next DA.out hb9).alloc z1 _⟩)
                      case rest =>
                        obtain ⟨hgot1, hro, hbz⟩ := hcut
                        obtain ⟨wy, hZ⟩ : ∃ q, wc = q := ⟨_, rfl⟩
                        rw [hZ] at hgot1 hro hbz ⊢
                        clear hZ hbc hcell hgk2 hgk3 hw2 hw3 BA BB DA DB
                        have HCE := Lib.hid ((hbz.cell (p := ⟨gk, _, none⟩) (Nat.lt_of_lt_of_le HGK.out HRO.out.bel.size)).trans HCE.out)
                        have HBY := Lib.hid (HBY.out.next hbz)
                        have HRO := Lib.hid hro
                        have HG1 := Lib.hid hgot1
                        have HBZ := Lib.hid hbz
                        clear hgot1 hro hbz
                        have hbc : wy.cell? ⟨w.heap.size + 1, 1, none⟩ = some (.slice A2 n2 c2) := cell_of_row wy (w.heap.size + 1) 1 _ 25 (0, 0) HBY.out.two
                        have hcell := HCE.out
                        have hgk2 : gk < wy.heap.size := Nat.lt_of_lt_of_le HGK.out HRO.out.bel.size
                        have hgk3 : gk ≠ wy.heap.size := by omega
                        have hw2 : w.heap.size + 1 < wy.heap.size := lt_of_some HBY.out.two
                        have hw3 : w.heap.size + 1 ≠ wy.heap.size := by omega
                        have BA := Lib.hid (bel_drew HBY.out.bel)
                        have BB := Lib.hid (bel_drew (HBY.out.bel.alloc HBY.out.bel.size (.cells #[.string ⟨#[]⟩, .int .i64 0, .int .i64 0, .int .i64 0, .int .i64 0, .string ⟨#[]⟩, .slice none 0 0, .slice none 0 0, .int .i64 0, .int .i64 0, .slice none 0 0] 70)))
                        have DA := Lib.hid (bel_drew (Below.refl wy.heap.size wy))
                        have DB := Lib.hid (bel_drew ((Below.refl wy.heap.size wy).alloc (Nat.le_refl _) (.cells #[.string ⟨#[]⟩, .int .i64 0, .int .i64 0, .int .i64 0, .int .i64 0, .string ⟨#[]⟩, .slice none 0 0, .slice none 0 0, .int .i64 0, .int .i64 0, .slice none 0 0] 70)))
                        go_upto_region 23 with fail
                        go_cut [15, 16] (fun p bb wz => GotC w b.cs q p bb wz ∧ Ro w5 wz u11 ds ∧ Below wy.heap.size wy wz)
                        case first =>
                          focus
                            have sof : ∀ wx, Below wy.heap.size wy wx → (wx.cell? ⟨w.heap.size + 1, 1, none⟩ = some (.slice A2 n2 c2) ∧ wx.cell? ⟨gk, ok + k, none⟩ = some (.string q)) := fun wx h => ⟨(h.cell (p := ⟨w.heap.size + 1, 1, none⟩) hw2).trans hbc, (h.cell (p := ⟨gk, _, none⟩) hgk2).trans hcell⟩
                            have SOF := Lib.hid sof
                            clear sof
                            refine wp_region_noPanic ?_
                            go_region_held3 (fun wx => wx.cell? ⟨w.heap.size + 1, 1, none⟩ = some (.slice A2 n2 c2) ∧ wx.cell? ⟨gk, ok + k, none⟩ = some (.string q))
                              (first
                                | (with_reducible exact SOF.out _ DA.out)
                                | (with_reducible exact SOF.out _ DB.out)
                                | (with_reducible exact SOF.out _ (bel_next DA.out hb9))
                                | (with_reducible exact SOF.out _ (bel_next DB.out hb9))
                                | (with_reducible exact SOF.out _ ((bel_next DA.out hb9).alloc z1 _))
                                | (with_reducible exact SOF.out _ (bel_set11 _ _ _ _ _ _ _ _ _ _ _ (bel_next DB.out hb9) (Nat.le_refl _)))
                                | go_keep)
                              (first
                                | (go_at_call 36
                                   refine (find_C _ w w.heap.size A2 n2 c2 b.cs q HN2.out ?_).mono ?_
                                   (first | (with_reducible exact Lst.at_ HC2.out BA.out) | (with_reducible exact Lst.at_ HC2.out BB.out))
                                   rintro e w9 ⟨v, rfl, hF, hb9⟩
                                   obtain ⟨s0, c1, x1, f1, f2, t, An2, nn, cn2, Ai2, ni, ci2, a0, g0, A0, n0, c0, rfl⟩ := fndC_form hF
                                   have hx1 : w9.cell? ⟨w.heap.size + 1, 1, none⟩ = some (.slice A2 n2 c2) := by first | (with_reducible exact (x_of hb9 DA.out hw2).trans hbc) | (with_reducible exact (x_of hb9 DB.out hw2).trans hbc)
                                   have hx2 : w9.cell? ⟨gk, ok + k, none⟩ = some (.string q) := by first | (with_reducible exact (x_of hb9 DA.out hgk2).trans hcell) | (with_reducible exact (x_of hb9 DB.out hgk2).trans hcell)
                                   have z1 : wy.heap.size ≤ w9.heap.size := by first | (with_reducible exact Nat.le_trans DA.out.size hb9.size) | (with_reducible exact Nat.le_trans DB.out.size hb9.size)
                                   have z2 : w.heap.size + 1 ≠ w9.heap.size := by omega
                                   have z3 : gk ≠ w9.heap.size := by omega
                                   (first
                                     | (have hg9 : Blk w9 wy.heap.size 70 #[.string ⟨#[]⟩, .int .i64 0, .int .i64 0, .int .i64 0, .int .i64 0, .string ⟨#[]⟩, .slice none 0 0, .slice none 0 0, .int .i64 0, .int .i64 0, .slice none 0 0] := by with_reducible exact Blk.below (Blk.drew (Blk.new wy 70 #[.string ⟨#[]⟩, .int .i64 0, .int .i64 0, .int .i64 0, .int .i64 0, .string ⟨#[]⟩, .slice none 0 0, .slice none 0 0, .int .i64 0, .int .i64 0, .slice none 0 0])) hb9 (Blk.drew (Blk.new wy 70 #[.string ⟨#[]⟩, .int .i64 0, .int .i64 0, .int .i64 0, .int .i64 0, .string ⟨#[]⟩, .slice none 0 0, .slice none 0 0, .int .i64 0, .int .i64 0, .slice none 0 0])).lt
                                        have hfr : ∀ i, w9.frozen? ⟨wy.heap.size, i, none⟩ = false := fun i => hg9.frozen i
                                        have y0 : w9.cell? ⟨wy.heap.size, 0, none⟩ = some (.string ⟨#[]⟩) := hg9.cell 0
                                        have y1 : w9.cell? ⟨wy.heap.size, 1, none⟩ = some (.int .i64 0) := hg9.cell 1
                                        have y2 : w9.cell? ⟨wy.heap.size, 2, none⟩ = some (.int .i64 0) := hg9.cell 2
                                        have y3 : w9.cell? ⟨wy.heap.size, 3, none⟩ = some (.int .i64 0) := hg9.cell 3
                                        have y4 : w9.cell? ⟨wy.heap.size, 4, none⟩ = some (.int .i64 0) := hg9.cell 4
                                        have y5 : w9.cell? ⟨wy.heap.size, 5, none⟩ = some (.string ⟨#[]⟩) := hg9.cell 5
                                        have y6 : w9.cell? ⟨wy.heap.size, 6, none⟩ = some (.slice none 0 0) := hg9.cell 6
                                        have y7 : w9.cell? ⟨wy.heap.size, 7, none⟩ = some (.slice none 0 0) := hg9.cell 7
                                        have y8 : w9.cell? ⟨wy.heap.size, 8, none⟩ = some (.int .i64 0) := hg9.cell 8
                                        have y9 : w9.cell? ⟨wy.heap.size, 9, none⟩ = some (.int .i64 0) := hg9.cell 9
                                        have y10 : w9.cell? ⟨wy.heap.size, 10, none⟩ = some (.slice none 0 0) := hg9.cell 10)
                                     | skip)))
                            all_goals (refine NoPanic.normal ?_; go_wp2_with fail; go_meet)
                            all_goals first
                              | (have S0 : St w5 wy w9 u11 ds wy.heap.size 70 #[.string ⟨#[]⟩, .int .i64 0, .int .i64 0, .int .i64 0, .int .i64 0, .string ⟨#[]⟩, .slice none 0 0, .slice none 0 0, .int .i64 0, .int .i64 0, .slice none 0 0] := ⟨(Ro.drew (HRO.out.alloc (.cells #[.string ⟨#[]⟩, .int .i64 0, .int .i64 0, .int .i64 0, .int .i64 0, .string ⟨#[]⟩, .slice none 0 0, .slice none 0 0, .int .i64 0, .int .i64 0, .slice none 0 0] 70))).next hb9, hg9, bel_next DB.out hb9, Nat.le_refl _, HRO.out.bel.size⟩
                                 have TT := st_all70 (.string s0) (.int .i64 c1) (.int .i64 x1) (.int .i64 f1) (.int .i64 f2) (.string t) (.slice An2 nn cn2) (.slice Ai2 ni ci2) (.int .i64 a0) (.int .i64 g0) (.slice A0 n0 c0) S0
                                 have X1 := gotC_mk TT.blk hF
                                 refine ⟨?_, ?_, ?_⟩
                                 · with_reducible exact X1
                                 · with_reducible exact TT.ro
                                 · with_reducible exact TT.bel)
                              | (fail_if_success (have := hg9)
                                 have R0 := (HRO.out.drew.next hb9).alloc (.cells #[.string s0, .int .i64 c1, .int .i64 x1, .int .i64 f1, .int .i64 f2, .string t, .slice An2 nn cn2, .slice Ai2 ni ci2, .int .i64 a0, .int .i64 g0, .slice A0 n0 c0] 70)
                                 with_reducible exact ⟨gotC_mk (Blk.new w9 70 #[.string s0, .int .i64 c1, .int .i64 x1, .int .i64 f1, .int .i64 f2, .string t, .slice An2 nn cn2, .slice Ai2 ni ci2, .int .i64 a0, .int .i64 g0, .slice A0 n0 c0]) hF, R0, (bel_next DA.out hb9).alloc z1 _⟩)
                        case rest =>
                          obtain ⟨hgot2, hro, hbz⟩ := hcut
                          obtain ⟨wz, hZ⟩ : ∃ q, wc = q := ⟨_, rfl⟩
                          rw [hZ] at hgot2 hro hbz ⊢
                          clear hZ hbc hcell hgk2 hgk3 hw2 hw3 BA BB DA DB
                          have HCE := Lib.hid ((hbz.cell (p := ⟨gk, _, none⟩) (Nat.lt_of_lt_of_le HGK.out HRO.out.bel.size)).trans HCE.out)
                          have HBY := Lib.hid (HBY.out.next hbz)
                          have HRO := Lib.hid hro
                          have HG2 := Lib.hid hgot2
                          have HBZ := Lib.hid hbz
                          clear hgot2 hro hbz
                          focus
                            have hgz : gk < wz.heap.size := Nat.lt_of_lt_of_le HGK.out HRO.out.bel.size
                            have hcell := HCE.out
                            obtain ⟨g1, cs1, rfl, rfl, hbl1, hf1⟩ := HG1.out
                            obtain ⟨g2, cs2, rfl, rfl, hbl2, hf2⟩ := HG2.out
                            have hbl1 := hbl1.below HBZ.out hbl1.lt
                            clear HG1 HG2
                            cases hfa : fnd (fun x : C => x.n) a.cs q with
                            | none =>
                              cases hfb : fnd (fun x : C => x.n) b.cs q with
                              | none => exact absurd HQM.out (not_named hfa hfb)
                              | some y =>
                                simp only [hfa, hfb, Option.isSome_none, Option.isSome_some]
                                simp only [FndC, hfa, zC] at hf1
                                injection hf1 with hf1
                                subst hf1
                                clear hbl1
                                simp only [FndC, hfb] at hf2
                                obtain ⟨cs, hcs, hR⟩ := hf2
                                injection hcs with hcs
                                subst hcs
                                obtain ⟨y0, y1, y2, y3, y4, y5, y6, y7, y8, y9, y10, y11, y12, y13, rfl, hv, hs⟩ := hR.parts
                                have HV2 := Lib.hid hv
                                have HSS2 := Lib.hid hs
                                clear hs
                                have z2_2 : wz.cell? ⟨g2, 2, none⟩ = some (.int .i64 y.m) := hbl2.cell 2
                                have z2_3 : wz.cell? ⟨g2, 3, none⟩ = some (.int .i64 y1) := hbl2.cell 3
                                have z2_4 : wz.cell? ⟨g2, 4, none⟩ = some (.int .i64 y2) := hbl2.cell 4
                                have z2_5 : wz.cell? ⟨g2, 5, none⟩ = some (.string y3) := hbl2.cell 5
                                have z2_6 : wz.cell? ⟨g2, 6, none⟩ = some (.slice y4 y5 y6) := hbl2.cell 6
                                have z2_7 : wz.cell? ⟨g2, 7, none⟩ = some (.slice y7 y8 y9) := hbl2.cell 7
                                have z2_10 : wz.cell? ⟨g2, 10, none⟩ = some (.slice y12 y.ss.length y13) := hbl2.cell 10
                                obtain ⟨my, hmy⟩ : ∃ q, y.m = q := ⟨_, rfl⟩
                                rw [hmy] at z2_2
                                obtain ⟨ly, hly⟩ : ∃ q, y.ss.length = q := ⟨_, rfl⟩
                                rw [hly] at z2_10
                                have HLL2 := Lib.hid hly
                                have HMM2 := Lib.hid hmy
                                clear hly hmy
                                have HBL2 := Lib.hid hbl2
                                clear hv hR hbl2
                                have HDD : Hid (dC a.cs b.cs q = some ⟨1, q⟩) := Lib.hid (by unfold dC; rw [hfa, hfb])
                                clear hfa hfb
                                go_wp2_with (first
                                  | (at_builtin
                                     refine wpList_append_own_at _ rfl _ _ 37 rfl w5.heap.size 41 i1 (.agg #[.int .i64 0, .string ⟨#[]⟩]) 2 24 Tryz.underlying37 hi hz0 hz1 hz2 rfl (by decide) _ _ _ rfl (HRO.out.alloc _).own ⟨wz.heap.size, 0, none⟩ 1 1 [.int .i64 1, .string q] rfl rfl (news2 _ _ _ _) (by simp [Value.oneCell']) (by unfold maxLen; omega) (by omega) (HRO.out.alloc _).bel.size ?_
                                     intro v' w3 hown' hgrow hnil hloc)
                                  | go_in)
                                go_roundw
                                case rel => exact ⟨k + 1, _, by omega, by go_num, by rw [HST.out, HDD.out]; rfl, (HRO.out.alloc _).put (d := ⟨1, q⟩) hown' hgrow⟩
                                case measure => simp [intOf]; omega
                            | some x =>
                              cases hfb : fnd (fun x : C => x.n) b.cs q with
                              | none =>
                                simp only [hfa, hfb, Option.isSome_none, Option.isSome_some]
                                simp only [FndC, hfa] at hf1
                                obtain ⟨cs, hcs, hR⟩ := hf1
                                injection hcs with hcs
                                subst hcs
                                obtain ⟨x0, x1, x2, x3, x4, x5, x6, x7, x8, x9, x10, x11, x12, x13, rfl, hv, hs⟩ := hR.parts
                                have HV1 := Lib.hid hv
                                have HSS1 := Lib.hid hs
                                clear hs
                                have z1_2 : wz.cell? ⟨g1, 2, none⟩ = some (.int .i64 x.m) := hbl1.cell 2
                                have z1_3 : wz.cell? ⟨g1, 3, none⟩ = some (.int .i64 x1) := hbl1.cell 3
                                have z1_4 : wz.cell? ⟨g1, 4, none⟩ = some (.int .i64 x2) := hbl1.cell 4
                                have z1_5 : wz.cell? ⟨g1, 5, none⟩ = some (.string x3) := hbl1.cell 5
                                have z1_6 : wz.cell? ⟨g1, 6, none⟩ = some (.slice x4 x5 x6) := hbl1.cell 6
                                have z1_7 : wz.cell? ⟨g1, 7, none⟩ = some (.slice x7 x8 x9) := hbl1.cell 7
                                have z1_10 : wz.cell? ⟨g1, 10, none⟩ = some (.slice x12 x.ss.length x13) := hbl1.cell 10
                                obtain ⟨mx, hmx⟩ : ∃ q, x.m = q := ⟨_, rfl⟩
                                rw [hmx] at z1_2
                                obtain ⟨lx, hlx⟩ : ∃ q, x.ss.length = q := ⟨_, rfl⟩
                                rw [hlx] at z1_10
                                have HLL1 := Lib.hid hlx
                                have HMM1 := Lib.hid hmx
                                clear hlx hmx
                                have HBL1 := Lib.hid hbl1
                                clear hv hR hbl1
                                simp only [FndC, hfb, zC] at hf2
                                injection hf2 with hf2
                                subst hf2
                                clear hbl2
                                have HDD : Hid (dC a.cs b.cs q = some ⟨1, q⟩) := Lib.hid (by unfold dC; rw [hfa, hfb])
                                clear hfa hfb
                                go_wp2_with (first
                                  | (at_builtin
                                     refine wpList_append_own_at _ rfl _ _ 37 rfl w5.heap.size 41 i1 (.agg #[.int .i64 0, .string ⟨#[]⟩]) 2 24 Tryz.underlying37 hi hz0 hz1 hz2 rfl (by decide) _ _ _ rfl (HRO.out.alloc _).own ⟨wz.heap.size, 0, none⟩ 1 1 [.int .i64 1, .string q] rfl rfl (news2 _ _ _ _) (by simp [Value.oneCell']) (by unfold maxLen; omega) (by omega) (HRO.out.alloc _).bel.size ?_
                                     intro v' w3 hown' hgrow hnil hloc)
                                  | go_in)
                                go_roundw
                                case rel => exact ⟨k + 1, _, by omega, by go_num, by rw [HST.out, HDD.out]; rfl, (HRO.out.alloc _).put (d := ⟨1, q⟩) hown' hgrow⟩
                                case measure => simp [intOf]; omega
                              | some y =>
                                simp only [hfa, hfb, Option.isSome_none, Option.isSome_some]
                                simp only [FndC, hfa] at hf1
                                obtain ⟨cs, hcs, hR⟩ := hf1
                                injection hcs with hcs
                                subst hcs
                                obtain ⟨x0, x1, x2, x3, x4, x5, x6, x7, x8, x9, x10, x11, x12, x13, rfl, hv, hs⟩ := hR.parts
                                have HV1 := Lib.hid hv
                                have HSS1 := Lib.hid hs
                                clear hs
                                have z1_2 : wz.cell? ⟨g1, 2, none⟩ = some (.int .i64 x.m) := hbl1.cell 2
                                have z1_3 : wz.cell? ⟨g1, 3, none⟩ = some (.int .i64 x1) := hbl1.cell 3
                                have z1_4 : wz.cell? ⟨g1, 4, none⟩ = some (.int .i64 x2) := hbl1.cell 4
                                have z1_5 : wz.cell? ⟨g1, 5, none⟩ = some (.string x3) := hbl1.cell 5
                                have z1_6 : wz.cell? ⟨g1, 6, none⟩ = some (.slice x4 x5 x6) := hbl1.cell 6
                                have z1_7 : wz.cell? ⟨g1, 7, none⟩ = some (.slice x7 x8 x9) := hbl1.cell 7
                                have z1_10 : wz.cell? ⟨g1, 10, none⟩ = some (.slice x12 x.ss.length x13) := hbl1.cell 10
                                obtain ⟨mx, hmx⟩ : ∃ q, x.m = q := ⟨_, rfl⟩
                                rw [hmx] at z1_2
                                obtain ⟨lx, hlx⟩ : ∃ q, x.ss.length = q := ⟨_, rfl⟩
                                rw [hlx] at z1_10
                                have HLL1 := Lib.hid hlx
                                have HMM1 := Lib.hid hmx
                                clear hlx hmx
                                have HBL1 := Lib.hid hbl1
                                clear hv hR hbl1
                                simp only [FndC, hfb] at hf2
                                obtain ⟨cs, hcs, hR⟩ := hf2
                                injection hcs with hcs
                                subst hcs
                                obtain ⟨y0, y1, y2, y3, y4, y5, y6, y7, y8, y9, y10, y11, y12, y13, rfl, hv, hs⟩ := hR.parts
                                have HV2 := Lib.hid hv
                                have HSS2 := Lib.hid hs
                                clear hs
                                have z2_2 : wz.cell? ⟨g2, 2, none⟩ = some (.int .i64 y.m) := hbl2.cell 2
                                have z2_3 : wz.cell? ⟨g2, 3, none⟩ = some (.int .i64 y1) := hbl2.cell 3
                                have z2_4 : wz.cell? ⟨g2, 4, none⟩ = some (.int .i64 y2) := hbl2.cell 4
                                have z2_5 : wz.cell? ⟨g2, 5, none⟩ = some (.string y3) := hbl2.cell 5
                                have z2_6 : wz.cell? ⟨g2, 6, none⟩ = some (.slice y4 y5 y6) := hbl2.cell 6
                                have z2_7 : wz.cell? ⟨g2, 7, none⟩ = some (.slice y7 y8 y9) := hbl2.cell 7
                                have z2_10 : wz.cell? ⟨g2, 10, none⟩ = some (.slice y12 y.ss.length y13) := hbl2.cell 10
                                obtain ⟨my, hmy⟩ : ∃ q, y.m = q := ⟨_, rfl⟩
                                rw [hmy] at z2_2
                                obtain ⟨ly, hly⟩ : ∃ q, y.ss.length = q := ⟨_, rfl⟩
                                rw [hly] at z2_10
                                have HLL2 := Lib.hid hly
                                have HMM2 := Lib.hid hmy
                                clear hly hmy
                                have HBL2 := Lib.hid hbl2
                                clear hv hR hbl2
                                by_cases hmm : mx = my
                                · subst hmm
                                  have hmi : (mx == mx) = true := by simp
                                  by_cases hvv : x.v = y.v
                                  · have HXY : Hid (decide (x.v = y.v) = true) := Lib.hid (decide_eq_true hvv)
                                    by_cases hse : x.ss = y.ss
                                    · have HSE : Hid (decide (x.ss = y.ss) = true) := Lib.hid (decide_eq_true hse)
                                      have HDD : Hid (dC a.cs b.cs q = none) := Lib.hid (by unfold dC; rw [hfa, hfb]; simp only []; rw [if_pos ⟨HMM1.out.trans HMM2.out.symm, hvv⟩, if_pos hse])
                                      clear hfa hfb hvv hse
                                      go_wp2_with (first
                                        | (go_at_call 22
                                           refine (refEqual_any x.v y.v _ _ _ ((HV1.out.below HBY.out.bel).more HBY.out.bel.size) ((HV2.out.below HBY.out.bel).more HBY.out.bel.size)).mono ?_
                                           rintro e w9 ⟨rfl, hb9⟩
                                           have hat9 := HRO.out.next hb9
                                           have hc9 := (hb9.cell (p := ⟨gk, _, none⟩) hgz).trans HCE.out
                                           have h1_10 := (hb9.cell (p := ⟨g1, 10, none⟩) HBL1.out.lt).trans z1_10
                                           have h2_10 := (hb9.cell (p := ⟨g2, 10, none⟩) HBL2.out.lt).trans z2_10
                                           rw [HXY.out])
                                        | (go_at_call 23
                                           refine (refSpecs _ _ _ _ _ _ _ x.ss y.ss HLL1.out HLL2.out (Lst.at_ HSS1.out (bel_next HBY.out.bel hb9)) (Lst.at_ HSS2.out (bel_next HBY.out.bel hb9))).mono ?_
                                           rintro e w10 ⟨rfl, jj, rfl⟩
                                           rw [HSE.out])
                                        | go_in)
                                      go_roundw
                                      case rel => exact ⟨k + 1, _, by omega, by go_num, by rw [HST.out, HDD.out]; simp, hat9.drewN _⟩
                                      case measure => simp [intOf]; omega
                                    · have HSE : Hid (decide (x.ss = y.ss) = false) := Lib.hid (decide_eq_false hse)
                                      have HDD : Hid (dC a.cs b.cs q = some ⟨2, q⟩) := Lib.hid (by unfold dC; rw [hfa, hfb]; simp only []; rw [if_pos ⟨HMM1.out.trans HMM2.out.symm, hvv⟩, if_neg hse])
                                      clear hfa hfb hvv hse
                                      go_wp2_with (first
                                        | (go_at_call 22
                                           refine (refEqual_any x.v y.v _ _ _ ((HV1.out.below HBY.out.bel).more HBY.out.bel.size) ((HV2.out.below HBY.out.bel).more HBY.out.bel.size)).mono ?_
                                           rintro e w9 ⟨rfl, hb9⟩
                                           have hat9 := HRO.out.next hb9
                                           have hc9 := (hb9.cell (p := ⟨gk, _, none⟩) hgz).trans HCE.out
                                           have h1_10 := (hb9.cell (p := ⟨g1, 10, none⟩) HBL1.out.lt).trans z1_10
                                           have h2_10 := (hb9.cell (p := ⟨g2, 10, none⟩) HBL2.out.lt).trans z2_10
                                           rw [HXY.out])
                                        | (go_at_call 23
                                           refine (refSpecs _ _ _ _ _ _ _ x.ss y.ss HLL1.out HLL2.out (Lst.at_ HSS1.out (bel_next HBY.out.bel hb9)) (Lst.at_ HSS2.out (bel_next HBY.out.bel hb9))).mono ?_
                                           rintro e w10 ⟨rfl, jj, rfl⟩
                                           rw [HSE.out])
                                        | (at_builtin
                                           refine wpList_append_own_at _ rfl _ _ 37 rfl w5.heap.size 41 i1 (.agg #[.int .i64 0, .string ⟨#[]⟩]) 2 24 Tryz.underlying37 hi hz0 hz1 hz2 rfl (by decide) _ _ _ rfl ((hat9.drewN _).alloc _).own ⟨w9.heap.size, 0, none⟩ 1 1 [.int .i64 2, .string q] rfl rfl (news2 _ _ _ _) (by simp [Value.oneCell']) (by unfold maxLen; omega) (by omega) ((hat9.drewN _).alloc _).bel.size ?_
                                           intro v' w3 hown' hgrow hnil hloc)
                                        | go_in)
                                      go_roundw
                                      case rel => exact ⟨k + 1, _, by omega, by go_num, by rw [HST.out, HDD.out]; rfl, ((hat9.drewN _).alloc _).put (d := ⟨2, q⟩) hown' hgrow⟩
                                      case measure => simp [intOf]; omega
                                  · have HXY : Hid (decide (x.v = y.v) = false) := Lib.hid (decide_eq_false hvv)
                                    have HDD : Hid (dC a.cs b.cs q = some ⟨1, q⟩) := Lib.hid (by unfold dC; rw [hfa, hfb]; simp only []; rw [if_neg fun e => hvv e.2])
                                    clear hfa hfb hvv
                                    go_wp2_with (first
                                      | (go_at_call 22
                                         refine (refEqual_any x.v y.v _ _ _ ((HV1.out.below HBY.out.bel).more HBY.out.bel.size) ((HV2.out.below HBY.out.bel).more HBY.out.bel.size)).mono ?_
                                         rintro e w9 ⟨rfl, hb9⟩
                                         have hat9 := HRO.out.next hb9
                                         have hc9 := (hb9.cell (p := ⟨gk, _, none⟩) hgz).trans HCE.out
                                         have h1_10 := (hb9.cell (p := ⟨g1, 10, none⟩) HBL1.out.lt).trans z1_10
                                         have h2_10 := (hb9.cell (p := ⟨g2, 10, none⟩) HBL2.out.lt).trans z2_10
                                         rw [HXY.out])
                                      | (at_builtin
                                         refine wpList_append_own_at _ rfl _ _ 37 rfl w5.heap.size 41 i1 (.agg #[.int .i64 0, .string ⟨#[]⟩]) 2 24 Tryz.underlying37 hi hz0 hz1 hz2 rfl (by decide) _ _ _ rfl (hat9.alloc _).own ⟨w9.heap.size, 0, none⟩ 1 1 [.int .i64 1, .string q] rfl rfl (news2 _ _ _ _) (by simp [Value.oneCell']) (by unfold maxLen; omega) (by omega) (hat9.alloc _).bel.size ?_
                                         intro v' w3 hown' hgrow hnil hloc)
                                      | go_in)
                                    go_roundw
                                    case rel => exact ⟨k + 1, _, by omega, by go_num, by rw [HST.out, HDD.out]; rfl, (hat9.alloc _).put (d := ⟨1, q⟩) hown' hgrow⟩
                                    case measure => simp [intOf]; omega
                                · have hmi : (mx == my) = false := by simp [hmm]
                                  have HDD : Hid (dC a.cs b.cs q = some ⟨1, q⟩) := Lib.hid (by unfold dC; rw [hfa, hfb]; simp only []; rw [if_neg fun e => hmm (HMM1.out.symm.trans (e.1.trans HMM2.out))])
                                  clear hfa hfb
                                  go_wp2_with (first
                                    | (at_builtin
                                       refine wpList_append_own_at _ rfl _ _ 37 rfl w5.heap.size 41 i1 (.agg #[.int .i64 0, .string ⟨#[]⟩]) 2 24 Tryz.underlying37 hi hz0 hz1 hz2 rfl (by decide) _ _ _ rfl (HRO.out.alloc _).own ⟨wz.heap.size, 0, none⟩ 1 1 [.int .i64 1, .string q] rfl rfl (news2 _ _ _ _) (by simp [Value.oneCell']) (by unfold maxLen; omega) (by omega) (HRO.out.alloc _).bel.size ?_
                                       intro v' w3 hown' hgrow hnil hloc)
                                    | go_in)
                                  go_roundw
                                  case rel => exact ⟨k + 1, _, by omega, by go_num, by rw [HST.out, HDD.out]; rfl, (HRO.out.alloc _).put (d := ⟨1, q⟩) hown' hgrow⟩
                                  case measure => simp [intOf]; omega
                    · obtain rfl : m = k := by omega
                      have hda : ds = ln.filterMap (dC a.cs b.cs) := by rw [← hds, List.take_of_length_le (by rw [HNL.out]; exact Nat.le_refl _)]
                      have HDA := Lib.hid hda
                      have HRX := Lib.hid hro
                      clear hds hda hro HLN HMN
                      go_wp2
                      clear hk hlt
                      go_loopw [11, 17] (fun v i wr => ∃ k dd, k ≤ mi ∧ i = .int .i64 k ∧ ds ++ (li.take k).filterMap (dI a.ds b.ds) = dd ∧ Ro w5 wr v dd) (fun _ i _ => mi - (intOf i).toNat)
                      case atStart => exact ⟨0, ds, Nat.zero_le _, rfl, by simp, HRX.out⟩
                      case round =>
                        clear HRX
                        obtain ⟨k, dd, hk, rfl, hds, hro⟩ := hrel
                        have hdl2 : dd.length ≤ 2097152 := by
                          rw [← hds, List.length_append]
                          have h9 := List.length_filterMap_le (dI a.ds b.ds) (li.take k)
                          rw [List.length_take] at h9
                          have := Nat.min_le_left k li.length
                          omega
                        by_cases hlt : k < mi
                        · have hkl : k < li.length := by have := HNI.out; omega
                          obtain ⟨gk, ok, rfl, hgk, hcs⟩ := HLI.out.str hkl
                          have hcell := (hro.bel.cell (p := ⟨gk, _, none⟩) hgk).trans (hcs k hkl)
                          obtain ⟨q, hq⟩ : ∃ q, li[k] = q := ⟨_, rfl⟩
                          rw [hq] at hcell
                          have hst := take_filterMap (dI a.ds b.ds) li (k := k) hkl
                          rw [hq] at hst
                          have hst2 : ds ++ (li.take (k + 1)).filterMap (dI a.ds b.ds) = dd ++ (dI a.ds b.ds q).toList := by rw [hst, ← List.append_assoc, hds]
                          have HST := Lib.hid hst2
                          have hbx := HBX.out.next hro.bel
                          have HBY := Lib.hid hbx
                          have HRO := Lib.hid hro
                          have HGK := Lib.hid hgk
                          have HCE := Lib.hid hcell
                          clear hcs hq hst hst2 hds hbx hro hgk hcell
                          have hbc : wr.cell? ⟨w.heap.size, 2, none⟩ = some (.slice A' n' c') := cell_of_row wr w.heap.size 2 _ 25 (0, 0) HBY.out.one
                          have hcell := HCE.out
                          have hgk2 : gk < wr.heap.size := Nat.lt_of_lt_of_le HGK.out HRO.out.bel.size
                          have hgk3 : gk ≠ wr.heap.size := by omega
                          have hw2 : w.heap.size < wr.heap.size := lt_of_some HBY.out.one
                          have hw3 : w.heap.size ≠ wr.heap.size := by omega
                          have BA := Lib.hid (bel_drew HBY.out.bel)
                          have BB := Lib.hid (bel_drew (HBY.out.bel.alloc HBY.out.bel.size (.cells #[.string ⟨#[]⟩, .int .i64 0, .int .i64 0, .int .i64 0, .string ⟨#[]⟩, .slice none 0 0, .slice none 0 0] 75)))
                          have DA := Lib.hid (bel_drew (Below.refl wr.heap.size wr))
                          have DB := Lib.hid (bel_drew ((Below.refl wr.heap.size wr).alloc (Nat.le_refl _) (.cells #[.string ⟨#[]⟩, .int .i64 0, .int .i64 0, .int .i64 0, .string ⟨#[]⟩, .slice none 0 0, .slice none 0 0] 75)))
                          go_upto_region 31 with fail
                          go_cut [18, 19] (fun p bb wz => GotI w a.ds q p bb wz ∧ Ro w5 wz u11 dd ∧ Below wr.heap.size wr wz)
                          case first =>
                            focus
                              have sof : ∀ wx, Below wr.heap.size wr wx → (wx.cell? ⟨w.heap.size, 2, none⟩ = some (.slice A' n' c') ∧ wx.cell? ⟨gk, ok + k, none⟩ = some (.string q)) := fun wx h => ⟨(h.cell (p := ⟨w.heap.size, 2, none⟩) hw2).trans hbc, (h.cell (p := ⟨gk, _, none⟩) hgk2).trans hcell⟩
                              have SOF := Lib.hid sof
                              clear sof
                              refine wp_region_noPanic ?_
                              go_region_held3 (fun wx => wx.cell? ⟨w.heap.size, 2, none⟩ = some (.slice A' n' c') ∧ wx.cell? ⟨gk, ok + k, none⟩ = some (.string q))
                                (first
                                  | (with_reducible exact SOF.out _ DA.out)
                                  | (with_reducible exact SOF.out _ DB.out)
                                  | (with_reducible exact SOF.out _ (bel_next DA.out hb9))
                                  | (with_reducible exact SOF.out _ (bel_next DB.out hb9))
                                  | (with_reducible exact SOF.out _ ((bel_next DA.out hb9).alloc z1 _))
                                  | (with_reducible exact SOF.out _ (bel_set7 _ _ _ _ _ _ _ (bel_next DB.out hb9) (Nat.le_refl _)))
                                  | go_keep)
                                (first
                                  | (go_at_call 37
                                     refine (find_I _ w w.heap.size A' n' c' a.ds q HN'.out ?_).mono ?_
                                     (first | (with_reducible exact Lst.at_ HD.out BA.out) | (with_reducible exact Lst.at_ HD.out BB.out))
                                     rintro e w9 ⟨v, rfl, hF, hb9⟩
                                     obtain ⟨s0, c1, f1, f2, t, An2, nn, cn2, Ai2, ni, ci2, rfl⟩ := fndI_form hF
                                     have hx1 : w9.cell? ⟨w.heap.size, 2, none⟩ = some (.slice A' n' c') := by first | (with_reducible exact (x_of hb9 DA.out hw2).trans hbc) | (with_reducible exact (x_of hb9 DB.out hw2).trans hbc)
                                     have hx2 : w9.cell? ⟨gk, ok + k, none⟩ = some (.string q) := by first | (with_reducible exact (x_of hb9 DA.out hgk2).trans hcell) | (with_reducible exact (x_of hb9 DB.out hgk2).trans hcell)
                                     have z1 : wr.heap.size ≤ w9.heap.size := by first | (with_reducible exact Nat.le_trans DA.out.size hb9.size) | (with_reducible exact Nat.le_trans DB.out.size hb9.size)
                                     have z2 : w.heap.size ≠ w9.heap.size := by omega
                                     have z3 : gk ≠ w9.heap.size := by omega
                                     (first
                                       | (have hg9 : Blk w9 wr.heap.size 75 #[.string ⟨#[]⟩, .int .i64 0, .int .i64 0, .int .i64 0, .string ⟨#[]⟩, .slice none 0 0, .slice none 0 0] := by with_reducible exact Blk.below (Blk.drew (Blk.new wr 75 #[.string ⟨#[]⟩, .int .i64 0, .int .i64 0, .int .i64 0, .string ⟨#[]⟩, .slice none 0 0, .slice none 0 0])) hb9 (Blk.drew (Blk.new wr 75 #[.string ⟨#[]⟩, .int .i64 0, .int .i64 0, .int .i64 0, .string ⟨#[]⟩, .slice none 0 0, .slice none 0 0])).lt
                                          have hfr : ∀ i, w9.frozen? ⟨wr.heap.size, i, none⟩ = false := fun i => hg9.frozen i
                                          have y0 : w9.cell? ⟨wr.heap.size, 0, none⟩ = some (.string ⟨#[]⟩) := hg9.cell 0
                                          have y1 : w9.cell? ⟨wr.heap.size, 1, none⟩ = some (.int .i64 0) := hg9.cell 1
                                          have y2 : w9.cell? ⟨wr.heap.size, 2, none⟩ = some (.int .i64 0) := hg9.cell 2
                                          have y3 : w9.cell? ⟨wr.heap.size, 3, none⟩ = some (.int .i64 0) := hg9.cell 3
                                          have y4 : w9.cell? ⟨wr.heap.size, 4, none⟩ = some (.string ⟨#[]⟩) := hg9.cell 4
                                          have y5 : w9.cell? ⟨wr.heap.size, 5, none⟩ = some (.slice none 0 0) := hg9.cell 5
                                          have y6 : w9.cell? ⟨wr.heap.size, 6, none⟩ = some (.slice none 0 0) := hg9.cell 6)
                                       | skip)))
                              all_goals (refine NoPanic.normal ?_; go_wp2_with fail; go_meet)
                              all_goals first
                                | (have S0 : St w5 wr w9 u11 dd wr.heap.size 75 #[.string ⟨#[]⟩, .int .i64 0, .int .i64 0, .int .i64 0, .string ⟨#[]⟩, .slice none 0 0, .slice none 0 0] := ⟨(Ro.drew (HRO.out.alloc (.cells #[.string ⟨#[]⟩, .int .i64 0, .int .i64 0, .int .i64 0, .string ⟨#[]⟩, .slice none 0 0, .slice none 0 0] 75))).next hb9, hg9, bel_next DB.out hb9, Nat.le_refl _, HRO.out.bel.size⟩
                                   have TT := st_all75 (.string s0) (.int .i64 c1) (.int .i64 f1) (.int .i64 f2) (.string t) (.slice An2 nn cn2) (.slice Ai2 ni ci2) S0
                                   have X1 := gotI_mk TT.blk hF
                                   refine ⟨?_, ?_, ?_⟩
                                   · with_reducible exact X1
                                   · with_reducible exact TT.ro
                                   · with_reducible exact TT.bel)
                                | (fail_if_success (have := hg9)
                                   have R0 := (HRO.out.drew.next hb9).alloc (.cells #[.string s0, .int .i64 c1, .int .i64 f1, .int .i64 f2, .string t, .slice An2 nn cn2, .slice Ai2 ni ci2] 75)
                                   with_reducible exact ⟨gotI_mk (Blk.new w9 75 #[.string s0, .int .i64 c1, .int .i64 f1, .int .i64 f2, .string t, .slice An2 nn cn2, .slice Ai2 ni ci2]) hF, R0, (bel_next DA.out hb9).alloc z1 _⟩)
                          case rest =>
                            obtain ⟨hgot1, hro, hbz⟩ := hcut
                            obtain ⟨wy, hZ⟩ : ∃ q, wc = q := ⟨_, rfl⟩
                            rw [hZ] at hgot1 hro hbz ⊢
                            clear hZ hbc hcell hgk2 hgk3 hw2 hw3 BA BB DA DB
                            have HCE := Lib.hid ((hbz.cell (p := ⟨gk, _, none⟩) (Nat.lt_of_lt_of_le HGK.out HRO.out.bel.size)).trans HCE.out)
                            have HBY := Lib.hid (HBY.out.next hbz)
                            have HRO := Lib.hid hro
                            have HG1 := Lib.hid hgot1
                            have HBZ := Lib.hid hbz
                            clear hgot1 hro hbz
                            have hbc : wy.cell? ⟨w.heap.size + 1, 2, none⟩ = some (.slice A2' n2' c2') := cell_of_row wy (w.heap.size + 1) 2 _ 25 (0, 0) HBY.out.two
                            have hcell := HCE.out
                            have hgk2 : gk < wy.heap.size := Nat.lt_of_lt_of_le HGK.out HRO.out.bel.size
                            have hgk3 : gk ≠ wy.heap.size := by omega
                            have hw2 : w.heap.size + 1 < wy.heap.size := lt_of_some HBY.out.two
                            have hw3 : w.heap.size + 1 ≠ wy.heap.size := by omega
                            have BA := Lib.hid (bel_drew HBY.out.bel)
                            have BB := Lib.hid (bel_drew (HBY.out.bel.alloc HBY.out.bel.size (.cells #[.string ⟨#[]⟩, .int .i64 0, .int .i64 0, .int .i64 0, .string ⟨#[]⟩, .slice none 0 0, .slice none 0 0] 75)))
                            have DA := Lib.hid (bel_drew (Below.refl wy.heap.size wy))
                            have DB := Lib.hid (bel_drew ((Below.refl wy.heap.size wy).alloc (Nat.le_refl _) (.cells #[.string ⟨#[]⟩, .int .i64 0, .int .i64 0, .int .i64 0, .string ⟨#[]⟩, .slice none 0 0, .slice none 0 0] 75)))
                            go_upto_region 32 with fail
                            go_cut [20, 21] (fun p bb wz => GotI w b.ds q p bb wz ∧ Ro w5 wz u11 dd ∧ Below wy.heap.size wy wz)
                            case first =>
                              focus
                                have sof : ∀ wx, Below wy.heap.size wy wx → (wx.cell? ⟨w.heap.size + 1, 2, none⟩ = some (.slice A2' n2' c2') ∧ wx.cell? ⟨gk, ok + k, none⟩ = some (.string q)) := fun wx h => ⟨(h.cell (p := ⟨w.heap.size + 1, 2, none⟩) hw2).trans hbc, (h.cell (p := ⟨gk, _, none⟩) hgk2).trans hcell⟩
                                have SOF := Lib.hid sof
                                clear sof
                                refine wp_region_noPanic ?_
                                go_region_held3 (fun wx => wx.cell? ⟨w.heap.size + 1, 2, none⟩ = some (.slice A2' n2' c2') ∧ wx.cell? ⟨gk, ok + k, none⟩ = some (.string q))
                                  (first
                                    | (with_reducible exact SOF.out _ DA.out)
                                    | (with_reducible exact SOF.out _ DB.out)
                                    | (with_reducible exact SOF.out _ (bel_next DA.out hb9))
                                    | (with_reducible exact SOF.out _ (bel_next DB.out hb9))
                                    | (with_reducible exact SOF.out _ ((bel_next DA.out hb9).alloc z1 _))
                                    | (with_reducible exact SOF.out _ (bel_set7 _ _ _ _ _ _ _ (bel_next DB.out hb9) (Nat.le_refl _)))
                                    | go_keep)
                                  (first
                                    | (go_at_call 37
                                       refine (find_I _ w w.heap.size A2' n2' c2' b.ds q HN2'.out ?_).mono ?_
                                       (first | (with_reducible exact Lst.at_ HD2.out BA.out) | (with_reducible exact Lst.at_ HD2.out BB.out))
                                       rintro e w9 ⟨v, rfl, hF, hb9⟩
                                       obtain ⟨s0, c1, f1, f2, t, An2, nn, cn2, Ai2, ni, ci2, rfl⟩ := fndI_form hF
                                       have hx1 : w9.cell? ⟨w.heap.size + 1, 2, none⟩ = some (.slice A2' n2' c2') := by first | (with_reducible exact (x_of hb9 DA.out hw2).trans hbc) | (with_reducible exact (x_of hb9 DB.out hw2).trans hbc)
                                       have hx2 : w9.cell? ⟨gk, ok + k, none⟩ = some (.string q) := by first | (with_reducible exact (x_of hb9 DA.out hgk2).trans hcell) | (with_reducible exact (x_of hb9 DB.out hgk2).trans hcell)
                                       have z1 : wy.heap.size ≤ w9.heap.size := by first | (with_reducible exact Nat.le_trans DA.out.size hb9.size) | (with_reducible exact Nat.le_trans DB.out.size hb9.size)
                                       have z2 : w.heap.size + 1 ≠ w9.heap.size := by omega
                                       have z3 : gk ≠ w9.heap.size := by omega
                                       (first
                                         | (have hg9 : Blk w9 wy.heap.size 75 #[.string ⟨#[]⟩, .int .i64 0, .int .i64 0, .int .i64 0, .string ⟨#[]⟩, .slice none 0 0, .slice none 0 0] := by with_reducible exact Blk.below (Blk.drew (Blk.new wy 75 #[.string ⟨#[]⟩, .int .i64 0, .int .i64 0, .int .i64 0, .string ⟨#[]⟩, .slice none 0 0, .slice none 0 0])) hb9 (Blk.drew (Blk.new wy 75 #[.string ⟨#[]⟩, .int .i64 0, .int .i64 0, .int .i64 0, .string ⟨#[]⟩, .slice none 0 0, .slice none 0 0])).lt
                                            have hfr : ∀ i, w9.frozen? ⟨wy.heap.size, i, none⟩ = false := fun i => hg9.frozen i
                                            have y0 : w9.cell? ⟨wy.heap.size, 0, none⟩ = some (.string ⟨#[]⟩) := hg9.cell 0
                                            have y1 : w9.cell? ⟨wy.heap.size, 1, none⟩ = some (.int .i64 0) := hg9.cell 1
                                            have y2 : w9.cell? ⟨wy.heap.size, 2, none⟩ = some (.int .i64 0) := hg9.cell 2
                                            have y3 : w9.cell? ⟨wy.heap.size, 3, none⟩ = some (.int .i64 0) := hg9.cell 3
                                            have y4 : w9.cell? ⟨wy.heap.size, 4, none⟩ = some (.string ⟨#[]⟩) := hg9.cell 4
                                            have y5 : w9.cell? ⟨wy.heap.size, 5, none⟩ = some (.slice none 0 0) := hg9.cell 5
                                            have y6 : w9.cell? ⟨wy.heap.size, 6, none⟩ = some (.slice none 0 0) := hg9.cell 6)
                                         | skip)))
                                all_goals (refine NoPanic.normal ?_; go_wp2_with fail; go_meet)
                                all_goals first
                                  | (have S0 : St w5 wy w9 u11 dd wy.heap.size 75 #[.string ⟨#[]⟩, .int .i64 0, .int .i64 0, .int .i64 0, .string ⟨#[]⟩, .slice none 0 0, .slice none 0 0] := ⟨(Ro.drew (HRO.out.alloc (.cells #[.string ⟨#[]⟩, .int .i64 0, .int .i64 0, .int .i64 0, .string ⟨#[]⟩, .slice none 0 0, .slice none 0 0] 75))).next hb9, hg9, bel_next DB.out hb9, Nat.le_refl _, HRO.out.bel.size⟩
                                     have TT := st_all75 (.string s0) (.int .i64 c1) (.int .i64 f1) (.int .i64 f2) (.string t) (.slice An2 nn cn2) (.slice Ai2 ni ci2) S0
                                     have X1 := gotI_mk TT.blk hF
                                     refine ⟨?_, ?_, ?_⟩
                                     · with_reducible exact X1
                                     · with_reducible exact TT.ro
                                     · with_reducible exact TT.bel)
                                  | (fail_if_success (have := hg9)
                                     have R0 := (HRO.out.drew.next hb9).alloc (.cells #[.string s0, .int .i64 c1, .int .i64 f1, .int .i64 f2, .string t, .slice An2 nn cn2, .slice Ai2 ni ci2] 75)
                                     with_reducible exact ⟨gotI_mk (Blk.new w9 75 #[.string s0, .int .i64 c1, .int .i64 f1, .int .i64 f2, .string t, .slice An2 nn cn2, .slice Ai2 ni ci2]) hF, R0, (bel_next DA.out hb9).alloc z1 _⟩)
                            case rest =>
                              obtain ⟨hgot2, hro, hbz⟩ := hcut
                              obtain ⟨wz, hZ⟩ : ∃ q, wc = q := ⟨_, rfl⟩
                              rw [hZ] at hgot2 hro hbz ⊢
                              clear hZ hbc hcell hgk2 hgk3 hw2 hw3 BA BB DA DB
                              have HCE := Lib.hid ((hbz.cell (p := ⟨gk, _, none⟩) (Nat.lt_of_lt_of_le HGK.out HRO.out.bel.size)).trans HCE.out)
                              have HBY := Lib.hid (HBY.out.next hbz)
                              have HRO := Lib.hid hro
                              have HG2 := Lib.hid hgot2
                              have HBZ := Lib.hid hbz
                              clear hgot2 hro hbz
                              focus
                                have hgz : gk < wz.heap.size := Nat.lt_of_lt_of_le HGK.out HRO.out.bel.size
                                have hcell := HCE.out
                                obtain ⟨g1, cs1, rfl, rfl, hbl1, hf1⟩ := HG1.out
                                obtain ⟨g2, cs2, rfl, rfl, hbl2, hf2⟩ := HG2.out
                                have hbl1 := hbl1.below HBZ.out hbl1.lt
                                clear HG1 HG2
                                cases hfb : fnd (fun x : I => x.k) b.ds q with
                                | none =>
                                  simp only [hfb, Option.isSome_none]
                                  have HDD : Hid (dI a.ds b.ds q = some ⟨3, q⟩) := Lib.hid (by unfold dI; rw [hfb])
                                  clear hfb hf1 hf2 hbl1 hbl2
                                  go_wp2_with (first
                                    | (at_builtin
                                       refine wpList_append_own_at _ rfl _ _ 37 rfl w5.heap.size 41 i1 (.agg #[.int .i64 0, .string ⟨#[]⟩]) 2 24 Tryz.underlying37 hi hz0 hz1 hz2 rfl (by decide) _ _ _ rfl (HRO.out.alloc _).own ⟨wz.heap.size, 0, none⟩ 1 1 [.int .i64 3, .string q] rfl rfl (news2 _ _ _ _) (by simp [Value.oneCell']) (by unfold maxLen; omega) (by omega) (HRO.out.alloc _).bel.size ?_
                                       intro v' w3 hown' hgrow hnil hloc)
                                    | go_in)
                                  go_roundw
                                  case rel => exact ⟨k + 1, _, by omega, by go_num, by rw [HST.out, HDD.out]; rfl, (HRO.out.alloc _).put (d := ⟨3, q⟩) hown' hgrow⟩
                                  case measure => simp [intOf]; omega
                                | some y =>
                                  cases hfa : fnd (fun x : I => x.k) a.ds q with
                                  | none =>
                                    simp only [hfa, hfb, Option.isSome_none, Option.isSome_some]
                                    have HDD : Hid (dI a.ds b.ds q = some ⟨4, q⟩) := Lib.hid (by unfold dI; rw [hfa, hfb])
                                    clear hfa hfb hf1 hf2 hbl1 hbl2
                                    go_wp2_with (first
                                      | (at_builtin
                                         refine wpList_append_own_at _ rfl _ _ 37 rfl w5.heap.size 41 i1 (.agg #[.int .i64 0, .string ⟨#[]⟩]) 2 24 Tryz.underlying37 hi hz0 hz1 hz2 rfl (by decide) _ _ _ rfl (HRO.out.alloc _).own ⟨wz.heap.size, 0, none⟩ 1 1 [.int .i64 4, .string q] rfl rfl (news2 _ _ _ _) (by simp [Value.oneCell']) (by unfold maxLen; omega) (by omega) (HRO.out.alloc _).bel.size ?_
                                         intro v' w3 hown' hgrow hnil hloc)
                                      | go_in)
                                    go_roundw
                                    case rel => exact ⟨k + 1, _, by omega, by go_num, by rw [HST.out, HDD.out]; rfl, (HRO.out.alloc _).put (d := ⟨4, q⟩) hown' hgrow⟩
                                    case measure => simp [intOf]; omega
                                  | some x =>
                                    simp only [hfa, hfb, Option.isSome_none, Option.isSome_some]
                                    simp only [FndI, hfa] at hf1
                                    obtain ⟨cs, hcs, hR⟩ := hf1
                                    injection hcs with hcs
                                    subst hcs
                                    obtain ⟨x0, x1, x2, x3, x4, x5, x6, x7, x8, x9, rfl, hv⟩ := hR.parts
                                    have HV1 := Lib.hid hv
                                    have z1_2 : wz.cell? ⟨g1, 2, none⟩ = some (.int .i64 x1) := hbl1.cell 2
                                    have z1_3 : wz.cell? ⟨g1, 3, none⟩ = some (.int .i64 x2) := hbl1.cell 3
                                    have z1_4 : wz.cell? ⟨g1, 4, none⟩ = some (.string x3) := hbl1.cell 4
                                    have z1_5 : wz.cell? ⟨g1, 5, none⟩ = some (.slice x4 x5 x6) := hbl1.cell 5
                                    have z1_6 : wz.cell? ⟨g1, 6, none⟩ = some (.slice x7 x8 x9) := hbl1.cell 6
                                    have HBL1 := Lib.hid hbl1
                                    clear hv hR hbl1
                                    simp only [FndI, hfb] at hf2
                                    obtain ⟨cs, hcs, hR⟩ := hf2
                                    injection hcs with hcs
                                    subst hcs
                                    obtain ⟨y0, y1, y2, y3, y4, y5, y6, y7, y8, y9, rfl, hv⟩ := hR.parts
                                    have HV2 := Lib.hid hv
                                    have z2_2 : wz.cell? ⟨g2, 2, none⟩ = some (.int .i64 y1) := hbl2.cell 2
                                    have z2_3 : wz.cell? ⟨g2, 3, none⟩ = some (.int .i64 y2) := hbl2.cell 3
                                    have z2_4 : wz.cell? ⟨g2, 4, none⟩ = some (.string y3) := hbl2.cell 4
                                    have z2_5 : wz.cell? ⟨g2, 5, none⟩ = some (.slice y4 y5 y6) := hbl2.cell 5
                                    have z2_6 : wz.cell? ⟨g2, 6, none⟩ = some (.slice y7 y8 y9) := hbl2.cell 6
                                    have HBL2 := Lib.hid hbl2
                                    clear hv hR hbl2
                                    by_cases hvv : x.v = y.v
                                    · have HXY : Hid (decide (x.v = y.v) = true) := Lib.hid (decide_eq_true hvv)
                                      have HDD : Hid (dI a.ds b.ds q = none) := Lib.hid (by unfold dI; rw [hfa, hfb]; simp only []; rw [if_pos hvv])
                                      clear hfa hfb hvv
                                      go_wp2_with (first
                                        | (go_at_call 22
                                           refine (refEqual_any x.v y.v _ _ _ ((HV1.out.below HBY.out.bel).more HBY.out.bel.size) ((HV2.out.below HBY.out.bel).more HBY.out.bel.size)).mono ?_
                                           rintro e w9 ⟨rfl, hb9⟩
                                           have hat9 := HRO.out.next hb9
                                           have hc9 := (hb9.cell (p := ⟨gk, _, none⟩) hgz).trans HCE.out
                                           rw [HXY.out])
                                        | go_in)
                                      go_roundw
                                      case rel => exact ⟨k + 1, _, by omega, by go_num, by rw [HST.out, HDD.out]; simp, hat9⟩
                                      case measure => simp [intOf]; omega
                                    · have HXY : Hid (decide (x.v = y.v) = false) := Lib.hid (decide_eq_false hvv)
                                      have HDD : Hid (dI a.ds b.ds q = some ⟨5, q⟩) := Lib.hid (by unfold dI; rw [hfa, hfb]; simp only []; rw [if_neg hvv])
                                      clear hfa hfb hvv
                                      go_wp2_with (first
                                        | (go_at_call 22
                                           refine (refEqual_any x.v y.v _ _ _ ((HV1.out.below HBY.out.bel).more HBY.out.bel.size) ((HV2.out.below HBY.out.bel).more HBY.out.bel.size)).mono ?_
                                           rintro e w9 ⟨rfl, hb9⟩
                                           have hat9 := HRO.out.next hb9
                                           have hc9 := (hb9.cell (p := ⟨gk, _, none⟩) hgz).trans HCE.out
                                           rw [HXY.out])
                                        | (at_builtin
                                           refine wpList_append_own_at _ rfl _ _ 37 rfl w5.heap.size 41 i1 (.agg #[.int .i64 0, .string ⟨#[]⟩]) 2 24 Tryz.underlying37 hi hz0 hz1 hz2 rfl (by decide) _ _ _ rfl (hat9.alloc _).own ⟨w9.heap.size, 0, none⟩ 1 1 [.int .i64 5, .string q] rfl rfl (news2 _ _ _ _) (by simp [Value.oneCell']) (by unfold maxLen; omega) (by omega) (hat9.alloc _).bel.size ?_
                                           intro v' w3 hown' hgrow hnil hloc)
                                        | go_in)
                                      go_roundw
                                      case rel => exact ⟨k + 1, _, by omega, by go_num, by rw [HST.out, HDD.out]; rfl, (hat9.alloc _).put (d := ⟨5, q⟩) hown' hgrow⟩
                                      case measure => simp [intOf]; omega
                        · obtain rfl : mi = k := by omega
                          have hend : dd = differ a b := by
                            rw [← hds, List.take_of_length_le (by rw [HNI.out]; exact Nat.le_refl _), HDA.out]
                            unfold differ
                            rw [← HEQ.out, ← HEI.out]
                          have HEND := Lib.hid hend
                          clear hend hds
                          go_wp2
                          go_ret
                          exact ⟨_, rfl, bel_next HBX.out.bel hro.bel, _, by rw [← HEND.out]; exact hro.own⟩
end Go.Proofs.YtbjmakigdglghaaGreatDoor.Dd
