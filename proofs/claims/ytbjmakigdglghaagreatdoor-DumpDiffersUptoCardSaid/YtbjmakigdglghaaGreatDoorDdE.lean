/- THE CONTRACT of Differ. -/
import Derived.Test.YtbjmakigdglghaaGreatDoorDdD
import Derived.Test.YtbjmakigdglghaaGreatDoorDdC
set_option linter.unusedVariables false
set_option linter.unusedSimpArgs false
set_option linter.unusedSectionVars false
namespace Go.Proofs.YtbjmakigdglghaaGreatDoor.Dd
set_option linter.unusedVariables false
open Go.RowKit
attribute [local go_sem ↓] Go.wp_at_zero Go.wp_at_succ
open Classical in
set_option maxRecDepth 100000 in
set_option maxHeartbeats 8000000 in
theorem differ_any (w : World) (a b : Sn) (ca cb : List Value) (ha : SnR w w.heap.size a ca) (hb : SnR w w.heap.size b cb) :
    Calls Tryz.prog 13 #[.agg ca.toArray, .agg cb.toArray] w fun e w' => ∃ v, e = .returned v ∧ Below w.heap.size w w' ∧ w'.ownsRow w.heap.size 41 2 v (differ a b).length (dcells (differ a b)) := by
  obtain ⟨A, c, A', c', rfl, hc, hd⟩ := ha
  obtain ⟨A2, c2, A2', c2', rfl, hc2, hd2⟩ := hb
  obtain ⟨s, hs⟩ : ∃ q, a.s = q := ⟨_, rfl⟩
  obtain ⟨s2, hs2⟩ : ∃ q, b.s = q := ⟨_, rfl⟩
  obtain ⟨n, hn⟩ : ∃ q, a.cs.length = q := ⟨_, rfl⟩
  obtain ⟨n', hn'⟩ : ∃ q, a.ds.length = q := ⟨_, rfl⟩
  obtain ⟨n2, hn2⟩ : ∃ q, b.cs.length = q := ⟨_, rfl⟩
  obtain ⟨n2', hn2'⟩ : ∃ q, b.ds.length = q := ⟨_, rfl⟩
  rw [hs, hn, hn']
  rw [hs2, hn2, hn2']
  have m1 : n ≤ 1048576 := by rw [← hn]; exact hc.1
  have m2 : n2 ≤ 1048576 := by rw [← hn2]; exact hc2.1
  have m3 : n' ≤ 1048576 := by rw [← hn']; exact hd.1
  have m4 : n2' ≤ 1048576 := by rw [← hn2']; exact hd2.1
  have HN := Lib.hid hn
  have HN2 := Lib.hid hn2
  have HN' := Lib.hid hn'
  have HN2' := Lib.hid hn2'
  have HC := Lib.hid hc
  have HC2 := Lib.hid hc2
  have HD := Lib.hid hd
  have HD2 := Lib.hid hd2
  obtain ⟨i1, hi, hz0, hz1, hz2⟩ := info_parts info41
  clear hs hs2 hn hn' hn2 hn2' hc hc2 hd hd2
  go_enter Tryz.func13, Tryz.ntmps13
  go_upto_region 3 with fail
  have hb0 : Below w.heap.size w ((w.alloc (.cells #[.int .i64 s, .slice A n c, .slice A' n' c'] 25)).alloc (.cells #[.int .i64 s2, .slice A2 n2 c2, .slice A2' n2' c2'] 25)) := ((Below.refl _ _).alloc (Nat.le_refl _) _).alloc (by simp) _
  have HB0 := Lib.hid (bel_drewN hb0 1)
  have HH0 : Hid (Hold ((w.alloc (.cells #[.int .i64 s, .slice A n c, .slice A' n' c'] 25)).alloc (.cells #[.int .i64 s2, .slice A2 n2 c2, .slice A2' n2' c2'] 25)) [(w.heap.size, .cells #[.int .i64 s, .slice A n c, .slice A' n' c'] 25), (w.heap.size + 1, .cells #[.int .i64 s2, .slice A2 n2 c2, .slice A2' n2' c2'] 25)]) := Lib.hid (((Hold.nil _).cons (p := (w.heap.size + 1, _)) (by simpa using heap_alloc_new (w.alloc _) _)).cons (p := (w.heap.size, _)) (((Hold.nil _).cons (p := (w.heap.size, _)) (heap_alloc_new w _)).alloc _).head)
  clear hb0
  go_cut [7, 8] (fun m1 m2 wr => Df1 w a b (.cells #[.int .i64 s, .slice A n c, .slice A' n' c'] 25) (.cells #[.int .i64 s2, .slice A2 n2 c2, .slice A2' n2' c2'] 25) m1 m2 wr)
  case first =>
    go_region_with (first
      | (go_at_call_of 28 (Value.slice A n c)
         refine (firsts_C _ w w.heap.size A n c a.cs HN.out ?_).mono ?_
         (first | exact Lst.at_ HC.out HB0.out | exact Lst.at_ HC.out hB2)
         rintro e w1 ⟨rfl, hb1, e1, hM1, hF1⟩
         obtain ⟨hc1, hf1⟩ := bcell hb1
         have hB1 := bel_next (by first | exact HB0.out | exact hB2) hb1)
      | (go_at_call_of 28 (Value.slice A2 n2 c2)
         refine (firsts_C _ w w.heap.size A2 n2 c2 b.cs HN2.out ?_).mono ?_
         (first | exact Lst.at_ HC2.out HB0.out | exact Lst.at_ HC2.out hB1)
         rintro e w2 ⟨rfl, hb2, e2, hM2, hF2⟩
         obtain ⟨hc2, hf2⟩ := bcell hb2
         have hB2 := bel_next (by first | exact HB0.out | exact hB1) hb2))
    all_goals (go_wp2_with fail; go_meet)
    all_goals first
      | exact ⟨_, _, e1, e2, rfl, rfl, hB2, by omega, hB1.size, by simpa using hM1.below hb2 hM1.lt, hM2, hF1, hF2, ((HH0.out.drew.next hb1).next hb2).head, ((HH0.out.drew.next hb1).next hb2).tail.head⟩
      | exact ⟨_, _, e1, e2, rfl, rfl, hB1, hB2.size, by omega, hM1, by simpa using hM2.below hb1 hM2.lt, hF1, hF2, ((HH0.out.drew.next hb2).next hb1).head, ((HH0.out.drew.next hb2).next hb1).tail.head⟩
  case rest =>
    clear HB0 HH0
    obtain ⟨b1, b2, e1, e2, rfl, rfl, hbw, hb1, hb2, hM1, hM2, hF1, hF2, hA0, hB0⟩ := hcut
    have hkk := keysOf_eq hF1 hF2
    obtain ⟨ks, hks⟩ : ∃ ks, keysOf e1 e2 = ks := ⟨_, rfl⟩
    have HK0 := Lib.hid (hkk.symm.trans hks)
    have hkc := keys_C wc w w.heap.size a.cs b1 b2 e1 e2 hM1 hM2 hF1 (Nat.le_trans hF1.len HC.out.1) (Nat.le_trans hF2.len HC2.out.1)
    rw [hks] at hkc
    have HKC := Lib.hid hkc
    have HF1 := Lib.hid hF1
    have HF2 := Lib.hid hF2
    have hkm : ks.length ≤ 2097152 := by
      rw [← hks, hkk]
      refine Nat.le_trans (uni_len _) ?_
      rw [List.length_append, List.length_map, List.length_map]
      have := HN.out
      have := HN2.out
      omega
    have HB := Lib.hid hbw
    have H0 : Hid (Hold wc [(w.heap.size, .cells #[.int .i64 s, .slice A n c, .slice A' n' c'] 25), (w.heap.size + 1, .cells #[.int .i64 s2, .slice A2 n2 c2, .slice A2' n2' c2'] 25), (b1, .map (ents e1 0).toArray e1.length), (b2, .map (ents e2 0).toArray e2.length)]) :=
      Lib.hid (((((Hold.nil wc).cons (p := (b2, _)) hM2).cons (p := (b1, _)) hM1).cons (p := (w.heap.size + 1, _)) hB0).cons (p := (w.heap.size, _)) hA0)
    clear hkk hks hkc hM1 hM2 hF1 hF2 hA0 hB0 hbw
    go_wp2_with (first
      | (go_at_call 29
         refine HKC.out.mono ?_
         rintro e w1 ⟨v, rfl, hb9, hown9⟩
         obtain ⟨Ak, ck, Lk, rfl, hLk, hKI, hap, hbase⟩ := keys_in hown9
         have HB9 := Lib.hid hb9
         have HLK := Lib.hid hLk
         have HKI := Lib.hid hKI
         have HAP := Lib.hid hap
         obtain ⟨nk, hnk⟩ : ∃ q, ks.length = q := ⟨_, rfl⟩
         rw [hnk] at hkm
         have HNK := Lib.hid hnk
         rw [hnk]
         clear hb9 hown9 hLk hKI hap hbase hnk)
      | go_in)
    have HB1 := Lib.hid (bel_next HB.out HB9.out)
    obtain ⟨L, hL⟩ : ∃ L, ([(w.heap.size, Obj.cells #[.int .i64 s, .slice A n c, .slice A' n' c'] 25), (w.heap.size + 1, Obj.cells #[.int .i64 s2, .slice A2 n2 c2, .slice A2' n2' c2'] 25), (b1, Obj.map (ents e1 0).toArray e1.length), (b2, Obj.map (ents e2 0).toArray e2.length)] ++ Lk) = L := ⟨_, rfl⟩
    have HL : Hid (L.all (fun p => apart1 41 p.2) = true) := Lib.hid (by rw [← hL, List.all_append, HAP.out]; simp [apart1])
    have HE1 : Hid ((w.heap.size, Obj.cells #[.int .i64 s, .slice A n c, .slice A' n' c'] 25) ∈ L) := Lib.hid (by rw [← hL]; simp)
    have HE2 : Hid ((w.heap.size + 1, Obj.cells #[.int .i64 s2, .slice A2 n2 c2, .slice A2' n2' c2'] 25) ∈ L) := Lib.hid (by rw [← hL]; simp)
    have HE3 : Hid ((b1, Obj.map (ents e1 0).toArray e1.length) ∈ L) := Lib.hid (by rw [← hL]; simp)
    have HE4 : Hid ((b2, Obj.map (ents e2 0).toArray e2.length) ∈ L) := Lib.hid (by rw [← hL]; simp)
    have HKL : Hid (KeysIn L Ak nk ks) := Lib.hid (by rw [← HNK.out]; exact HKI.out.mono fun p hp => by rw [← hL]; exact List.mem_append_right _ hp)
    have H5 : Hid (At5 w w1 L (.slice none 0 0) []) := Lib.hid ⟨HB1.out, by rw [← hL]; exact (H0.out.next HB9.out).append HLK.out, Nat.lt_of_lt_of_le (lt_of_some H0.out.head) HB9.out.size, ⟨by simp [dcells], .inl ⟨rfl, rfl⟩⟩⟩
    clear hL HAP HKI HLK HKC H0 HB9 HB HB1
    go_loopw [5, 36] (fun v i wr => ∃ k ds, k ≤ nk ∧ i = .int .i64 k ∧ ((ks.take k).map ub).filterMap (dC a.cs b.cs) = ds ∧ At5 w wr L v ds) (fun _ i _ => nk - (intOf i).toNat)
    case atStart => exact ⟨0, [], Nat.zero_le _, rfl, rfl, H5.out⟩
    case round =>
      clear H5
      obtain ⟨k, ds, hk, rfl, hds, hat⟩ := hrel
      have HAT := Lib.hid hat
      have HDS := Lib.hid hds
      by_cases hlt : k < nk
      · obtain ⟨gk, rfl, hgk, hk', hcell⟩ := HKL.out.cell hat.hold hlt
        obtain ⟨q, hq⟩ : ∃ q, ub ks[k] = q := ⟨_, rfl⟩
        rw [hq] at hcell
        have hst := take_filterMap (dC a.cs b.cs) (ks.map ub) (k := k) (by simpa using hk')
        rw [List.getElem_map, hq, ← List.map_take, ← List.map_take, hds] at hst
        have HST := Lib.hid hst
        have HM1 : Hid (MAt wr b1 e1) := Lib.hid (hat.hold _ HE3.out)
        have HM2 : Hid (MAt wr b2 e2) := Lib.hid (hat.hold _ HE4.out)
        have hsz := hat.size
        have hdl : ds.length ≤ 2097152 := by
          rw [← hds]
          exact Nat.le_trans (List.length_filterMap_le _ _) (by rw [List.length_map, List.length_take]; exact Nat.le_trans (Nat.min_le_left _ _) (Nat.le_trans hk hkm))
        have hgk2 : gk ≠ wr.heap.size := by omega
        clear hds hst hq hat hk'
        cases hfa : fnd (fun x : C => x.n) a.cs q with
        | none =>
          have HL1 := Lib.hid (HF1.out.none_ q hfa)
          cases hfb : fnd (fun x : C => x.n) b.cs q with
          | none =>
            have HL2 := Lib.hid (HF2.out.none_ q hfb)
            have HD : Hid (dC a.cs b.cs q = some ⟨1, q⟩) := Lib.hid (by unfold dC; rw [hfa])
            clear hfa hfb
            go_wp2_with (first
              | (at_lookup
                 refine wpList_look _ rfl _ _ 79 rfl 9 70 Tryz.underlying79 Tryz.underlying9 zC (zero_C _) b1 e1 rfl (by first | exact HM1.out | exact HM1.out.alloc _) q rfl (none) HL1.out ?_
                 simp only [Option.getD_none, Option.isSome_none, zC])
              | (at_lookup
                 refine wpList_look _ rfl _ _ 79 rfl 9 70 Tryz.underlying79 Tryz.underlying9 zC (zero_C _) b2 e2 rfl (by first | exact HM2.out | exact HM2.out.alloc _) q rfl (none) HL2.out ?_
                 simp only [Option.getD_none, Option.isSome_none, zC])
              | (at_builtin
                 refine wpList_append_own_at _ rfl _ _ 37 rfl w.heap.size 41 i1 (.agg #[.int .i64 0, .string ⟨#[]⟩]) 2 24 Tryz.underlying37 hi hz0 hz1 hz2 rfl (by decide) _ _ _ rfl (((HAT.out.alloc _).alloc _).alloc _).own ⟨wr.heap.size + 1 + 1, 0, none⟩ 1 1 [.int .i64 1, .string q] rfl rfl (news2c _ _ _ _ _ _) (by simp [Value.oneCell']) (by unfold maxLen; omega) (by omega) (Nat.le_of_lt (((HAT.out.alloc _).alloc _).alloc _).size) ?_
                 intro v' w3 hown' hgrow hnil hloc)
              | go_in)
            go_roundw
            case rel => exact ⟨k + 1, _, by omega, by go_num, by rw [HST.out, HD.out]; rfl, (((HAT.out.alloc _).alloc _).alloc _).put (d := ⟨1, q⟩) HL.out hown' hgrow⟩
            case measure => simp [intOf]; omega
          | some y =>
            obtain ⟨cs2, hl2, hR2⟩ := HF2.out.some_ q y hfb
            obtain ⟨y0, y1, y2, y3, y4, y5, y6, y7, y8, y9, y10, y11, y12, y13, rfl, hv2, hs2⟩ := hR2.parts
            rw [fnd_key hfb] at hl2
            obtain ⟨my, hmy⟩ : ∃ q, y.m = q := ⟨_, rfl⟩
            rw [hmy] at hl2
            obtain ⟨ly, hly⟩ : ∃ q, y.ss.length = q := ⟨_, rfl⟩
            rw [hly] at hl2
            have HLL2 := Lib.hid hly
            have HMM2 := Lib.hid hmy
            have HSS2 := Lib.hid hs2
            clear hly hmy hs2
            have HL2 := Lib.hid hl2
            have HV2 := Lib.hid hv2
            clear hl2 hv2 hR2
            have HD : Hid (dC a.cs b.cs q = some ⟨1, q⟩) := Lib.hid (by unfold dC; rw [hfa, hfb])
            clear hfa hfb
            go_wp2_with (first
              | (at_lookup
                 refine wpList_look _ rfl _ _ 79 rfl 9 70 Tryz.underlying79 Tryz.underlying9 zC (zero_C _) b1 e1 rfl (by first | exact HM1.out | exact HM1.out.alloc _) q rfl (none) HL1.out ?_
                 simp only [Option.getD_none, Option.isSome_none, zC])
              | (at_lookup
                 refine wpList_look _ rfl _ _ 79 rfl 9 70 Tryz.underlying79 Tryz.underlying9 zC (zero_C _) b2 e2 rfl (by first | exact HM2.out | exact HM2.out.alloc _) q rfl (some _) HL2.out ?_
                 simp only [Option.getD_some, Option.isSome_some])
              | (at_builtin
                 refine wpList_append_own_at _ rfl _ _ 37 rfl w.heap.size 41 i1 (.agg #[.int .i64 0, .string ⟨#[]⟩]) 2 24 Tryz.underlying37 hi hz0 hz1 hz2 rfl (by decide) _ _ _ rfl (((HAT.out.alloc _).alloc _).alloc _).own ⟨wr.heap.size + 1 + 1, 0, none⟩ 1 1 [.int .i64 1, .string q] rfl rfl (news2c _ _ _ _ _ _) (by simp [Value.oneCell']) (by unfold maxLen; omega) (by omega) (Nat.le_of_lt (((HAT.out.alloc _).alloc _).alloc _).size) ?_
                 intro v' w3 hown' hgrow hnil hloc)
              | go_in)
            go_roundw
            case rel => exact ⟨k + 1, _, by omega, by go_num, by rw [HST.out, HD.out]; rfl, (((HAT.out.alloc _).alloc _).alloc _).put (d := ⟨1, q⟩) HL.out hown' hgrow⟩
            case measure => simp [intOf]; omega
        | some x =>
          obtain ⟨cs1, hl1, hR1⟩ := HF1.out.some_ q x hfa
          obtain ⟨x0, x1, x2, x3, x4, x5, x6, x7, x8, x9, x10, x11, x12, x13, rfl, hv1, hs1⟩ := hR1.parts
          rw [fnd_key hfa] at hl1
          obtain ⟨mx, hmx⟩ : ∃ q, x.m = q := ⟨_, rfl⟩
          rw [hmx] at hl1
          obtain ⟨lx, hlx⟩ : ∃ q, x.ss.length = q := ⟨_, rfl⟩
          rw [hlx] at hl1
          have HLL1 := Lib.hid hlx
          have HMM1 := Lib.hid hmx
          have HSS1 := Lib.hid hs1
          clear hlx hmx hs1
          have HL1 := Lib.hid hl1
          have HV1 := Lib.hid hv1
          clear hl1 hv1 hR1
          cases hfb : fnd (fun x : C => x.n) b.cs q with
          | none =>
            have HL2 := Lib.hid (HF2.out.none_ q hfb)
            have HD : Hid (dC a.cs b.cs q = some ⟨1, q⟩) := Lib.hid (by unfold dC; rw [hfa, hfb])
            clear hfa hfb
            go_wp2_with (first
              | (at_lookup
                 refine wpList_look _ rfl _ _ 79 rfl 9 70 Tryz.underlying79 Tryz.underlying9 zC (zero_C _) b1 e1 rfl (by first | exact HM1.out | exact HM1.out.alloc _) q rfl (some _) HL1.out ?_
                 simp only [Option.getD_some, Option.isSome_some])
              | (at_lookup
                 refine wpList_look _ rfl _ _ 79 rfl 9 70 Tryz.underlying79 Tryz.underlying9 zC (zero_C _) b2 e2 rfl (by first | exact HM2.out | exact HM2.out.alloc _) q rfl (none) HL2.out ?_
                 simp only [Option.getD_none, Option.isSome_none, zC])
              | (at_builtin
                 refine wpList_append_own_at _ rfl _ _ 37 rfl w.heap.size 41 i1 (.agg #[.int .i64 0, .string ⟨#[]⟩]) 2 24 Tryz.underlying37 hi hz0 hz1 hz2 rfl (by decide) _ _ _ rfl (((HAT.out.alloc _).alloc _).alloc _).own ⟨wr.heap.size + 1 + 1, 0, none⟩ 1 1 [.int .i64 1, .string q] rfl rfl (news2c _ _ _ _ _ _) (by simp [Value.oneCell']) (by unfold maxLen; omega) (by omega) (Nat.le_of_lt (((HAT.out.alloc _).alloc _).alloc _).size) ?_
                 intro v' w3 hown' hgrow hnil hloc)
              | go_in)
            go_roundw
            case rel => exact ⟨k + 1, _, by omega, by go_num, by rw [HST.out, HD.out]; rfl, (((HAT.out.alloc _).alloc _).alloc _).put (d := ⟨1, q⟩) HL.out hown' hgrow⟩
            case measure => simp [intOf]; omega
          | some y =>
            obtain ⟨cs2, hl2, hR2⟩ := HF2.out.some_ q y hfb
            obtain ⟨y0, y1, y2, y3, y4, y5, y6, y7, y8, y9, y10, y11, y12, y13, rfl, hv2, hs2⟩ := hR2.parts
            rw [fnd_key hfb] at hl2
            obtain ⟨my, hmy⟩ : ∃ q, y.m = q := ⟨_, rfl⟩
            rw [hmy] at hl2
            obtain ⟨ly, hly⟩ : ∃ q, y.ss.length = q := ⟨_, rfl⟩
            rw [hly] at hl2
            have HLL2 := Lib.hid hly
            have HMM2 := Lib.hid hmy
            have HSS2 := Lib.hid hs2
            clear hly hmy hs2
            have HL2 := Lib.hid hl2
            have HV2 := Lib.hid hv2
            clear hl2 hv2 hR2
            by_cases hmm : mx = my
            · subst hmm
              have hmi : (mx == mx) = true := by simp
              by_cases hvv : x.v = y.v
              · have HXY : Hid (decide (x.v = y.v) = true) := Lib.hid (decide_eq_true hvv)
                by_cases hse : x.ss = y.ss
                · have HSE : Hid (decide (x.ss = y.ss) = true) := Lib.hid (decide_eq_true hse)
                  have HD : Hid (dC a.cs b.cs q = none) := Lib.hid (by unfold dC; rw [hfa, hfb]; simp only []; rw [if_pos ⟨HMM1.out.trans HMM2.out.symm, hvv⟩, if_pos hse])
                  clear hfa hfb hvv hse
                  go_wp2_with (first
                    | (at_lookup
                       refine wpList_look _ rfl _ _ 79 rfl 9 70 Tryz.underlying79 Tryz.underlying9 zC (zero_C _) b1 e1 rfl (by first | exact HM1.out | exact HM1.out.alloc _) q rfl (some _) HL1.out ?_
                       simp only [Option.getD_some, Option.isSome_some])
                    | (at_lookup
                       refine wpList_look _ rfl _ _ 79 rfl 9 70 Tryz.underlying79 Tryz.underlying9 zC (zero_C _) b2 e2 rfl (by first | exact HM2.out | exact HM2.out.alloc _) q rfl (some _) HL2.out ?_
                       simp only [Option.getD_some, Option.isSome_some])
                    | (go_at_call 30
                       refine (equal_any x.v y.v _ _ _ ((HV1.out.below ((HAT.out.alloc _).alloc _).bel).more ((HAT.out.alloc _).alloc _).bel.size) ((HV2.out.below ((HAT.out.alloc _).alloc _).bel).more ((HAT.out.alloc _).alloc _).bel.size)).mono ?_
                       rintro e w9 ⟨rfl, hb9⟩
                       obtain ⟨hc9, hf9⟩ := bcell hb9
                       have hat9 := ((HAT.out.alloc _).alloc _).next hb9
                       have hsz9 := hb9.size
                       simp only [World.size_alloc] at hsz9
                       rw [HXY.out])
                    | (go_at_call 31
                       refine (eqSpecs _ _ _ _ _ _ _ x.ss y.ss HLL1.out HLL2.out (Lst.at_ HSS1.out hat9.bel) (Lst.at_ HSS2.out hat9.bel)).mono ?_
                       rintro e w10 ⟨rfl, jj, rfl⟩
                       rw [HSE.out])
                    | go_in)
                  go_roundw
                  case rel => exact ⟨k + 1, _, by omega, by go_num, by rw [HST.out, HD.out]; simp, hat9.drewN _⟩
                  case measure => simp [intOf]; omega
                · have HSE : Hid (decide (x.ss = y.ss) = false) := Lib.hid (decide_eq_false hse)
                  have HD : Hid (dC a.cs b.cs q = some ⟨2, q⟩) := Lib.hid (by unfold dC; rw [hfa, hfb]; simp only []; rw [if_pos ⟨HMM1.out.trans HMM2.out.symm, hvv⟩, if_neg hse])
                  clear hfa hfb hvv hse
                  go_wp2_with (first
                    | (at_lookup
                       refine wpList_look _ rfl _ _ 79 rfl 9 70 Tryz.underlying79 Tryz.underlying9 zC (zero_C _) b1 e1 rfl (by first | exact HM1.out | exact HM1.out.alloc _) q rfl (some _) HL1.out ?_
                       simp only [Option.getD_some, Option.isSome_some])
                    | (at_lookup
                       refine wpList_look _ rfl _ _ 79 rfl 9 70 Tryz.underlying79 Tryz.underlying9 zC (zero_C _) b2 e2 rfl (by first | exact HM2.out | exact HM2.out.alloc _) q rfl (some _) HL2.out ?_
                       simp only [Option.getD_some, Option.isSome_some])
                    | (go_at_call 30
                       refine (equal_any x.v y.v _ _ _ ((HV1.out.below ((HAT.out.alloc _).alloc _).bel).more ((HAT.out.alloc _).alloc _).bel.size) ((HV2.out.below ((HAT.out.alloc _).alloc _).bel).more ((HAT.out.alloc _).alloc _).bel.size)).mono ?_
                       rintro e w9 ⟨rfl, hb9⟩
                       obtain ⟨hc9, hf9⟩ := bcell hb9
                       have hat9 := ((HAT.out.alloc _).alloc _).next hb9
                       have hsz9 := hb9.size
                       simp only [World.size_alloc] at hsz9
                       rw [HXY.out])
                    | (go_at_call 31
                       refine (eqSpecs _ _ _ _ _ _ _ x.ss y.ss HLL1.out HLL2.out (Lst.at_ HSS1.out hat9.bel) (Lst.at_ HSS2.out hat9.bel)).mono ?_
                       rintro e w10 ⟨rfl, jj, rfl⟩
                       rw [HSE.out])
                    | (at_builtin
                       refine wpList_append_own_at _ rfl _ _ 37 rfl w.heap.size 41 i1 (.agg #[.int .i64 0, .string ⟨#[]⟩]) 2 24 Tryz.underlying37 hi hz0 hz1 hz2 rfl (by decide) _ _ _ rfl ((hat9.drewN _).alloc _).own ⟨w9.heap.size, 0, none⟩ 1 1 [.int .i64 2, .string q] rfl rfl (by first | exact news2 _ _ _ _ | exact news2d _ _ _ _ _) (by simp [Value.oneCell']) (by unfold maxLen; omega) (by omega) (Nat.le_of_lt ((hat9.drewN _).alloc _).size) ?_
                       intro v' w3 hown' hgrow hnil hloc)
                    | go_in)
                  go_roundw
                  case rel => exact ⟨k + 1, _, by omega, by go_num, by rw [HST.out, HD.out]; rfl, ((hat9.drewN _).alloc _).put (d := ⟨2, q⟩) HL.out hown' hgrow⟩
                  case measure => simp [intOf]; omega
              · have HXY : Hid (decide (x.v = y.v) = false) := Lib.hid (decide_eq_false hvv)
                have HD : Hid (dC a.cs b.cs q = some ⟨1, q⟩) := Lib.hid (by unfold dC; rw [hfa, hfb]; simp only []; rw [if_neg fun e => hvv e.2])
                clear hfa hfb hvv
                go_wp2_with (first
                  | (at_lookup
                     refine wpList_look _ rfl _ _ 79 rfl 9 70 Tryz.underlying79 Tryz.underlying9 zC (zero_C _) b1 e1 rfl (by first | exact HM1.out | exact HM1.out.alloc _) q rfl (some _) HL1.out ?_
                     simp only [Option.getD_some, Option.isSome_some])
                  | (at_lookup
                     refine wpList_look _ rfl _ _ 79 rfl 9 70 Tryz.underlying79 Tryz.underlying9 zC (zero_C _) b2 e2 rfl (by first | exact HM2.out | exact HM2.out.alloc _) q rfl (some _) HL2.out ?_
                     simp only [Option.getD_some, Option.isSome_some])
                  | (go_at_call 30
                     refine (equal_any x.v y.v _ _ _ ((HV1.out.below ((HAT.out.alloc _).alloc _).bel).more ((HAT.out.alloc _).alloc _).bel.size) ((HV2.out.below ((HAT.out.alloc _).alloc _).bel).more ((HAT.out.alloc _).alloc _).bel.size)).mono ?_
                     rintro e w9 ⟨rfl, hb9⟩
                     obtain ⟨hc9, hf9⟩ := bcell hb9
                     have hat9 := ((HAT.out.alloc _).alloc _).next hb9
                     have hsz9 := hb9.size
                     simp only [World.size_alloc] at hsz9
                     rw [HXY.out])
                  | (at_builtin
                     refine wpList_append_own_at _ rfl _ _ 37 rfl w.heap.size 41 i1 (.agg #[.int .i64 0, .string ⟨#[]⟩]) 2 24 Tryz.underlying37 hi hz0 hz1 hz2 rfl (by decide) _ _ _ rfl (hat9.alloc _).own ⟨w9.heap.size, 0, none⟩ 1 1 [.int .i64 1, .string q] rfl rfl (news2 _ _ _ _) (by simp [Value.oneCell']) (by unfold maxLen; omega) (by omega) (Nat.le_of_lt (hat9.alloc _).size) ?_
                     intro v' w3 hown' hgrow hnil hloc)
                  | go_in)
                go_roundw
                case rel => exact ⟨k + 1, _, by omega, by go_num, by rw [HST.out, HD.out]; rfl, (hat9.alloc _).put (d := ⟨1, q⟩) HL.out hown' hgrow⟩
                case measure => simp [intOf]; omega
            · have hmi : (mx == my) = false := by simp [hmm]
              have HD : Hid (dC a.cs b.cs q = some ⟨1, q⟩) := Lib.hid (by unfold dC; rw [hfa, hfb]; simp only []; rw [if_neg fun e => hmm (HMM1.out.symm.trans (e.1.trans HMM2.out))])
              clear hfa hfb
              go_wp2_with (first
                | (at_lookup
                   refine wpList_look _ rfl _ _ 79 rfl 9 70 Tryz.underlying79 Tryz.underlying9 zC (zero_C _) b1 e1 rfl (by first | exact HM1.out | exact HM1.out.alloc _) q rfl (some _) HL1.out ?_
                   simp only [Option.getD_some, Option.isSome_some])
                | (at_lookup
                   refine wpList_look _ rfl _ _ 79 rfl 9 70 Tryz.underlying79 Tryz.underlying9 zC (zero_C _) b2 e2 rfl (by first | exact HM2.out | exact HM2.out.alloc _) q rfl (some _) HL2.out ?_
                   simp only [Option.getD_some, Option.isSome_some])
                | (at_builtin
                   refine wpList_append_own_at _ rfl _ _ 37 rfl w.heap.size 41 i1 (.agg #[.int .i64 0, .string ⟨#[]⟩]) 2 24 Tryz.underlying37 hi hz0 hz1 hz2 rfl (by decide) _ _ _ rfl (((HAT.out.alloc _).alloc _).alloc _).own ⟨wr.heap.size + 1 + 1, 0, none⟩ 1 1 [.int .i64 1, .string q] rfl rfl (news2c _ _ _ _ _ _) (by simp [Value.oneCell']) (by unfold maxLen; omega) (by omega) (Nat.le_of_lt (((HAT.out.alloc _).alloc _).alloc _).size) ?_
                   intro v' w3 hown' hgrow hnil hloc)
                | go_in)
              go_roundw
              case rel => exact ⟨k + 1, _, by omega, by go_num, by rw [HST.out, HD.out]; rfl, (((HAT.out.alloc _).alloc _).alloc _).put (d := ⟨1, q⟩) HL.out hown' hgrow⟩
              case measure => simp [intOf]; omega
      · obtain rfl : k = nk := by omega
        have hda : ds = (ks.map ub).filterMap (dC a.cs b.cs) := by rw [← hds, List.take_of_length_le (by rw [HNK.out]; exact Nat.le_refl _)]
        have hdl : ds.length ≤ 2097152 := by
          rw [hda]
          exact Nat.le_trans (List.length_filterMap_le _ _) (by rw [List.length_map, HNK.out]; exact hkm)
        have HDA := Lib.hid hda
        have hca : wr.cell? ⟨w.heap.size, 2, none⟩ = some (.slice A' n' c') := cell_of_row wr w.heap.size 2 _ 25 (0, 0) (hat.hold _ HE1.out)
        have hcb : wr.cell? ⟨w.heap.size + 1, 2, none⟩ = some (.slice A2' n2' c2') := cell_of_row wr (w.heap.size + 1) 2 _ 25 (0, 0) (hat.hold _ HE2.out)
        have hsa : w.heap.size < wr.heap.size := hat.size
        have hsb : w.heap.size + 1 < wr.heap.size := hat.hold.lt HE2.out
        have HBW := Lib.hid (bel_drewN hat.bel 1)
        clear hds hda hat HDS HE3 HE4 HE1 HE2 HF1 HF2 HKL
        go_upto_region 15 with fail
        go_cut [16, 17] (fun m1 m2 wz => Df2 w a b L u5 ds m1 m2 wz)
        case first =>
          go_region_with (first
            | (go_at_call_of 33 (Value.slice A' n' c')
               refine (firsts_I _ w w.heap.size A' n' c' a.ds HN'.out ?_).mono ?_
               (first | exact Lst.at_ HD.out HBW.out | exact Lst.at_ HD.out hB2)
               rintro e w1 ⟨rfl, hb1, e1, hM1, hF1⟩
               have hx1 : w1.cell? ⟨w.heap.size + 1, 2, none⟩ = some (.slice A2' n2' c2') := (hb1.cell (p := ⟨w.heap.size + 1, 2, none⟩) (by first | exact hsb | exact Nat.lt_of_lt_of_le hsb hb2.size)).trans (by first | exact hcb | exact hx3)
               have hx2 : w1.cell? ⟨w.heap.size, 2, none⟩ = some (.slice A' n' c') := (hb1.cell (p := ⟨w.heap.size, 2, none⟩) (by first | exact hsa | exact Nat.lt_of_lt_of_le hsa hb2.size)).trans (by first | exact hca | exact hx4)
               have hB1 := bel_next (by first | exact HBW.out | exact hB2) hb1)
            | (go_at_call_of 33 (Value.slice A2' n2' c2')
               refine (firsts_I _ w w.heap.size A2' n2' c2' b.ds HN2'.out ?_).mono ?_
               (first | exact Lst.at_ HD2.out HBW.out | exact Lst.at_ HD2.out hB1)
               rintro e w2 ⟨rfl, hb2, e2, hM2, hF2⟩
               have hx3 : w2.cell? ⟨w.heap.size + 1, 2, none⟩ = some (.slice A2' n2' c2') := (hb2.cell (p := ⟨w.heap.size + 1, 2, none⟩) (by first | exact hsb | exact Nat.lt_of_lt_of_le hsb hb1.size)).trans (by first | exact hcb | exact hx1)
               have hx4 : w2.cell? ⟨w.heap.size, 2, none⟩ = some (.slice A' n' c') := (hb2.cell (p := ⟨w.heap.size, 2, none⟩) (by first | exact hsa | exact Nat.lt_of_lt_of_le hsa hb1.size)).trans (by first | exact hca | exact hx2)
               have hB2 := bel_next (by first | exact HBW.out | exact hB1) hb2))
          all_goals (go_wp2_with fail; go_meet)
          all_goals first
            | exact ⟨_, _, e1, e2, rfl, rfl, ((HAT.out.drewN 1).next hb1).next hb2, by simpa using hM1.below hb2 hM1.lt, hM2, hF1, hF2⟩
            | exact ⟨_, _, e1, e2, rfl, rfl, ((HAT.out.drewN 1).next hb2).next hb1, hM1, by simpa using hM2.below hb1 hM2.lt, hF1, hF2⟩
        case rest =>
          clear HAT HBW hca hcb hsa hsb HL HD HD2
          obtain ⟨b3, b4, e1, e2, rfl, rfl, hat, hM1, hM2, hF1, hF2⟩ := hcut
          have HAT := Lib.hid hat
          have hkk := keysOf_eq hF1 hF2
          obtain ⟨kt, hkt⟩ : ∃ kt, keysOf e1 e2 = kt := ⟨_, rfl⟩
          have HKT := Lib.hid (hkk.symm.trans hkt)
          have hkc := keys_I wc w w.heap.size a.ds b3 b4 e1 e2 hM1 hM2 hF1 (Nat.le_trans hF1.len (by rw [HN'.out]; exact m3)) (Nat.le_trans hF2.len (by rw [HN2'.out]; exact m4))
          rw [hkt] at hkc
          have HKC := Lib.hid hkc
          have HF1 := Lib.hid hF1
          have HF2 := Lib.hid hF2
          have hkn : kt.length ≤ 2097152 := by
            rw [← hkt, hkk]
            refine Nat.le_trans (uni_len _) ?_
            rw [List.length_append, List.length_map, List.length_map]
            have := HN'.out
            have := HN2'.out
            omega
          have HM1 := Lib.hid hM1
          have HM2 := Lib.hid hM2
          clear hkk hkt hkc hM1 hM2 hF1 hF2 hat
          go_wp2_with (first
            | (go_at_call 34
               refine HKC.out.mono ?_
               rintro e w9 ⟨v, rfl, hb9, hown9⟩
               obtain ⟨Ai, ci, Li, rfl, hLi, hKI, hap, hbase⟩ := keys_in hown9
               have HB9 := Lib.hid hb9
               have HLI := Lib.hid hLi
               have HKJ := Lib.hid hKI
               have HAP := Lib.hid hap
               obtain ⟨ni, hni⟩ : ∃ q, kt.length = q := ⟨_, rfl⟩
               rw [hni] at hkn
               have HNI := Lib.hid hni
               rw [hni]
               clear hb9 hown9 hLi hKI hap hbase hni)
            | go_in)
          obtain ⟨L2, hL2⟩ : ∃ L, ([(b3, Obj.map (ents e1 0).toArray e1.length), (b4, Obj.map (ents e2 0).toArray e2.length)] ++ Li) = L := ⟨_, rfl⟩
          have HL : Hid (L2.all (fun p => apart1 41 p.2) = true) := Lib.hid (by rw [← hL2, List.all_append, HAP.out]; simp [apart1])
          have HE3 : Hid ((b3, Obj.map (ents e1 0).toArray e1.length) ∈ L2) := Lib.hid (by rw [← hL2]; simp)
          have HE4 : Hid ((b4, Obj.map (ents e2 0).toArray e2.length) ∈ L2) := Lib.hid (by rw [← hL2]; simp)
          have HKL : Hid (KeysIn L2 Ai ni kt) := Lib.hid (by rw [← HNI.out]; exact HKJ.out.mono fun p hp => by rw [← hL2]; exact List.mem_append_right _ hp)
          have H5 : Hid (At5 w w9 L2 u5 ds) := Lib.hid ⟨(HAT.out.next HB9.out).bel, by rw [← hL2]; exact ((((Hold.nil wc).cons (p := (b4, _)) HM2.out).cons (p := (b3, _)) HM1.out).next HB9.out).append HLI.out, (HAT.out.next HB9.out).size, (HAT.out.next HB9.out).own⟩
          clear hL2 HAP HKJ HLI HKC HAT HB9 HM1 HM2
          go_loopw [5, 104] (fun v i wr => ∃ k dd, k ≤ ni ∧ i = .int .i64 k ∧ ds ++ ((kt.take k).map ub).filterMap (dI a.ds b.ds) = dd ∧ At5 w wr L2 v dd) (fun _ i _ => ni - (intOf i).toNat)
          case atStart => exact ⟨0, ds, Nat.zero_le _, rfl, by simp, H5.out⟩
          case round =>
            clear H5
            obtain ⟨k, dd, hk, rfl, hds, hat⟩ := hrel
            have HAT := Lib.hid hat
            have HDS := Lib.hid hds
            have hdl2 : dd.length ≤ 4194304 := by
              rw [← hds, List.length_append]
              have := List.length_filterMap_le (dI a.ds b.ds) ((kt.take k).map ub)
              rw [List.length_map, List.length_take] at this
              have := Nat.min_le_left k kt.length
              omega
            by_cases hlt : k < ni
            · obtain ⟨gk, rfl, hgk, hk', hcell⟩ := HKL.out.cell hat.hold hlt
              obtain ⟨q, hq⟩ : ∃ q, ub kt[k] = q := ⟨_, rfl⟩
              rw [hq] at hcell
              have hst := take_filterMap (dI a.ds b.ds) (kt.map ub) (k := k) (by simpa using hk')
              rw [List.getElem_map, hq, ← List.map_take, ← List.map_take] at hst
              have hst2 : ds ++ ((kt.take (k + 1)).map ub).filterMap (dI a.ds b.ds) = dd ++ (dI a.ds b.ds q).toList := by rw [hst, ← List.append_assoc, hds]
              have HST := Lib.hid hst2
              have HM1 : Hid (MAt wr b3 e1) := Lib.hid (hat.hold _ HE3.out)
              have HM2 : Hid (MAt wr b4 e2) := Lib.hid (hat.hold _ HE4.out)
              have hsz := hat.size
              have hgk2 : gk ≠ wr.heap.size := by omega
              clear hds hst hst2 hq hat hk'
              cases hfb : fnd (fun x : I => x.k) b.ds q with
              | none =>
                have HL2 := Lib.hid (HF2.out.none_ q hfb)
                cases hfa : fnd (fun x : I => x.k) a.ds q with
                | none =>
                  have HL1 := Lib.hid (HF1.out.none_ q hfa)
                  have HD : Hid (dI a.ds b.ds q = some ⟨3, q⟩) := Lib.hid (by unfold dI; rw [hfb])
                  clear hfa hfb
                  go_wp2_with (first
                    | (at_lookup
                       refine wpList_look _ rfl _ _ 86 rfl 9 75 Tryz.underlying86 Tryz.underlying9 zI (zero_I _) b3 e1 rfl (by first | exact HM1.out | exact HM1.out.alloc _) q rfl (none) HL1.out ?_
                       simp only [Option.getD_none, Option.isSome_none, zI])
                    | (at_lookup
                       refine wpList_look _ rfl _ _ 86 rfl 9 75 Tryz.underlying86 Tryz.underlying9 zI (zero_I _) b4 e2 rfl (by first | exact HM2.out | exact HM2.out.alloc _) q rfl (none) HL2.out ?_
                       simp only [Option.getD_none, Option.isSome_none, zI])
                    | (at_builtin
                       refine wpList_append_own_at _ rfl _ _ 37 rfl w.heap.size 41 i1 (.agg #[.int .i64 0, .string ⟨#[]⟩]) 2 24 Tryz.underlying37 hi hz0 hz1 hz2 rfl (by decide) _ _ _ rfl (((HAT.out.alloc _).alloc _).alloc _).own ⟨wr.heap.size + 1 + 1, 0, none⟩ 1 1 [.int .i64 3, .string q] rfl rfl (news2c _ _ _ _ _ _) (by simp [Value.oneCell']) (by unfold maxLen; omega) (by omega) (Nat.le_of_lt (((HAT.out.alloc _).alloc _).alloc _).size) ?_
                       intro v' w3 hown' hgrow hnil hloc)
                    | go_in)
                  go_roundw
                  case rel => exact ⟨k + 1, _, by omega, by go_num, by rw [HST.out, HD.out]; rfl, (((HAT.out.alloc _).alloc _).alloc _).put (d := ⟨3, q⟩) HL.out hown' hgrow⟩
                  case measure => simp [intOf]; omega
                | some x =>
                  obtain ⟨cs1, hl1, hR1⟩ := HF1.out.some_ q x hfa
                  obtain ⟨x0, x1, x2, x3, x4, x5, x6, x7, x8, x9, rfl, hv1⟩ := hR1.parts
                  rw [fnd_key hfa] at hl1
                  have HL1 := Lib.hid hl1
                  have HV1 := Lib.hid hv1
                  clear hl1 hv1 hR1
                  have HD : Hid (dI a.ds b.ds q = some ⟨3, q⟩) := Lib.hid (by unfold dI; rw [hfb])
                  clear hfa hfb
                  go_wp2_with (first
                    | (at_lookup
                       refine wpList_look _ rfl _ _ 86 rfl 9 75 Tryz.underlying86 Tryz.underlying9 zI (zero_I _) b3 e1 rfl (by first | exact HM1.out | exact HM1.out.alloc _) q rfl (some _) HL1.out ?_
                       simp only [Option.getD_some, Option.isSome_some])
                    | (at_lookup
                       refine wpList_look _ rfl _ _ 86 rfl 9 75 Tryz.underlying86 Tryz.underlying9 zI (zero_I _) b4 e2 rfl (by first | exact HM2.out | exact HM2.out.alloc _) q rfl (none) HL2.out ?_
                       simp only [Option.getD_none, Option.isSome_none, zI])
                    | (at_builtin
                       refine wpList_append_own_at _ rfl _ _ 37 rfl w.heap.size 41 i1 (.agg #[.int .i64 0, .string ⟨#[]⟩]) 2 24 Tryz.underlying37 hi hz0 hz1 hz2 rfl (by decide) _ _ _ rfl (((HAT.out.alloc _).alloc _).alloc _).own ⟨wr.heap.size + 1 + 1, 0, none⟩ 1 1 [.int .i64 3, .string q] rfl rfl (news2c _ _ _ _ _ _) (by simp [Value.oneCell']) (by unfold maxLen; omega) (by omega) (Nat.le_of_lt (((HAT.out.alloc _).alloc _).alloc _).size) ?_
                       intro v' w3 hown' hgrow hnil hloc)
                    | go_in)
                  go_roundw
                  case rel => exact ⟨k + 1, _, by omega, by go_num, by rw [HST.out, HD.out]; rfl, (((HAT.out.alloc _).alloc _).alloc _).put (d := ⟨3, q⟩) HL.out hown' hgrow⟩
                  case measure => simp [intOf]; omega
              | some y =>
                obtain ⟨cs2, hl2, hR2⟩ := HF2.out.some_ q y hfb
                obtain ⟨y0, y1, y2, y3, y4, y5, y6, y7, y8, y9, rfl, hv2⟩ := hR2.parts
                rw [fnd_key hfb] at hl2
                have HL2 := Lib.hid hl2
                have HV2 := Lib.hid hv2
                clear hl2 hv2 hR2
                cases hfa : fnd (fun x : I => x.k) a.ds q with
                | none =>
                  have HL1 := Lib.hid (HF1.out.none_ q hfa)
                  have HD : Hid (dI a.ds b.ds q = some ⟨4, q⟩) := Lib.hid (by unfold dI; rw [hfa, hfb])
                  clear hfa hfb
                  go_wp2_with (first
                    | (at_lookup
                       refine wpList_look _ rfl _ _ 86 rfl 9 75 Tryz.underlying86 Tryz.underlying9 zI (zero_I _) b3 e1 rfl (by first | exact HM1.out | exact HM1.out.alloc _) q rfl (none) HL1.out ?_
                       simp only [Option.getD_none, Option.isSome_none, zI])
                    | (at_lookup
                       refine wpList_look _ rfl _ _ 86 rfl 9 75 Tryz.underlying86 Tryz.underlying9 zI (zero_I _) b4 e2 rfl (by first | exact HM2.out | exact HM2.out.alloc _) q rfl (some _) HL2.out ?_
                       simp only [Option.getD_some, Option.isSome_some])
                    | (at_builtin
                       refine wpList_append_own_at _ rfl _ _ 37 rfl w.heap.size 41 i1 (.agg #[.int .i64 0, .string ⟨#[]⟩]) 2 24 Tryz.underlying37 hi hz0 hz1 hz2 rfl (by decide) _ _ _ rfl (((HAT.out.alloc _).alloc _).alloc _).own ⟨wr.heap.size + 1 + 1, 0, none⟩ 1 1 [.int .i64 4, .string q] rfl rfl (news2c _ _ _ _ _ _) (by simp [Value.oneCell']) (by unfold maxLen; omega) (by omega) (Nat.le_of_lt (((HAT.out.alloc _).alloc _).alloc _).size) ?_
                       intro v' w3 hown' hgrow hnil hloc)
                    | go_in)
                  go_roundw
                  case rel => exact ⟨k + 1, _, by omega, by go_num, by rw [HST.out, HD.out]; rfl, (((HAT.out.alloc _).alloc _).alloc _).put (d := ⟨4, q⟩) HL.out hown' hgrow⟩
                  case measure => simp [intOf]; omega
                | some x =>
                  obtain ⟨cs1, hl1, hR1⟩ := HF1.out.some_ q x hfa
                  obtain ⟨x0, x1, x2, x3, x4, x5, x6, x7, x8, x9, rfl, hv1⟩ := hR1.parts
                  rw [fnd_key hfa] at hl1
                  have HL1 := Lib.hid hl1
                  have HV1 := Lib.hid hv1
                  clear hl1 hv1 hR1
                  by_cases hvv : x.v = y.v
                  · have HXY : Hid (decide (x.v = y.v) = true) := Lib.hid (decide_eq_true hvv)
                    have HD : Hid (dI a.ds b.ds q = none) := Lib.hid (by unfold dI; rw [hfa, hfb]; simp only []; rw [if_pos hvv])
                    clear hfa hfb hvv
                    go_wp2_with (first
                      | (at_lookup
                         refine wpList_look _ rfl _ _ 86 rfl 9 75 Tryz.underlying86 Tryz.underlying9 zI (zero_I _) b3 e1 rfl (by first | exact HM1.out | exact HM1.out.alloc _) q rfl (some _) HL1.out ?_
                         simp only [Option.getD_some, Option.isSome_some])
                      | (at_lookup
                         refine wpList_look _ rfl _ _ 86 rfl 9 75 Tryz.underlying86 Tryz.underlying9 zI (zero_I _) b4 e2 rfl (by first | exact HM2.out | exact HM2.out.alloc _) q rfl (some _) HL2.out ?_
                         simp only [Option.getD_some, Option.isSome_some])
                      | (go_at_call 30
                         refine (equal_any x.v y.v _ _ _ ((HV1.out.below ((HAT.out.alloc _).alloc _).bel).more ((HAT.out.alloc _).alloc _).bel.size) ((HV2.out.below ((HAT.out.alloc _).alloc _).bel).more ((HAT.out.alloc _).alloc _).bel.size)).mono ?_
                         rintro e w9 ⟨rfl, hb9⟩
                         obtain ⟨hc9, hf9⟩ := bcell hb9
                         have hat9 := ((HAT.out.alloc _).alloc _).next hb9
                         have hsz9 := hb9.size
                         simp only [World.size_alloc] at hsz9
                         rw [HXY.out])
                      | go_in)
                    go_roundw
                    case rel => exact ⟨k + 1, _, by omega, by go_num, by rw [HST.out, HD.out]; simp, hat9⟩
                    case measure => simp [intOf]; omega
                  · have HXY : Hid (decide (x.v = y.v) = false) := Lib.hid (decide_eq_false hvv)
                    have HD : Hid (dI a.ds b.ds q = some ⟨5, q⟩) := Lib.hid (by unfold dI; rw [hfa, hfb]; simp only []; rw [if_neg hvv])
                    clear hfa hfb hvv
                    go_wp2_with (first
                      | (at_lookup
                         refine wpList_look _ rfl _ _ 86 rfl 9 75 Tryz.underlying86 Tryz.underlying9 zI (zero_I _) b3 e1 rfl (by first | exact HM1.out | exact HM1.out.alloc _) q rfl (some _) HL1.out ?_
                         simp only [Option.getD_some, Option.isSome_some])
                      | (at_lookup
                         refine wpList_look _ rfl _ _ 86 rfl 9 75 Tryz.underlying86 Tryz.underlying9 zI (zero_I _) b4 e2 rfl (by first | exact HM2.out | exact HM2.out.alloc _) q rfl (some _) HL2.out ?_
                         simp only [Option.getD_some, Option.isSome_some])
                      | (go_at_call 30
                         refine (equal_any x.v y.v _ _ _ ((HV1.out.below ((HAT.out.alloc _).alloc _).bel).more ((HAT.out.alloc _).alloc _).bel.size) ((HV2.out.below ((HAT.out.alloc _).alloc _).bel).more ((HAT.out.alloc _).alloc _).bel.size)).mono ?_
                         rintro e w9 ⟨rfl, hb9⟩
                         obtain ⟨hc9, hf9⟩ := bcell hb9
                         have hat9 := ((HAT.out.alloc _).alloc _).next hb9
                         have hsz9 := hb9.size
                         simp only [World.size_alloc] at hsz9
                         rw [HXY.out])
                      | (at_builtin
                         refine wpList_append_own_at _ rfl _ _ 37 rfl w.heap.size 41 i1 (.agg #[.int .i64 0, .string ⟨#[]⟩]) 2 24 Tryz.underlying37 hi hz0 hz1 hz2 rfl (by decide) _ _ _ rfl (hat9.alloc _).own ⟨w9.heap.size, 0, none⟩ 1 1 [.int .i64 5, .string q] rfl rfl (news2 _ _ _ _) (by simp [Value.oneCell']) (by unfold maxLen; omega) (by omega) (Nat.le_of_lt (hat9.alloc _).size) ?_
                         intro v' w3 hown' hgrow hnil hloc)
                      | go_in)
                    go_roundw
                    case rel => exact ⟨k + 1, _, by omega, by go_num, by rw [HST.out, HD.out]; rfl, (hat9.alloc _).put (d := ⟨5, q⟩) HL.out hown' hgrow⟩
                    case measure => simp [intOf]; omega
            · obtain rfl : k = ni := by omega
              have hend : dd = differ a b := by
                rw [← hds, List.take_of_length_le (by rw [HNI.out]; exact Nat.le_refl _), HDA.out]
                unfold differ
                rw [HK0.out, HKT.out]
              have HEND := Lib.hid hend
              clear hend hds HDS
              go_wp2
              go_ret
              exact ⟨_, rfl, hat.bel, by rw [← HEND.out]; exact hat.own⟩

end Go.Proofs.YtbjmakigdglghaaGreatDoor.Dd
