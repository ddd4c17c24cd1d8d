/- The document's Good, walked. -/
import Derived.Test.YtnckhmfajjcgpaaGreatDoorMtG
set_option linter.unusedVariables false
set_option linter.unusedSimpArgs false
set_option linter.unusedSectionVars false
namespace Go.Proofs.YtnckhmfajjcgpaaGreatDoor.Mt
set_option linter.unusedVariables false
open Go.RowKit Go.Lib
attribute [local go_sem ↓] Go.wp_at_zero Go.wp_at_succ
set_option maxRecDepth 100000 in
set_option maxHeartbeats 8000000 in
theorem rgood_any {bt : Int → ByteArray} (HBAD : BadOk 38 bt) (w : World) (A1 A2 : Option Addr) (c1 c2 B : Nat) (ns : List ByteArray) (xs : List V) (W : World) (C : Nat) (h1 : ns.length = 2) (h2 : xs.length = 2) (hc1 : 2 ≤ c1) (hc2 : 2 ≤ c2)
    (hn : Lst 1 StrR w B A1 ns) (hx : Lst 5 (V.At W C) w B A2 xs) (hB : B ≤ w.heap.size) (hW : Mono W w) (hC : C ≤ w.heap.size) (hs : (gv ns xs).sz ≤ 4194304) (hr : (gv ns xs).rng) :
    Calls Tryz.prog 16 #[.slice A1 2 c1, .slice A2 2 c2] w fun e w' => e = .returned (.string (good bt (gv ns xs))) ∧ Below w.heap.size w w' := by
  obtain ⟨b1, o1, rfl, hb1, _⟩ := hn.2 (by omega)
  obtain ⟨b2, o2, rfl, hb2, _⟩ := hx.2 (by omega)
  obtain ⟨nS, hfS, hrS⟩ := hn.flat (by decide)
  obtain ⟨nV, hfV, hrV⟩ := hx.flat (by decide)
  rw [h1] at hrS
  rw [h2] at hrV
  have hc1' : (2 : Int) ≤ (c1 : Int) := by omega
  have hc2' : (2 : Int) ≤ (c2 : Int) := by omega
  have HFS : Hid (Flat 1 StrR (okT :: ns) ([.string okT] ++ nS)) := Lib.hid (hfS.cons rfl rfl)
  have HFV : Hid (Flat 5 (V.At W C) (tru :: xs) ([.int .i64 2, .int .i64 0, .string ⟨#[]⟩, .slice none 0 0, .slice none 0 0] ++ nV)) := Lib.hid (hfV.cons rfl (tru_at W C))
  have HOS := Lib.hid (hfS.one (by decide) fun _ _ h => StrR.one h)
  have HOV := Lib.hid (hfV.one (by decide) fun _ _ h => V.At.one h)
  have HRS := Lib.hid (hrS.more hB)
  have HRV := Lib.hid (hrV.more hB)
  have HL1 : Hid ((okT :: ns).length = 3) := Lib.hid (by simp [h1])
  have HL2 : Hid ((tru :: xs).length = 3) := Lib.hid (by simp [h2])
  have HW := Lib.hid hW
  have HC := Lib.hid hC
  have HSZ := Lib.hid hs
  have HRG := Lib.hid hr
  have HIN := Lib.hid (prt_in (gv ns xs))
  have HBD := Lib.hid HBAD
  obtain ⟨i1, hi, hy0, hy1, hy2⟩ := info_parts infoS
  obtain ⟨i2, hj, hz0, hz1, hz2⟩ := info_parts infoV
  obtain ⟨G, hG⟩ : ∃ G, good bt (gv ns xs) = G := ⟨_, rfl⟩
  have HG := Lib.hid hG
  rw [hG]
  clear hn hx hfS hrS hfV hrV hW hC hs hr hB hb1 hb2 HBAD hG h1 h2 hc1 hc2
  go_enter Tryz.func16, Tryz.ntmps16
  go_upto_region 4 with fail
  have HBd : Hid (Below w.heap.size w w.drew) := Lib.hid (Below.refl _ _).drew
  go_cut [6] (fun v wz => ∃ (ga g1 d1 g2 d2 : Nat), v = .pointer (some ⟨ga, 0, none⟩) ∧ Hid (3 ≤ d1) ∧ Hid (Blk wz ga 29 #[.int .i64 6, .int .i64 0, .string ⟨#[]⟩, .slice (some ⟨g1, 0, none⟩) 3 d1, .slice (some ⟨g2, 0, none⟩) 3 d2]) ∧ Hid (RowIs 1 StrR wz g1 (okT :: ns)) ∧ Hid (RowIs 5 (V.At W C) wz g2 (tru :: xs)) ∧ Hid (Below w.heap.size w wz))
  case first =>
    refine wp_region_noPanic ?_
    refine wp_region_held_drew (S := (fun wx => Below w.heap.size w wx)) (by kernel_rfl) ?_ (fun hHeld => ?_)
    · exact HBd.out
    obtain ⟨W0, hW0⟩ : ∃ W0, w.drew = W0 := ⟨_, rfl⟩
    rw [hW0] at HBd  hHeld ⊢
    clear hW0
    refine wpAnyH_take (i := 1) (v := ?_) (by simp only [List.getElem?_toArray, List.getElem?_cons_succ, List.getElem?_cons_zero]; rfl) (by kernel_rfl) (by kernel_rfl) (by kernel_rfl) (fun _ _ _ h => h) (Or.inl ⟨by rfl, ?_⟩) (by assumption) ?_
    rotate_left
    · (intro w hSw; (try dsimp only at hSw); go_simp; try with_reducible rfl)
    try simp only [Act.put, List.setIfInBounds_toArray, List.set_cons_zero, List.set_cons_succ]
    refine wpAnyH_take (i := 2) (v := ?_) (by simp only [List.getElem?_toArray, List.getElem?_cons_succ, List.getElem?_cons_zero]; rfl) (by kernel_rfl) (by kernel_rfl) (by kernel_rfl) (fun _ _ _ h => h) (Or.inl ⟨by rfl, ?_⟩) (by assumption) ?_
    rotate_left
    · (intro w hSw; (try dsimp only at hSw); go_simp; try with_reducible rfl)
    try simp only [Act.put, List.setIfInBounds_toArray, List.set_cons_zero, List.set_cons_succ]
    refine wpAnyH_take (i := 3) (v := ?_) (by simp only [List.getElem?_toArray, List.getElem?_cons_succ, List.getElem?_cons_zero]; rfl) (by kernel_rfl) (by kernel_rfl) (by kernel_rfl) (fun _ _ _ h => h) (Or.inl ⟨by rfl, ?_⟩) (by assumption) ?_
    rotate_left
    · (intro w hSw; (try dsimp only at hSw); go_simp; try with_reducible rfl)
    try simp only [Act.put, List.setIfInBounds_toArray, List.set_cons_zero, List.set_cons_succ]
    refine wpAnyH_take (i := 7) (v := ?_) (by simp only [List.getElem?_toArray, List.getElem?_cons_succ, List.getElem?_cons_zero]; rfl) (by kernel_rfl) (by kernel_rfl) (by kernel_rfl) (fun _ _ _ h => h) (Or.inl ⟨by rfl, ?_⟩) (by assumption) ?_
    rotate_left
    · (intro w hSw; (try dsimp only at hSw); go_simp; try with_reducible rfl)
    try simp only [Act.put, List.setIfInBounds_toArray, List.set_cons_zero, List.set_cons_succ]
    refine wpAnyH_take (i := 8) (v := ?_) (by simp only [List.getElem?_toArray, List.getElem?_cons_succ, List.getElem?_cons_zero]; rfl) (by kernel_rfl) (by kernel_rfl) (by kernel_rfl) (fun _ _ _ h => h) (Or.inl ⟨by rfl, ?_⟩) (by assumption) ?_
    rotate_left
    · (intro w hSw; (try dsimp only at hSw); go_simp; try with_reducible rfl)
    try simp only [Act.put, List.setIfInBounds_toArray, List.set_cons_zero, List.set_cons_succ]
    refine wpAnyH_take (i := 9) (v := ?_) (by simp only [List.getElem?_toArray, List.getElem?_cons_succ, List.getElem?_cons_zero]; rfl) (by kernel_rfl) (by kernel_rfl) (by kernel_rfl) (fun _ _ _ h => h) (Or.inl ⟨by rfl, ?_⟩) (by assumption) ?_
    rotate_left
    · (intro w hSw; (try dsimp only at hSw); go_simp; try with_reducible rfl)
    try simp only [Act.put, List.setIfInBounds_toArray, List.set_cons_zero, List.set_cons_succ]
    refine wpAnyH_ready (rs := [0, 12]) (by kernel_rfl) (by simp) ?_
    refine AllReadyH.cons (o := _) (by simp only [List.getElem?_toArray, List.getElem?_cons_succ, List.getElem?_cons_zero]; rfl) (fun K hK => ?_) ?_
    · go_simp
      have HB2 := Lib.hid (HBd.out.alloc HBd.out.size (.cells #[.string ⟨#[111, 107]⟩] 9))
      have hbx := below_alloc W0 (.cells #[.string ⟨#[111, 107]⟩] 9)
      have hsz := hbx.size
      have FN3 : Hid ((W0.alloc (.cells #[.string ⟨#[111, 107]⟩] 9)).ownsRow w.heap.size 9 1 (.slice (some ⟨W0.heap.size, 0, none⟩) 1 1) 1 [.string okT]) := Lib.hid (World.ownsRow_lit W0 _ 1 HBd.out.size (by decide) rfl)
      clear hHeld
      refine hK.out _ _ ?_ (fun hHeld => ?_)
      · exact HB2.out
      clear hK K
      obtain ⟨W1, hWn⟩ : ∃ Wn, W0.alloc (.cells #[.string ⟨#[111, 107]⟩] 9) = Wn := ⟨_, rfl⟩
      obtain ⟨aL, ha⟩ : ∃ a, W0.heap.size = a := ⟨_, rfl⟩
      rw [hWn] at HB2 FN3 hHeld ⊢
      rw [ha] at FN3 ⊢
      clear hWn ha hbx hsz   HBd
      try simp only [Act.put, List.setIfInBounds_toArray, List.set_cons_zero, List.set_cons_succ]
      refine wpAnyH_ready (rs := [4, 12]) (by kernel_rfl) (by simp) ?_
      refine AllReadyH.cons (o := _) (by simp only [List.getElem?_toArray, List.getElem?_cons_succ, List.getElem?_cons_zero]; rfl) (fun K hK => ?_) ?_
      · refine step_append_any _ (by rfl) (.tmp 17) (.tmp 20) 26 (by rfl) w.heap.size 9 i1 _ 1 16 Tryz.underlying26 hi hy0 hy1 hy2 (by rfl) (by decide) _ 1 [.string okT] (by rfl) FN3.out w.heap.size (some ⟨b1, o1, none⟩) 2 c1 nS (by rfl) (HRS.out.below HB2.out) HOS.out (by decide) (by decide) HB2.out.size ?_
        intro v W5 hown hgrow hloc
        have hsz := hgrow.size
        have hbb := (World.ownsRow.lt FN3.out aL rfl).1
        have HB6 := Lib.hid (HB2.out.grown hgrow HB2.out.size (fun k hk => by
          have hk' : some aL = some k := hk
          injection hk' with hk'
          omega))
        have lt_N := own_lt FN3.out
        obtain ⟨g1, d1, hv, hlen, hbase, hrow⟩ := rowIs_own (show W5.ownsRow w.heap.size 9 1 v (okT :: ns).length ([.string okT] ++ nS) by rw [HL1.out]; exact hown) HFS.out (by rw [HL1.out]; decide) (by rw [HL1.out]; decide)
        rw [HL1.out] at hv hlen
        subst hv
        have FN8 := Lib.hid hrow
        have HLEg1 := Lib.hid hlen
        have hor : g1 = aL ∨ g1 = W1.heap.size := by
          rcases hloc with h | h
          · exact .inl (Option.some.inj h)
          · exact .inr (Option.some.inj h)
        clear hHeld
        refine hK.out _ _ ?_ (fun hHeld => ?_)
        · exact HB6.out
        clear hK K
        clear hsz hbb hown hgrow hloc hlen hbase hrow hor lt_N  FN3 HB2
        try simp only [Act.put, List.setIfInBounds_toArray, List.set_cons_zero, List.set_cons_succ]
        refine wpAnyH_ready (rs := [5, 12]) (by kernel_rfl) (by simp) ?_
        refine AllReadyH.cons (o := _) (by simp only [List.getElem?_toArray, List.getElem?_cons_succ, List.getElem?_cons_zero]; rfl) (fun K hK => ?_) ?_
        · go_simp
          go_at_call 36
          refine (r16truth_any W5 true).mono ?_
          rintro e W9 ⟨rfl, hb⟩
          have HB10 := Lib.hid (bel_next HB6.out hb)
          have hsz := hb.size
          have hbx := hb
          have lt_N := FN8.out.lt
          have FN11 := Lib.hid (RowIs.keep (W' := W9) FN8.out hsz (below_old hb lt_N))
          clear hHeld
          refine hK.out _ _ ?_ (fun hHeld => ?_)
          · exact HB10.out
          clear hK K
          clear hb hbx hsz lt_N FN8 HB6
          try simp only [Act.put, List.setIfInBounds_toArray, List.set_cons_zero, List.set_cons_succ]
          refine wpAnyH_ready (rs := [6, 12]) (by kernel_rfl) (by simp) ?_
          refine AllReadyH.cons (o := _) (by simp only [List.getElem?_toArray, List.getElem?_cons_succ, List.getElem?_cons_zero]; rfl) (fun K hK => ?_) ?_
          · go_simp
            have HB13 := Lib.hid (HB10.out.alloc HB10.out.size (.cells #[.int .i64 2, .int .i64 0, .string ⟨#[]⟩, .slice none 0 0, .slice none 0 0] 29))
            have hbx := below_alloc W9 (.cells #[.int .i64 2, .int .i64 0, .string ⟨#[]⟩, .slice none 0 0, .slice none 0 0] 29)
            have hsz := hbx.size
            have lt_N := FN11.out.lt
            have FI14 : Hid ((W9.alloc (.cells #[.int .i64 2, .int .i64 0, .string ⟨#[]⟩, .slice none 0 0, .slice none 0 0] 29)).ownsRow w.heap.size 29 5 (.slice (some ⟨W9.heap.size, 0, none⟩) 1 1) 1 [.int .i64 2, .int .i64 0, .string ⟨#[]⟩, .slice none 0 0, .slice none 0 0]) := Lib.hid (World.ownsRow_lit W9 _ 1 HB10.out.size (by decide) rfl)
            have FN15 := Lib.hid (RowIs.keep (W' := W9.alloc (.cells #[.int .i64 2, .int .i64 0, .string ⟨#[]⟩, .slice none 0 0, .slice none 0 0] 29)) FN11.out hsz (below_old hbx lt_N))
            clear hHeld
            refine hK.out _ _ ?_ (fun hHeld => ?_)
            · exact HB13.out
            clear hK K
            obtain ⟨W12, hWn⟩ : ∃ Wn, W9.alloc (.cells #[.int .i64 2, .int .i64 0, .string ⟨#[]⟩, .slice none 0 0, .slice none 0 0] 29) = Wn := ⟨_, rfl⟩
            obtain ⟨aM, ha⟩ : ∃ a, W9.heap.size = a := ⟨_, rfl⟩
            rw [hWn] at HB13 FI14 FN15 hHeld ⊢
            rw [ha] at FI14 ⊢
            have N16 : Hid (g1 ≠ aM) := Lib.hid (by omega)
            clear hWn ha hbx hsz lt_N FN11 HB10
            try simp only [Act.put, List.setIfInBounds_toArray, List.set_cons_zero, List.set_cons_succ]
            refine wpAnyH_ready (rs := [10, 12]) (by kernel_rfl) (by simp) ?_
            refine AllReadyH.cons (o := _) (by simp only [List.getElem?_toArray, List.getElem?_cons_succ, List.getElem?_cons_zero]; rfl) (fun K hK => ?_) ?_
            · refine step_append_any _ (by rfl) (.tmp 23) (.tmp 26) 27 (by rfl) w.heap.size 29 i2 _ 5 80 Tryz.underlying27 hj hz0 hz1 hz2 (by rfl) (by decide) _ 1 [.int .i64 2, .int .i64 0, .string ⟨#[]⟩, .slice none 0 0, .slice none 0 0] (by rfl) FI14.out w.heap.size (some ⟨b2, o2, none⟩) 2 c2 nV (by rfl) (HRV.out.below HB13.out) HOV.out (by decide) (by decide) HB13.out.size ?_
              intro v W17 hown hgrow hloc
              have hsz := hgrow.size
              have hbb := (World.ownsRow.lt FI14.out aM rfl).1
              have HB18 := Lib.hid (HB13.out.grown hgrow HB13.out.size (fun k hk => by
                have hk' : some aM = some k := hk
                injection hk' with hk'
                omega))
              have lt_N := FN15.out.lt
              have lt_I := own_lt FI14.out
              have FN19 := Lib.hid (RowIs.keep (W' := W17) FN15.out hsz (hgrow.block g1 lt_N (fun e => N16.out (Option.some.inj e))))
              obtain ⟨g2, d2, hv, hlen, hbase, hrow⟩ := rowIs_own (show W17.ownsRow w.heap.size 29 5 v (tru :: xs).length ([.int .i64 2, .int .i64 0, .string ⟨#[]⟩, .slice none 0 0, .slice none 0 0] ++ nV) by rw [HL2.out]; exact hown) HFV.out (by rw [HL2.out]; decide) (by rw [HL2.out]; decide)
              rw [HL2.out] at hv hlen
              subst hv
              have FI20 := Lib.hid hrow
              have HLEg2 := Lib.hid hlen
              have hor : g2 = aM ∨ g2 = W12.heap.size := by
                rcases hloc with h | h
                · exact .inl (Option.some.inj h)
                · exact .inr (Option.some.inj h)
              have N21 : Hid (g1 ≠ g2) := Lib.hid (by have := N16.out; omega)
              clear hHeld
              refine hK.out _ _ ?_ (fun hHeld => ?_)
              · exact HB18.out
              clear hK K
              clear hsz hbb hown hgrow hloc hlen hbase hrow hor lt_N lt_I FN15 FI14 HB13
              try simp only [Act.put, List.setIfInBounds_toArray, List.set_cons_zero, List.set_cons_succ]
              refine wpAnyH_take (i := 11) (v := ?_) (by simp only [List.getElem?_toArray, List.getElem?_cons_succ, List.getElem?_cons_zero]; rfl) (by kernel_rfl) (by kernel_rfl) (by kernel_rfl) (fun _ _ _ h => h) (Or.inl ⟨by rfl, ?_⟩) (by assumption) ?_
              rotate_left
              · (intro w hSw; (try dsimp only at hSw); go_simp; try with_reducible rfl)
              try simp only [Act.put, List.setIfInBounds_toArray, List.set_cons_zero, List.set_cons_succ]
              refine wpAnyH_ready (rs := [12]) (by kernel_rfl) (by simp) ?_
              refine AllReadyH.cons (o := _) (by simp only [List.getElem?_toArray, List.getElem?_cons_succ, List.getElem?_cons_zero]; rfl) (fun K hK => ?_) AllReadyH.nil
              go_simp
              have HB23 := Lib.hid (HB18.out.alloc HB18.out.size (.cells #[.int .i64 0, .int .i64 0, .string ⟨#[]⟩, .slice none 0 0, .slice none 0 0] 29))
              have hbx := below_alloc W17 (.cells #[.int .i64 0, .int .i64 0, .string ⟨#[]⟩, .slice none 0 0, .slice none 0 0] 29)
              have hsz := hbx.size
              have lt_N := FN19.out.lt
              have lt_I := FI20.out.lt
              have FZ24 : Hid (Blk (W17.alloc (.cells #[.int .i64 0, .int .i64 0, .string ⟨#[]⟩, .slice none 0 0, .slice none 0 0] 29)) W17.heap.size 29 #[.int .i64 0, .int .i64 0, .string ⟨#[]⟩, .slice none 0 0, .slice none 0 0]) := Lib.hid (Blk.new W17 29 #[.int .i64 0, .int .i64 0, .string ⟨#[]⟩, .slice none 0 0, .slice none 0 0])
              have FN25 := Lib.hid (RowIs.keep (W' := W17.alloc (.cells #[.int .i64 0, .int .i64 0, .string ⟨#[]⟩, .slice none 0 0, .slice none 0 0] 29)) FN19.out hsz (below_old hbx lt_N))
              have FI25 := Lib.hid (RowIs.keep (W' := W17.alloc (.cells #[.int .i64 0, .int .i64 0, .string ⟨#[]⟩, .slice none 0 0, .slice none 0 0] 29)) FI20.out hsz (below_old hbx lt_I))
              clear hHeld
              refine hK.out _ _ ?_ (fun hHeld => ?_)
              · exact HB23.out
              clear hK K
              obtain ⟨W22, hWn⟩ : ∃ Wn, W17.alloc (.cells #[.int .i64 0, .int .i64 0, .string ⟨#[]⟩, .slice none 0 0, .slice none 0 0] 29) = Wn := ⟨_, rfl⟩
              obtain ⟨ga, ha⟩ : ∃ a, W17.heap.size = a := ⟨_, rfl⟩
              have HGA : Hid (w.heap.size ≤ ga) := Lib.hid (by have := HB18.out.size; omega)
              rw [hWn] at HB23 FZ24 FN25 FI25 hHeld ⊢
              rw [ha] at FZ24 ⊢
              have N26 : Hid (g1 ≠ ga) := Lib.hid (by omega)
              have N27 : Hid (g2 ≠ ga) := Lib.hid (by omega)
              clear hWn ha hbx hsz lt_N lt_I FN19 FI20 HB18
              try simp only [Act.put, List.setIfInBounds_toArray, List.set_cons_zero, List.set_cons_succ]
              refine wpAnyH_ready (rs := [13]) (by kernel_rfl) (by simp) ?_
              refine AllReadyH.cons (o := _) (by simp only [List.getElem?_toArray, List.getElem?_cons_succ, List.getElem?_cons_zero]; rfl) (fun K hK => ?_) AllReadyH.nil
              have z0 : W22.cell? ⟨ga, 0, none⟩ = some (.int .i64 0) := FZ24.out.cell 0
              have z1 : W22.cell? ⟨ga, 1, none⟩ = some (.int .i64 0) := FZ24.out.cell 1
              have z2 : W22.cell? ⟨ga, 2, none⟩ = some (.string ⟨#[]⟩) := FZ24.out.cell 2
              have z3 : W22.cell? ⟨ga, 3, none⟩ = some (.slice none 0 0) := FZ24.out.cell 3
              have z4 : W22.cell? ⟨ga, 4, none⟩ = some (.slice none 0 0) := FZ24.out.cell 4
              have zf := fun j => FZ24.out.frozen j
              go_simp
              have HB30 := Lib.hid (set5_bel HB23.out (HGA.out) (.int .i64 6) (.int .i64 0) (.string ⟨#[]⟩) (.slice (some ⟨g1, 0, none⟩) 3 d1) (.slice (some ⟨g2, 0, none⟩) 3 d2))
              clear hHeld
              refine hK.out _ _ ?_ (fun hHeld => ?_)
              · exact HB30.out
              clear hK K z0 z1 z2 z3 z4 zf
              have FZs : Hid (Blk (set5 W22 ga (.int .i64 6) (.int .i64 0) (.string ⟨#[]⟩) (.slice (some ⟨g1, 0, none⟩) 3 d1) (.slice (some ⟨g2, 0, none⟩) 3 d2)) ga 29 #[.int .i64 6, .int .i64 0, .string ⟨#[]⟩, .slice (some ⟨g1, 0, none⟩) 3 d1, .slice (some ⟨g2, 0, none⟩) 3 d2]) := Lib.hid (set5_blk FZ24.out _ _ _ _ _)
              have FNs := Lib.hid (RowIs.keep (W' := set5 W22 ga (.int .i64 6) (.int .i64 0) (.string ⟨#[]⟩) (.slice (some ⟨g1, 0, none⟩) 3 d1) (.slice (some ⟨g2, 0, none⟩) 3 d2)) FN25.out (Nat.le_of_eq (set5_size _ _ _ _ _).symm) (set5_far N26.out _ _ _ _ _))
              have FIs := Lib.hid (RowIs.keep (W' := set5 W22 ga (.int .i64 6) (.int .i64 0) (.string ⟨#[]⟩) (.slice (some ⟨g1, 0, none⟩) 3 d1) (.slice (some ⟨g2, 0, none⟩) 3 d2)) FI25.out (Nat.le_of_eq (set5_size _ _ _ _ _).symm) (set5_far N27.out _ _ _ _ _))
              obtain ⟨W30, hWn⟩ : ∃ Wn, set5 W22 ga (.int .i64 6) (.int .i64 0) (.string ⟨#[]⟩) (.slice (some ⟨g1, 0, none⟩) 3 d1) (.slice (some ⟨g2, 0, none⟩) 3 d2) = Wn := ⟨_, rfl⟩
              rw [hWn] at HB30 FZs FNs FIs
              change wpAnyH _ _ _ _ _ _ _ _ (set5 W22 ga (.int .i64 6) (.int .i64 0) (.string ⟨#[]⟩) (.slice (some ⟨g1, 0, none⟩) 3 d1) (.slice (some ⟨g2, 0, none⟩) 3 d2))
              rw [hWn]
              have hHeld := HB30.out
              clear hWn
              try simp only [Act.put, List.setIfInBounds_toArray, List.set_cons_zero, List.set_cons_succ]
              refine wpAnyH_done (by kernel_rfl) ?_ _
              refine NoPanic.normal ?_
              go_wp2_with fail
              go_meet
              case rel => exact ⟨ga, g1, d1, g2, d2, rfl, HLEg1, FZs, FNs, FIs, HB30⟩
            refine AllReadyH.cons (o := _) (by simp only [List.getElem?_toArray, List.getElem?_cons_succ, List.getElem?_cons_zero]; rfl) (fun K hK => ?_) AllReadyH.nil
            go_simp
            have HB32 := Lib.hid (HB13.out.alloc HB13.out.size (.cells #[.int .i64 0, .int .i64 0, .string ⟨#[]⟩, .slice none 0 0, .slice none 0 0] 29))
            have hbx := below_alloc W12 (.cells #[.int .i64 0, .int .i64 0, .string ⟨#[]⟩, .slice none 0 0, .slice none 0 0] 29)
            have hsz := hbx.size
            have lt_N := FN15.out.lt
            have lt_I := own_lt FI14.out
            have FZ33 : Hid (Blk (W12.alloc (.cells #[.int .i64 0, .int .i64 0, .string ⟨#[]⟩, .slice none 0 0, .slice none 0 0] 29)) W12.heap.size 29 #[.int .i64 0, .int .i64 0, .string ⟨#[]⟩, .slice none 0 0, .slice none 0 0]) := Lib.hid (Blk.new W12 29 #[.int .i64 0, .int .i64 0, .string ⟨#[]⟩, .slice none 0 0, .slice none 0 0])
            have FN34 := Lib.hid (RowIs.keep (W' := W12.alloc (.cells #[.int .i64 0, .int .i64 0, .string ⟨#[]⟩, .slice none 0 0, .slice none 0 0] 29)) FN15.out hsz (below_old hbx lt_N))
            have FI34 := Lib.hid (own_keep (W' := W12.alloc (.cells #[.int .i64 0, .int .i64 0, .string ⟨#[]⟩, .slice none 0 0, .slice none 0 0] 29)) FI14.out (below_old hbx lt_I))
            clear hHeld
            refine hK.out _ _ ?_ (fun hHeld => ?_)
            · exact HB32.out
            clear hK K
            obtain ⟨W31, hWn⟩ : ∃ Wn, W12.alloc (.cells #[.int .i64 0, .int .i64 0, .string ⟨#[]⟩, .slice none 0 0, .slice none 0 0] 29) = Wn := ⟨_, rfl⟩
            obtain ⟨ga, ha⟩ : ∃ a, W12.heap.size = a := ⟨_, rfl⟩
            have HGA : Hid (w.heap.size ≤ ga) := Lib.hid (by have := HB13.out.size; omega)
            rw [hWn] at HB32 FZ33 FN34 FI34 hHeld ⊢
            rw [ha] at FZ33 ⊢
            have N35 : Hid (g1 ≠ ga) := Lib.hid (by omega)
            have N36 : Hid (aM ≠ ga) := Lib.hid (by omega)
            clear hWn ha hbx hsz lt_N lt_I FN15 FI14 HB13
            try simp only [Act.put, List.setIfInBounds_toArray, List.set_cons_zero, List.set_cons_succ]
            refine wpAnyH_ready (rs := [10]) (by kernel_rfl) (by simp) ?_
            refine AllReadyH.cons (o := _) (by simp only [List.getElem?_toArray, List.getElem?_cons_succ, List.getElem?_cons_zero]; rfl) (fun K hK => ?_) AllReadyH.nil
            refine step_append_any _ (by rfl) (.tmp 23) (.tmp 26) 27 (by rfl) w.heap.size 29 i2 _ 5 80 Tryz.underlying27 hj hz0 hz1 hz2 (by rfl) (by decide) _ 1 [.int .i64 2, .int .i64 0, .string ⟨#[]⟩, .slice none 0 0, .slice none 0 0] (by rfl) FI34.out w.heap.size (some ⟨b2, o2, none⟩) 2 c2 nV (by rfl) (HRV.out.below HB32.out) HOV.out (by decide) (by decide) HB32.out.size ?_
            intro v W37 hown hgrow hloc
            have hsz := hgrow.size
            have hbb := (World.ownsRow.lt FI34.out aM rfl).1
            have HB38 := Lib.hid (HB32.out.grown hgrow HB32.out.size (fun k hk => by
              have hk' : some aM = some k := hk
              injection hk' with hk'
              omega))
            have lt_N := FN34.out.lt
            have lt_I := own_lt FI34.out
            have lt_Z := FZ33.out.lt
            have FN39 := Lib.hid (RowIs.keep (W' := W37) FN34.out hsz (hgrow.block g1 lt_N (fun e => N16.out (Option.some.inj e))))
            have FZ39 := Lib.hid (blk_keep (W' := W37) FZ33.out (hgrow.block ga lt_Z (fun e => (Ne.symm N36.out) (Option.some.inj e))))
            obtain ⟨g2, d2, hv, hlen, hbase, hrow⟩ := rowIs_own (show W37.ownsRow w.heap.size 29 5 v (tru :: xs).length ([.int .i64 2, .int .i64 0, .string ⟨#[]⟩, .slice none 0 0, .slice none 0 0] ++ nV) by rw [HL2.out]; exact hown) HFV.out (by rw [HL2.out]; decide) (by rw [HL2.out]; decide)
            rw [HL2.out] at hv hlen
            subst hv
            have FI40 := Lib.hid hrow
            have HLEg2 := Lib.hid hlen
            have hor : g2 = aM ∨ g2 = W31.heap.size := by
              rcases hloc with h | h
              · exact .inl (Option.some.inj h)
              · exact .inr (Option.some.inj h)
            have N41 : Hid (g1 ≠ g2) := Lib.hid (by have := N16.out; omega)
            have N42 : Hid (ga ≠ g2) := Lib.hid (by have := (Ne.symm N36.out); omega)
            clear hHeld
            refine hK.out _ _ ?_ (fun hHeld => ?_)
            · exact HB38.out
            clear hK K
            clear hsz hbb hown hgrow hloc hlen hbase hrow hor lt_N lt_I lt_Z FN34 FZ33 FI34 HB32
            try simp only [Act.put, List.setIfInBounds_toArray, List.set_cons_zero, List.set_cons_succ]
            refine wpAnyH_take (i := 11) (v := ?_) (by simp only [List.getElem?_toArray, List.getElem?_cons_succ, List.getElem?_cons_zero]; rfl) (by kernel_rfl) (by kernel_rfl) (by kernel_rfl) (fun _ _ _ h => h) (Or.inl ⟨by rfl, ?_⟩) (by assumption) ?_
            rotate_left
            · (intro w hSw; (try dsimp only at hSw); go_simp; try with_reducible rfl)
            try simp only [Act.put, List.setIfInBounds_toArray, List.set_cons_zero, List.set_cons_succ]
            refine wpAnyH_ready (rs := [13]) (by kernel_rfl) (by simp) ?_
            refine AllReadyH.cons (o := _) (by simp only [List.getElem?_toArray, List.getElem?_cons_succ, List.getElem?_cons_zero]; rfl) (fun K hK => ?_) AllReadyH.nil
            have z0 : W37.cell? ⟨ga, 0, none⟩ = some (.int .i64 0) := FZ39.out.cell 0
            have z1 : W37.cell? ⟨ga, 1, none⟩ = some (.int .i64 0) := FZ39.out.cell 1
            have z2 : W37.cell? ⟨ga, 2, none⟩ = some (.string ⟨#[]⟩) := FZ39.out.cell 2
            have z3 : W37.cell? ⟨ga, 3, none⟩ = some (.slice none 0 0) := FZ39.out.cell 3
            have z4 : W37.cell? ⟨ga, 4, none⟩ = some (.slice none 0 0) := FZ39.out.cell 4
            have zf := fun j => FZ39.out.frozen j
            go_simp
            have HB45 := Lib.hid (set5_bel HB38.out (HGA.out) (.int .i64 6) (.int .i64 0) (.string ⟨#[]⟩) (.slice (some ⟨g1, 0, none⟩) 3 d1) (.slice (some ⟨g2, 0, none⟩) 3 d2))
            clear hHeld
            refine hK.out _ _ ?_ (fun hHeld => ?_)
            · exact HB45.out
            clear hK K z0 z1 z2 z3 z4 zf
            have FZs : Hid (Blk (set5 W37 ga (.int .i64 6) (.int .i64 0) (.string ⟨#[]⟩) (.slice (some ⟨g1, 0, none⟩) 3 d1) (.slice (some ⟨g2, 0, none⟩) 3 d2)) ga 29 #[.int .i64 6, .int .i64 0, .string ⟨#[]⟩, .slice (some ⟨g1, 0, none⟩) 3 d1, .slice (some ⟨g2, 0, none⟩) 3 d2]) := Lib.hid (set5_blk FZ39.out _ _ _ _ _)
            have FNs := Lib.hid (RowIs.keep (W' := set5 W37 ga (.int .i64 6) (.int .i64 0) (.string ⟨#[]⟩) (.slice (some ⟨g1, 0, none⟩) 3 d1) (.slice (some ⟨g2, 0, none⟩) 3 d2)) FN39.out (Nat.le_of_eq (set5_size _ _ _ _ _).symm) (set5_far N35.out _ _ _ _ _))
            have FIs := Lib.hid (RowIs.keep (W' := set5 W37 ga (.int .i64 6) (.int .i64 0) (.string ⟨#[]⟩) (.slice (some ⟨g1, 0, none⟩) 3 d1) (.slice (some ⟨g2, 0, none⟩) 3 d2)) FI40.out (Nat.le_of_eq (set5_size _ _ _ _ _).symm) (set5_far (Ne.symm N42.out) _ _ _ _ _))
            obtain ⟨W45, hWn⟩ : ∃ Wn, set5 W37 ga (.int .i64 6) (.int .i64 0) (.string ⟨#[]⟩) (.slice (some ⟨g1, 0, none⟩) 3 d1) (.slice (some ⟨g2, 0, none⟩) 3 d2) = Wn := ⟨_, rfl⟩
            rw [hWn] at HB45 FZs FNs FIs
            change wpAnyH _ _ _ _ _ _ _ _ (set5 W37 ga (.int .i64 6) (.int .i64 0) (.string ⟨#[]⟩) (.slice (some ⟨g1, 0, none⟩) 3 d1) (.slice (some ⟨g2, 0, none⟩) 3 d2))
            rw [hWn]
            have hHeld := HB45.out
            clear hWn
            try simp only [Act.put, List.setIfInBounds_toArray, List.set_cons_zero, List.set_cons_succ]
            refine wpAnyH_done (by kernel_rfl) ?_ _
            refine NoPanic.normal ?_
            go_wp2_with fail
            go_meet
            case rel => exact ⟨ga, g1, d1, g2, d2, rfl, HLEg1, FZs, FNs, FIs, HB45⟩
          refine AllReadyH.cons (o := _) (by simp only [List.getElem?_toArray, List.getElem?_cons_succ, List.getElem?_cons_zero]; rfl) (fun K hK => ?_) AllReadyH.nil
          go_simp
          have HB47 := Lib.hid (HB10.out.alloc HB10.out.size (.cells #[.int .i64 0, .int .i64 0, .string ⟨#[]⟩, .slice none 0 0, .slice none 0 0] 29))
          have hbx := below_alloc W9 (.cells #[.int .i64 0, .int .i64 0, .string ⟨#[]⟩, .slice none 0 0, .slice none 0 0] 29)
          have hsz := hbx.size
          have lt_N := FN11.out.lt
          have FZ48 : Hid (Blk (W9.alloc (.cells #[.int .i64 0, .int .i64 0, .string ⟨#[]⟩, .slice none 0 0, .slice none 0 0] 29)) W9.heap.size 29 #[.int .i64 0, .int .i64 0, .string ⟨#[]⟩, .slice none 0 0, .slice none 0 0]) := Lib.hid (Blk.new W9 29 #[.int .i64 0, .int .i64 0, .string ⟨#[]⟩, .slice none 0 0, .slice none 0 0])
          have FN49 := Lib.hid (RowIs.keep (W' := W9.alloc (.cells #[.int .i64 0, .int .i64 0, .string ⟨#[]⟩, .slice none 0 0, .slice none 0 0] 29)) FN11.out hsz (below_old hbx lt_N))
          clear hHeld
          refine hK.out _ _ ?_ (fun hHeld => ?_)
          · exact HB47.out
          clear hK K
          obtain ⟨W46, hWn⟩ : ∃ Wn, W9.alloc (.cells #[.int .i64 0, .int .i64 0, .string ⟨#[]⟩, .slice none 0 0, .slice none 0 0] 29) = Wn := ⟨_, rfl⟩
          obtain ⟨ga, ha⟩ : ∃ a, W9.heap.size = a := ⟨_, rfl⟩
          have HGA : Hid (w.heap.size ≤ ga) := Lib.hid (by have := HB10.out.size; omega)
          rw [hWn] at HB47 FZ48 FN49 hHeld ⊢
          rw [ha] at FZ48 ⊢
          have N50 : Hid (g1 ≠ ga) := Lib.hid (by omega)
          clear hWn ha hbx hsz lt_N FN11 HB10
          try simp only [Act.put, List.setIfInBounds_toArray, List.set_cons_zero, List.set_cons_succ]
          refine wpAnyH_ready (rs := [6]) (by kernel_rfl) (by simp) ?_
          refine AllReadyH.cons (o := _) (by simp only [List.getElem?_toArray, List.getElem?_cons_succ, List.getElem?_cons_zero]; rfl) (fun K hK => ?_) AllReadyH.nil
          go_simp
          have HB52 := Lib.hid (HB47.out.alloc HB47.out.size (.cells #[.int .i64 2, .int .i64 0, .string ⟨#[]⟩, .slice none 0 0, .slice none 0 0] 29))
          have hbx := below_alloc W46 (.cells #[.int .i64 2, .int .i64 0, .string ⟨#[]⟩, .slice none 0 0, .slice none 0 0] 29)
          have hsz := hbx.size
          have lt_N := FN49.out.lt
          have lt_Z := FZ48.out.lt
          have FI53 : Hid ((W46.alloc (.cells #[.int .i64 2, .int .i64 0, .string ⟨#[]⟩, .slice none 0 0, .slice none 0 0] 29)).ownsRow w.heap.size 29 5 (.slice (some ⟨W46.heap.size, 0, none⟩) 1 1) 1 [.int .i64 2, .int .i64 0, .string ⟨#[]⟩, .slice none 0 0, .slice none 0 0]) := Lib.hid (World.ownsRow_lit W46 _ 1 HB47.out.size (by decide) rfl)
          have FN54 := Lib.hid (RowIs.keep (W' := W46.alloc (.cells #[.int .i64 2, .int .i64 0, .string ⟨#[]⟩, .slice none 0 0, .slice none 0 0] 29)) FN49.out hsz (below_old hbx lt_N))
          have FZ54 := Lib.hid (blk_keep (W' := W46.alloc (.cells #[.int .i64 2, .int .i64 0, .string ⟨#[]⟩, .slice none 0 0, .slice none 0 0] 29)) FZ48.out (below_old hbx lt_Z))
          clear hHeld
          refine hK.out _ _ ?_ (fun hHeld => ?_)
          · exact HB52.out
          clear hK K
          obtain ⟨W51, hWn⟩ : ∃ Wn, W46.alloc (.cells #[.int .i64 2, .int .i64 0, .string ⟨#[]⟩, .slice none 0 0, .slice none 0 0] 29) = Wn := ⟨_, rfl⟩
          obtain ⟨aM, ha⟩ : ∃ a, W46.heap.size = a := ⟨_, rfl⟩
          rw [hWn] at HB52 FI53 FN54 FZ54 hHeld ⊢
          rw [ha] at FI53 ⊢
          have N55 : Hid (g1 ≠ aM) := Lib.hid (by omega)
          have N56 : Hid (ga ≠ aM) := Lib.hid (by omega)
          clear hWn ha hbx hsz lt_N lt_Z FN49 FZ48 HB47
          try simp only [Act.put, List.setIfInBounds_toArray, List.set_cons_zero, List.set_cons_succ]
          refine wpAnyH_ready (rs := [10]) (by kernel_rfl) (by simp) ?_
          refine AllReadyH.cons (o := _) (by simp only [List.getElem?_toArray, List.getElem?_cons_succ, List.getElem?_cons_zero]; rfl) (fun K hK => ?_) AllReadyH.nil
          refine step_append_any _ (by rfl) (.tmp 23) (.tmp 26) 27 (by rfl) w.heap.size 29 i2 _ 5 80 Tryz.underlying27 hj hz0 hz1 hz2 (by rfl) (by decide) _ 1 [.int .i64 2, .int .i64 0, .string ⟨#[]⟩, .slice none 0 0, .slice none 0 0] (by rfl) FI53.out w.heap.size (some ⟨b2, o2, none⟩) 2 c2 nV (by rfl) (HRV.out.below HB52.out) HOV.out (by decide) (by decide) HB52.out.size ?_
          intro v W57 hown hgrow hloc
          have hsz := hgrow.size
          have hbb := (World.ownsRow.lt FI53.out aM rfl).1
          have HB58 := Lib.hid (HB52.out.grown hgrow HB52.out.size (fun k hk => by
            have hk' : some aM = some k := hk
            injection hk' with hk'
            omega))
          have lt_N := FN54.out.lt
          have lt_Z := FZ54.out.lt
          have lt_I := own_lt FI53.out
          have FN59 := Lib.hid (RowIs.keep (W' := W57) FN54.out hsz (hgrow.block g1 lt_N (fun e => N55.out (Option.some.inj e))))
          have FZ59 := Lib.hid (blk_keep (W' := W57) FZ54.out (hgrow.block ga lt_Z (fun e => N56.out (Option.some.inj e))))
          obtain ⟨g2, d2, hv, hlen, hbase, hrow⟩ := rowIs_own (show W57.ownsRow w.heap.size 29 5 v (tru :: xs).length ([.int .i64 2, .int .i64 0, .string ⟨#[]⟩, .slice none 0 0, .slice none 0 0] ++ nV) by rw [HL2.out]; exact hown) HFV.out (by rw [HL2.out]; decide) (by rw [HL2.out]; decide)
          rw [HL2.out] at hv hlen
          subst hv
          have FI60 := Lib.hid hrow
          have HLEg2 := Lib.hid hlen
          have hor : g2 = aM ∨ g2 = W51.heap.size := by
            rcases hloc with h | h
            · exact .inl (Option.some.inj h)
            · exact .inr (Option.some.inj h)
          have N61 : Hid (g1 ≠ g2) := Lib.hid (by have := N55.out; omega)
          have N62 : Hid (ga ≠ g2) := Lib.hid (by have := N56.out; omega)
          clear hHeld
          refine hK.out _ _ ?_ (fun hHeld => ?_)
          · exact HB58.out
          clear hK K
          clear hsz hbb hown hgrow hloc hlen hbase hrow hor lt_N lt_Z lt_I FN54 FZ54 FI53 HB52
          try simp only [Act.put, List.setIfInBounds_toArray, List.set_cons_zero, List.set_cons_succ]
          refine wpAnyH_take (i := 11) (v := ?_) (by simp only [List.getElem?_toArray, List.getElem?_cons_succ, List.getElem?_cons_zero]; rfl) (by kernel_rfl) (by kernel_rfl) (by kernel_rfl) (fun _ _ _ h => h) (Or.inl ⟨by rfl, ?_⟩) (by assumption) ?_
          rotate_left
          · (intro w hSw; (try dsimp only at hSw); go_simp; try with_reducible rfl)
          try simp only [Act.put, List.setIfInBounds_toArray, List.set_cons_zero, List.set_cons_succ]
          refine wpAnyH_ready (rs := [13]) (by kernel_rfl) (by simp) ?_
          refine AllReadyH.cons (o := _) (by simp only [List.getElem?_toArray, List.getElem?_cons_succ, List.getElem?_cons_zero]; rfl) (fun K hK => ?_) AllReadyH.nil
          have z0 : W57.cell? ⟨ga, 0, none⟩ = some (.int .i64 0) := FZ59.out.cell 0
          have z1 : W57.cell? ⟨ga, 1, none⟩ = some (.int .i64 0) := FZ59.out.cell 1
          have z2 : W57.cell? ⟨ga, 2, none⟩ = some (.string ⟨#[]⟩) := FZ59.out.cell 2
          have z3 : W57.cell? ⟨ga, 3, none⟩ = some (.slice none 0 0) := FZ59.out.cell 3
          have z4 : W57.cell? ⟨ga, 4, none⟩ = some (.slice none 0 0) := FZ59.out.cell 4
          have zf := fun j => FZ59.out.frozen j
          go_simp
          have HB65 := Lib.hid (set5_bel HB58.out (HGA.out) (.int .i64 6) (.int .i64 0) (.string ⟨#[]⟩) (.slice (some ⟨g1, 0, none⟩) 3 d1) (.slice (some ⟨g2, 0, none⟩) 3 d2))
          clear hHeld
          refine hK.out _ _ ?_ (fun hHeld => ?_)
          · exact HB65.out
          clear hK K z0 z1 z2 z3 z4 zf
          have FZs : Hid (Blk (set5 W57 ga (.int .i64 6) (.int .i64 0) (.string ⟨#[]⟩) (.slice (some ⟨g1, 0, none⟩) 3 d1) (.slice (some ⟨g2, 0, none⟩) 3 d2)) ga 29 #[.int .i64 6, .int .i64 0, .string ⟨#[]⟩, .slice (some ⟨g1, 0, none⟩) 3 d1, .slice (some ⟨g2, 0, none⟩) 3 d2]) := Lib.hid (set5_blk FZ59.out _ _ _ _ _)
          have FNs := Lib.hid (RowIs.keep (W' := set5 W57 ga (.int .i64 6) (.int .i64 0) (.string ⟨#[]⟩) (.slice (some ⟨g1, 0, none⟩) 3 d1) (.slice (some ⟨g2, 0, none⟩) 3 d2)) FN59.out (Nat.le_of_eq (set5_size _ _ _ _ _).symm) (set5_far N50.out _ _ _ _ _))
          have FIs := Lib.hid (RowIs.keep (W' := set5 W57 ga (.int .i64 6) (.int .i64 0) (.string ⟨#[]⟩) (.slice (some ⟨g1, 0, none⟩) 3 d1) (.slice (some ⟨g2, 0, none⟩) 3 d2)) FI60.out (Nat.le_of_eq (set5_size _ _ _ _ _).symm) (set5_far (Ne.symm N62.out) _ _ _ _ _))
          obtain ⟨W65, hWn⟩ : ∃ Wn, set5 W57 ga (.int .i64 6) (.int .i64 0) (.string ⟨#[]⟩) (.slice (some ⟨g1, 0, none⟩) 3 d1) (.slice (some ⟨g2, 0, none⟩) 3 d2) = Wn := ⟨_, rfl⟩
          rw [hWn] at HB65 FZs FNs FIs
          change wpAnyH _ _ _ _ _ _ _ _ (set5 W57 ga (.int .i64 6) (.int .i64 0) (.string ⟨#[]⟩) (.slice (some ⟨g1, 0, none⟩) 3 d1) (.slice (some ⟨g2, 0, none⟩) 3 d2))
          rw [hWn]
          have hHeld := HB65.out
          clear hWn
          try simp only [Act.put, List.setIfInBounds_toArray, List.set_cons_zero, List.set_cons_succ]
          refine wpAnyH_done (by kernel_rfl) ?_ _
          refine NoPanic.normal ?_
          go_wp2_with fail
          go_meet
          case rel => exact ⟨ga, g1, d1, g2, d2, rfl, HLEg1, FZs, FNs, FIs, HB65⟩
        refine AllReadyH.cons (o := _) (by simp only [List.getElem?_toArray, List.getElem?_cons_succ, List.getElem?_cons_zero]; rfl) (fun K hK => ?_) AllReadyH.nil
        go_simp
        have HB67 := Lib.hid (HB6.out.alloc HB6.out.size (.cells #[.int .i64 0, .int .i64 0, .string ⟨#[]⟩, .slice none 0 0, .slice none 0 0] 29))
        have hbx := below_alloc W5 (.cells #[.int .i64 0, .int .i64 0, .string ⟨#[]⟩, .slice none 0 0, .slice none 0 0] 29)
        have hsz := hbx.size
        have lt_N := FN8.out.lt
        have FZ68 : Hid (Blk (W5.alloc (.cells #[.int .i64 0, .int .i64 0, .string ⟨#[]⟩, .slice none 0 0, .slice none 0 0] 29)) W5.heap.size 29 #[.int .i64 0, .int .i64 0, .string ⟨#[]⟩, .slice none 0 0, .slice none 0 0]) := Lib.hid (Blk.new W5 29 #[.int .i64 0, .int .i64 0, .string ⟨#[]⟩, .slice none 0 0, .slice none 0 0])
        have FN69 := Lib.hid (RowIs.keep (W' := W5.alloc (.cells #[.int .i64 0, .int .i64 0, .string ⟨#[]⟩, .slice none 0 0, .slice none 0 0] 29)) FN8.out hsz (below_old hbx lt_N))
        clear hHeld
        refine hK.out _ _ ?_ (fun hHeld => ?_)
        · exact HB67.out
        clear hK K
        obtain ⟨W66, hWn⟩ : ∃ Wn, W5.alloc (.cells #[.int .i64 0, .int .i64 0, .string ⟨#[]⟩, .slice none 0 0, .slice none 0 0] 29) = Wn := ⟨_, rfl⟩
        obtain ⟨ga, ha⟩ : ∃ a, W5.heap.size = a := ⟨_, rfl⟩
        have HGA : Hid (w.heap.size ≤ ga) := Lib.hid (by have := HB6.out.size; omega)
        rw [hWn] at HB67 FZ68 FN69 hHeld ⊢
        rw [ha] at FZ68 ⊢
        have N70 : Hid (g1 ≠ ga) := Lib.hid (by omega)
        clear hWn ha hbx hsz lt_N FN8 HB6
        try simp only [Act.put, List.setIfInBounds_toArray, List.set_cons_zero, List.set_cons_succ]
        refine wpAnyH_ready (rs := [5]) (by kernel_rfl) (by simp) ?_
        refine AllReadyH.cons (o := _) (by simp only [List.getElem?_toArray, List.getElem?_cons_succ, List.getElem?_cons_zero]; rfl) (fun K hK => ?_) AllReadyH.nil
        go_simp
        go_at_call 36
        refine (r16truth_any W66 true).mono ?_
        rintro e W71 ⟨rfl, hb⟩
        have HB72 := Lib.hid (bel_next HB67.out hb)
        have hsz := hb.size
        have hbx := hb
        have lt_N := FN69.out.lt
        have lt_Z := FZ68.out.lt
        have FN73 := Lib.hid (RowIs.keep (W' := W71) FN69.out hsz (below_old hb lt_N))
        have FZ73 := Lib.hid (blk_keep (W' := W71) FZ68.out (below_old hb lt_Z))
        clear hHeld
        refine hK.out _ _ ?_ (fun hHeld => ?_)
        · exact HB72.out
        clear hK K
        clear hb hbx hsz lt_N lt_Z FN69 FZ68 HB67
        try simp only [Act.put, List.setIfInBounds_toArray, List.set_cons_zero, List.set_cons_succ]
        refine wpAnyH_ready (rs := [6]) (by kernel_rfl) (by simp) ?_
        refine AllReadyH.cons (o := _) (by simp only [List.getElem?_toArray, List.getElem?_cons_succ, List.getElem?_cons_zero]; rfl) (fun K hK => ?_) AllReadyH.nil
        go_simp
        have HB75 := Lib.hid (HB72.out.alloc HB72.out.size (.cells #[.int .i64 2, .int .i64 0, .string ⟨#[]⟩, .slice none 0 0, .slice none 0 0] 29))
        have hbx := below_alloc W71 (.cells #[.int .i64 2, .int .i64 0, .string ⟨#[]⟩, .slice none 0 0, .slice none 0 0] 29)
        have hsz := hbx.size
        have lt_N := FN73.out.lt
        have lt_Z := FZ73.out.lt
        have FI76 : Hid ((W71.alloc (.cells #[.int .i64 2, .int .i64 0, .string ⟨#[]⟩, .slice none 0 0, .slice none 0 0] 29)).ownsRow w.heap.size 29 5 (.slice (some ⟨W71.heap.size, 0, none⟩) 1 1) 1 [.int .i64 2, .int .i64 0, .string ⟨#[]⟩, .slice none 0 0, .slice none 0 0]) := Lib.hid (World.ownsRow_lit W71 _ 1 HB72.out.size (by decide) rfl)
        have FN77 := Lib.hid (RowIs.keep (W' := W71.alloc (.cells #[.int .i64 2, .int .i64 0, .string ⟨#[]⟩, .slice none 0 0, .slice none 0 0] 29)) FN73.out hsz (below_old hbx lt_N))
        have FZ77 := Lib.hid (blk_keep (W' := W71.alloc (.cells #[.int .i64 2, .int .i64 0, .string ⟨#[]⟩, .slice none 0 0, .slice none 0 0] 29)) FZ73.out (below_old hbx lt_Z))
        clear hHeld
        refine hK.out _ _ ?_ (fun hHeld => ?_)
        · exact HB75.out
        clear hK K
        obtain ⟨W74, hWn⟩ : ∃ Wn, W71.alloc (.cells #[.int .i64 2, .int .i64 0, .string ⟨#[]⟩, .slice none 0 0, .slice none 0 0] 29) = Wn := ⟨_, rfl⟩
        obtain ⟨aM, ha⟩ : ∃ a, W71.heap.size = a := ⟨_, rfl⟩
        rw [hWn] at HB75 FI76 FN77 FZ77 hHeld ⊢
        rw [ha] at FI76 ⊢
        have N78 : Hid (g1 ≠ aM) := Lib.hid (by omega)
        have N79 : Hid (ga ≠ aM) := Lib.hid (by omega)
        clear hWn ha hbx hsz lt_N lt_Z FN73 FZ73 HB72
        try simp only [Act.put, List.setIfInBounds_toArray, List.set_cons_zero, List.set_cons_succ]
        refine wpAnyH_ready (rs := [10]) (by kernel_rfl) (by simp) ?_
        refine AllReadyH.cons (o := _) (by simp only [List.getElem?_toArray, List.getElem?_cons_succ, List.getElem?_cons_zero]; rfl) (fun K hK => ?_) AllReadyH.nil
        refine step_append_any _ (by rfl) (.tmp 23) (.tmp 26) 27 (by rfl) w.heap.size 29 i2 _ 5 80 Tryz.underlying27 hj hz0 hz1 hz2 (by rfl) (by decide) _ 1 [.int .i64 2, .int .i64 0, .string ⟨#[]⟩, .slice none 0 0, .slice none 0 0] (by rfl) FI76.out w.heap.size (some ⟨b2, o2, none⟩) 2 c2 nV (by rfl) (HRV.out.below HB75.out) HOV.out (by decide) (by decide) HB75.out.size ?_
        intro v W80 hown hgrow hloc
        have hsz := hgrow.size
        have hbb := (World.ownsRow.lt FI76.out aM rfl).1
        have HB81 := Lib.hid (HB75.out.grown hgrow HB75.out.size (fun k hk => by
          have hk' : some aM = some k := hk
          injection hk' with hk'
          omega))
        have lt_N := FN77.out.lt
        have lt_Z := FZ77.out.lt
        have lt_I := own_lt FI76.out
        have FN82 := Lib.hid (RowIs.keep (W' := W80) FN77.out hsz (hgrow.block g1 lt_N (fun e => N78.out (Option.some.inj e))))
        have FZ82 := Lib.hid (blk_keep (W' := W80) FZ77.out (hgrow.block ga lt_Z (fun e => N79.out (Option.some.inj e))))
        obtain ⟨g2, d2, hv, hlen, hbase, hrow⟩ := rowIs_own (show W80.ownsRow w.heap.size 29 5 v (tru :: xs).length ([.int .i64 2, .int .i64 0, .string ⟨#[]⟩, .slice none 0 0, .slice none 0 0] ++ nV) by rw [HL2.out]; exact hown) HFV.out (by rw [HL2.out]; decide) (by rw [HL2.out]; decide)
        rw [HL2.out] at hv hlen
        subst hv
        have FI83 := Lib.hid hrow
        have HLEg2 := Lib.hid hlen
        have hor : g2 = aM ∨ g2 = W74.heap.size := by
          rcases hloc with h | h
          · exact .inl (Option.some.inj h)
          · exact .inr (Option.some.inj h)
        have N84 : Hid (g1 ≠ g2) := Lib.hid (by have := N78.out; omega)
        have N85 : Hid (ga ≠ g2) := Lib.hid (by have := N79.out; omega)
        clear hHeld
        refine hK.out _ _ ?_ (fun hHeld => ?_)
        · exact HB81.out
        clear hK K
        clear hsz hbb hown hgrow hloc hlen hbase hrow hor lt_N lt_Z lt_I FN77 FZ77 FI76 HB75
        try simp only [Act.put, List.setIfInBounds_toArray, List.set_cons_zero, List.set_cons_succ]
        refine wpAnyH_take (i := 11) (v := ?_) (by simp only [List.getElem?_toArray, List.getElem?_cons_succ, List.getElem?_cons_zero]; rfl) (by kernel_rfl) (by kernel_rfl) (by kernel_rfl) (fun _ _ _ h => h) (Or.inl ⟨by rfl, ?_⟩) (by assumption) ?_
        rotate_left
        · (intro w hSw; (try dsimp only at hSw); go_simp; try with_reducible rfl)
        try simp only [Act.put, List.setIfInBounds_toArray, List.set_cons_zero, List.set_cons_succ]
        refine wpAnyH_ready (rs := [13]) (by kernel_rfl) (by simp) ?_
        refine AllReadyH.cons (o := _) (by simp only [List.getElem?_toArray, List.getElem?_cons_succ, List.getElem?_cons_zero]; rfl) (fun K hK => ?_) AllReadyH.nil
        have z0 : W80.cell? ⟨ga, 0, none⟩ = some (.int .i64 0) := FZ82.out.cell 0
        have z1 : W80.cell? ⟨ga, 1, none⟩ = some (.int .i64 0) := FZ82.out.cell 1
        have z2 : W80.cell? ⟨ga, 2, none⟩ = some (.string ⟨#[]⟩) := FZ82.out.cell 2
        have z3 : W80.cell? ⟨ga, 3, none⟩ = some (.slice none 0 0) := FZ82.out.cell 3
        have z4 : W80.cell? ⟨ga, 4, none⟩ = some (.slice none 0 0) := FZ82.out.cell 4
        have zf := fun j => FZ82.out.frozen j
        go_simp
        have HB88 := Lib.hid (set5_bel HB81.out (HGA.out) (.int .i64 6) (.int .i64 0) (.string ⟨#[]⟩) (.slice (some ⟨g1, 0, none⟩) 3 d1) (.slice (some ⟨g2, 0, none⟩) 3 d2))
        clear hHeld
        refine hK.out _ _ ?_ (fun hHeld => ?_)
        · exact HB88.out
        clear hK K z0 z1 z2 z3 z4 zf
        have FZs : Hid (Blk (set5 W80 ga (.int .i64 6) (.int .i64 0) (.string ⟨#[]⟩) (.slice (some ⟨g1, 0, none⟩) 3 d1) (.slice (some ⟨g2, 0, none⟩) 3 d2)) ga 29 #[.int .i64 6, .int .i64 0, .string ⟨#[]⟩, .slice (some ⟨g1, 0, none⟩) 3 d1, .slice (some ⟨g2, 0, none⟩) 3 d2]) := Lib.hid (set5_blk FZ82.out _ _ _ _ _)
        have FNs := Lib.hid (RowIs.keep (W' := set5 W80 ga (.int .i64 6) (.int .i64 0) (.string ⟨#[]⟩) (.slice (some ⟨g1, 0, none⟩) 3 d1) (.slice (some ⟨g2, 0, none⟩) 3 d2)) FN82.out (Nat.le_of_eq (set5_size _ _ _ _ _).symm) (set5_far N70.out _ _ _ _ _))
        have FIs := Lib.hid (RowIs.keep (W' := set5 W80 ga (.int .i64 6) (.int .i64 0) (.string ⟨#[]⟩) (.slice (some ⟨g1, 0, none⟩) 3 d1) (.slice (some ⟨g2, 0, none⟩) 3 d2)) FI83.out (Nat.le_of_eq (set5_size _ _ _ _ _).symm) (set5_far (Ne.symm N85.out) _ _ _ _ _))
        obtain ⟨W88, hWn⟩ : ∃ Wn, set5 W80 ga (.int .i64 6) (.int .i64 0) (.string ⟨#[]⟩) (.slice (some ⟨g1, 0, none⟩) 3 d1) (.slice (some ⟨g2, 0, none⟩) 3 d2) = Wn := ⟨_, rfl⟩
        rw [hWn] at HB88 FZs FNs FIs
        change wpAnyH _ _ _ _ _ _ _ _ (set5 W80 ga (.int .i64 6) (.int .i64 0) (.string ⟨#[]⟩) (.slice (some ⟨g1, 0, none⟩) 3 d1) (.slice (some ⟨g2, 0, none⟩) 3 d2))
        rw [hWn]
        have hHeld := HB88.out
        clear hWn
        try simp only [Act.put, List.setIfInBounds_toArray, List.set_cons_zero, List.set_cons_succ]
        refine wpAnyH_done (by kernel_rfl) ?_ _
        refine NoPanic.normal ?_
        go_wp2_with fail
        go_meet
        case rel => exact ⟨ga, g1, d1, g2, d2, rfl, HLEg1, FZs, FNs, FIs, HB88⟩
      refine AllReadyH.cons (o := _) (by simp only [List.getElem?_toArray, List.getElem?_cons_succ, List.getElem?_cons_zero]; rfl) (fun K hK => ?_) AllReadyH.nil
      go_simp
      have HB90 := Lib.hid (HB2.out.alloc HB2.out.size (.cells #[.int .i64 0, .int .i64 0, .string ⟨#[]⟩, .slice none 0 0, .slice none 0 0] 29))
      have hbx := below_alloc W1 (.cells #[.int .i64 0, .int .i64 0, .string ⟨#[]⟩, .slice none 0 0, .slice none 0 0] 29)
      have hsz := hbx.size
      have lt_N := own_lt FN3.out
      have FZ91 : Hid (Blk (W1.alloc (.cells #[.int .i64 0, .int .i64 0, .string ⟨#[]⟩, .slice none 0 0, .slice none 0 0] 29)) W1.heap.size 29 #[.int .i64 0, .int .i64 0, .string ⟨#[]⟩, .slice none 0 0, .slice none 0 0]) := Lib.hid (Blk.new W1 29 #[.int .i64 0, .int .i64 0, .string ⟨#[]⟩, .slice none 0 0, .slice none 0 0])
      have FN92 := Lib.hid (own_keep (W' := W1.alloc (.cells #[.int .i64 0, .int .i64 0, .string ⟨#[]⟩, .slice none 0 0, .slice none 0 0] 29)) FN3.out (below_old hbx lt_N))
      clear hHeld
      refine hK.out _ _ ?_ (fun hHeld => ?_)
      · exact HB90.out
      clear hK K
      obtain ⟨W89, hWn⟩ : ∃ Wn, W1.alloc (.cells #[.int .i64 0, .int .i64 0, .string ⟨#[]⟩, .slice none 0 0, .slice none 0 0] 29) = Wn := ⟨_, rfl⟩
      obtain ⟨ga, ha⟩ : ∃ a, W1.heap.size = a := ⟨_, rfl⟩
      have HGA : Hid (w.heap.size ≤ ga) := Lib.hid (by have := HB2.out.size; omega)
      rw [hWn] at HB90 FZ91 FN92 hHeld ⊢
      rw [ha] at FZ91 ⊢
      have N93 : Hid (aL ≠ ga) := Lib.hid (by omega)
      clear hWn ha hbx hsz lt_N FN3 HB2
      try simp only [Act.put, List.setIfInBounds_toArray, List.set_cons_zero, List.set_cons_succ]
      refine wpAnyH_ready (rs := [4]) (by kernel_rfl) (by simp) ?_
      refine AllReadyH.cons (o := _) (by simp only [List.getElem?_toArray, List.getElem?_cons_succ, List.getElem?_cons_zero]; rfl) (fun K hK => ?_) AllReadyH.nil
      refine step_append_any _ (by rfl) (.tmp 17) (.tmp 20) 26 (by rfl) w.heap.size 9 i1 _ 1 16 Tryz.underlying26 hi hy0 hy1 hy2 (by rfl) (by decide) _ 1 [.string okT] (by rfl) FN92.out w.heap.size (some ⟨b1, o1, none⟩) 2 c1 nS (by rfl) (HRS.out.below HB90.out) HOS.out (by decide) (by decide) HB90.out.size ?_
      intro v W94 hown hgrow hloc
      have hsz := hgrow.size
      have hbb := (World.ownsRow.lt FN92.out aL rfl).1
      have HB95 := Lib.hid (HB90.out.grown hgrow HB90.out.size (fun k hk => by
        have hk' : some aL = some k := hk
        injection hk' with hk'
        omega))
      have lt_N := own_lt FN92.out
      have lt_Z := FZ91.out.lt
      have FZ96 := Lib.hid (blk_keep (W' := W94) FZ91.out (hgrow.block ga lt_Z (fun e => (Ne.symm N93.out) (Option.some.inj e))))
      obtain ⟨g1, d1, hv, hlen, hbase, hrow⟩ := rowIs_own (show W94.ownsRow w.heap.size 9 1 v (okT :: ns).length ([.string okT] ++ nS) by rw [HL1.out]; exact hown) HFS.out (by rw [HL1.out]; decide) (by rw [HL1.out]; decide)
      rw [HL1.out] at hv hlen
      subst hv
      have FN97 := Lib.hid hrow
      have HLEg1 := Lib.hid hlen
      have hor : g1 = aL ∨ g1 = W89.heap.size := by
        rcases hloc with h | h
        · exact .inl (Option.some.inj h)
        · exact .inr (Option.some.inj h)
      have N98 : Hid (ga ≠ g1) := Lib.hid (by have := (Ne.symm N93.out); omega)
      clear hHeld
      refine hK.out _ _ ?_ (fun hHeld => ?_)
      · exact HB95.out
      clear hK K
      clear hsz hbb hown hgrow hloc hlen hbase hrow hor lt_N lt_Z FZ91 FN92 HB90
      try simp only [Act.put, List.setIfInBounds_toArray, List.set_cons_zero, List.set_cons_succ]
      refine wpAnyH_ready (rs := [5]) (by kernel_rfl) (by simp) ?_
      refine AllReadyH.cons (o := _) (by simp only [List.getElem?_toArray, List.getElem?_cons_succ, List.getElem?_cons_zero]; rfl) (fun K hK => ?_) AllReadyH.nil
      go_simp
      go_at_call 36
      refine (r16truth_any W94 true).mono ?_
      rintro e W99 ⟨rfl, hb⟩
      have HB100 := Lib.hid (bel_next HB95.out hb)
      have hsz := hb.size
      have hbx := hb
      have lt_N := FN97.out.lt
      have lt_Z := FZ96.out.lt
      have FN101 := Lib.hid (RowIs.keep (W' := W99) FN97.out hsz (below_old hb lt_N))
      have FZ101 := Lib.hid (blk_keep (W' := W99) FZ96.out (below_old hb lt_Z))
      clear hHeld
      refine hK.out _ _ ?_ (fun hHeld => ?_)
      · exact HB100.out
      clear hK K
      clear hb hbx hsz lt_N lt_Z FN97 FZ96 HB95
      try simp only [Act.put, List.setIfInBounds_toArray, List.set_cons_zero, List.set_cons_succ]
      refine wpAnyH_ready (rs := [6]) (by kernel_rfl) (by simp) ?_
      refine AllReadyH.cons (o := _) (by simp only [List.getElem?_toArray, List.getElem?_cons_succ, List.getElem?_cons_zero]; rfl) (fun K hK => ?_) AllReadyH.nil
      go_simp
      have HB103 := Lib.hid (HB100.out.alloc HB100.out.size (.cells #[.int .i64 2, .int .i64 0, .string ⟨#[]⟩, .slice none 0 0, .slice none 0 0] 29))
      have hbx := below_alloc W99 (.cells #[.int .i64 2, .int .i64 0, .string ⟨#[]⟩, .slice none 0 0, .slice none 0 0] 29)
      have hsz := hbx.size
      have lt_N := FN101.out.lt
      have lt_Z := FZ101.out.lt
      have FI104 : Hid ((W99.alloc (.cells #[.int .i64 2, .int .i64 0, .string ⟨#[]⟩, .slice none 0 0, .slice none 0 0] 29)).ownsRow w.heap.size 29 5 (.slice (some ⟨W99.heap.size, 0, none⟩) 1 1) 1 [.int .i64 2, .int .i64 0, .string ⟨#[]⟩, .slice none 0 0, .slice none 0 0]) := Lib.hid (World.ownsRow_lit W99 _ 1 HB100.out.size (by decide) rfl)
      have FN105 := Lib.hid (RowIs.keep (W' := W99.alloc (.cells #[.int .i64 2, .int .i64 0, .string ⟨#[]⟩, .slice none 0 0, .slice none 0 0] 29)) FN101.out hsz (below_old hbx lt_N))
      have FZ105 := Lib.hid (blk_keep (W' := W99.alloc (.cells #[.int .i64 2, .int .i64 0, .string ⟨#[]⟩, .slice none 0 0, .slice none 0 0] 29)) FZ101.out (below_old hbx lt_Z))
      clear hHeld
      refine hK.out _ _ ?_ (fun hHeld => ?_)
      · exact HB103.out
      clear hK K
      obtain ⟨W102, hWn⟩ : ∃ Wn, W99.alloc (.cells #[.int .i64 2, .int .i64 0, .string ⟨#[]⟩, .slice none 0 0, .slice none 0 0] 29) = Wn := ⟨_, rfl⟩
      obtain ⟨aM, ha⟩ : ∃ a, W99.heap.size = a := ⟨_, rfl⟩
      rw [hWn] at HB103 FI104 FN105 FZ105 hHeld ⊢
      rw [ha] at FI104 ⊢
      have N106 : Hid (g1 ≠ aM) := Lib.hid (by omega)
      have N107 : Hid (ga ≠ aM) := Lib.hid (by omega)
      clear hWn ha hbx hsz lt_N lt_Z FN101 FZ101 HB100
      try simp only [Act.put, List.setIfInBounds_toArray, List.set_cons_zero, List.set_cons_succ]
      refine wpAnyH_ready (rs := [10]) (by kernel_rfl) (by simp) ?_
      refine AllReadyH.cons (o := _) (by simp only [List.getElem?_toArray, List.getElem?_cons_succ, List.getElem?_cons_zero]; rfl) (fun K hK => ?_) AllReadyH.nil
      refine step_append_any _ (by rfl) (.tmp 23) (.tmp 26) 27 (by rfl) w.heap.size 29 i2 _ 5 80 Tryz.underlying27 hj hz0 hz1 hz2 (by rfl) (by decide) _ 1 [.int .i64 2, .int .i64 0, .string ⟨#[]⟩, .slice none 0 0, .slice none 0 0] (by rfl) FI104.out w.heap.size (some ⟨b2, o2, none⟩) 2 c2 nV (by rfl) (HRV.out.below HB103.out) HOV.out (by decide) (by decide) HB103.out.size ?_
      intro v W108 hown hgrow hloc
      have hsz := hgrow.size
      have hbb := (World.ownsRow.lt FI104.out aM rfl).1
      have HB109 := Lib.hid (HB103.out.grown hgrow HB103.out.size (fun k hk => by
        have hk' : some aM = some k := hk
        injection hk' with hk'
        omega))
      have lt_N := FN105.out.lt
      have lt_Z := FZ105.out.lt
      have lt_I := own_lt FI104.out
      have FN110 := Lib.hid (RowIs.keep (W' := W108) FN105.out hsz (hgrow.block g1 lt_N (fun e => N106.out (Option.some.inj e))))
      have FZ110 := Lib.hid (blk_keep (W' := W108) FZ105.out (hgrow.block ga lt_Z (fun e => N107.out (Option.some.inj e))))
      obtain ⟨g2, d2, hv, hlen, hbase, hrow⟩ := rowIs_own (show W108.ownsRow w.heap.size 29 5 v (tru :: xs).length ([.int .i64 2, .int .i64 0, .string ⟨#[]⟩, .slice none 0 0, .slice none 0 0] ++ nV) by rw [HL2.out]; exact hown) HFV.out (by rw [HL2.out]; decide) (by rw [HL2.out]; decide)
      rw [HL2.out] at hv hlen
      subst hv
      have FI111 := Lib.hid hrow
      have HLEg2 := Lib.hid hlen
      have hor : g2 = aM ∨ g2 = W102.heap.size := by
        rcases hloc with h | h
        · exact .inl (Option.some.inj h)
        · exact .inr (Option.some.inj h)
      have N112 : Hid (g1 ≠ g2) := Lib.hid (by have := N106.out; omega)
      have N113 : Hid (ga ≠ g2) := Lib.hid (by have := N107.out; omega)
      clear hHeld
      refine hK.out _ _ ?_ (fun hHeld => ?_)
      · exact HB109.out
      clear hK K
      clear hsz hbb hown hgrow hloc hlen hbase hrow hor lt_N lt_Z lt_I FN105 FZ105 FI104 HB103
      try simp only [Act.put, List.setIfInBounds_toArray, List.set_cons_zero, List.set_cons_succ]
      refine wpAnyH_take (i := 11) (v := ?_) (by simp only [List.getElem?_toArray, List.getElem?_cons_succ, List.getElem?_cons_zero]; rfl) (by kernel_rfl) (by kernel_rfl) (by kernel_rfl) (fun _ _ _ h => h) (Or.inl ⟨by rfl, ?_⟩) (by assumption) ?_
      rotate_left
      · (intro w hSw; (try dsimp only at hSw); go_simp; try with_reducible rfl)
      try simp only [Act.put, List.setIfInBounds_toArray, List.set_cons_zero, List.set_cons_succ]
      refine wpAnyH_ready (rs := [13]) (by kernel_rfl) (by simp) ?_
      refine AllReadyH.cons (o := _) (by simp only [List.getElem?_toArray, List.getElem?_cons_succ, List.getElem?_cons_zero]; rfl) (fun K hK => ?_) AllReadyH.nil
      have z0 : W108.cell? ⟨ga, 0, none⟩ = some (.int .i64 0) := FZ110.out.cell 0
      have z1 : W108.cell? ⟨ga, 1, none⟩ = some (.int .i64 0) := FZ110.out.cell 1
      have z2 : W108.cell? ⟨ga, 2, none⟩ = some (.string ⟨#[]⟩) := FZ110.out.cell 2
      have z3 : W108.cell? ⟨ga, 3, none⟩ = some (.slice none 0 0) := FZ110.out.cell 3
      have z4 : W108.cell? ⟨ga, 4, none⟩ = some (.slice none 0 0) := FZ110.out.cell 4
      have zf := fun j => FZ110.out.frozen j
      go_simp
      have HB116 := Lib.hid (set5_bel HB109.out (HGA.out) (.int .i64 6) (.int .i64 0) (.string ⟨#[]⟩) (.slice (some ⟨g1, 0, none⟩) 3 d1) (.slice (some ⟨g2, 0, none⟩) 3 d2))
      clear hHeld
      refine hK.out _ _ ?_ (fun hHeld => ?_)
      · exact HB116.out
      clear hK K z0 z1 z2 z3 z4 zf
      have FZs : Hid (Blk (set5 W108 ga (.int .i64 6) (.int .i64 0) (.string ⟨#[]⟩) (.slice (some ⟨g1, 0, none⟩) 3 d1) (.slice (some ⟨g2, 0, none⟩) 3 d2)) ga 29 #[.int .i64 6, .int .i64 0, .string ⟨#[]⟩, .slice (some ⟨g1, 0, none⟩) 3 d1, .slice (some ⟨g2, 0, none⟩) 3 d2]) := Lib.hid (set5_blk FZ110.out _ _ _ _ _)
      have FNs := Lib.hid (RowIs.keep (W' := set5 W108 ga (.int .i64 6) (.int .i64 0) (.string ⟨#[]⟩) (.slice (some ⟨g1, 0, none⟩) 3 d1) (.slice (some ⟨g2, 0, none⟩) 3 d2)) FN110.out (Nat.le_of_eq (set5_size _ _ _ _ _).symm) (set5_far (Ne.symm N98.out) _ _ _ _ _))
      have FIs := Lib.hid (RowIs.keep (W' := set5 W108 ga (.int .i64 6) (.int .i64 0) (.string ⟨#[]⟩) (.slice (some ⟨g1, 0, none⟩) 3 d1) (.slice (some ⟨g2, 0, none⟩) 3 d2)) FI111.out (Nat.le_of_eq (set5_size _ _ _ _ _).symm) (set5_far (Ne.symm N113.out) _ _ _ _ _))
      obtain ⟨W116, hWn⟩ : ∃ Wn, set5 W108 ga (.int .i64 6) (.int .i64 0) (.string ⟨#[]⟩) (.slice (some ⟨g1, 0, none⟩) 3 d1) (.slice (some ⟨g2, 0, none⟩) 3 d2) = Wn := ⟨_, rfl⟩
      rw [hWn] at HB116 FZs FNs FIs
      change wpAnyH _ _ _ _ _ _ _ _ (set5 W108 ga (.int .i64 6) (.int .i64 0) (.string ⟨#[]⟩) (.slice (some ⟨g1, 0, none⟩) 3 d1) (.slice (some ⟨g2, 0, none⟩) 3 d2))
      rw [hWn]
      have hHeld := HB116.out
      clear hWn
      try simp only [Act.put, List.setIfInBounds_toArray, List.set_cons_zero, List.set_cons_succ]
      refine wpAnyH_done (by kernel_rfl) ?_ _
      refine NoPanic.normal ?_
      go_wp2_with fail
      go_meet
      case rel => exact ⟨ga, g1, d1, g2, d2, rfl, HLEg1, FZs, FNs, FIs, HB116⟩
    refine AllReadyH.cons (o := _) (by simp only [List.getElem?_toArray, List.getElem?_cons_succ, List.getElem?_cons_zero]; rfl) (fun K hK => ?_) AllReadyH.nil
    go_simp
    have HB118 := Lib.hid (HBd.out.alloc HBd.out.size (.cells #[.int .i64 0, .int .i64 0, .string ⟨#[]⟩, .slice none 0 0, .slice none 0 0] 29))
    have hbx := below_alloc W0 (.cells #[.int .i64 0, .int .i64 0, .string ⟨#[]⟩, .slice none 0 0, .slice none 0 0] 29)
    have hsz := hbx.size
    have FZ119 : Hid (Blk (W0.alloc (.cells #[.int .i64 0, .int .i64 0, .string ⟨#[]⟩, .slice none 0 0, .slice none 0 0] 29)) W0.heap.size 29 #[.int .i64 0, .int .i64 0, .string ⟨#[]⟩, .slice none 0 0, .slice none 0 0]) := Lib.hid (Blk.new W0 29 #[.int .i64 0, .int .i64 0, .string ⟨#[]⟩, .slice none 0 0, .slice none 0 0])
    clear hHeld
    refine hK.out _ _ ?_ (fun hHeld => ?_)
    · exact HB118.out
    clear hK K
    obtain ⟨W117, hWn⟩ : ∃ Wn, W0.alloc (.cells #[.int .i64 0, .int .i64 0, .string ⟨#[]⟩, .slice none 0 0, .slice none 0 0] 29) = Wn := ⟨_, rfl⟩
    obtain ⟨ga, ha⟩ : ∃ a, W0.heap.size = a := ⟨_, rfl⟩
    have HGA : Hid (w.heap.size ≤ ga) := Lib.hid (by have := HBd.out.size; omega)
    rw [hWn] at HB118 FZ119 hHeld ⊢
    rw [ha] at FZ119 ⊢
    clear hWn ha hbx hsz   HBd
    try simp only [Act.put, List.setIfInBounds_toArray, List.set_cons_zero, List.set_cons_succ]
    refine wpAnyH_ready (rs := [0]) (by kernel_rfl) (by simp) ?_
    refine AllReadyH.cons (o := _) (by simp only [List.getElem?_toArray, List.getElem?_cons_succ, List.getElem?_cons_zero]; rfl) (fun K hK => ?_) AllReadyH.nil
    go_simp
    have HB122 := Lib.hid (HB118.out.alloc HB118.out.size (.cells #[.string ⟨#[111, 107]⟩] 9))
    have hbx := below_alloc W117 (.cells #[.string ⟨#[111, 107]⟩] 9)
    have hsz := hbx.size
    have lt_Z := FZ119.out.lt
    have FN123 : Hid ((W117.alloc (.cells #[.string ⟨#[111, 107]⟩] 9)).ownsRow w.heap.size 9 1 (.slice (some ⟨W117.heap.size, 0, none⟩) 1 1) 1 [.string okT]) := Lib.hid (World.ownsRow_lit W117 _ 1 HB118.out.size (by decide) rfl)
    have FZ124 := Lib.hid (blk_keep (W' := W117.alloc (.cells #[.string ⟨#[111, 107]⟩] 9)) FZ119.out (below_old hbx lt_Z))
    clear hHeld
    refine hK.out _ _ ?_ (fun hHeld => ?_)
    · exact HB122.out
    clear hK K
    obtain ⟨W121, hWn⟩ : ∃ Wn, W117.alloc (.cells #[.string ⟨#[111, 107]⟩] 9) = Wn := ⟨_, rfl⟩
    obtain ⟨aL, ha⟩ : ∃ a, W117.heap.size = a := ⟨_, rfl⟩
    rw [hWn] at HB122 FN123 FZ124 hHeld ⊢
    rw [ha] at FN123 ⊢
    have N125 : Hid (ga ≠ aL) := Lib.hid (by omega)
    clear hWn ha hbx hsz lt_Z FZ119 HB118
    try simp only [Act.put, List.setIfInBounds_toArray, List.set_cons_zero, List.set_cons_succ]
    refine wpAnyH_ready (rs := [4]) (by kernel_rfl) (by simp) ?_
    refine AllReadyH.cons (o := _) (by simp only [List.getElem?_toArray, List.getElem?_cons_succ, List.getElem?_cons_zero]; rfl) (fun K hK => ?_) AllReadyH.nil
    refine step_append_any _ (by rfl) (.tmp 17) (.tmp 20) 26 (by rfl) w.heap.size 9 i1 _ 1 16 Tryz.underlying26 hi hy0 hy1 hy2 (by rfl) (by decide) _ 1 [.string okT] (by rfl) FN123.out w.heap.size (some ⟨b1, o1, none⟩) 2 c1 nS (by rfl) (HRS.out.below HB122.out) HOS.out (by decide) (by decide) HB122.out.size ?_
    intro v W126 hown hgrow hloc
    have hsz := hgrow.size
    have hbb := (World.ownsRow.lt FN123.out aL rfl).1
    have HB127 := Lib.hid (HB122.out.grown hgrow HB122.out.size (fun k hk => by
      have hk' : some aL = some k := hk
      injection hk' with hk'
      omega))
    have lt_Z := FZ124.out.lt
    have lt_N := own_lt FN123.out
    have FZ128 := Lib.hid (blk_keep (W' := W126) FZ124.out (hgrow.block ga lt_Z (fun e => N125.out (Option.some.inj e))))
    obtain ⟨g1, d1, hv, hlen, hbase, hrow⟩ := rowIs_own (show W126.ownsRow w.heap.size 9 1 v (okT :: ns).length ([.string okT] ++ nS) by rw [HL1.out]; exact hown) HFS.out (by rw [HL1.out]; decide) (by rw [HL1.out]; decide)
    rw [HL1.out] at hv hlen
    subst hv
    have FN129 := Lib.hid hrow
    have HLEg1 := Lib.hid hlen
    have hor : g1 = aL ∨ g1 = W121.heap.size := by
      rcases hloc with h | h
      · exact .inl (Option.some.inj h)
      · exact .inr (Option.some.inj h)
    have N130 : Hid (ga ≠ g1) := Lib.hid (by have := N125.out; omega)
    clear hHeld
    refine hK.out _ _ ?_ (fun hHeld => ?_)
    · exact HB127.out
    clear hK K
    clear hsz hbb hown hgrow hloc hlen hbase hrow hor lt_Z lt_N FZ124 FN123 HB122
    try simp only [Act.put, List.setIfInBounds_toArray, List.set_cons_zero, List.set_cons_succ]
    refine wpAnyH_ready (rs := [5]) (by kernel_rfl) (by simp) ?_
    refine AllReadyH.cons (o := _) (by simp only [List.getElem?_toArray, List.getElem?_cons_succ, List.getElem?_cons_zero]; rfl) (fun K hK => ?_) AllReadyH.nil
    go_simp
    go_at_call 36
    refine (r16truth_any W126 true).mono ?_
    rintro e W131 ⟨rfl, hb⟩
    have HB132 := Lib.hid (bel_next HB127.out hb)
    have hsz := hb.size
    have hbx := hb
    have lt_Z := FZ128.out.lt
    have lt_N := FN129.out.lt
    have FZ133 := Lib.hid (blk_keep (W' := W131) FZ128.out (below_old hb lt_Z))
    have FN133 := Lib.hid (RowIs.keep (W' := W131) FN129.out hsz (below_old hb lt_N))
    clear hHeld
    refine hK.out _ _ ?_ (fun hHeld => ?_)
    · exact HB132.out
    clear hK K
    clear hb hbx hsz lt_Z lt_N FZ128 FN129 HB127
    try simp only [Act.put, List.setIfInBounds_toArray, List.set_cons_zero, List.set_cons_succ]
    refine wpAnyH_ready (rs := [6]) (by kernel_rfl) (by simp) ?_
    refine AllReadyH.cons (o := _) (by simp only [List.getElem?_toArray, List.getElem?_cons_succ, List.getElem?_cons_zero]; rfl) (fun K hK => ?_) AllReadyH.nil
    go_simp
    have HB135 := Lib.hid (HB132.out.alloc HB132.out.size (.cells #[.int .i64 2, .int .i64 0, .string ⟨#[]⟩, .slice none 0 0, .slice none 0 0] 29))
    have hbx := below_alloc W131 (.cells #[.int .i64 2, .int .i64 0, .string ⟨#[]⟩, .slice none 0 0, .slice none 0 0] 29)
    have hsz := hbx.size
    have lt_Z := FZ133.out.lt
    have lt_N := FN133.out.lt
    have FI136 : Hid ((W131.alloc (.cells #[.int .i64 2, .int .i64 0, .string ⟨#[]⟩, .slice none 0 0, .slice none 0 0] 29)).ownsRow w.heap.size 29 5 (.slice (some ⟨W131.heap.size, 0, none⟩) 1 1) 1 [.int .i64 2, .int .i64 0, .string ⟨#[]⟩, .slice none 0 0, .slice none 0 0]) := Lib.hid (World.ownsRow_lit W131 _ 1 HB132.out.size (by decide) rfl)
    have FZ137 := Lib.hid (blk_keep (W' := W131.alloc (.cells #[.int .i64 2, .int .i64 0, .string ⟨#[]⟩, .slice none 0 0, .slice none 0 0] 29)) FZ133.out (below_old hbx lt_Z))
    have FN137 := Lib.hid (RowIs.keep (W' := W131.alloc (.cells #[.int .i64 2, .int .i64 0, .string ⟨#[]⟩, .slice none 0 0, .slice none 0 0] 29)) FN133.out hsz (below_old hbx lt_N))
    clear hHeld
    refine hK.out _ _ ?_ (fun hHeld => ?_)
    · exact HB135.out
    clear hK K
    obtain ⟨W134, hWn⟩ : ∃ Wn, W131.alloc (.cells #[.int .i64 2, .int .i64 0, .string ⟨#[]⟩, .slice none 0 0, .slice none 0 0] 29) = Wn := ⟨_, rfl⟩
    obtain ⟨aM, ha⟩ : ∃ a, W131.heap.size = a := ⟨_, rfl⟩
    rw [hWn] at HB135 FI136 FZ137 FN137 hHeld ⊢
    rw [ha] at FI136 ⊢
    have N138 : Hid (ga ≠ aM) := Lib.hid (by omega)
    have N139 : Hid (g1 ≠ aM) := Lib.hid (by omega)
    clear hWn ha hbx hsz lt_Z lt_N FZ133 FN133 HB132
    try simp only [Act.put, List.setIfInBounds_toArray, List.set_cons_zero, List.set_cons_succ]
    refine wpAnyH_ready (rs := [10]) (by kernel_rfl) (by simp) ?_
    refine AllReadyH.cons (o := _) (by simp only [List.getElem?_toArray, List.getElem?_cons_succ, List.getElem?_cons_zero]; rfl) (fun K hK => ?_) AllReadyH.nil
    refine step_append_any _ (by rfl) (.tmp 23) (.tmp 26) 27 (by rfl) w.heap.size 29 i2 _ 5 80 Tryz.underlying27 hj hz0 hz1 hz2 (by rfl) (by decide) _ 1 [.int .i64 2, .int .i64 0, .string ⟨#[]⟩, .slice none 0 0, .slice none 0 0] (by rfl) FI136.out w.heap.size (some ⟨b2, o2, none⟩) 2 c2 nV (by rfl) (HRV.out.below HB135.out) HOV.out (by decide) (by decide) HB135.out.size ?_
    intro v W140 hown hgrow hloc
    have hsz := hgrow.size
    have hbb := (World.ownsRow.lt FI136.out aM rfl).1
    have HB141 := Lib.hid (HB135.out.grown hgrow HB135.out.size (fun k hk => by
      have hk' : some aM = some k := hk
      injection hk' with hk'
      omega))
    have lt_Z := FZ137.out.lt
    have lt_N := FN137.out.lt
    have lt_I := own_lt FI136.out
    have FZ142 := Lib.hid (blk_keep (W' := W140) FZ137.out (hgrow.block ga lt_Z (fun e => N138.out (Option.some.inj e))))
    have FN142 := Lib.hid (RowIs.keep (W' := W140) FN137.out hsz (hgrow.block g1 lt_N (fun e => N139.out (Option.some.inj e))))
    obtain ⟨g2, d2, hv, hlen, hbase, hrow⟩ := rowIs_own (show W140.ownsRow w.heap.size 29 5 v (tru :: xs).length ([.int .i64 2, .int .i64 0, .string ⟨#[]⟩, .slice none 0 0, .slice none 0 0] ++ nV) by rw [HL2.out]; exact hown) HFV.out (by rw [HL2.out]; decide) (by rw [HL2.out]; decide)
    rw [HL2.out] at hv hlen
    subst hv
    have FI143 := Lib.hid hrow
    have HLEg2 := Lib.hid hlen
    have hor : g2 = aM ∨ g2 = W134.heap.size := by
      rcases hloc with h | h
      · exact .inl (Option.some.inj h)
      · exact .inr (Option.some.inj h)
    have N144 : Hid (ga ≠ g2) := Lib.hid (by have := N138.out; omega)
    have N145 : Hid (g1 ≠ g2) := Lib.hid (by have := N139.out; omega)
    clear hHeld
    refine hK.out _ _ ?_ (fun hHeld => ?_)
    · exact HB141.out
    clear hK K
    clear hsz hbb hown hgrow hloc hlen hbase hrow hor lt_Z lt_N lt_I FZ137 FN137 FI136 HB135
    try simp only [Act.put, List.setIfInBounds_toArray, List.set_cons_zero, List.set_cons_succ]
    refine wpAnyH_take (i := 11) (v := ?_) (by simp only [List.getElem?_toArray, List.getElem?_cons_succ, List.getElem?_cons_zero]; rfl) (by kernel_rfl) (by kernel_rfl) (by kernel_rfl) (fun _ _ _ h => h) (Or.inl ⟨by rfl, ?_⟩) (by assumption) ?_
    rotate_left
    · (intro w hSw; (try dsimp only at hSw); go_simp; try with_reducible rfl)
    try simp only [Act.put, List.setIfInBounds_toArray, List.set_cons_zero, List.set_cons_succ]
    refine wpAnyH_ready (rs := [13]) (by kernel_rfl) (by simp) ?_
    refine AllReadyH.cons (o := _) (by simp only [List.getElem?_toArray, List.getElem?_cons_succ, List.getElem?_cons_zero]; rfl) (fun K hK => ?_) AllReadyH.nil
    have z0 : W140.cell? ⟨ga, 0, none⟩ = some (.int .i64 0) := FZ142.out.cell 0
    have z1 : W140.cell? ⟨ga, 1, none⟩ = some (.int .i64 0) := FZ142.out.cell 1
    have z2 : W140.cell? ⟨ga, 2, none⟩ = some (.string ⟨#[]⟩) := FZ142.out.cell 2
    have z3 : W140.cell? ⟨ga, 3, none⟩ = some (.slice none 0 0) := FZ142.out.cell 3
    have z4 : W140.cell? ⟨ga, 4, none⟩ = some (.slice none 0 0) := FZ142.out.cell 4
    have zf := fun j => FZ142.out.frozen j
    go_simp
    have HB148 := Lib.hid (set5_bel HB141.out (HGA.out) (.int .i64 6) (.int .i64 0) (.string ⟨#[]⟩) (.slice (some ⟨g1, 0, none⟩) 3 d1) (.slice (some ⟨g2, 0, none⟩) 3 d2))
    clear hHeld
    refine hK.out _ _ ?_ (fun hHeld => ?_)
    · exact HB148.out
    clear hK K z0 z1 z2 z3 z4 zf
    have FZs : Hid (Blk (set5 W140 ga (.int .i64 6) (.int .i64 0) (.string ⟨#[]⟩) (.slice (some ⟨g1, 0, none⟩) 3 d1) (.slice (some ⟨g2, 0, none⟩) 3 d2)) ga 29 #[.int .i64 6, .int .i64 0, .string ⟨#[]⟩, .slice (some ⟨g1, 0, none⟩) 3 d1, .slice (some ⟨g2, 0, none⟩) 3 d2]) := Lib.hid (set5_blk FZ142.out _ _ _ _ _)
    have FNs := Lib.hid (RowIs.keep (W' := set5 W140 ga (.int .i64 6) (.int .i64 0) (.string ⟨#[]⟩) (.slice (some ⟨g1, 0, none⟩) 3 d1) (.slice (some ⟨g2, 0, none⟩) 3 d2)) FN142.out (Nat.le_of_eq (set5_size _ _ _ _ _).symm) (set5_far (Ne.symm N130.out) _ _ _ _ _))
    have FIs := Lib.hid (RowIs.keep (W' := set5 W140 ga (.int .i64 6) (.int .i64 0) (.string ⟨#[]⟩) (.slice (some ⟨g1, 0, none⟩) 3 d1) (.slice (some ⟨g2, 0, none⟩) 3 d2)) FI143.out (Nat.le_of_eq (set5_size _ _ _ _ _).symm) (set5_far (Ne.symm N144.out) _ _ _ _ _))
    obtain ⟨W148, hWn⟩ : ∃ Wn, set5 W140 ga (.int .i64 6) (.int .i64 0) (.string ⟨#[]⟩) (.slice (some ⟨g1, 0, none⟩) 3 d1) (.slice (some ⟨g2, 0, none⟩) 3 d2) = Wn := ⟨_, rfl⟩
    rw [hWn] at HB148 FZs FNs FIs
    change wpAnyH _ _ _ _ _ _ _ _ (set5 W140 ga (.int .i64 6) (.int .i64 0) (.string ⟨#[]⟩) (.slice (some ⟨g1, 0, none⟩) 3 d1) (.slice (some ⟨g2, 0, none⟩) 3 d2))
    rw [hWn]
    have hHeld := HB148.out
    clear hWn
    try simp only [Act.put, List.setIfInBounds_toArray, List.set_cons_zero, List.set_cons_succ]
    refine wpAnyH_done (by kernel_rfl) ?_ _
    refine NoPanic.normal ?_
    go_wp2_with fail
    go_meet
    case rel => exact ⟨ga, g1, d1, g2, d2, rfl, HLEg1, FZs, FNs, FIs, HB148⟩
  case rest =>
    obtain ⟨ga, g1, d1, g2, d2, rfl, HLE, HZ, HN, HI, HBW⟩ := hcut
    have HV4 := Lib.hid (obj_at (W' := wc) (c2 := d2) HL1.out HL2.out HLE.out (HN.out.lst (by rw [HL1.out]; decide)) (HI.out.lst (by rw [HL2.out]; decide)) (HW.out.trans (mono_below HBW.out)) (Nat.le_trans HC.out HBW.out.size))
    have x0 : wc.cell? ⟨ga, 0, none⟩ = some (.int .i64 6) := HZ.out.cell 0
    have x1 : wc.cell? ⟨ga, 1, none⟩ = some (.int .i64 0) := HZ.out.cell 1
    have x2 : wc.cell? ⟨ga, 2, none⟩ = some (.string ⟨#[]⟩) := HZ.out.cell 2
    have x3 : wc.cell? ⟨ga, 3, none⟩ = some (.slice (some ⟨g1, 0, none⟩) 3 d1) := HZ.out.cell 3
    have x4 : wc.cell? ⟨ga, 4, none⟩ = some (.slice (some ⟨g2, 0, none⟩) 3 d2) := HZ.out.cell 4
    have HPR := Lib.hid (rprint_any (gv ns xs) _ wc HV4.out HSZ.out HRG.out)
    unfold PrP at HPR
    obtain ⟨ps, pe, hp⟩ : ∃ ps pe, prt (gv ns xs) = (ps, pe) := ⟨_, _, rfl⟩
    have HGG : Hid (G = if pe = 0 then ps else bt pe) := Lib.hid (by rw [← HG.out]; unfold good; rw [hp])
    rw [hp] at HIN HPR
    clear hp HV4 HZ HN HI
    by_cases h0 : pe = 0
    · subst h0
      go_wp2_with (first | (go_at_call 37; refine HPR.out.mono ?_; rintro e w5 ⟨rfl, hb5⟩; have HB5 := Lib.hid (bel_next HBW.out hb5); clear hb5 x0 x1 x2 x3 x4) | go_in)
      go_ret
      exact ⟨by rw [HGG.out]; rfl, HB5.out⟩
    · have heb : (pe == 0) = false := by simp [h0]
      have HBE := Lib.hid (fun (w5 : World) => HBD.out pe w5 (by have := HIN.out; simp only [] at this; omega))
      have HG2 : Hid (G = bt pe) := Lib.hid (by rw [HGG.out, if_neg h0])
      clear h0
      go_wp2_with (first
        | (go_at_call 37; refine HPR.out.mono ?_; rintro e w5 ⟨rfl, hb5⟩; have HB5 := Lib.hid (bel_next HBW.out hb5); clear hb5 x0 x1 x2 x3 x4)
        | (go_at_call 38; refine (HBE.out w5).mono ?_; rintro e w6 ⟨rfl, hb6⟩)
        | go_in)
      go_ret
      exact ⟨by rw [HG2.out]; rfl, bel_next HB5.out hb6⟩
end Go.Proofs.YtnckhmfajjcgpaaGreatDoor.Mt
