/- Print, walked, on both sides. -/
import Derived.Test.YtnckhmfajjcgpaaGreatDoorMtF
import Derived.Test.YtnckhmfajjcgpaaGreatDoorMtA
import Derived.Lib.LazyBuf
import Derived.Deep.CutBlock
import Derived.Deep.CutRange
import Derived.Deep.RegionHeld3
import Derived.Deep.DrawnRows
set_option linter.unusedVariables false
set_option linter.unusedSimpArgs false
set_option linter.unusedSectionVars false
namespace Go.Proofs.YtnckhmfajjcgpaaGreatDoor.Mt
set_option linter.unusedVariables false
open Go.RowKit Go.Lib
/-- a value's text, or its fault -/
def prt (x : V) : ByteArray × Int := if chk x 0 ≠ 0 then (⟨#[]⟩, chk x 0) else if 65536 < (wrt x).length then (⟨#[]⟩, 1) else (⟨(wrt x).toArray⟩, 0)
theorem rcheck0_any (x : V) (cs : List Value) (w : World) (hx : x.At w w.heap.size cs) (hs : x.sz ≤ 4194304) : Calls Tryz.prog 69 #[.agg cs.toArray] w fun e w' => e = .returned (.int .i64 (chk x 0)) ∧ Below w.heap.size w w' := by
  obtain ⟨k, i, t, A1, n1, c1, A2, n2, c2, rfl⟩ := hx.form
  have hb := (Below.refl w.heap.size w).alloc (Nat.le_refl _) (.cells #[.int .i64 k, .int .i64 i, .string t, .slice A1 n1 c1, .slice A2 n2 c2] 29)
  have HB := Lib.hid hb
  obtain ⟨w1, hw1⟩ : ∃ w1, w.alloc (.cells #[.int .i64 k, .int .i64 i, .string t, .slice A1 n1 c1, .slice A2 n2 c2] 29) = w1 := ⟨_, rfl⟩
  rw [hw1] at hb HB
  have H := Lib.hid (rchk_any _ x _ w1 0 (Nat.lt_succ_self _) ((hx.below hb).more hb.size) hs (by omega))
  obtain ⟨c, hc⟩ : ∃ c, chk x 0 = c := ⟨_, rfl⟩
  have h0 : (((0 : Nat) : Int)) = 0 := rfl
  rw [h0, hc] at H
  rw [hc]
  clear hc h0 hb
  subst hw1
  go_enter Tryz.func69, Tryz.ntmps69
  go_wp2_with (first | (go_at_call 127; refine H.out.mono ?_; rintro e w9 ⟨rfl, hb9⟩) | go_in)
  go_ret
  exact ⟨rfl, bel_next HB.out hb9⟩
theorem mcheck0_any {T : Tbs} (HV : ValidOk T) (x : V) (cs : List Value) (w : World) (hx : x.At w w.heap.size cs) (hs : x.sz ≤ 4194304) (hT : T.P w) : Calls Tryz.prog 66 #[.agg cs.toArray] w fun e w' => e = .returned (.int .i64 (chk x 0)) ∧ Below w.heap.size w w' := by
  obtain ⟨k, i, t, A1, n1, c1, A2, n2, c2, rfl⟩ := hx.form
  have hb := (Below.refl w.heap.size w).alloc (Nat.le_refl _) (.cells #[.int .i64 k, .int .i64 i, .string t, .slice A1 n1 c1, .slice A2 n2 c2] 29)
  have HB := Lib.hid hb
  obtain ⟨w1, hw1⟩ : ∃ w1, w.alloc (.cells #[.int .i64 k, .int .i64 i, .string t, .slice A1 n1 c1, .slice A2 n2 c2] 29) = w1 := ⟨_, rfl⟩
  rw [hw1] at hb HB
  have H := Lib.hid (mchk_any HV _ x _ w1 0 (Nat.lt_succ_self _) ((hx.below hb).more hb.size) hs (by omega) (T.keep _ _ hT hb))
  obtain ⟨c, hc⟩ : ∃ c, chk x 0 = c := ⟨_, rfl⟩
  have h0 : (((0 : Nat) : Int)) = 0 := rfl
  rw [h0, hc] at H
  rw [hc]
  clear hc h0 hb
  subst hw1
  go_enter Tryz.func66, Tryz.ntmps66
  go_wp2_with (first | (go_at_call 124; refine H.out.mono ?_; rintro e w9 ⟨rfl, hb9⟩) | go_in)
  go_ret
  exact ⟨rfl, bel_next HB.out hb9⟩
def PrP (x : V) (w : World) : Ending → World → Prop := fun e w' => e = .returned (.tuple #[.string (prt x).1, .int .i64 (prt x).2]) ∧ Below w.heap.size w w'
set_option maxRecDepth 100000 in
set_option maxHeartbeats 8000000 in
theorem rprint_any (x : V) (cs : List Value) (w : World) (hx : x.At w w.heap.size cs) (hs : x.sz ≤ 4194304) (hr : x.rng) : Calls Tryz.prog 37 #[.agg cs.toArray] w (PrP x w) := by
  obtain ⟨k, i, t, A1, n1, c1, A2, n2, c2, rfl⟩ := hx.form
  have HX := Lib.hid hx
  have HS := Lib.hid hs
  have HR := Lib.hid hr
  clear hx hs hr
  go_enter Tryz.func37, Tryz.ntmps37
  go_upto_region 1 with fail
  have HBK := Lib.hid (Blk.new w 29 #[.int .i64 k, .int .i64 i, .string t, .slice A1 n1 c1, .slice A2 n2 c2])
  have HB := Lib.hid ((Below.refl w.heap.size w).alloc (Nat.le_refl _) (.cells #[.int .i64 k, .int .i64 i, .string t, .slice A1 n1 c1, .slice A2 n2 c2] 29))
  obtain ⟨w1, hw1⟩ : ∃ w1, w.alloc (.cells #[.int .i64 k, .int .i64 i, .string t, .slice A1 n1 c1, .slice A2 n2 c2] 29) = w1 := ⟨_, rfl⟩
  obtain ⟨g, hg⟩ : ∃ g, w.heap.size = g := ⟨_, rfl⟩
  rw [hw1] at HBK HB ⊢
  rw [hg] at HBK ⊢
  clear hw1 hg
  have d0 : w1.cell? ⟨g, 0, none⟩ = some (.int .i64 k) := HBK.out.cell 0
  have d1 : w1.cell? ⟨g, 1, none⟩ = some (.int .i64 i) := HBK.out.cell 1
  have d2 : w1.cell? ⟨g, 2, none⟩ = some (.string t) := HBK.out.cell 2
  have d3 : w1.cell? ⟨g, 3, none⟩ = some (.slice A1 n1 c1) := HBK.out.cell 3
  have d4 : w1.cell? ⟨g, 4, none⟩ = some (.slice A2 n2 c2) := HBK.out.cell 4
  have HCK := Lib.hid (rcheck0_any x _ w1 ((HX.out.below HB.out).more HB.out.size) HS.out)
  obtain ⟨c, hc⟩ : ∃ c, chk x 0 = c := ⟨_, rfl⟩
  rw [hc] at HCK
  have HC := Lib.hid hc
  clear hc
  by_cases h0 : c = 0
  · subst h0
    have HOK := Lib.hid (ok_of_chk x 0 HC.out)
    have HL : Hid ((wrt x).length ≤ 104857600) := Lib.hid (by have := wrt_len x HR.out; have := HS.out; omega)
    by_cases h65 : 65536 < (wrt x).length
    · have hli : (65536 : Int) < ((wrt x).length : Int) := by omega
      have HP : Hid (prt x = (⟨#[]⟩, 1)) := Lib.hid (by unfold prt; rw [HC.out, if_neg (by simp), if_pos h65])
      clear h65
      go_wp2_with (first
        | (go_at_call 69; refine HCK.out.mono ?_; rintro e w2 ⟨rfl, hb2⟩
           have HB2 := Lib.hid (bel_next HB.out hb2)
           have HK2 := Lib.hid (HBK.out.below hb2 HBK.out.lt)
           clear hb2 d0 d1 d2 d3 d4
           have d0 : w2.cell? ⟨g, 0, none⟩ = some (.int .i64 k) := HK2.out.cell 0
           have d1 : w2.cell? ⟨g, 1, none⟩ = some (.int .i64 i) := HK2.out.cell 1
           have d2 : w2.cell? ⟨g, 2, none⟩ = some (.string t) := HK2.out.cell 2
           have d3 : w2.cell? ⟨g, 3, none⟩ = some (.slice A1 n1 c1) := HK2.out.cell 3
           have d4 : w2.cell? ⟨g, 4, none⟩ = some (.slice A2 n2 c2) := HK2.out.cell 4)
        | (go_at_call 70; refine (rwr_any _ x _ w2 (Nat.lt_succ_self _) ((HX.out.below HB2.out).more HB2.out.size) HS.out HR.out HOK.out).mono ?_
           rintro e w3 ⟨ad, cc, rfl, hcell, hb3⟩
           have HB3 := Lib.hid (bel_next HB2.out hb3)
           clear hb3 hcell d0 d1 d2 d3 d4)
        | go_in)
      go_ret2
      exact ⟨by rw [HP.out]; rfl, HB3.out⟩
    · have hli : ¬ (65536 : Int) < ((wrt x).length : Int) := by omega
      have HP : Hid (prt x = (⟨(wrt x).toArray⟩, 0)) := Lib.hid (by unfold prt; rw [HC.out, if_neg (by simp), if_neg h65])
      clear h65
      go_wp2_with (first
        | (go_at_call 69; refine HCK.out.mono ?_; rintro e w2 ⟨rfl, hb2⟩
           have HB2 := Lib.hid (bel_next HB.out hb2)
           have HK2 := Lib.hid (HBK.out.below hb2 HBK.out.lt)
           clear hb2 d0 d1 d2 d3 d4
           have d0 : w2.cell? ⟨g, 0, none⟩ = some (.int .i64 k) := HK2.out.cell 0
           have d1 : w2.cell? ⟨g, 1, none⟩ = some (.int .i64 i) := HK2.out.cell 1
           have d2 : w2.cell? ⟨g, 2, none⟩ = some (.string t) := HK2.out.cell 2
           have d3 : w2.cell? ⟨g, 3, none⟩ = some (.slice A1 n1 c1) := HK2.out.cell 3
           have d4 : w2.cell? ⟨g, 4, none⟩ = some (.slice A2 n2 c2) := HK2.out.cell 4)
        | (go_at_call 70; refine (rwr_any _ x _ w2 (Nat.lt_succ_self _) ((HX.out.below HB2.out).more HB2.out.size) HS.out HR.out HOK.out).mono ?_
           rintro e w3 ⟨ad, cc, rfl, hcell, hb3⟩
           have HB3 := Lib.hid (bel_next HB2.out hb3)
           have hcv := run_convert_bytes_back (P := Tryz.prog) w3 152 9 5 ad cc (wrt x) Tryz.underlying152 Tryz.underlying5 Tryz.underlying9 (fun j hj => hcell j _ (bc_get _ j hj))
           clear hb3 hcell d0 d1 d2 d3 d4)
        | go_in)
      go_ret2
      exact ⟨by rw [HP.out]; rfl, HB3.out⟩
  · have hcb : (c == 0) = false := by simp [h0]
    have HP : Hid (prt x = (⟨#[]⟩, c)) := Lib.hid (by unfold prt; rw [HC.out, if_pos h0])
    clear h0
    go_wp2_with (first
      | (go_at_call 69; refine HCK.out.mono ?_; rintro e w2 ⟨rfl, hb2⟩
         have HB2 := Lib.hid (bel_next HB.out hb2)
         clear hb2 d0 d1 d2 d3 d4)
      | go_in)
    go_ret2
    exact ⟨by rw [HP.out]; rfl, HB2.out⟩
set_option maxRecDepth 100000 in
set_option maxHeartbeats 8000000 in
theorem mprint_any {C : Nat} (x : V) (cs : List Value) (w : World) (hT : TbP C w) (hx : x.At w w.heap.size cs) (hs : x.sz ≤ 4194304) (hr : x.rng) : Calls Tryz.prog 34 #[.agg cs.toArray] w (PrP x w) := by
  obtain ⟨k, i, t, A1, n1, c1, A2, n2, c2, rfl⟩ := hx.form
  have HX := Lib.hid hx
  have HS := Lib.hid hs
  have HR := Lib.hid hr
  have HT := Lib.hid hT
  clear hx hs hr hT
  go_enter Tryz.func34, Tryz.ntmps34
  go_upto_region 1 with fail
  have HBK := Lib.hid (Blk.new w 29 #[.int .i64 k, .int .i64 i, .string t, .slice A1 n1 c1, .slice A2 n2 c2])
  have HB := Lib.hid ((Below.refl w.heap.size w).alloc (Nat.le_refl _) (.cells #[.int .i64 k, .int .i64 i, .string t, .slice A1 n1 c1, .slice A2 n2 c2] 29))
  obtain ⟨w1, hw1⟩ : ∃ w1, w.alloc (.cells #[.int .i64 k, .int .i64 i, .string t, .slice A1 n1 c1, .slice A2 n2 c2] 29) = w1 := ⟨_, rfl⟩
  obtain ⟨g, hg⟩ : ∃ g, w.heap.size = g := ⟨_, rfl⟩
  rw [hw1] at HBK HB ⊢
  rw [hg] at HBK ⊢
  clear hw1 hg
  have d0 : w1.cell? ⟨g, 0, none⟩ = some (.int .i64 k) := HBK.out.cell 0
  have d1 : w1.cell? ⟨g, 1, none⟩ = some (.int .i64 i) := HBK.out.cell 1
  have d2 : w1.cell? ⟨g, 2, none⟩ = some (.string t) := HBK.out.cell 2
  have d3 : w1.cell? ⟨g, 3, none⟩ = some (.slice A1 n1 c1) := HBK.out.cell 3
  have d4 : w1.cell? ⟨g, 4, none⟩ = some (.slice A2 n2 c2) := HBK.out.cell 4
  have HCK := Lib.hid (mcheck0_any (valid_ok C) x _ w1 ((HX.out.below HB.out).more HB.out.size) HS.out (HT.out.keep HB.out HT.out.size))
  obtain ⟨c, hc⟩ : ∃ c, chk x 0 = c := ⟨_, rfl⟩
  rw [hc] at HCK
  have HC := Lib.hid hc
  clear hc
  by_cases h0 : c = 0
  · subst h0
    have HOK := Lib.hid (ok_of_chk x 0 HC.out)
    have HL : Hid ((wrt x).length ≤ 104857600) := Lib.hid (by have := wrt_len x HR.out; have := HS.out; omega)
    by_cases h65 : 65536 < (wrt x).length
    · have hli : (65536 : Int) < ((wrt x).length : Int) := by omega
      have HP : Hid (prt x = (⟨#[]⟩, 1)) := Lib.hid (by unfold prt; rw [HC.out, if_neg (by simp), if_pos h65])
      clear h65
      go_wp2_with (first
        | (go_at_call 66; refine HCK.out.mono ?_; rintro e w2 ⟨rfl, hb2⟩
           have HB2 := Lib.hid (bel_next HB.out hb2)
           have HK2 := Lib.hid (HBK.out.below hb2 HBK.out.lt)
           clear hb2 d0 d1 d2 d3 d4
           have d0 : w2.cell? ⟨g, 0, none⟩ = some (.int .i64 k) := HK2.out.cell 0
           have d1 : w2.cell? ⟨g, 1, none⟩ = some (.int .i64 i) := HK2.out.cell 1
           have d2 : w2.cell? ⟨g, 2, none⟩ = some (.string t) := HK2.out.cell 2
           have d3 : w2.cell? ⟨g, 3, none⟩ = some (.slice A1 n1 c1) := HK2.out.cell 3
           have d4 : w2.cell? ⟨g, 4, none⟩ = some (.slice A2 n2 c2) := HK2.out.cell 4)
        | (go_at_call 67; refine (mwr_any w2.heap.size C (Nat.le_trans HT.out.size HB2.out.size) _ x _ w2 (.slice none 0 0) [] (Nat.lt_succ_self _) ((HX.out.below HB2.out).more HB2.out.size) HS.out HR.out HOK.out (Nat.le_refl _) (HT.out.keep HB2.out HT.out.size) (Bs.none _ _) (by have := HL.out; simp; omega)).mono ?_
           rintro e w3 ⟨v3, rfl, hown, hf3⟩
           rw [List.nil_append] at hown
           obtain ⟨g3, cc, rfl, _, _, hcell⟩ := hown.form (wrt_ne x)
           have hb3 := hf3.bel
           have HB3 := Lib.hid (bel_next HB2.out hb3)
           clear hb3 hf3 hown hcell d0 d1 d2 d3 d4)
        | go_in)
      go_ret2
      exact ⟨by rw [HP.out]; rfl, HB3.out⟩
    · have hli : ¬ (65536 : Int) < ((wrt x).length : Int) := by omega
      have HP : Hid (prt x = (⟨(wrt x).toArray⟩, 0)) := Lib.hid (by unfold prt; rw [HC.out, if_neg (by simp), if_neg h65])
      clear h65
      go_wp2_with (first
        | (go_at_call 66; refine HCK.out.mono ?_; rintro e w2 ⟨rfl, hb2⟩
           have HB2 := Lib.hid (bel_next HB.out hb2)
           have HK2 := Lib.hid (HBK.out.below hb2 HBK.out.lt)
           clear hb2 d0 d1 d2 d3 d4
           have d0 : w2.cell? ⟨g, 0, none⟩ = some (.int .i64 k) := HK2.out.cell 0
           have d1 : w2.cell? ⟨g, 1, none⟩ = some (.int .i64 i) := HK2.out.cell 1
           have d2 : w2.cell? ⟨g, 2, none⟩ = some (.string t) := HK2.out.cell 2
           have d3 : w2.cell? ⟨g, 3, none⟩ = some (.slice A1 n1 c1) := HK2.out.cell 3
           have d4 : w2.cell? ⟨g, 4, none⟩ = some (.slice A2 n2 c2) := HK2.out.cell 4)
        | (go_at_call 67; refine (mwr_any w2.heap.size C (Nat.le_trans HT.out.size HB2.out.size) _ x _ w2 (.slice none 0 0) [] (Nat.lt_succ_self _) ((HX.out.below HB2.out).more HB2.out.size) HS.out HR.out HOK.out (Nat.le_refl _) (HT.out.keep HB2.out HT.out.size) (Bs.none _ _) (by have := HL.out; simp; omega)).mono ?_
           rintro e w3 ⟨v3, rfl, hown, hf3⟩
           rw [List.nil_append] at hown
           obtain ⟨g3, cc, rfl, _, _, hcell⟩ := hown.form (wrt_ne x)
           have hb3 := hf3.bel
           have HB3 := Lib.hid (bel_next HB2.out hb3)
           have hcv := run_convert_bytes_back (P := Tryz.prog) w3 152 9 5 ⟨g3, 0, none⟩ cc (wrt x) Tryz.underlying152 Tryz.underlying5 Tryz.underlying9 (fun j hj => hcell j _ (bc_get _ j hj))
           clear hb3 hf3 hown hcell d0 d1 d2 d3 d4)
        | go_in)
      go_ret2
      exact ⟨by rw [HP.out]; rfl, HB3.out⟩
  · have hcb : (c == 0) = false := by simp [h0]
    have HP : Hid (prt x = (⟨#[]⟩, c)) := Lib.hid (by unfold prt; rw [HC.out, if_pos h0])
    clear h0
    go_wp2_with (first
      | (go_at_call 66; refine HCK.out.mono ?_; rintro e w2 ⟨rfl, hb2⟩
         have HB2 := Lib.hid (bel_next HB.out hb2)
         clear hb2 d0 d1 d2 d3 d4)
      | go_in)
    go_ret2
    exact ⟨by rw [HP.out]; rfl, HB2.out⟩
end Go.Proofs.YtnckhmfajjcgpaaGreatDoor.Mt
namespace Go.Proofs.YtnckhmfajjcgpaaGreatDoor.Mt
set_option linter.unusedVariables false
open Go.RowKit
def zV : Value := .agg #[.int .i64 0, .int .i64 0, .string ⟨#[]⟩, .slice none 0 0, .slice none 0 0]
theorem infoS : (Tryz.prog.info? 9).map (fun i => (i.zero, i.size, i.bytes)) = some (some (.string ⟨#[]⟩), 1, 16) := by kernel_rfl
theorem infoV : (Tryz.prog.info? 29).map (fun i => (i.zero, i.size, i.bytes)) = some (some zV, 5, 80) := by kernel_rfl
/-- five cells of a block stored -/
def set5 (w : World) (g : Nat) (u0 u1 u2 u3 u4 : Value) : World := ((((w.setCell ⟨g, 0, none⟩ u0).setCell ⟨g, 1, none⟩ u1).setCell ⟨g, 2, none⟩ u2).setCell ⟨g, 3, none⟩ u3).setCell ⟨g, 4, none⟩ u4
theorem set5_bel {B g : Nat} {a w : World} (h : Below B a w) (hg : B ≤ g) (u0 u1 u2 u3 u4 : Value) : Below B a (set5 w g u0 u1 u2 u3 u4) :=
  ((((h.setCell (p := ⟨g, 0, none⟩) hg u0).setCell (p := ⟨g, 1, none⟩) hg u1).setCell (p := ⟨g, 2, none⟩) hg u2).setCell (p := ⟨g, 3, none⟩) hg u3).setCell (p := ⟨g, 4, none⟩) hg u4
theorem set5_far {g b : Nat} {w : World} (h : b ≠ g) (u0 u1 u2 u3 u4 : Value) : (set5 w g u0 u1 u2 u3 u4).heap[b]? = w.heap[b]? :=
  (Below.heap_setCell _ ⟨g, 4, none⟩ u4 b h).trans ((Below.heap_setCell _ ⟨g, 3, none⟩ u3 b h).trans ((Below.heap_setCell _ ⟨g, 2, none⟩ u2 b h).trans ((Below.heap_setCell _ ⟨g, 1, none⟩ u1 b h).trans (Below.heap_setCell _ ⟨g, 0, none⟩ u0 b h))))
theorem set5_size {g : Nat} {w : World} (u0 u1 u2 u3 u4 : Value) : (set5 w g u0 u1 u2 u3 u4).heap.size = w.heap.size := by simp [set5]

set_option maxRecDepth 100000 in
set_option maxHeartbeats 4000000 in
theorem cloneS_any (w : World) (A : Option Addr) (n c B : Nat) (l : List ByteArray) (hl : l.length = n) (h : Lst 1 StrR w B A l) (hB : B ≤ w.heap.size) :
    Calls Tryz.prog 68 #[.slice A n c] w fun e w' => ∃ A' c', e = .returned (.slice A' n c') ∧ n ≤ c' ∧ Lst 1 StrR (new w.heap.size w') w'.heap.size A' l ∧ Below w.heap.size w w' := by
  have hm : n ≤ 1048576 := by rw [← hl]; exact h.1
  obtain ⟨news, hfl, hrd⟩ := h.flat (by decide)
  rw [hl] at hrd
  have HFL := Lib.hid hfl
  have HON := Lib.hid (hfl.one (by decide) (fun _ _ h => StrR.one h))
  have HRD := Lib.hid hrd
  have HL := Lib.hid hl
  have HM := Lib.hid hm
  have HBB := Lib.hid hB
  cases A with
  | none =>
    have h0 : n = 0 := by
      rcases Nat.eq_zero_or_pos n with h0 | h0
      · exact h0
      · obtain ⟨b, off, e, _⟩ := h.2 (by omega)
        cases e
    subst h0
    have hln : l = [] := List.length_eq_zero_iff.1 hl
    have HLN := Lib.hid hln
    clear hln h hfl hrd hl hm hB
    have heq := fun (w : World) (a : Option Addr) (l c : Nat) => Go.run_eql_slice_nil (P := Tryz.prog) w 26 9 a l c Tryz.underlying26
    go_enter Tryz.func68, Tryz.ntmps68
    go_wp2
    go_ret
    exact ⟨none, 0, rfl, Nat.le_refl _, by rw [HLN.out]; exact Lst.nil none, Below.refl _ _⟩
  | some a =>
    have HOWN := Lib.hid (World.ownsRow_made (base := w.heap.size) (e := 9) (size := 1) w #[] 0 (Nat.le_refl _) (by unfold maxLen; omega) rfl)
    obtain ⟨i1, hi, hy0, hy1, hy2⟩ := info_parts infoS
    clear h hfl hrd hl hm hB
    have heq := fun (w : World) (a : Option Addr) (l c : Nat) => Go.run_eql_slice_nil (P := Tryz.prog) w 26 9 a l c Tryz.underlying26
    go_enter Tryz.func68, Tryz.ntmps68
    go_wp2_with (first
      | (at_builtin
         refine wpList_append_any _ rfl _ _ 26 rfl w.heap.size 9 i1 (.string ⟨#[]⟩) 1 16 Tryz.underlying26 hi hy0 hy1 hy2 rfl (by decide) _ 0 [] rfl HOWN.out w.heap.size (some a) n c news rfl ((HRD.out.more HBB.out).alloc (Nat.le_refl _) _) HON.out (by have := HM.out; unfold maxLen; omega) (by have := HM.out; omega) (by simp) ?_
         intro v w5 hown hgrow hloc
         rw [Nat.zero_add, List.nil_append] at hown)
      | go_in)
    go_ret
    rw [← HL.out] at hown
    obtain ⟨A', c', rfl, h1, h2, h3⟩ := own_lst_new hown HFL.out (by rw [HL.out]; exact HM.out)
    refine ⟨A', c', by rw [HL.out]; rfl, by rw [← HL.out]; exact h1, h3, ?_⟩
    exact ((Below.refl w.heap.size w).alloc (Nat.le_refl _) _).grown hgrow (by simp) (fun k hk => by
      have hk' : some w.heap.size = some k := hk
      injection hk' with hk'
      omega)

set_option maxRecDepth 100000 in
set_option maxHeartbeats 4000000 in
theorem cloneV_any (w : World) (A : Option Addr) (n c B : Nat) (W : World) (C : Nat) (l : List V) (hl : l.length = n) (h : Lst 5 (V.At W C) w B A l) (hB : B ≤ w.heap.size) :
    Calls Tryz.prog 40 #[.slice A n c] w fun e w' => ∃ A' c', e = .returned (.slice A' n c') ∧ n ≤ c' ∧ Lst 5 (V.At W C) (new w.heap.size w') w'.heap.size A' l ∧ Below w.heap.size w w' := by
  have hm : n ≤ 1048576 := by rw [← hl]; exact h.1
  obtain ⟨news, hfl, hrd⟩ := h.flat (by decide)
  rw [hl] at hrd
  have HFL := Lib.hid hfl
  have HON := Lib.hid (hfl.one (by decide) (fun _ _ h => V.At.one h))
  have HRD := Lib.hid hrd
  have HL := Lib.hid hl
  have HM := Lib.hid hm
  have HBB := Lib.hid hB
  cases A with
  | none =>
    have h0 : n = 0 := by
      rcases Nat.eq_zero_or_pos n with h0 | h0
      · exact h0
      · obtain ⟨b, off, e, _⟩ := h.2 (by omega)
        cases e
    subst h0
    have hln : l = [] := List.length_eq_zero_iff.1 hl
    have HLN := Lib.hid hln
    clear hln h hfl hrd hl hm hB
    have heq := fun (w : World) (a : Option Addr) (l c : Nat) => Go.run_eql_slice_nil (P := Tryz.prog) w 27 29 a l c Tryz.underlying27
    go_enter Tryz.func40, Tryz.ntmps40
    go_wp2
    go_ret
    exact ⟨none, 0, rfl, Nat.le_refl _, by rw [HLN.out]; exact Lst.nil none, Below.refl _ _⟩
  | some a =>
    have HOWN := Lib.hid (World.ownsRow_made (base := w.heap.size) (e := 29) (size := 5) w #[] 0 (Nat.le_refl _) (by unfold maxLen; omega) rfl)
    obtain ⟨i1, hi, hy0, hy1, hy2⟩ := info_parts infoV
    clear h hfl hrd hl hm hB
    have heq := fun (w : World) (a : Option Addr) (l c : Nat) => Go.run_eql_slice_nil (P := Tryz.prog) w 27 29 a l c Tryz.underlying27
    go_enter Tryz.func40, Tryz.ntmps40
    go_wp2_with (first
      | (at_builtin
         refine wpList_append_any _ rfl _ _ 27 rfl w.heap.size 29 i1 zV 5 80 Tryz.underlying27 hi hy0 hy1 hy2 rfl (by decide) _ 0 [] rfl HOWN.out w.heap.size (some a) n c news rfl ((HRD.out.more HBB.out).alloc (Nat.le_refl _) _) HON.out (by have := HM.out; unfold maxLen; omega) (by have := HM.out; omega) (by simp) ?_
         intro v w5 hown hgrow hloc
         rw [Nat.zero_add, List.nil_append] at hown)
      | go_in)
    go_ret
    rw [← HL.out] at hown
    obtain ⟨A', c', rfl, h1, h2, h3⟩ := own_lst_new hown HFL.out (by rw [HL.out]; exact HM.out)
    refine ⟨A', c', by rw [HL.out]; rfl, by rw [← HL.out]; exact h1, h3, ?_⟩
    exact ((Below.refl w.heap.size w).alloc (Nat.le_refl _) _).grown hgrow (by simp) (fun k hk => by
      have hk' : some w.heap.size = some k := hk
      injection hk' with hk'
      omega)

set_option maxRecDepth 100000 in
set_option maxHeartbeats 4000000 in
theorem named_any (w : World) (A1 A2 : Option Addr) (n1 c1 n2 c2 B : Nat) (ns : List ByteArray) (W : World) (C : Nat) (xs : List V) (h1 : ns.length = n1) (h2 : xs.length = n2) (hn : Lst 1 StrR w B A1 ns) (hx : Lst 5 (V.At W C) w B A2 xs) (hB : B ≤ w.heap.size) :
    Calls Tryz.prog 35 #[.slice A1 n1 c1, .slice A2 n2 c2] w fun e w' => ∃ A1' c1' A2' c2', e = .returned (.agg #[.int .i64 6, .int .i64 0, .string ⟨#[]⟩, .slice A1' n1 c1', .slice A2' n2 c2']) ∧ n1 ≤ c1' ∧
      Lst 1 StrR (new w.heap.size w') w'.heap.size A1' ns ∧ Lst 5 (V.At W C) (new w.heap.size w') w'.heap.size A2' xs ∧ Below w.heap.size w w' := by
  have HN := Lib.hid (fun (w9 : World) (hb : Below w.heap.size w w9) => cloneS_any w9 A1 n1 c1 B ns h1 (hn.keep (fun p hp => hb.cell (Nat.lt_of_lt_of_le hp hB)) fun _ _ h => h) (Nat.le_trans hB hb.size))
  have HX := Lib.hid (fun (w9 : World) (hb : Below w.heap.size w w9) => cloneV_any w9 A2 n2 c2 B W C xs h2 (hx.keep (fun p hp => hb.cell (Nat.lt_of_lt_of_le hp hB)) fun _ _ h => h) (Nat.le_trans hB hb.size))
  clear hn hx hB h1 h2
  go_enter Tryz.func35, Tryz.ntmps35
  go_upto_region 1 with fail
  have HBK := Lib.hid (Blk.new w 29 #[.int .i64 0, .int .i64 0, .string ⟨#[]⟩, .slice none 0 0, .slice none 0 0])
  have HB := Lib.hid ((Below.refl w.heap.size w).alloc (Nat.le_refl _) (.cells #[.int .i64 0, .int .i64 0, .string ⟨#[]⟩, .slice none 0 0, .slice none 0 0] 29))
  obtain ⟨w1, hw1⟩ : ∃ w1, w.alloc (.cells #[.int .i64 0, .int .i64 0, .string ⟨#[]⟩, .slice none 0 0, .slice none 0 0] 29) = w1 := ⟨_, rfl⟩
  obtain ⟨g, hg⟩ : ∃ g, w.heap.size = g := ⟨_, rfl⟩
  have HG := Lib.hid hg
  have HLT : Hid (g < w1.heap.size) := Lib.hid (by rw [← hw1, ← hg]; simp)
  rw [hw1] at HBK HB ⊢
  rw [hg] at HBK ⊢
  clear hw1 hg
  go_wp2_with (first
    | (go_at_call 68; refine (HN.out w1 HB.out).mono ?_; rintro e w2 ⟨A1', c1', rfl, hc1, hl1, hb2⟩
       have HB2 := Lib.hid (bel_next HB.out hb2)
       have HL1 := Lib.hid hl1
       have HC1 := Lib.hid hc1
       have HK2 := Lib.hid (HBK.out.below hb2 HBK.out.lt)
       have HS2 := Lib.hid hb2.size
       clear hl1 hc1 hb2)
    | (go_at_call 40; refine (HX.out w2 HB2.out).mono ?_; rintro e w3 ⟨A2', c2', rfl, hc2, hl2, hb3⟩
       have HB3 := Lib.hid (bel_next HB2.out hb3)
       have HL2 := Lib.hid hl2
       have HBX := Lib.hid hb3
       have HK3 := Lib.hid (HK2.out.below hb3 HK2.out.lt)
       clear hl2 hc2 hb3
       have x0 : w3.cell? ⟨g, 0, none⟩ = some (.int .i64 0) := HK3.out.cell 0
       have x1 : w3.cell? ⟨g, 1, none⟩ = some (.int .i64 0) := HK3.out.cell 1
       have x2 : w3.cell? ⟨g, 2, none⟩ = some (.string ⟨#[]⟩) := HK3.out.cell 2
       have x3 : w3.cell? ⟨g, 3, none⟩ = some (.slice none 0 0) := HK3.out.cell 3
       have x4 : w3.cell? ⟨g, 4, none⟩ = some (.slice none 0 0) := HK3.out.cell 4
       have xf := fun j => HK3.out.frozen j)
    | go_in)
  refine bodyPost_ret (v := .agg #[.int .i64 6, .int .i64 0, .string ⟨#[]⟩, .slice A1' n1 c1', .slice A2' n2 c2']) (by rw [results_cell1 rfl]; go_simp) rfl ?_
  show ∃ A1' c1' A2' c2', _
  refine ⟨A1', c1', A2', c2', rfl, HC1.out, ?_, ?_, ?_⟩
  · refine HL1.out.mono (only_mono fun b hb hl => ?_) (by show w2.heap.size ≤ (set5 w3 g _ _ _ _ _).heap.size; rw [set5_size]; exact HBX.out.size) fun _ _ h => h
    simp only [decide_eq_true_eq] at hb ⊢
    have := HLT.out
    have := HG.out
    exact ⟨by omega, (set5_far (by omega) _ _ _ _ _).trans (HBX.out.block b hl)⟩
  · refine HL2.out.mono (only_mono fun b hb hl => ?_) (by show w3.heap.size ≤ (set5 w3 g _ _ _ _ _).heap.size; rw [set5_size]; exact Nat.le_refl _) fun _ _ h => h
    simp only [decide_eq_true_eq] at hb ⊢
    have := HLT.out
    have := HG.out
    have := HS2.out
    exact ⟨by omega, set5_far (by omega) _ _ _ _ _⟩
  · exact set5_bel HB3.out (Nat.le_of_eq HG.out) _ _ _ _ _

set_option maxRecDepth 100000 in
set_option maxHeartbeats 4000000 in
theorem listed_any (w : World) (A2 : Option Addr) (n2 c2 B : Nat) (W : World) (C : Nat) (xs : List V) (h2 : xs.length = n2) (hx : Lst 5 (V.At W C) w B A2 xs) (hB : B ≤ w.heap.size) :
    Calls Tryz.prog 19 #[.slice A2 n2 c2] w fun e w' => ∃ A2' c2', e = .returned (.agg #[.int .i64 5, .int .i64 0, .string ⟨#[]⟩, .slice none 0 0, .slice A2' n2 c2']) ∧
      Lst 5 (V.At W C) (new w.heap.size w') w'.heap.size A2' xs ∧ Below w.heap.size w w' := by
  have HX := Lib.hid (fun (w9 : World) (hb : Below w.heap.size w w9) => cloneV_any w9 A2 n2 c2 B W C xs h2 (hx.keep (fun p hp => hb.cell (Nat.lt_of_lt_of_le hp hB)) fun _ _ h => h) (Nat.le_trans hB hb.size))
  clear hx hB h2
  go_enter Tryz.func19, Tryz.ntmps19
  go_upto_region 1 with fail
  have HBK := Lib.hid (Blk.new w 29 #[.int .i64 0, .int .i64 0, .string ⟨#[]⟩, .slice none 0 0, .slice none 0 0])
  have HB := Lib.hid ((Below.refl w.heap.size w).alloc (Nat.le_refl _) (.cells #[.int .i64 0, .int .i64 0, .string ⟨#[]⟩, .slice none 0 0, .slice none 0 0] 29))
  obtain ⟨w1, hw1⟩ : ∃ w1, w.alloc (.cells #[.int .i64 0, .int .i64 0, .string ⟨#[]⟩, .slice none 0 0, .slice none 0 0] 29) = w1 := ⟨_, rfl⟩
  obtain ⟨g, hg⟩ : ∃ g, w.heap.size = g := ⟨_, rfl⟩
  have HG := Lib.hid hg
  have HLT : Hid (g < w1.heap.size) := Lib.hid (by rw [← hw1, ← hg]; simp)
  rw [hw1] at HBK HB ⊢
  rw [hg] at HBK ⊢
  clear hw1 hg
  go_wp2_with (first
    | (go_at_call 40; refine (HX.out w1 HB.out).mono ?_; rintro e w3 ⟨A2', c2', rfl, hc2, hl2, hb3⟩
       have HB3 := Lib.hid (bel_next HB.out hb3)
       have HL2 := Lib.hid hl2
       have HS2 := Lib.hid hb3.size
       have HK3 := Lib.hid (HBK.out.below hb3 HBK.out.lt)
       clear hl2 hc2 hb3
       have x0 : w3.cell? ⟨g, 0, none⟩ = some (.int .i64 0) := HK3.out.cell 0
       have x1 : w3.cell? ⟨g, 1, none⟩ = some (.int .i64 0) := HK3.out.cell 1
       have x2 : w3.cell? ⟨g, 2, none⟩ = some (.string ⟨#[]⟩) := HK3.out.cell 2
       have x3 : w3.cell? ⟨g, 3, none⟩ = some (.slice none 0 0) := HK3.out.cell 3
       have x4 : w3.cell? ⟨g, 4, none⟩ = some (.slice none 0 0) := HK3.out.cell 4
       have xf := fun j => HK3.out.frozen j)
    | go_in)
  refine bodyPost_ret (v := .agg #[.int .i64 5, .int .i64 0, .string ⟨#[]⟩, .slice none 0 0, .slice A2' n2 c2']) (by rw [results_cell1 rfl]; go_simp) rfl ?_
  show ∃ A2' c2', _
  refine ⟨A2', c2', rfl, ?_, ?_⟩
  · refine HL2.out.mono (only_mono fun b hb hl => ?_) (by show w3.heap.size ≤ (set5 w3 g _ _ _ _ _).heap.size; rw [set5_size]; exact Nat.le_refl _) fun _ _ h => h
    simp only [decide_eq_true_eq] at hb ⊢
    have := HLT.out
    have := HG.out
    exact ⟨by omega, set5_far (by omega) _ _ _ _ _⟩
  · exact set5_bel HB3.out (Nat.le_of_eq HG.out) _ _ _ _ _
end Go.Proofs.YtnckhmfajjcgpaaGreatDoor.Mt
namespace Go.Proofs.YtnckhmfajjcgpaaGreatDoor.Mt
set_option linter.unusedVariables false
open Go.RowKit Go.Lib
def okT : ByteArray := ⟨#[111, 107]⟩
def tru : V := .mk 2 0 ⟨#[]⟩ [] []
/-- a reply's value -/
def gv (ns : List ByteArray) (xs : List V) : V := .mk 6 0 ⟨#[]⟩ (okT :: ns) (tru :: xs)
/-- a reply's text; bt: an error's -/
def good (bt : Int → ByteArray) (x : V) : ByteArray := if (prt x).2 = 0 then (prt x).1 else bt (prt x).2
/-- the replies of errors -/
def BadOk (f : FuncId) (bt : Int → ByteArray) : Prop := ∀ (e : Int) (w : World), (e = 1 ∨ e = 16 ∨ e = 17 ∨ e = 18) → Calls Tryz.prog f #[.int .i64 e, .int .i64 (-1)] w fun r w' => r = .returned (.string (bt e)) ∧ Below w.heap.size w w'
mutual
theorem chk_in : ∀ (x : V) (d : Int), chk x d = 0 ∨ chk x d = 16 ∨ chk x d = 17 ∨ chk x d = 18
  | .mk k i t ns xs, d => by
    rw [chk_mk]
    split
    · simp
    · split
      · simp
      · exact chks_in k ns 0 xs d
theorem chks_in : ∀ (k : Int) (ns : List ByteArray) (q : Nat) (xs : List V) (d : Int), chks k ns q xs d = 0 ∨ chks k ns q xs d = 16 ∨ chks k ns q xs d = 17 ∨ chks k ns q xs d = 18
  | k, ns, q, [], d => by rw [chks]; simp
  | k, ns, q, x :: xs, d => by
    rw [chks]
    split
    · simp
    · split
      · simp
      · split
        · exact chk_in x (d + 1)
        · exact chks_in k ns (q + 1) xs d
end
theorem prt_in (x : V) : (prt x).2 = 0 ∨ (prt x).2 = 1 ∨ (prt x).2 = 16 ∨ (prt x).2 = 17 ∨ (prt x).2 = 18 := by
  unfold prt
  have h := chk_in x 0
  split
  · simp only []
    omega
  · split
    · simp
    · simp
theorem Flat.cons {α : Type} {n : Nat} {R : α → List Value → Prop} {l : List α} {news : List Value} (h : Flat n R l news) {x : α} {cs : List Value} (hn : cs.length = n) (hR : R x cs) : Flat n R (x :: l) (cs ++ news) := by
  refine ⟨by rw [List.length_append, h.1, hn, List.length_cons, Nat.succ_mul, Nat.add_comm], fun j hj => ?_⟩
  cases j with
  | zero => exact ⟨cs, hn, hR, fun i hi => by rw [Nat.zero_mul, Nat.zero_add, List.getElem?_append_left (by omega)]⟩
  | succ j =>
    obtain ⟨ds, h1, h2, h3⟩ := h.2 j (by simpa using hj)
    refine ⟨ds, h1, by simpa using h2, fun i hi => ?_⟩
    rw [List.getElem?_append_right (by rw [hn, Nat.succ_mul]; omega), ← h3 i hi]
    congr 1
    rw [hn, Nat.succ_mul]
    omega
theorem Flat.nil {α : Type} {n : Nat} {R : α → List Value → Prop} : Flat n R ([] : List α) [] := ⟨by simp, fun j hj => by simp at hj⟩
theorem tru_at (W : World) (C : Nat) : V.At W C tru [.int .i64 2, .int .i64 0, .string ⟨#[]⟩, .slice none 0 0, .slice none 0 0] := by
  unfold tru
  rw [V.at_mk]
  exact ⟨none, 0, none, 0, rfl, ⟨Lst.nil none, Nat.le_refl _⟩, Lst.nil none⟩
/-- an object in cells -/
theorem obj_at {W W' : World} {C B : Nat} {ns : List ByteArray} {xs : List V} {A1 A2 : Option Addr} {n1 c1 n2 c2 : Nat} (h1 : ns.length = n1) (h2 : xs.length = n2) (hc : n1 ≤ c1) (hn : Lst 1 StrR W' B A1 ns) (hx : Lst 5 (V.At W C) W' B A2 xs) (hW : Mono W W') (hC : C ≤ B) :
    V.At W' B (.mk 6 0 ⟨#[]⟩ ns xs) [.int .i64 6, .int .i64 0, .string ⟨#[]⟩, .slice A1 n1 c1, .slice A2 n2 c2] := by
  subst h1 h2
  rw [V.at_mk]
  exact ⟨A1, c1, A2, c2, rfl, ⟨hn, hc⟩, hx.imp fun x cs h => h.mono hC hW⟩
theorem list_at {W W' : World} {C B : Nat} {xs : List V} {A2 : Option Addr} {n2 c2 : Nat} (h2 : xs.length = n2) (hx : Lst 5 (V.At W C) W' B A2 xs) (hW : Mono W W') (hC : C ≤ B) :
    V.At W' B (.mk 5 0 ⟨#[]⟩ [] xs) [.int .i64 5, .int .i64 0, .string ⟨#[]⟩, .slice none 0 0, .slice A2 n2 c2] := by
  subst h2
  rw [V.at_mk]
  exact ⟨none, 0, A2, c2, rfl, ⟨Lst.nil none, Nat.le_refl _⟩, hx.imp fun x cs h => h.mono hC hW⟩
end Go.Proofs.YtnckhmfajjcgpaaGreatDoor.Mt
namespace Go.Proofs.YtnckhmfajjcgpaaGreatDoor.Mt
set_option linter.unusedVariables false
open Go.RowKit Go.Lib
attribute [local go_sem ↓] Go.wp_at_zero Go.wp_at_succ
set_option maxRecDepth 100000 in
set_option maxHeartbeats 8000000 in
theorem mgood_any {C0 : Nat} {bt : Int → ByteArray} (HBAD : BadOk 26 bt) (w : World) (hT : TbP C0 w) (A1 A2 : Option Addr) (c1 c2 B : Nat) (ns : List ByteArray) (xs : List V) (W : World) (C : Nat) (h1 : ns.length = 2) (h2 : xs.length = 2) (hc1 : 2 ≤ c1) (hc2 : 2 ≤ c2)
    (hn : Lst 1 StrR w B A1 ns) (hx : Lst 5 (V.At W C) w B A2 xs) (hB : B ≤ w.heap.size) (hW : Mono W w) (hC : C ≤ w.heap.size) (hs : (gv ns xs).sz ≤ 4194304) (hr : (gv ns xs).rng) :
    Calls Tryz.prog 14 #[.slice A1 2 c1, .slice A2 2 c2] w fun e w' => e = .returned (.string (good bt (gv ns xs))) ∧ Below w.heap.size w w' := by
  obtain ⟨b1, o1, rfl, hb1, _⟩ := hn.2 (by omega)
  obtain ⟨b2, o2, rfl, hb2, _⟩ := hx.2 (by omega)
  obtain ⟨nS, hfS, hrS⟩ := hn.flat (by decide)
  obtain ⟨nV, hfV, hrV⟩ := hx.flat (by decide)
  rw [h1] at hrS
  rw [h2] at hrV
  have hc1' : (2 : Int) ≤ (c1 : Int) := by omega
  have hc2' : (2 : Int) ≤ (c2 : Int) := by omega
  have HFS : Hid (Flat 1 StrR (okT :: ns) ([.string okT] ++ nS)) := Lib.hid (hfS.cons rfl rfl)
  have HFV : Hid (Flat 5 (V.At W C) (tru :: xs) ([.int .i64 2, .int .i64 0, .string ⟨#[]⟩, .slice none 0 0, .slice none 0 0] ++ nV)) := Lib.hid (hfV.cons rfl (tru_at W C))
  have HOS := Lib.hid (hfS.one (by decide) fun _ _ h => StrR.one h)
  have HOV := Lib.hid (hfV.one (by decide) fun _ _ h => V.At.one h)
  have HRS := Lib.hid (hrS.more hB)
  have HRV := Lib.hid (hrV.more hB)
  have HL1 : Hid ((okT :: ns).length = 3) := Lib.hid (by simp [h1])
  have HL2 : Hid ((tru :: xs).length = 3) := Lib.hid (by simp [h2])
  have HT := Lib.hid hT
  have HW := Lib.hid hW
  have HC := Lib.hid hC
  have HSZ := Lib.hid hs
  have HRG := Lib.hid hr
  have HIN := Lib.hid (prt_in (gv ns xs))
  have HBD := Lib.hid HBAD
  obtain ⟨i1, hi, hy0, hy1, hy2⟩ := info_parts infoS
  obtain ⟨i2, hj, hz0, hz1, hz2⟩ := info_parts infoV
  obtain ⟨G, hG⟩ : ∃ G, good bt (gv ns xs) = G := ⟨_, rfl⟩
  have HG := Lib.hid hG
  rw [hG]
  clear hn hx hfS hrS hfV hrV hT hW hC hs hr hB hb1 hb2 HBAD hG h1 h2 hc1 hc2
  have HO1 : Hid ((w.drew.alloc (.cells #[.string ⟨#[111, 107]⟩] 9)).ownsRow w.heap.size 9 1 (.slice (some ⟨w.heap.size, 0, none⟩) 1 1) 1 [.string okT]) := Lib.hid (World.ownsRow_lit w.drew _ 1 (Nat.le_refl _) (by decide) rfl)
  go_enter Tryz.func14, Tryz.ntmps14
  go_upto_region 2 with fail
  go_region_held3 (fun _ => True) (exact True.intro) (first
    | (refine step_append_any _ (by rfl) (.tmp 14) (.tmp 17) 26 (by rfl) w.heap.size 9 i1 _ 1 16 Tryz.underlying26 hi hy0 hy1 hy2 (by rfl) (by decide) _ 1 [.string okT] (by rfl) HO1.out w.heap.size (some ⟨b1, o1, none⟩) 2 c1 nS (by rfl) (HRS.out.drew.alloc (Nat.le_refl _) _) HOS.out (by decide) (by decide) (by simp) ?_
       intro v1 w1 hown1 hgrow1 hloc1
       have HB1 := Lib.hid (((Below.refl w.heap.size w).drew.alloc (Nat.le_refl _) _).grown hgrow1 (by simp) (fun k hk => by
         have hk' : some w.heap.size = some k := hk
         injection hk' with hk'
         omega))
       have hl1 : w1.ownsRow w.heap.size 9 1 v1 (okT :: ns).length ([.string okT] ++ nS) := by rw [HL1.out]; exact hown1
       obtain ⟨A1', c1', hv1, h31, _, hL1⟩ := own_lst hl1 HFS.out (by rw [HL1.out]; decide)
       rw [HL1.out] at hv1 h31
       subst hv1
       have HLA := Lib.hid hL1
       have HCA := Lib.hid h31
       clear hown1 hgrow1 hloc1 hl1 hL1 h31)
    | (go_at_call 20; refine (flag_any w1 true).mono ?_; rintro e w2 ⟨rfl, hb2⟩
       have HB2 := Lib.hid hb2
       have HO2 : Hid ((w2.alloc (.cells #[.int .i64 2, .int .i64 0, .string ⟨#[]⟩, .slice none 0 0, .slice none 0 0] 29)).ownsRow w2.heap.size 29 5 (.slice (some ⟨w2.heap.size, 0, none⟩) 1 1) 1 [.int .i64 2, .int .i64 0, .string ⟨#[]⟩, .slice none 0 0, .slice none 0 0]) := Lib.hid (World.ownsRow_lit w2 _ 1 (Nat.le_refl _) (by decide) rfl)
       clear hb2)
    | (refine step_append_any _ (by rfl) (.tmp 20) (.tmp 23) 27 (by rfl) w2.heap.size 29 i2 _ 5 80 Tryz.underlying27 hj hz0 hz1 hz2 (by rfl) (by decide) _ 1 [.int .i64 2, .int .i64 0, .string ⟨#[]⟩, .slice none 0 0, .slice none 0 0] (by rfl) HO2.out w.heap.size (some ⟨b2, o2, none⟩) 2 c2 nV (by rfl) ((HRV.out.below (bel_next HB1.out HB2.out)).alloc (bel_next HB1.out HB2.out).size _) HOV.out (by decide) (by decide) (by simp) ?_
       intro v2 w3 hown3 hgrow3 hloc3
       have HB3 := Lib.hid (((Below.refl w2.heap.size w2).alloc (Nat.le_refl _) _).grown hgrow3 (by simp) (fun k hk => by
         have hk' : some w2.heap.size = some k := hk
         injection hk' with hk'
         omega))
       have hl3 : w3.ownsRow w2.heap.size 29 5 v2 (tru :: xs).length ([.int .i64 2, .int .i64 0, .string ⟨#[]⟩, .slice none 0 0, .slice none 0 0] ++ nV) := by rw [HL2.out]; exact hown3
       obtain ⟨A2', c2', hv2, h32, _, hL2⟩ := own_lst hl3 HFV.out (by rw [HL2.out]; decide)
       rw [HL2.out] at hv2 h32
       subst hv2
       have HLB := Lib.hid hL2
       have HLA3 := Lib.hid ((HLA.out.at_ (bel_next HB2.out HB3.out)))
       clear hown3 hgrow3 hloc3 hl3 hL2 h32)
    | (go_at_call 35; refine (named_any w3 A1' A2' 3 c1' 3 c2' w3.heap.size (okT :: ns) W C (tru :: xs) HL1.out HL2.out HLA3.out HLB.out (Nat.le_refl _)).mono ?_
       rintro e w4 ⟨A3, c3, A4, c4, rfl, hc3, hl3, hl4, hb4⟩
       have HB4 := Lib.hid (bel_next HB1.out (bel_next HB2.out (bel_next HB3.out hb4)))
       have HV4 := Lib.hid (obj_at (W' := w4) (c2 := c4) HL1.out HL2.out hc3 (hl3.mono (new_sub _ _) (Nat.le_refl _) fun _ _ h => h) (hl4.mono (new_sub _ _) (Nat.le_refl _) fun _ _ h => h) (HW.out.trans (mono_below HB4.out)) (Nat.le_trans HC.out HB4.out.size))
       clear hc3 hl3 hl4 hb4)
    | (go_at_call 34; refine (mprint_any (gv ns xs) _ w4 (HT.out.keep HB4.out HT.out.size) HV4.out HSZ.out HRG.out).mono ?_
       rintro e w5 ⟨rfl, hb5⟩
       have HB5 := Lib.hid (bel_next HB4.out hb5)
       clear hb5))
  obtain ⟨ps, pe, hp⟩ : ∃ ps pe, prt (gv ns xs) = (ps, pe) := ⟨_, _, rfl⟩
  have HGG : Hid (G = if pe = 0 then ps else bt pe) := Lib.hid (by rw [← HG.out]; unfold good; rw [hp])
  rw [hp] at HIN ⊢
  clear hp
  by_cases h0 : pe = 0
  · subst h0
    go_wp2
    go_ret
    exact ⟨by rw [HGG.out]; rfl, HB5.out⟩
  · have heb : (pe == 0) = false := by simp [h0]
    have HBE := Lib.hid (HBD.out pe w5 (by have := HIN.out; simp only [] at this; omega))
    have HG2 : Hid (G = bt pe) := Lib.hid (by rw [HGG.out, if_neg h0])
    clear h0
    go_wp2_with (first | (go_at_call 26; refine HBE.out.mono ?_; rintro e w6 ⟨rfl, hb6⟩) | go_in)
    go_ret
    exact ⟨by rw [HG2.out]; rfl, bel_next HB5.out hb6⟩
end Go.Proofs.YtnckhmfajjcgpaaGreatDoor.Mt
namespace Go.Proofs.YtnckhmfajjcgpaaGreatDoor.Mt
set_option linter.unusedVariables false
open Go.RowKit Go.Lib
/-- block g holds a list from its head on -/
def RowIs {α : Type} (n : Nat) (R : α → List Value → Prop) (W : World) (g : Nat) (l : List α) : Prop := g < W.heap.size ∧ ∀ i (h : i < l.length), ∃ cs, cs.length = n ∧ CellsAt W g (0 + i * n) cs ∧ R l[i] cs
section
variable {α : Type} {n : Nat} {R : α → List Value → Prop} {W W' : World} {g : Nat} {l : List α} {base : Nat} {e : TypeId} {v : Value} {news : List Value}
theorem RowIs.lt (h : RowIs n R W g l) : g < W.heap.size := h.1
theorem RowIs.keep (h : RowIs n R W g l) (hs : W.heap.size ≤ W'.heap.size) (hk : W'.heap[g]? = W.heap[g]?) : RowIs n R W' g l :=
  ⟨Nat.lt_of_lt_of_le h.1 hs, fun i hi => by
    obtain ⟨cs, h1, h2, h3⟩ := h.2 i hi
    exact ⟨cs, h1, fun j u hu => (World.cell?_of_block hk).trans (h2 j u hu), h3⟩⟩
theorem RowIs.imp {R' : α → List Value → Prop} (h : RowIs n R W g l) (hR : ∀ x cs, R x cs → R' x cs) : RowIs n R' W g l :=
  ⟨h.1, fun i hi => by obtain ⟨cs, h1, h2, h3⟩ := h.2 i hi; exact ⟨cs, h1, h2, hR _ _ h3⟩⟩
theorem RowIs.lst (h : RowIs n R W g l) (hm : l.length ≤ 1048576) : Lst n R W W.heap.size (some ⟨g, 0, none⟩) l :=
  ⟨hm, fun _ => ⟨g, 0, rfl, h.1, h.2⟩⟩
theorem rowIs_own (h : W.ownsRow base e n v l.length news) (hf : Flat n R l news) (hm : l.length ≤ 1048576) (hp : 0 < l.length) : ∃ g c, v = .slice (some ⟨g, 0, none⟩) l.length c ∧ l.length ≤ c ∧ base ≤ g ∧ RowIs n R W g l := by
  obtain ⟨A, c, rfl, h1, h2, h3⟩ := own_lst h hf hm
  rcases h.2 with ⟨_, h0⟩ | ⟨g, cap, cur, hv, hb, hg, _⟩
  · omega
  · injection hv with hA hn hc
    subst hA
    obtain ⟨b, off, e1, hb1, h4⟩ := h3.2 hp
    injection e1 with e1
    injection e1 with e1 e2
    subst e1 e2
    exact ⟨g, c, rfl, h1, hb, hb1, h4⟩
theorem own_lt {k c : Nat} (h : W.ownsRow base e n (.slice (some ⟨g, 0, none⟩) k c) k news) : g < W.heap.size := (World.ownsRow.lt h g rfl).2
theorem own_keep {k c : Nat} (h : W.ownsRow base e n (.slice (some ⟨g, 0, none⟩) k c) k news) (hk : W'.heap[g]? = W.heap[g]?) : W'.ownsRow base e n (.slice (some ⟨g, 0, none⟩) k c) k news := by
  refine ⟨h.1, ?_⟩
  rcases h.2 with h0 | ⟨g', cap, cur, hv, hb, hg, rest⟩
  · exact .inl h0
  · have : g' = g := by injection hv with hv _ _; injection hv with hv; injection hv with hv _; exact hv.symm
    subst this
    exact .inr ⟨g', cap, cur, hv, hb, hk.trans hg, rest⟩
theorem blk_keep {t : TypeId} {cs : Array Value} (h : Blk W g t cs) (hk : W'.heap[g]? = W.heap[g]?) : Blk W' g t cs := hk.trans h
theorem below_old (h : Below W.heap.size W W') (hg : g < W.heap.size) : W'.heap[g]? = W.heap[g]? := h.block g hg
theorem below_alloc (W : World) (o : Obj) : Below W.heap.size W (W.alloc o) := (Below.refl _ _).alloc (Nat.le_refl _) o
theorem blk_rowS {cs : Array Value} {l : List ByteArray} (h : Blk W g 9 cs) (hc : cs = (l.map Value.string).toArray) : RowIs 1 StrR W g l := by
  refine ⟨h.lt, fun i hi => ⟨[.string l[i]], rfl, fun j u hu => ?_, rfl⟩⟩
  subst hc
  match j, hu with
  | 0, hu =>
    rw [h.cell]
    simp at hu ⊢
    exact ⟨_, List.getElem?_eq_getElem hi, hu⟩
  | j + 1, hu => simp at hu
theorem blk_rowV {cs : Array Value} {R : V → List Value → Prop} {l : List V} {news : List Value} (h : Blk W g 29 cs) (hc : cs.toList = news) (hf : Flat 5 R l news) : RowIs 5 R W g l := by
  refine ⟨h.lt, fun i hi => ?_⟩
  obtain ⟨ds, h1, h2, h3⟩ := hf.2 i hi
  refine ⟨ds, h1, fun j u hu => ?_, h2⟩
  have hj : j < 5 := by
    rcases Nat.lt_or_ge j ds.length with h | h
    · omega
    · rw [List.getElem?_eq_none h] at hu; cases hu
  rw [h.cell, ← hu, ← h3 j hj, ← hc]
  simp
end
theorem set5_blk {W : World} {g : Nat} {t : TypeId} {v0 v1 v2 v3 v4 : Value} (h : Blk W g t #[v0, v1, v2, v3, v4]) (u0 u1 u2 u3 u4 : Value) : Blk (set5 W g u0 u1 u2 u3 u4) g t #[u0, u1, u2, u3, u4] := by
  have h0 : Blk (W.setCell ⟨g, 0, none⟩ u0) g t #[u0, v1, v2, v3, v4] := h.set_ 0 u0
  have h1 : Blk ((W.setCell ⟨g, 0, none⟩ u0).setCell ⟨g, 1, none⟩ u1) g t #[u0, u1, v2, v3, v4] := h0.set_ 1 u1
  have h2 := h1.set_ 2 u2
  have h3 := h2.set_ 3 u3
  have h4 := h3.set_ 4 u4
  exact h4
end Go.Proofs.YtnckhmfajjcgpaaGreatDoor.Mt
