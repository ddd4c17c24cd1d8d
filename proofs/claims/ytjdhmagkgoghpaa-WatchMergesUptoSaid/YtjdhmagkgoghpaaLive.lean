/- live: a change is told, once (the part that all statements on watch share). -/
import Derived.Test.YtjdhmagkgoghpaaWith
import Derived.Test.YtjdhmagkgoghpaaAfter
namespace Go.Proofs.Ytjdhmagkgoghpaa
set_option linter.unusedVariables false
open Go.RowKit
attribute [local go_sem ↓] run_neq_ch run_eql_ch
attribute [local go_sem] guard36
def lv0 : Lg := ⟨3, [], 0, 0⟩
def lvc : Ch := ⟨5, ⟨#[99]⟩, ⟨#[97]⟩, 1⟩
theorem lv_put : lv0.put 5 [⟨0, ⟨#[99]⟩, ⟨#[97]⟩, 1⟩] = ⟨3, [lvc], 5, 0⟩ := by rfl
theorem lv_f1 : [lvc].filter (tel 0 ⟨#[]⟩) = [lvc] := by simp [tel, lvc, ByteArray.toList_eq]
theorem lv_f2 : [lvc].filter (tel 5 ⟨#[]⟩) = [] := by simp [tel, lvc]
theorem lv_told1 : toldL [lvc] 0 0 ⟨#[]⟩ = [lvc] := by unfold toldL; rw [lv_f1]; rfl
theorem lv_up1 : toldUp [lvc] 0 0 ⟨#[]⟩ 5 = 5 := by unfold toldUp; rw [lv_f1]; rfl
theorem lv_told2 : toldL [lvc] 5 0 ⟨#[]⟩ = [] := by unfold toldL; rw [lv_f2]; rfl
theorem lv_up2 : toldUp [lvc] 5 0 ⟨#[]⟩ 5 = 5 := by unfold toldUp; rw [lv_f2]; rfl
theorem lv_rises : Rises [lvc] := by simp [Rises]
set_option maxRecDepth 100000 in
set_option maxHeartbeats 1600000 in
theorem live_any (w : World) : Calls Try.prog 10 #[] w fun e w' => e = .returned (.bool true) ∧ Below w.heap.size w w' := by
  go_enter Try.func10, Try.ntmps10
  go_wp2_with fail
  refine (new_ok 3 w (by omega) (by omega)).mono ?_
  rintro e w0 ⟨rfl, h0⟩
  have hb0 : Blk w0 w.heap.size 55 #[.int .i64 3, .slice none 0 0, .int .i64 0, .int .i64 0] := by rw [← h0]; exact Blk.new w 55 _
  have bel0 : Below w.heap.size w w0 := by rw [← h0]; exact (Below.refl _ _).alloc (Nat.le_refl _) _
  have hsz0 : w0.heap.size = w.heap.size + 1 := by rw [← h0]; simp
  have hp0 : PLogAt w0 w.heap.size none lv0 := ⟨0, hb0, Nat.le_refl _, fun _ => rfl, fun _ => rfl, fun h => absurd h (by decide)⟩
  have HS := Lib.hid hsz0
  clear h0 hsz0
  go_wp2_with fail
  refine (num_any 0 _).mono ?_
  rintro e w1 ⟨rfl, rfl⟩
  go_wp2_with fail
  have r1 := Rd.one w0 w0.heap.size rfl 0 ⟨#[99]⟩ ⟨#[97]⟩ 1
  have hp1 := hp0.below ((Below.refl _ _).alloc (Nat.le_refl _) (.cells #[.int .i64 0, .string ⟨#[99]⟩, .string ⟨#[97]⟩, .int .i64 1] 36))
  refine (with_any _ w.heap.size none lv0 hp1 (by decide) (by decide) (by decide) 5 _ 1 1 _ rfl (r1.more (by simp)) (by omega)).mono ?_
  rw [lv_put]
  rintro e w2 ⟨g2, A2, rfl, bel2, hp2, _⟩
  go_wp2_with fail
  obtain ⟨c2, hb2, hc2, _, _, hrd2⟩ := id hp2
  refine (after_main w2 g2 3 5 0 A2 1 c2 [lvc] hb2 rfl hrd2 lv_rises (by omega) 0 0 ⟨#[]⟩ (by omega)).mono ?_
  rw [lv_told1, lv_up1]
  rintro e w3 ⟨v3, rfl, own3, bel3⟩
  obtain ⟨ga, ca, rfl, hga, hga', hca, a0, a1, a2, a3⟩ := own3.at_ (k := 0) (by decide)
  have hp3 := hp2.below bel3
  obtain ⟨c3, hb3, hc3, _, _, hrd3⟩ := id hp3
  go_wp2_with fail
  refine (after_main w3 g2 3 5 0 A2 1 c3 [lvc] hb3 rfl hrd3 lv_rises (by omega) 5 0 ⟨#[]⟩ (by omega)).mono ?_
  rw [lv_told2, lv_up2]
  rintro e w4 ⟨v4, rfl, own4, bel4⟩
  obtain ⟨A4, c4, rfl, _⟩ := own4.len
  have hbb := hb0.alloc (.cells #[.int .i64 0, .string ⟨#[99]⟩, .string ⟨#[97]⟩, .int .i64 1] 36) |>.below (bel2.trans (bel3.mono bel2.size) |>.trans (bel4.mono (Nat.le_trans bel2.size bel3.size))) (by have := HS.out; simp; omega)
  have b0 := (bel4.cell (p := ⟨ga, _, none⟩) hga').trans a0
  have b1 := (bel4.cell (p := ⟨ga, _, none⟩) hga').trans a1
  have b2 := (bel4.cell (p := ⟨ga, _, none⟩) hga').trans a2
  have b3 := (bel4.cell (p := ⟨ga, _, none⟩) hga').trans a3
  have hfin : Below w.heap.size w w4 := bel0.trans (((Below.refl _ _).alloc (by have := HS.out; omega) _).trans ((bel2.trans (bel3.mono bel2.size) |>.trans (bel4.mono (Nat.le_trans bel2.size bel3.size))).mono (by have := HS.out; simp; omega)))
  have hceq : chEq 5 ⟨#[99]⟩ ⟨#[97]⟩ 1 5 ⟨#[99]⟩ ⟨#[97]⟩ 1 = true := (chEq_iff lvc lvc).2 rfl
  have HF := Lib.hid hfin
  have HBB := Lib.hid hbb
  have HC := Lib.hid hceq
  clear hfin hbb hceq a0 a1 a2 a3 own3 own4 bel0 bel2 bel3 bel4 hp2 hp3 hb2 hb3 hrd2 hrd3 hp0 hp1 r1 hb0
  simp [lvc] at b0 b1 b2 b3
  go_wp2_with (first | (go_at_call 8; refine (num_any 0 _).mono ?_; rintro e w5 ⟨rfl, rfl⟩) | (go_at_call 19; refine (size_any _ _ _ _ _ _ _ _ HBB.out).mono ?_; rintro e w5 ⟨rfl, rfl⟩))
  go_ret
  exact ⟨rfl, HF.out⟩
end Go.Proofs.Ytjdhmagkgoghpaa
