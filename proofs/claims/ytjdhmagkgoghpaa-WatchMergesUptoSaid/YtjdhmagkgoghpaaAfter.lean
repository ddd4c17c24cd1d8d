/- (*Log).After: what it tells is what the plain words of Told say. -/
import Derived.Test.YtjdhmagkgoghpaaFew
import Derived.Test.YtjdhmagkgoghpaaApp
import Derived.Test.YtjdhmagkgoghpaaTold
import Derived.Deep.DeepMust
import Derived.Deep.DeepCutAuto
import Derived.Deep.CutBlock
namespace Go.Proofs.Ytjdhmagkgoghpaa
set_option linter.unusedVariables false
open Go.RowKit
def AfterPost (w : World) (r : List Ch) (up : Int) (e : Ending) (w' : World) : Prop :=
  ∃ v, e = .returned (.tuple #[v, .int .i64 up, .int .i64 0]) ∧ Own w' w.heap.size v r ∧ Below w.heap.size w w'
theorem bel_drewN {B : Nat} {a w : World} (h : Below B a w) (n : Nat) : Below B a (w.drewN n) := ⟨h.os, h.tape, h.output, h.size, h.block⟩
theorem tel_yes {after : Int} {inn : ByteArray} {y : Ch} (h : tel after inn y = true) :
    (after < y.s ∧ inn.toList = [] ∧ inn.toList.isEmpty = true) ∨ (after < y.s ∧ ¬ inn.toList = [] ∧ inn.toList.isEmpty = false ∧ (y.c.toList == inn.toList) = true) := by
  unfold tel at h
  simp only [Bool.and_eq_true, decide_eq_true_eq, Bool.or_eq_true] at h
  by_cases he : inn.toList = []
  · exact .inl ⟨h.1, he, by simp [he]⟩
  · have : inn.toList.isEmpty = false := by simp [he]
    exact .inr ⟨h.1, he, this, by simpa [this] using h.2⟩
theorem tel_no {after : Int} {inn : ByteArray} {y : Ch} (h : tel after inn y = false) :
    ¬ after < y.s ∨ (after < y.s ∧ ¬ inn.toList = [] ∧ inn.toList.isEmpty = false ∧ (y.c.toList == inn.toList) = false) := by
  by_cases h1 : after < y.s
  · unfold tel at h
    simp only [h1, decide_true, Bool.true_and, Bool.or_eq_false_iff] at h
    exact .inr ⟨h1, by intro e; simp [e] at h, h.1, h.2⟩
  · exact .inl h1
theorem filter_step (p : Ch → Bool) (L : List Ch) (i k : Nat) (hik : i ≤ k) (hk : k < L.length) : ((L.take (k + 1)).drop i).filter p = ((L.take k).drop i).filter p ++ [L[k]].filter p := by
  rw [List.take_succ_eq_append_getElem hk, List.drop_append_of_le_length (by rw [List.length_take]; omega), List.filter_append]
theorem filter_step_no (p : Ch → Bool) (L : List Ch) (i k : Nat) (hik : i ≤ k) (hk : k < L.length) (h : p L[k] = false) : ((L.take (k + 1)).drop i).filter p = ((L.take k).drop i).filter p := by
  rw [filter_step p L i k hik hk]; simp [h]
theorem filter_step_yes (p : Ch → Bool) (L : List Ch) (i k : Nat) (hik : i ≤ k) (hk : k < L.length) (h : p L[k] = true) : ((L.take (k + 1)).drop i).filter p = ((L.take k).drop i).filter p ++ [L[k]] := by
  rw [filter_step p L i k hik hk]; simp [h]
theorem same_step {L : List Ch} {i k : Nat} {s : Int} (h : ∀ j (h : j < L.length), i ≤ j → j < k → L[j].s = s) {hk : k < L.length} (hs : (L[k]).s = s) : ∀ j (h : j < L.length), i ≤ j → j < k + 1 → L[j].s = s := by
  intro j hj hij hjk
  by_cases e : j = k
  · subst e; exact hs
  · exact h j hj hij (by omega)
set_option maxRecDepth 100000 in
set_option maxHeartbeats 1600000 in
theorem after_main (w : World) (g : Nat) (keep : Nat) (last hor : Int) (A : Option Addr) (n c : Nat) (L : List Ch) (hb : Blk w g 55 #[.int .i64 keep, .slice A n c, .int .i64 last, .int .i64 hor])
   (hL : L.length = n) (hRd : Rd w w.heap.size A L) (hR : Rises L) (hn : n ≤ 4096) (after limit : Int) (inn : ByteArray) (ha : hor ≤ after) :
    Calls Try.prog 13 #[.pointer (some ⟨g, 0, none⟩), .int .i64 after, .int .i64 limit, .string inn] w (AfterPost w (toldL L after limit inn) (toldUp L after limit inn last)) := by
  have h1 := hb.cell 1
  have h2 := hb.cell 2
  have h3 := hb.cell 3
  simp at h1 h2 h3
  have hgl := hb.lt
  clear hb
  have HL := Lib.hid hL
  clear hL
  have HR := Lib.hid hR
  clear hR
  obtain ⟨T, hT⟩ : ∃ T, L.filter (tel after inn) = T := ⟨_, rfl⟩
  have HT := Lib.hid hT
  clear hT
  go_enter Try.func13, Try.ntmps13
  go_wp2
  clear h3
  go_loopw [11, 12] (fun v i wr => ∃ k : Nat, ∃ O : List Ch, k ≤ n ∧ i = .int .i64 k ∧ Below w.heap.size w wr ∧ (L.take k).filter (tel after inn) = O ∧ Own wr w.heap.size v O ∧ (0 < limit → cut limit T O.length = cut limit T 0)) (fun _ i _ => n - (intOf i).toNat)
  case atStart => exact ⟨0, [], Nat.zero_le _, rfl, Below.refl _ _, by simp, Own.nil_, fun _ => rfl⟩
  case round =>
    obtain ⟨i, O, hi, rfl, hbel, hO, hown, hcut⟩ := hrel
    have HO := Lib.hid hO
    clear hO
    have HC := Lib.hid hcut
    clear hcut
    have f1 := (hbel.cell (p := ⟨g, _, none⟩) hgl).trans h1
    have f2 := (hbel.cell (p := ⟨g, _, none⟩) hgl).trans h2
    by_cases hlt : i < n
    · have hiL : i < L.length := by have := HL.out; omega
      obtain ⟨b, off, rfl, hbB, hx⟩ := hRd (by omega)
      obtain ⟨σ, hσ⟩ : ∃ σ, (L[i]).s = σ := ⟨_, rfl⟩
      have i0 := (hx i hiL).1
      rw [hσ] at i0
      have HS := Lib.hid hσ
      clear hσ h1 h2
      obtain ⟨wo, rfl⟩ : ∃ wo : World, wo = wr := ⟨_, rfl⟩
      have bsz := hbel.size
      go_upto_block 2 with fail
      go_cut [13, 14] (fun v k' wr => ∃ k : Nat, ∃ S : List Ch, i < k ∧ k ≤ n ∧ k' = .int .i64 k ∧ Below wo.heap.size wo wr ∧ ((L.take k).drop i).filter (tel after inn) = S ∧ Own wr wo.heap.size v S ∧ (∀ j (h : j < L.length), i ≤ j → j < k → L[j].s = σ) ∧ ∀ (h : k < L.length), L[k].s ≠ σ)
      case first =>
        go_wp2_with fail
        go_loopw [13, 14] (fun v k' wr => ∃ k : Nat, ∃ S : List Ch, i ≤ k ∧ k ≤ n ∧ k' = .int .i64 k ∧ Below wo.heap.size wo wr ∧ ((L.take k).drop i).filter (tel after inn) = S ∧ Own wr wo.heap.size v S ∧ (∀ j (h : j < L.length), i ≤ j → j < k → L[j].s = σ)) (fun _ k' _ => n - (intOf k').toNat)
        case atStart => exact ⟨i, [], Nat.le_refl _, Nat.le_of_lt hlt, rfl, Below.refl _ _, (by rw [List.drop_of_length_le (by rw [List.length_take]; omega)]; rfl), Own.nil_, fun j _ h1 h2 => absurd h1 (by omega)⟩
        case round =>
          obtain ⟨k, S, hik, hk, rfl, hbel2, hS, hown2, hsame⟩ := hrel
          have HSS := Lib.hid hS
          clear hS
          have HSM := Lib.hid hsame
          clear hsame
          have hbel3 := hbel.trans (hbel2.mono bsz)
          have g1 := (hbel2.cell (p := ⟨g, _, none⟩) (by show g < _; omega)).trans f1
          have g2 := g1
          have j0 := (hbel3.cell (p := ⟨b, _, none⟩) hbB).trans i0
          by_cases hkn : k < n
          · have hkL : k < L.length := by have := HL.out; omega
            obtain ⟨y, hy⟩ : ∃ y, L[k] = y := ⟨_, rfl⟩
            have hY := hx k hkL
            rw [hy] at hY
            obtain ⟨p0, p1, p2, p3⟩ := hY
            have q0 := (hbel3.cell (p := ⟨b, _, none⟩) hbB).trans p0
            have q1 := (hbel3.cell (p := ⟨b, _, none⟩) hbB).trans p1
            have q2 := (hbel3.cell (p := ⟨b, _, none⟩) hbB).trans p2
            have q3 := (hbel3.cell (p := ⟨b, _, none⟩) hbB).trans p3
            have HY := Lib.hid hy
            clear hy p0 p1 p2 p3 f1 f2 i0
            cases hs : (y.s == σ)
            · have hne : i ≠ k := by
                intro e
                have e1 := HS.out
                have e2 := HY.out
                simp only [beq_eq_false_iff_ne] at hs
                apply hs
                rw [← e1, ← e2]
                simp only [e]
              go_wp2
              go_quiet (fail)
              go_wp2
              go_meet
              exact ⟨k, S, by omega, hk, rfl, bel_drewN hbel2 nq, HSS.out, hown2.drewN nq, HSM.out, fun h e => by rw [HY.out] at e; simp [e] at hs⟩
            · go_wp2
              go_quiet (fail)
              clear j0 g1
              have hb2 := bel_drewN hbel2 nq
              have ho2 := hown2.drewN nq
              clear hbel2 hown2 hbel3
              replace q0 : (wr.drewN nq).cell? _ = _ := q0
              replace q1 : (wr.drewN nq).cell? _ = _ := q1
              replace q2 : (wr.drewN nq).cell? _ = _ := q2
              replace q3 : (wr.drewN nq).cell? _ = _ := q3
              replace g2 : (wr.drewN nq).cell? _ = _ := g2
              generalize wr.drewN nq = wq at q0 q1 q2 q3 g2 hb2 ho2 ⊢
              have hys : y.s = σ := by simpa using hs
              have HYS := Lib.hid hys
              clear hs hys
              have bq := hb2.size
              cases ht : tel after inn y
              · have HSS2 := Lib.hid (filter_step_no (tel after inn) L i k hik hkL (by rw [HY.out]; exact ht))
                rcases tel_no ht with h1 | ⟨h1, h2, h3, h4⟩
                all_goals
                  clear ht
                  go_wp2
                  go_roundw
                  case rel => exact ⟨k + 1, S, by omega, by omega, by go_num, hb2.alloc bq _, HSS2.out.trans HSS.out, ho2.alloc _, same_step HSM.out (HY.out.symm ▸ HYS.out)⟩
                  case measure => simp [intOf]; omega
              · have HSS2 := Lib.hid (filter_step_yes (tel after inn) L i k hik hkL (by rw [HY.out]; exact ht))
                have r1 := (ho2.alloc (.cells #[.int .i64 y.s, .string y.c, .string y.i, .int .i64 y.k] 36)).alloc (.cells #[.int .i64 y.s, .string y.c, .string y.i, .int .i64 y.k] 36)
                have r2 := Rd.one (wq.alloc (.cells #[.int .i64 y.s, .string y.c, .string y.i, .int .i64 y.k] 36)) (wq.heap.size + 1) (by simp) y.s y.c y.i y.k
                have hll : S.length + 1 ≤ 16777216 := by
                  have h5 := HSS.out
                  have h6 : S.length ≤ n := by
                    rw [← h5]
                    refine Nat.le_trans (List.length_filter_le _ _) ?_
                    rw [List.length_drop, List.length_take]
                    have := HL.out
                    omega
                  omega
                rcases tel_yes ht with ⟨h1, h2, h3⟩ | ⟨h1, h2, h3, h4⟩
                all_goals
                  clear ht
                  go_wp2_with (at_builtin; go_must (refine wpList_own _ rfl (.tmp 81) (.tmp 83) rfl wo.heap.size _ S rfl r1 (by simp; omega) _ (some ⟨wq.heap.size + 1, 0, none⟩) 1 1 [⟨y.s, y.c, y.i, y.k⟩] rfl rfl r2 hll ?_; intro v' w1 hown3 hg hat))
                  have hb3 := bel_grown ((hb2.alloc bq (.cells #[.int .i64 y.s, .string y.c, .string y.i, .int .i64 y.k] 36)).alloc (by simp; omega) (.cells #[.int .i64 y.s, .string y.c, .string y.i, .int .i64 y.k] 36)) hg (by simp; omega) r1 (Nat.le_refl _)
                  clear hg r1 r2 hat q0 q1 q2 q3 g2 hb2 ho2
                  go_roundw
                  case rel => exact ⟨k + 1, S ++ [y], by omega, by omega, by go_num, hb3, by rw [HSS2.out, HSS.out, HY.out], hown3, same_step HSM.out (HY.out.symm ▸ HYS.out)⟩
                  case measure => simp [intOf]; omega
          · go_wp2
            go_quiet (fail)
            go_wp2
            go_meet
            exact ⟨k, S, by omega, hk, rfl, bel_drewN hbel2 nq, HSS.out, hown2.drewN nq, HSM.out, fun h => absurd h (by have := HL.out; omega)⟩
      case rest =>
        obtain ⟨k, S, hik, hk, rfl, hbel2, hS, hown2, hsame, hend⟩ := hcut
        have HSS := Lib.hid hS
        clear hS
        have HSM := Lib.hid hsame
        clear hsame
        have HEN := Lib.hid hend
        clear hend
        have hnL := HL.out
        have g1 := (hbel2.cell (p := ⟨g, _, none⟩) (by show g < _; omega)).trans f1
        have g2 := (hbel2.cell (p := ⟨g, _, none⟩) (by show g < _; omega)).trans f2
        have hbel3 := hbel.trans (hbel2.mono bsz)
        have hbsz3 := hbel3.size
        have ho := hown.below_all hbel2
        obtain ⟨A1, c1, rfl, hc1⟩ := hown.len
        obtain ⟨A2, c2, rfl, hc2, hr2⟩ := hown2.rd
        obtain ⟨no, hno⟩ : ∃ no, O.length = no := ⟨_, rfl⟩
        obtain ⟨ns, hns⟩ : ∃ ns, S.length = ns := ⟨_, rfl⟩
        have hnn : no + ns ≤ n := by
          have h5 := HO.out
          have h6 := HSS.out
          have h7 := filter_split (tel after inn) (L.take k) i k (by omega)
          have h8 := List.length_filter_le (tel after inn) (L.take k)
          rw [h7, List.take_take, Nat.min_eq_left (by omega), List.take_take, Nat.min_self, h5, h6, List.length_append, List.length_append, List.length_take] at h8
          omega
        rw [hno, hns]
        rw [hno] at hc1
        rw [hns] at hc2
        have HNO := Lib.hid hno
        have HNS := Lib.hid hns
        clear hno hns f1 f2 i0 hnL
        by_cases hb : 0 < limit ∧ 0 < no ∧ limit < (no : Int) + ns ∧ 0 < ns
        · have hi' : ((i : Int) == (n : Int)) = false := by rw [beq_eq_false_iff_ne]; omega
          obtain ⟨b1, b2, b3, b4⟩ := hb
          have hOl : O.length - 1 < O.length := by have := HNO.out; omega
          obtain ⟨z, hz⟩ : ∃ z, O[O.length - 1] = z := ⟨_, rfl⟩
          obtain ⟨ga, ca, e, hga1, hga2, _, hca⟩ := ho.at_ hOl
          injection e with e1 e2 e3
          subst e1
          rw [hz, HNO.out] at hca
          have z0 := hca.1
          clear hca e2 e3
          have HZ := Lib.hid (told_brk (last := last) HT.out HR.out hik (by rw [HL.out]; exact hk) HSM.out HEN.out HO.out HSS.out HC.out b1 (by rw [HNO.out]; exact b2) (by rw [HNO.out, HNS.out]; exact b3) (by rw [HNS.out]; exact b4) z (by rw [List.getElem?_eq_getElem hOl, hz]))
          have hnoc : O.length = no := HNO.out
          have hho : Own wc w.heap.size (.slice (some ⟨ga, 0, none⟩) no c1) O := by rw [← hnoc]; exact ho
          have hho2 := hho
          clear hz hnoc ho
          have HHO := Lib.hid hho
          clear hho hho2
          have hs1 : (0 : Int) ≤ (no : Int) - 1 := by omega
          have hs2 : IntKind.i64.wrap ((no : Int) - 1) = (no : Int) - 1 := IntWalk.i64_in _ (by omega)
          have hs3 : ((no : Int) - 1).toNat = no - 1 := by omega
          go_wp2
          go_quiet (fail)
          go_wp2
          go_ret3
          rw [HZ.out.1, HZ.out.2]
          exact ⟨_, rfl, HHO.out.drewN _, bel_drewN hbel3 _⟩
        · have hgo := told_go HT.out HR.out hik (by rw [HL.out]; exact hk) HSM.out HEN.out HO.out HSS.out HC.out (by rw [HNO.out, HNS.out]; exact hb)
          have HG := Lib.hid hgo
          clear hgo
          have r1 : Own wc w.heap.size (.slice A1 no c1) O := by rw [← HNO.out]; exact ho
          have hll : O.length + ns ≤ 16777216 := by have := HNO.out; omega
          have HB := Lib.hid hb
          clear hb ho
          go_wp2_with (at_builtin; go_must (refine wpList_own _ rfl (.tmp 108) (.tmp 109) rfl w.heap.size (.slice A1 no c1) O rfl r1 hbsz3 _ A2 ns c2 S rfl HNS.out hr2 hll ?_; intro v' w1 hown3 hg hat))
          · exact absurd ⟨by assumption, by assumption, by assumption, by assumption⟩ HB.out
          all_goals
            have hb3 := bel_grown hbel3 hg hbsz3 r1 (Nat.le_refl _)
            clear hg hat
            go_roundw
            case rel => exact ⟨k, O ++ S, hk, rfl, hb3, HG.out.1, hown3, HG.out.2⟩
            case measure => simp [intOf]; omega
    · have hin : i = n := by omega
      subst hin
      have HZ := Lib.hid (told_end (last := last) HT.out HO.out (by rw [HL.out]; exact Nat.le_refl _) HC.out)
      by_cases hal : after < last
      · go_wp2
        go_region
        go_wp2
        go_ret3
        rw [HZ.out.1, HZ.out.2]
        refine ⟨_, ret3 rfl ?_ rfl, hown.drew, hbel.drew⟩
        simp
        omega
      · go_wp2
        go_region
        go_wp2
        go_ret3
        rw [HZ.out.1, HZ.out.2]
        refine ⟨_, ret3 rfl ?_ rfl, hown.drew, hbel.drew⟩
        simp
        omega

theorem after_low (w : World) (g : Nat) (keep last hor : Int) (A : Option Addr) (n c : Nat) (hb : Blk w g 55 #[.int .i64 keep, .slice A n c, .int .i64 last, .int .i64 hor]) (after limit : Int) (inn : ByteArray) (ha : after < hor) :
    Calls Try.prog 13 #[.pointer (some ⟨g, 0, none⟩), .int .i64 after, .int .i64 limit, .string inn] w fun e w' => e = .returned (.tuple #[.slice none 0 0, .int .i64 0, .int .i64 180]) ∧ w = w' := by
  have h3 := hb.cell 3
  simp at h3
  clear hb
  go_enter Try.func13, Try.ntmps13
  go_wp2
  go_ret3
  exact ⟨rfl, rfl⟩
end Go.Proofs.Ytjdhmagkgoghpaa
