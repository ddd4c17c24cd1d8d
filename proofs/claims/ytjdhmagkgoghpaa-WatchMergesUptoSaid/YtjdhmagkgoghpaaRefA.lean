/- The document's After: what it tells is what the plain words of Told say. -/
import Derived.Test.YtjdhmagkgoghpaaFew
import Derived.Test.YtjdhmagkgoghpaaApp
import Derived.Test.YtjdhmagkgoghpaaAfter
import Derived.Deep.DeepMust
import Derived.Deep.DeepCutAuto
import Derived.Deep.CutBlock
namespace Go.Proofs.Ytjdhmagkgoghpaa
set_option linter.unusedVariables false
open Go.RowKit
theorem grp_is (T : List Ch) (n k : Nat) (hnk : n < k) (hk : k ≤ T.length) (σ : Int) (hs : ∀ j (h : j < T.length), n ≤ j → j < k → T[j].s = σ) (hend : ∀ (h : k < T.length), T[k].s ≠ σ) : grp (T.drop n) = k - n := by
  have e : T.drop n = (T.take k).drop n ++ T.drop k := by
    conv => lhs; rw [← List.take_append_drop k T]
    rw [List.drop_append_of_le_length (by rw [List.length_take]; omega)]
  rw [e, grp_of (s := σ)]
  · rw [List.length_drop, List.length_take]; omega
  · intro h
    have := congrArg List.length h
    rw [List.length_drop, List.length_take] at this
    simp at this
    omega
  · intro x hx
    obtain ⟨j, hj, rfl⟩ := List.getElem_of_mem hx
    rw [List.length_drop, List.length_take] at hj
    rw [List.getElem_drop, List.getElem_take]
    exact hs (n + j) (by omega) (by omega) (by omega)
  · intro x hx
    have hl : k < T.length := by
      rcases Nat.lt_or_ge k T.length with h | h
      · exact h
      · rw [List.drop_of_length_le h] at hx; simp at hx
    rw [List.drop_eq_getElem_cons hl] at hx
    simp only [List.head?_cons, Option.some.injEq] at hx
    rw [← hx]
    exact hend hl
def RefPost (w : World) (r : List Ch) (up : Int) (e : Ending) (w' : World) : Prop :=
  ∃ A c, e = .returned (.tuple #[.slice A r.length c, .int .i64 up, .int .i64 0]) ∧ Rd w' w'.heap.size A r ∧ (∀ a, A = some a → w.heap.size ≤ a.block) ∧ Below w.heap.size w w'
set_option maxRecDepth 100000 in
set_option maxHeartbeats 8000000 in
theorem refAfter_main (w : World) (keep : Nat) (last hor : Int) (A : Option Addr) (n c : Nat) (L : List Ch)
   (hL : L.length = n) (hRd : Rd w w.heap.size A L) (hn : n ≤ 1048576) (after limit : Int) (inn : ByteArray) (ha : hor ≤ after) :
    Calls Try.prog 22 #[.agg #[.int .i64 keep, .slice A n c, .int .i64 hor, .int .i64 last], .int .i64 after, .int .i64 limit, .string inn] w (RefPost w (toldL L after limit inn) (toldUp L after limit inn last)) := by
  have HL := Lib.hid hL
  clear hL
  obtain ⟨T, hT⟩ : ∃ T, L.filter (tel after inn) = T := ⟨_, rfl⟩
  have HT := Lib.hid hT
  clear hT
  obtain ⟨en, hen⟩ : ∃ en, max after last = en := ⟨_, rfl⟩
  have HEN := Lib.hid hen
  clear hen
  go_enter Try.func22, Try.ntmps22
  go_upto_if 24 with fail
  go_cut [11] (fun v wr => v = .int .i64 en ∧ wr = w.alloc (.cells #[.int .i64 keep, .slice A n c, .int .i64 hor, .int .i64 last] 43))
  case first =>
    by_cases hal : after < last
    · go_wp2
      go_meet
      exact ⟨congrArg (Value.int .i64) (by rw [← HEN.out]; omega), rfl⟩
    · go_wp2
      go_meet
      exact ⟨congrArg (Value.int .i64) (by rw [← HEN.out]; omega), rfl⟩
  case rest =>
    obtain ⟨rfl, rfl⟩ := hcut
    go_wp2
    go_loopw [12, 13] (fun v i wr => ∃ (k : Nat) (O : List Ch), k ≤ n ∧ i = .int .i64 k ∧ Below w.heap.size w wr ∧ Blk wr w.heap.size 43 #[.int .i64 keep, .slice A n c, .int .i64 hor, .int .i64 last] ∧ (L.take k).filter (tel after inn) = O ∧ Own wr w.heap.size v O) (fun _ i _ => n - (intOf i).toNat)
    case atStart => exact ⟨0, [], Nat.zero_le _, rfl, (Below.refl _ _).alloc (Nat.le_refl _) _, Blk.new w 43 _, by simp, Own.nil_⟩
    case round =>
      obtain ⟨k, O, hk, rfl, hbel, hblk, hO, hown⟩ := hrel
      have g1 := hblk.cell 1
      have g2 := hblk.cell 2
      have g3 := hblk.cell 3
      simp at g1 g2 g3
      have HOO := Lib.hid hO
      clear hO
      have bsz := hbel.size
      have b43 := hblk.lt
      by_cases hlt : k < n
      · have hkL : k < L.length := by have := HL.out; omega
        obtain ⟨b, off, rfl, hb, hx⟩ := hRd (by omega)
        obtain ⟨y, hy⟩ : ∃ y, L[k] = y := ⟨_, rfl⟩
        have hY := hx k hkL
        rw [hy] at hY
        obtain ⟨p0, p1, p2, p3⟩ := hY
        have q0 := (hbel.cell (p := ⟨b, _, none⟩) hb).trans p0
        have q1 := (hbel.cell (p := ⟨b, _, none⟩) hb).trans p1
        have q2 := (hbel.cell (p := ⟨b, _, none⟩) hb).trans p2
        have q3 := (hbel.cell (p := ⟨b, _, none⟩) hb).trans p3
        have HY := Lib.hid hy
        clear hy p0 p1 p2 p3 hx
        cases ht : tel after inn y
        · have HS2 := Lib.hid (filter_step_no (tel after inn) L 0 k (Nat.zero_le _) hkL (by rw [HY.out]; exact ht))
          rcases tel_no ht with h1 | ⟨h1, h2, h3, h4⟩
          all_goals
            clear ht
            go_wp2
            go_roundw
            case rel => exact ⟨k + 1, O, by omega, by go_num, hbel, hblk, HS2.out.trans HOO.out, hown⟩
            case measure => simp [intOf]; omega
        · have HS2 := Lib.hid (filter_step_yes (tel after inn) L 0 k (Nat.zero_le _) hkL (by rw [HY.out]; exact ht))
          have r1 := hown.alloc (.cells #[.int .i64 y.s, .string y.c, .string y.i, .int .i64 y.k] 36)
          have r2 := Rd.one wr wr.heap.size rfl y.s y.c y.i y.k
          have hll : O.length + 1 ≤ 16777216 := by
            have h5 := HOO.out
            have h6 : O.length ≤ n := by
              rw [← h5]
              refine Nat.le_trans (List.length_filter_le _ _) ?_
              rw [List.length_take]
              omega
            omega
          rcases tel_yes ht with ⟨h1, h2, h3⟩ | ⟨h1, h2, h3, h4⟩
          all_goals
            clear ht
            go_wp2_with (at_builtin; go_must (refine wpList_own _ rfl (.tmp 56) (.tmp 62) rfl w.heap.size u12 O rfl r1 (by simp; omega) _ (some ⟨wr.heap.size, 0, none⟩) 1 1 [⟨y.s, y.c, y.i, y.k⟩] rfl rfl r2 hll ?_; intro v' w1 hown3 hg hat))
            have hb3 := bel_grown (hbel.alloc bsz (.cells #[.int .i64 y.s, .string y.c, .string y.i, .int .i64 y.k] 36)) hg (by simp; omega) r1 (Nat.le_refl _)
            have hblk3 := (hblk.alloc (.cells #[.int .i64 y.s, .string y.c, .string y.i, .int .i64 y.k] 36)).grown hg (fun e => own_blk_ne r1 (hblk.alloc (.cells #[.int .i64 y.s, .string y.c, .string y.i, .int .i64 y.k] 36)) (by decide) e.symm)
            clear hg r1 r2 hat q0 q1 q2 q3
            go_roundw
            case rel => exact ⟨k + 1, O ++ [y], by omega, by go_num, hb3, hblk3, by rw [show (L.take (k + 1)).filter (tel after inn) = ((L.take (k + 1)).drop 0).filter (tel after inn) from rfl, HS2.out, HY.out]; rw [show ((L.take k).drop 0).filter (tel after inn) = O from HOO.out], hown3⟩
            case measure => simp [intOf]; omega
      · rw [List.take_of_length_le (by have := HL.out; omega)] at HOO
        have hOT : O = T := HOO.out.symm.trans HT.out
        subst hOT
        clear hRd
        obtain ⟨A1, c1, rfl, hc1, hr1⟩ := hown.rd
        obtain ⟨tn, htn⟩ : ∃ tn, O.length = tn := ⟨_, rfl⟩
        have htn2 : tn ≤ 1048576 := by
          rw [← htn, ← HT.out]
          refine Nat.le_trans (List.length_filter_le _ _) ?_
          have := HL.out
          omega
        have HTN := Lib.hid htn
        have hownt : Own wr w.heap.size (.slice A1 tn c1) O := by rw [← htn]; exact hown
        rw [htn] at hc1 ⊢
        have HOW := Lib.hid hownt
        have HAF : Hid (∀ a, A1 = some a → w.heap.size ≤ a.block) := fun a e => (hown.lt a.block (by rw [e]; rfl)).1
        clear htn hown hownt g2 g3
        have htake : O.take (cutAt limit O) = toldL L after limit inn := by unfold toldL; rw [HT.out]
        have HTK := Lib.hid htake
        clear htake
        by_cases hlim : limit ≤ 0
        · go_wp2
          go_ret3
          have hc : cutAt limit O = O.length := if_pos hlim
          have e1 : toldL L after limit inn = O := by rw [← HTK.out, hc, List.take_length]
          have e2 : toldUp L after limit inn last = en := by unfold toldUp; rw [HT.out, if_pos hc]; exact HEN.out
          rw [e1, e2]
          exact ⟨A1, c1, by rw [HTN.out]; rfl, hr1, HAF.out, hbel⟩
        · obtain ⟨wf, rfl⟩ : ∃ wf : World, wf = wr := ⟨_, rfl⟩
          go_wp2
          clear g1
          go_loopw [14, 15] (fun i k' wr => ∃ p j : Nat, p ≤ tn ∧ i = .int .i64 p ∧ wr = wf.drewN j ∧ cut limit O p = cut limit O 0) (fun i _ _ => tn - (intOf i).toNat)
          case atStart => exact ⟨0, 0, Nat.zero_le _, rfl, rfl, rfl⟩
          case round =>
            obtain ⟨p, j0, hp, rfl, rfl, hcut⟩ := hrel
            have HCUT := Lib.hid hcut
            clear hcut
            by_cases hpt : p < tn
            · have hpO : p < O.length := by have := HTN.out; omega
              obtain ⟨σ, hσ⟩ : ∃ σ, (O[p]).s = σ := ⟨_, rfl⟩
              obtain ⟨b, off, rfl, hb, hx⟩ := hr1 (by omega)
              have i0 := (hx p hpO).1
              rw [hσ] at i0
              have HS := Lib.hid hσ
              clear hσ
              go_upto_block 4 with fail
              go_cut [15] (fun k' wr => ∃ k j : Nat, p < k ∧ k ≤ tn ∧ k' = .int .i64 k ∧ wr = wf.drewN j ∧ (∀ i (h : i < O.length), p ≤ i → i < k → O[i].s = σ) ∧ ∀ (h : k < O.length), O[k].s ≠ σ)
              case first =>
                go_wp2_with fail
                go_loopw [15] (fun k' wr => ∃ k j : Nat, p ≤ k ∧ k ≤ tn ∧ k' = .int .i64 k ∧ wr = wf.drewN j ∧ (∀ i (h : i < O.length), p ≤ i → i < k → O[i].s = σ)) (fun k' _ => tn - (intOf k').toNat)
                case atStart => exact ⟨p, j0, Nat.le_refl _, hp, rfl, rfl, fun i _ h1 h2 => absurd h1 (by omega)⟩
                case round =>
                  obtain ⟨k, j, hpk, hkt, rfl, rfl, hsame⟩ := hrel
                  have HSM := Lib.hid hsame
                  clear hsame
                  by_cases hkn : k < tn
                  · have hkO : k < O.length := by have := HTN.out; omega
                    obtain ⟨y, hy⟩ : ∃ y, O[k] = y := ⟨_, rfl⟩
                    have hY := (hx k hkO).1
                    rw [hy] at hY
                    have HY := Lib.hid hy
                    clear hy
                    cases hs : (y.s == σ)
                    · have hne : p ≠ k := by
                        intro e
                        have e1 := HS.out
                        have e2 := HY.out
                        simp only [beq_eq_false_iff_ne] at hs
                        apply hs
                        rw [← e1, ← e2]
                        simp only [e]
                      go_wp2
                      go_quiet (fail)
                      go_wp2
                      go_meet
                      exact ⟨k, _, by omega, hkt, rfl, World.drewN_drewN _ _ _, HSM.out, fun h e => by rw [HY.out] at e; simp [e] at hs⟩
                    · go_wp2
                      go_quiet (fail)
                      go_wp2
                      go_roundw
                      case rel => exact ⟨k + 1, _, by omega, by omega, by go_num, rfl, same_step (hk := hkO) HSM.out (by rw [HY.out]; simpa using hs)⟩
                      case measure => simp [intOf]; omega
                  · go_wp2
                    go_quiet (fail)
                    go_wp2
                    go_meet
                    exact ⟨k, _, by omega, hkt, rfl, World.drewN_drewN _ _ _, HSM.out, fun h => absurd h (by have := HTN.out; omega)⟩
              case rest =>
                obtain ⟨k, j, hpk, hkt, rfl, rfl, hsame, hend⟩ := hcut
                have hgr := Lib.hid (grp_is O p k hpk (by rw [HTN.out]; exact hkt) σ hsame hend)
                clear hsame hend i0
                by_cases hb : 0 < p ∧ limit < (k : Int)
                · obtain ⟨b1, b2⟩ := hb
                  have hzl : p - 1 < O.length := by omega
                  obtain ⟨z, hz⟩ : ∃ z, O[p - 1] = z := ⟨_, rfl⟩
                  have z0 := (hx (p - 1) hzl).1
                  rw [hz] at z0
                  have hc : cutAt limit O = p := by
                    unfold cutAt
                    rw [if_neg (by omega), ← HCUT.out]
                    exact cut_stop limit O p hpO b1 (by rw [hgr.out]; omega)
                  have e1 : toldL L after limit inn = O.take p := by rw [← HTK.out, hc]
                  have e2 : toldUp L after limit inn last = z.s := by
                    unfold toldUp
                    rw [HT.out, hc, if_neg (by omega), List.getElem?_eq_getElem hzl, hz]
                    rfl
                  have E1 := Lib.hid e1
                  have E2 := Lib.hid e2
                  clear e1 e2 hz hc hx
                  have hs1 : (0 : Int) ≤ (p : Int) - 1 := by omega
                  have hs2 : IntKind.i64.wrap ((p : Int) - 1) = (p : Int) - 1 := IntWalk.i64_in _ (by omega)
                  have hs3 : ((p : Int) - 1).toNat = p - 1 := by omega
                  go_wp2
                  go_quiet (fail)
                  go_wp2
                  go_ret3
                  rw [E1.out, E2.out]
                  have hlen : (O.take p).length = p := by rw [List.length_take]; omega
                  exact ⟨_, c1, by rw [hlen]; rfl, ((hr1.take_ p).drewN j).drewN nq, HAF.out, bel_drewN (bel_drewN hbel j) nq⟩
                · have hcg : cut limit O k = cut limit O 0 := by
                    have h5 := cut_go limit O p hpO (by rw [hgr.out]; intro h; exact hb ⟨h.1, by omega⟩)
                    rw [hgr.out] at h5
                    rw [← HCUT.out, h5]
                    congr 1
                    omega
                  have HCG := Lib.hid hcg
                  clear hcg hx
                  by_cases hp0 : 0 < p
                  · have hkl : ¬ limit < (k : Int) := fun h => hb ⟨hp0, h⟩
                    go_wp2
                    go_roundw
                    case rel => exact ⟨k, j, hkt, rfl, rfl, HCG.out⟩
                    case measure => simp [intOf]; omega
                  · go_wp2
                    go_roundw
                    case rel => exact ⟨k, j, hkt, rfl, rfl, HCG.out⟩
                    case measure => simp [intOf]; omega
            · go_wp2
              go_ret3
              have hpe : p = O.length := by have := HTN.out; omega
              have hc : cutAt limit O = O.length := by
                unfold cutAt
                rw [if_neg (by omega), ← HCUT.out, hpe]
                exact cut_end _ _
              have e1 : toldL L after limit inn = O := by rw [← HTK.out, hc, List.take_length]
              have e2 : toldUp L after limit inn last = en := by unfold toldUp; rw [HT.out, if_pos hc]; exact HEN.out
              rw [e1, e2]
              exact ⟨A1, c1, by rw [HTN.out]; rfl, hr1.drewN _, HAF.out, bel_drewN hbel _⟩
theorem refAfter_low (w : World) (keep last hor : Int) (A : Option Addr) (n c : Nat) (after limit : Int) (inn : ByteArray) (ha : after < hor) :
    Calls Try.prog 22 #[.agg #[.int .i64 keep, .slice A n c, .int .i64 hor, .int .i64 last], .int .i64 after, .int .i64 limit, .string inn] w fun e w' => e = .returned (.tuple #[.slice none 0 0, .int .i64 0, .int .i64 180]) ∧ Below w.heap.size w w' := by
  go_enter Try.func22, Try.ntmps22
  go_wp2
  go_ret3
  exact ⟨rfl, (Below.refl _ _).alloc (Nat.le_refl _) _⟩
end Go.Proofs.Ytjdhmagkgoghpaa
