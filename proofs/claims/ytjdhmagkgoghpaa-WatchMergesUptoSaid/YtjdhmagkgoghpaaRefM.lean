/- The document's Merge: the lists in one. -/
import Derived.Test.YtjdhmagkgoghpaaMer
import Derived.Deep.RegionLaw
namespace Go.Proofs.Ytjdhmagkgoghpaa
set_option linter.unusedVariables false
open Go.RowKit Go.Deep
theorem info3 : (Try.prog.info? 3).map (fun i => (i.zero, i.size, i.bytes)) = some (some (.int .i64 0), 1, 8) := by kernel_rfl
/-- the lists from these places on -/
def dropAt (f : Nat → Nat) (ls : List (List Ch)) : List (List Ch) := ls.mapIdx fun i l => l.drop (f i)
theorem dropAt_length (f : Nat → Nat) (ls : List (List Ch)) : (dropAt f ls).length = ls.length := by simp [dropAt]
theorem dropAt_at {f : Nat → Nat} {ls : List (List Ch)} {i : Nat} {l : List Ch} (h : ls[i]? = some l) : (dropAt f ls)[i]? = some (l.drop (f i)) := by simp [dropAt, h]
theorem dropAt_zero (ls : List (List Ch)) : dropAt (fun _ => 0) ls = ls := by
  apply List.ext_getElem?
  intro i
  cases h : ls[i]? with
  | none => rw [List.getElem?_eq_none_iff] at h; rw [List.getElem?_eq_none_iff, dropAt_length]; exact h
  | some l => rw [dropAt_at h]; rfl
def upd (f : Nat → Nat) (j : Nat) : Nat → Nat := fun i => if i = j then f i + 1 else f i
theorem dropAt_upd {f : Nat → Nat} {ls : List (List Ch)} {j : Nat} {l : List Ch} (h : ls[j]? = some l) : dropAt (upd f j) ls = (dropAt f ls).set j (l.drop (f j + 1)) := by
  apply List.ext_getElem?
  intro i
  rw [List.getElem?_set]
  split
  · rename_i e
    subst e
    rw [dropAt_at h, dropAt_length, if_pos (List.getElem?_eq_some_iff.1 h).1]
    simp [upd]
  · rename_i e
    cases h2 : ls[i]? with
    | none => rw [List.getElem?_eq_none_iff] at h2; rw [(List.getElem?_eq_none_iff).2 (by rw [dropAt_length]; exact h2), (List.getElem?_eq_none_iff).2 (by rw [dropAt_length]; exact h2)]
    | some l2 => rw [dropAt_at h2, dropAt_at h2]; simp [upd, Ne.symm e]
def ints (f : Nat → Nat) (n : Nat) : List Value := (List.range n).map fun i => .int .i64 (f i : Int)
theorem ints_at (f : Nat → Nat) (n i : Nat) (h : i < n) : (ints f n)[i]? = some (.int .i64 (f i : Int)) := by simp [ints, h]
theorem ints_set (f : Nat → Nat) (n j : Nat) : (ints f n).set j (.int .i64 ((f j : Int) + 1)) = ints (upd f j) n := by
  apply List.ext_getElem?
  intro i
  rw [List.getElem?_set]
  by_cases hi : i < n
  · split
    · rename_i e
      subst e
      rw [if_pos (by simp [ints]; exact hi), ints_at _ _ _ hi]
      simp [upd]
    · rename_i e
      rw [ints_at _ _ _ hi, ints_at _ _ _ hi]
      simp [upd, Ne.symm e]
  · have h1 : ∀ f, (ints f n)[i]? = none := fun f => by rw [List.getElem?_eq_none_iff]; simp [ints]; omega
    rw [h1, h1]
    split
    · rename_i e
      subst e
      rw [if_neg (by simp [ints]; omega)]
    · rfl
theorem ints_zero (n : Nat) : ints (fun _ => 0) n = List.replicate n (.int .i64 0) := by
  apply List.ext_getElem?
  intro i
  by_cases hi : i < n
  · rw [ints_at _ _ _ hi, List.getElem?_replicate, if_pos hi]; rfl
  · rw [List.getElem?_replicate, if_neg hi, List.getElem?_eq_none_iff]; simp [ints]; omega
/-- the head behind a place -/
theorem drop_cons {l t : List Ch} {k : Nat} {x : Ch} (h : l.drop k = x :: t) : k < l.length ∧ l[k]? = some x ∧ t = l.drop (k + 1) := by
  have hk : k < l.length := by
    rcases Nat.lt_or_ge k l.length with h1 | h1
    · exact h1
    · rw [List.drop_of_length_le h1] at h; cases h
  rw [List.drop_eq_getElem_cons hk] at h
  injection h with h1 h2
  exact ⟨hk, by rw [List.getElem?_eq_getElem hk, h1], h2.symm⟩
set_option maxHeartbeats 4000000 in
theorem refMerge_any (w : World) (A : Option Addr) (n c : Nat) (ls : List (List Ch)) (hl : ls.length = n) (hR : Rss w w.heap.size A ls) (hn : n ≤ 1048576) (ht : tot ls ≤ 1048576) :
    Calls Try.prog 21 #[.slice A n c] w fun e w' => ∃ v, e = .returned v ∧ Own w' w.heap.size v (merge ls) ∧ Below w.heap.size w w' := by
  have HL := Lib.hid hl
  clear hl
  have HT := Lib.hid ht
  clear ht
  obtain ⟨i0, hi, hz0, hz1, hz2⟩ := info_parts info3
  go_enter Try.func21, Try.ntmps21
  go_wp2_with (at_make; go_must (refine wpList_make_full w rfl _ _ 60 rfl w.heap.size 3 i0 _ 1 Try.underlying60 hi hz0 hz1 .i64 .i64 n n n rfl rfl rfl rfl (by rw [hz2]; omega) (by simp [maxLen]; omega) (Nat.le_refl _) ?_; intro w1 own1 hg1))
  have hbel1 : Below w.heap.size w w1 := (Below.refl _ _).grown hg1 (Nat.le_refl _) (by simp)
  have hints : (madeCells (Value.int IntKind.i64 0).cells (n * 1)).toList = ints (fun _ => 0) n := by
    rw [ints_zero, Nat.mul_one]
    exact toList_madeCells_one _ _
  rw [hints] at own1
  clear hints hg1 hi hz0 hz1 hz2
  go_loopg [4] (tot ls) (fun gh lv wr => ∃ (f : Nat → Nat) (O : List Ch), gh = tot (dropAt f ls) ∧ wr.ownsRow w.heap.size 3 1 (.slice (some ⟨w.heap.size, 0, none⟩) n n) n (ints f n) ∧
    Own wr w.heap.size lv O ∧ O ++ merge (dropAt f ls) = merge ls ∧ Below w.heap.size w wr)
  case atStart => exact ⟨fun _ => 0, [], by rw [dropAt_zero], own1, Own.nil_, by rw [dropAt_zero]; rfl, hbel1⟩
  case round =>
    clear own1 hbel1
    obtain ⟨f, O, rfl, own, hO, hmg, hbel⟩ := hrel
    obtain ⟨wo, rfl⟩ : ∃ wo : World, wo = wr := ⟨_, rfl⟩
    obtain ⟨ld, hld⟩ : ∃ ld, dropAt f ls = ld := ⟨_, rfl⟩
    have hlen : ld.length = n := by rw [← hld, dropAt_length, HL.out]
    rw [hld] at hmg
    have HLD := Lib.hid hld
    have HMG := Lib.hid hmg
    have HLEN := Lib.hid hlen
    have HO := Lib.hid hO
    clear hld hmg hlen hO
    go_wp2
    go_loopw [5, 6] (fun b i wq => ∃ k q : Nat, k ≤ n ∧ i = .int .i64 k ∧ b = .int .i64 (encAt (leastAt ld k)) ∧ wq = wo.drewN q) (fun _ i _ => n - (intOf i).toNat)
    case atStart => exact ⟨0, 0, Nat.zero_le _, rfl, rfl, rfl⟩
    case round =>
      obtain ⟨k, q, hk, rfl, rfl, rfl⟩ := hrel
      by_cases hlt : k < n
      · have hkl : k < ls.length := by have := HL.out; omega
        obtain ⟨b, off, rfl, hb, hc⟩ := hR (by omega)
        obtain ⟨l, hlk⟩ : ∃ l, ls[k]? = some l := ⟨_, List.getElem?_eq_getElem hkl⟩
        obtain ⟨A1, c1, p0, hc1, hrd1⟩ := hc k l hlk
        have q0 := (hbel.cell (p := ⟨b, _, none⟩) hb).trans p0
        have q1 : wo.cell? ⟨w.heap.size, k, none⟩ = some (.int .i64 (f k : Int)) := by rw [own.cellAt k (by omega), ints_at f n k hlt]
        have hldk : ld[k]? = some (l.drop (f k)) := by rw [← HLD.out]; exact dropAt_at hlk
        have hll := len_le_tot hlk
        have hll2 := HT.out
        obtain ⟨fk, hfk⟩ : ∃ fk, f k = fk := ⟨_, rfl⟩
        rw [hfk] at q1 hldk
        obtain ⟨ll, hl1⟩ : ∃ ll, l.length = ll := ⟨_, rfl⟩
        rw [hl1] at q0 hc1 hll
        have hrd1' := hrd1
        have HL1 := Lib.hid hl1
        have HFK := Lib.hid hfk
        by_cases hfl : fk < ll
        · have hfl2 : fk < l.length := by rw [hl1]; exact hfl
          obtain ⟨b1, o1, rfl, hb1, hx1⟩ := hrd1 (by omega)
          obtain ⟨x, hxx⟩ : ∃ x, l[fk] = x := ⟨_, rfl⟩
          have hX := hx1 fk hfl2
          rw [hxx] at hX
          have x0 := (hbel.cell (p := ⟨b1, _, none⟩) hb1).trans hX.1
          rw [List.drop_eq_getElem_cons hfl2, hxx] at hldk
          clear hl1 hfk hxx hX hx1 hrd1' hrd1
          cases h0 : leastAt ld k with
          | none =>
            have HE := Lib.hid (least_first hldk h0)
            simp only [encAt]
            clear hldk h0 hlk hc hR
            go_wp2
            go_quiet (fail)
            go_wp2
            go_roundw
            case rel => exact ⟨k + 1, _, by omega, by go_num, by rw [HE.out], rfl⟩
            case measure => simp [intOf]; omega
          | some j =>
            simp only [encAt]
            obtain ⟨hjk, y, r, hj, _⟩ := least_some (by have := HLEN.out; omega) h0
            have hjl : j < ls.length := by have := HL.out; omega
            obtain ⟨l2, hlj⟩ : ∃ l2, ls[j]? = some l2 := ⟨_, List.getElem?_eq_getElem hjl⟩
            obtain ⟨A2, c2, u0, hc2, hrd2⟩ := hc j l2 hlj
            have w0 := (hbel.cell (p := ⟨b, _, none⟩) hb).trans u0
            have hdj : l2.drop (f j) = y :: r := by
              have h5 := dropAt_at (f := f) hlj
              rw [HLD.out, hj] at h5
              injection h5 with h5
              exact h5.symm
            obtain ⟨hfj, hyy, _⟩ := drop_cons hdj
            obtain ⟨b2, o2, rfl, hb2, hx2⟩ := hrd2 (by omega)
            have hY := hx2 (f j) hfj
            rw [show l2[f j] = y from by rw [List.getElem?_eq_getElem hfj] at hyy; injection hyy] at hY
            have y0 := (hbel.cell (p := ⟨b2, _, none⟩) hb2).trans hY.1
            have hll3 := len_le_tot hlj
            have q2 : wo.cell? ⟨w.heap.size, j, none⟩ = some (.int .i64 (f j : Int)) := by rw [own.cellAt j (by omega), ints_at f n j (by omega)]
            have hcase : (decide (x.s < y.s) = true ∧ leastAt ld (k + 1) = some k) ∨ (decide (x.s < y.s) = false ∧ leastAt ld (k + 1) = some j) := by
              by_cases h : x.s < y.s
              · exact .inl ⟨by simpa using h, least_less hldk h0 hj h⟩
              · exact .inr ⟨by simpa using h, least_not hldk h0 hj h⟩
            have HC := Lib.hid hcase
            obtain ⟨fj, hfj1⟩ : ∃ fj, f j = fj := ⟨_, rfl⟩
            obtain ⟨m2, hm2⟩ : ∃ m2, l2.length = m2 := ⟨_, rfl⟩
            rw [hfj1] at y0 q2 hfj
            rw [hm2] at w0 hc2 hfj hll3
            have hjn : j < n := by omega
            have hjn' : (j : Int) < (n : Int) := by omega
            clear hcase hY hx2 hrd2 hc u0 p0 hlk hlj h0 hj hR hldk hyy hdj hfj1 hm2
            rcases HC.out with ⟨hd, he⟩ | ⟨hd, he⟩
            · have HE := Lib.hid he
              clear he HC
              go_wp2
              go_quiet (fail)
              go_wp2
              go_roundw
              case rel => exact ⟨k + 1, _, by omega, by go_num, by rw [HE.out], rfl⟩
              case measure => simp [intOf]; omega
            · have HE := Lib.hid he
              clear he HC
              go_wp2
              go_quiet (fail)
              go_wp2
              go_roundw
              case rel => exact ⟨k + 1, _, by omega, by go_num, by rw [HE.out], rfl⟩
              case measure => simp [intOf]; omega
        · rw [List.drop_of_length_le (by omega)] at hldk
          have HE := Lib.hid (least_empty hldk)
          clear hldk hlk hc hR hl1 hfk hrd1 hrd1'
          go_wp2
          go_quiet (fail)
          go_wp2
          go_roundw
          case rel => exact ⟨k + 1, _, by omega, by go_num, by rw [HE.out], rfl⟩
          case measure => simp [intOf]; omega
      · obtain rfl : k = n := by omega
        have hbq := bel_drewN hbel q
        have hOq := HO.out.drewN q
        have ownq : (wo.drewN q).ownsRow w.heap.size 3 1 (.slice (some ⟨w.heap.size, 0, none⟩) k k) k (ints f k) := own
        clear hbel own HO
        generalize wo.drewN q = wq at hbq hOq ownq ⊢
        cases h0 : leastAt ld k with
        | none =>
          simp only [encAt]
          have hm0 : merge ld = [] := merge_none (by rw [HLEN.out]; exact h0)
          have hmg := HMG.out
          rw [hm0, List.append_nil] at hmg
          rw [hmg] at hOq
          clear hm0 hmg h0
          go_wp2
          go_ret
          exact ⟨_, rfl, hOq, hbq⟩
        | some j =>
          simp only [encAt]
          obtain ⟨hjn, y, r, hj, _⟩ := least_some (by have := HLEN.out; omega) h0
          have htl := merge_length ld
          have htl2 := merge_length ls
          have hmg := HMG.out
          rw [← hmg, List.length_append, htl] at htl2
          have hst := tot_set hj
          have hms := merge_some (by rw [HLEN.out]; exact h0) hj
          have hjl : j < ls.length := by have := HL.out; omega
          obtain ⟨b, off, rfl, hb, hc⟩ := hR (by omega)
          obtain ⟨l2, hlj⟩ : ∃ l2, ls[j]? = some l2 := ⟨_, List.getElem?_eq_getElem hjl⟩
          obtain ⟨A2, c2, u0, hc2, hrd2⟩ := hc j l2 hlj
          have w0 := (hbq.cell (p := ⟨b, _, none⟩) hb).trans u0
          have hdj : l2.drop (f j) = y :: r := by
            have h5 := dropAt_at (f := f) hlj
            rw [HLD.out, hj] at h5
            injection h5 with h5
            exact h5.symm
          obtain ⟨hfj, hyy, hrr⟩ := drop_cons hdj
          have hup := dropAt_upd (f := f) hlj
          rw [HLD.out, ← hrr] at hup
          obtain ⟨b2, o2, rfl, hb2, hx2⟩ := hrd2 (by omega)
          have hY := hx2 (f j) hfj
          rw [show l2[f j] = y from by rw [List.getElem?_eq_getElem hfj] at hyy; injection hyy] at hY
          have y0 := (hbq.cell (p := ⟨b2, _, none⟩) hb2).trans hY.1
          have y1 := (hbq.cell (p := ⟨b2, _, none⟩) hb2).trans hY.2.1
          have y2 := (hbq.cell (p := ⟨b2, _, none⟩) hb2).trans hY.2.2.1
          have y3 := (hbq.cell (p := ⟨b2, _, none⟩) hb2).trans hY.2.2.2
          have hll3 := len_le_tot hlj
          have q2 : wq.cell? ⟨w.heap.size, j, none⟩ = some (.int .i64 (f j : Int)) := by rw [ownq.cellAt j (by omega), ints_at f k j (by omega)]
          have HIS := Lib.hid (ints_set f k j)
          obtain ⟨fj, hfj1⟩ : ∃ fj, f j = fj := ⟨_, rfl⟩
          obtain ⟨m2, hm2⟩ : ∃ m2, l2.length = m2 := ⟨_, rfl⟩
          rw [hfj1] at y0 y1 y2 y3 q2 hfj HIS
          rw [hm2] at w0 hc2 hfj hll3
          have hjn' : (j : Int) < (k : Int) := by omega
          have hfj' : (fj : Int) < (m2 : Int) := by omega
          have hll2 := HT.out
          have HUP := Lib.hid hup
          have HMS := Lib.hid hms
          obtain ⟨AO, cO, rfl, hcO⟩ := hOq.len
          have hbsz := hbq.size
          clear hY hx2 hrd2 hc u0 hlj h0 hj hyy hdj hfj1 hm2 hrr hup hms hmg htl hR
          obtain ⟨i6, hi6, h60, h61, h62⟩ := info_parts info36
          have q1 := (hOq.drew).alloc (.cells #[.int .i64 y.s, .string y.c, .string y.i, .int .i64 y.k] 36)
          have q5 := (Rd.one wq.drew wq.heap.size rfl y.s y.c y.i y.k).reads
          have one1 := chs_oneCell [⟨y.s, y.c, y.i, y.k⟩]
          go_upto_region 11 with fail
          go_region_law (refine step_append_any _ rfl (.tmp 59) (.tmp 70) 31 rfl w.heap.size 36 i6 _ 4 48 Try.underlying31 hi6 h60 h61 h62 rfl (by omega) (.slice AO O.length cO) O.length (chs O) rfl q1 (wq.heap.size + 1) (some ⟨wq.heap.size, 0, none⟩) 1 1 _ rfl q5 one1 (by simp only [maxLen]; omega) (by omega) (by simp; omega) ?_; intro v' w3 own3 hg hat)
          all_goals
            have own3' : Own w3 w.heap.size v' (O ++ [y]) := by
              unfold Own
              rw [List.length_append, chs_append]
              exact own3
            have q3 : (wq.drew.alloc (.cells #[.int .i64 y.s, .string y.c, .string y.i, .int .i64 y.k] 36)).ownsRow w.heap.size 3 1 (.slice (some ⟨w.heap.size, 0, none⟩) k k) k (ints f k) := (ownq.drew).alloc _
            have hne := own_row_ne q1 q3 (by decide) (by simp [Value.ownBlock])
            have own4 := q3.kept hg (.inr (Ne.symm hne))
            have bel4 := bel_grown ((hbq.drew).alloc (Nat.le_trans hbsz (Nat.le_refl _)) (.cells #[.int .i64 y.s, .string y.c, .string y.i, .int .i64 y.k] 36)) hg (by simp; omega) q1 (Nat.le_refl _)
            have p4 : w3.cell? ⟨w.heap.size, j, none⟩ = some (.int .i64 (fj : Int)) := by
              rw [own4.cellAt j (by omega)]
              rw [ownq.cellAt j (by omega)] at q2
              exact q2
            have f4 := own4.frozenAt j
            have hne3 := own_row_ne own3' own4 (by decide) (by simp [Value.ownBlock])
            have own5 := (own4.stored j (.int .i64 ((fj : Int) + 1))).1
            rw [HIS.out] at own5
            have own6 := own3'.setOther (p := ⟨w.heap.size, j, none⟩) (fun e => hne3 (e.trans rfl)) (.int .i64 ((fj : Int) + 1))
            have bel5 := bel4.setCell (p := ⟨w.heap.size, j, none⟩) (Nat.le_refl _) (.int .i64 ((fj : Int) + 1))
            have HO5 := Lib.hid own5
            have HO6 := Lib.hid own6
            have HB5 := Lib.hid bel5
            have hmn : (O ++ [y]) ++ merge (ld.set j r) = merge ls := by rw [← HMG.out, HMS.out, List.append_assoc]; rfl
            have HMN := Lib.hid hmn
            clear own3 own3' q3 hne own4 bel4 hne3 own5 own6 bel5 hg hat q1 q5 one1 hmn y0 y1 y2 y3 q2 w0 ownq hOq hi6 h60 h61 h62
            go_wp2
            go_roundg (tot (ld.set j r))
            case measure => rw [HLD.out]; omega
            case rel => exact ⟨upd f j, O ++ [y], by rw [HUP.out], HO5.out, HO6.out, by rw [HUP.out]; exact HMN.out, HB5.out⟩
end Go.Proofs.Ytjdhmagkgoghpaa
