/- WatchMerges: the walk. -/
import Derived.Test.YtjdhmagkgoghpaaRefM
import Derived.Test.YtjdhmagkgoghpaaLive
namespace Go.Proofs.Ytjdhmagkgoghpaa
set_option linter.unusedVariables false
open Go.RowKit Go.Deep
/-- the first k lists, each copied into new memory, in a row of the call's own -/
structure GRel (w : World) (base k : Nat) (ls : List (List Ch)) (gv : Value) (vs : List Value) : Prop where
  row : w.ownsRow base 31 1 gv k vs
  len : vs.length = k
  each : ∀ (i : Nat) (v : Value) (l : List Ch), vs[i]? = some v → ls[i]? = some l → Own w base v l
section
variable {w w' : World} {base k : Nat} {ls : List (List Ch)} {gv : Value} {vs : List Value}
theorem GRel.below_all (h : GRel w base k ls gv vs) (hb : Below w.heap.size w w') : GRel w' base k ls gv vs :=
  ⟨row_below h.row hb, h.len, fun i v l hv hl => (h.each i v l hv hl).below_all hb⟩
theorem GRel.kept {g : Nat} {W : World} (h0 : GRel W base k ls gv vs) (h : GRel w base k ls gv vs) (hg : w.grownBy w' (some g)) (hW : W.heap.size ≤ g) : GRel w' base k ls gv vs := by
  refine ⟨h.row.kept hg (.inr fun e => ?_), h.len, fun i v l hv hl => (h.each i v l hv hl).kept hg (.inr fun e => ?_)⟩
  · have := (h0.row.lt g e).2; omega
  · have := ((h0.each i v l hv hl).lt g e).2; omega
theorem GRel.toVs (h : GRel w base k ls gv vs) (hk : ls.length = k) : Vs w w.heap.size vs ls := by
  refine ⟨by rw [h.len, hk], fun i v l hv hl => ?_⟩
  obtain ⟨A, c, e, h1, h2⟩ := (h.each i v l hv hl).rd
  exact ⟨A, c, e, h1, h2⟩
/-- one list more -/
theorem GRel.snoc {wa wb wc : World} {v1 v2 : Value} {l : List Ch} (h : GRel w base k ls gv vs) (hl : ls[k]? = some l)
    (hga : (w.alloc (.cells #[] 36)).grownBy wa (some w.heap.size)) (hv1 : Own wa base v1 l) (hb : Below wa.heap.size wa wb) (hgb : wb.grownBy wc gv.ownBlock) (hrow : wc.ownsRow base 31 1 v2 (k + 1) (vs ++ [v1])) :
    GRel wc base (k + 1) ls v2 (vs ++ [v1]) := by
  have hrb : wb.ownsRow base 31 1 gv k vs := by
    refine row_below ((h.row.alloc _).kept hga ?_) hb
    right
    intro e
    have := (h.row.lt _ e).2
    omega
  refine ⟨hrow, by rw [List.length_append, h.len]; rfl, fun i v l2 hv hl2 => ?_⟩
  have hob : Own wb base v l2 := by
    rcases Nat.lt_or_ge i k with hi | hi
    · rw [List.getElem?_append_left (by rw [h.len]; exact hi)] at hv
      refine (((h.each i v l2 hv hl2).alloc _).kept hga (.inr fun e => ?_)).below_all hb
      have := ((h.each i v l2 hv hl2).lt _ e).2
      omega
    · rw [List.getElem?_append_right (by rw [h.len]; exact hi), h.len] at hv
      have : i = k := by
        have := (List.getElem?_eq_some_iff.1 hv).1
        simp at this
        omega
      subst this
      rw [hl] at hl2
      injection hl2 with hl2
      subst hl2
      simp at hv
      subst hv
      exact hv1.below_all hb
  refine hob.kept hgb ?_
  cases hv0 : v.ownBlock with
  | none => exact .inl rfl
  | some g => exact .inr fun e => own_row_ne hrb hob (by decide) (by rw [hv0]; exact fun e => by cases e) (by rw [hv0]; exact e.symm)
end
theorem le_alloc {a : Nat} {w : World} (h : a ≤ w.heap.size) (o : Obj) : a ≤ (w.alloc o).heap.size := by simp; omega
theorem reads_one (w : World) (v : Value) (t : TypeId) : Reads (w.alloc (.cells #[v] t)) (w.heap.size + 1) 1 (some ⟨w.heap.size, 0, none⟩) 1 [v] := by
  refine ⟨rfl, fun _ => ⟨_, rfl, by simp, fun j u hu => ?_⟩⟩
  have hj : j = 0 := by have := (List.getElem?_eq_some_iff.1 hu).1; simpa using this
  subst hj
  have h5 := (Blk.new w t #[v]).cell 0
  simp at hu
  subst hu
  exact h5
theorem one_one {w : World} {base : Nat} {v : Value} {l : List Ch} (h : Own w base v l) : ∀ u ∈ [v], u.oneCell' = true := by
  intro u hu
  simp at hu
  subst hu
  obtain ⟨A, c, rfl, _⟩ := h.len
  rfl
theorem rises_take {l : List Ch} {q : Nat} (hq : q < l.length) (hq1 : 1 ≤ q) (h : Rises (l.take q)) (hs : (l[q - 1]).s ≤ (l[q]).s) : Rises (l.take (q + 1)) := by
  unfold Rises at *
  rw [List.take_succ_eq_append_getElem hq, List.pairwise_append]
  refine ⟨h, by simp, fun a ha b hb => ?_⟩
  simp at hb
  subst hb
  obtain ⟨i, hi, rfl⟩ := List.getElem_of_mem ha
  rw [List.length_take] at hi
  rw [List.getElem_take]
  rcases Nat.lt_or_ge i (q - 1) with h1 | h1
  · have h2 := List.pairwise_iff_getElem.1 h i (q - 1) (by rw [List.length_take]; omega) (by rw [List.length_take]; omega) h1
    rw [List.getElem_take, List.getElem_take] at h2
    omega
  · have : i = q - 1 := by omega
    subst this
    exact hs
set_option maxRecDepth 100000 in
set_option maxHeartbeats 8000000 in
theorem merges_main (w : World) (A : Option Addr) (n c : Nat) (ls : List (List Ch)) (hl : ls.length = n) (hR : Rss w w.heap.size A ls) (hn : n ≤ 1048576) (ht : tot ls ≤ 1048576) :
    Calls Try.prog 6 #[.slice A n c] w fun e w' => e = .returned (.bool true) ∧ Below w.heap.size w w' := by
  have HL := Lib.hid hl
  clear hl
  have HT := Lib.hid ht
  clear ht
  have HR := Lib.hid hR
  clear hR
  go_enter Try.func6, Try.ntmps6
  go_wp2
  go_loopw [3, 4, 5, 6] (fun nv rv gv iv wr => ∃ (k : Nat) (rb : Bool) (vs : List Value), k ≤ n ∧ iv = .int .i64 k ∧ nv = .int .i64 (tot (ls.take k) : Nat) ∧ rv = .bool rb ∧ (rb = true → ∀ l ∈ ls.take k, Rises l) ∧ Below w.heap.size w wr ∧ GRel wr w.heap.size k ls gv vs)
    (fun _ _ _ iv _ => n - (intOf iv).toNat)
  case atStart => exact ⟨0, true, [], Nat.zero_le _, rfl, by simp [tot], rfl, by simp, Below.refl _ _, World.ownsRow_nil _ _ _ _, rfl, by simp⟩
  case round =>
    obtain ⟨k, rb, vs, hk, rfl, rfl, rfl, hrb, hbel, hG⟩ := hrel
    obtain ⟨wo, rfl⟩ : ∃ wo : World, wo = wr := ⟨_, rfl⟩
    by_cases hlt : k < n
    · have hkl : k < ls.length := by have := HL.out; omega
      obtain ⟨b, off, rfl, hb, hc⟩ := HR.out (by omega)
      obtain ⟨l, hlk⟩ : ∃ l, ls[k]? = some l := ⟨_, List.getElem?_eq_getElem hkl⟩
      obtain ⟨A1, c1, p0, hc1, hrd1⟩ := hc k l hlk
      have hlk2 : ls[k] = l := by rw [List.getElem?_eq_getElem hkl] at hlk; injection hlk
      have q0 := (hbel.cell (p := ⟨b, _, none⟩) hb).trans p0
      have hll := len_le_tot hlk
      have hll2 := HT.out
      have htk := tot_take ls k hkl
      have htl := tot_take_le ls (k + 1)
      have hbsz := hbel.size
      rw [hlk2] at htk
      obtain ⟨m, hm⟩ : ∃ m, l.length = m := ⟨_, rfl⟩
      obtain ⟨T, hT⟩ : ∃ T, tot (ls.take k) = T := ⟨_, rfl⟩
      rw [hm] at q0 hc1 hll htk
      rw [hT] at htk
      have HTT := Lib.hid hT
      have HM := Lib.hid hm
      have HTK := Lib.hid htk
      have hTm : T + m ≤ 1048576 := by omega
      have HLK := Lib.hid hlk
      have HLK2 := Lib.hid hlk2
      have HRB := Lib.hid hrb
      obtain ⟨AG, cG, rfl, hcG⟩ := row_slice hG.row
      rw [hT]
      clear hT hm htk htl hlk hlk2 hc p0 hrb
      have r1 := Own.empty (base := w.heap.size) wo hbsz wo.heap.size rfl
      have r2 : Rd (wo.alloc (.cells #[] 36)) wo.heap.size A1 l := ((hrd1.below hbel).more hbsz).alloc (Nat.le_refl _) _
      have hbel' := Lib.hid hbel
      have HG := Lib.hid hG
      clear hbel hG
      have hbw : b < wo.heap.size := by omega
      go_upto_region 9 with (first | (at_builtin; refine wpList_own _ rfl (.tmp 26) (.tmp 30) rfl w.heap.size (.slice (some ⟨wo.heap.size, 0, none⟩) 0 0) [] rfl r1 (by simp; omega) _ A1 m c1 l rfl HM.out r2 (by simp; omega) ?_; intro v1 wa own1 hga hata; rw [List.nil_append] at own1; obtain ⟨A9, c9, rfl, hc9⟩ := own1.len) | (at_builtin; go_must (refine wpList_row _ rfl (.tmp 25) (.tmp 32) rfl w.heap.size (.slice AG k cG) k vs rfl (((HG.out.row.alloc _).kept hga (.inr (fun e => Nat.lt_irrefl _ (HG.out.row.lt _ e).2))).alloc (.cells #[.slice A9 l.length c9] 31)) (le_alloc (Nat.le_trans (le_alloc hbsz _) hga.size) _) (wa.heap.size + 1) (some ⟨wa.heap.size, 0, none⟩) 1 1 [.slice A9 l.length c9] rfl (reads_one wa (.slice A9 l.length c9) 31) (one_one own1) (by omega) ?_; intro v2 wb row2 hgb hatb)))
      have hG2 := HG.out.snoc HLK.out hga own1 ((Below.refl _ _).alloc (Nat.le_refl _) (.cells #[.slice A9 l.length c9] 31)) hgb row2
      have bel2 : Below w.heap.size w wb := (bel_grown (hbel'.out.alloc hbsz (.cells #[] 36)) hga (le_alloc hbsz _) r1 (Nat.le_refl _)).alloc (Nat.le_trans (le_alloc hbsz _) hga.size) (.cells #[.slice A9 l.length c9] 31) |>.grown hgb (le_alloc (Nat.le_trans (le_alloc hbsz _) hga.size) _) (fun g e => (HG.out.row.lt g e).1)
      have q1 : wb.cell? ⟨b, off + k, none⟩ = some (.slice A1 m c1) := by
        obtain ⟨A', c', h1, _, _⟩ := HR.out (by omega)
        exact (bel2.cell (p := ⟨b, _, none⟩) hb).trans ((hbel'.out.cell (p := ⟨b, _, none⟩) hb).symm.trans q0)
      have rd2 := hrd1.below bel2
      have HG2 := Lib.hid hG2
      have HB2 := Lib.hid bel2
      clear q0 own1 row2 hgb hatb hga hata hG2 bel2 r1 r2 hc9
      go_wp2
      go_loopw [4, 7] (fun rv qv wq => ∃ (p : Nat) (rb2 : Bool) (j : Nat), (p ≤ m) ∧ qv = .int .i64 ((p + 1 : Nat) : Int) ∧ rv = .bool rb2 ∧ (rb2 = true → (∀ l ∈ ls.take k, Rises l) ∧ Rises (l.take (p + 1))) ∧ wq = wb.drewN j) (fun _ qv _ => m + 1 - (intOf qv).toNat)
      case atStart => exact ⟨0, rb, 0, Nat.zero_le _, rfl, rfl, fun h => ⟨HRB.out h, by cases l <;> simp [Rises]⟩, rfl⟩
      case round =>
        obtain ⟨p, rb2, j, hp, rfl, rfl, hr2, rfl⟩ := hrel
        by_cases hpm : p + 1 < m
        · have hpl : p + 1 < l.length := by have := HM.out; omega
          obtain ⟨b1, o1, rfl, hb1, hx1⟩ := rd2 (by omega)
          have hX := (hx1 p (by omega)).1
          have hY := (hx1 (p + 1) hpl).1
          obtain ⟨xs, hxs⟩ : ∃ xs, (l[p]).s = xs := ⟨_, rfl⟩
          obtain ⟨ys, hys⟩ : ∃ ys, (l[p + 1]).s = ys := ⟨_, rfl⟩
          rw [hxs] at hX
          rw [hys] at hY
          have HR2 := Lib.hid hr2
          have HXS := Lib.hid hxs
          have HYS := Lib.hid hys
          clear hx1 hr2 hxs hys rd2
          cases rb2
          · go_wp2
            go_quiet (fail)
            go_wp2
            go_roundw
            case rel => exact ⟨p + 1, _, _, by omega, by go_num, rfl, (by intro h; cases h), rfl⟩
            case measure => simp [intOf]; omega
          · cases hd : decide (xs ≤ ys)
            · go_wp2
              go_quiet (fail)
              go_wp2
              go_roundw
              case rel => exact ⟨p + 1, _, _, by omega, by go_num, rfl, (by intro h; cases h), rfl⟩
              case measure => simp [intOf]; omega
            · go_wp2
              go_quiet (fail)
              go_wp2
              go_roundw
              case rel => exact ⟨p + 1, _, _, by omega, by go_num, rfl, (fun _ => ⟨(HR2.out trivial).1, rises_take hpl (by omega) (HR2.out trivial).2 (by have h5 := of_decide_eq_true hd; rw [← HXS.out, ← HYS.out] at h5; exact h5)⟩), rfl⟩
              case measure => simp [intOf]; omega
        · have HR2 := Lib.hid hr2
          clear hr2 rd2
          go_wp2
          go_roundw
          case rel =>
            refine ⟨k + 1, rb2, vs ++ [.slice A9 l.length c9], by omega, by go_num, by rw [HTK.out]; go_num, rfl, fun h => ?_, bel_drewN HB2.out _, ?_⟩
            · have h5 := HR2.out h
              rw [List.take_succ_eq_append_getElem hkl, HLK2.out]
              intro l' hl'
              rcases List.mem_append.1 hl' with h6 | h6
              · exact h5.1 l' h6
              · simp at h6
                subst h6
                have h7 := h5.2
                rwa [List.take_of_length_le (by have := HM.out; omega)] at h7
            · exact ⟨HG2.out.row, HG2.out.len, HG2.out.each⟩
          case measure => simp [intOf]; omega
    · obtain rfl : k = n := by omega
      rw [show ls.take k = ls from List.take_of_length_le (by have := HL.out; omega)] at hrb ⊢
      have hG1 := hG.toVs HL.out
      have hrs := hG.row
      obtain ⟨AG, cG, rfl, hcG⟩ := row_slice hG.row
      have hrss := rss_own hG.row hG1
      have HRB := Lib.hid hrb
      obtain ⟨N, hN⟩ : ∃ N, tot ls = N := ⟨_, rfl⟩
      have hN2 : N ≤ 1048576 := by have := HT.out; omega
      rw [hN]
      have HN := Lib.hid hN
      have HG := Lib.hid hG
      have bsz := hbel.size
      clear hrb hG hG1 hrs hN
      by_cases hmany : 3000 < N ∨ 100 < k
      · have HRSS := Lib.hid hrss
        clear hrss
        by_cases hN3 : 3000 < N
        · have hN3' : (3000 : Int) < (N : Int) := by omega
          clear hmany
          go_wp2_with fail
          refine (live_any _).mono ?_
          rintro e w5 ⟨rfl, hb5⟩
          go_wp2
          go_ret
          exact ⟨rfl, hbel.trans (hb5.mono bsz)⟩
        · have hk100 : (100 : Int) < (k : Int) := by omega
          clear hmany
          go_wp2_with fail
          refine (live_any _).mono ?_
          rintro e w5 ⟨rfl, hb5⟩
          go_wp2
          go_ret
          exact ⟨rfl, hbel.trans (hb5.mono bsz)⟩
      · have hN3 : N ≤ 3000 := by omega
        have hk100 : k ≤ 100 := by omega
        clear hmany
        have C1 := merge_any wo AG k cG ls HL.out hrss hn HT.out
        clear hrss
        go_wp2_with fail
        refine C1.mono ?_
        clear C1
        rintro e w2 ⟨v8, rfl, own8, bel2⟩
        obtain ⟨M, hM⟩ : ∃ M, merge ls = M := ⟨_, rfl⟩
        have hMl : M.length = N := by rw [← hM, merge_length, HN.out]
        have hMr : rb = true → Rises M := fun h => by rw [← hM]; exact merge_rises ls (HRB.out h)
        rw [hM] at own8
        have G2 := HG.out.below_all bel2
        have belw2 := hbel.trans (bel2.mono bsz)
        have sz2 := belw2.size
        obtain ⟨A8, c8, rfl, hc8⟩ := own8.len
        rw [hMl] at own8 hc8 ⊢
        have C2 := refMerge_any w2 A k c ls HL.out ((HR.out.below belw2).more sz2) hn HT.out
        rw [hM] at C2
        go_wp2_with fail
        refine C2.mono ?_
        clear C2
        rintro e w3 ⟨v9, rfl, own9, bel3⟩
        obtain ⟨A9, c9, rfl, hc9⟩ := own9.len
        rw [hMl] at own9 hc9 ⊢
        have G3 := G2.below_all bel3
        have own83 := own8.below_all bel3
        have belw3 := belw2.trans (bel3.mono sz2)
        have sz3 := belw3.size
        have HML := Lib.hid hMl
        have HMR := Lib.hid hMr
        have HMM := Lib.hid hM
        have rd8 := (show Own w3 wo.heap.size (.slice A8 M.length c8) M by rw [hMl]; exact own83).slice_.2.2
        have rd9 := (show Own w3 w2.heap.size (.slice A9 M.length c9) M by rw [hMl]; exact own9).slice_.2.2
        have C3 := changes_eq w3 A8 A9 N c8 c9 M M hMl hMl w3.heap.size rd8 rd9 (by omega)
        rw [(sameL_iff M M).2 rfl] at C3
        clear hMl hMr hM G2 own8 rd8 rd9
        go_wp2_with fail
        refine C3.mono ?_
        clear C3
        rintro e w4 ⟨rfl, j4, rfl⟩
        have hNN : ((N : Int) != (N : Int)) = false := by simp
        go_wp2_with fail
        refine (live_any _).mono ?_
        rintro e w5 ⟨rfl, bel5⟩
        have hbd : Below w3.heap.size w3 w5 := Below.trans (bel_drewN (Below.refl _ _) j4) bel5
        have G5 := G3.below_all hbd
        have own5 := own83.below_all hbd
        have bw5 := belw3.trans (hbd.mono sz3)
        have sz5 := bw5.size
        have szo5 := bel2.size
        clear G3 own83 hbd bel5 own9 belw2 belw3 bel2 bel3
        go_wp2
        go_loopw [9] (fun qv wq => ∃ p j : Nat, p ≤ N ∧ qv = .int .i64 ((p + 1 : Nat) : Int) ∧ wq = w5.drewN j) (fun qv _ => N + 1 - (intOf qv).toNat)
        case atStart => exact ⟨0, 0, Nat.zero_le _, rfl, rfl⟩
        case round =>
          obtain ⟨p, j5, hp, rfl, rfl⟩ := hrel
          cases rb
          · go_wp2
            have ownf : Own (w5.drewN j5) wo.heap.size (.slice A8 N c8) M := own5.drewN j5
            have Gf : GRel (w5.drewN j5) w.heap.size k ls (.slice AG k cG) vs := ⟨G5.row, G5.len, G5.each⟩
            have bwf := bel_drewN bw5 j5
            have szf : w.heap.size ≤ (w5.drewN j5).heap.size := bwf.size
            clear own5 G5 bw5 sz5 hp
            generalize w5.drewN j5 = wf at ownf Gf bwf szf ⊢
            go_loopw [10] (fun i wr => ∃ (q : Nat) (l' : List Ch), q ≤ N ∧ i = .int .i64 q ∧ l'.length = N ∧ Own wr wo.heap.size (.slice A8 N c8) l' ∧ wf.grownBy wr (Value.slice A8 N c8).ownBlock) (fun i _ => N - (intOf i).toNat)
            case atStart => exact ⟨0, M, Nat.zero_le _, rfl, HML.out, ownf, World.grownBy.refl _ _⟩
            case round =>
              obtain ⟨q, l', hq, rfl, hl', hown, hgr⟩ := hrel
              have HLL := Lib.hid hl'
              by_cases hlt2 : q < N
              · have hkl : q < l'.length := by omega
                obtain ⟨gx, cx2, e, hgx, hgx2, hcx2, hz⟩ := hown.at_ hkl
                generalize l'[q] = y at hz
                obtain ⟨z0, z1, z2, z3⟩ := hz
                injection e with e1 e2 e3
                subst e1 e3
                clear e2 hcx2
                have f0 := hown.frozenAt (q * 4)
                have f1 := hown.frozenAt (q * 4 + 1)
                have f2 := hown.frozenAt (q * 4 + 2)
                have f3 := hown.frozenAt (q * 4 + 3)
                have hst := hown.storeCh (k := q) (by rw [HLL.out]; exact hlt2) ⟨99, .empty, .empty, 0⟩
                have hgr2 := only_setCell (only_setCell (only_setCell (only_setCell (g := gx) hgr (p := ⟨gx, q * 4, none⟩) rfl (.int .i64 99)) (p := ⟨gx, q * 4 + 1, none⟩) rfl (.string .empty)) (p := ⟨gx, q * 4 + 2, none⟩) rfl (.string .empty)) (p := ⟨gx, q * 4 + 3, none⟩) rfl (.int .i64 0)
                have HST := Lib.hid hst
                have HGR := Lib.hid hgr2
                clear hst hgr2 hgr hown hkl hl'
                go_wp2
                go_roundw
                case rel => exact ⟨q + 1, l'.set q ⟨99, .empty, .empty, 0⟩, by omega, by go_num, by rw [List.length_set]; exact HLL.out, HST.out, HGR.out⟩
                case measure => simp [intOf]; omega
              · have hWge : ∀ g, (Value.slice A8 N c8).ownBlock = some g → wo.heap.size ≤ g := fun g e => (hown.lt g e).1
                have Gr : GRel wr w.heap.size k ls (.slice AG k cG) vs := by
                  cases h8 : (Value.slice A8 N c8).ownBlock with
                  | none => rw [h8] at hgr; exact Gf.below_all ((Below.refl _ _).grown hgr (Nat.le_refl _) (by simp))
                  | some g => rw [h8] at hgr; exact GRel.kept HG.out Gf hgr (hWge g h8)
                have bwr : Below w.heap.size w wr := bwf.grown hgr szf (fun g e => Nat.le_trans bsz (hWge g e))
                have HGR := Lib.hid Gr
                have szr := bwr.size
                obtain ⟨wz, rfl⟩ : ∃ wz : World, wz = wr := ⟨_, rfl⟩
                clear hl' hown hgr HLL Gr ownf Gf bwf szf
                go_wp2
                clear hq hlt2
                go_loopw [11] (fun i wq => ∃ (q j : Nat), q ≤ k ∧ i = .int .i64 q ∧ wq = wz.drewN j) (fun i _ => k - (intOf i).toNat)
                case atStart => exact ⟨0, 0, Nat.zero_le _, rfl, rfl⟩
                case round =>
                  obtain ⟨q, j, hq, rfl, hwq⟩ := hrel
                  by_cases hqk : q < k
                  · obtain ⟨b, off, rfl, hb, hc⟩ := HR.out (by have := HL.out; omega)
                    have hql : q < ls.length := by have := HL.out; omega
                    obtain ⟨l, hlk⟩ : ∃ l, ls[q]? = some l := ⟨_, List.getElem?_eq_getElem hql⟩
                    obtain ⟨A6, c6, p0, hc6, hrd6⟩ := hc q l hlk
                    have p2 : wr.cell? ⟨b, off + q, none⟩ = some (.slice A6 l.length c6) := by rw [hwq]; exact (bwr.cell (p := ⟨b, _, none⟩) hb).trans p0
                    obtain ⟨b7, o7, e7, hb7, hc7⟩ := rss_own HGR.out.row (HGR.out.toVs HL.out) (by omega)
                    subst e7
                    obtain ⟨A5, c5, p1', hc5, hrd5⟩ := hc7 q l hlk
                    have p1 : wr.cell? ⟨b7, o7 + q, none⟩ = some (.slice A5 l.length c5) := by rw [hwq]; exact p1'
                    have hll := len_le_tot hlk
                    have hlN := HN.out
                    have hch : ∀ i : Nat, Calls Try.prog 14 #[.slice A5 l.length c5, .slice A6 l.length c6] (wr.drewN i) fun e w' => e = .returned (.bool true) ∧ ∃ k, w' = (wr.drewN i).drewN k := fun i => by
                      have := changes_eq (wr.drewN i) A5 A6 l.length c5 c6 l l rfl rfl wz.heap.size (by rw [hwq]; exact hrd5) (by rw [hwq]; exact (hrd6.below bwr).more szr) (by omega)
                      rw [(sameL_iff l l).2 rfl] at this
                      exact this
                    have HCH := Lib.hid hch
                    have HWQ := Lib.hid hwq
                    clear hch hc7 hc hlk hrd5 hrd6 p0 p1' hwq
                    go_wp2
                    go_quiet ((first | (go_at_call 14; exact Calls.quiet_of (HCH.out _))))
                    go_wp2
                    go_roundw
                    case rel => exact ⟨q + 1, _, by omega, by go_num, by rw [HWQ.out]; exact World.drewN_drewN _ _ _⟩
                    case measure => simp [intOf]; omega
                  · subst hwq
                    go_wp2
                    go_ret
                    exact ⟨rfl, bel_drewN bwr _⟩
          · by_cases hpN : p + 1 < N
            · have hpl : p + 1 < M.length := by have := HML.out; omega
              obtain ⟨g8, c88, e, hg8, hg82, hc88, hz⟩ := own5.at_ (k := p) (by omega)
              obtain ⟨g9, c99, e', _, _, _, hz'⟩ := own5.at_ hpl
              injection e with e1 e2 e3
              injection e' with e1' e2' e3'
              subst e1 e3
              injection e1' with e1'
              injection e1' with e1'
              subst e1'
              have hX := hz.1
              have hY := hz'.1
              have hle : (M[p]).s ≤ (M[p + 1]).s := List.pairwise_iff_getElem.1 (HMR.out rfl) p (p + 1) (by omega) hpl (by omega)
              obtain ⟨xs, hxs⟩ : ∃ xs, (M[p]).s = xs := ⟨_, rfl⟩
              obtain ⟨ys, hys⟩ : ∃ ys, (M[p + 1]).s = ys := ⟨_, rfl⟩
              rw [hxs] at hX hle
              rw [hys] at hY hle
              have hd : decide (ys < xs) = false := by simp; exact hle
              clear hz hz' e2 e2' e3' hxs hys hc88
              go_wp2
              go_quiet (fail)
              go_wp2
              go_roundw
              case rel => exact ⟨p + 1, _, by omega, by go_num, rfl⟩
              case measure => simp [intOf]; omega
            · go_wp2
              have ownf : Own (w5.drewN j5) wo.heap.size (.slice A8 N c8) M := own5.drewN j5
              have Gf : GRel (w5.drewN j5) w.heap.size k ls (.slice AG k cG) vs := ⟨G5.row, G5.len, G5.each⟩
              have bwf := bel_drewN bw5 j5
              have szf : w.heap.size ≤ (w5.drewN j5).heap.size := bwf.size
              clear own5 G5 bw5 sz5 hp
              generalize w5.drewN j5 = wf at ownf Gf bwf szf ⊢
              go_loopw [10] (fun i wr => ∃ (q : Nat) (l' : List Ch), q ≤ N ∧ i = .int .i64 q ∧ l'.length = N ∧ Own wr wo.heap.size (.slice A8 N c8) l' ∧ wf.grownBy wr (Value.slice A8 N c8).ownBlock) (fun i _ => N - (intOf i).toNat)
              case atStart => exact ⟨0, M, Nat.zero_le _, rfl, HML.out, ownf, World.grownBy.refl _ _⟩
              case round =>
                obtain ⟨q, l', hq, rfl, hl', hown, hgr⟩ := hrel
                have HLL := Lib.hid hl'
                by_cases hlt2 : q < N
                · have hkl : q < l'.length := by omega
                  obtain ⟨gx, cx2, e, hgx, hgx2, hcx2, hz⟩ := hown.at_ hkl
                  generalize l'[q] = y at hz
                  obtain ⟨z0, z1, z2, z3⟩ := hz
                  injection e with e1 e2 e3
                  subst e1 e3
                  clear e2 hcx2
                  have f0 := hown.frozenAt (q * 4)
                  have f1 := hown.frozenAt (q * 4 + 1)
                  have f2 := hown.frozenAt (q * 4 + 2)
                  have f3 := hown.frozenAt (q * 4 + 3)
                  have hst := hown.storeCh (k := q) (by rw [HLL.out]; exact hlt2) ⟨99, .empty, .empty, 0⟩
                  have hgr2 := only_setCell (only_setCell (only_setCell (only_setCell (g := gx) hgr (p := ⟨gx, q * 4, none⟩) rfl (.int .i64 99)) (p := ⟨gx, q * 4 + 1, none⟩) rfl (.string .empty)) (p := ⟨gx, q * 4 + 2, none⟩) rfl (.string .empty)) (p := ⟨gx, q * 4 + 3, none⟩) rfl (.int .i64 0)
                  have HST := Lib.hid hst
                  have HGR := Lib.hid hgr2
                  clear hst hgr2 hgr hown hkl hl'
                  go_wp2
                  go_roundw
                  case rel => exact ⟨q + 1, l'.set q ⟨99, .empty, .empty, 0⟩, by omega, by go_num, by rw [List.length_set]; exact HLL.out, HST.out, HGR.out⟩
                  case measure => simp [intOf]; omega
                · have hWge : ∀ g, (Value.slice A8 N c8).ownBlock = some g → wo.heap.size ≤ g := fun g e => (hown.lt g e).1
                  have Gr : GRel wr w.heap.size k ls (.slice AG k cG) vs := by
                    cases h8 : (Value.slice A8 N c8).ownBlock with
                    | none => rw [h8] at hgr; exact Gf.below_all ((Below.refl _ _).grown hgr (Nat.le_refl _) (by simp))
                    | some g => rw [h8] at hgr; exact GRel.kept HG.out Gf hgr (hWge g h8)
                  have bwr : Below w.heap.size w wr := bwf.grown hgr szf (fun g e => Nat.le_trans bsz (hWge g e))
                  have HGR := Lib.hid Gr
                  have szr := bwr.size
                  obtain ⟨wz, rfl⟩ : ∃ wz : World, wz = wr := ⟨_, rfl⟩
                  clear hl' hown hgr HLL Gr ownf Gf bwf szf
                  go_wp2
                  clear hq hlt2
                  go_loopw [11] (fun i wq => ∃ (q j : Nat), q ≤ k ∧ i = .int .i64 q ∧ wq = wz.drewN j) (fun i _ => k - (intOf i).toNat)
                  case atStart => exact ⟨0, 0, Nat.zero_le _, rfl, rfl⟩
                  case round =>
                    obtain ⟨q, j, hq, rfl, hwq⟩ := hrel
                    by_cases hqk : q < k
                    · obtain ⟨b, off, rfl, hb, hc⟩ := HR.out (by have := HL.out; omega)
                      have hql : q < ls.length := by have := HL.out; omega
                      obtain ⟨l, hlk⟩ : ∃ l, ls[q]? = some l := ⟨_, List.getElem?_eq_getElem hql⟩
                      obtain ⟨A6, c6, p0, hc6, hrd6⟩ := hc q l hlk
                      have p2 : wr.cell? ⟨b, off + q, none⟩ = some (.slice A6 l.length c6) := by rw [hwq]; exact (bwr.cell (p := ⟨b, _, none⟩) hb).trans p0
                      obtain ⟨b7, o7, e7, hb7, hc7⟩ := rss_own HGR.out.row (HGR.out.toVs HL.out) (by omega)
                      subst e7
                      obtain ⟨A5, c5, p1', hc5, hrd5⟩ := hc7 q l hlk
                      have p1 : wr.cell? ⟨b7, o7 + q, none⟩ = some (.slice A5 l.length c5) := by rw [hwq]; exact p1'
                      have hll := len_le_tot hlk
                      have hlN := HN.out
                      have hch : ∀ i : Nat, Calls Try.prog 14 #[.slice A5 l.length c5, .slice A6 l.length c6] (wr.drewN i) fun e w' => e = .returned (.bool true) ∧ ∃ k, w' = (wr.drewN i).drewN k := fun i => by
                        have := changes_eq (wr.drewN i) A5 A6 l.length c5 c6 l l rfl rfl wz.heap.size (by rw [hwq]; exact hrd5) (by rw [hwq]; exact (hrd6.below bwr).more szr) (by omega)
                        rw [(sameL_iff l l).2 rfl] at this
                        exact this
                      have HCH := Lib.hid hch
                      have HWQ := Lib.hid hwq
                      clear hch hc7 hc hlk hrd5 hrd6 p0 p1' hwq
                      go_wp2
                      go_quiet ((first | (go_at_call 14; exact Calls.quiet_of (HCH.out _))))
                      go_wp2
                      go_roundw
                      case rel => exact ⟨q + 1, _, by omega, by go_num, by rw [HWQ.out]; exact World.drewN_drewN _ _ _⟩
                      case measure => simp [intOf]; omega
                    · subst hwq
                      go_wp2
                      go_ret
                      exact ⟨rfl, bel_drewN bwr _⟩
end Go.Proofs.Ytjdhmagkgoghpaa
