/- Merge: the lists in one. -/
import Derived.Test.YtjdhmagkgoghpaaLeast
import Derived.Deep.Slices
import Derived.Deep.DeepMust
import Derived.Deep.LoopGhost
namespace Go.Proofs.Ytjdhmagkgoghpaa
set_option linter.unusedVariables false
open Go.RowKit Go.Deep
theorem info31 : (Try.prog.info? 31).map (fun i => (i.zero, i.size, i.bytes)) = some (some (.slice none 0 0), 1, 24) := by kernel_rfl
/-- values that are slices which read as these lists -/
def Vs (w : World) (B : Nat) (vs : List Value) (ls : List (List Ch)) : Prop :=
  vs.length = ls.length ∧ ∀ (i : Nat) (v : Value) (l : List Ch), vs[i]? = some v → ls[i]? = some l → ∃ A c, v = .slice A l.length c ∧ l.length ≤ c ∧ Rd w B A l
theorem Vs.below {w w' : World} {B : Nat} {vs : List Value} {ls : List (List Ch)} (h : Vs w B vs ls) (hb : Below B w w') : Vs w' B vs ls :=
  ⟨h.1, fun i v l hv hl => by obtain ⟨A, c, e, h1, h2⟩ := h.2 i v l hv hl; exact ⟨A, c, e, h1, h2.below hb⟩⟩
theorem Vs.one {w : World} {B : Nat} {vs : List Value} {ls : List (List Ch)} (h : Vs w B vs ls) : ∀ u ∈ vs, u.oneCell' = true := by
  intro u hu
  obtain ⟨i, hi, rfl⟩ := List.getElem_of_mem hu
  obtain ⟨A, c, e, _⟩ := h.2 i _ (ls[i]'(by rw [← h.1]; exact hi)) (List.getElem?_eq_getElem hi) (List.getElem?_eq_getElem _)
  rw [e]
  rfl
theorem Vs.set_ {w : World} {B : Nat} {vs : List Value} {ls : List (List Ch)} (h : Vs w B vs ls) (j : Nat) {A : Option Addr} {c : Nat} {r : List Ch} (hc : r.length ≤ c) (hr : Rd w B A r) :
    Vs w B (vs.set j (.slice A r.length c)) (ls.set j r) := by
  refine ⟨by simpa using h.1, fun i v l hv hl => ?_⟩
  rw [List.getElem?_set] at hv hl
  split at hv
  · rename_i e
    subst e
    rw [if_pos rfl] at hl
    split at hv
    · split at hl
      · injection hv with hv
        injection hl with hl
        subst hv hl
        exact ⟨A, c, rfl, hc, hr⟩
      · cases hl
    · cases hv
  · rename_i e
    rw [if_neg e] at hl
    exact h.2 i v l hv hl
/-- the values behind a slice of slices that reads -/
theorem Rss.vals {w : World} {B : Nat} {A : Option Addr} {ls : List (List Ch)} (h : Rss w B A ls) : ∃ vs, Reads w B 1 A ls.length vs ∧ Vs w B vs ls := by
  rcases Nat.eq_zero_or_pos ls.length with h0 | h0
  · have : ls = [] := List.eq_nil_of_length_eq_zero h0
    subst this
    exact ⟨[], ⟨rfl, fun h => absurd h (by simp)⟩, rfl, fun i v l hv _ => by simp at hv⟩
  · obtain ⟨b, off, rfl, hb, hc⟩ := h h0
    have hch : ∀ i, i < ls.length → ∃ v : Value, w.cell? ⟨b, off + i, none⟩ = some v ∧ ∀ l, ls[i]? = some l → ∃ A c, v = .slice A l.length c ∧ l.length ≤ c ∧ Rd w B A l := by
      intro i hi
      obtain ⟨A', c', h1, h2, h3⟩ := hc i _ (List.getElem?_eq_getElem hi)
      refine ⟨_, h1, fun l hl => ?_⟩
      rw [List.getElem?_eq_getElem hi] at hl
      injection hl with hl
      subst hl
      exact ⟨A', c', rfl, h2, h3⟩
    obtain ⟨f, hf⟩ := choose_lt hch
    refine ⟨(List.range ls.length).map f, ⟨by simp, fun _ => ⟨_, rfl, hb, fun j u hu => ?_⟩⟩, by simp, fun i v l hv hl => ?_⟩
    · have hj : j < ls.length := by have := (List.getElem?_eq_some_iff.1 hu).1; simpa using this
      rw [List.getElem?_map, List.getElem?_range hj] at hu
      injection hu with hu
      subst hu
      have ha : (⟨b, off, none⟩ : Addr).add j = ⟨b, off + j, none⟩ := by
        unfold Addr.add
        split
        · rename_i e; subst e; rfl
        · rfl
      rw [ha]
      exact (hf j hj).1
    · have hi : i < ls.length := (List.getElem?_eq_some_iff.1 hl).1
      rw [List.getElem?_map, List.getElem?_range hi] at hv
      injection hv with hv
      subst hv
      exact (hf i hi).2 l hl
/-- a row of the call's own whose values read as these lists, read -/
theorem rss_own {w : World} {base n c : Nat} {A : Option Addr} {vs : List Value} {ls : List (List Ch)} (h : w.ownsRow base 31 1 (.slice A n c) n vs) (hv : Vs w w.heap.size vs ls) : Rss w w.heap.size A ls := by
  intro hl
  have hn : vs.length = n := by have := h.1; omega
  have hn2 : 0 < n := by have := hv.1; omega
  obtain ⟨g, cap, e, _, hlt⟩ := h.form hn2
  injection e with e1 e2 e3
  subst e1
  refine ⟨g, 0, rfl, hlt, fun i l hi => ?_⟩
  have hil : i < vs.length := by rw [hv.1]; exact (List.getElem?_eq_some_iff.1 hi).1
  obtain ⟨A', c', e, h1, h2⟩ := hv.2 i _ l (List.getElem?_eq_getElem hil) hi
  refine ⟨A', c', ?_, h1, h2⟩
  rw [Nat.zero_add, h.cellAt i (by omega), List.getElem?_eq_getElem hil, e]
theorem Vs.more {w : World} {B B' : Nat} {vs : List Value} {ls : List (List Ch)} (h : Vs w B vs ls) (hB : B ≤ B') : Vs w B' vs ls :=
  ⟨h.1, fun i v l hv hl => by obtain ⟨A, c, e, h1, h2⟩ := h.2 i v l hv hl; exact ⟨A, c, e, h1, h2.more hB⟩⟩
theorem own_row_ne {w : World} {base base' e e' size size' n m : Nat} {v u : Value} {xs ys : List Value} (h : w.ownsRow base e size v n xs) (h' : w.ownsRow base' e' size' u m ys) (hne : e ≠ e') (hn : u.ownBlock ≠ none) : v.ownBlock ≠ u.ownBlock := by
  rcases h'.2 with ⟨rfl, _⟩ | ⟨g, cap, cur, rfl, _, hh, _⟩
  · exact absurd rfl hn
  · exact own_blk_ne h hh hne
section
variable {ops : Array Oper} {rest : List Oper} {o : Oper} {a : Act} {Q : Exit → Act → World → Prop}
theorem wpList_row (w : World) (hgd : o.guard = none) (s x : Operand) (ho : o.op = .call { callee := .builtin .append, args := #[s, x], argTypes := #[50, 50] })
    (base : Nat) (v : Value) (n : Nat) (vs : List Value) (hs : a.eval s = v) (hv : w.ownsRow base 31 1 v n vs) (hbase : base ≤ w.heap.size)
    (B : Nat) (A : Option Addr) (m c : Nat) (us : List Value) (hx : a.eval x = .slice A m c) (hr : Reads w B 1 A m us) (h1 : ∀ u ∈ us, u.oneCell' = true) (hlen : n + m ≤ 16777216)
    (h : ∀ v' w', w'.ownsRow base 31 1 v' (n + m) (vs ++ us) → w.grownBy w' v.ownBlock → (v'.ownBlock = v.ownBlock ∨ v'.ownBlock = some w.heap.size) → wpList Try.prog ops Q rest (a.put o.dst v') w') :
    wpList Try.prog ops Q (o :: rest) a w := by
  obtain ⟨i0, hi, hz0, hz1, hz2⟩ := info_parts info31
  exact wpList_append_any w hgd s x 50 ho base 31 i0 _ 1 24 Try.underlying50 hi hz0 hz1 hz2 rfl (by omega) v n vs hs hv B A m c us hx hr h1
    (by simp only [maxLen]; omega) (by omega) hbase h
end
theorem row_below {w w' : World} {base n : Nat} {v : Value} {vs : List Value} (h : w.ownsRow base 31 1 v n vs) (hb : Below w.heap.size w w') : w'.ownsRow base 31 1 v n vs := by
  have hlt := h.lt
  refine ⟨h.1, ?_⟩
  rcases h.2 with h0 | ⟨g, cap, cur, h1, h2, h3, h4⟩
  · exact .inl h0
  · exact .inr ⟨g, cap, cur, h1, h2, by rw [hb.block g (hlt g (by rw [h1]; rfl)).2]; exact h3, h4⟩
theorem row_slice {w : World} {base n : Nat} {v : Value} {vs : List Value} (h : w.ownsRow base 31 1 v n vs) : ∃ A c, v = .slice A n c ∧ n ≤ c := by
  rcases h.2 with ⟨rfl, h0⟩ | ⟨g, cap, cur, rfl, _, _, hc, _⟩
  · exact ⟨none, 0, by rw [h0], by omega⟩
  · exact ⟨_, cap, rfl, hc⟩
set_option maxHeartbeats 4000000 in
theorem merge_any (w : World) (A : Option Addr) (n c : Nat) (ls : List (List Ch)) (hl : ls.length = n) (hR : Rss w w.heap.size A ls) (hn : n ≤ 1048576) (ht : tot ls ≤ 1048576) :
    Calls Try.prog 20 #[.slice A n c] w fun e w' => ∃ v, e = .returned v ∧ Own w' w.heap.size v (merge ls) ∧ Below w.heap.size w w' := by
  obtain ⟨us, hus, hvs⟩ := hR.vals
  rw [hl] at hus
  have HL := Lib.hid hl
  clear hl
  have HT := Lib.hid ht
  clear ht
  have HUS := Lib.hid hus
  have HVS := Lib.hid hvs
  have r1 := World.ownsRow_lit (base := w.heap.size) (e := 31) (size := 1) w #[] 0 (Nat.le_refl _) (by simp [maxLen]) rfl
  have r2 : Reads (w.alloc (.cells #[] 31)) w.heap.size 1 A n us := HUS.out.alloc (Nat.le_refl _) _
  have hone := HVS.out.one
  clear hus hvs
  go_enter Try.func20, Try.ntmps20
  go_wp2_with (first | (at_builtin; go_must (refine wpList_row _ rfl (.tmp 7) (.tmp 8) rfl w.heap.size (.slice (some ⟨w.heap.size, 0, none⟩) 0 0) 0 [] rfl r1 (by simp) _ A n c us rfl r2 hone (by omega) ?_; intro v1 w1 own1 hg hat; rw [List.nil_append, Nat.zero_add] at own1; obtain ⟨A1, c1, rfl, hc1⟩ := row_slice own1)) | fail)
  have bel1 : Below w.heap.size w w1 := ((Below.refl _ _).alloc (Nat.le_refl _) (.cells #[] 31)).grown hg (by simp) (by simp [Value.ownBlock])
  have vs1 := HVS.out.below bel1
  have sz1 := bel1.size
  clear hg hat r1 r2 hone HUS HVS hR
  have LS := least_any w1 A1 n c1 ls HL.out (rss_own own1 (vs1.more sz1)) hn (by have := HT.out; omega)
  obtain ⟨e0, he0⟩ : ∃ e0, encAt (leastAt ls n) = e0 := ⟨_, rfl⟩
  rw [he0] at LS
  have HE0 := Lib.hid he0
  clear he0
  refine LS.mono ?_
  clear LS
  rintro e w2 ⟨rfl, bel2⟩
  have own2 : w2.ownsRow w.heap.size 31 1 (.slice A1 n c1) n us := row_below own1 bel2
  have vs2 := (vs1.below (bel2.mono sz1))
  have bl2 := bel1.trans (bel2.mono sz1)
  clear own1 vs1 bel1 bel2
  go_wp2
  go_loopg [4, 6] (tot ls) (fun gh ov iv wr => ∃ (ls' : List (List Ch)) (vs' : List Value) (O : List Ch), gh = tot ls' ∧ iv = .int .i64 (encAt (leastAt ls' n)) ∧ ls'.length = n ∧ wr.ownsRow w.heap.size 31 1 (.slice A1 n c1) n vs' ∧ Vs wr w.heap.size vs' ls' ∧
    Own wr w.heap.size ov O ∧ O ++ merge ls' = merge ls ∧ Below w.heap.size w wr)
  case atStart => exact ⟨ls, us, [], rfl, by rw [HE0.out], HL.out, own2, vs2, Own.nil_, rfl, bl2⟩
  case round =>
    clear own2 vs2 bl2
    obtain ⟨ls', vs', O, rfl, rfl, hl', own, vs, hO, hmg, hbel⟩ := hrel
    cases h0 : leastAt ls' n with
    | none =>
      simp only [encAt]
      have hm0 : merge ls' = [] := merge_none (by rw [hl']; exact h0)
      rw [hm0, List.append_nil] at hmg
      rw [hmg] at hO
      clear hl' h0 hm0 hmg
      go_wp2
      go_ret
      exact ⟨_, rfl, hO, hbel⟩
    | some j =>
      simp only [encAt]
      obtain ⟨hjn, y, r, hj, _⟩ := least_some (Nat.le_of_eq hl'.symm) h0
      have htl := merge_length ls'
      have htl2 := merge_length ls
      rw [← hmg, List.length_append, htl] at htl2
      have hst := tot_set hj
      have hms := merge_some (by rw [hl']; exact h0) hj
      have hvl : vs'.length = n := by rw [vs.1, hl']
      obtain ⟨A2, c2, hv2, hc2, hrd2⟩ := vs.2 j _ _ (List.getElem?_eq_getElem (by omega)) hj
      obtain ⟨b2, o2, rfl, hb2, hx2⟩ := hrd2 (by simp)
      have hY := hx2 0 (by simp)
      simp only [Nat.zero_mul, Nat.add_zero, List.getElem_cons_zero] at hY
      obtain ⟨y0, y1, y2, y3⟩ := hY
      obtain ⟨gr, cr, e, hgr, hgrl⟩ := own.form (by omega)
      injection e with e1 e2 e3
      subst e1 e3
      clear e2
      have p0 : wr.cell? ⟨gr, j, none⟩ = some (.slice (some ⟨b2, o2, none⟩) (r.length + 1) c2) := by
        rw [own.cellAt j (by omega), List.getElem?_eq_getElem (by omega), hv2]
        simp
      obtain ⟨AO, cO, rfl, hcO⟩ := hO.len
      have HLL := Lib.hid hl'
      have HMG := Lib.hid hmg
      have HMS := Lib.hid hms
      have HV := Lib.hid vs
      have HVL := Lib.hid hvl
      have bsz := hbel.size
      have hjn' : (j : Int) < (n : Int) := by omega
      simp only [List.length_cons] at hc2
      have q1 := hO.alloc (.cells #[.int .i64 y.s, .string y.c, .string y.i, .int .i64 y.k] 36)
      have q2 := Rd.one wr wr.heap.size rfl y.s y.c y.i y.k
      have q3 := own.alloc (.cells #[.int .i64 y.s, .string y.c, .string y.i, .int .i64 y.k] 36)
      have q4 := hbel.alloc bsz (.cells #[.int .i64 y.s, .string y.c, .string y.i, .int .i64 y.k] 36)
      have hne := own_row_ne q1 q3 (by decide) (by simp [Value.ownBlock])
      have HJ := Lib.hid hj
      have HRD := Lib.hid hrd2
      have HTT := HT.out
      clear hl' hmg hms vs hvl hv2 hx2 hj h0 hrd2
      go_upto_region 8 with (at_builtin; go_must (refine wpList_own _ rfl (.tmp 18) (.tmp 25) rfl w.heap.size (.slice AO O.length cO) O rfl q1 (by simp; omega) _ (some ⟨wr.heap.size, 0, none⟩) 1 1 [⟨y.s, y.c, y.i, y.k⟩] rfl rfl q2 (by omega) ?_; intro v' w3 own3 hg hat))
      have own4 := q3.kept hg (.inr (Ne.symm hne))
      have bel4 := bel_grown q4 hg (by simp; omega) q1 (Nat.le_refl _)
      have p4 : w3.cell? ⟨gr, j, none⟩ = some (.slice (some ⟨b2, o2, none⟩) (r.length + 1) c2) := by
        rw [own4.cellAt j (by omega), List.getElem?_eq_getElem (by have := HVL.out; omega)]
        rw [own.cellAt j (by omega), List.getElem?_eq_getElem (by have := HVL.out; omega)] at p0
        exact p0
      have f4 := own4.frozenAt j
      have hrd3 : Rd w3 w.heap.size (some ⟨b2, o2, none⟩) (y :: r) := ((HRD.out.alloc bsz _).below (Below.grown (Below.refl _ _) hg (by simp; omega) (fun g e => (q1.lt g e).1)))
      have vs3 : Vs w3 w.heap.size vs' ls' := (HV.out.below ((Below.refl _ _).alloc bsz _)).below (Below.grown (Below.refl _ _) hg (by simp; omega) (fun g e => (q1.lt g e).1))
      have hat2 : v'.ownBlock ≠ some gr := by
        intro e
        exact own_row_ne own3 own4 (by decide) (by simp [Value.ownBlock]) (e.trans rfl)
      have hgen : ∀ V A' c', V = .slice A' r.length c' → r.length ≤ c' → Rd w3 w.heap.size A' r → (w3.setCell ⟨gr, j, none⟩ V).ownsRow w.heap.size 31 1 (.slice (some ⟨gr, 0, none⟩) n c1) n (vs'.set j V) ∧
          Vs (w3.setCell ⟨gr, j, none⟩ V) w.heap.size (vs'.set j V) (ls'.set j r) ∧ Own (w3.setCell ⟨gr, j, none⟩ V) w.heap.size v' (O ++ [y]) ∧ Below w.heap.size w (w3.setCell ⟨gr, j, none⟩ V) := by
        rintro V A' c' rfl hc' hr
        refine ⟨(own4.stored j _).1, (vs3.set_ j hc' hr).below ((Below.refl _ _).setCell (p := ⟨gr, j, none⟩) hgr _), own3.setOther (p := ⟨gr, j, none⟩) hat2 _, bel4.setCell (p := ⟨gr, j, none⟩) hgr _⟩
      have HG := Lib.hid hgen
      have hmn : (O ++ [y]) ++ merge (ls'.set j r) = merge ls := by rw [← HMG.out, HMS.out, List.append_assoc]; rfl
      have HMN := Lib.hid hmn
      have HVL2 := Lib.hid (show (vs'.set j .nilIface).length = n by rw [List.length_set]; exact HVL.out)
      have HLL2 := Lib.hid (show (ls'.set j r).length = n by rw [List.length_set]; exact HLL.out)
      have hlst : tot (ls'.set j r) ≤ 16777216 := by omega
      clear y0 y1 y2 y3 p0 q1 q2 q3 q4 own own3 own4 bel4 hgen hmn hg hat hne vs3 hat2 hO
      by_cases h1c : c2 = 1
      · subst h1c
        have hr0 : r = [] := List.eq_nil_of_length_eq_zero (by omega)
        have F := HG.out (.slice (some ⟨b2, o2, none⟩) 0 0) (some ⟨b2, o2, none⟩) 0 (by rw [hr0]; rfl) (by omega) (fun h => by subst hr0; simp at h)
        clear HG hrd3
        go_wp2_with fail
        obtain ⟨F1, F2, F3, F4⟩ := F
        generalize w3.setCell ⟨gr, j, none⟩ (.slice (some ⟨b2, o2, none⟩) 0 0) = w5 at F1 F2 F3 F4 ⊢
        have sz5 := F4.size
        refine (least_any w5 (some ⟨gr, 0, none⟩) n c1 (ls'.set j r) HLL2.out (rss_own F1 (F2.more sz5)) hn hlst).mono ?_
        rintro e w6 ⟨rfl, bel6⟩
        have G1 := row_below F1 bel6
        have G2 := F2.below (bel6.mono sz5)
        have G3 := F3.below_all bel6
        have G4 := F4.trans (bel6.mono sz5)
        clear F1 F2 F3 F4
        go_wp2
        go_roundg (tot (ls'.set j r))
        case measure => omega
        case rel => exact ⟨ls'.set j r, _, O ++ [y], rfl, (by rw [hr0]), HLL2.out, G1, G2, G3, HMN.out, G4⟩
      · have F := HG.out (.slice (some ⟨b2, o2 + 4, none⟩) r.length (c2 - 1)) _ _ rfl (by omega) (by have := hrd3.drop_ 1; simpa using this)
        clear HG hrd3
        go_wp2_with fail
        obtain ⟨F1, F2, F3, F4⟩ := F
        generalize w3.setCell ⟨gr, j, none⟩ (.slice (some ⟨b2, o2 + 4, none⟩) r.length (c2 - 1)) = w5 at F1 F2 F3 F4 ⊢
        have sz5 := F4.size
        refine (least_any w5 (some ⟨gr, 0, none⟩) n c1 (ls'.set j r) HLL2.out (rss_own F1 (F2.more sz5)) hn hlst).mono ?_
        rintro e w6 ⟨rfl, bel6⟩
        have G1 := row_below F1 bel6
        have G2 := F2.below (bel6.mono sz5)
        have G3 := F3.below_all bel6
        have G4 := F4.trans (bel6.mono sz5)
        clear F1 F2 F3 F4
        go_wp2
        go_roundg (tot (ls'.set j r))
        case measure => omega
        case rel => exact ⟨ls'.set j r, _, O ++ [y], rfl, rfl, HLL2.out, G1, G2, G3, HMN.out, G4⟩
end Go.Proofs.Ytjdhmagkgoghpaa
