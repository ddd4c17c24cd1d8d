/- (*Log).With: what it hands back is the log with the changes behind the others. -/
import Derived.Test.YtjdhmagkgoghpaaFew
import Derived.Test.YtjdhmagkgoghpaaApp
import Derived.Deep.DeepMust
import Derived.BigRegion
namespace Go.Proofs.Ytjdhmagkgoghpaa
set_option linter.unusedVariables false
open Go.RowKit
set_option maxHeartbeats 400000 in
theorem with_main (w : World) (g : Nat) (keep : Nat) (last hor s : Int) (A : Option Addr) (n c : Nat) (L cs : List Ch) (hb : Blk w g 55 #[.int .i64 keep, .slice A n c, .int .i64 last, .int .i64 hor])
   (hnc : n ≤ c) (hL : L.length = n) (hRd : Rd w w.heap.size A L) (hAn : A = none → n = 0) (C : Option Addr) (m d : Nat) (hcs : cs.length = m) (hC : Rd w w.heap.size C cs) (hs : last < s) (hm : 0 < m) (hkeep : 1 ≤ keep) (hkeep' : keep ≤ 4096) (hn : n ≤ 4096) (hm' : m ≤ 2097152) :
    Calls Try.prog 12 #[.pointer (some ⟨g, 0, none⟩), .int .i64 s, .slice C m d] w (WithPost w A (Lg.put ⟨keep, L, last, hor⟩ s cs)) := by
  have h0 := hb.cell 0
  have h1 := hb.cell 1
  have h2 := hb.cell 2
  have h3 := hb.cell 3
  simp at h0 h1 h2 h3
  have hgl := hb.lt
  have HB := Lib.hid hb
  clear hb
  have HL := Lib.hid hL
  clear hL
  have HC := Lib.hid hcs
  clear hcs
  have hm0 : ((m : Int) == 0) = false := by rw [beq_eq_false_iff_ne]; omega
  have HAn := Lib.hid hAn
  clear hAn
  go_enter Try.func12, Try.ntmps12
  go_wp2
  go_loopw [8, 43] (fun v i wr => ∃ k : Nat, k ≤ m ∧ i = .int .i64 k ∧ Below w.heap.size w wr ∧ ((k = 0 ∧ v = .slice A n n) ∨ (0 < k ∧ Own wr w.heap.size v (L ++ stampAll s (cs.take k))))) (fun _ i _ => m - (intOf i).toNat)
  case atStart => exact ⟨0, Nat.zero_le _, rfl, Below.refl _ _, .inl ⟨rfl, rfl⟩⟩
  case round =>
    obtain ⟨k, hk, rfl, hbel, hv⟩ := hrel
    by_cases hlt : k < m
    · obtain ⟨b, off, rfl, hb, hx⟩ := hC (by have := HC.out; omega)
      have hkc : k < cs.length := by have := HC.out; omega
      obtain ⟨x, hxx⟩ : ∃ x, cs[k] = x := ⟨_, rfl⟩
      have hX := hx k hkc
      rw [hxx] at hX
      obtain ⟨p0, p1, p2, p3⟩ := hX
      have q0 := (hbel.cell (p := ⟨b, _, none⟩) hb).trans p0
      have q1 := (hbel.cell (p := ⟨b, _, none⟩) hb).trans p1
      have q2 := (hbel.cell (p := ⟨b, _, none⟩) hb).trans p2
      have q3 := (hbel.cell (p := ⟨b, _, none⟩) hb).trans p3
      have HX := Lib.hid hxx
      clear hxx hx p0 p1 p2 p3
      rcases hv with ⟨hk0, rfl⟩ | ⟨hk0, hown⟩
      · have HK := Lib.hid hk0
        clear hk0
        have r1 := ((hRd.below hbel).alloc hbel.size (.cells #[.int .i64 s, .string x.c, .string x.i, .int .i64 x.k] 36)).alloc (by simp; have := hbel.size; omega) (.cells #[.int .i64 s, .string x.c, .string x.i, .int .i64 x.k] 36)
        have r2 := Rd.one (wr.alloc (.cells #[.int .i64 s, .string x.c, .string x.i, .int .i64 x.k] 36)) (wr.heap.size + 1) (by simp) s x.c x.i x.k
        have bsz := hbel.size
        go_wp2_with (at_builtin; go_must (refine wpList_full _ rfl (.tmp 49) (.tmp 51) rfl A n L rfl HL.out w.heap.size r1 HAn.out ⟨wr.heap.size + 1, 0, none⟩ 1 1 _ [⟨s, x.c, x.i, x.k⟩] rfl rfl r2 (by omega) (by omega) ?_; intro v' w1 hown hg))
        have hb1 := ((hbel.alloc bsz (.cells #[.int .i64 s, .string x.c, .string x.i, .int .i64 x.k] 36)).alloc (by simp; omega) (.cells #[.int .i64 s, .string x.c, .string x.i, .int .i64 x.k] 36)).grown hg (by simp; omega) (by simp)
        have hown1 := hown.more (base' := w.heap.size) (by simp; omega)
        clear hown hg r1 r2 q0 q1 q2 q3
        go_roundw
        case rel =>
          refine ⟨k + 1, by omega, by go_num, hb1, .inr ⟨by omega, ?_⟩⟩
          have h0 : k = 0 := HK.out
          rw [stamp_snoc s cs k hkc x HX.out]
          subst h0
          exact hown1
        case measure => simp [intOf]; omega
      · have r1 := (hown.alloc (.cells #[.int .i64 s, .string x.c, .string x.i, .int .i64 x.k] 36)).alloc (.cells #[.int .i64 s, .string x.c, .string x.i, .int .i64 x.k] 36)
        have r2 := Rd.one (wr.alloc (.cells #[.int .i64 s, .string x.c, .string x.i, .int .i64 x.k] 36)) (wr.heap.size + 1) (by simp) s x.c x.i x.k
        have bsz := hbel.size
        have hll : (L ++ stampAll s (cs.take k)).length + 1 ≤ 16777216 := by
          rw [List.length_append, stampAll_length, HL.out, List.length_take]; omega
        go_wp2_with (at_builtin; go_must (refine wpList_own _ rfl (.tmp 49) (.tmp 51) rfl w.heap.size _ (L ++ stampAll s (cs.take k)) rfl r1 (by simp; omega) _ (some ⟨wr.heap.size + 1, 0, none⟩) 1 1 [⟨s, x.c, x.i, x.k⟩] rfl rfl r2 hll ?_; intro v' w1 hown1 hg hat))
        have hb1 := bel_grown ((hbel.alloc bsz (.cells #[.int .i64 s, .string x.c, .string x.i, .int .i64 x.k] 36)).alloc (by simp; omega) (.cells #[.int .i64 s, .string x.c, .string x.i, .int .i64 x.k] 36)) hg (by simp; omega) r1 (Nat.le_refl _)
        clear hg r1 r2 q0 q1 q2 q3 hat
        go_roundw
        case rel =>
          refine ⟨k + 1, by omega, by go_num, hb1, .inr ⟨by omega, ?_⟩⟩
          rw [stamp_snoc s cs k hkc x HX.out, ← List.append_assoc]
          exact hown1
        case measure => simp [intOf]; omega
    · obtain ⟨hk0, _⟩ | ⟨_, hown⟩ := hv
      · omega
      rw [show cs.take k = cs from List.take_of_length_le (by have := HC.out; omega)] at hown
      obtain ⟨T, hT⟩ : ∃ T, L ++ stampAll s cs = T := ⟨_, rfl⟩
      rw [hT] at hown
      have hTl : T.length = n + m := by rw [← hT, List.length_append, stampAll_length, HL.out, HC.out]
      obtain ⟨g1, c1, rfl, hg1, hg1', hc1, hdel⟩ := hown.at_ (k := 0) (by omega)
      clear hdel
      rw [hTl] at hc1
      have HT := Lib.hid hT
      clear hT
      have HO := Lib.hid hown
      clear hown
      have k0 := (hbel.cell (p := ⟨g, _, none⟩) hgl).trans h0
      have k3 := (hbel.cell (p := ⟨g, _, none⟩) hgl).trans h3
      clear h0 h1 h2 h3 hRd hC
      have HTL := Lib.hid hTl
      rw [hTl]
      clear hTl
      have bsz := hbel.size
      have hgw : g < wr.heap.size := by omega
      by_cases hgo : n + m ≤ keep
      · go_wp2
        go_region
        go_wp2
        go_ret
        have hput : Lg.put ⟨keep, L, last, hor⟩ s cs = ⟨keep, T, s, hor⟩ := by
          rw [put_fits _ s cs hs (by rw [HC.out]; exact hm) (by show L.length + cs.length ≤ keep; rw [HL.out, HC.out]; exact hgo), ← HT.out]
        rw [hput]
        refine ⟨_, some ⟨g1, 0, none⟩, rfl, ?_, ?_, .inr fun a e => by injection e with e; subst e; exact hg1⟩
        · exact (hbel.alloc bsz _).drew
        · have ho := (HO.out.alloc (.cells #[.int .i64 keep, .slice (some ⟨g1, 0, none⟩) (n + m) c1, .int .i64 s, .int .i64 hor] 55)).drew
          obtain ⟨A2, c2, e, h2, h3⟩ := ho.rd
          injection e with e1 e2 e3
          subst e1 e3
          refine ⟨c1, (by rw [← HTL.out]; exact (Blk.new wr 55 _).drew), (by have := HTL.out; omega), (by intro e; cases e), (fun e => ?_), h3⟩
          change T.length = 0 at e
          have := HTL.out
          omega
      · have hTg : n + m - keep - 1 < T.length := by have := HTL.out; omega
        obtain ⟨x, hx⟩ : ∃ x, T[n + m - keep - 1] = x := ⟨_, rfl⟩
        obtain ⟨p0, _⟩ : ChAt wr g1 ((n + m - keep - 1) * 4) x := by
          obtain ⟨g2, c2, e, _, _, _, h⟩ := HO.out.at_ hTg
          injection e with e
          injection e with e
          injection e with e
          subst e
          rw [← hx]
          exact h
        have hput : Lg.put ⟨keep, L, last, hor⟩ s cs = ⟨keep, T.drop (n + m - keep), s, x.s⟩ := by
          rw [put_goes _ s cs hs (by rw [HC.out]; exact hm) (by show keep < L.length + cs.length; rw [HL.out, HC.out]; omega) x (by show (L ++ stampAll s cs)[L.length + cs.length - keep - 1]? = some x; rw [HL.out, HC.out, HT.out, List.getElem?_eq_getElem hTg, hx])]
          show Lg.mk keep (List.drop (L.length + cs.length - keep) (L ++ stampAll s cs)) s x.s = _
          rw [HL.out, HC.out, HT.out]
        obtain ⟨D, hD⟩ : ∃ D, T.drop (n + m - keep) = D := ⟨_, rfl⟩
        have hDl : D.length = keep := by rw [← hD, List.length_drop, HTL.out]; omega
        rw [hD] at hput
        have HP := Lib.hid hput
        clear hput hx
        have r1 := (Own.empty (base := w.heap.size) (wr.alloc (.cells #[.int .i64 keep, .slice none 0 0, .int .i64 s, .int .i64 x.s] 55)) (by simp; omega) (wr.heap.size + 1) (by simp)).drew
        have r2 : Rd ((wr.alloc (.cells #[.int .i64 keep, .slice none 0 0, .int .i64 s, .int .i64 x.s] 55)).alloc (.cells #[] 36)).drew wr.heap.size (some ⟨g1, (n + m - keep) * 4, none⟩) D := by
          obtain ⟨A2, c2, e, h2, h3⟩ := HO.out.rd
          injection e with e1 e2 e3
          subst e1 e3
          have := h3.drop_ (n + m - keep)
          rw [Nat.zero_add, hD] at this
          exact (this.alloc (Nat.le_refl _) _).alloc (by simp) _
        have HDL := Lib.hid hDl
        have HDL2 := Lib.hid (show D.length = n + m - (n + m - keep) by rw [hDl]; omega)
        have hdl16 : 0 + (n + m - (n + m - keep)) ≤ 16777216 := by omega
        clear hDl hD
        go_wp2
        go_region
        go_wp2_with (at_builtin; go_must (refine wpList_own _ rfl (.tmp 83) (.tmp 86) rfl w.heap.size (.slice (some ⟨wr.heap.size + 1, 0, none⟩) 0 0) [] rfl r1 (by simp; omega) _ (some ⟨g1, (n + m - keep) * 4, none⟩) _ _ D rfl HDL2.out r2 hdl16 ?_; intro v' w1 hown1 hg hat; rw [List.nil_append] at hown1; obtain ⟨A2, c2, rfl, hc2, hrd2⟩ := hown1.rd; have hB := ((((Blk.new wr 55 #[.int .i64 keep, .slice none 0 0, .int .i64 s, .int .i64 x.s]).alloc (.cells #[] 36)).drew).grown hg (by simp [Value.ownBlock])); have b1 := hB.cell 1; have b2 := hB.frozen 1; simp at b1 b2))
        go_ret
        rw [HP.out]
        have hbw := bel_grown (((hbel.alloc bsz _).alloc (by simp; omega) _).drew) hg (by simp; omega) r1 (Nat.le_refl _)
        refine ⟨_, A2, rfl, hbw.setCell (by simpa using bsz) _, ?_, .inr fun a e => by subst e; exact (hown1.lt _ rfl).1⟩
        have hB3 := hB.set_ 1 (.slice A2 D.length c2)
        have hpos : 0 < D.length := by rw [HDL.out]; exact hkeep
        have hne : (Value.slice A2 D.length c2).ownBlock ≠ some wr.heap.size := by
          rcases hat with e | e <;> rw [e] <;> simp [Value.ownBlock] <;> omega
        have hr3 := (hown1.setOther (p := ⟨wr.heap.size, 1, none⟩) hne (.slice A2 D.length c2)).slice_
        refine ⟨c2, hB3, hr3.2.1, fun e => absurd e (hown1.pos hpos), fun e => absurd e (Nat.ne_of_gt hpos), hr3.2.2⟩

theorem with_same (w : World) (g : Nat) (keep : Nat) (last hor s : Int) (A : Option Addr) (n c : Nat) (hb : Blk w g 55 #[.int .i64 keep, .slice A n c, .int .i64 last, .int .i64 hor])
   (C : Option Addr) (m d : Nat) (h : s ≤ last ∨ m = 0) (hm : m ≤ 2097152) :
    Calls Try.prog 12 #[.pointer (some ⟨g, 0, none⟩), .int .i64 s, .slice C m d] w fun e w' => e = .returned (.pointer (some ⟨g, 0, none⟩)) ∧ w = w' := by
  have h2 := hb.cell 2
  simp at h2
  clear hb
  by_cases hs : s ≤ last
  · have hsd : decide (s ≤ last) = true := by simpa using hs
    clear h
    go_enter Try.func12, Try.ntmps12
    go_wp2
    go_ret
    exact ⟨rfl, rfl⟩
  · have hsd : decide (s ≤ last) = false := by simpa using hs
    obtain rfl : m = 0 := by omega
    clear h
    go_enter Try.func12, Try.ntmps12
    go_wp2
    go_ret
    exact ⟨rfl, rfl⟩
/-- With, at every log that stands. -/
theorem with_any (w : World) (g : Nat) (A : Option Addr) (l : Lg) (hl : PLogAt w g A l) (hk1 : 1 ≤ l.keep) (hk2 : l.keep ≤ 4096) (hn : l.L.length ≤ 4096) (s : Int) (C : Option Addr) (m d : Nat) (cs : List Ch) (hcs : cs.length = m) (hC : Rd w w.heap.size C cs) (hm : m ≤ 2097152) :
    Calls Try.prog 12 #[.pointer (some ⟨g, 0, none⟩), .int .i64 s, .slice C m d] w (WithPost w A (l.put s cs)) := by
  obtain ⟨c, hb, hc, hA, hc0, hrd⟩ := id hl
  by_cases h : s ≤ l.last ∨ m = 0
  · refine (with_same w g l.keep l.last l.hor s A _ c hb C m d h hm).mono ?_
    rintro e w' ⟨rfl, rfl⟩
    rw [put_same _ _ _ (by rw [hcs]; exact h)]
    exact ⟨g, A, rfl, Below.refl _ _, hl, .inl rfl⟩
  · exact with_main w g l.keep l.last l.hor s A _ c l.L cs hb hc rfl hrd (fun e => by have := hA e; omega) C m d hcs hC (by omega) (by omega) hk1 hk2 hn hm
end Go.Proofs.Ytjdhmagkgoghpaa
