/- WatchPlays: the walk: every New, and every list of changes and questions. -/
import Derived.Test.YtjdhmagkgoghpaaAsks
import Derived.Test.YtjdhmagkgoghpaaLive
import Derived.Deep.DeepMust
import Derived.Deep.CutBlock
import Derived.Deep.DeepCutAuto
import Derived.StillTailTactics
namespace Go.Proofs.Ytjdhmagkgoghpaa
set_option linter.unusedVariables false
open Go.RowKit
/-- a log of the document's in a variable's block, and the program's beside it, both the same log -/
structure Pair (w : World) (b g : Nat) (AL AR : Option Addr) (cR : Nat) (keep : Nat) (l : Lg) : Prop where
  blk : Blk w b 43 #[.int .i64 l.keep, .slice AR l.L.length cR, .int .i64 l.hor, .int .i64 l.last]
  ref : RLog w (.agg #[.int .i64 l.keep, .slice AR l.L.length cR, .int .i64 l.hor, .int .i64 l.last]) l
  log : PLogAt w g AL l
  li : LI l
  keep_ : l.keep = keep
theorem Pair.below {w w' : World} {b g : Nat} {AL AR : Option Addr} {cR keep : Nat} {l : Lg} (h : Pair w b g AL AR cR keep l) (hb : Below w.heap.size w w') : Pair w' b g AL AR cR keep l :=
  ⟨h.blk.below hb h.blk.lt, h.ref.below hb, h.log.below hb, h.li, h.keep_⟩
theorem Rd.grown {w w' : World} {A : Option Addr} {l : List Ch} {row : Option Nat} (h : Rd w w.heap.size A l) (hg : w.grownBy w' row) (hA : 0 < l.length → ∀ a, A = some a → some a.block ≠ row) : Rd w' w'.heap.size A l := by
  intro hl
  obtain ⟨b, off, e, hb, hc⟩ := h hl
  have hne := hA hl _ e
  refine ⟨b, off, e, Nat.lt_of_lt_of_le hb hg.size, fun i hi => ?_⟩
  obtain ⟨q0, q1, q2, q3⟩ := hc i hi
  have hk : ∀ o, w'.cell? ⟨b, o, none⟩ = w.cell? ⟨b, o, none⟩ := fun o => World.cell?_of_block (w := w) (a := ⟨b, o, none⟩) (hg.block b hb hne)
  exact ⟨(hk _).trans q0, (hk _).trans q1, (hk _).trans q2, (hk _).trans q3⟩
theorem rd_ne_blk {w : World} {B g : Nat} {A S : Option Addr} {l : List Ch} {t : TypeId} {a d e : Int} {n c : Nat} (h : Rd w B A l) (hl : 0 < l.length) (hb : Blk w g t #[.int .i64 a, .slice S n c, .int .i64 d, .int .i64 e]) : ∀ q, A = some q → q.block ≠ g := by
  rintro q hq rfl
  obtain ⟨b, off, e2, _, hc⟩ := h hl
  rw [hq] at e2
  injection e2 with e2
  subst e2
  have h1 := (hc 0 hl).2.1
  rw [hb.cell] at h1
  rcases Nat.lt_or_ge (off + 0 * 4 + 1) 4 with h2 | h2
  · have h3 : off + 0 * 4 + 1 = 1 ∨ off + 0 * 4 + 1 = 2 ∨ off + 0 * 4 + 1 = 3 := by omega
    rcases h3 with h3 | h3 | h3 <;> rw [h3] at h1 <;> simp at h1
  · rw [Array.getElem?_eq_none (by simpa using h2)] at h1
    cases h1
theorem PLogAt.rd {w : World} {g : Nat} {A : Option Addr} {l : Lg} (h : PLogAt w g A l) : Rd w w.heap.size A l.L := by
  obtain ⟨_, _, _, _, _, h⟩ := h
  exact h
theorem Pair.rd {w : World} {b g : Nat} {AL AR : Option Addr} {cR keep : Nat} {l : Lg} (h : Pair w b g AL AR cR keep l) : Rd w w.heap.size AR l.L ∧ l.L.length ≤ cR := by
  obtain ⟨A9, c9, e9, h8, h9⟩ := h.ref
  injection e9 with e9
  injection e9 with e9
  simp at e9
  rw [e9.1, e9.2]
  exact ⟨h9, h8⟩
theorem Pair.mk2 {w : World} {b g : Nat} {AL AR : Option Addr} {cR keep : Nat} {l : Lg} (blk : Blk w b 43 #[.int .i64 l.keep, .slice AR l.L.length cR, .int .i64 l.hor, .int .i64 l.last]) (hrd : Rd w w.heap.size AR l.L) (hc : l.L.length ≤ cR) (log : PLogAt w g AL l) (li : LI l) (hk : l.keep = keep) : Pair w b g AL AR cR keep l :=
  ⟨blk, ⟨AR, cR, rfl, hc, hrd⟩, log, li, hk⟩
theorem Pair.grown {w w' : World} {b g : Nat} {AL AR : Option Addr} {cR keep : Nat} {l : Lg} {row : Option Nat} (h : Pair w b g AL AR cR keep l) (hg : w.grownBy w' row) (h1 : some b ≠ row) (h2 : some g ≠ row)
    (h3 : 0 < l.L.length → ∀ a, AL = some a → some a.block ≠ row) (h4 : 0 < l.L.length → ∀ a, AR = some a → some a.block ≠ row) : Pair w' b g AL AR cR keep l := by
  refine Pair.mk2 (h.blk.grown hg h1) (h.rd.1.grown hg h4) h.rd.2 ?_ h.li h.keep_
  obtain ⟨c, e1, e2, e3, e4, e5⟩ := h.log
  exact ⟨c, e1.grown hg h2, e2, e3, e4, e5.grown hg h3⟩
theorem only_alloc2 {a w : World} {row : Option Nat} (h : a.grownBy w row) (o : Obj) : a.grownBy (w.alloc o) row := h.trans (World.grownBy_alloc _ _ _)
theorem Pair.cells {w : World} {b g : Nat} {AL AR : Option Addr} {cR keep : Nat} {l : Lg} (h : Pair w b g AL AR cR keep l) :
    w.cell? ⟨b, 0, none⟩ = some (.int .i64 l.keep) ∧ w.cell? ⟨b, 1, none⟩ = some (.slice AR l.L.length cR) ∧ w.cell? ⟨b, 2, none⟩ = some (.int .i64 l.hor) ∧ w.cell? ⟨b, 3, none⟩ = some (.int .i64 l.last) := by
  have h0 := h.blk.cell 0
  have h1 := h.blk.cell 1
  have h2 := h.blk.cell 2
  have h3 := h.blk.cell 3
  simp at h0 h1 h2 h3
  exact ⟨h0, h1, h2, h3⟩
theorem Pair.asks {w : World} {b g : Nat} {AL AR : Option Addr} {cR keep : Nat} {l : Lg} (h : Pair w b g AL AR cR keep l) (hk : keep ≤ 4096) (st af lim : Int) (ask : Bool) (inn : ByteArray) (A' : Option Addr) (m c' : Nat) :
    Calls Try.prog 16 #[.pointer (some ⟨g, 0, none⟩), .agg #[.int .i64 l.keep, .slice AR l.L.length cR, .int .i64 l.hor, .int .i64 l.last], .agg #[.int .i64 st, .slice A' m c', .bool ask, .int .i64 af, .int .i64 lim, .string inn]] w
      fun e w' => e = .returned (.bool true) ∧ Below w.heap.size w w' :=
  asks_any w g AL l h.log AR _ cR h.ref h.li (by rw [h.keep_]; exact hk) st af lim ask inn A' m c'
structure PRel (w wr : World) (b7 b10 g g1 : Nat) (keep : Nat) (AL AR AL1 AR1 : Option Addr) (cR cR1 : Nat) (l l1 : Lg) : Prop where
  bel : Below w.heap.size w wr
  one : Pair wr b7 g AL AR cR keep l
  two : Pair wr b10 g1 AL1 AR1 cR1 keep l1
  h7 : w.heap.size ≤ b7
  h10 : w.heap.size ≤ b10
  ne : b7 ≠ b10
set_option maxRecDepth 100000 in
set_option maxHeartbeats 8000000 in
theorem plays_main (w : World) (keep : Nat) (A : Option Addr) (n c : Nat) (l : List Ac) (hl : l.length = n) (hA : Acts w w.heap.size A l) (hn : n ≤ 1048576) (hs : sumCh l ≤ 1048576) (hfew : fewB l = true)
    (hk1 : 1 ≤ keep) (hk2 : keep ≤ 4096) :
    Calls Try.prog 4 #[.int .i64 keep, .slice A n c] w fun e w' => e = .returned (.bool true) ∧ Below w.heap.size w w' := by
  have HL := Lib.hid hl
  clear hl
  have hsum : sumCh l ≤ 20000 := by simp [fewB] at hfew; omega
  have HF := Lib.hid hfew
  clear hfew
  have HFW := few_any w A n c l HL.out hA hn hs
  rw [HF.out] at HFW
  have HFW2 := Lib.hid HFW
  clear HFW
  go_enter Try.func4, Try.ntmps4
  go_wp2_with fail
  refine HFW2.out.mono ?_
  rintro e w0 ⟨rfl, rfl⟩
  go_wp2_with fail
  refine (new_ok keep w (by omega) (by omega)).mono ?_
  rintro e w0 ⟨rfl, h0⟩
  have hb0 : Blk w0 w.heap.size 55 #[.int .i64 keep, .slice none 0 0, .int .i64 0, .int .i64 0] := by rw [← h0]; exact Blk.new w 55 _
  have bel0 : Below w.heap.size w w0 := by rw [← h0]; exact (Below.refl _ _).alloc (Nat.le_refl _) _
  have hp0 : PLogAt w0 w.heap.size none ⟨keep, [], 0, 0⟩ := ⟨0, hb0, Nat.le_refl _, fun _ => rfl, fun _ => rfl, fun h => absurd h (by simp)⟩
  clear h0 hb0
  go_wp2_with fail
  refine (refNew_ok keep w0 (by omega) (by omega)).mono ?_
  rintro e w1 ⟨rfl, bel1⟩
  have hp1 := hp0.below bel1
  have sz0 := bel0.size
  have sz1 := bel1.size
  go_wp2_with fail
  refine (num_any 0 _).mono ?_
  rintro e w2 ⟨rfl, rfl⟩
  go_wp2_with fail
  refine (live_any _).mono ?_
  rintro e w2 ⟨rfl, bel2⟩
  have b7 : Blk w2 w1.heap.size 43 #[.int .i64 keep, .slice none 0 0, .int .i64 0, .int .i64 0] := (Blk.new w1 43 _).below bel2 (by simp)
  have sz2 := bel2.size
  have hsa : (w1.alloc (.cells #[.int .i64 keep, .slice none 0 0, .int .i64 0, .int .i64 0] 43)).heap.size = w1.heap.size + 1 := by simp
  have hp2 := (hp1.below ((Below.refl _ _).alloc (Nat.le_refl _) (.cells #[.int .i64 keep, .slice none 0 0, .int .i64 0, .int .i64 0] 43))).below bel2
  have belw2 : Below w.heap.size w w2 := (bel0.trans (bel1.mono sz0)).trans (((Below.refl _ _).alloc (by omega) (.cells #[.int .i64 keep, .slice none 0 0, .int .i64 0, .int .i64 0] 43)).trans (bel2.mono (by omega)))
  have x0 := b7.cell 0
  have x1 := b7.cell 1
  have x2 := b7.cell 2
  have x3 := b7.cell 3
  simp at x0 x1 x2 x3
  have h712 : w1.heap.size < w2.heap.size := b7.lt
  have HSA := Lib.hid hsa
  clear hsa
  go_wp2
  go_region
  obtain ⟨w3, hw3⟩ : ∃ w3 : World, (w2.alloc (.cells #[.int .i64 keep, .slice none 0 0, .int .i64 0, .int .i64 0] 43)).drew = w3 := ⟨_, rfl⟩
  have bel3 : Below w2.heap.size w2 w3 := by rw [← hw3]; exact ((Below.refl _ _).alloc (Nat.le_refl _) _).drew
  have b10 : Blk w3 w2.heap.size 43 #[.int .i64 keep, .slice none 0 0, .int .i64 0, .int .i64 0] := by rw [← hw3]; exact (Blk.new w2 43 _).drew
  have hli0 : LI ⟨keep, [], 0, 0⟩ := ⟨by simp [Rises], by simp, by simp, Int.le_refl _, by simp⟩
  have hrl0 : RLog w3 (.agg #[.int .i64 keep, .slice none 0 0, .int .i64 0, .int .i64 0]) ⟨keep, [], 0, 0⟩ := ⟨none, 0, rfl, Nat.le_refl _, fun h => by simp at h⟩
  have hpr : PRel w w3 w1.heap.size w2.heap.size w.heap.size w.heap.size keep none none none none 0 0 ⟨keep, [], 0, 0⟩ ⟨keep, [], 0, 0⟩ :=
    ⟨belw2.trans (bel3.mono belw2.size), ⟨b7.below bel3 h712, hrl0, hp2.below bel3, hli0, rfl⟩, ⟨b10, hrl0, hp2.below bel3, hli0, rfl⟩, by omega, belw2.size, by omega⟩
  go_wp2
  clear x0 x1 x2 x3 hrl0 hli0 hp2 b7 b10 belw2 hp0 hp1
  rw [hw3]
  clear hw3
  have hwb : w1.heap.size + 1 ≤ w2.heap.size := by omega
  go_loopw [5, 9, 11] (fun lv fv iv wr => ∃ (k g g1 : Nat) (AL AR AL1 AR1 : Option Addr) (cR cR1 : Nat) (lg lg1 : Lg), k ≤ n ∧ iv = .int .i64 k ∧ lv = .pointer (some ⟨g, 0, none⟩) ∧ fv = .pointer (some ⟨g1, 0, none⟩) ∧
    PRel w wr w1.heap.size w2.heap.size g g1 keep AL AR AL1 AR1 cR cR1 lg lg1) (fun _ _ iv _ => n - (intOf iv).toNat)
  case atStart => exact ⟨0, w.heap.size, w.heap.size, none, none, none, none, 0, 0, _, _, Nat.zero_le _, rfl, rfl, rfl, hpr⟩
  case round =>
    clear hpr
    obtain ⟨wo, rfl⟩ : ∃ wo : World, wo = wr := ⟨_, rfl⟩
    obtain ⟨k, g, g1, AL, AR, AL1, AR1, cR, cR1, lg, lg1, hk, rfl, rfl, rfl, hpr⟩ := hrel
    have hbel := hpr.bel
    have bsz := hbel.size
    obtain ⟨x0, x1, x2, x3⟩ := hpr.one.cells
    obtain ⟨z0, z1, z2, z3⟩ := hpr.two.cells
    have h7l := hpr.one.blk.lt
    have h10l := hpr.two.blk.lt
    by_cases hlt : k < n
    · have hkL : k < l.length := by have := HL.out; omega
      obtain ⟨b, off, rfl, hb, hx⟩ := hA (by omega)
      obtain ⟨A', c', hx⟩ := hx k hkL
      obtain ⟨x, hxx⟩ : ∃ x, l[k] = x := ⟨_, rfl⟩
      rw [hxx] at hx
      have HXX := Lib.hid hxx
      have hsm := sumCh_take l k hkL
      have hsm2 := sumCh_take_le l (k + 1)
      rw [hxx] at hsm
      clear hxx
      have hx2 := hx.keep hb (fun p hp => hbel.cell hp)
      have y0 := hx2.c0
      have y1 := hx2.c1
      have y2 := hx2.c2
      have y3 := hx2.c3
      have y4 := hx2.c4
      have y5 := hx2.c5
      obtain ⟨m, hm⟩ : ∃ m, x.ch.length = m := ⟨_, rfl⟩
      rw [hm] at y1 hsm
      have hm20 : m ≤ 20000 := by omega
      have HM := Lib.hid hm
      clear hm hx hsm hsm2
      obtain ⟨W1, hW1⟩ : ∃ W1 : World, wo.alloc (.cells #[.int .i64 x.st, .slice A' m c', .bool x.ask, .int .i64 x.af, .int .i64 x.lim, .string x.inn] 33) = W1 := ⟨_, rfl⟩
      have hab : Below wo.heap.size wo W1 := by rw [← hW1]; exact (Below.refl _ _).alloc (Nat.le_refl _) _
      have hB1 : Blk W1 wo.heap.size 33 #[.int .i64 x.st, .slice A' m c', .bool x.ask, .int .i64 x.af, .int .i64 x.lim, .string x.inn] := by rw [← hW1]; exact Blk.new wo 33 _
      have hsz1 : wo.heap.size < W1.heap.size := hB1.lt
      have P1 := hpr.one.below hab
      have P2 := hpr.two.below hab
      cases hask : x.ask
      · rw [hask] at y2 hW1 hB1
        have HW1 := Lib.hid hW1
        clear hW1 hask
        go_upto_region 17 with fail
        rw [HW1.out]
        clear x0 x1 x2 x3 y0 y1 y2 y3 y4 y5 z0 z1 z2 z3
        have y0 := hB1.cell 0
        have y1 := hB1.cell 1
        simp at y0 y1
        have r1 := Own.empty (base := W1.heap.size) W1 (Nat.le_refl _) W1.heap.size rfl
        have hxr1 : Rd W1 W1.heap.size A' x.ch := ((hx2.rd.more bsz).below hab).more (Nat.le_of_lt hsz1)
        have r2 := hxr1.alloc (Nat.le_refl _) (.cells #[] 36)
        have hll : 0 + m ≤ 16777216 := by omega
        go_wp2_with (first | (at_builtin; refine wpList_own _ rfl (.tmp 72) (.tmp 74) rfl W1.heap.size (.slice (some ⟨W1.heap.size, 0, none⟩) 0 0) [] rfl r1 (by simp) _ A' m c' x.ch rfl HM.out r2 hll ?_; intro v1 wa own1 hga hata; rw [List.nil_append] at own1; obtain ⟨A1, c1, rfl, hc1⟩ := own1.len; rw [HM.out] at own1 hc1 ⊢) | (at_builtin; go_must (refine wpList_own _ rfl (.tmp 75) (.tmp 77) rfl W1.heap.size (.slice A1 m c1) x.ch rfl (own1.alloc (.cells #[.int .i64 0, .string ⟨#[]⟩, .string ⟨#[98, 101, 104, 105, 110, 100]⟩, .int .i64 0] 36)) (by have := hga.size; simp at this ⊢; omega) _ (some ⟨wa.heap.size, 0, none⟩) 1 1 [Ch.mk 0 ⟨#[]⟩ ⟨#[98, 101, 104, 105, 110, 100]⟩ 0] rfl rfl (Rd.one wa wa.heap.size rfl 0 ⟨#[]⟩ ⟨#[98, 101, 104, 105, 110, 100]⟩ 0) (by rw [HM.out]; omega) ?_; intro v2 wb own2 hgb hatb; obtain ⟨AG, cG, rfl, hcG⟩ := own2.len; rw [show (x.ch ++ [Ch.mk 0 ⟨#[]⟩ ⟨#[98, 101, 104, 105, 110, 100]⟩ 0]).length = m + 1 from by rw [List.length_append, HM.out]; rfl] at own2 hcG ⊢)))
        have ba : Below W1.heap.size W1 wa := bel_grown ((Below.refl _ _).alloc (Nat.le_refl _) (.cells #[] 36)) hga (by simp) r1 (Nat.le_refl _)
        have bb : Below W1.heap.size W1 wb := bel_grown (ba.alloc ba.size (.cells #[.int .i64 0, .string ⟨#[]⟩, .string ⟨#[98, 101, 104, 105, 110, 100]⟩, .int .i64 0] 36)) hgb (by have := ba.size; simp; omega) (own1.alloc _) (Nat.le_refl _)
        have szb := bb.size
        have Q1 := P1.below bb
        have Q2 := P2.below bb
        have B33 := hB1.below bb hsz1
        have hxb : Rd wb wb.heap.size A' x.ch := (hxr1.below bb).more szb
        have hG := own2.slice_.2.2.take_ m
        have htk : (x.ch ++ [Ch.mk 0 ⟨#[]⟩ ⟨#[98, 101, 104, 105, 110, 100]⟩ 0]).take m = x.ch := by rw [← HM.out]; simp
        rw [htk] at hG
        have hmcG : m ≤ cG := by omega
        clear y0 y1 ba hga hgb hata hatb own1 hc1 r1 r2 hxr1 hB1 htk
        have y0 := B33.cell 0
        have y1 := B33.cell 1
        simp at y0 y1
        go_wp2
        go_still_tail 8, (by kernel_rfl)
        obtain ⟨wd, hwd⟩ : ∃ wd : World, wb.drew = wd := ⟨_, rfl⟩
        have bwd : Below W1.heap.size W1 wd := by rw [← hwd]; exact bb.drew
        have szd : wd.heap.size = wb.heap.size := by rw [← hwd]; rfl
        have Q1d : Pair wd w1.heap.size g AL AR cR keep lg := by rw [← hwd]; exact ⟨Q1.blk, Q1.ref, Q1.log, Q1.li, Q1.keep_⟩
        have Q2d : Pair wd w2.heap.size g1 AL1 AR1 cR1 keep lg1 := by rw [← hwd]; exact ⟨Q2.blk, Q2.ref, Q2.log, Q2.li, Q2.keep_⟩
        have B33d : Blk wd wo.heap.size 33 #[.int .i64 x.st, .slice A' m c', .bool false, .int .i64 x.af, .int .i64 x.lim, .string x.inn] := by rw [← hwd]; exact B33.drew
        have ownd : Own wd W1.heap.size (.slice AG (m + 1) cG) (x.ch ++ [Ch.mk 0 ⟨#[]⟩ ⟨#[98, 101, 104, 105, 110, 100]⟩ 0]) := by rw [← hwd]; exact own2.drew
        have hGd : Rd wd wd.heap.size AG x.ch := by rw [← hwd]; exact hG
        have hxd : Rd wd wd.heap.size A' x.ch := by rw [← hwd]; exact hxb
        change wpList _ _ _ _ _ wb.drew
        rw [hwd]
        clear hwd y0 y1 Q1 Q2 B33 own2 hG hxb szb
        have hkp1 : 1 ≤ lg.keep := by have := Q1d.keep_; omega
        have hkp2 : lg.keep ≤ 4096 := by have := Q1d.keep_; omega
        have hms := Q1d.li.most
        go_wp2_with fail
        refine (with_any wd g AL lg Q1d.log (by omega) (by omega) (by omega) x.st AG m cG x.ch HM.out hGd (by omega)).mono ?_
        rintro e w5 ⟨g5, A5, rfl, bel5, hp5, hsep5⟩
        have B335 := B33d.below bel5 B33d.lt
        obtain ⟨x0, x1, x2, x3⟩ := (Q1d.below bel5).cells
        have y0 := B335.cell 0
        have y1 := B335.cell 1
        simp at y0 y1
        go_wp2_with fail
        have hrd5 : Rd w5 w5.heap.size AR lg.L := by
          obtain ⟨A9, c9, e9, _, h9⟩ := (Q1d.below bel5).ref
          injection e9 with e9
          injection e9 with e9
          simp at e9
          rw [e9.1]
          exact h9
        have hcR5 : lg.L.length ≤ cR := by
          obtain ⟨A9, c9, e9, h8, _⟩ := Q1d.ref
          injection e9 with e9
          injection e9 with e9
          simp at e9
          rw [e9.2]
          exact h8
        refine (refWith_any w5 lg AR cR hcR5 hrd5 Q1d.li (by omega) (by omega) x.st A' m c' x.ch HM.out ((hxd.below bel5).more bel5.size) (by omega)).mono ?_
        rintro e w6 ⟨A6, c6, rfl, hc6, hrd6, hsep6, bel6⟩
        obtain ⟨lg2, hlg2⟩ : ∃ lg2, lg.put x.st x.ch = lg2 := ⟨_, rfl⟩
        have hk2' : lg2.keep = keep := by rw [← hlg2, put_keep]; exact Q1d.keep_
        have hli2 : LI lg2 := by rw [← hlg2]; exact Q1d.li.put x.st x.ch hkp1
        rw [hlg2] at hp5 hc6 hrd6
        rw [hlg2]
        have HK2 := Lib.hid hk2'
        have HLG2 := Lib.hid hlg2
        rw [hlg2] at hsep6
        clear hk2' hlg2 x0 x1 x2 x3 y0 y1
        have sz5 := bel5.size
        have sz6 := bel6.size
        have hb56 : Below wd.heap.size wd w6 := bel5.trans (bel6.mono sz5)
        have blk6 := ((Q1d.blk.below bel5 Q1d.blk.lt).below bel6 (Nat.lt_of_lt_of_le Q1d.blk.lt sz5))
        have log6 := hp5.below bel6
        have R2 := Q2d.below hb56
        have own6 := ownd.below_all hb56
        have B336 := B33d.below hb56 B33d.lt
        have hx6 : Rd w6 w6.heap.size A' x.ch := (hxd.below hb56).more hb56.size
        have hb6 : Below w.heap.size w w6 := ((hbel.trans (hab.mono bsz)).trans (bwd.mono (by omega))).trans (hb56.mono (by have := bwd.size; omega))
        obtain ⟨x0, x1, x2, x3⟩ : w6.cell? ⟨w1.heap.size, 0, none⟩ = some (.int .i64 lg.keep) ∧ w6.cell? ⟨w1.heap.size, 1, none⟩ = some (.slice AR lg.L.length cR) ∧ w6.cell? ⟨w1.heap.size, 2, none⟩ = some (.int .i64 lg.hor) ∧ w6.cell? ⟨w1.heap.size, 3, none⟩ = some (.int .i64 lg.last) := by
          have h0 := blk6.cell 0
          have h1 := blk6.cell 1
          have h2 := blk6.cell 2
          have h3 := blk6.cell 3
          simp at h0 h1 h2 h3
          exact ⟨h0, h1, h2, h3⟩
        have f0 := blk6.frozen 0
        have f1 := blk6.frozen 1
        have f2 := blk6.frozen 2
        have f3 := blk6.frozen 3
        have hnd : w1.heap.size ≠ w2.heap.size := hpr.ne
        have bl55 : ∀ {gg : Nat} {AA : Option Addr} {l9 : Lg}, PLogAt w6 gg AA l9 → some gg ≠ some w1.heap.size := fun h9 e => by
          obtain ⟨c9, hb9, _⟩ := h9
          injection e with e
          exact (hb9.ne_ blk6 (by decide)) e
        obtain ⟨w7, hw7⟩ : ∃ w7 : World, (((w6.setCell ⟨w1.heap.size, 0, none⟩ (.int .i64 lg2.keep)).setCell ⟨w1.heap.size, 1, none⟩ (.slice A6 lg2.L.length c6)).setCell ⟨w1.heap.size, 2, none⟩ (.int .i64 lg2.hor)).setCell ⟨w1.heap.size, 3, none⟩ (.int .i64 lg2.last) = w7 := ⟨_, rfl⟩
        have hg67 : w6.grownBy w7 (some w1.heap.size) := by
          rw [← hw7]
          exact only_setCell (only_setCell (only_setCell (only_setCell (World.grownBy.refl _ _) (p := ⟨w1.heap.size, 0, none⟩) rfl _) (p := ⟨w1.heap.size, 1, none⟩) rfl _) (p := ⟨w1.heap.size, 2, none⟩) rfl _) (p := ⟨w1.heap.size, 3, none⟩) rfl _
        have blk7 : Blk w7 w1.heap.size 43 #[.int .i64 lg2.keep, .slice A6 lg2.L.length c6, .int .i64 lg2.hor, .int .i64 lg2.last] := by
          rw [← hw7]
          exact (((blk6.set_ 0 (.int .i64 lg2.keep)).set_ 1 (.slice A6 lg2.L.length c6)).set_ 2 (.int .i64 lg2.hor)).set_ 3 (.int .i64 lg2.last)
        have log7 : PLogAt w7 g5 A5 lg2 := by
          obtain ⟨c9, e1, e2, e3, e4, e5⟩ := id log6
          exact ⟨c9, e1.grown hg67 (bl55 log6), e2, e3, e4, e5.grown hg67 (fun hl a ha e => rd_ne_blk e5 hl blk6 a ha (by injection e))⟩
        have P7 : Pair w7 w1.heap.size g5 A5 A6 c6 keep lg2 := Pair.mk2 blk7 (hrd6.grown hg67 (fun hl a ha e => rd_ne_blk hrd6 hl blk6 a ha (by injection e))) hc6 log7 hli2 HK2.out
        have R7 : Pair w7 w2.heap.size g1 AL1 AR1 cR1 keep lg1 := R2.grown hg67 (fun e => by injection e with e; omega) (bl55 R2.log) (fun hl a ha e => rd_ne_blk R2.log.rd hl blk6 a ha (by injection e)) (fun hl a ha e => rd_ne_blk R2.rd.1 hl blk6 a ha (by injection e))
        have hgGlt0 := ownd.lt
        have own7 := own6.kept hg67 (.inr (own_blk_ne own6 blk6 (by decide)))
        have B337 := B336.grown hg67 (fun e => by injection e with e; exact (B336.ne_ blk6 (by decide)) e)
        have hb7 : Below w.heap.size w w7 := hb6.grown hg67 hb6.size (fun q e => by injection e with e; have := hpr.h7; omega)
        have hx7 : Rd w7 w7.heap.size A' x.ch := (hx2.rd.keep (fun p hp => (hb7.cell hp).trans (hbel.cell hp).symm)).more (by have := hb7.size; omega)
        have HW7 := Lib.hid hw7
        have hszg : W1.heap.size ≤ w7.heap.size := by have h1 := bwd.size; have h2 := hg67.size; omega
        clear hw7 log6 R2 own6 B336 blk6 hrd6 hp5 blk7 bl55
        go_wp2
        rw [HW7.out]
        clear x0 x1 x2 x3 f0 f1 f2 f3
        have hml : m < (x.ch ++ [Ch.mk 0 ⟨#[]⟩ ⟨#[98, 101, 104, 105, 110, 100]⟩ 0]).length := by rw [List.length_append, HM.out]; exact Nat.lt_succ_self m
        obtain ⟨gG, cG2, e, hgG, hgG2, _, hz⟩ := own7.at_ hml
        have hlast : (x.ch ++ [Ch.mk 0 ⟨#[]⟩ ⟨#[98, 101, 104, 105, 110, 100]⟩ 0])[m] = Ch.mk 0 ⟨#[]⟩ ⟨#[98, 101, 104, 105, 110, 100]⟩ 0 := by
          rw [List.getElem_append_right (by rw [HM.out]; exact Nat.le_refl _)]
          simp [HM.out]
        rw [hlast] at hz
        injection e with e1 e2 e3
        subst e1
        have hgGlt : gG < wd.heap.size := (hgGlt0 gG rfl).2
        obtain ⟨_, _, z2, _⟩ := hz
        have hG7 := own7.slice_.2.2.take_ m
        rw [show (x.ch ++ [Ch.mk 0 ⟨#[]⟩ ⟨#[98, 101, 104, 105, 110, 100]⟩ 0]).take m = x.ch from by rw [← HM.out]; simp] at hG7
        have hch : ∀ j : Nat, Calls Try.prog 14 #[.slice (some ⟨gG, 0, none⟩) m cG, .slice A' m c'] (w7.drewN j) fun e w' => e = .returned (.bool true) ∧ ∃ k, w' = (w7.drewN j).drewN k := fun j => by
          have := changes_eq (w7.drewN j) (some ⟨gG, 0, none⟩) A' m cG c' x.ch x.ch HM.out HM.out w7.heap.size hG7 hx7 (by omega)
          rw [(sameL_iff x.ch x.ch).2 rfl] at this
          exact this
        have HCH := Lib.hid hch
        have OWN7 := Lib.hid own7
        have y0 := B337.cell 0
        have y1 := B337.cell 1
        simp at y0 y1
        clear hch hml hlast e2 e3 own7 hG7 hx7 ownd hGd hxd
        have hg7d : ∀ j : Nat, w7.grownBy (w7.drewN j) (some gG) := fun j => ⟨rfl, rfl, rfl, Nat.le_refl _, fun _ _ _ => rfl⟩
        have ne7 : some w1.heap.size ≠ some gG := fun e => own_blk_ne OWN7.out P7.blk (by decide) (by rw [e]; rfl)
        have ne10 : some w2.heap.size ≠ some gG := fun e => own_blk_ne OWN7.out R7.blk (by decide) (by rw [e]; rfl)
        have ne33 : some wo.heap.size ≠ some gG := fun e => own_blk_ne OWN7.out B337 (by decide) (by rw [e]; rfl)
        have hgGd : gG < wd.heap.size := hgGlt
        have hPd := hpr.one
        have hsepA : 0 < lg2.L.length → ∀ a, A5 = some a → some a.block ≠ some gG := fun hl a ha e => by
          injection e with e
          rcases hsep5 with h1 | h1
          · rw [h1] at ha
            obtain ⟨c9, _, _, _, hA0, hrd9⟩ := hPd.log
            rcases Nat.eq_zero_or_pos lg.L.length with h0 | h0
            · rw [hA0 h0] at ha; cases ha
            · obtain ⟨b9, o9, e9, hb9, _⟩ := hrd9 h0
              rw [ha] at e9
              injection e9 with e9
              rw [e9] at e
              simp only at e
              omega
          · have := h1 a ha
            omega
        have hsepR : 0 < lg2.L.length → ∀ a, A6 = some a → some a.block ≠ some gG := fun hl a ha e => by
          injection e with e
          rcases hsep6 with ⟨h1, h2⟩ | h1
          · rw [h1] at ha
            rw [h2] at hl
            obtain ⟨b9, o9, e9, hb9, _⟩ := hPd.rd.1 hl
            rw [ha] at e9
            injection e9 with e9
            rw [e9] at e
            simp only at e
            omega
          · have := h1 a ha
            omega
        have hsep1 : 0 < lg1.L.length → (∀ a, AL1 = some a → some a.block ≠ some gG) ∧ ∀ a, AR1 = some a → some a.block ≠ some gG := fun hl => by
          constructor
          · intro a ha e
            injection e with e
            obtain ⟨b9, o9, e9, hb9, _⟩ := hpr.two.log.rd hl
            rw [ha] at e9
            injection e9 with e9
            rw [e9] at e
            simp only at e
            omega
          · intro a ha e
            injection e with e
            obtain ⟨b9, o9, e9, hb9, _⟩ := hpr.two.rd.1 hl
            rw [ha] at e9
            injection e9 with e9
            rw [e9] at e
            simp only at e
            omega
        have hn55 : ∀ {gg : Nat} {AA : Option Addr} {l9 : Lg}, PLogAt w7 gg AA l9 → some gg ≠ some gG := fun h9 e => by
          obtain ⟨c9, hb9, _⟩ := h9
          exact own_blk_ne OWN7.out hb9 (by decide) (by rw [e]; rfl)
        have hall : ∀ wr : World, w7.grownBy wr (some gG) → Pair wr w1.heap.size g5 A5 A6 c6 keep lg2 ∧ Pair wr w2.heap.size g1 AL1 AR1 cR1 keep lg1 ∧ Blk wr wo.heap.size 33 #[.int .i64 x.st, .slice A' m c', .bool false, .int .i64 x.af, .int .i64 x.lim, .string x.inn] ∧ Below w.heap.size w wr := fun wr hg =>
          ⟨P7.grown hg ne7 (hn55 P7.log) hsepA hsepR, R7.grown hg ne10 (hn55 R7.log) (fun hl => (hsep1 hl).1) (fun hl => (hsep1 hl).2), B337.grown hg ne33, hb7.grown hg hb7.size (fun q e => by injection e with e; omega)⟩
        have HALL := Lib.hid hall
        have HLEN := Lib.hid (show (x.ch ++ [Ch.mk 0 ⟨#[]⟩ ⟨#[98, 101, 104, 105, 110, 100]⟩ 0]).length = m + 1 from by rw [List.length_append, HM.out]; rfl)
        go_quiet ((go_at_call 14; exact Calls.quiet_of (HCH.out _)))
        clear hall hn55 hsep1 hsepR hsepA ne7 ne10 ne33 hPd P7 R7 B337 z2 y0 y1
        have hg7q := hg7d nq
        have OW := OWN7.out.drewN nq
        generalize w7.drewN nq = w8 at hg7q OW ⊢
        go_wp2
        go_loopw [14] (fun i wr => ∃ (q : Nat) (l' : List Ch), q ≤ m + 1 ∧ i = .int .i64 q ∧ l'.length = m + 1 ∧ Own wr W1.heap.size (.slice (some ⟨gG, 0, none⟩) (m + 1) cG) l' ∧ w7.grownBy wr (some gG)) (fun i _ => m + 1 - (intOf i).toNat)
        case atStart => exact ⟨0, _, Nat.zero_le _, rfl, HLEN.out, OW, hg7q⟩
        case round =>
          obtain ⟨q, l', hq, rfl, hl', hown, hgr⟩ := hrel
          have HLL := Lib.hid hl'
          by_cases hlq : q < m + 1
          · have hkl : q < l'.length := by omega
            obtain ⟨gx, cx2, e, hgx, hgx2, hcx2, hz⟩ := hown.at_ hkl
            injection e with e1 e2 e3
            injection e1 with e1
            injection e1 with e1
            subst e1 e3
            generalize l'[q] = y at hz
            obtain ⟨z0, z1, z2, z3⟩ := hz
            clear e2 hcx2
            have f0 := hown.frozenAt (q * 4)
            have f1 := hown.frozenAt (q * 4 + 1)
            have f2 := hown.frozenAt (q * 4 + 2)
            have f3 := hown.frozenAt (q * 4 + 3)
            have hst := hown.storeCh (k := q) hkl ⟨97, ⟨#[]⟩, ⟨#[115, 112, 111, 105, 108, 116]⟩, 0⟩
            have hgr2 := only_setCell (only_setCell (only_setCell (only_setCell (g := gG) hgr (p := ⟨gG, q * 4, none⟩) rfl (.int .i64 97)) (p := ⟨gG, q * 4 + 1, none⟩) rfl (.string ⟨#[]⟩)) (p := ⟨gG, q * 4 + 2, none⟩) rfl (.string ⟨#[115, 112, 111, 105, 108, 116]⟩)) (p := ⟨gG, q * 4 + 3, none⟩) rfl (.int .i64 0)
            have HST := Lib.hid hst
            have HGR := Lib.hid hgr2
            clear hst hgr2 hgr hown hkl hl'
            go_wp2
            go_roundw
            case rel => exact ⟨q + 1, l'.set q ⟨97, ⟨#[]⟩, ⟨#[115, 112, 111, 105, 108, 116]⟩, 0⟩, by omega, by go_num, by rw [List.length_set]; exact HLL.out, HST.out, HGR.out⟩
            case measure => simp [intOf]; omega
          · obtain ⟨P8, R8, B8, hb8⟩ := HALL.out wr hgr
            clear hl' hown
            obtain ⟨x0, x1, x2, x3⟩ := P8.cells
            have y4 := B8.cell 4
            have y5 := B8.cell 5
            simp at y4 y5
            go_wp2_with fail
            refine (P8.asks hk2 0 0 0 false x.inn none 0 0).mono ?_
            rintro e w9 ⟨rfl, bel9⟩
            have P9 := P8.below bel9
            have R9 := R8.below bel9
            have B9 := B8.below bel9 B8.lt
            clear x0 x1 x2 x3 y4 y5
            obtain ⟨x0, x1, x2, x3⟩ := P9.cells
            have y4 := B9.cell 4
            have y5 := B9.cell 5
            simp at y4 y5
            go_wp2_with fail
            refine (P9.asks hk2 0 lg2.hor x.lim false ⟨#[]⟩ none 0 0).mono ?_
            rintro e wA ⟨rfl, belA⟩
            have PA := P9.below belA
            have RA := R9.below belA
            clear x0 x1 x2 x3 y4 y5
            obtain ⟨x0, x1, x2, x3⟩ := PA.cells
            have hbA : Below w.heap.size w wA := (hb8.trans (bel9.mono hb8.size)).trans (belA.mono (Nat.le_trans hb8.size bel9.size))
            by_cases h7 : k % 7 = 3
            · have h7' : ((k : Int) % 7 == 3) = true := by rw [beq_iff_eq]; omega
              have H7 := Lib.hid h7
              clear h7
              obtain ⟨z0, z1, z2, z3⟩ := RA.cells
              have f0 := RA.blk.frozen 0
              have f1 := RA.blk.frozen 1
              have f2 := RA.blk.frozen 2
              have f3 := RA.blk.frozen 3
              obtain ⟨wB, hwB⟩ : ∃ wB : World, (((wA.setCell ⟨w2.heap.size, 0, none⟩ (.int .i64 lg2.keep)).setCell ⟨w2.heap.size, 1, none⟩ (.slice A6 lg2.L.length c6)).setCell ⟨w2.heap.size, 2, none⟩ (.int .i64 lg2.hor)).setCell ⟨w2.heap.size, 3, none⟩ (.int .i64 lg2.last) = wB := ⟨_, rfl⟩
              have hgB : wA.grownBy wB (some w2.heap.size) := by
                rw [← hwB]
                exact only_setCell (only_setCell (only_setCell (only_setCell (World.grownBy.refl _ _) (p := ⟨w2.heap.size, 0, none⟩) rfl _) (p := ⟨w2.heap.size, 1, none⟩) rfl _) (p := ⟨w2.heap.size, 2, none⟩) rfl _) (p := ⟨w2.heap.size, 3, none⟩) rfl _
              have PB : Pair wB w1.heap.size g5 A5 A6 c6 keep lg2 := PA.grown hgB (fun e => by injection e with e; exact hpr.ne e)
                (fun e => by
                  obtain ⟨c9, hb9, _⟩ := PA.log
                  injection e with e
                  exact (hb9.ne_ RA.blk (by decide)) e)
                (fun hl a ha e => rd_ne_blk PA.log.rd hl RA.blk a ha (by injection e)) (fun hl a ha e => rd_ne_blk PA.rd.1 hl RA.blk a ha (by injection e))
              have blkB : Blk wB w2.heap.size 43 #[.int .i64 lg2.keep, .slice A6 lg2.L.length c6, .int .i64 lg2.hor, .int .i64 lg2.last] := by
                rw [← hwB]
                exact (((RA.blk.set_ 0 (.int .i64 lg2.keep)).set_ 1 (.slice A6 lg2.L.length c6)).set_ 2 (.int .i64 lg2.hor)).set_ 3 (.int .i64 lg2.last)
              have QB : Pair wB w2.heap.size g5 A5 A6 c6 keep lg2 := Pair.mk2 blkB PB.rd.1 PB.rd.2 PB.log PB.li PB.keep_
              have hbB : Below w.heap.size w wB := hbA.grown hgB hbA.size (fun q e => by injection e with e; have := hpr.h10; omega)
              have HWB := Lib.hid hwB
              have HPRL := Lib.hid (show PRel w wB.drew w1.heap.size w2.heap.size g5 g5 keep A5 A6 A5 A6 c6 c6 lg2 lg2 from ⟨hbB.drew, ⟨PB.blk, PB.ref, PB.log, PB.li, PB.keep_⟩, ⟨QB.blk, QB.ref, QB.log, QB.li, QB.keep_⟩, hpr.h7, hpr.h10, hpr.ne⟩)
              clear hwB hgB blkB QB PB hbB
              go_wp2
              go_region
              all_goals
                go_wp2
                rw [HWB.out]
                go_roundw
                case rel => exact ⟨k + 1, g5, g5, A5, A6, A5, A6, c6, c6, lg2, lg2, by omega, by go_num, rfl, rfl, HPRL.out⟩
                case measure => simp [intOf]; omega
            · have h7' : ((k : Int) % 7 == 3) = false := by rw [beq_eq_false_iff_ne]; omega
              clear h7
              go_wp2
              go_roundw
              case rel => exact ⟨k + 1, g5, g1, A5, A6, AL1, AR1, c6, cR1, lg2, lg1, by omega, by go_num, rfl, rfl, ⟨hbA, PA, RA, hpr.h7, hpr.h10, hpr.ne⟩⟩
              case measure => simp [intOf]; omega
      · rw [hask] at y2 hW1 hB1
        have HW1 := Lib.hid hW1
        clear hW1 hask
        go_wp2_with fail
        rw [HW1.out]
        clear x0 x1 x2 x3 y0 y1 y2 y3 y4 y5 z0 z1 z2 z3
        refine (P1.asks hk2 x.st x.af x.lim true x.inn A' m c').mono ?_
        rintro e w5 ⟨rfl, bel5⟩
        have P25 := P2.below bel5
        obtain ⟨z0, z1, z2, z3⟩ := P25.cells
        have hB5 := hB1.below bel5 hsz1
        have y0 := hB5.cell 0
        have y1 := hB5.cell 1
        have y2 := hB5.cell 2
        have y3 := hB5.cell 3
        have y4 := hB5.cell 4
        have y5 := hB5.cell 5
        simp at y0 y1 y2 y3 y4 y5
        go_wp2_with fail
        refine (P25.asks hk2 x.st x.af x.lim true x.inn A' m c').mono ?_
        rintro e w6 ⟨rfl, bel6⟩
        have hpr6 : PRel w w6 w1.heap.size w2.heap.size g g1 keep AL AR AL1 AR1 cR cR1 lg lg1 := by
          have h1 := hab.size
          have h2 := bel5.size
          exact ⟨(hbel.trans (hab.mono bsz)).trans ((bel5.mono (by omega)).trans (bel6.mono (by omega))), ((hpr.one.below hab).below bel5).below bel6, P25.below bel6, hpr.h7, hpr.h10, hpr.ne⟩
        clear y0 y1 y2 y3 y4 y5 z0 z1 z2 z3
        go_wp2
        go_roundw
        case rel => exact ⟨k + 1, g, g1, AL, AR, AL1, AR1, cR, cR1, lg, lg1, by omega, by go_num, rfl, rfl, hpr6⟩
        case measure => simp [intOf]; omega
    · go_wp2_with fail
      refine (hpr.two.asks hk2 0 lg1.hor 0 false .empty none 0 0).mono ?_
      rintro e w6 ⟨rfl, bel6⟩
      go_wp2
      go_ret
      exact ⟨rfl, hbel.trans (bel6.mono bsz)⟩
end Go.Proofs.Ytjdhmagkgoghpaa
