/- The document's With: the log with the changes behind the others. -/
import Derived.Test.YtjdhmagkgoghpaaFew
import Derived.Test.YtjdhmagkgoghpaaApp
import Derived.Test.YtjdhmagkgoghpaaFi
import Derived.Test.YtjdhmagkgoghpaaAfter
import Derived.Deep.DeepMust
import Derived.Deep.LoopGhost
namespace Go.Proofs.Ytjdhmagkgoghpaa
set_option linter.unusedVariables false
open Go.RowKit
/-- a log whose stamps stand right -/
structure LI (l : Lg) : Prop where
  rises : Rises l.L
  hor_le : ∀ c ∈ l.L, l.hor ≤ c.s
  le_last : ∀ c ∈ l.L, c.s ≤ l.last
  hor_last : l.hor ≤ l.last
  most : l.L.length ≤ l.keep
/-- the horizon behind i changes that went -/
def horAt (T : List Ch) (hor : Int) (i : Nat) : Int := if i = 0 then hor else (T[i - 1]?.map Ch.s).getD 0
theorem horAt_zero (T : List Ch) (hor : Int) : horAt T hor 0 = hor := rfl
theorem horAt_succ (T : List Ch) (hor : Int) (i : Nat) (h : i < T.length) : horAt T hor (i + 1) = (T[i]).s := by
  unfold horAt
  rw [if_neg (by omega), Nat.add_sub_cancel, List.getElem?_eq_getElem h]
  rfl
theorem horAt_le (T : List Ch) (hor : Int) (hT : Rises T) (h0 : ∀ c ∈ T, hor ≤ c.s) (i : Nat) (h : i < T.length) : horAt T hor i ≤ (T[i]).s := by
  cases i with
  | zero => exact h0 _ (List.getElem_mem _)
  | succ i =>
    rw [horAt_succ T hor i (by omega)]
    exact List.pairwise_iff_getElem.1 hT i (i + 1) (by omega) h (by omega)
theorem RW.cells {w wr : World} {keep : Nat} {A : Option Addr} {c : Nat} {l : List Ch} {hor last : Int} (b3 : Blk wr w.heap.size 43 #[.int .i64 keep, .slice A l.length c, .int .i64 hor, .int .i64 last]) :
    wr.cell? ⟨w.heap.size, 0, none⟩ = some (.int .i64 keep) ∧ wr.cell? ⟨w.heap.size, 1, none⟩ = some (.slice A l.length c) ∧ wr.cell? ⟨w.heap.size, 2, none⟩ = some (.int .i64 hor) ∧ wr.cell? ⟨w.heap.size, 3, none⟩ = some (.int .i64 last) ∧
      wr.frozen? ⟨w.heap.size, 1, none⟩ = false ∧ wr.frozen? ⟨w.heap.size, 2, none⟩ = false ∧ wr.frozen? ⟨w.heap.size, 3, none⟩ = false := by
  have h0 := b3.cell 0
  have h1 := b3.cell 1
  have h2 := b3.cell 2
  have h3 := b3.cell 3
  simp at h0 h1 h2 h3
  exact ⟨h0, h1, h2, h3, b3.frozen 1, b3.frozen 2, b3.frozen 3⟩
theorem stamp_s {s : Int} {cs : List Ch} {c : Ch} (hc : c ∈ stampAll s cs) : c.s = s := by
  simp only [stampAll, List.mem_map] at hc
  obtain ⟨x, _, rfl⟩ := hc
  rfl
structure RW (w wr : World) (keep : Nat) (A : Option Addr) (c : Nat) (l : List Ch) (hor last : Int) : Prop where
  bel : Below w.heap.size w wr
  b3 : Blk wr w.heap.size 43 #[.int .i64 keep, .slice A l.length c, .int .i64 hor, .int .i64 last]
  b6 : Blk wr (w.heap.size + 1) 43 #[.int .i64 0, .slice none 0 0, .int .i64 0, .int .i64 0]
  own : Own wr (w.heap.size + 2) (.slice A l.length c) l
def RefWithPost (w : World) (A0 : Option Addr) (l0 l : Lg) (e : Ending) (w' : World) : Prop :=
  ∃ A c, e = .returned (.agg #[.int .i64 l.keep, .slice A l.L.length c, .int .i64 l.hor, .int .i64 l.last]) ∧ l.L.length ≤ c ∧ Rd w' w'.heap.size A l.L ∧ ((A = A0 ∧ l = l0) ∨ ∀ a, A = some a → w.heap.size ≤ a.block) ∧ Below w.heap.size w w'
set_option maxRecDepth 100000 in
set_option maxHeartbeats 8000000 in
theorem refWith_main (w : World) (keep : Nat) (last hor s : Int) (A : Option Addr) (n c : Nat) (L cs : List Ch)
   (hL : L.length = n) (hRd : Rd w w.heap.size A L) (C : Option Addr) (m d : Nat) (hcs : cs.length = m) (hC : Rd w w.heap.size C cs) (hs : last < s) (hm : 0 < m) (hkeep : 1 ≤ keep) (hkeep' : keep ≤ 4096) (hn : n ≤ 4096) (hm' : m ≤ 2097152)
   (hli : LI ⟨keep, L, last, hor⟩) :
    Calls Try.prog 17 #[.agg #[.int .i64 keep, .slice A n c, .int .i64 hor, .int .i64 last], .int .i64 s, .slice C m d] w (RefWithPost w A ⟨keep, L, last, hor⟩ (Lg.put ⟨keep, L, last, hor⟩ s cs)) := by
  have HL := Lib.hid hL
  clear hL
  have HC := Lib.hid hcs
  clear hcs
  have HLI := Lib.hid hli
  clear hli
  have hm0 : ((m : Int) == 0) = false := by rw [beq_eq_false_iff_ne]; omega
  go_enter Try.func17, Try.ntmps17
  have r1 := Own.empty (base := w.heap.size + 2) ((w.alloc (.cells #[.int .i64 keep, .slice A n c, .int .i64 hor, .int .i64 last] 43)).alloc (.cells #[.int .i64 0, .slice none 0 0, .int .i64 0, .int .i64 0] 43)) (by simp) (w.heap.size + 1 + 1) (by simp)
  have r2 := ((hRd.alloc (Nat.le_refl _) (.cells #[.int .i64 keep, .slice A n c, .int .i64 hor, .int .i64 last] 43)).alloc (by simp) (.cells #[.int .i64 0, .slice none 0 0, .int .i64 0, .int .i64 0] 43)).alloc (by simp <;> omega) (.cells #[] 36)
  have b3 := ((Blk.new w 43 #[.int .i64 keep, .slice A n c, .int .i64 hor, .int .i64 last]).alloc (.cells #[.int .i64 0, .slice none 0 0, .int .i64 0, .int .i64 0] 43)).alloc (.cells #[] 36)
  have b6 := (Blk.new (w.alloc (.cells #[.int .i64 keep, .slice A n c, .int .i64 hor, .int .i64 last] 43)) 43 #[.int .i64 0, .slice none 0 0, .int .i64 0, .int .i64 0]).alloc (.cells #[] 36)
  have hbw := (((Below.refl w.heap.size w).alloc (Nat.le_refl _) (.cells #[.int .i64 keep, .slice A n c, .int .i64 hor, .int .i64 last] 43)).alloc (by simp) (.cells #[.int .i64 0, .slice none 0 0, .int .i64 0, .int .i64 0] 43)).alloc (by simp <;> omega) (.cells #[] 36)
  go_wp2_with (at_builtin; go_must (refine wpList_own _ rfl (.tmp 19) (.tmp 21) rfl (w.heap.size + 2) (.slice (some ⟨w.heap.size + 1 + 1, 0, none⟩) 0 0) [] rfl r1 (by simp <;> omega) _ A n c L rfl HL.out r2 (by simp <;> omega) ?_; intro v' w1 hown1 hg hat; rw [List.nil_append] at hown1; obtain ⟨A1, c1, rfl, hc1, hrd1⟩ := hown1.rd; have b3g := b3.grown hg (by simp [Value.ownBlock] <;> omega); have b6g := b6.grown hg (by simp [Value.ownBlock] <;> omega); have hbg := hbw.grown hg (by simp <;> omega) (by simp [Value.ownBlock] <;> omega); have g1 := b3g.cell 1; have g1f := b3g.frozen 1; simp at g1 g1f))
  have hown2 := hown1.setOther (p := ⟨w.heap.size, 1, none⟩) (fun e => by have := (hown1.lt _ e).1; simp at this; omega) (.slice A1 L.length c1)
  have hne6 : (w.alloc (.cells #[.int .i64 keep, .slice A n c, .int .i64 hor, .int .i64 last] 43)).heap.size = w.heap.size + 1 := by simp
  rw [hne6] at b6g
  have b62 := b6g.far (p := ⟨w.heap.size, 1, none⟩) (by simp) (.slice A1 L.length c1)
  have b32 := b3g.set_ 1 (.slice A1 L.length c1)
  have hbg2 := hbg.setCell (p := ⟨w.heap.size, 1, none⟩) (Nat.le_refl _) (.slice A1 L.length c1)
  have hrw : RW w (w1.setCell ⟨w.heap.size, 1, none⟩ (.slice A1 L.length c1)) keep A1 c1 L hor last := ⟨hbg2, b32, b62, hown2⟩
  generalize w1.setCell ⟨w.heap.size, 1, none⟩ (.slice A1 L.length c1) = w2 at hrw ⊢
  clear hown2 b62 b32 hbg2 g1 g1f b3g b6g hbg hg hat hown1 hrd1 b3 b6 r1 r2 hbw hne6 hRd
  go_loopw [7] (fun i wr => ∃ (k : Nat) (A' : Option Addr) (c' : Nat) (l : List Ch), k ≤ m ∧ i = .int .i64 k ∧ l = L ++ stampAll s (cs.take k) ∧ RW w wr keep A' c' l hor last) (fun i _ => m - (intOf i).toNat)
  case atStart => exact ⟨0, A1, c1, L, Nat.zero_le _, rfl, by simp [stampAll], hrw⟩
  case round =>
    obtain ⟨k, A', c', l, hk, rfl, hl, hrw⟩ := hrel
    have HLL := Lib.hid hl
    clear hl
    obtain ⟨g0, g1, g2, g3, f1, f2, f3⟩ := RW.cells hrw.b3
    have bsz := hrw.bel.size
    have s6 := hrw.b6.lt
    have s3 := hrw.b3.lt
    have hll : l.length ≤ n + m := by rw [HLL.out, List.length_append, stampAll_length, List.length_take, HL.out]; omega
    by_cases hlt : k < m
    · have hkc : k < cs.length := by have := HC.out; omega
      obtain ⟨b, off, rfl, hb, hx⟩ := hC (by omega)
      obtain ⟨y, hy⟩ : ∃ y, cs[k] = y := ⟨_, rfl⟩
      have hY := hx k hkc
      rw [hy] at hY
      obtain ⟨p0, p1, p2, p3⟩ := hY
      have HST := Lib.hid (stamp_snoc s cs k hkc y hy)
      clear hy
      have q0 := (hrw.bel.cell (p := ⟨b, _, none⟩) hb).trans p0
      have q1 := (hrw.bel.cell (p := ⟨b, _, none⟩) hb).trans p1
      have q2 := (hrw.bel.cell (p := ⟨b, _, none⟩) hb).trans p2
      have q3 := (hrw.bel.cell (p := ⟨b, _, none⟩) hb).trans p3
      clear p0 p1 p2 p3 hx
      have r1 := (hrw.own.alloc (.cells #[.int .i64 s, .string y.c, .string y.i, .int .i64 y.k] 36)).alloc (.cells #[.int .i64 s, .string y.c, .string y.i, .int .i64 y.k] 36)
      have r2 := Rd.one (wr.alloc (.cells #[.int .i64 s, .string y.c, .string y.i, .int .i64 y.k] 36)) (wr.heap.size + 1) (by simp) s y.c y.i y.k
      have b3 := (hrw.b3.alloc (.cells #[.int .i64 s, .string y.c, .string y.i, .int .i64 y.k] 36)).alloc (.cells #[.int .i64 s, .string y.c, .string y.i, .int .i64 y.k] 36)
      have b6 := (hrw.b6.alloc (.cells #[.int .i64 s, .string y.c, .string y.i, .int .i64 y.k] 36)).alloc (.cells #[.int .i64 s, .string y.c, .string y.i, .int .i64 y.k] 36)
      have hbw := (hrw.bel.alloc bsz (.cells #[.int .i64 s, .string y.c, .string y.i, .int .i64 y.k] 36)).alloc (by simp <;> omega) (.cells #[.int .i64 s, .string y.c, .string y.i, .int .i64 y.k] 36)
      have n3 := own_blk_ne r1 b3 (by decide)
      have n6 := own_blk_ne r1 b6 (by decide)
      go_wp2_with (at_builtin; go_must (refine wpList_own _ rfl (.tmp 37) (.tmp 39) rfl (w.heap.size + 2) (.slice A' l.length c') l rfl r1 (by simp <;> omega) _ (some ⟨wr.heap.size + 1, 0, none⟩) 1 1 [⟨s, y.c, y.i, y.k⟩] rfl rfl r2 (by omega) ?_; intro v' w1 hown1 hg hat; obtain ⟨A1, c1, rfl, hc1, hrd1⟩ := hown1.rd; have b3g := b3.grown hg (fun e => n3 e.symm); have g1 := b3g.cell 1; have g1f := b3g.frozen 1; simp at g1 g1f))
      have b6g := b6.grown hg (fun e => n6 e.symm)
      have hbg := bel_grown hbw hg (by simp <;> omega) r1 (by omega)
      have hown2 := hown1.setOther (p := ⟨w.heap.size, 1, none⟩) (fun e => by have := (hown1.lt _ e).1; simp at this; omega) (.slice A1 (l ++ [Ch.mk s y.c y.i y.k]).length c1)
      have b62 := b6g.far (p := ⟨w.heap.size, 1, none⟩) (by simp) (.slice A1 (l ++ [Ch.mk s y.c y.i y.k]).length c1)
      have b32 := b3g.set_ 1 (.slice A1 (l ++ [Ch.mk s y.c y.i y.k]).length c1)
      have hrw2 : RW w (w1.setCell ⟨w.heap.size, 1, none⟩ (.slice A1 (l ++ [Ch.mk s y.c y.i y.k]).length c1)) keep A1 c1 (l ++ [Ch.mk s y.c y.i y.k]) hor last := ⟨hbg.setCell (p := ⟨w.heap.size, 1, none⟩) (Nat.le_refl _) _, b32, b62, hown2⟩
      rw [show (l ++ [Ch.mk s y.c y.i y.k]).length = l.length + 1 by simp] at hrw2
      have HRW2 := Lib.hid hrw2
      clear hrw2 b32 b62 hown2 hbg b6g b3g g1 g1f hrd1 hc1 hown1 hg hat n3 n6 hbw b3 b6 r1 r2 q0 q1 q2 q3
      go_roundw
      case rel => exact ⟨k + 1, A1, c1, l ++ [Ch.mk s y.c y.i y.k], by omega, by go_num, by rw [HST.out, ← List.append_assoc, ← HLL.out], HRW2.out⟩
      case measure => simp [intOf]; omega
    · rw [show cs.take k = cs from List.take_of_length_le (by have := HC.out; omega)] at HLL
      obtain ⟨T, hT⟩ : ∃ T, L ++ stampAll s cs = T := ⟨_, rfl⟩
      have hlT : l = T := HLL.out.trans hT
      subst hlT
      have hTl : l.length = n + m := by rw [← hT, List.length_append, stampAll_length, HL.out, HC.out]
      have HT := Lib.hid hT
      have hli := HLI.out
      have hrT : Rises l := by
        rw [← hT]
        unfold Rises
        rw [List.pairwise_append]
        refine ⟨hli.rises, ?_, fun a ha b hb => ?_⟩
        · rw [List.pairwise_iff_getElem]
          intro i j hi hj hij
          rw [stamp_s (List.getElem_mem hi), stamp_s (List.getElem_mem hj)]
          exact Int.le_refl _
        · have h5 : a.s ≤ last := hli.le_last a ha
          rw [stamp_s hb]
          omega
      have hhT : ∀ c ∈ l, hor ≤ c.s := by
        intro c hc
        rw [← hT, List.mem_append] at hc
        rcases hc with hc | hc
        · exact hli.hor_le c hc
        · have h5 : hor ≤ last := hli.hor_last
          rw [stamp_s hc]; omega
      have hle := horAt_le l hor hrT hhT
      have HLE := Lib.hid hle
      have HTL := Lib.hid hTl
      clear hT hTl hli hrT hhT hle hll
      go_wp2
      have hrw1 : RW w (wr.setCell ⟨w.heap.size, 3, none⟩ (.int .i64 s)) keep A' c' l (horAt l hor 0) s :=
        ⟨hrw.bel.setCell (p := ⟨w.heap.size, 3, none⟩) (Nat.le_refl _) _, hrw.b3.set_ 3 _, hrw.b6.far (p := ⟨w.heap.size, 3, none⟩) (by simp) _, hrw.own.setOther (p := ⟨w.heap.size, 3, none⟩) (fun e => by have := (hrw.own.lt _ e).1; simp at this; omega) _⟩
      generalize wr.setCell ⟨w.heap.size, 3, none⟩ (.int .i64 s) = w2 at hrw1 ⊢
      clear hrw g0 g1 g2 g3 f1 f2 f3 bsz s6 s3
      go_loopg [] (n + m) (fun gh wr => ∃ (r : Nat) (A' : Option Addr) (c' : Nat) (D : List Ch), gh = n + m - r ∧ r ≤ n + m - keep ∧ D = l.drop r ∧ RW w wr keep A' c' D (horAt l hor r) s)
      case atStart => exact ⟨0, A', c', l, rfl, Nat.zero_le _, rfl, hrw1⟩
      case round =>
        obtain ⟨r, A', c', D, rfl, hr, hD, hrw⟩ := hrel
        obtain ⟨g0, g1, g2, g3, f1, f2, f3⟩ := RW.cells hrw.b3
        have bsz := hrw.bel.size
        have s6 := hrw.b6.lt
        have s3 := hrw.b3.lt
        have hdl : D.length = n + m - r := by rw [hD, List.length_drop, HTL.out]
        have HDD := Lib.hid hD
        have HDL := Lib.hid hdl
        obtain ⟨dl, hdl2⟩ : ∃ dl, D.length = dl := ⟨_, rfl⟩
        have hdle : dl = n + m - r := by rw [← hdl2, hdl]
        rw [hdl2] at g1
        have HDL2 := Lib.hid hdl2
        have HDE := Lib.hid hdle
        have hd1 : dl ≤ n + m - r := by omega
        have hd2 : n + m - r ≤ dl := by omega
        clear hdl hdl2 hdle hD
        by_cases hgt : keep < dl
        · have hDpos : 0 < D.length := by have := HDL2.out; omega
          obtain ⟨ga, ca, e, hga, hga', hca, hz⟩ := hrw.own.at_ hDpos
          injection e with e1 e2 e3
          subst e1 e3
          obtain ⟨z, hzz⟩ : ∃ z, D[0] = z := ⟨_, rfl⟩
          rw [hzz, Nat.zero_mul] at hz
          have z0 := hz.1
          have HCA : dl ≤ c' := by have := HDL2.out; omega
          have hrl : r < l.length := by have := HTL.out; omega
          have hzr : l[r] = z := by
            have h5 : D[0]? = some z := by rw [List.getElem?_eq_getElem hDpos, hzz]
            rw [HDD.out, List.getElem?_drop, Nat.add_zero, List.getElem?_eq_getElem hrl] at h5
            injection h5
          have hhs := horAt_succ l hor r hrl
          rw [hzr] at hhs
          have hhl := HLE.out r hrl
          rw [hzr] at hhl
          have hrd0 := hrw.own.rd
          have HHS := Lib.hid hhs
          clear hz hzz e2 hhs hca
          obtain ⟨hr0, hhr0⟩ : ∃ q, horAt l hor r = q := ⟨_, rfl⟩
          rw [hhr0] at hrw g2 hhl
          have hlen1 : (D.drop 1).length = dl - 1 := by rw [List.length_drop, HDL2.out]
          have HLEN1 := Lib.hid hlen1
          clear hlen1
          by_cases hbig : hr0 < z.s
          · have hd : decide (hr0 < z.s) = true := by simp; exact hbig
            go_wp2
            go_quiet (fail)
            have hrwq : RW w (wr.drewN nq) keep (some ⟨ga, 0, none⟩) c' D hr0 s := ⟨bel_drewN hrw.bel nq, hrw.b3.drewN nq, hrw.b6.drewN nq, hrw.own.drewN nq⟩
            replace z0 : (wr.drewN nq).cell? ⟨ga, 0, none⟩ = some (.int .i64 z.s) := z0
            have hsq : wr.heap.size = (wr.drewN nq).heap.size := rfl
            clear g0 g1 g2 g3 f1 f2 f3 hrw hrd0
            rw [hsq] at bsz s6 s3 hga'
            clear hsq
            generalize wr.drewN nq = wq at hrwq z0 bsz s6 s3 hga' ⊢
            obtain ⟨g0, g1, g2, g3, f1, f2, f3⟩ := RW.cells hrwq.b3
            rw [HDL2.out] at g1
            have hrwh : RW w (wq.setCell ⟨w.heap.size, 2, none⟩ (.int .i64 z.s)) keep (some ⟨ga, 0, none⟩) c' D z.s s := ⟨hrwq.bel.setCell (p := ⟨w.heap.size, 2, none⟩) (Nat.le_refl _) _, hrwq.b3.set_ 2 _, hrwq.b6.far (p := ⟨w.heap.size, 2, none⟩) (by simp) _, hrwq.own.setOther (p := ⟨w.heap.size, 2, none⟩) (fun e => by have := (hrwq.own.lt _ e).1; simp at this; omega) _⟩
            have hsw : (wq.setCell ⟨w.heap.size, 2, none⟩ (.int .i64 z.s)).heap.size = wq.heap.size := by simp [World.setCell]
            have r1 := Own.empty (base := w.heap.size + 2) (wq.setCell ⟨w.heap.size, 2, none⟩ (.int .i64 z.s)) (by rw [hsw]; omega) wq.heap.size hsw.symm
            have r2 : Rd ((wq.setCell ⟨w.heap.size, 2, none⟩ (.int .i64 z.s)).alloc (.cells #[] 36)) wq.heap.size (some ⟨ga, 4, none⟩) (D.drop 1) := by
              have h5 := (hrwh.own.slice_.2.2.alloc (Nat.le_refl _) (.cells #[] 36)).drop_ 1
              rw [hsw] at h5
              simpa using h5
            have b3 := hrwh.b3.alloc (.cells #[] 36)
            have b6 := hrwh.b6.alloc (.cells #[] 36)
            have hbw := hrwh.bel.alloc (by rw [hsw]; exact bsz) (.cells #[] 36)
            have n3 := own_blk_ne r1 b3 (by decide)
            have n6 := own_blk_ne r1 b6 (by decide)
            have hsw2 : w.heap.size + 2 ≤ ((wq.setCell ⟨w.heap.size, 2, none⟩ (.int .i64 z.s)).alloc (.cells #[] 36)).heap.size := by simp <;> omega
            have hbs2 : w.heap.size ≤ ((wq.setCell ⟨w.heap.size, 2, none⟩ (.int .i64 z.s)).alloc (.cells #[] 36)).heap.size := by omega
            clear hsw
            go_wp2_with (at_builtin; go_must (refine wpList_own _ rfl (.tmp 64) (.tmp 67) rfl (w.heap.size + 2) (.slice (some ⟨wq.heap.size, 0, none⟩) 0 0) [] rfl r1 hsw2 _ (some ⟨ga, 4, none⟩) (dl - 1) (c' - 1) (D.drop 1) rfl HLEN1.out r2 (by simp <;> omega) ?_; intro v' w1 hown1 hg hat; rw [List.nil_append] at hown1; obtain ⟨A1, c1, rfl, hc1, hrd1⟩ := hown1.rd; rw [HLEN1.out]; have b3g := b3.grown hg (fun e => n3 e.symm); have k1 := b3g.cell 1; have k1f := b3g.frozen 1; simp at k1 k1f))
            have b6g := b6.grown hg (fun e => n6 e.symm)
            have hbg := bel_grown hbw hg hbs2 r1 (by omega)
            have hown1' : Own w1 (w.heap.size + 2) (.slice A1 (dl - 1) c1) (D.drop 1) := by rw [← HLEN1.out]; exact hown1
            have hown2 := hown1'.setOther (p := ⟨w.heap.size, 1, none⟩) (fun e => by have := (hown1'.lt _ e).1; simp at this; omega) (.slice A1 (dl - 1) c1)
            have b62 := b6g.far (p := ⟨w.heap.size, 1, none⟩) (by simp) (.slice A1 (dl - 1) c1)
            have b32 := b3g.set_ 1 (.slice A1 (dl - 1) c1)
            have hrw2 : RW w (w1.setCell ⟨w.heap.size, 1, none⟩ (.slice A1 (dl - 1) c1)) keep A1 c1 (D.drop 1) z.s s := ⟨hbg.setCell (p := ⟨w.heap.size, 1, none⟩) (Nat.le_refl _) _, by rw [HLEN1.out]; exact b32, b62, by rw [HLEN1.out]; exact hown2⟩
            have HRW2 := Lib.hid hrw2
            clear hrw2 b32 b62 hown2 hown1' hbg b6g b3g k1 k1f hrd1 hc1 hown1 hg hat n3 n6 hbw b3 b6 r1 r2
            go_roundg (n + m - (r + 1))
            case measure => omega
            case rel => exact ⟨r + 1, A1, c1, D.drop 1, rfl, by have := HTL.out; omega, by rw [HDD.out, List.drop_drop, Nat.add_comm], by rw [HHS.out]; exact HRW2.out⟩
          · have hd : decide (hr0 < z.s) = false := by simp; omega
            go_wp2
            go_quiet (fail)
            have hrwq : RW w (wr.drewN nq) keep (some ⟨ga, 0, none⟩) c' D hr0 s := ⟨bel_drewN hrw.bel nq, hrw.b3.drewN nq, hrw.b6.drewN nq, hrw.own.drewN nq⟩
            replace z0 : (wr.drewN nq).cell? ⟨ga, 0, none⟩ = some (.int .i64 z.s) := z0
            have hsq : wr.heap.size = (wr.drewN nq).heap.size := rfl
            clear g0 g1 g2 g3 f1 f2 f3 hrw hrd0
            rw [hsq] at bsz s6 s3 hga'
            clear hsq
            generalize wr.drewN nq = wq at hrwq z0 bsz s6 s3 hga' ⊢
            obtain ⟨g0, g1, g2, g3, f1, f2, f3⟩ := RW.cells hrwq.b3
            rw [HDL2.out] at g1
            have hrwh : RW w wq keep (some ⟨ga, 0, none⟩) c' D z.s s := by rw [show z.s = hr0 from by omega]; exact hrwq
            have hsw : wq.heap.size = wq.heap.size := rfl
            have r1 := Own.empty (base := w.heap.size + 2) wq (by rw [hsw]; omega) wq.heap.size hsw.symm
            have r2 : Rd (wq.alloc (.cells #[] 36)) wq.heap.size (some ⟨ga, 4, none⟩) (D.drop 1) := by
              have h5 := (hrwh.own.slice_.2.2.alloc (Nat.le_refl _) (.cells #[] 36)).drop_ 1
              rw [hsw] at h5
              simpa using h5
            have b3 := hrwh.b3.alloc (.cells #[] 36)
            have b6 := hrwh.b6.alloc (.cells #[] 36)
            have hbw := hrwh.bel.alloc (by rw [hsw]; exact bsz) (.cells #[] 36)
            have n3 := own_blk_ne r1 b3 (by decide)
            have n6 := own_blk_ne r1 b6 (by decide)
            have hsw2 : w.heap.size + 2 ≤ (wq.alloc (.cells #[] 36)).heap.size := by simp <;> omega
            have hbs2 : w.heap.size ≤ (wq.alloc (.cells #[] 36)).heap.size := by omega
            clear hsw
            go_wp2_with (at_builtin; go_must (refine wpList_own _ rfl (.tmp 64) (.tmp 67) rfl (w.heap.size + 2) (.slice (some ⟨wq.heap.size, 0, none⟩) 0 0) [] rfl r1 hsw2 _ (some ⟨ga, 4, none⟩) (dl - 1) (c' - 1) (D.drop 1) rfl HLEN1.out r2 (by simp <;> omega) ?_; intro v' w1 hown1 hg hat; rw [List.nil_append] at hown1; obtain ⟨A1, c1, rfl, hc1, hrd1⟩ := hown1.rd; rw [HLEN1.out]; have b3g := b3.grown hg (fun e => n3 e.symm); have k1 := b3g.cell 1; have k1f := b3g.frozen 1; simp at k1 k1f))
            have b6g := b6.grown hg (fun e => n6 e.symm)
            have hbg := bel_grown hbw hg hbs2 r1 (by omega)
            have hown1' : Own w1 (w.heap.size + 2) (.slice A1 (dl - 1) c1) (D.drop 1) := by rw [← HLEN1.out]; exact hown1
            have hown2 := hown1'.setOther (p := ⟨w.heap.size, 1, none⟩) (fun e => by have := (hown1'.lt _ e).1; simp at this; omega) (.slice A1 (dl - 1) c1)
            have b62 := b6g.far (p := ⟨w.heap.size, 1, none⟩) (by simp) (.slice A1 (dl - 1) c1)
            have b32 := b3g.set_ 1 (.slice A1 (dl - 1) c1)
            have hrw2 : RW w (w1.setCell ⟨w.heap.size, 1, none⟩ (.slice A1 (dl - 1) c1)) keep A1 c1 (D.drop 1) z.s s := ⟨hbg.setCell (p := ⟨w.heap.size, 1, none⟩) (Nat.le_refl _) _, by rw [HLEN1.out]; exact b32, b62, by rw [HLEN1.out]; exact hown2⟩
            have HRW2 := Lib.hid hrw2
            clear hrw2 b32 b62 hown2 hown1' hbg b6g b3g k1 k1f hrd1 hc1 hown1 hg hat n3 n6 hbw b3 b6 r1 r2
            go_roundg (n + m - (r + 1))
            case measure => omega
            case rel => exact ⟨r + 1, A1, c1, D.drop 1, rfl, by have := HTL.out; omega, by rw [HDD.out, List.drop_drop, Nat.add_comm], by rw [HHS.out]; exact HRW2.out⟩
        · have e0 := hrw.b6.cell 0
          have e1 := hrw.b6.cell 1
          have e2 := hrw.b6.cell 2
          have e3 := hrw.b6.cell 3
          have ef0 := hrw.b6.frozen 0
          have ef1 := hrw.b6.frozen 1
          have ef2 := hrw.b6.frozen 2
          have ef3 := hrw.b6.frozen 3
          simp at e0 e1 e2 e3
          go_wp2
          have hre : r = n + m - keep := by have := HDE.out; omega
          have hput : Lg.put ⟨keep, L, last, hor⟩ s cs = ⟨keep, D, s, horAt l hor r⟩ := by
            have hTe := HT.out
            have hle := HL.out
            have hce := HC.out
            by_cases hfit : n + m ≤ keep
            · rw [put_fits _ s cs hs (by rw [hce]; exact hm) (by show L.length + cs.length ≤ keep; rw [hle, hce]; exact hfit)]
              have hr0 : r = 0 := by omega
              rw [HDD.out, hr0, hTe, horAt_zero]
              rfl
            · have hx : (L ++ stampAll s cs)[L.length + cs.length - keep - 1]? = some (l[n + m - keep - 1]'(by have := HTL.out; omega)) := by
                rw [hle, hce, hTe]; exact List.getElem?_eq_getElem _
              rw [put_goes _ s cs hs (by rw [hce]; exact hm) (by show keep < L.length + cs.length; rw [hle, hce]; omega) _ hx]
              show Lg.mk keep (List.drop (L.length + cs.length - keep) (L ++ stampAll s cs)) s _ = _
              have hh := horAt_succ l hor (n + m - keep - 1) (by have := HTL.out; omega)
              rw [show n + m - keep - 1 + 1 = r from by omega] at hh
              rw [hle, hce, hTe, HDD.out, hre, ← hh, hre]
          rw [hput]
          have hb6 := (((hrw.b6.set_ 0 (.int .i64 keep)).set_ 1 (.slice A' dl c')).set_ 2 (.int .i64 (horAt l hor r))).set_ 3 (.int .i64 s)
          have hbel := (((hrw.bel.setCell (p := ⟨w.heap.size + 1, 0, none⟩) (by simp) (.int .i64 keep)).setCell (p := ⟨w.heap.size + 1, 1, none⟩) (by simp) (.slice A' dl c')).setCell (p := ⟨w.heap.size + 1, 2, none⟩) (by simp) (.int .i64 (horAt l hor r))).setCell (p := ⟨w.heap.size + 1, 3, none⟩) (by simp) (.int .i64 s)
          have hne : ∀ x, (Value.slice A' D.length c').ownBlock = some x → x ≠ w.heap.size + 1 := fun x e => by have := (hrw.own.lt _ e).1; omega
          have hown := (((hrw.own.setOther (p := ⟨w.heap.size + 1, 0, none⟩) (fun e => hne _ e rfl) (.int .i64 keep)).setOther (p := ⟨w.heap.size + 1, 1, none⟩) (fun e => hne _ e rfl) (.slice A' dl c')).setOther (p := ⟨w.heap.size + 1, 2, none⟩) (fun e => hne _ e rfl) (.int .i64 (horAt l hor r))).setOther (p := ⟨w.heap.size + 1, 3, none⟩) (fun e => hne _ e rfl) (.int .i64 s)
          have hsl := hown.slice_
          exact bodyPost_ret (results_cell_row (fn := Try.f17) rfl _ _ (w.heap.size + 1) 43 _ (0, 0) _ rfl hb6 Try.underlying43 rfl (by kernel_rfl)) rfl ⟨A', c', by rw [HDL2.out]; rfl, hsl.2.1, hsl.2.2, .inr fun a e => by subst e; have := (hown.lt _ rfl).1; omega, hbel⟩
set_option maxRecDepth 100000 in
set_option maxHeartbeats 1600000 in
theorem refWith_same (w : World) (keep : Nat) (last hor s : Int) (A : Option Addr) (n c : Nat) (C : Option Addr) (m d : Nat) (h : s ≤ last ∨ m = 0) (hm : m ≤ 2097152) :
    Calls Try.prog 17 #[.agg #[.int .i64 keep, .slice A n c, .int .i64 hor, .int .i64 last], .int .i64 s, .slice C m d] w fun e w' =>
      e = .returned (.agg #[.int .i64 keep, .slice A n c, .int .i64 hor, .int .i64 last]) ∧ Below w.heap.size w w' := by
  by_cases hs : s ≤ last
  · have hsd : decide (s ≤ last) = true := by simpa using hs
    clear h
    go_enter Try.func17, Try.ntmps17
    go_wp2
    exact bodyPost_ret (v := .agg #[.int .i64 keep, .slice A n c, .int .i64 hor, .int .i64 last]) (by simp [results, Try.results17, go_sem]) rfl ⟨rfl, ((Below.refl _ _).alloc (Nat.le_refl _) _).alloc (by simp) _⟩
  · have hsd : decide (s ≤ last) = false := by simpa using hs
    obtain rfl : m = 0 := by omega
    clear h
    go_enter Try.func17, Try.ntmps17
    go_wp2
    exact bodyPost_ret (v := .agg #[.int .i64 keep, .slice A n c, .int .i64 hor, .int .i64 last]) (by simp [results, Try.results17, go_sem]) rfl ⟨rfl, ((Below.refl _ _).alloc (Nat.le_refl _) _).alloc (by simp) _⟩
theorem refWith_any (w : World) (l : Lg) (A : Option Addr) (c : Nat) (hc : l.L.length ≤ c) (hrd : Rd w w.heap.size A l.L) (hli : LI l) (hk1 : 1 ≤ l.keep) (hk2 : l.keep ≤ 4096) (s : Int) (C : Option Addr) (m d : Nat) (cs : List Ch) (hcs : cs.length = m) (hC : Rd w w.heap.size C cs) (hm : m ≤ 2097152) :
    Calls Try.prog 17 #[.agg #[.int .i64 l.keep, .slice A l.L.length c, .int .i64 l.hor, .int .i64 l.last], .int .i64 s, .slice C m d] w (RefWithPost w A l (l.put s cs)) := by
  have hmost := hli.most
  by_cases h : s ≤ l.last ∨ m = 0
  · refine (refWith_same w l.keep l.last l.hor s A _ c C m d h hm).mono ?_
    rintro e w' ⟨rfl, hb⟩
    rw [put_same _ _ _ (by rw [hcs]; exact h)]
    exact ⟨A, c, rfl, hc, (hrd.below hb).more hb.size, .inl ⟨rfl, rfl⟩, hb⟩
  · exact refWith_main w l.keep l.last l.hor s A _ c l.L cs rfl hrd C m d hcs hC (by omega) (by omega) hk1 hk2 (by omega) hm hli
/-- what stands right stands right behind a change -/
theorem LI.put {l : Lg} (h : LI l) (s : Int) (cs : List Ch) (hk : 1 ≤ l.keep) : LI (l.put s cs) := by
  by_cases hc : s ≤ l.last ∨ cs.length = 0
  · rw [put_same l s cs hc]; exact h
  · have hs : l.last < s := by omega
    have hm : 0 < cs.length := by omega
    obtain ⟨T, hT⟩ : ∃ T, l.L ++ stampAll s cs = T := ⟨_, rfl⟩
    have hlen : T.length = l.L.length + cs.length := by rw [← hT, List.length_append, stampAll_length]
    have hle : ∀ c ∈ T, c.s ≤ s := by
      intro c hc
      rw [← hT, List.mem_append] at hc
      rcases hc with hc | hc
      · have := h.le_last c hc; omega
      · rw [stamp_s hc]; exact Int.le_refl _
    have hhor : ∀ c ∈ T, l.hor ≤ c.s := by
      intro c hc
      rw [← hT, List.mem_append] at hc
      rcases hc with hc | hc
      · exact h.hor_le c hc
      · have := h.hor_last; rw [stamp_s hc]; omega
    have hr : Rises T := by
      rw [← hT]
      unfold Rises
      rw [List.pairwise_append]
      refine ⟨h.rises, ?_, fun a ha b hb => ?_⟩
      · rw [List.pairwise_iff_getElem]
        intro i j hi hj hij
        rw [stamp_s (List.getElem_mem hi), stamp_s (List.getElem_mem hj)]
        exact Int.le_refl _
      · have h5 := h.le_last a ha
        rw [stamp_s hb]
        omega
    by_cases hf : l.L.length + cs.length ≤ l.keep
    · rw [put_fits l s cs hs hm hf, hT]
      refine ⟨hr, hhor, hle, ?_, ?_⟩
      · have := h.hor_last
        show l.hor ≤ s
        omega
      · show T.length ≤ l.keep
        omega
    · have hn1 : l.L.length + cs.length - l.keep - 1 < T.length := by omega
      obtain ⟨z, hz⟩ : ∃ z, T[l.L.length + cs.length - l.keep - 1] = z := ⟨_, rfl⟩
      rw [put_goes l s cs hs hm (by omega) z (by rw [hT, List.getElem?_eq_getElem hn1, hz]), hT]
      refine ⟨List.Pairwise.sublist (List.drop_sublist _ _) hr, ?_, fun c hc => hle c (List.mem_of_mem_drop hc), hle z (by rw [← hz]; exact List.getElem_mem _), ?_⟩
      · intro c hc
        obtain ⟨j, hj, rfl⟩ := List.getElem_of_mem hc
        rw [List.length_drop] at hj
        rw [List.getElem_drop]
        show z.s ≤ _
        rw [← hz]
        exact List.pairwise_iff_getElem.1 hr _ _ hn1 (by omega) (by omega)
      · show (T.drop _).length ≤ l.keep
        rw [List.length_drop]; omega
end Go.Proofs.Ytjdhmagkgoghpaa
