/- WatchFollows: the walk: whoever asks again and again is told each change once, in order. -/
import Derived.Test.YtjdhmagkgoghpaaLive
import Derived.Test.YtjdhmagkgoghpaaFi
import Derived.Test.YtjdhmagkgoghpaaAct
import Derived.Test.YtjdhmagkgoghpaaSeg
import Derived.Deep.DeepMust
namespace Go.Proofs.Ytjdhmagkgoghpaa
set_option linter.unusedVariables false
open Go.RowKit
theorem quiet_left {P : Program} {f : FuncId} {args : Array Value} {w : World} {n : Nat} {v : Value}
    (h : Calls P f args (w.drewN n) fun e w' => e = .returned v ∧ w.drewN n = w') : Calls P f args (w.drewN n) fun e w'' => e = .returned v ∧ ∃ m, w'' = w.drewN m :=
  h.mono fun _ _ ⟨he, hm⟩ => ⟨he, n, hm.symm⟩
def TrueBelow (w : World) (e : Ending) (w' : World) : Prop := e = .returned (.bool true) ∧ Below w.heap.size w w'
structure FRel (w wr : World) (keep k g : Nat) (AL : Option Addr) (l : List Ac) (lg : Lg) (af : Int) (ov : Value) (owed G : List Ch) : Prop where
  bel : Below w.heap.size w wr
  log : PLogAt wr g AL lg
  sep : ∀ a, AL = some a → ov.ownBlock ≠ some a.block
  keep_ : lg.keep = keep
  fi : FI lg af owed G
  seg : Seg wr w.heap.size ov owed
  len : owed.length ≤ sumCh (l.take k)
structure Inner (w wr wq wr2 : World) (g : Nat) (AL : Option Addr) (lg : Lg) (x : Ac) (A' : Option Addr) (m c' : Nat) (ov : Value) (owed : List Ch) : Prop where
  bel : Below w.heap.size w wr2
  log : PLogAt wr2 g AL lg
  blk : Blk wr2 wr.heap.size 33 #[.int .i64 x.st, .slice A' m c', .bool false, .int .i64 x.af, .int .i64 x.lim, .string x.inn]
  seg : Seg wr2 w.heap.size ov owed
  sep : ∀ a, AL = some a → ov.ownBlock ≠ some a.block
  size : wq.heap.size ≤ wr2.heap.size
theorem Inner.step {w wr wq wr2 w1 : World} {g : Nat} {AL : Option Addr} {lg : Lg} {x : Ac} {A' : Option Addr} {m c' : Nat} {ov v' : Value} {owed r : List Ch} {y : Ch} (h : Inner w wr wq wr2 g AL lg x A' m c' ov owed)
    (hs : Seg w1 w.heap.size v' (owed ++ r)) (hb : Below w.heap.size ((wr2.alloc (.cells #[.int .i64 x.st, .string y.c, .string y.i, .int .i64 y.k] 36)).alloc (.cells #[.int .i64 x.st, .string y.c, .string y.i, .int .i64 y.k] 36)) w1)
    (hg : ((wr2.alloc (.cells #[.int .i64 x.st, .string y.c, .string y.i, .int .i64 y.k] 36)).alloc (.cells #[.int .i64 x.st, .string y.c, .string y.i, .int .i64 y.k] 36)).grownBy w1 ov.ownBlock)
    (hat : v'.ownBlock = ov.ownBlock ∨ ∀ b, v'.ownBlock = some b → ((wr2.alloc (.cells #[.int .i64 x.st, .string y.c, .string y.i, .int .i64 y.k] 36)).alloc (.cells #[.int .i64 x.st, .string y.c, .string y.i, .int .i64 y.k] 36)).heap.size ≤ b) :
    Inner w wr wq w1 g AL lg x A' m c' v' (owed ++ r) := by
  have hsz := h.bel.size
  have ha : Below wr2.heap.size wr2 ((wr2.alloc (.cells #[.int .i64 x.st, .string y.c, .string y.i, .int .i64 y.k] 36)).alloc (.cells #[.int .i64 x.st, .string y.c, .string y.i, .int .i64 y.k] 36)) := ((Below.refl _ _).alloc (Nat.le_refl _) _).alloc (by simp) _
  have hl := h.log.below ha
  have hbk := h.blk.below ha h.blk.lt
  have hsg := h.seg.below ha
  obtain ⟨cL, hBl, _⟩ := id hl
  refine ⟨(h.bel.trans (ha.mono hsz)).trans hb, hl.grown hg (fun e => hsg.ne_blk hBl (by decide) e.symm) (fun a ha2 e => h.sep a ha2 e.symm), hbk.grown hg (fun e => hsg.ne_blk hbk (by decide) e.symm), hs, ?_, Nat.le_trans h.size (Nat.le_trans ha.size hg.size)⟩
  intro a ha2 e
  rcases hat with h1 | h1
  · exact h.sep a ha2 (by rw [← h1]; exact e)
  · have := h1 _ e
    obtain ⟨c, _, _, _, hA0, hrd⟩ := id h.log
    rcases Nat.eq_zero_or_pos lg.L.length with h0 | h0
    · rw [hA0 h0] at ha2; cases ha2
    · obtain ⟨b, off, e2, hb2, _⟩ := hrd h0
      rw [ha2] at e2
      injection e2 with e2
      subst e2
      have := ha.size
      simp at *
      omega
theorem FRel.put {w wr wq w5 : World} {keep k g g5 : Nat} {AL A5 : Option Addr} {l : List Ac} {lg : Lg} {af : Int} {ov ov' : Value} {owed owed' G : List Ch} (h : FRel w wr keep k g AL l lg af ov owed G) (hk : k < l.length) (hkp : 1 ≤ keep)
    (x : Ac) (hx : l[k] = x) (hbq : Below w.heap.size w wq) (hb5 : Below wq.heap.size wq w5) (hp : PLogAt w5 g5 A5 (lg.put x.st x.ch)) (hA : A5 = AL ∨ ∀ a, A5 = some a → wq.heap.size ≤ a.block)
    (hs : Seg wq w.heap.size ov' owed') (hsep : ∀ a, AL = some a → ov'.ownBlock ≠ some a.block) (ho : owed' = if x.st ≤ lg.last ∨ x.ch.length = 0 then owed else owed ++ stampAll x.st x.ch) :
    ∃ G', FRel w w5 keep (k + 1) g5 A5 l (lg.put x.st x.ch) af ov' owed' G' := by
  obtain ⟨G', hG⟩ := h.fi.put x.st x.ch (by have := h.keep_; omega)
  refine ⟨G', hbq.trans (hb5.mono hbq.size), hp, ?_, by rw [put_keep]; exact h.keep_, by rw [ho]; exact hG, hs.below hb5, ?_⟩
  · rcases hA with rfl | hA
    · exact hsep
    · intro a ha hb
      have h1 := hA a ha
      have h2 := (hs.lt _ hb).2
      omega
  · rw [sumCh_take l k hk, hx, ho]
    have := h.len
    split
    · omega
    · rw [List.length_append, stampAll_length]; omega
theorem FRel.ask {w wr : World} {keep k g : Nat} {AL AO : Option Addr} {l : List Ac} {lg : Lg} {af up : Int} {no cO nr : Nat} {owed G : List Ch} (h : FRel w wr keep k g AL l lg af (.slice AO owed.length cO) owed G) (hk : k < l.length)
    (w6 : World) (hb : Below w.heap.size w w6) (hlog : PLogAt w6 g AL lg) (hcut : Seg w6 w.heap.size (.slice (if cO = nr then AO else AO.map (·.add (nr * 4))) (no - nr) (cO - nr)) (owed.drop nr)) (hfi : FI lg up (owed.drop nr) G) :
    FRel w w6 keep (k + 1) g AL l lg up (.slice (if cO = nr then AO else AO.map (·.add (nr * 4))) (no - nr) (cO - nr)) (owed.drop nr) G := by
  refine ⟨hb, hlog, ?_, h.keep_, hfi, hcut, ?_⟩
  · intro a ha e
    have hs := h.sep a ha
    cases AO with
    | none => split at e <;> simp [Value.ownBlock] at e
    | some b =>
      apply hs
      split at e
      · exact e
      · rw [← e]
        simp only [Option.map_some, Value.ownBlock, block_of_add]
  · rw [List.length_drop, sumCh_take l k hk]
    have := h.len
    omega
theorem FRel.start (w w0 : World) (keep : Nat) (l : List Ac) (hb : Below w.heap.size w w0) (hp : PLogAt w0 w.heap.size none ⟨keep, [], 0, 0⟩) : FRel w w0 keep 0 w.heap.size none l ⟨keep, [], 0, 0⟩ 0 (.slice none 0 0) [] [] :=
  ⟨hb, hp, (fun a e => by cases e), rfl, FI.start keep, Seg.nil_, Nat.zero_le _⟩
set_option maxRecDepth 100000 in
set_option maxHeartbeats 8000000 in
theorem follows_main (w : World) (keep : Nat) (A : Option Addr) (n c : Nat) (l : List Ac) (hl : l.length = n) (hA : Acts w w.heap.size A l) (hn : n ≤ 1048576) (hs : sumCh l ≤ 1048576) (hfew : fewB l = true)
    (hk1 : 1 ≤ keep) (hk2 : keep ≤ 4096) (bl ol nl cl : Nat) (hbl : bl < w.heap.size) (hlim : ∀ j, j < nl → ∃ x : Int, w.cell? ⟨bl, ol + j, none⟩ = some (.int .i64 x)) (hnl : 0 < nl) (hnl2 : nl ≤ 1048576) :
    Calls Try.prog 3 #[.int .i64 keep, .slice A n c, .slice (some ⟨bl, ol, none⟩) nl cl] w (TrueBelow w) := by
  have HL := Lib.hid hl
  clear hl
  have hsum : sumCh l ≤ 20000 := by simp [fewB] at hfew; omega
  have hnl0 : ((nl : Int) == 0) = false := by rw [beq_eq_false_iff_ne]; omega
  have HF := Lib.hid hfew
  clear hfew
  go_enter Try.func3, Try.ntmps3
  go_wp2_with fail
  refine (new_ok keep w (by omega) (by omega)).mono ?_
  rintro e w0 ⟨rfl, h0⟩
  have hb0 : Blk w0 w.heap.size 55 #[.int .i64 keep, .slice none 0 0, .int .i64 0, .int .i64 0] := by rw [← h0]; exact Blk.new w 55 _
  have bel0 : Below w.heap.size w w0 := by rw [← h0]; exact (Below.refl _ _).alloc (Nat.le_refl _) _
  have hsz0 : w.heap.size < w0.heap.size := by rw [← h0]; simp
  have hp0 : PLogAt w0 w.heap.size none ⟨keep, [], 0, 0⟩ := ⟨0, hb0, Nat.le_refl _, fun _ => rfl, fun _ => rfl, fun h => absurd h (by simp)⟩
  clear h0 hb0
  have hA0 : Acts w0 w0.heap.size A l := by
    intro h
    obtain ⟨b, off, e, hb, hx⟩ := hA h
    refine ⟨b, off, e, by omega, fun i hi => ?_⟩
    obtain ⟨A', c', h⟩ := hx i hi
    have h2 := h.keep hb (fun p hp => bel0.cell hp)
    exact ⟨A', c', h2.c0, h2.c1, h2.c2, h2.c3, h2.c4, h2.c5, h2.rd.more bel0.size, h2.le⟩
  have HA0 := Lib.hid hA0
  clear hA0
  have HFW := few_any w0 A n c l HL.out HA0.out hn hs
  rw [HF.out] at HFW
  have HFW2 := Lib.hid HFW
  clear HFW
  go_wp2_with (first | (go_at_call 8; refine (num_any 0 _).mono ?_; rintro e w5 ⟨rfl, rfl⟩) | (go_at_call 9; go_must (refine HFW2.out.mono ?_); rintro e w5 ⟨rfl, rfl⟩))
  clear hnl0
  go_loopw [7, 9, 10, 11] (fun lv av ov iv wr => ∃ (k g : Nat) (AL : Option Addr) (lg : Lg) (af : Int) (owed G : List Ch), k ≤ n ∧ iv = .int .i64 k ∧ lv = .pointer (some ⟨g, 0, none⟩) ∧ av = .int .i64 af ∧ FRel w wr keep k g AL l lg af ov owed G) (fun _ _ _ iv _ => n - (intOf iv).toNat)
  case atStart => exact ⟨0, w.heap.size, none, ⟨keep, [], 0, 0⟩, 0, [], [], Nat.zero_le _, rfl, rfl, rfl, FRel.start w w0 keep l bel0 hp0⟩
  case round =>
    obtain ⟨k, g, AL, lg, af, owed, G, hk, rfl, rfl, rfl, hrel⟩ := hrel
    obtain ⟨wo, rfl⟩ : ∃ wo : World, wo = wr := ⟨_, rfl⟩
    have hbel := hrel.bel
    by_cases hlt : k < n
    · obtain ⟨b, off, rfl, hb, hx⟩ := hA (by have := HL.out; omega)
      obtain ⟨A', c', hx⟩ := hx k (by have := HL.out; omega)
      obtain ⟨x, hxx⟩ : ∃ x, l[k]'(by have := HL.out; omega) = x := ⟨_, rfl⟩
      rw [hxx] at hx
      have HXX := Lib.hid hxx
      clear hxx
      have hx2 := hx.keep hb (fun p hp => hbel.cell hp)
      have x0 := hx2.c0
      have x1 := hx2.c1
      have x2 := hx2.c2
      have x3 := hx2.c3
      have x4 := hx2.c4
      have x5 := hx2.c5
      obtain ⟨m, hm⟩ : ∃ m, x.ch.length = m := ⟨_, rfl⟩
      rw [hm] at x1
      have HM := Lib.hid hm
      have hxw := hx.rd
      clear hm hx
      have hsum1 := sumCh_take l k (by have := HL.out; omega)
      have hsum2 := sumCh_take_le l (k + 1)
      have hmm : sumCh (l.take (k + 1)) = sumCh (l.take k) + m := by rw [hsum1, HXX.out, HM.out]
      clear hsum1
      have HMM := Lib.hid hmm
      have hm20 : sumCh (l.take k) + m ≤ 20000 := by omega
      clear hmm hsum2
      have hol : owed.length ≤ sumCh (l.take k) := hrel.len
      have hgl := hrel.log.lt
      have bsz := hbel.size
      obtain ⟨W1, hW1⟩ : ∃ W1 : World, wo.alloc (.cells #[.int .i64 x.st, .slice A' m c', .bool x.ask, .int .i64 x.af, .int .i64 x.lim, .string x.inn] 33) = W1 := ⟨_, rfl⟩
      have hab : Below wo.heap.size wo W1 := by rw [← hW1]; exact (Below.refl _ _).alloc (Nat.le_refl _) _
      have hB1 : Blk W1 wo.heap.size 33 #[.int .i64 x.st, .slice A' m c', .bool x.ask, .int .i64 x.af, .int .i64 x.lim, .string x.inn] := by rw [← hW1]; exact Blk.new wo 33 _
      have hsz1 : wo.heap.size < W1.heap.size := hB1.lt
      have hlog1 := hrel.log.below hab
      have hseg1 := hrel.seg.below hab
      obtain ⟨cL, hBl, hcl1, _, _, hrdl⟩ := id hlog1
      have hx1 : Rd W1 W1.heap.size A' x.ch := ((hx2.rd.more bsz).below hab).more (Nat.le_of_lt hsz1)
      have hkL : k < l.length := by have := HL.out; omega
      have hkl := hrel.keep_
      have hmost := hrel.fi.most
      cases hask : x.ask
      · rw [hask] at x2 hW1 hB1
        have z0 := hB1.cell 0
        have z1 := hB1.cell 1
        simp at z0 z1
        have HW1 := Lib.hid hW1
        clear hW1 hask
        go_wp2
        rw [HW1.out]
        clear x0 x1 x2 x3 x4 x5
        by_cases hst : x.st ≤ lg.last
        · have hd : decide (lg.last < x.st) = false := by simp; omega
          have HCND := Lib.hid (show x.st ≤ lg.last ∨ x.ch.length = 0 from .inl hst)
          go_quiet ((go_at_call 11; exact quiet_left (last_any _ _ _ _ _ _ _ _ (hBl.drewN _))))
          obtain ⟨wq, hwq⟩ : ∃ wq, W1.drewN nq = wq := ⟨_, rfl⟩
          have hBq : Blk wq wo.heap.size 33 #[.int .i64 x.st, .slice A' m c', .bool false, .int .i64 x.af, .int .i64 x.lim, .string x.inn] := by rw [← hwq]; exact hB1.drewN _
          have hlogq : PLogAt wq g AL lg := by rw [← hwq]; exact hlog1
          have hsegq : Seg wq w.heap.size u10 owed := by rw [← hwq]; exact hseg1
          have hbq : Below w.heap.size w wq := by rw [← hwq]; exact hbel.trans ((bel_drewN hab nq).mono bsz)
          have hxq : Rd wq wq.heap.size A' x.ch := by rw [← hwq]; exact hx1
          have y0 := hBq.cell 0
          have y1 := hBq.cell 1
          simp at y0 y1
          rw [hwq]
          clear z0 z1 hwq hB1 hlog1 hseg1 hBl hrdl hx1
          go_wp2_with (go_at_call 12; go_must (refine (with_any wq g AL lg hlogq (by omega) (by omega) (by omega) x.st A' m c' x.ch HM.out hxq (by omega)).mono ?_); rintro e w5 ⟨g5, A5, rfl, bel5, hp5, hsep5⟩)
          obtain ⟨G', hG⟩ := hrel.put hkL hk1 x HXX.out hbq bel5 hp5 hsep5 hsegq hrel.sep (if_pos (HCND.out)).symm
          go_roundw
          case rel => exact ⟨k + 1, g5, A5, _, af, owed, G', by omega, by go_num, rfl, rfl, hG⟩
          case measure => simp [intOf]; omega
        · have hd : decide (lg.last < x.st) = true := by simp; omega
          by_cases hm0 : 0 < m
          · have hd2 : ((0 : Int) < (m : Int)) := by omega
            go_quiet ((go_at_call 11; exact quiet_left (last_any _ _ _ _ _ _ _ _ (hBl.drewN _))))
            obtain ⟨wq, hwq⟩ : ∃ wq, W1.drewN nq = wq := ⟨_, rfl⟩
            have hBq : Blk wq wo.heap.size 33 #[.int .i64 x.st, .slice A' m c', .bool false, .int .i64 x.af, .int .i64 x.lim, .string x.inn] := by rw [← hwq]; exact hB1.drewN _
            have hlogq : PLogAt wq g AL lg := by rw [← hwq]; exact hlog1
            have hsegq : Seg wq w.heap.size u10 owed := by rw [← hwq]; exact hseg1
            have hbq : Below w.heap.size w wq := by rw [← hwq]; exact hbel.trans ((bel_drewN hab nq).mono bsz)
            have hxq : Rd wq wq.heap.size A' x.ch := by rw [← hwq]; exact hx1
            have y0 := hBq.cell 0
            have y1 := hBq.cell 1
            simp at y0 y1
            rw [hwq]
            have hsegq0 := hsegq
            clear z0 z1 hwq hB1 hlog1 hseg1 hBl hrdl hx1
            have hrel2 := hrel
            have hwqs : wo.heap.size < wq.heap.size := hBq.lt
            clear y0 y1 hsegq
            have hsg : Seg wq w.heap.size u10 (owed ++ stampAll x.st (x.ch.take 0)) := by rw [List.take_zero]; simpa [stampAll] using hsegq0
            clear hsegq0
            go_wp2
            go_loopw [10, 13] (fun ov iv wr => ∃ j : Nat, j ≤ m ∧ iv = .int .i64 j ∧ Inner w wo wq wr g AL lg x A' m c' ov (owed ++ stampAll x.st (x.ch.take j))) (fun _ iv _ => m - (intOf iv).toNat)
            case atStart => exact ⟨0, Nat.zero_le _, rfl, hbq, hlogq, hBq, hsg, hrel.sep, Nat.le_refl _⟩
            case round =>
              obtain ⟨j, hj, rfl, hin⟩ := hrel
              have bsz2 := hin.bel.size
              have hwsz := hin.size
              have hw33 := hin.blk.lt
              by_cases hjm : j < m
              · have hjl : j < x.ch.length := by have := HM.out; omega
                obtain ⟨b2, o2, rfl, hb2, hc2⟩ := hxw (by omega)
                obtain ⟨y, hy⟩ : ∃ y, x.ch[j] = y := ⟨_, rfl⟩
                have hY := hc2 j hjl
                rw [hy] at hY
                obtain ⟨p0, p1, p2, p3⟩ := hY
                have HST := Lib.hid (stamp_snoc x.st x.ch j hjl y hy)
                clear hy
                have q0 := (hin.bel.cell (p := ⟨b2, _, none⟩) hb2).trans p0
                have q1 := (hin.bel.cell (p := ⟨b2, _, none⟩) hb2).trans p1
                have q2 := (hin.bel.cell (p := ⟨b2, _, none⟩) hb2).trans p2
                have q3 := (hin.bel.cell (p := ⟨b2, _, none⟩) hb2).trans p3
                have y0 := hin.blk.cell 0
                have y1 := hin.blk.cell 1
                simp at y0 y1
                clear p0 p1 p2 p3 hc2
                have r1 := (hin.seg.alloc (.cells #[.int .i64 x.st, .string y.c, .string y.i, .int .i64 y.k] 36)).alloc (.cells #[.int .i64 x.st, .string y.c, .string y.i, .int .i64 y.k] 36)
                have r2 := Rd.one (wr.alloc (.cells #[.int .i64 x.st, .string y.c, .string y.i, .int .i64 y.k] 36)) (wr.heap.size + 1) (by simp) x.st y.c y.i y.k
                have hll : (owed ++ stampAll x.st (x.ch.take j)).length + 1 ≤ 16777216 := by
                  rw [List.length_append, stampAll_length, List.length_take]
                  omega
                go_wp2_with (at_builtin; go_must (refine wpList_seg _ rfl (.tmp 80) (.tmp 82) rfl w.heap.size u10 (owed ++ stampAll x.st (x.ch.take j)) rfl r1 (by simp; omega) ⟨wr.heap.size + 1, 0, none⟩ 1 1 _ [⟨x.st, y.c, y.i, y.k⟩] rfl rfl r2 (by omega) hll ?_; intro v' w1 hs1 hb1 hg1 hat1))
                have hin2 := hin.step (y := y) hs1 hb1 hg1 hat1
                rw [List.append_assoc, ← HST.out] at hin2
                go_roundw
                case rel => exact ⟨j + 1, by omega, by go_num, hin2⟩
                case measure => simp [intOf]; omega
              · rw [show x.ch.take j = x.ch from List.take_of_length_le (by have := HM.out; omega)] at hin
                have hxq2 : Rd wr wr.heap.size A' x.ch := (hxw.below hin.bel).more bsz2
                have HCND := Lib.hid (show ¬ (x.st ≤ lg.last ∨ x.ch.length = 0) from by rw [HM.out]; omega)
                have y0 := hin.blk.cell 0
                have y1 := hin.blk.cell 1
                simp at y0 y1
                go_wp2_with (go_at_call 12; go_must (refine (with_any wr g AL lg hin.log (by omega) (by omega) (by omega) x.st A' m c' x.ch HM.out hxq2 (by omega)).mono ?_); rintro e w5 ⟨g5, A5, rfl, bel5, hp5, hsep5⟩)
                obtain ⟨G', hG⟩ := hrel2.put hkL hk1 x HXX.out hin.bel bel5 hp5 hsep5 hin.seg hin.sep (if_neg (HCND.out)).symm
                go_roundw
                case rel => exact ⟨k + 1, g5, A5, _, af, _, G', by omega, by go_num, rfl, rfl, hG⟩
                case measure => simp [intOf]; omega
          · have HCND := Lib.hid (show x.st ≤ lg.last ∨ x.ch.length = 0 from .inr (by rw [HM.out]; omega))
            go_quiet ((go_at_call 11; exact quiet_left (last_any _ _ _ _ _ _ _ _ (hBl.drewN _))))
            obtain ⟨wq, hwq⟩ : ∃ wq, W1.drewN nq = wq := ⟨_, rfl⟩
            have hBq : Blk wq wo.heap.size 33 #[.int .i64 x.st, .slice A' m c', .bool false, .int .i64 x.af, .int .i64 x.lim, .string x.inn] := by rw [← hwq]; exact hB1.drewN _
            have hlogq : PLogAt wq g AL lg := by rw [← hwq]; exact hlog1
            have hsegq : Seg wq w.heap.size u10 owed := by rw [← hwq]; exact hseg1
            have hbq : Below w.heap.size w wq := by rw [← hwq]; exact hbel.trans ((bel_drewN hab nq).mono bsz)
            have hxq : Rd wq wq.heap.size A' x.ch := by rw [← hwq]; exact hx1
            have y0 := hBq.cell 0
            have y1 := hBq.cell 1
            simp at y0 y1
            rw [hwq]
            clear z0 z1 hwq hB1 hlog1 hseg1 hBl hrdl hx1
            go_wp2_with (go_at_call 12; go_must (refine (with_any wq g AL lg hlogq (by omega) (by omega) (by omega) x.st A' m c' x.ch HM.out hxq (by omega)).mono ?_); rintro e w5 ⟨g5, A5, rfl, bel5, hp5, hsep5⟩)
            obtain ⟨G', hG⟩ := hrel.put hkL hk1 x HXX.out hbq bel5 hp5 hsep5 hsegq hrel.sep (if_pos (HCND.out)).symm
            go_roundw
            case rel => exact ⟨k + 1, g5, A5, _, af, owed, G', by omega, by go_num, rfl, rfl, hG⟩
            case measure => simp [intOf]; omega
      · rw [hask] at x2 hW1 hB1
        have m1 : (0 : Int) ≤ (k : Int) % (nl : Int) := Int.emod_nonneg _ (by omega)
        have m2 : (k : Int) % (nl : Int) < (nl : Int) := Int.emod_lt_of_pos _ (by omega)
        have m3 : ((k : Int) % (nl : Int)).toNat = k % nl := by omega
        obtain ⟨xl, hxl⟩ := hlim (k % nl) (Nat.mod_lt _ hnl)
        have hxl2 := (hbel.cell (p := ⟨bl, _, none⟩) hbl).trans hxl
        have hblr : bl < wo.heap.size := by omega
        have HW1 := Lib.hid hW1
        clear hxl hW1 hask
        go_wp2_with fail
        rw [HW1.out]
        obtain ⟨AO, cO, rfl, hcO, hcO0⟩ := hrel.seg.len
        obtain ⟨no, hno⟩ : ∃ no, owed.length = no := ⟨_, rfl⟩
        rw [hno] at hcO hol
        have HNO := Lib.hid hno
        rw [hno]
        by_cases hh : af < lg.hor
        · have hgone := hrel.fi.gone hh
          rw [hno, hkl] at hgone
          have hgone2 : (keep : Int) < (no : Int) := by omega
          clear hno
          refine (after_low W1 g lg.keep lg.last lg.hor AL _ cL hBl af xl ⟨#[]⟩ hh).mono ?_
          rintro e w5 ⟨rfl, rfl⟩
          go_wp2_with (first | (go_at_call 8; refine (num_any 180 _).mono ?_; rintro e w5 ⟨rfl, rfl⟩) | (go_at_call 10; refine (live_any _).mono ?_; rintro e w5 ⟨rfl, hb5⟩))
          go_ret
          exact ⟨rfl, (hbel.trans (hab.mono bsz)).trans (hb5.mono (Nat.le_trans bsz hab.size))⟩
        · have hask2 := hrel.fi.ask (by omega) xl
          obtain ⟨R, hR⟩ : ∃ R, toldL lg.L af xl ⟨#[]⟩ = R := ⟨_, rfl⟩
          obtain ⟨up, hup⟩ : ∃ up, toldUp lg.L af xl ⟨#[]⟩ lg.last = up := ⟨_, rfl⟩
          have HAM := after_main W1 g lg.keep lg.last lg.hor AL _ cL lg.L hBl rfl hrdl hrel.fi.rises_L (by omega) af xl ⟨#[]⟩ (by omega)
          rw [hR, hup] at HAM hask2
          obtain ⟨nr, hnr⟩ : ∃ nr, R.length = nr := ⟨_, rfl⟩
          rw [hnr, hno] at hask2
          obtain ⟨f1, f2, f3, f4, f5⟩ := hask2
          have HF2 := Lib.hid f2
          have HR := Lib.hid hnr
          clear f2 hR hup hnr hno
          refine HAM.mono ?_
          rintro e w5 ⟨v5, rfl, own5, bel5⟩
          obtain ⟨A5, c5, rfl, hc5, hrd5⟩ := own5.rd
          rw [HR.out]
          have hsg5 : Seg w5 w.heap.size (.slice AO no cO) owed := by rw [← HNO.out]; exact hseg1.below bel5
          have hrdo := hsg5.reads.2.2.take_ nr
          have hlen2 : (owed.take nr).length = nr := by rw [List.length_take, HNO.out]; omega
          have hcut := hsg5.cut f1
          have hch := changes_eq w5 A5 AO nr c5 cO R (owed.take nr) HR.out hlen2 w5.heap.size hrd5 hrdo (by omega)
          rw [HF2.out, (sameL_iff R R).2 rfl] at hch
          have HCH := Lib.hid hch
          have HCUT := Lib.hid hcut
          have HLG := Lib.hid (hlog1.below bel5)
          have HSEP := Lib.hid hrel.sep
          have HB5 := Lib.hid ((hbel.trans (hab.mono bsz)).trans (bel5.mono (Nat.le_trans bsz hab.size)))
          have HF5 := Lib.hid f5
          clear hch hcut hlen2 hrdo hsg5 hrd5 own5 f5
          have hnrcO : nr ≤ cO := by omega
          by_cases hn0 : nr = 0
          · have hn0' : ((nr : Int) == 0) = true := by rw [beq_iff_eq]; omega
            have hno0 : ¬ 0 < no := by omega
            have HN0 := Lib.hid hn0
            clear hn0
            go_wp2_with (first | (go_at_call 8; refine (num_any 0 _).mono ?_; rintro e w6 ⟨rfl, rfl⟩) | (go_at_call 14; go_must (refine HCH.out.mono ?_); rintro e w6 ⟨rfl, j6, rfl⟩))
            go_roundw
            case rel => exact ⟨k + 1, g, AL, lg, up, owed.drop nr, G, by omega, by go_num, rfl, rfl, hrel.ask hkL _ (bel_drewN HB5.out j6) HLG.out (HCUT.out.drewN j6) HF5.out⟩
            case measure => simp [intOf]; omega
          · have hn0' : ((nr : Int) == 0) = false := by rw [beq_eq_false_iff_ne]; omega
            go_wp2_with (first | (go_at_call 8; refine (num_any 0 _).mono ?_; rintro e w6 ⟨rfl, rfl⟩) | (go_at_call 14; go_must (refine HCH.out.mono ?_); rintro e w6 ⟨rfl, j6, rfl⟩))
            go_roundw
            case rel => exact ⟨k + 1, g, AL, lg, up, owed.drop nr, G, by omega, by go_num, rfl, rfl, hrel.ask hkL _ (bel_drewN HB5.out j6) HLG.out (HCUT.out.drewN j6) HF5.out⟩
            case measure => simp [intOf]; omega
    · go_wp2_with (go_at_call 10; refine (live_any _).mono ?_; rintro e w5 ⟨rfl, hb5⟩)
      go_ret
      exact ⟨rfl, hbel.trans (hb5.mono hbel.size)⟩
end Go.Proofs.Ytjdhmagkgoghpaa
