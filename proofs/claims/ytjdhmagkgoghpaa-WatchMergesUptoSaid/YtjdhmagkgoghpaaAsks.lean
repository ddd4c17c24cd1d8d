/- asks: a log of the program tells what the document's does; what is told is new memory. -/
import Derived.Test.YtjdhmagkgoghpaaRefA
import Derived.Test.YtjdhmagkgoghpaaRefW
import Derived.Test.YtjdhmagkgoghpaaFi
import Derived.Test.YtjdhmagkgoghpaaAct
import Derived.Deep.DeepMust
namespace Go.Proofs.Ytjdhmagkgoghpaa
set_option linter.unusedVariables false
open Go.RowKit
theorem quiet_left2 {P : Program} {f : FuncId} {args : Array Value} {w : World} {n : Nat} {v : Value}
    (h : Calls P f args (w.drewN n) fun e w' => e = .returned v ∧ w.drewN n = w') : Calls P f args (w.drewN n) fun e w'' => e = .returned v ∧ ∃ m, w'' = w.drewN m :=
  h.mono fun _ _ ⟨he, hm⟩ => ⟨he, n, hm.symm⟩
theorem chs_set (s : Int) (c i : ByteArray) (kd : Int) : ∀ (l : List Ch) (k : Nat), (((((chs l).set (k * 4) (.int .i64 s)).set (k * 4 + 1) (.string c)).set (k * 4 + 2) (.string i)).set (k * 4 + 3) (.int .i64 kd)) = chs (l.set k ⟨s, c, i, kd⟩)
  | [], k => by simp [chs]
  | x :: r, 0 => by simp [chs, Ch.cells]
  | x :: r, k + 1 => by
    have ih := chs_set s c i kd r k
    rw [List.set_cons_succ, chs_cons, chs_cons, ← ih]
    simp only [Ch.cells, Nat.add_mul, Nat.one_mul, List.cons_append, List.nil_append]
    rw [show k * 4 + 4 + 1 = k * 4 + 1 + 4 from by omega, show k * 4 + 4 + 2 = k * 4 + 2 + 4 from by omega, show k * 4 + 4 + 3 = k * 4 + 3 + 4 from by omega]
    rfl
theorem Own.storeCh {w : World} {base g n cap k : Nat} {l : List Ch} (h : Own w base (.slice (some ⟨g, 0, none⟩) n cap) l) (hk : k < l.length) (y : Ch) :
    Own ((((w.setCell ⟨g, k * 4, none⟩ (.int .i64 y.s)).setCell ⟨g, k * 4 + 1, none⟩ (.string y.c)).setCell ⟨g, k * 4 + 2, none⟩ (.string y.i)).setCell ⟨g, k * 4 + 3, none⟩ (.int .i64 y.k)) base (.slice (some ⟨g, 0, none⟩) n cap) (l.set k y) := by
  have hn := h.slice_.1
  subst hn
  unfold Own
  rw [List.length_set, ← chs_set]
  exact (World.ownsRow.stored (World.ownsRow.stored (World.ownsRow.stored (World.ownsRow.stored h _ _).1 _ _).1 _ _).1 _ _).1
theorem Own.frozenAt {w : World} {base g n cap : Nat} {l : List Ch} (h : Own w base (.slice (some ⟨g, 0, none⟩) n cap) l) (j : Nat) : w.frozen? ⟨g, j, none⟩ = false := by
  have hn := h.slice_.1
  subst hn
  exact World.ownsRow.frozenAt h j
theorem only_setCell {a w : World} {g : Nat} (h : a.grownBy w (some g)) {p : Addr} (hp : p.block = g) (u : Value) : a.grownBy (w.setCell p u) (some g) :=
  ⟨h.os, h.tape, h.output, by simpa [World.setCell] using h.size, fun i hi hne => (Below.heap_setCell w p u i (by rintro rfl; exact hne (by rw [hp]))).trans (h.block i hi hne)⟩
def tellL (l : Lg) (af lim : Int) (inn : ByteArray) : List Ch := if af < l.hor then [] else toldL l.L af lim inn
def tellUp (l : Lg) (af lim : Int) (inn : ByteArray) : Int := if af < l.hor then 0 else toldUp l.L af lim inn l.last
def tellE (l : Lg) (af : Int) : Int := if af < l.hor then 180 else 0
def AfterAll (w : World) (r : List Ch) (up er : Int) (e : Ending) (w' : World) : Prop :=
  ∃ v, e = .returned (.tuple #[v, .int .i64 up, .int .i64 er]) ∧ Own w' w.heap.size v r ∧ Below w.heap.size w w'
theorem after_any (w : World) (g : Nat) (A : Option Addr) (l : Lg) (hl : PLogAt w g A l) (hr : Rises l.L) (hn : l.L.length ≤ 4096) (af lim : Int) (inn : ByteArray) :
    Calls Try.prog 13 #[.pointer (some ⟨g, 0, none⟩), .int .i64 af, .int .i64 lim, .string inn] w (AfterAll w (tellL l af lim inn) (tellUp l af lim inn) (tellE l af)) := by
  obtain ⟨c, hb, _, _, _, hrd⟩ := hl
  unfold tellL tellUp tellE
  by_cases h : af < l.hor
  · rw [if_pos h, if_pos h, if_pos h]
    refine (after_low w g l.keep l.last l.hor A _ c hb af lim inn h).mono ?_
    rintro e w' ⟨rfl, rfl⟩
    exact ⟨_, rfl, Own.nil_, Below.refl _ _⟩
  · rw [if_neg h, if_neg h, if_neg h]
    refine (after_main w g l.keep l.last l.hor A _ c l.L hb rfl hrd hr hn af lim inn (by omega)).mono ?_
    rintro e w' ⟨v, rfl, ho, hb⟩
    exact ⟨v, rfl, ho, hb⟩
def RefAll (w : World) (r : List Ch) (up er : Int) (e : Ending) (w' : World) : Prop :=
  ∃ A c, e = .returned (.tuple #[.slice A r.length c, .int .i64 up, .int .i64 er]) ∧ Rd w' w'.heap.size A r ∧ (∀ a, A = some a → w.heap.size ≤ a.block) ∧ Below w.heap.size w w'
theorem refAfter_any (w : World) (v : Value) (l : Lg) (hl : RLog w v l) (hn : l.L.length ≤ 4096) (af lim : Int) (inn : ByteArray) :
    Calls Try.prog 22 #[v, .int .i64 af, .int .i64 lim, .string inn] w (RefAll w (tellL l af lim inn) (tellUp l af lim inn) (tellE l af)) := by
  obtain ⟨A, c, rfl, _, hrd⟩ := hl
  unfold tellL tellUp tellE
  by_cases h : af < l.hor
  · rw [if_pos h, if_pos h, if_pos h]
    refine (refAfter_low w l.keep l.last l.hor A _ c af lim inn h).mono ?_
    rintro e w' ⟨rfl, hb⟩
    exact ⟨none, 0, rfl, (fun h => by simp at h), (fun a e => by cases e), hb⟩
  · rw [if_neg h, if_neg h, if_neg h]
    refine (refAfter_main w l.keep l.last l.hor A _ c l.L rfl hrd (by omega) af lim inn (by omega)).mono ?_
    rintro e w' ⟨A, c, rfl, ho, ha, hb⟩
    exact ⟨A, c, rfl, ho, ha, hb⟩
theorem grown_trans2 {a b c : World} {row row' : Option Nat} (h : a.grownBy b row) (k : b.grownBy c row') (hr : ∀ g, row' = some g → row' = row ∨ a.heap.size ≤ g) : a.grownBy c row := by
  refine ⟨k.os.trans h.os, k.tape.trans h.tape, k.output.trans h.output, Nat.le_trans h.size k.size, fun i hi hne => ?_⟩
  refine (k.block i (Nat.lt_of_lt_of_le hi h.size) (fun e => ?_)).trans (h.block i hi hne)
  rcases hr i e.symm with h1 | h1
  · exact hne (by rw [← h1]; exact e)
  · omega
set_option maxRecDepth 100000 in
set_option maxHeartbeats 8000000 in
theorem asks_any (w : World) (g : Nat) (AL : Option Addr) (l : Lg) (hl : PLogAt w g AL l) (AR : Option Addr) (nR cR : Nat) (hlR : RLog w (.agg #[.int .i64 l.keep, .slice AR nR cR, .int .i64 l.hor, .int .i64 l.last]) l) (hli : LI l) (hkeep : l.keep ≤ 4096)
    (st af lim : Int) (ask : Bool) (inn : ByteArray) (A' : Option Addr) (m c' : Nat) :
    Calls Try.prog 16 #[.pointer (some ⟨g, 0, none⟩), .agg #[.int .i64 l.keep, .slice AR nR cR, .int .i64 l.hor, .int .i64 l.last], .agg #[.int .i64 st, .slice A' m c', .bool ask, .int .i64 af, .int .i64 lim, .string inn]] w
      fun e w' => e = .returned (.bool true) ∧ Below w.heap.size w w' := by
  have hmost := hli.most
  obtain ⟨W2, hW2⟩ : ∃ W2 : World, (w.alloc (.cells #[.int .i64 l.keep, .slice AR nR cR, .int .i64 l.hor, .int .i64 l.last] 43)).alloc (.cells #[.int .i64 st, .slice A' m c', .bool ask, .int .i64 af, .int .i64 lim, .string inn] 33) = W2 := ⟨_, rfl⟩
  have hab : Below w.heap.size w W2 := by rw [← hW2]; exact ((Below.refl _ _).alloc (Nat.le_refl _) _).alloc (by simp) _
  have b4 : Blk W2 w.heap.size 43 #[.int .i64 l.keep, .slice AR nR cR, .int .i64 l.hor, .int .i64 l.last] := by rw [← hW2]; exact (Blk.new w 43 _).alloc _
  have b5 : Blk W2 (w.heap.size + 1) 33 #[.int .i64 st, .slice A' m c', .bool ask, .int .i64 af, .int .i64 lim, .string inn] := by
    have := Blk.new (w.alloc (.cells #[.int .i64 l.keep, .slice AR nR cR, .int .i64 l.hor, .int .i64 l.last] 43)) 33 #[.int .i64 st, .slice A' m c', .bool ask, .int .i64 af, .int .i64 lim, .string inn]
    rw [← hW2]
    simpa using this
  have hg0 := hl.lt
  have l0 := hl
  have h43lt : w.heap.size + 1 < W2.heap.size := b5.lt
  have hnR : nR = l.L.length := by
    obtain ⟨A, c, e, _⟩ := hlR
    simp at e
    exact e.2.1
  have HNRR := Lib.hid hnR
  clear hnR
  have HW2 := Lib.hid hW2
  clear hW2
  go_enter Try.func16, Try.ntmps16
  go_wp2_with fail
  rw [HW2.out]
  have hl2 : PLogAt W2 g AL l := hl.below hab
  have hR2 : RLog W2 (.agg #[.int .i64 l.keep, .slice AR nR cR, .int .i64 l.hor, .int .i64 l.last]) l := hlR.below hab
  obtain ⟨R, hR⟩ : ∃ R, tellL l af lim inn = R := ⟨_, rfl⟩
  obtain ⟨up, hup⟩ : ∃ up, tellUp l af lim inn = up := ⟨_, rfl⟩
  obtain ⟨er, her⟩ : ∃ er, tellE l af = er := ⟨_, rfl⟩
  have hRn : R.length ≤ 4096 := by
    rw [← hR]
    unfold tellL
    split
    · simp
    · unfold toldL
      refine Nat.le_trans (List.length_take_le _ _) ?_
      have := (cutAt_bd lim (l.L.filter (tel af inn))).2.2
      have h5 := List.length_filter_le (tel af inn) l.L
      omega
  have C1 := after_any W2 g AL l hl2 hli.rises (by omega) af lim inn
  rw [hR, hup, her] at C1
  refine C1.mono ?_
  clear C1
  rintro e w3 ⟨vx, rfl, ox, bx⟩
  have sz2 := hab.size
  have sz3 := bx.size
  have l3 := hl2.below bx
  have b43 := b4.below bx b4.lt
  have b53 := b5.below bx b5.lt
  have y3 := b53.cell 3
  have y4 := b53.cell 4
  have y5 := b53.cell 5
  simp at y3 y4 y5
  go_wp2_with fail
  have C2 := after_any w3 g AL l l3 hli.rises (by omega) af lim inn
  rw [hR, hup, her] at C2
  refine C2.mono ?_
  clear C2 y3 y4 y5
  rintro e w4 ⟨vy, rfl, oy, by_⟩
  have sz4 := by_.size
  have l4 := l3.below by_
  have b44 := b43.below by_ b43.lt
  have b54 := b53.below by_ b53.lt
  have y3 := b54.cell 3
  have y4 := b54.cell 4
  have y5 := b54.cell 5
  have x0 := b44.cell 0
  have x1 := b44.cell 1
  have x2 := b44.cell 2
  have x3 := b44.cell 3
  simp at y3 y4 y5 x0 x1 x2 x3
  go_wp2_with fail
  have hR4 : RLog w4 (.agg #[.int .i64 l.keep, .slice AR nR cR, .int .i64 l.hor, .int .i64 l.last]) l := (hR2.below bx).below by_
  have C3 := refAfter_any w4 _ l hR4 (by omega) af lim inn
  rw [hR, hup, her] at C3
  refine C3.mono ?_
  clear C3 y3 y4 y5 x0 x1 x2 x3
  rintro e w5 ⟨AW, cW, rfl, rW, fW, bW⟩
  have sz5 := bW.size
  obtain ⟨Ax, cx, rfl, hcx, _⟩ := ox.rd
  obtain ⟨Ay, cy, rfl, hcy, _⟩ := oy.rd
  have ox5 := (ox.below_all by_).below_all bW
  have oy5 := oy.below_all bW
  have l5 := l4.below bW
  have b45 := b44.below bW b44.lt
  have b55 := b54.below bW b54.lt
  obtain ⟨nr, hnr⟩ : ∃ nr, R.length = nr := ⟨_, rfl⟩
  have hx5 : Own w5 W2.heap.size (.slice Ax nr cx) R := by rw [← hnr]; exact ox5
  have hy5 : Own w5 w3.heap.size (.slice Ay nr cy) R := by rw [← hnr]; exact oy5
  have hxlt : ∀ b, (Value.slice Ax nr cx).ownBlock = some b → W2.heap.size ≤ b ∧ b < w3.heap.size := fun b e => by
    exact ox.lt b (by cases Ax <;> exact e)
  have hylt : ∀ b, (Value.slice Ay nr cy).ownBlock = some b → w3.heap.size ≤ b ∧ b < w4.heap.size := fun b e => oy.lt b (by cases Ay <;> exact e)
  rw [hnr] at hcx hcy ⊢
  have HNR := Lib.hid hnr
  have hnr4 : nr ≤ 4096 := by omega
  have sR : sameL R R = true := (sameL_iff R R).2 rfl
  have D1 : ∀ (A : Option Addr) (c : Nat) (j : Nat), Rd w5 w5.heap.size A R → Calls Try.prog 14 #[.slice A nr c, .slice AW nr cW] (w5.drewN j) fun e w' => e = .returned (.bool true) ∧ ∃ k, w' = (w5.drewN j).drewN k := fun A c j h => by
    have := changes_eq (w5.drewN j) A AW nr c cW R R hnr hnr w5.heap.size h rW (by omega)
    rw [sR] at this
    exact this
  have HD1 : Hid (Calls Try.prog 14 #[.slice Ax nr cx, .slice AW nr cW] w5 fun e w' => e = .returned (.bool true) ∧ ∃ k, w' = w5.drewN k) := D1 Ax cx 0 hx5.slice_.2.2
  have HD2 := Lib.hid (fun j => D1 Ay cy j hy5.slice_.2.2)
  clear D1 sR hR hup her hnr ox oy ox5 oy5 hl2 hR2 hR4 l3 l4 b4 b5 b43 b53 b44 b54
  go_wp2_with fail
  refine (num_any er _).mono ?_
  rintro e w6 ⟨rfl, rfl⟩
  go_wp2_with fail
  refine HD1.out.mono ?_
  rintro e w6 ⟨rfl, j6, rfl⟩
  go_wp2_with fail
  refine (HD2.out j6).mono ?_
  rintro e w6 ⟨rfl, j7, rfl⟩
  have hlx : Below w.heap.size w w5 := hab.trans (((bx.mono sz2).trans (by_.mono (by omega))).trans (bW.mono (by omega)))
  have hwf : ∃ wf : World, (w5.drewN j6).drewN j7 = wf := ⟨_, rfl⟩
  obtain ⟨wf, hwf⟩ := hwf
  have l6 : PLogAt wf g AL l := by rw [← hwf]; exact l5
  have b46 : Blk wf w.heap.size 43 #[.int .i64 l.keep, .slice AR nR cR, .int .i64 l.hor, .int .i64 l.last] := by rw [← hwf]; exact b45
  have x6 : Own wf W2.heap.size (.slice Ax nr cx) R := by rw [← hwf]; exact hx5
  have y6 : Own wf w3.heap.size (.slice Ay nr cy) R := by rw [← hwf]; exact hy5
  have rW6 : Rd wf wf.heap.size AW R := by rw [← hwf]; exact rW
  have bel6 : Below w.heap.size w wf := by rw [← hwf]; exact bel_drewN (bel_drewN hlx j6) j7
  have sz6 : w5.heap.size = wf.heap.size := by rw [← hwf]; rfl
  go_wp2
  clear hwf l5 b45 b55 hx5 hy5 rW HD1 HD2 hlR hl bx by_ bW hcx hcy HW2 hlx
  have hb0 := x6.lt
  go_loopw [16] (fun i wr => ∃ (k : Nat) (l' : List Ch), k ≤ nr ∧ i = .int .i64 k ∧ l'.length = nr ∧ Own wr W2.heap.size (.slice Ax nr cx) l' ∧ wf.grownBy wr (Value.slice Ax nr cx).ownBlock) (fun i _ => nr - (intOf i).toNat)
  case atStart => exact ⟨0, R, Nat.zero_le _, rfl, HNR.out, x6, World.grownBy.refl _ _⟩
  case round =>
    obtain ⟨k, l', hk, rfl, hl', hown, hgr⟩ := hrel
    have HLL := Lib.hid hl'
    by_cases hlt : k < nr
    · have hkl : k < l'.length := by omega
      obtain ⟨gx, cx2, e, hgx, hgx2, hcx2, hz⟩ := hown.at_ hkl
      generalize l'[k] = y at hz
      obtain ⟨z0, z1, z2, z3⟩ := hz
      injection e with e1 e2 e3
      subst e1 e3
      clear e2 hcx2
      have f0 := hown.frozenAt (k * 4)
      have f1 := hown.frozenAt (k * 4 + 1)
      have f2 := hown.frozenAt (k * 4 + 2)
      have f3 := hown.frozenAt (k * 4 + 3)
      have hst := hown.storeCh (k := k) (by rw [HLL.out]; exact hlt) ⟨99, .empty, .empty, 0⟩
      have hgr2 := only_setCell (only_setCell (only_setCell (only_setCell (g := gx) hgr (p := ⟨gx, k * 4, none⟩) rfl (.int .i64 99)) (p := ⟨gx, k * 4 + 1, none⟩) rfl (.string .empty)) (p := ⟨gx, k * 4 + 2, none⟩) rfl (.string .empty)) (p := ⟨gx, k * 4 + 3, none⟩) rfl (.int .i64 0)
      have HST := Lib.hid hst
      have HGR := Lib.hid hgr2
      clear hst hgr2 hgr hown hkl hl'
      go_wp2
      go_roundw
      case rel => exact ⟨k + 1, l'.set k ⟨99, .empty, .empty, 0⟩, by omega, by go_num, by rw [List.length_set]; exact HLL.out, HST.out, HGR.out⟩
      case measure => simp [intOf]; omega
    · clear hl'
      go_wp2
      go_loopw [7, 17] (fun v i wr => ∃ (q A2 c2 : _) (l' : List Ch), q ≤ 8 ∧ i = .int .i64 (q : Nat) ∧ v = .slice A2 (nr + q) c2 ∧ l'.length = nr + q ∧ Own wr W2.heap.size v l' ∧ wf.grownBy wr (Value.slice Ax nr cx).ownBlock ∧
        (v.ownBlock = (Value.slice Ax nr cx).ownBlock ∨ ∀ b, v.ownBlock = some b → wf.heap.size ≤ b)) (fun _ i _ => 8 - (intOf i).toNat)
      case atStart => exact ⟨0, Ax, cx, l', by omega, rfl, rfl, HLL.out, hown, hgr, .inl rfl⟩
      case round =>
        obtain ⟨q, A2, c2, l2, hq, rfl, rfl, hl2, hown2, hgr2, hat2⟩ := hrel
        have HL2 := Lib.hid hl2
        have HAT2 := Lib.hid hat2
        have HGR2 := Lib.hid hgr2
        have hsz := hgr2.size
        clear hl2 hat2 hgr2 hgr hown
        by_cases hq8 : q < 8
        · have r1 := hown2.alloc (.cells #[.int .i64 98, .string .empty, .string .empty, .int .i64 0] 36)
          have r2 := Rd.one wr wr.heap.size rfl 98 .empty .empty 0
          have hw2 := HL2.out
          have hwsz : W2.heap.size ≤ (wr.alloc (.cells #[.int .i64 98, .string .empty, .string .empty, .int .i64 0] 36)).heap.size := by simp <;> omega
          have hll : l2.length + 1 ≤ 16777216 := by omega
          clear hw2
          go_wp2_with (at_builtin; go_must (refine wpList_own _ rfl (.tmp 89) (.tmp 91) rfl W2.heap.size (.slice A2 (nr + q) c2) l2 rfl r1 hwsz _ (some ⟨wr.heap.size, 0, none⟩) 1 1 [Ch.mk 98 .empty .empty 0] rfl rfl r2 hll ?_; intro v' w1 hown3 hg hat; obtain ⟨A3, c3, rfl, hc3⟩ := hown3.len; rw [show (l2 ++ [Ch.mk 98 .empty .empty 0]).length = nr + (q + 1) from by rw [List.length_append, HL2.out]; rfl]))
          have hlen3 : (l2 ++ [Ch.mk 98 .empty .empty 0]).length = nr + (q + 1) := by rw [List.length_append, HL2.out]; rfl
          have hga : wr.grownBy (wr.alloc (.cells #[.int .i64 98, .string .empty, .string .empty, .int .i64 0] 36)) (Value.slice Ax nr cx).ownBlock := World.grownBy_alloc _ _ _
          have hgt := grown_trans2 (HGR2.out.trans hga) hg (fun b e => by
            rcases HAT2.out with h | h
            · exact .inl h
            · exact .inr (h b e))
          have hat3 : (Value.slice A3 (l2 ++ [Ch.mk 98 .empty .empty 0]).length c3).ownBlock = (Value.slice Ax nr cx).ownBlock ∨ ∀ b, (Value.slice A3 (l2 ++ [Ch.mk 98 .empty .empty 0]).length c3).ownBlock = some b → wf.heap.size ≤ b := by
            rcases hat with h | h
            · rw [h]; exact HAT2.out
            · right
              intro b e
              rw [h] at e
              injection e with e
              have h9 : ∀ X, (wr.alloc X).heap.size = wr.heap.size + 1 := fun X => by simp
              rw [h9] at e
              omega
          rw [hlen3] at hown3 hat3
          have HO3 := Lib.hid hown3
          have HA3 := Lib.hid hat3
          have HG3 := Lib.hid hgt
          have HE3 := Lib.hid hlen3
          clear hown3 hat3 hgt hg hat r1 r2 hga hlen3 hown2
          go_roundw
          case rel => exact ⟨q + 1, A3, c3, l2 ++ [Ch.mk 98 .empty .empty 0], by omega, by go_num, rfl, HE3.out, HO3.out, HG3.out, HA3.out⟩
          case measure => simp [intOf]; omega
        · have hgr3 := HGR2.out
          have l7 : PLogAt wr g AL l := by
            refine l6.grown hgr3 (fun e => ?_) (fun a ha e => ?_)
            · have := hxlt _ e.symm
              have hgl := hg0
              omega
            · obtain ⟨c, _, _, _, hA0, hrd⟩ := id l0
              rcases Nat.eq_zero_or_pos l.L.length with h0 | h0
              · rw [hA0 h0] at ha; cases ha
              · obtain ⟨b, off, e2, hb2, _⟩ := hrd h0
                rw [ha] at e2
                injection e2 with e2
                subst e2
                have := hxlt _ e.symm
                simp only at *
                omega
          have b47 : Blk wr w.heap.size 43 #[.int .i64 l.keep, .slice AR nR cR, .int .i64 l.hor, .int .i64 l.last] := b46.grown hgr3 (fun e => by have := hxlt _ e.symm; have := hab.size; have h43 := h43lt; omega)
          have y7 : Own wr w3.heap.size (.slice Ay nr cy) R := by
            refine y6.kept hgr3 ?_
            rcases hby : (Value.slice Ay nr cy).ownBlock with _ | b
            · exact .inl rfl
            · right
              intro e
              have h1 := hylt b hby
              have h2 := hxlt b e.symm
              omega
          have rW7 : Rd wr wr.heap.size AW R := by
            intro hl
            obtain ⟨b, off, e, hb, hc⟩ := rW6 hl
            have h1 := fW _ e
            refine ⟨b, off, e, Nat.lt_of_lt_of_le hb hgr3.size, fun i hi => ?_⟩
            obtain ⟨q0, q1, q2, q3⟩ := hc i hi
            have hk : ∀ o, wr.cell? ⟨b, o, none⟩ = wf.cell? ⟨b, o, none⟩ := fun o => World.cell?_of_block (w := wf) (a := ⟨b, o, none⟩) (hgr3.block b hb (fun e => by have := hxlt b e.symm; simp only at h1; omega))
            exact ⟨(hk _).trans q0, (hk _).trans q1, (hk _).trans q2, (hk _).trans q3⟩
          have bel7 : Below w.heap.size w wr := bel6.grown hgr3 (by omega) (fun b e => by have := hxlt b e; omega)
          have hch : ∀ j : Nat, Calls Try.prog 14 #[.slice Ay nr cy, .slice AW nr cW] (wr.drewN j) fun e w' => e = .returned (.bool true) ∧ ∃ k, w' = (wr.drewN j).drewN k := fun j => by
            have := changes_eq (wr.drewN j) Ay AW nr cy cW R R HNR.out HNR.out wr.heap.size y7.slice_.2.2 rW7 (by omega)
            rw [(sameL_iff R R).2 rfl] at this
            exact this
          have HCH := Lib.hid hch
          obtain ⟨c7, hb7, _⟩ := id l7
          have x1 := b47.cell 1
          have x2 := b47.cell 2
          have x3 := b47.cell 3
          simp at x1 x2 x3
          have HB7 := Lib.hid hb7
          have hbeq : ((l.L.length : Int) == (nR : Int)) = true := by rw [HNRR.out]; simp
          clear hch hb7 l7 y7 rW7 y6 rW6 x6 l6 b46 hxlt hylt fW hb0
          go_wp2
          go_quiet ((first | (go_at_call 14; exact Calls.quiet_of (HCH.out _)) | (go_at_call 18; exact quiet_left2 (horizon_any _ _ _ _ _ _ _ _ (HB7.out.drewN _))) | (go_at_call 11; exact quiet_left2 (last_any _ _ _ _ _ _ _ _ (HB7.out.drewN _))) | (go_at_call 19; exact quiet_left2 (size_any _ _ _ _ _ _ _ _ (HB7.out.drewN _)))))
          go_wp2
          go_ret
          exact ⟨rfl, bel_drewN bel7 _⟩
end Go.Proofs.Ytjdhmagkgoghpaa
