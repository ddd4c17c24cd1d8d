/- WatchFollows: it returns true, and its arguments read as before, where what it reads is of bulk at most 1048576. -/
import Derived.Test.YtjdhmagkgoghpaaFol
import Derived.Test.YtjdhmagkgoghpaaOpen
import Derived.Test.YtjdhmagkgoghpaaPost
namespace Go.Proofs.Ytjdhmagkgoghpaa.follows
set_option linter.unusedVariables false
open Go.ChangeShapes Go.WideShapes Go.ChangeAt Go.RowKit
theorem own : ownKnob Try.prog.godebug = none := by kernel_rfl
set_option maxRecDepth 100000 in
set_option maxHeartbeats 1600000 in
theorem no_keep (w : World) (keep : Int) (A : Option Addr) (n c : Nat) (LA : Option Addr) (nl cl : Nat) (h : keep < 1 ∨ 4096 < keep) :
    Calls Try.prog 3 #[.int .i64 keep, .slice A n c, .slice LA nl cl] w (TrueBelow w) := by
  go_enter Try.func3, Try.ntmps3
  go_wp2_with fail
  refine (new_no keep w h).mono ?_
  rintro e w0 ⟨rfl, rfl⟩
  go_wp2_with (first | (go_at_call 8; refine (num_any 2 _).mono ?_; rintro e w5 ⟨rfl, rfl⟩) | (go_at_call 10; refine (live_any _).mono ?_; rintro e w5 ⟨rfl, hb5⟩))
  go_ret
  exact ⟨rfl, hb5⟩
set_option maxRecDepth 100000 in
set_option maxHeartbeats 1600000 in
theorem no_more (w : World) (keep : Int) (A : Option Addr) (n c : Nat) (l : List Ac) (hl : l.length = n) (hA : Acts w w.heap.size A l) (hn : n ≤ 1048576) (hs : sumCh l ≤ 1048576) (LA : Option Addr) (nl cl : Nat) (h1 : 1 ≤ keep) (h2 : keep ≤ 4096)
    (h : fewB l = false ∨ (fewB l = true ∧ nl = 0)) :
    Calls Try.prog 3 #[.int .i64 keep, .slice A n c, .slice LA nl cl] w (TrueBelow w) := by
  go_enter Try.func3, Try.ntmps3
  go_wp2_with fail
  refine (new_ok keep w h1 h2).mono ?_
  rintro e w0 ⟨rfl, h0⟩
  have bel0 : Below w.heap.size w w0 := by rw [← h0]; exact (Below.refl _ _).alloc (Nat.le_refl _) _
  clear h0
  have hA0 : Acts w0 w0.heap.size A l := by
    intro h
    obtain ⟨b, off, e, hb, hx⟩ := hA h
    refine ⟨b, off, e, Nat.lt_of_lt_of_le hb bel0.size, fun i hi => ?_⟩
    obtain ⟨A', c', h⟩ := hx i hi
    have h2 := h.keep hb (fun p hp => bel0.cell hp)
    exact ⟨A', c', h2.c0, h2.c1, h2.c2, h2.c3, h2.c4, h2.c5, h2.rd.more bel0.size, h2.le⟩
  have HFW := few_any w0 A n c l hl hA0 hn hs
  rcases h with h | ⟨h, rfl⟩
  all_goals
    rw [h] at HFW
    have HFW2 := Lib.hid HFW
    clear HFW h hA0
    go_wp2_with (first | (go_at_call 8; refine (num_any 0 _).mono ?_; rintro e w5 ⟨rfl, rfl⟩) | (go_at_call 9; go_must (refine HFW2.out.mono ?_); rintro e w5 ⟨rfl, rfl⟩) | (go_at_call 10; refine (live_any _).mono ?_; rintro e w5 ⟨rfl, hb5⟩))
    go_ret
    exact ⟨rfl, bel0.trans (hb5.mono bel0.size)⟩
theorem any (w : World) (keep : Int) (A : Option Addr) (n c : Nat) (l : List Ac) (hl : l.length = n) (hA : Acts w w.heap.size A l) (hn : n ≤ 1048576) (hs : sumCh l ≤ 1048576) (LA : Option Addr) (nl cl : Nat) (hnl : nl ≤ 1048576)
    (hlim : 0 < nl → ∃ bl ol, LA = some ⟨bl, ol, none⟩ ∧ bl < w.heap.size ∧ ∀ j, j < nl → ∃ x : Int, w.cell? ⟨bl, ol + j, none⟩ = some (.int .i64 x)) :
    Calls Try.prog 3 #[.int .i64 keep, .slice A n c, .slice LA nl cl] w (TrueBelow w) := by
  by_cases hk : keep < 1 ∨ 4096 < keep
  · exact no_keep w keep A n c LA nl cl hk
  · cases hf : fewB l
    · exact no_more w keep A n c l hl hA hn hs LA nl cl (by omega) (by omega) (.inl hf)
    · rcases Nat.eq_zero_or_pos nl with h0 | h0
      · exact no_more w keep A n c l hl hA hn hs LA nl cl (by omega) (by omega) (.inr ⟨hf, h0⟩)
      · obtain ⟨bl, ol, rfl, hb, hx⟩ := hlim h0
        obtain ⟨k, rfl⟩ := Int.eq_ofNat_of_zero_le (show 0 ≤ keep by omega)
        exact follows_main w k A n c l hl hA hn hs hf (by omega) (by omega) bl ol nl cl hb hx h0 hnl
theorem cells2 : Try.prog.cellsOf 2 = 1 := by kernel_rfl
theorem readable : ∀ t ∈ Try.f3.params.toList, Try.prog.readableRec t = true ∧ t < Try.prog.types.size := by
  rw [Try.params3]
  intro t ht
  simp only [List.mem_cons, List.not_mem_nil, or_false] at ht
  rcases ht with rfl | rfl | rfl
  all_goals exact ⟨by kernel_rfl, of_decide_eq_true (by kernel_rfl)⟩
set_option maxRecDepth 100000 in
theorem contract (H : Type) (enc : TypeId × Value → H) (W : World) (base : Nat) (args : Array Value) (ds gs : List (DataW H)) (before : List MemPlace)
    (hval0 : ∀ (j : Nat) t v, Try.f3.params[j]? = some t → args[j]? = some v → Value.okWide Try.prog W .any base t v)
    (hW : DataW.Whole enc Try.prog Try.f3.params.toList Rows.watchFollowsSpec.vars false W args.toList ds gs before) (hk : Rows.uptoSmall H (ds ++ gs) = true) :
    Calls Try.prog 3 args W fun e W' => ∃ v, e = .returned v ∧ Rows.watchFollowsSpec.post enc Try.prog Try.f3 false true false false W args v W' := by
  have hval : ∀ (j : Nat) t v, Try.f3.params[j]? = some t → args[j]? = some v → Value.okWide Try.prog W .any base t v := hval0
  have hW' := hW
  obtain ⟨p, q, hA0, hV, rfl, hfz, hnd⟩ := hW
  have hA : DataW.TrodAll enc Try.prog W 0 (fun _ => true) true Try.f3.params.toList args.toList ds p := hA0
  have hkeepA := hA
  rw [Try.params3] at hA hval
  obtain ⟨rfl, rfl⟩ := trodVars_none hV
  simp only [List.append_nil] at hW' hk
  have hlt : ∀ x ∈ p, x.block < W.heap.size := fun x hx => hW'.lt x (by simpa using hx)
  obtain ⟨v0, v1, v2, d0, d1, d2, p0, p1, p2, rfl, rfl, rfl, h0, h1, h2⟩ := trodAll_three hA
  have hbd := bound hk
  simp only [Rows.uptoBulkAll] at hbd
  obtain ⟨keep, rfl, hd0, _, _⟩ := open_int Try.underlying3 (hval 0 3 v0 rfl rfl) h0
  obtain ⟨A, n, c, rfl⟩ := okWide_slice Try.underlying22 (hval 1 22 v1 rfl rfl)
  obtain ⟨LA, nl, cl, rfl⟩ := okWide_slice Try.underlying23 (hval 2 23 v2 rfl rfl)
  obtain ⟨f1, t1⟩ := h1
  obtain ⟨f2, t2⟩ := h2
  obtain ⟨A2, n2, c2, l, e1, hl, hc, hacts, hb1, hb2⟩ := open_acts t1
  have e1' : Value.slice A n c = Value.slice A2 n2 c2 := by simpa [Value.cells] using e1
  injection e1' with e1 e2 e3
  subst e1 e2 e3
  have hlims : nl ≤ 1048576 ∧ (0 < nl → ∃ bl ol, LA = some ⟨bl, ol, none⟩ ∧ bl < W.heap.size ∧ ∀ j, j < nl → ∃ x : Int, W.cell? ⟨bl, ol + j, none⟩ = some (.int .i64 x)) := by
    rcases open_ints Try.underlying23 Try.underlying2 cells2 t2 with ⟨e, _⟩ | ⟨a, len, cap, zs, e, _, hlc, _, hz, hx, hcell, _⟩
    · simp only [Value.cells, List.cons.injEq, Value.slice.injEq, and_true] at e
      obtain ⟨rfl, rfl, rfl⟩ := e
      exact ⟨by omega, fun h => by omega⟩
    · simp only [Value.cells, List.cons.injEq, Value.slice.injEq, and_true] at e
      obtain ⟨rfl, rfl, rfl⟩ := e
      have hzl : nl ≤ zs.length := by rw [hz]; simp; omega
      have hdl := slice_le (H := H) (lits .i64 (zs.take nl)) (lits .i64 (zs.drop nl))
      have hd2 : d2 = .slice (lits .i64 (zs.take nl)) (lits .i64 (zs.drop nl)) := congrArg Prod.fst hx
      rw [hd2] at hbd
      simp only [lits, List.length_map, List.length_take, List.length_drop] at hdl hbd
      refine ⟨by omega, fun hpos => ?_⟩
      have hc0 := hcell 0 (by omega)
      have ha : a.add 0 = a := rfl
      rw [ha] at hc0
      have hsp := addr_none hc0
      refine ⟨a.block, a.off, by rw [← hsp], block_lt_of_cell hc0, fun j hj => ⟨zs.getD j 0, ?_⟩⟩
      have := hcell j (by omega)
      rw [hsp, add_lit] at this
      exact this
  have hwalk := any W keep A n c l hl hacts (by have : n ≤ Rows.uptoBulk d1 := hb1; omega) (by have : sumCh l ≤ Rows.uptoBulk d1 := hb2; omega) LA nl cl hlims.1 hlims.2
  refine hwalk.mono fun e W2 ⟨he, hb⟩ => ?_
  subst he
  exact ⟨_, rfl, post_of_below (pa := p0 ++ p1 ++ p2) (pv := []) hW' (fun _ _ _ => trodAll_cons_mk (shut_bool Try.underlying4 _) trodAll_mk0)
    (fun sp hsp => trodAll_stays laidOut hb hkeepA readable hlt (fun x hx => hsp x (by simpa using hx))) (fun _ _ => rfl) (by simp) hb (ok_one (by kernel_rfl) rfl (okWide_bool_mk Try.underlying4 _))⟩
set_option maxRecDepth 100000 in
theorem lifted (os : Os) (started : os.Started) (H : Type) (enc : TypeId × Value → H) (F : Stop.Interp) :
    ReturnsInHanded {} Try.checked os 3 .any ((Rows.OpenSpec.upto Rows.watchFollowsSpec).pre6 enc Try.prog Try.f3 Rows.watchFollowsUptoRow.domain false) (((Rows.OpenSpec.upto Rows.watchFollowsSpec).at F).post enc Try.prog Try.f3 false true false false) := by
  refine returnsInHanded_of_cond (C := Try.checked) (s := Rows.OpenSpec.upto Rows.watchFollowsSpec) (k := Rows.uptoSmall) rfl own started (by kernel_rfl) Try.func3
    (OpenSpec.witness (enc := enc) (C := Try.checked) (s := Rows.OpenSpec.upto Rows.watchFollowsSpec) (k := Rows.uptoSmall) rfl false ⟨#[], #[.int .i64 0, .slice none 0 0, .slice none 0 0], []⟩ 8 (by kernel_rfl) (by kernel_rfl) (by kernel_rfl)
      (x := ([.lit (.int .i64 0), .nil, .nil], [], [])) (by kernel_rfl) rfl (by kernel_rfl)) ?_
  intro W base args ds gs before hval hW _ hk _
  exact contract H enc W base args ds gs before hval hW hk
theorem over : Rows.watchFollowsUptoRow.holds Try.pinned (Rows.OpenSpec.upto Rows.watchFollowsSpec) :=
  OpenClaim.holds_of_cond 3 Try.f3 rfl rfl rfl rfl rfl rfl rfl ⟨rfl, rfl, rfl, rfl, rfl⟩ rfl rfl rfl rfl rfl (by kernel_rfl) Try.func3 (by kernel_rfl)
    (of_decide_eq_true (by kernel_rfl)) (by unfold Func.isWrapper; first | (rw [if_pos (by decide +kernel)]; kernel_rfl) | (rw [if_neg (by decide +kernel)]; exact ⟨rfl, rfl⟩))
    (fun os started H enc _ F => lifted os started H enc F)
theorem proved : Rows.WatchFollowsUptoSaid :=
  over
#print axioms proved
end Go.Proofs.Ytjdhmagkgoghpaa.follows
