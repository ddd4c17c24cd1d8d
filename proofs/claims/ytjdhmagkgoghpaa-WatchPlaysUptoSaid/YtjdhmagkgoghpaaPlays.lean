/- WatchPlays: it returns true, and its arguments read as before, where what it reads is of bulk at most 1048576. -/
import Derived.Test.YtjdhmagkgoghpaaPla
import Derived.Test.YtjdhmagkgoghpaaOpen
import Derived.Test.YtjdhmagkgoghpaaPost
namespace Go.Proofs.Ytjdhmagkgoghpaa.plays
set_option linter.unusedVariables false
open Go.ChangeShapes Go.WideShapes Go.ChangeAt Go.RowKit
theorem own : ownKnob Try.prog.godebug = none := by kernel_rfl
def TB (w : World) (e : Ending) (w' : World) : Prop := e = .returned (.bool true) ∧ Below w.heap.size w w'
set_option maxRecDepth 100000 in
set_option maxHeartbeats 1600000 in
theorem no_more (w : World) (keep : Int) (A : Option Addr) (n c : Nat) (l : List Ac) (hl : l.length = n) (hA : Acts w w.heap.size A l) (hn : n ≤ 1048576) (hs : sumCh l ≤ 1048576) (h : fewB l = false) :
    Calls Try.prog 4 #[.int .i64 keep, .slice A n c] w (TB w) := by
  have HFW := few_any w A n c l hl hA hn hs
  rw [h] at HFW
  have HFW2 := Lib.hid HFW
  clear HFW h
  go_enter Try.func4, Try.ntmps4
  go_wp2_with fail
  refine HFW2.out.mono ?_
  rintro e w0 ⟨rfl, rfl⟩
  go_wp2_with fail
  refine (live_any _).mono ?_
  rintro e w5 ⟨rfl, hb5⟩
  go_wp2
  go_ret
  exact ⟨rfl, hb5⟩
set_option maxRecDepth 100000 in
set_option maxHeartbeats 1600000 in
theorem no_keep (w : World) (keep : Int) (A : Option Addr) (n c : Nat) (l : List Ac) (hl : l.length = n) (hA : Acts w w.heap.size A l) (hn : n ≤ 1048576) (hs : sumCh l ≤ 1048576) (h : fewB l = true) (hk : keep < 1 ∨ 4096 < keep) :
    Calls Try.prog 4 #[.int .i64 keep, .slice A n c] w (TB w) := by
  have HFW := few_any w A n c l hl hA hn hs
  rw [h] at HFW
  have HFW2 := Lib.hid HFW
  clear HFW h
  go_enter Try.func4, Try.ntmps4
  go_wp2_with fail
  refine HFW2.out.mono ?_
  rintro e w0 ⟨rfl, rfl⟩
  go_wp2_with fail
  refine (new_no keep w hk).mono ?_
  rintro e w0 ⟨rfl, rfl⟩
  go_wp2_with fail
  refine (refNew_no keep w hk).mono ?_
  rintro e w1 ⟨rfl, bel1⟩
  have sz1 := bel1.size
  go_wp2_with fail
  refine (num_any 2 _).mono ?_
  rintro e w2 ⟨rfl, rfl⟩
  go_wp2_with fail
  refine (live_any _).mono ?_
  rintro e w5 ⟨rfl, hb5⟩
  go_wp2
  go_ret
  exact ⟨rfl, (bel1.alloc sz1 _).trans (hb5.mono (by simp; omega))⟩
theorem any (w : World) (keep : Int) (A : Option Addr) (n c : Nat) (l : List Ac) (hl : l.length = n) (hA : Acts w w.heap.size A l) (hn : n ≤ 1048576) (hs : sumCh l ≤ 1048576) :
    Calls Try.prog 4 #[.int .i64 keep, .slice A n c] w (TB w) := by
  cases hf : fewB l
  · exact no_more w keep A n c l hl hA hn hs hf
  · by_cases hk : keep < 1 ∨ 4096 < keep
    · exact no_keep w keep A n c l hl hA hn hs hf hk
    · obtain ⟨k, rfl⟩ := Int.eq_ofNat_of_zero_le (show 0 ≤ keep by omega)
      exact plays_main w k A n c l hl hA hn hs hf (by omega) (by omega)
theorem readable : ∀ t ∈ Try.f4.params.toList, Try.prog.readableRec t = true ∧ t < Try.prog.types.size := by
  rw [Try.params4]
  intro t ht
  simp only [List.mem_cons, List.not_mem_nil, or_false] at ht
  rcases ht with rfl | rfl
  all_goals exact ⟨by kernel_rfl, of_decide_eq_true (by kernel_rfl)⟩
set_option maxRecDepth 100000 in
theorem contract (H : Type) (enc : TypeId × Value → H) (W : World) (base : Nat) (args : Array Value) (ds gs : List (DataW H)) (before : List MemPlace)
    (hval0 : ∀ (j : Nat) t v, Try.f4.params[j]? = some t → args[j]? = some v → Value.okWide Try.prog W .any base t v)
    (hW : DataW.Whole enc Try.prog Try.f4.params.toList Rows.watchPlaysSpec.vars false W args.toList ds gs before) (hk : Rows.uptoSmall H (ds ++ gs) = true) :
    Calls Try.prog 4 args W fun e W' => ∃ v, e = .returned v ∧ Rows.watchPlaysSpec.post enc Try.prog Try.f4 false true false false W args v W' := by
  have hval : ∀ (j : Nat) t v, Try.f4.params[j]? = some t → args[j]? = some v → Value.okWide Try.prog W .any base t v := hval0
  have hW' := hW
  obtain ⟨p, q, hA0, hV, rfl, hfz, hnd⟩ := hW
  have hA : DataW.TrodAll enc Try.prog W 0 (fun _ => true) true Try.f4.params.toList args.toList ds p := hA0
  have hkeepA := hA
  rw [Try.params4] at hA hval
  obtain ⟨rfl, rfl⟩ := trodVars_none hV
  simp only [List.append_nil] at hW' hk
  have hlt : ∀ x ∈ p, x.block < W.heap.size := fun x hx => hW'.lt x (by simpa using hx)
  obtain ⟨v0, v1, d0, d1, p0, p1, rfl, rfl, rfl, h0, h1⟩ := trodAll_two hA
  have hbd := bound hk
  simp only [Rows.uptoBulkAll] at hbd
  obtain ⟨keep, rfl, hd0, _, _⟩ := open_int Try.underlying3 (hval 0 3 v0 rfl rfl) h0
  obtain ⟨A, n, c, rfl⟩ := okWide_slice Try.underlying22 (hval 1 22 v1 rfl rfl)
  obtain ⟨f1, t1⟩ := h1
  obtain ⟨A2, n2, c2, l, e1, hl, hc, hacts, hb1, hb2⟩ := open_acts t1
  have e1' : Value.slice A n c = Value.slice A2 n2 c2 := by simpa [Value.cells] using e1
  injection e1' with e1 e2 e3
  subst e1 e2 e3
  have hwalk := any W keep A n c l hl hacts (by have : n ≤ Rows.uptoBulk d1 := hb1; omega) (by have : sumCh l ≤ Rows.uptoBulk d1 := hb2; omega)
  refine hwalk.mono fun e W2 ⟨he, hb⟩ => ?_
  subst he
  exact ⟨_, rfl, post_of_below (pa := p0 ++ p1) (pv := []) hW' (fun _ _ _ => trodAll_cons_mk (shut_bool Try.underlying4 _) trodAll_mk0)
    (fun sp hsp => trodAll_stays laidOut hb hkeepA readable hlt (fun x hx => hsp x (by simpa using hx))) (fun _ _ => rfl) (by simp) hb (ok_one (by kernel_rfl) rfl (okWide_bool_mk Try.underlying4 _))⟩
set_option maxRecDepth 100000 in
theorem lifted (os : Os) (started : os.Started) (H : Type) (enc : TypeId × Value → H) (F : Stop.Interp) :
    ReturnsInHanded {} Try.checked os 4 .any ((Rows.OpenSpec.upto Rows.watchPlaysSpec).pre6 enc Try.prog Try.f4 Rows.watchPlaysUptoRow.domain false) (((Rows.OpenSpec.upto Rows.watchPlaysSpec).at F).post enc Try.prog Try.f4 false true false false) := by
  refine returnsInHanded_of_cond (C := Try.checked) (s := Rows.OpenSpec.upto Rows.watchPlaysSpec) (k := Rows.uptoSmall) rfl own started (by kernel_rfl) Try.func4
    (OpenSpec.witness (enc := enc) (C := Try.checked) (s := Rows.OpenSpec.upto Rows.watchPlaysSpec) (k := Rows.uptoSmall) rfl false ⟨#[], #[.int .i64 0, .slice none 0 0], []⟩ 8 (by kernel_rfl) (by kernel_rfl) (by kernel_rfl)
      (x := ([.lit (.int .i64 0), .nil], [], [])) (by kernel_rfl) rfl (by kernel_rfl)) ?_
  intro W base args ds gs before hval hW _ hk _
  exact contract H enc W base args ds gs before hval hW hk
theorem over : Rows.watchPlaysUptoRow.holds Try.pinned (Rows.OpenSpec.upto Rows.watchPlaysSpec) :=
  OpenClaim.holds_of_cond 4 Try.f4 rfl rfl rfl rfl rfl rfl rfl ⟨rfl, rfl, rfl, rfl, rfl⟩ rfl rfl rfl rfl rfl (by kernel_rfl) Try.func4 (by kernel_rfl)
    (of_decide_eq_true (by kernel_rfl)) (by unfold Func.isWrapper; first | (rw [if_pos (by decide +kernel)]; kernel_rfl) | (rw [if_neg (by decide +kernel)]; exact ⟨rfl, rfl⟩))
    (fun os started H enc _ F => lifted os started H enc F)
theorem proved : Rows.WatchPlaysUptoSaid :=
  over
#print axioms proved
end Go.Proofs.Ytjdhmagkgoghpaa.plays
