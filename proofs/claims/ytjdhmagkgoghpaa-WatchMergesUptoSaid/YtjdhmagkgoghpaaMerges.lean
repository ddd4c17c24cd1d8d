/- WatchMerges: it returns true, and its arguments read as before, where what it reads is of bulk at most 1048576. -/
import Derived.Test.YtjdhmagkgoghpaaMrs
import Derived.Test.YtjdhmagkgoghpaaOpen
import Derived.Test.YtjdhmagkgoghpaaPost
namespace Go.Proofs.Ytjdhmagkgoghpaa.merges
set_option linter.unusedVariables false
open Go.ChangeShapes Go.WideShapes Go.ChangeAt Go.RowKit Go.Deep
theorem own : ownKnob Try.prog.godebug = none := by kernel_rfl
theorem cells31 : Try.prog.cellsOf 31 = 1 := by kernel_rfl
section
variable {H : Type} {enc : TypeId × Value → H} {w : World} {held : Bool}
/-- a slice of slices of changes, opened -/
theorem open_logs {base : Nat} {spare : Nat → Bool} {fuel : Nat} {cs : List Value} {x : DataW H × List MemPlace} (h : DataW.trod enc Try.prog w base spare held fuel 50 cs = some x) :
    ∃ (A : Option Addr) (len cap : Nat) (ls : List (List Ch)), cs = [.slice A len cap] ∧ ls.length = len ∧ len ≤ cap ∧ Rss w w.heap.size A ls ∧ len ≤ Rows.uptoBulk x.1 ∧ tot ls ≤ Rows.uptoBulk x.1 := by
  rcases open_slice Try.underlying50 h with ⟨rfl, rfl⟩ | ⟨a, len, cap, m, n, D, Pl, rfl, hb, hlc, hcm, hm, rfl, hi⟩
  · exact ⟨none, 0, 0, [], rfl, rfl, Nat.le_refl _, fun h => by simp at h, Nat.zero_le _, by simp [tot]⟩
  · have hlm : len ≤ m := by rw [hm]; split <;> omega
    have hch : ∀ i, i < len → ∃ l : List Ch, (a.spot = none ∧ a.block < w.heap.size) ∧ (∃ A' c', w.cell? ⟨a.block, a.off + i, none⟩ = some (.slice A' l.length c') ∧ l.length ≤ c' ∧ Rd w w.heap.size A' l) ∧ l.length ≤ Rows.uptoBulk (D i) := by
      intro i hil
      obtain ⟨cs', hc, t1⟩ := hi i (by omega)
      rw [cells31, Nat.mul_one] at hc
      obtain ⟨A', len', cap', l', e1, hl', hlc', _, hrd', hbk, _⟩ := open_changes t1
      subst e1
      obtain ⟨_, _, hat⟩ := World.cells?_some hc
      have c0 := hat 0 (by omega)
      have c0' : w.cell? (a.add i) = some (.slice A' len' cap') := c0
      obtain ⟨cs0, hc0, t0⟩ := hi 0 (by omega)
      rw [cells31, Nat.mul_one] at hc0
      obtain ⟨A0, len0, cap0, l0, e0, _⟩ := open_changes t0
      subst e0
      obtain ⟨_, _, hat0⟩ := World.cells?_some hc0
      have d0 := hat0 0 (by omega)
      have d0' : w.cell? a = some (.slice A0 len0 cap0) := d0
      have hsp := spot_none d0'
      have hbl := block_lt_of_cell d0'
      have ha : a = ⟨a.block, a.off, none⟩ := by cases a; simp_all
      subst hl'
      rw [ha, add_lit] at c0'
      exact ⟨l', ⟨hsp, hbl⟩, ⟨A', cap', c0', hlc', hrd'⟩, hbk⟩
    obtain ⟨f, hf⟩ := choose_lt (n := len) hch
    refine ⟨some a, len, cap, (List.range len).map f, rfl, by simp, hlc, fun hpos => ?_, ?_, ?_⟩
    · have hpos' : 0 < len := by simpa using hpos
      have ha := (hf 0 hpos').1
      refine ⟨a.block, a.off, by obtain ⟨ab, ao, asp⟩ := a; simp only at ha; rw [ha.1], ha.2, fun i l hil => ?_⟩
      have hil' : i < len := by have := (List.getElem?_eq_some_iff.1 hil).1; simpa using this
      rw [List.getElem?_map, List.getElem?_range hil'] at hil
      injection hil with hil
      subst hil
      exact (hf i hil').2.1
    · have := slice_le ((List.range len).map D) ((List.range (m - len)).map fun j => D (len + j))
      simp at this
      show len ≤ Rows.uptoBulk (DataW.slice _ _)
      omega
    · have h1 := bulk_list D (fun i => (f i).length) len fun i hi => (hf i hi).2.2
      have h2 := slice_elems ((List.range len).map D) ((List.range (m - len)).map fun j => D (len + j))
      unfold tot
      rw [List.map_map]
      show ((List.range len).map fun i => (f i).length).sum ≤ Rows.uptoBulk (DataW.slice _ _)
      omega
end
theorem readable : ∀ t ∈ Try.f6.params.toList, Try.prog.readableRec t = true ∧ t < Try.prog.types.size := by
  rw [Try.params6]
  intro t ht
  simp only [List.mem_cons, List.not_mem_nil, or_false] at ht
  rcases ht with rfl
  all_goals exact ⟨by kernel_rfl, of_decide_eq_true (by kernel_rfl)⟩
set_option maxRecDepth 100000 in
theorem contract (H : Type) (enc : TypeId × Value → H) (W : World) (base : Nat) (args : Array Value) (ds gs : List (DataW H)) (before : List MemPlace)
    (hval0 : ∀ (j : Nat) t v, Try.f6.params[j]? = some t → args[j]? = some v → Value.okWide Try.prog W .any base t v)
    (hW : DataW.Whole enc Try.prog Try.f6.params.toList Rows.watchMergesSpec.vars false W args.toList ds gs before) (hk : Rows.uptoSmall H (ds ++ gs) = true) :
    Calls Try.prog 6 args W fun e W' => ∃ v, e = .returned v ∧ Rows.watchMergesSpec.post enc Try.prog Try.f6 false true false false W args v W' := by
  have hval : ∀ (j : Nat) t v, Try.f6.params[j]? = some t → args[j]? = some v → Value.okWide Try.prog W .any base t v := hval0
  have hW' := hW
  obtain ⟨p, q, hA0, hV, rfl, hfz, hnd⟩ := hW
  have hA : DataW.TrodAll enc Try.prog W 0 (fun _ => true) true Try.f6.params.toList args.toList ds p := hA0
  have hkeepA := hA
  rw [Try.params6] at hA hval
  obtain ⟨rfl, rfl⟩ := trodVars_none hV
  simp only [List.append_nil] at hW' hk
  have hlt : ∀ x ∈ p, x.block < W.heap.size := fun x hx => hW'.lt x (by simpa using hx)
  obtain ⟨v0, d0, rfl, rfl, h0⟩ := trodAll_one hA
  have hbd := bound hk
  simp only [Rows.uptoBulkAll] at hbd
  obtain ⟨A, n, c, rfl⟩ := okWide_slice Try.underlying50 (hval 0 50 v0 rfl rfl)
  obtain ⟨f1, t1⟩ := h0
  obtain ⟨A2, n2, c2, l, e1, hl, hc, hacts, hb1, hb2⟩ := open_logs t1
  have e1' : Value.slice A n c = Value.slice A2 n2 c2 := by simpa [Value.cells] using e1
  injection e1' with e1 e2 e3
  subst e1 e2 e3
  have hwalk := merges_main W A n c l hl hacts (by have : n ≤ Rows.uptoBulk d0 := hb1; omega) (by have : tot l ≤ Rows.uptoBulk d0 := hb2; omega)
  refine hwalk.mono fun e W2 ⟨he, hb⟩ => ?_
  subst he
  exact ⟨_, rfl, post_of_below (pa := p) (pv := []) hW' (fun _ _ _ => trodAll_cons_mk (shut_bool Try.underlying4 _) trodAll_mk0)
    (fun sp hsp => trodAll_stays laidOut hb hkeepA readable hlt (fun x hx => hsp x (by simpa using hx))) (fun _ _ => rfl) (by simp) hb (ok_one (by kernel_rfl) rfl (okWide_bool_mk Try.underlying4 _))⟩
set_option maxRecDepth 100000 in
theorem lifted (os : Os) (started : os.Started) (H : Type) (enc : TypeId × Value → H) (F : Stop.Interp) :
    ReturnsInHanded {} Try.checked os 6 .any ((Rows.OpenSpec.upto Rows.watchMergesSpec).pre6 enc Try.prog Try.f6 Rows.watchMergesUptoRow.domain false) (((Rows.OpenSpec.upto Rows.watchMergesSpec).at F).post enc Try.prog Try.f6 false true false false) := by
  refine returnsInHanded_of_cond (C := Try.checked) (s := Rows.OpenSpec.upto Rows.watchMergesSpec) (k := Rows.uptoSmall) rfl own started (by kernel_rfl) Try.func6
    (OpenSpec.witness (enc := enc) (C := Try.checked) (s := Rows.OpenSpec.upto Rows.watchMergesSpec) (k := Rows.uptoSmall) rfl false ⟨#[], #[.slice none 0 0], []⟩ 8 (by kernel_rfl) (by kernel_rfl) (by kernel_rfl)
      (x := ([.nil], [], [])) (by kernel_rfl) rfl (by kernel_rfl)) ?_
  intro W base args ds gs before hval hW _ hk _
  exact contract H enc W base args ds gs before hval hW hk
theorem over : Rows.watchMergesUptoRow.holds Try.pinned (Rows.OpenSpec.upto Rows.watchMergesSpec) :=
  OpenClaim.holds_of_cond 6 Try.f6 rfl rfl rfl rfl rfl rfl rfl ⟨rfl, rfl, rfl, rfl, rfl⟩ rfl rfl rfl rfl rfl (by kernel_rfl) Try.func6 (by kernel_rfl)
    (of_decide_eq_true (by kernel_rfl)) (by unfold Func.isWrapper; first | (rw [if_pos (by decide +kernel)]; kernel_rfl) | (rw [if_neg (by decide +kernel)]; exact ⟨rfl, rfl⟩))
    (fun os started H enc _ F => lifted os started H enc F)
theorem proved : Rows.WatchMergesUptoSaid :=
  over
#print axioms proved
end Go.Proofs.Ytjdhmagkgoghpaa.merges
