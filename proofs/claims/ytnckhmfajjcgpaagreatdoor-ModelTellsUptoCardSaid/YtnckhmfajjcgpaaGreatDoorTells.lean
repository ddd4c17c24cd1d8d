/- ModelTells: it returns true, and its argument reads as before, where what it reads is of bulk at most 1048576. The tied card: the listed variables are the program's own text's. -/
import Derived.Test.YtnckhmfajjcgpaaGreatDoorRows
import Derived.Test.YtnckhmfajjcgpaaGreatDoorTied
import Derived.Test.YtnckhmfajjcgpaaGreatDoorCards
import Derived.SevenTiedAt
import Derived.ProofKit
import Derived.OpenShut
import Derived.Deep.DeepHandedRow
import Derived.Lib.LaidU8T
import Derived.Test.YtnckhmfajjcgpaaGreatDoorPost
import Derived.Test.YtnckhmfajjcgpaaGreatDoorMtL
import Derived.Test.YtnckhmfajjcgpaaGreatDoorMtM
import Derived.Test.YtnckhmfajjcgpaaGreatDoorMtN
import Derived.Test.YtnckhmfajjcgpaaGreatDoorFa
import Derived.Test.YtnckhmfajjcgpaaGreatDoorWitD
import Derived.Test.YtnckhmfajjcgpaaGreatDoorWitE
namespace Go.Proofs.YtnckhmfajjcgpaaGreatDoor.modelTells
set_option linter.unusedVariables false
open Go.ChangeShapes Go.WideShapes Go.ChangeAt Go.RowKit
theorem own : ownKnob Tryz.prog.godebug = none := by kernel_rfl
theorem noInit : Tryz.prog.inits.idxOf? 3 = none := by kernel_rfl
theorem handles : (Rows.modelTellsUptoRow.laid.filter fun x => x.2.handleName?.isSome) = [("errors.errorType", Rows.laid_errors_errorType)] := by kernel_rfl
theorem first_eq : Rows.laid_unicode_utf8_first = Lib.firstData := by kernel_rfl
theorem accept_eq : (Rows.laid_unicode_utf8_acceptRanges : DataW Unit) = Lib.acceptData := by kernel_rfl
theorem pow_eq : (Rows.laid_internal_strconv_uint64pow10 : DataW Unit) = Lib.tabData .u64 Lib.pow10Tab := by kernel_rfl
set_option maxRecDepth 100000 in
theorem reads_of_laid {W : World} (h : laidMetH Tryz.prog Rows.modelTellsUptoRow.laid W) {n : String} {d : DataW Unit} (hm : (n, d) ∈ Rows.modelTellsUptoRow.laid) (hd : d.handleName?.isNone = true) : Lib.VarReads Tryz.prog W n d := by
  unfold laidMetH at h
  rw [handles] at h
  exact Lib.laidMet.reads h.1 (List.mem_filter.2 ⟨hm, hd⟩)
theorem u8x : U8Extra Tryz.prog Mt.Tryz.layVS_ren := ⟨by kernel_rfl, by kernel_rfl, by kernel_rfl, by kernel_rfl, by kernel_rfl, by kernel_rfl, by kernel_rfl⟩
theorem cells640 : Tryz.prog.cellsOf 640 = 20 := by kernel_rfl
theorem cells230 : Tryz.prog.cellsOf 230 = 1 := by kernel_rfl
/-- the library's tables, off the row's condition -/
theorem tb_of_laid {W : World} (h : laidMetH Tryz.prog Rows.modelTellsUptoRow.laid W) : Mt.TbP W.heap.size W := by
  have r3 := reads_of_laid h (n := "unicode/utf8.first") (d := Rows.laid_unicode_utf8_first) (by simp [Rows.modelTellsUptoRow]) (by kernel_rfl)
  have r4 := reads_of_laid h (n := "unicode/utf8.acceptRanges") (d := Rows.laid_unicode_utf8_acceptRanges) (by simp [Rows.modelTellsUptoRow]) (by kernel_rfl)
  have r5 := reads_of_laid h (n := "internal/strconv.uint64pow10") (d := Rows.laid_internal_strconv_uint64pow10) (by simp [Rows.modelTellsUptoRow]) (by kernel_rfl)
  rw [first_eq] at r3
  rw [accept_eq] at r4
  rw [pow_eq] at r5
  have hu : Lib.Utf8Tabs 3 4 W := utf8Tabs_of_readsT (U8Types.of196 Mt.Tryz.layVS) u8x r3 r4
  refine ⟨Nat.le_refl _, ⟨?_, ?_⟩, hu, ?_⟩
  · exact Mt.block_lt_of_cell (hu.1 0 (by decide))
  · exact Mt.block_lt_of_cell (hu.2 0 (by decide)).1
  · obtain ⟨g, t, cs, fuel, p, hg, hty, hvar, hd⟩ := r5
    obtain rfl := Option.some.inj ((show Tryz.prog.globalNamed "internal/strconv.uint64pow10" = some 8 by kernel_rfl).symm.trans hg)
    obtain rfl := Option.some.inj ((show (Tryz.prog.globals[8]?).map (·.type) = some 640 by kernel_rfl).symm.trans hty)
    have hcs := Lib.cells_of_tab Tryz.underlying640 Tryz.underlying230 cells230 cells640 hd
    refine Lib.tabBelow_of_tabIs ?_
    unfold Lib.TabIs
    rw [hvar, ← hcs]
theorem readable : ∀ t ∈ Tryz.f3.params.toList, Tryz.prog.readableRec t = true ∧ t < Tryz.prog.types.size := by
  rw [Tryz.params3]
  intro t ht
  simp only [List.mem_cons, List.not_mem_nil, or_false] at ht
  subst ht
  exact ⟨by kernel_rfl, of_decide_eq_true (by kernel_rfl)⟩
theorem laidOut : laidOutB Tryz.prog = true := fa.a1
/-- what was read reads behind the call as before -/
theorem trodAll_stays {H : Type} {enc : TypeId × Value → H} {P : Program} (hl : laidOutB P = true) {W W' : World} {sp : Nat → Bool} (hb : Below W.heap.size W W') : ∀ {ts : List TypeId} {vs : List Value} {ds : List (DataW H)} {ps : List MemPlace},
    DataW.TrodAll enc P W 0 (fun _ => true) true ts vs ds ps → (∀ t ∈ ts, P.readableRec t = true ∧ t < P.types.size) → (∀ x ∈ ps, x.block < W.heap.size) → (∀ x ∈ ps, sp x.block = true) →
    DataW.TrodAll enc P W' 0 sp true ts vs ds ps
  | [], vs, ds, ps, h, _, _, _ => by
    obtain ⟨rfl, rfl, rfl⟩ := trodAll_nil h
    exact trodAll_mk0
  | t :: ts, vs, ds, ps, h, hr, hlt, hsp => by
    obtain ⟨v0, vs0, d0, ds0, p0, q0, rfl, rfl, rfl, h0, r0⟩ := trodAll_cons h
    have hr0 := hr t (by simp)
    have h1 := WideElems.Trod_stays (W' := W') (sp' := sp) hl hr0.1 hr0.2 h0 (fun x hx => hb.same (hlt x (List.mem_append.2 (.inl hx)))) (fun x hx => hsp x (List.mem_append.2 (.inl hx)))
    have h2 := trodAll_stays hl hb r0 (fun t ht => hr t (by simp [ht])) (fun x hx => hlt x (List.mem_append.2 (.inr hx))) (fun x hx => hsp x (List.mem_append.2 (.inr hx)))
    exact trodAll_cons_mk h1 h2
theorem bad_m : Mt.BadOk 26 Mt.bt := fun e w he => Mt.same_m (Mt.all_same he) w
theorem bad_r : Mt.BadOk 38 Mt.bt := fun e w he => Mt.same_r (Mt.all_same he) w
set_option maxRecDepth 100000 in
theorem contract (H : Type) (enc : TypeId × Value → H) (W : World) (base : Nat) (args : Array Value) (ds gs : List (DataW H)) (before : List MemPlace)
    (hval0 : ∀ (j : Nat) t v, Tryz.f3.params[j]? = some t → args[j]? = some v → Value.okWide Tryz.prog W .any base t v)
    (hW : DataW.Whole enc Tryz.prog Tryz.f3.params.toList Rows.modelTellsSpec.vars false W args.toList ds gs before) (hk : Rows.uptoSmall H (ds ++ gs) = true) (hL : laidMetH Tryz.prog Rows.modelTellsUptoRow.laid W) :
    Calls Tryz.prog 3 args W fun e W' => ∃ v, e = .returned v ∧ Rows.modelTellsSpec.post enc Tryz.prog Tryz.f3 false true false false W args v W' := by
  have hval : ∀ (j : Nat) t v, Tryz.f3.params[j]? = some t → args[j]? = some v → Value.okWide Tryz.prog W .any base t v := hval0
  have hW' := hW
  obtain ⟨p, q, hA0, hV, rfl, hfz, hnd⟩ := hW
  have hA : DataW.TrodAll enc Tryz.prog W 0 (fun _ => true) true Tryz.f3.params.toList args.toList ds p := hA0
  have hkeepA := hA
  rw [Tryz.params3] at hA hval
  obtain ⟨rfl, rfl⟩ := trodVars_none hV
  simp only [List.append_nil] at hW' hk
  have hlt : ∀ x ∈ p, x.block < W.heap.size := fun x hx => hW'.lt x (by simpa using hx)
  obtain ⟨v0, d0, rfl, rfl, h0⟩ := trodAll_one hA
  have hbd := Mt.bound hk
  simp only [Rows.uptoBulkAll] at hbd
  obtain ⟨ca, rfl, _⟩ := okWide_struct Tryz.underlying24 (hval 0 24 v0 rfl rfl)
  obtain ⟨f1, t1⟩ := h0
  obtain ⟨a, s, A, c, dl, fl, hcs, hl, hb, hq, ra, rs⟩ := Mt.open_page t1 (by show Rows.uptoBulk d0 ≤ _; omega)
  obtain rfl : ca = #[.int .i64 a, .int .i64 s, .slice A dl.length c, .bool fl] := Array.toList_inj.1 hcs
  refine (Mt.law_any bad_m bad_r (fun w => Mt.live_any w) W (tb_of_laid hL) a s A dl.length c dl fl rfl hl hb hq ra rs).mono fun e W2 ⟨he, hb2⟩ => ?_
  subst he
  exact ⟨_, rfl, post_of_below (pa := p) (pv := []) hW' (fun _ _ _ => trodAll_cons_mk (shut_bool Tryz.underlying4 _) trodAll_mk0)
    (fun sp hsp => trodAll_stays laidOut hb2 hkeepA readable hlt (fun x hx => hsp x (by simpa using hx))) (fun _ _ => rfl) (by simp) hb2 (ok_one (by kernel_rfl) rfl (okWide_bool_mk Tryz.underlying4 _))⟩
noncomputable def args0 : Array Value := #[.agg #[.int .i64 0, .int .i64 0, .slice none 0 0, .bool false]]
theorem ok0 (os : Os) : Input.okWideB Tryz.prog ((wit.start os).forCall (fun _ _ => 0) ⟨#[], args0, []⟩) 3 ⟨#[], args0, []⟩ = true := by kernel_rfl
theorem whole0 (H : Type) (enc : TypeId × Value → H) (os : Os) : DataW.whole enc Tryz.prog ((wit.start os).forCall (fun _ _ => 0) ⟨#[], args0, []⟩).memory Tryz.f3.params.toList Rows.modelTellsSpec.vars false args0.toList 8 = some ([.agg [.lit (.int .i64 0), .lit (.int .i64 0), .nil, .lit (.bool false)]], [], []) := by kernel_rfl
theorem siz0 (H : Type) (enc : TypeId × Value → H) (os : Os) : Rows.modelTellsSpec.sizedB enc Tryz.prog Tryz.f3 false ((wit.start os).forCall (fun _ _ => 0) ⟨#[], args0, []⟩).memory args0 8 = true := by kernel_rfl
theorem small0 (H : Type) : Rows.uptoSmall H [.agg [.lit (.int .i64 0), .lit (.int .i64 0), .nil, .lit (.bool false)]] = true := by kernel_rfl
theorem shaped0 (os : Os) : ((wit.start os).forCall (fun _ _ => 0) ⟨#[], args0, []⟩).Shaped Tryz.prog := wit.shaped os
set_option maxRecDepth 100000 in
theorem lifted (os : Os) (started : os.Started) (H : Type) (enc : TypeId × Value → H) (F : Stop.Interp) :
    ReturnsInHanded {} Tryz.checked os 3 .any ((Rows.OpenSpec.upto Rows.modelTellsSpec).preRow enc Tryz.prog Tryz.f3 [] false Rows.modelTellsUptoRow.laid) (((Rows.OpenSpec.upto Rows.modelTellsSpec).at F).post enc Tryz.prog Tryz.f3 false true false false) := by
  refine returnsInHanded_of_row (C := Tryz.checked) own started noInit Tryz.func3
    ⟨wit.start os, fun _ _ => 0, ⟨#[], args0, []⟩, wit.start_os os, shaped0 os, (Input.okWide_of_okWideB (base := 0) (ok0 os)).1, (Input.okWide_of_okWideB (ok0 os)).2,
      ⟨⟨(OpenSpec.pre_some (k := Rows.uptoSmall) rfl [] false _ _).2 ⟨_, _, _, DataW.Whole_of_whole (whole0 H enc os), rfl, small0 H⟩, wit.mets os args0⟩, sizedMet_of_sizedB (siz0 H enc os)⟩, by
        simp only [Assume.holds]
        exact ⟨by simp, by simp, fun _ => Modest.zero, by simp, by simp⟩⟩ ?_
  intro W base args ds gs before hval hW _ hk _ hL _ _
  exact contract H enc W base args ds gs before hval hW (hk _ rfl) hL
theorem over : Rows.modelTellsUptoRow.holds Tryz.pinned (Rows.OpenSpec.upto Rows.modelTellsSpec) :=
  OpenClaim.holds_of_cond 3 Tryz.f3 rfl rfl rfl rfl rfl rfl rfl ⟨rfl, rfl, rfl, rfl, rfl⟩ rfl rfl rfl rfl rfl (by kernel_rfl) Tryz.func3 fa.closed
    (of_decide_eq_true (by kernel_rfl)) (by unfold Func.isWrapper; first | (rw [if_pos (by decide +kernel)]; kernel_rfl) | (rw [if_neg (by decide +kernel)]; exact ⟨rfl, rfl⟩))
    (fun os started H enc _ F => by rw [OpenClaim.pre_eq_preRow]; exact lifted os started H enc F)
theorem said : Rows.ModelTellsUptoSaid := over
theorem proved : Rows.ModelTellsUptoCardSaid :=
  Claim7.holds_tied_plain_at .later [] [.sentinel, .sentinel, .data, .data, .data, .pinned, .data, .handle, .data, .data] true (true, "82e642754bf4a515ed69785c3ee09fca7bc51ada840662f1d93d65e0d2d83e5a") true
    said (fun _ h => by cases h) (by kernel_rfl) (fun _ h => by cases h) tied.row_tie rfl ⟨rfl, rfl⟩ (by kernel_rfl) rfl
    (fun f fn hf hfn => by
      obtain rfl : f = 3 := Option.some.inj (fa.named.symm.trans hf) |>.symm
      obtain rfl : fn = Tryz.f3 := (Option.some.inj (Tryz.func3.symm.trans hfn)).symm
      exact ⟨by kernel_rfl, fun j t ht => by
        rw [Tryz.params3] at ht
        rcases j with _ | j <;> simp at ht
        subst ht
        exact (show Tryz.prog.wantsStandIn 24 = false by kernel_rfl)⟩)
    fa.goes
#print axioms proved
end Go.Proofs.YtnckhmfajjcgpaaGreatDoor.modelTells
