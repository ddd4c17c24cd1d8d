/- DumpDiffers: it returns true, and its arguments read as before, where what it reads is of bulk at most 1048576. The tied card: the listed variables are the program's own text's. -/
import Derived.Test.YtbjmakigdglghaaGreatDoorRows
import Derived.Test.YtbjmakigdglghaaGreatDoorTie
import Derived.Test.YtbjmakigdglghaaGreatDoorCards
import Derived.SevenTiedAt
import Derived.ProofKit
import Derived.MakeChecks
import Derived.OpenShut
import Derived.Deep.DeepHandedRow
import Derived.Test.YtbjmakigdglghaaGreatDoorPost
import Derived.Test.YtbjmakigdglghaaGreatDoorDdK
import Derived.Test.YtbjmakigdglghaaGreatDoorDdL
import Derived.Test.YtbjmakigdglghaaGreatDoorDdP
import Derived.Test.YtbjmakigdglghaaGreatDoorDdQ
import Derived.Test.YtbjmakigdglghaaGreatDoorWitD
import Derived.Test.YtbjmakigdglghaaGreatDoorWitE
namespace Go.Proofs.YtbjmakigdglghaaGreatDoor.dumpDiffers
set_option linter.unusedVariables false
open Go.ChangeShapes Go.WideShapes Go.ChangeAt Go.RowKit Dd
theorem own : ownKnob Tryz.prog.godebug = none := by kernel_rfl
theorem noInit : Tryz.prog.inits.idxOf? 4 = none := by kernel_rfl
theorem cells_u8 : Tryz.prog.cellsOf 5 = 1 := by kernel_rfl
set_option maxRecDepth 1000000 in
/-- the table that FormatUint reads, off the row's condition -/
theorem tz_of_laid {W : World} (h : laidMetH Tryz.prog Rows.dumpDiffersUptoRow.laid W) : Tz W := by
  rw [MakeChecks.laidMetH_plain _ _ _ (by kernel_rfl)] at h
  obtain ⟨ps, ⟨_, _, _, _, _, _, _, _, _, _, ⟨g, t, cs, fuel, p, q, hg, ht, hv, hd, _, _⟩, _⟩, _, _⟩ := h
  obtain rfl := Option.some.inj ((show Tryz.prog.globalNamed "math/bits.deBruijn64tab" = some 5 by kernel_rfl).symm.trans hg)
  obtain rfl := Option.some.inj ((show (Tryz.prog.globals[5]?).map (·.type) = some 321 by kernel_rfl).symm.trans ht)
  obtain ⟨xs, m, _, ex, _, hl, hel⟩ := DataW.trod_array Tryz.underlying321 hd
  have hE : DataW.trod (fun _ => ()) Tryz.prog W 0 (fun _ => true) false m 5 (List.take (Tryz.prog.cellsOf 5) (List.drop (15 * Tryz.prog.cellsOf 5) cs.toList)) = xs[15]? := hel 15 (by decide)
  rw [cells_u8, Nat.mul_one, List.getElem?_eq_getElem (by omega)] at hE
  obtain ⟨z, e1, e2, _⟩ := DataW.trod_int Tryz.underlying5 hE
  have e3 : (xs.map (·.1))[15]? = some (DataW.lit (.int .u8 4)) := by
    have := (DataW.agg.inj (Prod.mk.inj ex).1).symm
    rw [this]
    rfl
  rw [List.getElem?_map, List.getElem?_eq_getElem (by omega : 15 < xs.length), e2] at e3
  have hz : z = 4 := by
    simp only [Option.map_some, Option.some.injEq, DataW.lit.injEq, Lit.int.injEq, true_and] at e3
    exact e3
  subst hz
  have hc : cs[15]? = some (.int .u8 4) := by
    have h0 : ((cs.toList.drop 15).take 1)[0]? = some (.int .u8 4) := by rw [e1]; rfl
    simpa using h0
  have hcell := World.var?_cell hg hv 15
  rw [hc] at hcell
  unfold World.cell? at hcell
  simp only at hcell
  unfold Tz
  cases hh : W.heap[5]? with
  | none => rw [hh] at hcell; simp at hcell
  | some o =>
    rw [hh] at hcell
    cases o with
    | cells c e r => exact ⟨c, e, r, rfl, by simpa using hcell⟩
    | _ => simp at hcell
theorem readable : ∀ t ∈ Tryz.f4.params.toList, Tryz.prog.readableRec t = true ∧ t < Tryz.prog.types.size := by
  rw [Tryz.params4]
  intro t ht
  simp only [List.mem_cons, List.not_mem_nil, or_false] at ht
  rcases ht with rfl | rfl
  all_goals exact ⟨by kernel_rfl, of_decide_eq_true (by kernel_rfl)⟩
theorem laidOut : laidOutB Tryz.prog = true := by kernel_rfl
/-- what was read reads behind the call as before -/
theorem trodAll_stays {H : Type} {enc : TypeId × Value → H} {P : Program} (hl : laidOutB P = true) {W W' : World} {sp : Nat → Bool} (hb : Below W.heap.size W W') : ∀ {ts : List TypeId} {vs : List Value} {ds : List (DataW H)} {ps : List MemPlace},
    DataW.TrodAll enc P W 0 (fun _ => true) true ts vs ds ps → (∀ t ∈ ts, P.readableRec t = true ∧ t < P.types.size) → (∀ x ∈ ps, x.block < W.heap.size) → (∀ x ∈ ps, sp x.block = true) →
    DataW.TrodAll enc P W' 0 sp true ts vs ds ps
  | [], vs, ds, ps, h, _, _, _ => by
    obtain ⟨rfl, rfl, rfl⟩ := trodAll_nil h
    exact trodAll_mk0
  | t :: ts, vs, ds, ps, h, hr, hlt, hsp => by
    obtain ⟨v0, vs0, d0, ds0, p0, q0, rfl, rfl, rfl, h0, r0⟩ := trodAll_cons h
    have hr0 := hr t (by simp)
    have h1 := WideElems.Trod_stays (W' := W') (sp' := sp) hl hr0.1 hr0.2 h0 (fun x hx => hb.same (hlt x (List.mem_append.2 (.inl hx)))) (fun x hx => hsp x (List.mem_append.2 (.inl hx)))
    have h2 := trodAll_stays hl hb r0 (fun t ht => hr t (by simp [ht])) (fun x hx => hlt x (List.mem_append.2 (.inr hx))) (fun x hx => hsp x (List.mem_append.2 (.inr hx)))
    exact trodAll_cons_mk h1 h2
set_option maxRecDepth 100000 in
theorem contract (H : Type) (enc : TypeId × Value → H) (W : World) (base : Nat) (args : Array Value) (ds gs : List (DataW H)) (before : List MemPlace)
    (hval0 : ∀ (j : Nat) t v, Tryz.f4.params[j]? = some t → args[j]? = some v → Value.okWide Tryz.prog W .any base t v)
    (hW : DataW.Whole enc Tryz.prog Tryz.f4.params.toList Rows.dumpDiffersSpec.vars false W args.toList ds gs before) (hk : Rows.uptoSmall H (ds ++ gs) = true) (hL : laidMetH Tryz.prog Rows.dumpDiffersUptoRow.laid W) :
    Calls Tryz.prog 4 args W fun e W' => ∃ v, e = .returned v ∧ Rows.dumpDiffersSpec.post enc Tryz.prog Tryz.f4 false true false false W args v W' := by
  have hval : ∀ (j : Nat) t v, Tryz.f4.params[j]? = some t → args[j]? = some v → Value.okWide Tryz.prog W .any base t v := hval0
  have hW' := hW
  obtain ⟨p, q, hA0, hV, rfl, hfz, hnd⟩ := hW
  have hA : DataW.TrodAll enc Tryz.prog W 0 (fun _ => true) true Tryz.f4.params.toList args.toList ds p := hA0
  have hkeepA := hA
  rw [Tryz.params4] at hA hval
  obtain ⟨rfl, rfl⟩ := trodVars_none hV
  simp only [List.append_nil] at hW' hk
  have hlt : ∀ x ∈ p, x.block < W.heap.size := fun x hx => hW'.lt x (by simpa using hx)
  obtain ⟨v0, v1, d0, d1, p0, p1, rfl, rfl, rfl, h0, h1⟩ := trodAll_two hA
  have hbd := bound hk
  simp only [Rows.uptoBulkAll] at hbd
  obtain ⟨ca, rfl, _⟩ := okWide_struct Tryz.underlying25 (hval 0 25 v0 rfl rfl)
  obtain ⟨cb, rfl, _⟩ := okWide_struct Tryz.underlying25 (hval 1 25 v1 rfl rfl)
  obtain ⟨f1, t1⟩ := h0
  obtain ⟨f2, t2⟩ := h1
  obtain ⟨a, ha⟩ := open_snap t1 (by show Rows.uptoBulk d0 ≤ _; omega)
  obtain ⟨b, hb⟩ := open_snap t2 (by show Rows.uptoBulk d1 ≤ _; omega)
  have hT := tz_of_laid hL
  have hlv : Lives W := fun W2 h2 => live_any W2 (by
    obtain ⟨c, e, r, k1, k2⟩ := hT
    exact ⟨c, e, r, (h2.block 5 (Array.getElem?_eq_some_iff.1 k1).1).trans k1, k2⟩)
  have hrd : RDiffers := fun w a b ca cb h1 h2 h3 h4 => rdiffer_any w a b ca cb h1 h2 h3 h4
  refine (law_any W hlv hrd a b ca.toList cb.toList ha hb).mono fun e W2 ⟨he, hb2⟩ => ?_
  subst he
  exact ⟨_, rfl, post_of_below (pa := p0 ++ p1) (pv := []) hW' (fun _ _ _ => trodAll_cons_mk (shut_bool Tryz.underlying4 _) trodAll_mk0)
    (fun sp hsp => trodAll_stays laidOut hb2 hkeepA readable hlt (fun x hx => hsp x (by simpa using hx))) (fun _ _ => rfl) (by simp) hb2 (ok_one (by kernel_rfl) rfl (okWide_bool_mk Tryz.underlying4 _))⟩
noncomputable def args0 : Array Value := #[.agg #[.int .i64 0, .slice none 0 0, .slice none 0 0], .agg #[.int .i64 0, .slice none 0 0, .slice none 0 0]]
theorem ok0 (os : Os) : Input.okWideB Tryz.prog ((wit.start os).forCall (fun _ _ => 0) ⟨#[], args0, []⟩) 4 ⟨#[], args0, []⟩ = true := by kernel_rfl
theorem whole0 (H : Type) (enc : TypeId × Value → H) (os : Os) : DataW.whole enc Tryz.prog ((wit.start os).forCall (fun _ _ => 0) ⟨#[], args0, []⟩).memory Tryz.f4.params.toList Rows.dumpDiffersSpec.vars false args0.toList 8 = some ([.agg [.lit (.int .i64 0), .nil, .nil], .agg [.lit (.int .i64 0), .nil, .nil]], [], []) := by kernel_rfl
theorem siz0 (H : Type) (enc : TypeId × Value → H) (os : Os) : Rows.dumpDiffersSpec.sizedB enc Tryz.prog Tryz.f4 false ((wit.start os).forCall (fun _ _ => 0) ⟨#[], args0, []⟩).memory args0 8 = true := by kernel_rfl
theorem small0 (H : Type) : Rows.uptoSmall H [.agg [.lit (.int .i64 0), .nil, .nil], .agg [.lit (.int .i64 0), .nil, .nil]] = true := by kernel_rfl
set_option maxRecDepth 100000 in
theorem lifted (os : Os) (started : os.Started) (H : Type) (enc : TypeId × Value → H) (F : Stop.Interp) :
    ReturnsInHanded {} Tryz.checked os 4 .any ((Rows.OpenSpec.upto Rows.dumpDiffersSpec).preRow enc Tryz.prog Tryz.f4 [] false Rows.dumpDiffersUptoRow.laid) (((Rows.OpenSpec.upto Rows.dumpDiffersSpec).at F).post enc Tryz.prog Tryz.f4 false true false false) := by
  refine returnsInHanded_of_row (C := Tryz.checked) own started noInit Tryz.func4
    (witness_row_at (C := Tryz.checked) (os := os) (fn := Tryz.f4) false (wit.start os) args0 (wit.start_os os) (by kernel_rfl) (by kernel_rfl) (ok0 os)
      ⟨⟨(OpenSpec.pre_some (k := Rows.uptoSmall) rfl [] false _ _).2 ⟨_, _, _, DataW.Whole_of_whole (whole0 H enc os), rfl, small0 H⟩, wit.mets os args0⟩, sizedMet_of_sizedB (siz0 H enc os)⟩) ?_
  intro W base args ds gs before hval hW _ hk _ hL _ _
  exact contract H enc W base args ds gs before hval hW (hk _ rfl) hL
theorem closed : joinedFacts Tryz.prog 4 Tryz.f4 (Rows.OpenSpec.upto Rows.dumpDiffersSpec).bare Rows.dumpDiffersUptoRow = true := by kernel_rfl
theorem over : Rows.dumpDiffersUptoRow.holds Tryz.pinned (Rows.OpenSpec.upto Rows.dumpDiffersSpec) :=
  OpenClaim.holds_of_cond 4 Tryz.f4 rfl rfl rfl rfl rfl rfl rfl ⟨rfl, rfl, rfl, rfl, rfl⟩ rfl rfl rfl rfl rfl (by kernel_rfl) Tryz.func4 closed
    (of_decide_eq_true (by kernel_rfl)) (by unfold Func.isWrapper; first | (rw [if_pos (by decide +kernel)]; kernel_rfl) | (rw [if_neg (by decide +kernel)]; exact ⟨rfl, rfl⟩))
    (fun os started H enc _ F => by rw [OpenClaim.pre_eq_preRow]; exact lifted os started H enc F)
theorem said : Rows.DumpDiffersUptoSaid := over
theorem proved : Rows.DumpDiffersUptoCardSaid :=
  Claim7.holds_tied_plain_at .later [] [.data, .data, .data, .data, .sentinel, .sentinel, .pinned] true (true, "4f8196a303fa2486bf2341a7947cd5f4b259e9541c6f19238b4e7a369fdc0a1a") true
    said (fun _ h => by cases h) (by kernel_rfl) (fun _ h => by cases h) dumpDiffersUpto_row_tie rfl ⟨rfl, rfl⟩ (by kernel_rfl) rfl
    (fun f fn hf hfn => by
      obtain rfl : f = 4 := Option.some.inj ((show Tryz.prog.funcNamed "docket/docketlaw27.DumpDiffers" = some 4 by kernel_rfl).symm.trans hf) |>.symm
      obtain rfl : fn = Tryz.f4 := (Option.some.inj (Tryz.func4.symm.trans hfn)).symm
      exact ⟨by kernel_rfl, fun j t ht => by
        rw [Tryz.params4] at ht
        rcases j with _ | _ | j <;> simp at ht
        all_goals (subst ht; exact (show Tryz.prog.wantsStandIn 25 = false by kernel_rfl))⟩)
    (by kernel_rfl)
#print axioms proved
end Go.Proofs.YtbjmakigdglghaaGreatDoor.dumpDiffers
