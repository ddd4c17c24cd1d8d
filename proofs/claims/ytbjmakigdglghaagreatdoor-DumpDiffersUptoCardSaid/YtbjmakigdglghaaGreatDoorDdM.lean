/- strings.IndexByte at a newline. -/
import Derived.Test.YtbjmakigdglghaaGreatDoorDdA
import Derived.Test.YtbjmakigdglghaaGreatDoorEvG
import Derived.LoopIn
import Derived.Shelf.RegionOpen
import Derived.TacticsInMore
import Derived.IntWalk
import Derived.KernelRfl
set_option linter.unusedVariables false
set_option linter.unusedSimpArgs false
set_option linter.unusedSectionVars false
namespace Go.Proofs.YtbjmakigdglghaaGreatDoor.Dd
set_option linter.unusedVariables false
open Go.RowKit
def nlOf (s : ByteArray) : Option Nat := (List.range s.size).find? fun i => s[i]! == 10
def nlI (s : ByteArray) : Int := match nlOf s with
  | some i => (i : Int)
  | none => -1
theorem ext128 (s : ByteArray) (w : World) : (callFunc 128 #[.string s, .int .u8 10]).run Tryz.prog w = .ok (.value (.int .i64 (nlI s))) w := by
  have h1 : Tryz.prog.funcs[128]? = some Tryz.f128 := Tryz.func128
  have h2 : Extern.findNext Tryz.f128 = none := by
    have : (Extern.findNext Tryz.f128).isNone = true := by kernel_rfl
    simpa using this
  have h3 : Extern.find Tryz.f128 = some Extern.BytealgIndexByte.indexByte := by kernel_rfl
  have h4 : Tryz.f128.body = none := by kernel_rfl
  have h5 : ¬ Tryz.f128.name = "runtime.NumGoroutine" := by decide
  simp only [callFunc, program]
  simp [bind, Sem.bind, Sem.run, h1, h5, h4, h2, h3, mark]
  have h6 : (Extern.BytealgIndexByte.indexByte #[.string s, .int .u8 10]).run Tryz.prog w = .ok (.int .i64 (nlI s)) w := by
    have e : Extern.BytealgIndexByte.indexByte #[.string s, .int .u8 10] = (do
        let b ← Extern.Bytes.bytesOf (.string s)
        let c ← Extern.Bytes.asByte (.int .u8 10)
        match (List.range b.size).find? fun i => b[i]! == c with
        | some i => pure (goInt i)
        | none => pure (goInt (-1)) : Sem Value) := rfl
    rw [e]
    unfold nlI nlOf
    simp only [Extern.Bytes.bytesOf, Extern.Bytes.asByte, Sem.run_bind, Sem.run_pure, Result.andThen_ok]
    have h10 : (10 : Int).toNat.toUInt8 = 10 := by decide
    rw [h10]
    cases (List.range s.size).find? (fun i => s[i]! == 10) <;> rfl
  show (Sem.run Tryz.prog (do let v ← Extern.BytealgIndexByte.indexByte #[.string s, .int .u8 10]; pure (Next.value v)) w) = _
  rw [Sem.run_bind, h6]
  rfl
theorem ix46 (s : ByteArray) (w : World) : Calls Tryz.prog 46 #[.string s, .int .u8 10] w fun e w' => e = .returned (.int .i64 (nlI s)) ∧ w = w' := by
  have hx := ext128
  go_enter Tryz.func46, Tryz.ntmps46
  go_wp2_with go_in
  go_ret
  exact ⟨rfl, rfl⟩
end Go.Proofs.YtbjmakigdglghaaGreatDoor.Dd
namespace Go.Proofs.YtbjmakigdglghaaGreatDoor.Dd
set_option linter.unusedVariables false
open Go.RowKit Ev
instance laid0 : Laid := ⟨[]⟩
theorem wf_round (r : Option Nat) : (WF r).round = r := rfl
theorem wf_fn (r : Option Nat) (f : FuncId) : (WF r).fn f = True := rfl
theorem wf_depth (r : Option Nat) : (WF r).depth = none := rfl
attribute [local go_sem] wf_round wf_fn wf_depth Oper.semAt_none
def pieces (s : ByteArray) : Nat → Nat → List Value
  | 0, _ => []
  | f + 1, a => match Nat.blt a s.size with
    | true => (match nlOf (s.extract a s.size) with
      | none => [.agg #[.string (s.extract a s.size), .string (s.extract 0 a), .bool false]]
      | some e => .agg #[.string (s.extract a (a + e)), .string (s.extract 0 a), .bool true] :: pieces s f (a + e + 1))
    | false => []
def lines (s : ByteArray) : List (List Value) := (pieces s (s.size + 1) 0).map fun v => [v]
set_option maxRecDepth 100000 in
set_option maxHeartbeats 4000000 in
theorem each_runs (text : ByteArray) (p : Addr) (hsz : text.size ≤ 1000000000) : Runs Tryz.prog 45 #[.pointer (some p)] (fun A => A.cell? p = some (.string text)) ((lines text).map List.toArray) := by
  intro n l J W hB hK hY h0
  have HB := Lib.hid hB
  have HK := Lib.hid hK
  have HY := Lib.hid hY
  obtain ⟨PS, hPS⟩ : ∃ q, pieces text (text.size + 1) 0 = q := ⟨_, rfl⟩
  have hmap : (lines text).map List.toArray = PS.map fun v => #[v] := by unfold lines; rw [hPS, List.map_map]; rfl
  have HMAP := Lib.hid hmap
  have HPS := Lib.hid hPS
  clear hB hK hY hmap hPS
  refine callsIn_of_wp Tryz.func45 rfl trivial ?_ rfl
  simp only [Tryz.ntmps45, List.size_toArray, List.length_cons, List.length_nil, Nat.reduceAdd, Nat.reduceSub, Array.replicate_succ, Array.replicate_zero, List.push_toArray, List.append_toArray, List.nil_append, List.cons_append]
  gi_wp2
  gi_loopw [3] (fun at_ wr => ∃ k a f : Nat, at_ = .int .i64 a ∧ a ≤ text.size ∧ text.size < a + f ∧ PS.drop k = pieces text f a ∧ k ≤ PS.length ∧ J k wr) (fun at_ _ => text.size - (intOf at_).toNat)
  case atStart => exact ⟨0, 0, text.size + 1, rfl, Nat.zero_le _, by omega, HPS.out.symm, Nat.zero_le _, h0⟩
  case round =>
    obtain ⟨k, a, f, rfl, ha, hf, hdr, hkl, hj⟩ := hrel
    have hc : wr.cell? p = some (.string text) := HK.out k wr hj
    by_cases hlt : a < text.size
    · obtain ⟨f, rfl⟩ : ∃ q, f = q + 1 := ⟨f - 1, by omega⟩
      have hbl : Nat.blt a text.size = true := by simpa using hlt
      simp only [pieces, hbl] at hdr
      have hjd : J k wr.drew := HB.out k wr wr.drew hj ⟨rfl, rfl, rfl, Nat.le_refl _, fun _ _ => rfl⟩
      have hcd : wr.drew.cell? p = some (.string text) := hc
      cases hnl : nlOf (text.extract a text.size) with
      | none =>
        have hix : nlI (text.extract a text.size) = -1 := by unfold nlI; rw [hnl]
        rw [hnl] at hdr
        simp only at hdr
        have hk1 : PS[k]? = some (.agg #[.string (text.extract a text.size), .string (text.extract 0 a), .bool false]) := by
          have := congrArg (fun l : List Value => l[0]?) hdr
          simpa using this
        have hlen : PS.length = k + 1 := by
          have := congrArg List.length hdr
          simp at this
          omega
        obtain ⟨fn, tm, asg, bd, hy, hR⟩ := HY.out k #[.agg #[.string (text.extract a text.size), .string (text.extract 0 a), .bool false]] wr.drew (by rw [HMAP.out, List.getElem?_map, hk1]; rfl) hjd
        have HR := Lib.hid hR
        have HLEN := Lib.hid hlen
        have HIX := Lib.hid hix
        clear hnl hdr hk1 hR hjd hlen hix hbl
        gi_wp2_with (first
          | (gi_at_call 46
             refine (callsIn_WF (ix46 _ _)).mono ?_
             rintro e w' ⟨rfl, rfl⟩
             rw [HIX.out])
          | gi_in)
        have hmix : Tryz.prog.follows .mixedOrders = true := by kernel_rfl
        gi_region_with_o (refine HR.out.mono ?_; rintro e W1 ⟨rfl, hJ1⟩)
        all_goals
          gi_wp2
          refine bodyPost_ret (results_none rfl _ _ _) rfl ?_
          exact ⟨⟨_, rfl⟩, by rw [HMAP.out, List.length_map, HLEN.out]; exact hJ1⟩
      | some e =>
        have hix : nlI (text.extract a text.size) = (e : Int) := by unfold nlI; rw [hnl]
        have hee : e < text.size - a := by
          have := List.mem_of_find?_eq_some hnl
          simpa [ByteArray.size_extract] using this
        rw [hnl] at hdr
        simp only at hdr
        have hk1 : PS[k]? = some (.agg #[.string (text.extract a (a + e)), .string (text.extract 0 a), .bool true]) := by
          have := congrArg (fun l : List Value => l[0]?) hdr
          simpa using this
        have hdr2 : PS.drop (k + 1) = pieces text f (a + e + 1) := by
          have := congrArg (fun l : List Value => l.drop 1) hdr
          simpa using this
        have hlen : k + 1 ≤ PS.length := by
          have := congrArg List.length hdr
          simp at this
          omega
        obtain ⟨fn, tm, asg, bd, hy, hR⟩ := HY.out k #[.agg #[.string (text.extract a (a + e)), .string (text.extract 0 a), .bool true]] wr.drew (by rw [HMAP.out, List.getElem?_map, hk1]; rfl) hjd
        have HR := Lib.hid hR
        have HDR := Lib.hid hdr2
        have HIX := Lib.hid hix
        clear hnl hdr hdr2 hk1 hR hjd hix hbl
        gi_wp2_with (first
          | (gi_at_call 46
             refine (callsIn_WF (ix46 _ _)).mono ?_
             rintro e w' ⟨rfl, rfl⟩
             rw [HIX.out])
          | gi_in)
        have hmix : Tryz.prog.follows .mixedOrders = true := by kernel_rfl
        have s1 : IntKind.i64.wrap ((a : Int) + (e : Int)) = (a : Int) + (e : Int) := IntWalk.i64_in _ (by omega)
        have s2 : (0 : Int) ≤ (a : Int) + (e : Int) := by omega
        have s3 : ((a : Int) + (e : Int)).toNat = a + e := by omega
        have s4 : (a : Int) + (e : Int) ≤ (text.size : Int) := by omega
        have s5 : (a : Int) ≤ (a : Int) + (e : Int) := by omega
        gi_region_with_o (refine HR.out.mono ?_; rintro e W1 ⟨rfl, hJ1⟩)
        all_goals
          clear s1 s2 s3 s4 s5
          gi_wp2
          refine ⟨⟨k + 1, a + e + 1, f, congrArg (Value.int .i64) (by omega), by omega, by omega, HDR.out, hlen, hJ1⟩, ?_⟩
          simp [intOf]
          omega
    · obtain rfl : a = text.size := by omega
      have hk2 : k = PS.length := by
        have := congrArg List.length hdr
        cases f with
        | zero => simp [pieces] at this; omega
        | succ f =>
          have hb : Nat.blt text.size text.size = false := by
            cases h : Nat.blt text.size text.size with
            | false => rfl
            | true => simp at h
          simp only [pieces, hb, List.length_drop, List.length_nil] at this
          omega
      have HK2 := Lib.hid hk2
      clear hk2 hdr
      gi_wp2
      go_end0
      exact ⟨⟨_, rfl⟩, by rw [HMAP.out, List.length_map, ← HK2.out]; exact hj⟩
end Go.Proofs.YtbjmakigdglghaaGreatDoor.Dd
namespace Go.Proofs.YtbjmakigdglghaaGreatDoor.Dd
open Go.RowKit
set_option maxRecDepth 100000 in
set_option maxHeartbeats 4000000 in
theorem tz_any (W : World) (h : W.cell? ⟨5, 15, none⟩ = some (.int .u8 4)) : Calls Tryz.prog 245 #[.int .u64 16] W fun e w' => e = .returned (.int .i64 4) ∧ Below W.heap.size W w' := by
  have hE : IntKind.u64.wrap (bits BinOp.and IntKind.u64 16 (IntKind.u64.wrap (-16)) * 285870213051353865) / 288230376151711744 = 15 := by kernel_rfl
  go_enter Tryz.func245, Tryz.ntmps245
  go_wp2
  go_ret
  exact ⟨rfl, Below.refl _ _⟩
end Go.Proofs.YtbjmakigdglghaaGreatDoor.Dd
namespace Go.Proofs.YtbjmakigdglghaaGreatDoor.Dd
open Ev RowKit
def extL (f : Nat) : Option ExtF := match Nat.beq f 122 with
  | true => some .same
  | false => match Nat.beq f 128 with
    | true => some (.plain Extern.BytealgIndexByte.indexByte)
    | false => none
noncomputable def tabL : Tab := tabT Tryz.prog extL 10 true
set_option maxRecDepth 1000000
theorem extL_ok (f : Nat) (x : ExtF) (h : extL f = some x) : ∃ fn, Tryz.prog.funcs[f]? = some fn ∧ fn.body.isNone = true ∧ (Extern.findNext fn).isNone = true ∧ Extern.find fn = some (extFn x) := by
  unfold extL at h
  split at h
  · rename_i e
    injection h with h
    subst h
    have : f = 122 := by simpa using e
    subst this
    exact ⟨_, Tryz.func122, by kernel_rfl, by kernel_rfl, by kernel_rfl⟩
  · split at h
    · rename_i e
      injection h with h
      subst h
      have : f = 128 := by simpa using e
      subst this
      exact ⟨_, Tryz.func128, by kernel_rfl, by kernel_rfl, by kernel_rfl⟩
    · cases h
theorem tabL_ok : TabOk Tryz.prog tabL := tabT_ok (tabOf_ok (by kernel_rfl) extL_ok) 10 true
def itL : AIter := fun f => match Nat.beq f 45 with
  | true => some lines
  | false => none
theorem itL_ok : ItOk Tryz.prog itL := by
  intro gf F h text p hs
  unfold itL at h
  split at h
  · rename_i e
    injection h with h
    subst h
    have : gf = 45 := by simpa using e
    subst this
    exact each_runs text p hs
  · cases h
def ovL : AOv := fun f args => match Nat.beq f 245, args.toList with
  | true, [.int .u64 x] => cond (decide (x = 16)) (some (.int .i64 4)) none
  | _, _ => none
/-- the table that FormatUint reads -/
def Tz (W : World) : Prop := ∃ (c : Array Value) (e : TypeId) (r : Nat × Nat), W.heap[5]? = some (.cells c e r) ∧ c[15]? = some (.int .u8 4)
theorem ovL_ok (c : Array Value) (e : TypeId) (r : Nat × Nat) (hc : c[15]? = some (.int .u8 4)) : @OvOk ⟨[⟨5, c, e, r⟩]⟩ Tryz.prog ovL := by
  intro f args v h
  unfold ovL at h
  split at h
  · rename_i x hf ha
    cases hx : decide (x = 16) with
    | false => rw [hx] at h; cases h
    | true =>
      rw [hx] at h
      simp only [cond_true] at h
      injection h with h
      subst h
      have hx : x = 16 := by simpa using hx
      subst hx
      have hf : f = 245 := by simpa using hf
      subst hf
      obtain ⟨l⟩ := args
      simp only at ha
      subst ha
      refine ⟨by decide, by decide, fun W B hl => tz_any W ?_⟩
      obtain ⟨_, h1⟩ := hl ⟨5, c, e, r⟩ (List.mem_singleton.2 rfl)
      simp only at h1
      simp [World.cell?, h1, hc]
  · cases h
noncomputable def evL (kn : ACall) : ACall := evCallK Tryz.prog tabL itL (fun f => Nat.beq f 6) ovL kn 20000 60
theorem evL_ok [Laid] (hov : OvOk Tryz.prog ovL) {kn : ACall} (h : CallOk Tryz.prog kn) : CallOk Tryz.prog (evL kn) := evCallK_ok tabL_ok (by kernel_rfl) itL_ok (fun f => Nat.beq f 6) hov h 20000 60
end Go.Proofs.YtbjmakigdglghaaGreatDoor.Dd
