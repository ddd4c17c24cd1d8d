/- The closed runs: live() says true; the replies of errors are the same on both sides. -/
import Derived.Test.YtnckhmfajjcgpaaGreatDoorProg
import Derived.KernelRfl
import Derived.Test.YtnckhmfajjcgpaaGreatDoorEvF
set_option linter.unusedVariables false
set_option linter.unusedSimpArgs false
set_option linter.unusedSectionVars false
section
namespace Go.Proofs.YtnckhmfajjcgpaaGreatDoor.Mt
open Ev
def ext0 (f : Nat) : Option ExtF := match Nat.beq f 274 with
  | true => some .clone
  | false => match Nat.beq f 589 with
    | true => some (.plain Extern.BytealgIndexByte.indexByte)
    | false => none
noncomputable def tab0 : Tab := tabOf Tryz.prog ext0
set_option maxRecDepth 1000000
theorem ext_ok (f : Nat) (x : ExtF) (h : ext0 f = some x) : ∃ fn, Tryz.prog.funcs[f]? = some fn ∧ fn.body.isNone = true ∧ (Extern.findNext fn).isNone = true ∧ Extern.find fn = some (extFn x) := by
  unfold ext0 at h
  split at h
  · rename_i e
    injection h with h
    subst h
    have : f = 274 := by simpa using e
    subst this
    exact ⟨_, Tryz.func274, by kernel_rfl, by kernel_rfl, by kernel_rfl⟩
  · split at h
    · rename_i e
      injection h with h
      subst h
      have : f = 589 := by simpa using e
      subst this
      exact ⟨_, Tryz.func589, by kernel_rfl, by kernel_rfl, by kernel_rfl⟩
    · cases h
theorem tab_ok : TabOk Tryz.prog tab0 := tabOf_ok (by kernel_rfl) ext_ok
theorem mixed : Tryz.prog.follows .mixedOrders = true := by kernel_rfl
/-- the reply of a run -/
def saysStr : Option (Value × AH) → Option ByteArray
  | some (.string s, _) => some s
  | _ => none
noncomputable def runM (e : Int) : Option (Value × AH) := evCall Tryz.prog tab0 20000 60 26 #[.int .i64 e, .int .i64 (-1)] ⟨0, .lf⟩
noncomputable def runR (e : Int) : Option (Value × AH) := evCall Tryz.prog tab0 20000 60 38 #[.int .i64 e, .int .i64 (-1)] ⟨0, .lf⟩
def same : Option (Value × AH) → Option (Value × AH) → Bool
  | some (.string s, _), some (.string t, _) => s.data.toList == t.data.toList
  | _, _ => false
theorem same1 : same (runM 1) (runR 1) = true := by kernel_rfl
theorem same16 : same (runM 16) (runR 16) = true := by kernel_rfl
theorem same17 : same (runM 17) (runR 17) = true := by kernel_rfl
theorem same18 : same (runM 18) (runR 18) = true := by kernel_rfl
end Go.Proofs.YtnckhmfajjcgpaaGreatDoor.Mt
end
namespace Go.Proofs.YtnckhmfajjcgpaaGreatDoor.Mt
open Ev Go.RowKit
theorem closed_str {P : Program} {X : Tab} (hX : TabOk P X) (hm : P.follows .mixedOrders = true) (lf d : Nat) (f : FuncId) (e a : Int) (s : ByteArray) (H' : AH) (he : evCall P X lf d f #[.int .i64 e, .int .i64 a] ⟨0, .lf⟩ = some (.string s, H')) (W : World) :
    Calls P f #[.int .i64 e, .int .i64 a] W fun r w' => r = .returned (.string s) ∧ Below W.heap.size W w' := by
  refine (evCall_all hX hm lf d f #[.int .i64 e, .int .i64 a] ⟨0, .lf⟩ (.string s) H' he (fun _ => none) (fun _ => False) W W.heap.size #[.int .i64 e, .int .i64 a] ⟨fun id o h => ?_, fun _ _ => rfl, fun _ _ _ _ h => by cases h⟩ (fun _ _ h => h) (Nat.le_refl _) (.cons _ _ _ _ (.int _ _) (.cons _ _ _ _ (.int _ _) .nil))).mono ?_
  · simp [AH.get, T.get_lf] at h
  · rintro e w' ⟨σ', S', v', rfl, hv, hr, hl⟩
    cases hv
    exact ⟨rfl, hl.evo.os, hl.evo.tape, hl.evo.output, hl.evo.size, fun k hk => hl.evo.frame k hk fun _ _ h => by cases h⟩
theorem str_eq {s t : ByteArray} (h : (s.data.toList == t.data.toList) = true) : s = t := by
  obtain ⟨x⟩ := s
  obtain ⟨y⟩ := t
  congr 1
  exact Array.toList_inj.1 (eq_of_beq h)
/-- an error's reply -/
noncomputable def bt (e : Int) : ByteArray := (saysStr (runM e)).getD ⟨#[]⟩
theorem same_m {e : Int} (h : same (runM e) (runR e) = true) (W : World) : Calls Tryz.prog 26 #[.int .i64 e, .int .i64 (-1)] W fun r w' => r = .returned (.string (bt e)) ∧ Below W.heap.size W w' := by
  unfold same at h
  split at h
  · rename_i s H t H' h1 h2
    have hb : bt e = s := by unfold bt; rw [h1]; rfl
    rw [hb]
    exact closed_str tab_ok mixed 20000 60 26 e (-1) s H h1 W
  · cases h
theorem same_r {e : Int} (h : same (runM e) (runR e) = true) (W : World) : Calls Tryz.prog 38 #[.int .i64 e, .int .i64 (-1)] W fun r w' => r = .returned (.string (bt e)) ∧ Below W.heap.size W w' := by
  unfold same at h
  split at h
  · rename_i s H t H' h1 h2
    have hst : s = t := str_eq h
    have hb : bt e = s := by unfold bt; rw [h1]; rfl
    rw [hb, hst]
    exact closed_str tab_ok mixed 20000 60 38 e (-1) t H' h2 W
  · cases h
theorem all_same {e : Int} (h : e = 1 ∨ e = 16 ∨ e = 17 ∨ e = 18) : same (runM e) (runR e) = true := by
  rcases h with rfl | rfl | rfl | rfl
  · exact same1
  · exact same16
  · exact same17
  · exact same18
end Go.Proofs.YtnckhmfajjcgpaaGreatDoor.Mt
