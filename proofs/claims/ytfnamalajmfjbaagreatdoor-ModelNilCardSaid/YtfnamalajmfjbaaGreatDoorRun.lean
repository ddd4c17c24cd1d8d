/- ModelNil: the evaluator's run of the whole law: it says true. -/
import Derived.Test.YtfnamalajmfjbaaGreatDoorProg
import Derived.KernelRfl
import Derived.Test.YtfnamalajmfjbaaGreatDoorEvTab
namespace Go.Proofs.YtfnamalajmfjbaaGreatDoor
open Ev
def ext0 (f : Nat) : Option ExtF := match Nat.beq f 272 with
  | true => some .clone
  | false => match Nat.beq f 568 with
    | true => some (.plain Extern.BytealgIndexByte.indexByte)
    | false => none
noncomputable def tab0 : Tab := tabOf Tryz.prog ext0
set_option maxRecDepth 1000000
theorem ext_ok (f : Nat) (x : ExtF) (h : ext0 f = some x) : ∃ fn, Tryz.prog.funcs[f]? = some fn ∧ fn.body.isNone = true ∧ (Extern.findNext fn).isNone = true ∧ Extern.find fn = some (extFn x) := by
  unfold ext0 at h
  split at h
  · rename_i e
    injection h with h
    subst h
    have : f = 272 := by simpa using e
    subst this
    exact ⟨_, Tryz.func272, by kernel_rfl, by kernel_rfl, by kernel_rfl⟩
  · split at h
    · rename_i e
      injection h with h
      subst h
      have : f = 568 := by simpa using e
      subst this
      exact ⟨_, Tryz.func568, by kernel_rfl, by kernel_rfl, by kernel_rfl⟩
    · cases h
theorem tab_ok : TabOk Tryz.prog tab0 := tabOf_ok (by kernel_rfl) ext_ok
theorem run3 : saysTrue (evCall Tryz.prog tab0 20000 60 3 #[] ⟨0, .lf⟩) = true := by kernel_rfl
theorem walk (w : World) : Calls Tryz.prog 3 #[] w fun e w' => e = .returned (.bool true) ∧ RowKit.Below w.heap.size w w' :=
  closed_true tab_ok (by kernel_rfl) 20000 60 3 run3 w
end Go.Proofs.YtfnamalajmfjbaaGreatDoor
