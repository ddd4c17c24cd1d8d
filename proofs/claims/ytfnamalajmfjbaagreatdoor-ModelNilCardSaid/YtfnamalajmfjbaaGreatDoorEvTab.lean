/- The tables of a program, and that they fit it. -/
import Derived.Test.YtfnamalajmfjbaaGreatDoorEvDraw7
import Derived.Below
set_option linter.unusedVariables false
set_option linter.unusedSimpArgs false
namespace Go.Proofs.YtfnamalajmfjbaaGreatDoor.Ev
noncomputable section
def tabOf (P : Program) (ext : FuncId → Option ExtF) : Tab := { und := P.underlying, inf := P.info?, fn := fun f => match P.funcs[f]? with | some fn => (match fn.body with | some _ => some fn | none => none) | none => none, ext := ext }
def unNamed (P : Program) : Bool := P.funcs.toList.all fun fn => !(fn.name == "runtime.NumGoroutine")
theorem tabOf_ok {P : Program} {ext : FuncId → Option ExtF} (hn : unNamed P = true)
    (he : ∀ f x, ext f = some x → ∃ fn, P.funcs[f]? = some fn ∧ fn.body.isNone = true ∧ (Extern.findNext fn).isNone = true ∧ Extern.find fn = some (extFn x)) : TabOk P (tabOf P ext) := by
  have hname : ∀ (f : Nat) (fn : Func), P.funcs[f]? = some fn → (fn.name == "runtime.NumGoroutine") = false := fun f fn hf => by
    have := List.all_eq_true.1 hn fn (by
      rw [← Array.getElem?_toList] at hf
      exact List.mem_of_getElem? hf)
    simpa using this
  refine ⟨fun _ _ h => h, fun _ _ h => h, fun f d h => ?_, fun f x h args w => ?_⟩
  · simp only [tabOf] at h
    split at h
    · rename_i fn hf
      split at h
      · rename_i b hb
        injection h with h
        subst h
        refine ⟨hf, fun args w => ?_⟩
        have h1 := hname f _ hf
        simp only [callFunc, program, Sem.run_bind]
        have h1' : ¬ fn.name = "runtime.NumGoroutine" := by simpa using h1
        simp [Sem.run, hf, h1', hb]
      · cases h
    · cases h
  · obtain ⟨fn, h1, h2, h3, h4⟩ := he f x h
    have h5 := hname f _ h1
    have h5' : ¬ fn.name = "runtime.NumGoroutine" := by simpa using h5
    have h2' : fn.body = none := by simpa using h2
    have h6 : Extern.findNext fn = none := by simpa using h3
    simp only [callFunc, program]
    simp [bind, Sem.bind, Sem.run, h1, h5', h2', h6, h4, mark]
/-- one world: what was there stays -/
theorem closed_call {P : Program} {X : Tab} (hX : TabOk P X) (hm : P.follows .mixedOrders = true) (lf d : Nat) (f : FuncId) (b : Bool) (H' : AH) (he : evCall P X lf d f #[] ⟨0, .lf⟩ = some (.bool b, H')) (W : World) :
    Calls P f #[] W fun e w' => e = .returned (.bool b) ∧ Go.RowKit.Below W.heap.size W w' := by
  refine (evCall_all hX hm lf d f #[] ⟨0, .lf⟩ (.bool b) H' he (fun _ => none) (fun _ => False) W W.heap.size #[] ⟨fun id o h => ?_, fun _ _ => rfl, fun _ _ _ _ h => by cases h⟩ (fun _ _ h => h) (Nat.le_refl _) .nil).mono ?_
  · simp [AH.get, T.get_lf] at h
  · rintro e w' ⟨σ', S', v', rfl, hv, hr, hl⟩
    cases hv
    exact ⟨rfl, hl.evo.os, hl.evo.tape, hl.evo.output, hl.evo.size, fun k hk => hl.evo.frame k hk fun _ _ h => by cases h⟩
/-- the run's answer, not the memory behind it -/
def saysTrue : Option (Value × AH) → Bool
  | some (.bool b, _) => b
  | _ => false
theorem closed_true {P : Program} {X : Tab} (hX : TabOk P X) (hm : P.follows .mixedOrders = true) (lf d : Nat) (f : FuncId) (he : saysTrue (evCall P X lf d f #[] ⟨0, .lf⟩) = true) (W : World) :
    Calls P f #[] W fun e w' => e = .returned (.bool true) ∧ Go.RowKit.Below W.heap.size W w' := by
  unfold saysTrue at he
  split at he
  · rename_i b H' h
    subst he
    exact closed_call hX hm lf d f true H' h W
  · cases he
end
end Go.Proofs.YtfnamalajmfjbaaGreatDoor.Ev
