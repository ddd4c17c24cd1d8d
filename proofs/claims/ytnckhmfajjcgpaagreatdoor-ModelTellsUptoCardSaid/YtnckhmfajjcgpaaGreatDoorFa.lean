/- All closed facts of the row. -/
import Derived.Test.YtnckhmfajjcgpaaGreatDoorFa0
import Derived.Test.YtnckhmfajjcgpaaGreatDoorFa1
import Derived.Test.YtnckhmfajjcgpaaGreatDoorFa2
import Derived.Test.YtnckhmfajjcgpaaGreatDoorFaH
import Derived.Test.YtnckhmfajjcgpaaGreatDoorFaL
import GoSem.ClaimGoes
set_option linter.unusedVariables false
set_option maxRecDepth 100000
namespace Go.Proofs.YtnckhmfajjcgpaaGreatDoor.fa
open Go
theorem closed : joinedFacts Tryz.prog 3 Tryz.f3 (Rows.OpenSpec.upto Rows.modelTellsSpec).bare Rows.modelTellsUptoRow = true := by
  unfold joinedFacts
  simp only [Bool.and_eq_true]
  exact ⟨⟨⟨⟨⟨⟨⟨⟨⟨⟨⟨⟨⟨⟨⟨⟨⟨⟨⟨⟨⟨⟨⟨⟨⟨⟨⟨⟨⟨⟨⟨a0, a1⟩, a2⟩, a3⟩, a4⟩, a5⟩, a6⟩, a7⟩, a8⟩, a9⟩, a10⟩, a11⟩, a12⟩, a13⟩, a14⟩, a15⟩, a16⟩, a17⟩, a18⟩, a19⟩, a20⟩, a21⟩, a22⟩, a23⟩, a24⟩, a25⟩, a26⟩, a27⟩, a28⟩, a29⟩, a30⟩, a31⟩
theorem named : Tryz.prog.funcNamed "docket/docketlaw23.ModelTells" = some 3 := by kernel_rfl
theorem allGo : (Tryz.prog.funcs.toList.any Func.goes) = false := by kernel_rfl
theorem anyGo (P : Program) (h : P.funcs.toList.any Func.goes = false) (f : FuncId) : P.goes f = false := by
  unfold Program.goes
  have h2 : P.funcs.any Func.goes = false := by rw [← Array.any_toList]; exact h
  rw [h2, Bool.and_false, Bool.or_false]
  rw [List.any_eq_false]
  intro g _
  cases hg : P.funcs[g]? with
  | none => simp
  | some fn =>
    have hm : fn ∈ P.funcs.toList := by
      rw [← Array.getElem?_toList] at hg
      exact List.mem_of_getElem? hg
    rw [List.any_eq_false] at h
    simpa using h fn hm
theorem goes : false = Rows.modelTellsUptoRow.goesBy Tryz.prog := by
  have h : Rows.modelTellsUptoRow.goesBy Tryz.prog = ((Tryz.prog.funcNamed "docket/docketlaw23.ModelTells").any Tryz.prog.goes || false) := rfl
  rw [h, named, Option.any_some, anyGo _ allGo]
  rfl
end Go.Proofs.YtnckhmfajjcgpaaGreatDoor.fa
