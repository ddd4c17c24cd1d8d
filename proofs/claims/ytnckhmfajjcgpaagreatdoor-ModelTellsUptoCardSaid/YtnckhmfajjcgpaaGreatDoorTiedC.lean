/- The tie: what the initialisers name. -/
import Derived.Test.YtnckhmfajjcgpaaGreatDoorTiedK
set_option linter.unusedVariables false
namespace Go.Proofs.YtnckhmfajjcgpaaGreatDoor.tied
open Go
noncomputable def codeV : Code := (((Tryz.prog.funcs[varsId Tryz.prog]?).bind (·.body)).getD .skip)
theorem hcode : (Tryz.prog.funcs[varsId Tryz.prog]?).bind (·.body) = some codeV := by kernel_rfl
noncomputable def storedV : List Nat := (codeV.laysInOrder []).getD []
theorem hstored : codeV.laysInOrder [] = some storedV := by kernel_rfl
theorem hdups : (storedV.eraseDups.length == storedV.length) = true := by kernel_rfl
theorem hc1 : (!codeV.unfollowedBeside Tryz.prog) = true := by kernel_rfl
theorem hc2 : (codeV.tempsApart 0).isSome = true := by kernel_rfl
theorem hc3 : codeV.regionsFit Tryz.prog [] = true := by kernel_rfl
theorem hc4 : ((codeV.storedByHandle Tryz.prog).isEmpty || ((Tryz.prog.funcNamed "(internal/reflectlite.rtype).Elem").any fun h => (Tryz.prog.funcs[h]?).any fun fn => fn.body.isNone && !entryCalls fn)) = true := by kernel_rfl
theorem hc5 : ((codeV.storedByHandle Tryz.prog).all fun v => Tryz.prog.globalNamed "errors.errorType" == some v) = true := by kernel_rfl
theorem hcalls : Tryz.prog.callsLaidAlone (varsId Tryz.prog) codeV = true := by
  unfold Program.callsLaidAlone
  rw [hc1, hc2, hc3, hc4, hc5]
  rfl
def oneV (P : Program) (code : Code) (stored : List Nat) (b : Option LaidKind) (x : String × DataW Unit) : Bool :=
  (P.globalNamed x.1).any fun v => (stored.contains v == (b != some .zero)) && callsFit code v b &&
    ((code.storedByHandle P).contains v == (b == some .handle)) && (x.2.handleName?.isSome == (b == some .handle || b == some .funcs)) &&
    (b != some .handle || handlePair x) && (x.2.funcsIn?.isSome == (b == some .funcs)) && mapsFit code v x.2 b
theorem one_eq (P : Program) (code : Code) (stored : List Nat) (l : List (String × DataW Unit)) : (l.all fun x => (P.globalNamed x.1).any fun v => (stored.contains v == (P.kindBase x.1 != some .zero)) && callsFit code v (P.kindBase x.1) &&
          ((code.storedByHandle P).contains v == (P.kindBase x.1 == some .handle)) && (x.2.handleName?.isSome == (P.kindBase x.1 == some .handle || P.kindBase x.1 == some .funcs)) &&
          (P.kindBase x.1 != some .handle || handlePair x) && (x.2.funcsIn?.isSome == (P.kindBase x.1 == some .funcs)) && mapsFit code v x.2 (P.kindBase x.1)) = l.all fun x => oneV P code stored (P.kindBase x.1) x := rfl
theorem o0 : oneV Tryz.prog codeV storedV (some .sentinel) ("strconv.ErrSyntax", Rows.laid_strconv_ErrSyntax) = true := by kernel_rfl
theorem o1 : oneV Tryz.prog codeV storedV (some .sentinel) ("strconv.ErrRange", Rows.laid_strconv_ErrRange) = true := by kernel_rfl
theorem o2 : oneV Tryz.prog codeV storedV (some .data) ("internal/strconv.uint64pow10", Rows.laid_internal_strconv_uint64pow10) = true := by kernel_rfl
theorem o3 : oneV Tryz.prog codeV storedV (some .data) ("math/bits.deBruijn32tab", Rows.laid_math_bits_deBruijn32tab) = true := by kernel_rfl
theorem o4 : oneV Tryz.prog codeV storedV (some .data) ("math/bits.deBruijn64tab", Rows.laid_math_bits_deBruijn64tab) = true := by kernel_rfl
theorem o5 : oneV Tryz.prog codeV storedV (some .data) ("unicode/utf8.acceptRanges", Rows.laid_unicode_utf8_acceptRanges) = true := by kernel_rfl
theorem o6 : oneV Tryz.prog codeV storedV (some .handle) ("errors.errorType", Rows.laid_errors_errorType) = true := by kernel_rfl
theorem o7 : oneV Tryz.prog codeV storedV (some .data) ("docket/ident.shifts", Rows.laid_docket_ident_shifts) = true := by kernel_rfl
theorem o8 : oneV Tryz.prog codeV storedV (some .data) ("docket/ident.factors", Rows.laid_docket_ident_factors) = true := by kernel_rfl
theorem f6 : varsNamedLaterB Tryz.prog (varsId Tryz.prog) laidN = true := by
  unfold varsNamedLaterB
  rw [hcode]
  simp only []
  rw [hstored]
  simp only []
  rw [hdups, hcalls, one_eq]
  unfold laidN
  simp only [List.all_cons, List.all_nil, Bool.and_true, b0, o0, b1, o1, b2, o2, b3, o3, b4, o4, b5, o5, b6, o6, b7, o7, b8, o8]
end Go.Proofs.YtnckhmfajjcgpaaGreatDoor.tied
