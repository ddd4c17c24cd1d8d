/- The tie, second part: each listed variable's kind, off the words that the translation bears. -/
import Derived.Test.YtnckhmfajjcgpaaGreatDoorTiedZ
set_option linter.unusedVariables false
namespace Go.Proofs.YtnckhmfajjcgpaaGreatDoor.tied
open Go
def door : List (List UInt8) := [[100, 111, 99, 107, 101, 116, 47, 105, 100, 101, 110, 116, 46, 102, 97, 99, 116, 111, 114, 115, 32, 105, 115, 32, 108, 97, 105, 100, 32, 98, 121, 32, 105, 116, 115, 32, 111, 119, 110, 32, 105, 110, 105, 116, 105, 97, 108, 105, 115, 101, 114, 44, 32, 112, 108, 97, 105, 110, 32, 100, 97, 116, 97, 32, 40, 108, 111, 111, 107, 32, 49, 49, 41], [100, 111, 99, 107, 101, 116, 47, 105, 100, 101, 110, 116, 46, 115, 104, 105, 102, 116, 115, 32, 105, 115, 32, 108, 97, 105, 100, 32, 98, 121, 32, 105, 116, 115, 32, 111, 119, 110, 32, 105, 110, 105, 116, 105, 97, 108, 105, 115, 101, 114, 44, 32, 112, 108, 97, 105, 110, 32, 100, 97, 116, 97, 32, 40, 108, 111, 111, 107, 32, 49, 49, 41], [101, 114, 114, 111, 114, 115, 46, 101, 114, 114, 111, 114, 84, 121, 112, 101, 32, 105, 115, 32, 108, 97, 105, 100, 32, 98, 121, 32, 105, 116, 115, 32, 111, 119, 110, 32, 99, 97, 108, 108, 32, 111, 102, 32, 114, 101, 102, 108, 101, 99, 116, 108, 105, 116, 101, 46, 84, 121, 112, 101, 79, 102, 32, 111, 110, 32, 97, 32, 110, 105, 108, 32, 112, 111, 105, 110, 116, 101, 114, 32, 97, 110, 100, 32, 69, 108, 101, 109, 32, 111, 102, 32, 105, 116, 32, 40, 104, 97, 110, 100, 108, 101, 32, 49, 41], [103, 111, 115, 101, 109, 46, 99, 117, 116, 46, 118, 97, 114, 115, 32, 104, 111, 108, 100, 115, 32, 105, 110, 105, 116, 105, 97, 108, 105, 115, 101, 114, 115, 32, 97, 108, 111, 110, 101, 59, 32, 115, 101, 101, 32, 116, 104, 101, 32, 109, 97, 110, 105, 102, 101, 115, 116, 39, 115, 32, 114, 111, 119, 32, 99, 117, 116, 118, 97, 114, 115, 119, 111, 114, 100, 32, 40, 108, 111, 111, 107, 32, 49, 49, 44, 32, 116, 101, 115, 116, 32, 102, 105, 108, 101, 115, 32, 116, 111, 111, 41], [105, 110, 116, 101, 114, 110, 97, 108, 47, 115, 116, 114, 99, 111, 110, 118, 46, 117, 105, 110, 116, 54, 52, 112, 111, 119, 49, 48, 32, 105, 115, 32, 108, 97, 105, 100, 32, 98, 121, 32, 105, 116, 115, 32, 111, 119, 110, 32, 105, 110, 105, 116, 105, 97, 108, 105, 115, 101, 114, 44, 32, 112, 108, 97, 105, 110, 32, 100, 97, 116, 97, 32, 40, 108, 111, 111, 107, 32, 49, 49, 41], [109, 97, 116, 104, 47, 98, 105, 116, 115, 46, 100, 101, 66, 114, 117, 105, 106, 110, 51, 50, 116, 97, 98, 32, 105, 115, 32, 108, 97, 105, 100, 32, 98, 121, 32, 105, 116, 115, 32, 111, 119, 110, 32, 105, 110, 105, 116, 105, 97, 108, 105, 115, 101, 114, 44, 32, 112, 108, 97, 105, 110, 32, 100, 97, 116, 97, 32, 40, 108, 111, 111, 107, 32, 49, 49, 41], [109, 97, 116, 104, 47, 98, 105, 116, 115, 46, 100, 101, 66, 114, 117, 105, 106, 110, 54, 52, 116, 97, 98, 32, 105, 115, 32, 108, 97, 105, 100, 32, 98, 121, 32, 105, 116, 115, 32, 111, 119, 110, 32, 105, 110, 105, 116, 105, 97, 108, 105, 115, 101, 114, 44, 32, 112, 108, 97, 105, 110, 32, 100, 97, 116, 97, 32, 40, 108, 111, 111, 107, 32, 49, 49, 41], [115, 116, 114, 99, 111, 110, 118, 46, 69, 114, 114, 82, 97, 110, 103, 101, 32, 105, 115, 32, 108, 97, 105, 100, 32, 98, 121, 32, 105, 116, 115, 32, 111, 119, 110, 32, 99, 97, 108, 108, 32, 111, 102, 32, 101, 114, 114, 111, 114, 115, 46, 78, 101, 119, 32, 111, 110, 32, 111, 110, 101, 32, 108, 105, 116, 101, 114, 97, 108, 32, 40, 108, 111, 111, 107, 32, 49, 49, 41], [115, 116, 114, 99, 111, 110, 118, 46, 69, 114, 114, 83, 121, 110, 116, 97, 120, 32, 105, 115, 32, 108, 97, 105, 100, 32, 98, 121, 32, 105, 116, 115, 32, 111, 119, 110, 32, 99, 97, 108, 108, 32, 111, 102, 32, 101, 114, 114, 111, 114, 115, 46, 78, 101, 119, 32, 111, 110, 32, 111, 110, 101, 32, 108, 105, 116, 101, 114, 97, 108, 32, 40, 108, 111, 111, 107, 32, 49, 49, 41], [116, 104, 101, 32, 108, 111, 111, 107, 32, 111, 102, 32, 103, 111, 115, 101, 109, 46, 99, 117, 116, 46, 118, 97, 114, 115, 32, 119, 101, 110, 116, 32, 111, 118, 101, 114, 32, 116, 104, 101, 32, 102, 111, 108, 100, 101, 114, 32, 116, 104, 97, 116, 32, 116, 104, 101, 32, 99, 97, 108, 108, 101, 114, 32, 110, 97, 109, 101, 100, 32, 97, 115, 32, 116, 104, 101, 32, 114, 101, 112, 111, 115, 105, 116, 111, 114, 121, 39, 115, 32, 114, 111, 111, 116, 32, 40, 108, 111, 111, 107, 32, 49, 49, 41], [117, 110, 105, 99, 111, 100, 101, 47, 117, 116, 102, 56, 46, 97, 99, 99, 101, 112, 116, 82, 97, 110, 103, 101, 115, 32, 105, 115, 32, 108, 97, 105, 100, 32, 98, 121, 32, 105, 116, 115, 32, 111, 119, 110, 32, 105, 110, 105, 116, 105, 97, 108, 105, 115, 101, 114, 44, 32, 112, 108, 97, 105, 110, 32, 100, 97, 116, 97, 32, 40, 108, 111, 111, 107, 32, 49, 49, 41], [117, 110, 105, 99, 111, 100, 101, 47, 117, 116, 102, 56, 46, 102, 105, 114, 115, 116, 32, 105, 115, 32, 108, 97, 105, 100, 32, 98, 121, 32, 105, 116, 115, 32, 116, 101, 120, 116, 32, 97, 108, 111, 110, 101, 32, 40, 112, 105, 110, 110, 101, 100, 32, 49, 41]]
set_option maxRecDepth 100000
theorem door_eq : Tryz.prog.doorBytes = door := by kernel_rfl
def baseD (D : List (List UInt8)) (v : String) : Option LaidKind :=
  let on (tail : String) : Bool := (D.filterMap (bytesBehind v.toUTF8.data.toList)).any fun r => bytesBehind tail.toUTF8.data.toList r == some []
  match [LaidKind.data, .sentinel, .listed, .handle, .mapped, .funcs, .called, .wider, .zero].filter fun k => on (kindTail k) with
    | [.listed] => if on deepTailLater then some .listed else none
    | [k] => some k
    | _ => none
theorem base_eq (P : Program) (v : String) : P.kindBase v = baseD P.doorBytes v := rfl
theorem b0 : Tryz.prog.kindBase "strconv.ErrSyntax" = some .sentinel := by
  rw [base_eq, door_eq]
  kernel_rfl
theorem k0 : Tryz.prog.kindOfLater "strconv.ErrSyntax" = some .sentinel := by
  unfold Program.kindOfLater
  rw [b0]
theorem b1 : Tryz.prog.kindBase "strconv.ErrRange" = some .sentinel := by
  rw [base_eq, door_eq]
  kernel_rfl
theorem k1 : Tryz.prog.kindOfLater "strconv.ErrRange" = some .sentinel := by
  unfold Program.kindOfLater
  rw [b1]
theorem b2 : Tryz.prog.kindBase "internal/strconv.uint64pow10" = some .data := by
  rw [base_eq, door_eq]
  kernel_rfl
theorem k2 : Tryz.prog.kindOfLater "internal/strconv.uint64pow10" = some .data := by
  unfold Program.kindOfLater
  rw [b2]
theorem b3 : Tryz.prog.kindBase "math/bits.deBruijn32tab" = some .data := by
  rw [base_eq, door_eq]
  kernel_rfl
theorem k3 : Tryz.prog.kindOfLater "math/bits.deBruijn32tab" = some .data := by
  unfold Program.kindOfLater
  rw [b3]
theorem b4 : Tryz.prog.kindBase "math/bits.deBruijn64tab" = some .data := by
  rw [base_eq, door_eq]
  kernel_rfl
theorem k4 : Tryz.prog.kindOfLater "math/bits.deBruijn64tab" = some .data := by
  unfold Program.kindOfLater
  rw [b4]
theorem b5 : Tryz.prog.kindBase "unicode/utf8.acceptRanges" = some .data := by
  rw [base_eq, door_eq]
  kernel_rfl
theorem k5 : Tryz.prog.kindOfLater "unicode/utf8.acceptRanges" = some .data := by
  unfold Program.kindOfLater
  rw [b5]
theorem b6 : Tryz.prog.kindBase "errors.errorType" = some .handle := by
  rw [base_eq, door_eq]
  kernel_rfl
theorem k6 : Tryz.prog.kindOfLater "errors.errorType" = some .handle := by
  unfold Program.kindOfLater
  rw [b6]
theorem b7 : Tryz.prog.kindBase "docket/ident.shifts" = some .data := by
  rw [base_eq, door_eq]
  kernel_rfl
theorem k7 : Tryz.prog.kindOfLater "docket/ident.shifts" = some .data := by
  unfold Program.kindOfLater
  rw [b7]
theorem b8 : Tryz.prog.kindBase "docket/ident.factors" = some .data := by
  rw [base_eq, door_eq]
  kernel_rfl
theorem k8 : Tryz.prog.kindOfLater "docket/ident.factors" = some .data := by
  unfold Program.kindOfLater
  rw [b8]
theorem f4 : laidN.map (fun x => Tryz.prog.kindOfLater x.1) = kindsN.map some := by
  unfold laidN kindsN
  simp only [List.map_cons, List.map_nil, k0, k1, k2, k3, k4, k5, k6, k7, k8]
end Go.Proofs.YtnckhmfajjcgpaaGreatDoor.tied
