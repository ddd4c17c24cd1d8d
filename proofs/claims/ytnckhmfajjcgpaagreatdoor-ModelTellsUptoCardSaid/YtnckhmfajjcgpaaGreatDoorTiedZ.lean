/- The tie: the list. -/
import Derived.Test.YtnckhmfajjcgpaaGreatDoorRows
import Derived.LaidByTextLater
import Derived.SevenTiedAt
set_option linter.unusedVariables false
namespace Go.Proofs.YtnckhmfajjcgpaaGreatDoor.tied
open Go
def laidN : List (String × DataW Unit) := [("strconv.ErrSyntax", Rows.laid_strconv_ErrSyntax), ("strconv.ErrRange", Rows.laid_strconv_ErrRange), ("internal/strconv.uint64pow10", Rows.laid_internal_strconv_uint64pow10), ("math/bits.deBruijn32tab", Rows.laid_math_bits_deBruijn32tab), ("math/bits.deBruijn64tab", Rows.laid_math_bits_deBruijn64tab), ("unicode/utf8.acceptRanges", Rows.laid_unicode_utf8_acceptRanges), ("errors.errorType", Rows.laid_errors_errorType), ("docket/ident.shifts", Rows.laid_docket_ident_shifts), ("docket/ident.factors", Rows.laid_docket_ident_factors)]
def kindsN : List LaidKind := [.sentinel, .sentinel, .data, .data, .data, .data, .handle, .data, .data]
end Go.Proofs.YtnckhmfajjcgpaaGreatDoor.tied
