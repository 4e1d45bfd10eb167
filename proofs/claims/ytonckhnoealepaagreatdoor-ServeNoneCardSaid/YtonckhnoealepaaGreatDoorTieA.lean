/- The tie, first facts: the words of the translator, the kinds of the listed variables. -/
import Derived.Test.YtonckhnoealepaaGreatDoorRows
import Derived.LaidByTextLater
import Derived.SevenTiedAt
namespace Go.Proofs.YtonckhnoealepaaGreatDoor
open Go
def tieL : List (String × DataW Unit) := [("internal/strconv.uint64pow10", Rows.laid_internal_strconv_uint64pow10), ("math/bits.deBruijn32tab", Rows.laid_math_bits_deBruijn32tab), ("math/bits.deBruijn64tab", Rows.laid_math_bits_deBruijn64tab), ("strconv.ErrSyntax", Rows.laid_strconv_ErrSyntax), ("strconv.ErrRange", Rows.laid_strconv_ErrRange), ("unicode/utf8.acceptRanges", Rows.laid_unicode_utf8_acceptRanges), ("lodestar/wal.errFine", Rows.laid_lodestar_wal_errFine), ("errors.errorType", Rows.laid_errors_errorType), ("lodestar/scalar.none", Rows.laid_lodestar_scalar_none)]
theorem tA1 : Tryz.prog.worded (varsWordLater true) = true := by kernel_rfl
theorem tA2 : Tryz.prog.worded (varsWordLater !true) = false := by kernel_rfl
theorem tA3 : Tryz.prog.worded rootWordLater = true := by kernel_rfl
theorem tA4 : tieL.map (fun x => Tryz.prog.kindOfLater x.1) = ([.data, .data, .data, .sentinel, .sentinel, .data, .sentinel, .handle, .data] : List LaidKind).map some := by kernel_rfl
theorem tA5 : (Tryz.prog.funcNamed "gosem.cut.vars").isSome = true := by kernel_rfl
end Go.Proofs.YtonckhnoealepaaGreatDoor
