/- What the row lists; the world that bears witness. -/
import Derived.Test.YtonckhnoealepaaGreatDoorRows
import Derived.Lay
import Derived.SevenTiedAt
import Derived.WalkKit
import Derived.ProofKit
import Derived.LaidMore
import Derived.OpenShut
import Derived.Stop.Joined
import Derived.Stop.LaidErr
import Derived.Lib.LaidTab
namespace Go.Proofs.YtonckhnoealepaaGreatDoor
open Go
def lists : List (String × DataW Unit) := [("internal/strconv.uint64pow10", Rows.laid_internal_strconv_uint64pow10), ("math/bits.deBruijn32tab", Rows.laid_math_bits_deBruijn32tab), ("math/bits.deBruijn64tab", Rows.laid_math_bits_deBruijn64tab), ("strconv.ErrSyntax", Rows.laid_strconv_ErrSyntax), ("strconv.ErrRange", Rows.laid_strconv_ErrRange), ("unicode/utf8.first", Rows.laid_unicode_utf8_first), ("unicode/utf8.acceptRanges", Rows.laid_unicode_utf8_acceptRanges), ("lodestar/wal.errFine", Rows.laid_lodestar_wal_errFine), ("lodestar/scalar.none", Rows.laid_lodestar_scalar_none)]
noncomputable def handleCell : Value := .iface 460 (.agg #[typeHandle Tryz.prog 256])
/-- The world at the start, with the type's handle in its variable. -/
noncomputable def base0 (os : Os) : World := { World.settled Tryz.prog os with heap := ⟨Lay.setRows (World.settled Tryz.prog os).heap.toList [(5, [handleCell])]⟩ }
noncomputable def wit (os : Os) : World := (base0 os).layVars Tryz.prog lists
theorem lists_h : (Rows.serveNoneRow.laid.filter fun x => x.2.handleName?.isSome) = [("errors.errorType", Rows.laid_errors_errorType)] := by kernel_rfl
theorem lists_hh : (Rows.serveNoneRow.laid.filter fun x => x.2.handleName?.isSome && x.2.funcsIn?.isNone) = [("errors.errorType", Rows.laid_errors_errorType)] := by kernel_rfl
theorem lists_n : (Rows.serveNoneRow.laid.filter fun x => x.2.handleName?.isNone) = lists := by kernel_rfl
end Go.Proofs.YtonckhnoealepaaGreatDoor
