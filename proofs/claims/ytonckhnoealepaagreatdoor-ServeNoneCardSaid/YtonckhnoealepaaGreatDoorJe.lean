/- The row's name, origin, wrapper. -/
import Derived.Test.YtonckhnoealepaaGreatDoorRows
import Derived.Lay
import Derived.SevenTiedAt
import Derived.WalkKit
import Derived.ProofKit
import Derived.LaidMore
import Derived.OpenShut
import Derived.Stop.Joined
import Derived.Stop.LaidErr
import Derived.Lib.LaidTab
namespace Go.Proofs.YtonckhnoealepaaGreatDoor
open Go
theorem fact_n : Tryz.prog.funcNamed Rows.serveNoneRow.func = some 3 := by kernel_rfl
theorem fact_i : Tryz.f3.isInstance Tryz.prog Rows.serveNoneRow.origin Rows.serveNoneRow.targs := of_decide_eq_true (by kernel_rfl)
theorem fact_w : Tryz.f3.isWrapper Tryz.prog Rows.serveNoneRow.wrapper Rows.serveNoneRow.mainSum := by unfold Func.isWrapper; first | (rw [if_pos (by decide +kernel)]; kernel_rfl) | (rw [if_neg (by decide +kernel)]; exact ⟨rfl, rfl⟩)
end Go.Proofs.YtonckhnoealepaaGreatDoor
