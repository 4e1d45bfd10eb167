/- The card's closed facts. -/
import Derived.Test.YtonckhnoealepaaGreatDoorRows
import Derived.Lay
import Derived.SevenTiedAt
import Derived.WalkKit
import Derived.ProofKit
import Derived.LaidMore
import Derived.OpenShut
import Derived.Stop.Joined
import Derived.Stop.LaidErr
import Derived.Lib.LaidTab
namespace Go.Proofs.YtonckhnoealepaaGreatDoor
open Go
theorem card_wf : Rows.serveNoneRow.wfByText (OpenSpec.ofChange Rows.serveNoneSpec) = true := by kernel_rfl
theorem card_main : Tryz.pinned.checked.prog.mainIs = some (true, "ec3f2a2a2f763dae98f05af3ad99f9db75926f4b448dfa4cde32cde8ad3cc7b2".toList) := by kernel_rfl
theorem card_func : Tryz.pinned.checked.prog.funcNamed Rows.serveNoneRow.func = some 3 := by kernel_rfl
theorem card_looks : true = Tryz.pinned.checked.prog.looks [] := by kernel_rfl
theorem card_stand : Tryz.pinned.checked.prog.wantsStandIn 23 = false := by kernel_rfl
end Go.Proofs.YtonckhnoealepaaGreatDoor
