/- The witness: the handle. -/
import Derived.Test.YtonckhnoealepaaGreatDoorDa
import Derived.Lay
import Derived.SevenTiedAt
import Derived.WalkKit
import Derived.ProofKit
import Derived.LaidMore
import Derived.OpenShut
import Derived.Stop.Joined
import Derived.Stop.LaidErr
import Derived.Lib.LaidTab
namespace Go.Proofs.YtonckhnoealepaaGreatDoor
open Go
theorem d3 (os : Os) (args : Array Value) : [("errors.errorType", Rows.laid_errors_errorType)].all (handleAtB Tryz.prog ((wit os).forCall (fun _ _ => 0) ⟨#[], args, []⟩).memory) = true := by kernel_rfl
end Go.Proofs.YtonckhnoealepaaGreatDoor
