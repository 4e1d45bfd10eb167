/- The functions' parameters are types. -/
import Derived.Test.YtonckhnoealepaaGreatDoorRows
import Derived.Lay
import Derived.SevenTiedAt
import Derived.WalkKit
import Derived.ProofKit
import Derived.LaidMore
import Derived.OpenShut
import Derived.Stop.Joined
import Derived.Stop.LaidErr
import Derived.Lib.LaidTab
namespace Go.Proofs.YtonckhnoealepaaGreatDoor
open Go
theorem oh : Tryz.prog.funcs.all (fun f => f.params.all fun t => decide (t < Tryz.prog.types.size)) = true := by kernel_rfl
end Go.Proofs.YtonckhnoealepaaGreatDoor
