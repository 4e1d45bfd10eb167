/- The types lie as they must, a share. -/
import Derived.Test.YtonckhnoealepaaGreatDoorRows
import Derived.Lay
import Derived.SevenTiedAt
import Derived.WalkKit
import Derived.ProofKit
import Derived.LaidMore
import Derived.OpenShut
import Derived.Stop.Joined
import Derived.Stop.LaidErr
import Derived.Lib.LaidTab
namespace Go.Proofs.YtonckhnoealepaaGreatDoor
open Go
theorem o3 : (List.range' 450 200).all (rowFine Tryz.prog) = true := by kernel_rfl
theorem o4 : (List.range' 650 150).all (rowFine Tryz.prog) = true := by kernel_rfl
end Go.Proofs.YtonckhnoealepaaGreatDoor
