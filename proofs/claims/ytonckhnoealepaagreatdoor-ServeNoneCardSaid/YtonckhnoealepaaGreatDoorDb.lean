/- The witness: the data fit. -/
import Derived.Test.YtonckhnoealepaaGreatDoorDa
import Derived.Lay
import Derived.SevenTiedAt
import Derived.WalkKit
import Derived.ProofKit
import Derived.LaidMore
import Derived.OpenShut
import Derived.Stop.Joined
import Derived.Stop.LaidErr
import Derived.Lib.LaidTab
namespace Go.Proofs.YtonckhnoealepaaGreatDoor
open Go
theorem d1 (os : Os) : (base0 os).layFits Tryz.prog lists [] = true := by kernel_rfl
end Go.Proofs.YtonckhnoealepaaGreatDoor
