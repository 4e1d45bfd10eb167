/- The witness: the interface values. -/
import Derived.Test.YtonckhnoealepaaGreatDoorDa
import Derived.Lay
import Derived.SevenTiedAt
import Derived.WalkKit
import Derived.ProofKit
import Derived.LaidMore
import Derived.OpenShut
import Derived.Stop.Joined
import Derived.Stop.LaidErr
import Derived.Lib.LaidTab
namespace Go.Proofs.YtonckhnoealepaaGreatDoor
open Go
theorem d2 (os : Os) (args : Array Value) : (base0 os).layIfaces Tryz.prog lists ((wit os).forCall (fun _ _ => 0) ⟨#[], args, []⟩).memory = true := by kernel_rfl
end Go.Proofs.YtonckhnoealepaaGreatDoor
