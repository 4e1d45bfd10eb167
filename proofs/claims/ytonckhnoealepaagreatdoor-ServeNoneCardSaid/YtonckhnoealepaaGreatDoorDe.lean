/- The witness: its variables are of their types. -/
import Derived.Test.YtonckhnoealepaaGreatDoorDa
import Derived.Lay
import Derived.SevenTiedAt
import Derived.WalkKit
import Derived.ProofKit
import Derived.LaidMore
import Derived.OpenShut
import Derived.Stop.Joined
import Derived.Stop.LaidErr
import Derived.Lib.LaidTab
namespace Go.Proofs.YtonckhnoealepaaGreatDoor
open Go
theorem s1 (os : Os) : World.variablesZipB Tryz.prog ((wit os).forCall (fun _ _ => 0) ⟨#[], #[.agg #[.string ⟨#[]⟩, .string ⟨#[]⟩, .string ⟨#[]⟩]], []⟩) = true := by kernel_rfl
end Go.Proofs.YtonckhnoealepaaGreatDoor
