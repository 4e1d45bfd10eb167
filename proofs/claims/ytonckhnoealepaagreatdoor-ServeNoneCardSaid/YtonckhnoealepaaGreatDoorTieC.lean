/- The tie, a fact: the door ends. -/
import Derived.Test.YtonckhnoealepaaGreatDoorTieA
namespace Go.Proofs.YtonckhnoealepaaGreatDoor
open Go
theorem tC : ∀ os tape, varsDone Tryz.prog 400 (varsId Tryz.prog) os tape = true := fun _ _ => by kernel_rfl
end Go.Proofs.YtonckhnoealepaaGreatDoor
