/- The tie, a fact: the handle. -/
import Derived.Test.YtonckhnoealepaaGreatDoorTieA
namespace Go.Proofs.YtonckhnoealepaaGreatDoor
open Go
theorem tF : ∀ os tape, (tieL.filter fun x => x.2.handleName?.isSome).all (handleAtB Tryz.prog (varsWorld Tryz.prog 400 (varsId Tryz.prog) os tape).memory) = true := fun _ _ => by kernel_rfl
end Go.Proofs.YtonckhnoealepaaGreatDoor
