/- The tie, a fact: what the door lays reads as listed. -/
import Derived.Test.YtonckhnoealepaaGreatDoorTieA
namespace Go.Proofs.YtonckhnoealepaaGreatDoor
open Go
theorem tD : ∀ os tape, (DataW.laidRun Tryz.prog (varsWorld Tryz.prog 400 (varsId Tryz.prog) os tape).memory 8 ((tieL.filter fun x => x.2.handleName?.isNone).map (·.1))).map (·.1) = some (tieL.filter fun x => x.2.handleName?.isNone) := fun _ _ => by kernel_rfl
end Go.Proofs.YtonckhnoealepaaGreatDoor
