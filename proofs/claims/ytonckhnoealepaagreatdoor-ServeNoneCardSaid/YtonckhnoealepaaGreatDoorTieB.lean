/- The tie, a fact: which variables the door lays. -/
import Derived.Test.YtonckhnoealepaaGreatDoorTieA
namespace Go.Proofs.YtonckhnoealepaaGreatDoor
open Go
theorem tB : varsNamedLaterB Tryz.prog (varsId Tryz.prog) tieL = true := by kernel_rfl
end Go.Proofs.YtonckhnoealepaaGreatDoor
