/- The types lie as they must, a share. -/
import Derived.Test.YtonckhnoealepaaGreatDoorRows
import Derived.Lay
import Derived.SevenTiedAt
import Derived.WalkKit
import Derived.ProofKit
import Derived.LaidMore
import Derived.OpenShut
import Derived.Stop.Joined
import Derived.Stop.LaidErr
import Derived.Lib.LaidTab
namespace Go.Proofs.YtonckhnoealepaaGreatDoor
open Go
theorem o0 : (List.range' 0 150).all (rowFine Tryz.prog) = true := by kernel_rfl
theorem o1 : (List.range' 150 150).all (rowFine Tryz.prog) = true := by kernel_rfl
theorem o2 : (List.range' 300 150).all (rowFine Tryz.prog) = true := by kernel_rfl
theorem oz : decide (Tryz.prog.types.size ≤ 800) = true := by kernel_rfl
theorem og : Tryz.prog.globals.all (fun g => decide (g.type < Tryz.prog.types.size)) = true := by kernel_rfl
end Go.Proofs.YtonckhnoealepaaGreatDoor
