/- The witness: its argument. -/
import Derived.Test.YtonckhnoealepaaGreatDoorDa
import Derived.Lay
import Derived.SevenTiedAt
import Derived.WalkKit
import Derived.ProofKit
import Derived.LaidMore
import Derived.OpenShut
import Derived.Stop.Joined
import Derived.Stop.LaidErr
import Derived.Lib.LaidTab
namespace Go.Proofs.YtonckhnoealepaaGreatDoor
open Go
theorem s3 (os : Os) : Input.okWideB Tryz.prog ((wit os).forCall (fun _ _ => 0) ⟨#[], #[.agg #[.string ⟨#[]⟩, .string ⟨#[]⟩, .string ⟨#[]⟩]], []⟩) 3 ⟨#[], #[.agg #[.string ⟨#[]⟩, .string ⟨#[]⟩, .string ⟨#[]⟩]], []⟩ = true := by kernel_rfl
theorem s4 {H : Type} (enc : TypeId × Value → H) (os : Os) : Rows.serveNoneSpec.preB enc Tryz.prog Tryz.f3 [] false ((wit os).forCall (fun _ _ => 0) ⟨#[], #[.agg #[.string ⟨#[]⟩, .string ⟨#[]⟩, .string ⟨#[]⟩]], []⟩).memory #[.agg #[.string ⟨#[]⟩, .string ⟨#[]⟩, .string ⟨#[]⟩]] 8 = true := by kernel_rfl
theorem s5 {H : Type} (enc : TypeId × Value → H) (os : Os) : Rows.serveNoneSpec.sizedB enc Tryz.prog Tryz.f3 false ((wit os).forCall (fun _ _ => 0) ⟨#[], #[.agg #[.string ⟨#[]⟩, .string ⟨#[]⟩, .string ⟨#[]⟩]], []⟩).memory #[.agg #[.string ⟨#[]⟩, .string ⟨#[]⟩, .string ⟨#[]⟩]] 8 = true := by kernel_rfl
end Go.Proofs.YtonckhnoealepaaGreatDoor
