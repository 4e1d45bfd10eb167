/- The row's closed facts, joined. -/
import Derived.Test.YtonckhnoealepaaGreatDoorJa
import Derived.Test.YtonckhnoealepaaGreatDoorJb
import Derived.Test.YtonckhnoealepaaGreatDoorJc
import Derived.Test.YtonckhnoealepaaGreatDoorJd
import Derived.Test.YtonckhnoealepaaGreatDoorJe
import Derived.Test.YtonckhnoealepaaGreatDoorJg
import Derived.Test.YtonckhnoealepaaGreatDoorJh
import Derived.Test.YtonckhnoealepaaGreatDoorJi
import Derived.Test.YtonckhnoealepaaGreatDoorOa
import Derived.Test.YtonckhnoealepaaGreatDoorOb
import Derived.Test.YtonckhnoealepaaGreatDoorOc
import Derived.Lay
import Derived.SevenTiedAt
import Derived.WalkKit
import Derived.ProofKit
import Derived.LaidMore
import Derived.OpenShut
import Derived.Stop.Joined
import Derived.Stop.LaidErr
import Derived.Lib.LaidTab
namespace Go.Proofs.YtonckhnoealepaaGreatDoor
open Go
theorem and2 {a b : Bool} (ha : a = true) (hb : b = true) : (a && b) = true := by rw [ha, hb]; rfl
theorem row_all {t : Nat} (h : t < 800) : rowFine Tryz.prog t = true := by
  by_cases h0 : t < 150
  · exact List.all_eq_true.1 o0 t (List.mem_range'_1.2 ⟨by omega, by omega⟩)
  by_cases h1 : t < 300
  · exact List.all_eq_true.1 o1 t (List.mem_range'_1.2 ⟨by omega, by omega⟩)
  by_cases h2 : t < 450
  · exact List.all_eq_true.1 o2 t (List.mem_range'_1.2 ⟨by omega, by omega⟩)
  by_cases h3 : t < 650
  · exact List.all_eq_true.1 o3 t (List.mem_range'_1.2 ⟨by omega, by omega⟩)
  exact List.all_eq_true.1 o4 t (List.mem_range'_1.2 ⟨by omega, by omega⟩)
theorem j1 : laidOutB Tryz.prog = true :=
  and2 (and2 (List.all_eq_true.2 fun _ ht => row_all (Nat.lt_of_lt_of_le (List.mem_range.1 ht) (of_decide_eq_true oz))) og) oh
set_option maxRecDepth 100000 in
theorem joined : joinedFacts Tryz.prog 3 Tryz.f3 Rows.serveNoneSpec Rows.serveNoneRow = true := (and2 (and2 (and2 (and2 (and2 (and2 (and2 (and2 (and2 (and2 (and2 (and2 (and2 (and2 (and2 (and2 (and2 (and2 (and2 (and2 (and2 (and2 (and2 (and2 (and2 (and2 (and2 (and2 (and2 (and2 (and2 j0 j1) j2) j3) j4) j5) j6) j7) j8) j9) j10) j11) j12) j13) j14) j15) j16) j17) j18) j19) j20) j21) j22) j23) j24) j25) j26) j27) j28) j29) j30) j31)
end Go.Proofs.YtonckhnoealepaaGreatDoor
