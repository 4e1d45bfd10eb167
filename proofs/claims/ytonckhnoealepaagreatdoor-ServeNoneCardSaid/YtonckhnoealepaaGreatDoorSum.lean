/- What some of Go's functions do, by the program's text. -/
import Derived.Test.YtonckhnoealepaaGreatDoorProg
import Derived.Test.YtonckhnoealepaaGreatDoorTab1
import Derived.Test.YtonckhnoealepaaGreatDoorAm8
import Derived.KernelRfl
import Derived.WalkKit
import Derived.Lib.Builder
import Derived.Lib.Walk
import Derived.Tactics
import Derived.Tactics2
import Derived.Defers
import Derived.Recover
namespace Go.Proofs.YtonckhnoealepaaGreatDoor
open Go Go.AM Go.RowKit
theorem mixed : Tryz.prog.follows .mixedOrders = true := by kernel_rfl
theorem pl_ok : PtrsOk Tryz.prog pl := fun t e => by
  have ht : t = 639 := by
    rw [memN_eq] at e
    simpa [pl] using e
  subst ht
  obtain ⟨i, hi, hc⟩ := Option.map_eq_some_iff.1 (show (Tryz.prog.info? 639).map (·.comparable) = some true from by kernel_rfl)
  exact ⟨641, 1, i, Tryz.underlying639, by kernel_rfl, by decide, hi, hc⟩
theorem ext324 : ExtOk Tryz.prog 324 Extern.BytealgIndexByte.indexByte := ⟨⟨_, Tryz.func324, by kernel_rfl, by kernel_rfl, by kernel_rfl, by kernel_rfl⟩⟩
theorem ext335 : ExtOk Tryz.prog 335 Extern.BytealgCompare.compare := ⟨⟨_, Tryz.func335, by kernel_rfl, by kernel_rfl, by kernel_rfl, by kernel_rfl⟩⟩
theorem ext382 : ExtOk Tryz.prog 382 Extern.ReflectliteType.typeOf := ⟨⟨_, Tryz.func382, by kernel_rfl, by kernel_rfl, by kernel_rfl, by kernel_rfl⟩⟩
theorem typeOf_fact (v : Value) (w : World) : (Extern.ReflectliteType.typeOf #[.iface 639 v]).run Tryz.prog w = .ok (.iface 460 (.agg #[.pointer (some ⟨11, 639, none⟩)])) w := by kernel_rfl
set_option maxHeartbeats 1000000 in
set_option maxRecDepth 100000 in
theorem copy_fresh (b : Nat) (w : World) (h0 : w.cell? ⟨b, 0, none⟩ = some (.pointer none)) (hsh : w.shape? b = some (208, 2)) (hfz : w.frozen? ⟨b, 0, none⟩ = false) :
    Calls Tryz.prog 281 #[.pointer (some ⟨b, 0, none⟩)] w fun e w' => e = .returned (.tuple #[]) ∧ w' = w.setCell ⟨b, 0, none⟩ (.pointer (some ⟨b, 0, none⟩)) := by
  obtain ⟨j, hj, hjs⟩ := Option.map_eq_some_iff.1 (show (Tryz.prog.info? 208).map (·.size) = some 2 from by kernel_rfl)
  have hl : liesAt Tryz.prog Tryz.prog.depth 208 (2 / Tryz.prog.cellsOf 208) 0 208 1 = true := by kernel_rfl
  go_enter Tryz.func281, Tryz.ntmps281
  go_wp2
  rw [Lib.run_to_unsafe w ⟨b, 0, none⟩ Tryz.underlying205 Tryz.underlying350 hj (by rw [hjs]; decide) hsh (Nat.zero_lt_succ 1)]
  simp only [Result.andThen]
  rw [Oper.upon_value]
  go_wp2
  rw [run_callFunc_extern Tryz.func378 (by kernel_rfl) (by kernel_rfl) (by kernel_rfl) (e := Extern.AbiNoEscape.same) (by kernel_rfl)]
  rw [Lib.run_noEscape]
  simp only [Result.andThen]
  rw [Oper.upon_value]
  go_wp2
  rw [Lib.run_from_unsafe w ⟨b, 0, none⟩ Tryz.underlying350 Tryz.underlying205 hj hsh hl]
  simp only [Result.andThen]
  rw [Oper.upon_value]
  go_wp2
  go_end0
  exact ⟨rfl, rfl⟩
set_option maxHeartbeats 1000000 in
set_option maxRecDepth 100000 in
theorem copy_used (b : Nat) (w : World) (h0 : w.cell? ⟨b, 0, none⟩ = some (.pointer (some ⟨b, 0, none⟩))) :
    Calls Tryz.prog 281 #[.pointer (some ⟨b, 0, none⟩)] w fun e w' => e = .returned (.tuple #[]) ∧ w' = w := by
  obtain ⟨j, hj, _⟩ := Option.map_eq_some_iff.1 (show (Tryz.prog.info? 208).map (·.size) = some 2 from by kernel_rfl)
  go_enter Tryz.func281, Tryz.ntmps281
  go_wp2
  rw [Lib.run_neq_ptr_same w _ Tryz.underlying205 hj]
  go_wp2
  go_end0
  exact ⟨rfl, rfl⟩
noncomputable def comparableE : Array Value → Sem Value := (Extern.find Tryz.f576).getD fun _ => pure (.tuple #[])
theorem ext576 : ExtOk Tryz.prog 576 comparableE := ⟨⟨_, Tryz.func576, by kernel_rfl, by kernel_rfl, by kernel_rfl, by kernel_rfl⟩⟩
theorem comparable_fact (w : World) : (comparableE #[.agg #[.pointer (some ⟨11, 639, none⟩)]]).run Tryz.prog w = .ok (.bool true) w := by kernel_rfl
theorem idle8w (x : Value) (w : World) : CallsD Tryz.prog 8 #[x] .returning w fun e u' w' => e = .returned (.tuple #[]) ∧ u' = .returning ∧ w' = w := by
  refine callsD_of_wpS Tryz.func8 rfl fun c₀ cs hu => ?_
  apply wpS_seq
  apply wpS_region
  simp [wpOpsS, go_sem, recoverD, hu, Tryz.ntmps8, Exit.thenS]
  refine wpS_cond (t := false) (by simp [Act.eval, Array.replicate]) ?_
  simp only [Bool.false_eq_true, if_false]
  refine wpS_of_wp (wp_skip ?_)
  cases c₀
  simp_all [bodyPostS, results, Tryz.results8]
set_option maxRecDepth 100000 in
theorem idle8 : DsumOk Tryz.prog 8 sIdle := by
  refine ⟨?_⟩
  intro B args hh v h' e φ w args' r hv
  unfold sIdle at e
  split at e
  · cases e
    obtain ⟨x', hx, _⟩ := hv.one
    have ha := args_one hx
    subst ha
    rw [Tryz.call8]
    refine ⟨rfl, ?_⟩
    exact CallsD.mono (idle8w x' w) fun e u' w' ⟨h1, h2, h3⟩ => by subst h1; subst h3; exact ⟨h2, φ, Ext.refl r⟩
  · cases e

end Go.Proofs.YtonckhnoealepaaGreatDoor
