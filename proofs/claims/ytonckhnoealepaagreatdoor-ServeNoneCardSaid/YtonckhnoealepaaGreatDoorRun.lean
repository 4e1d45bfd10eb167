/- The closed run: the statement says true. -/
import Derived.Test.YtonckhnoealepaaGreatDoorTab2
import Derived.KernelRfl
namespace Go.Proofs.YtonckhnoealepaaGreatDoor
open Go Go.AM
section
variable (e0 e1 e2 : TypeId) (m p b : List UInt8)
noncomputable def ops1 : List Op' := [⟨(some 1), none, .box (.t 0) 23⟩, ⟨(some 2), none, .mov (.c (.b false))⟩]
noncomputable def fls : List DI := [.fl ⟨(some 5), none, .load (some 3) (.t 1)⟩ 1, .fl ⟨(some 3), none, .new [(.i .i64 0), (.s [])] 25⟩ 0]
noncomputable def op4 : Op' := ⟨(some 4), none, .call (.v (.c (.fn (.func 5) [] []))) []⟩
noncomputable def re4 : List Op' := [⟨(some 5), none, .load (some 3) (.t 1)⟩]
noncomputable def ans : List DI := [.an ⟨(some 6), none, .call (.v (.c (.fn (.func 4) [] []))) [(.c (.p none)), (.t 4), (.t 5)]⟩ [], .an ⟨none, none, .store 2 (.t 3) (.t 6)⟩ []]
noncomputable def rest : C :=
  .seq (.reg [⟨(some 7), none, .load (some 2) (.t 3)⟩, ⟨(some 8), none, .build [(.i .i64 0), (.s [])] [(0, 1, (.c (.i .i64 500))), (1, 1, (.c (.s [123, 34, 101, 114, 114, 111, 114, 34, 58, 49, 50, 50, 125])))]⟩, ⟨(some 9), none, .bin .eql (.struct [(0, none, .int), (1, none, .str)]) false (.t 7) (.t 8)⟩, ⟨(some 10), none, .mov (.t 9)⟩, ⟨(some 11), (some (10, true)), .call (.v (.c (.fn (.func 6) [] []))) []⟩, ⟨(some 12), none, .pick (.t 10) (.t 11) (.c (.b false))⟩, ⟨(some 2), none, .mov (.t 12)⟩]) (
  .ret)
theorem a3_code : a3.code = .seq (.reg ops1) (.seq (.dreg [fls ++ (.an op4 re4 :: ans)] 1) rest) := rfl
theorem a3_res : a3.res = [.tmp 2] := rfl
noncomputable def chh : Ch := run tb 100000 199 (B0 e0 e1 e2)
noncomputable def dchh : Ch := dCh tb 100000 (run tb 100000 199) (B0 e0 e1 e2)
noncomputable def S0 : St := (mkSt [] H0 (argsT [.agg [.s m, .s p, .s b]] 0 .e)).getD default
noncomputable def S1 : St := (runOps (B0 e0 e1 e2) (chh e0 e1 e2) ops1 (S0 m p b)).getD default
noncomputable def S1b : St := ⟨(S1 e0 e1 e2 m p b).env, (S1 e0 e1 e2 m p b).defs, ⟨(S1 e0 e1 e2 m p b).h.t, Nat.add (S1 e0 e1 e2 m p b).h.next 1⟩⟩
noncomputable def S2 : St := (runDs (B0 e0 e1 e2) (chh e0 e1 e2) (S1 e0 e1 e2 m p b).h.next fls (S1b e0 e1 e2 m p b)).getD default
noncomputable def S3 : St := (runOp (B0 e0 e1 e2) (chh e0 e1 e2) op4 (S2 e0 e1 e2 m p b)).getD default
noncomputable def S4 : St := (runDs (B0 e0 e1 e2) (chh e0 e1 e2) (S1 e0 e1 e2 m p b).h.next ans (S3 e0 e1 e2 m p b)).getD default
theorem s0_eq : mkSt [] H0 (argsT [.agg [.s m, .s p, .s b]] 0 .e) = some (S0 m p b) := by kernel_rfl
theorem s1_eq : runOps (B0 e0 e1 e2) (chh e0 e1 e2) ops1 (S0 m p b) = some (S1 e0 e1 e2 m p b) := by kernel_rfl
theorem s2_eq : runDs (B0 e0 e1 e2) (chh e0 e1 e2) (S1 e0 e1 e2 m p b).h.next fls (S1b e0 e1 e2 m p b) = some (S2 e0 e1 e2 m p b) := by kernel_rfl
theorem s3_eq : runOp (B0 e0 e1 e2) (chh e0 e1 e2) op4 (S2 e0 e1 e2 m p b) = some (S3 e0 e1 e2 m p b) := by kernel_rfl
theorem s3_re : aop ((S3 e0 e1 e2 m p b).h.rd (B0 e0 e1 e2)) (evT (S3 e0 e1 e2 m p b).env) (.load (some 3) (.t 1)) = .ok (evT (S3 e0 e1 e2 m p b).env 5) .no := by kernel_rfl
theorem s4_eq : runDs (B0 e0 e1 e2) (chh e0 e1 e2) (S1 e0 e1 e2 m p b).h.next ans (S3 e0 e1 e2 m p b) = some (S4 e0 e1 e2 m p b) := by kernel_rfl
set_option maxRecDepth 100000 in
theorem s5_eq : isTrue (endF (B0 e0 e1 e2) (dchh e0 e1 e2) [.tmp 2] (runC (B0 e0 e1 e2) (chh e0 e1 e2) 100000 rest (S4 e0 e1 e2 m p b))) = true := by kernel_rfl
end
end Go.Proofs.YtonckhnoealepaaGreatDoor
