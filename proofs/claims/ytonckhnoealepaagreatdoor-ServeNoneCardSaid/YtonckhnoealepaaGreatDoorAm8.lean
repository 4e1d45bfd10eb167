/- Rewriting lemmas for symbolic steps of the abstract machine. -/
import Derived.Test.YtonckhnoealepaaGreatDoorAm7
import Derived.Laws.Externs
import Derived.Lib.Bytealg
namespace Go.AM

section
variable {ch : Hd} {Q : Ex → AS → Prop} {K : AS → Prop} {s : AS}
theorem awC_seq {a b : C} : awC ch (.seq a b) Q s = awC ch a (thenE (awC ch b Q) Q) s := rfl
theorem awC_reg {ops : List Op'} : awC ch (.reg ops) Q s = awOps ch ops (Q .norm) s := rfl
theorem awC_block {id : Nat} {x : C} : awC ch (.block id x) Q s = awC ch x (blkE id Q) s := rfl
theorem awC_skip : awC ch .skip Q s = Q .norm s := rfl
theorem awC_exit {id : Nat} : awC ch (.exit id) Q s = Q (.exit id) s := rfl
theorem awC_ret : awC ch .ret Q s = Q .ret s := rfl
theorem awC_loop {x : C} (h : ∀ X : AS → Prop, (∀ s, awC ch x (thenE X Q) s → X s) → X s) : awC ch (.loop x) Q s := h
theorem awC_true {c : Opd} {x y : C} (h : val s.env c = .b true) (h' : awC ch x Q s) : awC ch (.cond c x y) Q s := by
  show (match val s.env c with | .b true => _ | .b false => _ | _ => _)
  rw [h]; exact h'
theorem awC_false {c : Opd} {x y : C} (h : val s.env c = .b false) (h' : awC ch y Q s) : awC ch (.cond c x y) Q s := by
  show (match val s.env c with | .b true => _ | .b false => _ | _ => _)
  rw [h]; exact h'
theorem awC_condB {c : Opd} {x y : C} {b : Bool} (h : val s.env c = .b b) (ht : b = true → awC ch x Q s) (hf : b = false → awC ch y Q s) : awC ch (.cond c x y) Q s := by
  cases b with
  | true => exact awC_true h (ht rfl)
  | false => exact awC_false h (hf rfl)
theorem thenE_norm {X : AS → Prop} : thenE X Q .norm s = X s := rfl
theorem thenE_exit {X : AS → Prop} {k : Nat} : thenE X Q (.exit k) s = Q (.exit k) s := rfl
theorem thenE_ret {X : AS → Prop} : thenE X Q .ret s = Q .ret s := rfl
theorem blkE_norm {id : Nat} : blkE id Q .norm s = Q .norm s := rfl
theorem blkE_ret {id : Nat} : blkE id Q .ret s = Q .ret s := rfl
theorem blkE_exit {id k : Nat} : blkE id Q (.exit k) s = if k = id then Q .norm s else Q (.exit k) s := rfl
theorem awOps_nil : awOps ch [] K s = K s := rfl
theorem awOps_cons {o : Op'} {l : List Op'} : awOps ch (o :: l) K s = awOp ch o (awOps ch l K) s := rfl
theorem wants_none (env : Ev) : wants env none = true := rfl
theorem awOp_none {dst : Option Nat} {o : O} : awOp ch ⟨dst, none, o⟩ K s = awRes ch dst K s (aop s.h.rd s.env o) := by
  unfold awOp; rw [if_pos (wants_none _)]
theorem awRes_ok {dst : Option Nat} {v : V} : awRes ch dst K s (.ok v .no) = K ⟨putE s.env dst v, s.defs, s.h⟩ := rfl
theorem awRes_put {dst : Option Nat} {v : V} {b : BId} {blk : Blk} : awRes ch dst K s (.ok v (.put b blk)) = K ⟨putE s.env dst v, s.defs, s.h.set b (some blk)⟩ := rfl
theorem awRes_mk {dst : Option Nat} {g : Bool} {v : Nat → V} {blk : Blk} : awRes ch dst K s (.mk g v blk) = K ⟨putE s.env dst (v s.h.next), s.defs, s.h.push g blk⟩ := rfl
theorem awRes_rep {dst : Option Nat} {v : Nat → V} {k : BId} {blk : Blk} : awRes ch dst K s (.rep v k blk) = K ⟨putE s.env dst (v s.h.next), s.defs, (s.h.set k none).push true blk⟩ := rfl
theorem awRes_call {dst : Option Nat} {f : FuncId} {args : List V} : awRes ch dst K s (.call f args) = ch f args s.h fun v h => K ⟨putE s.env dst v, s.defs, h⟩ := rfl
theorem putE_at {env : Ev} {d : Nat} {v : V} : putE env (some d) v d = v := if_pos rfl
theorem putE_ne {env : Ev} {d n : Nat} {v : V} (h : n ≠ d) : putE env (some d) v n = env n := if_neg h
theorem putE_none {env : Ev} {v : V} : putE env none v = env := rfl
theorem putE_app {env : Ev} {d n : Nat} {v : V} : putE env (some d) v n = if n = d then v else env n := rfl
end

/-- A loop with a measure: at each head 'I'. -/
theorem awC_loopI {ch : Hd} {x : C} {Q : Ex → AS → Prop} {s : AS} (I : Nat → AS → Prop) (n : Nat) (h0 : I n s) (h : ∀ (X : AS → Prop) n s, (∀ m s, m < n → I m s → X s) → I n s → awC ch x (thenE X Q) s) : awC ch (.loop x) Q s := by
  intro X hX
  have key : ∀ n s, I n s → X s := by
    intro n
    induction n using Nat.strongRecOn with
    | _ n ih => exact fun s hs => hX s (h X n s (fun m s hm hs => ih m hm s hs) hs)
  exact key n s h0

theorem wrp_i64 {n : Int} (h1 : -9223372036854775808 ≤ n) (h2 : n ≤ 9223372036854775807) : wrp .i64 n = n := by
  unfold wrp wrpM
  rw [ileb_eq]
  show (bif true && decide (9223372036854775808 ≤ n % 18446744073709551616) then n % 18446744073709551616 - 18446744073709551616 else n % 18446744073709551616) = n
  rw [Bool.true_and]
  by_cases hh : 9223372036854775808 ≤ n % 18446744073709551616
  · rw [decide_eq_true hh]; simp only [cond_true]; omega
  · rw [decide_eq_false hh]; simp only [cond_false]; omega
theorem wrp_inc {k : Nat} (h : k < 9223372036854775807) : wrp .i64 (Int.add (k : Int) 1) = ((k + 1 : Nat) : Int) := by
  have : Int.add (k : Int) 1 = ((k + 1 : Nat) : Int) := by show (k : Int) + 1 = _; omega
  rw [this]
  exact wrp_i64 (by omega) (by omega)

theorem wrp_u8 (n : Int) : 0 ≤ wrp .u8 n ∧ wrp .u8 n < 256 := by
  unfold wrp wrpM
  show 0 ≤ (bif false && ileb (half .u8) (n % 256) then Int.sub (n % 256) (two .u8) else n % 256) ∧ (bif false && ileb (half .u8) (n % 256) then Int.sub (n % 256) (two .u8) else n % 256) < 256
  simp only [Bool.false_and, cond_false]
  omega

theorem lay0_one {l : List V} {v : V} (h : 0 < l.length) : lay0 l [v] = some (l.set 0 v) := by
  cases l with
  | nil => simp at h
  | cons a l => simp [lay0]
theorem lay_one' : ∀ (l : List V) (o : Nat) (v : V), o < l.length → lay l o [v] = some (l.set o v)
  | l, 0, v, h => by
    have := lay0_one (v := v) h
    cases l <;> exact this
  | [], o + 1, v, h => by simp at h
  | a :: l, o + 1, v, h => by
    have ih := lay_one' l o v (by simpa using h)
    show (match lay l o [v] with | some r => some (a :: r) | none => none) = _
    rw [ih]
    rfl
theorem cut_one' : ∀ (l : List V) (o : Nat) (v : V), l[o]? = some v → cut l o 1 = some [v]
  | [], o, v, h => by simp at h
  | a :: l, 0, v, h => by simp at h; subst h; simp [cut, dropN, takeN]
  | a :: l, o + 1, v, h => by
    have := cut_one' l o v (by simpa using h)
    simp only [cut, dropN] at this ⊢
    exact this

end Go.AM

/- The check sum: what its text does. -/
namespace Go.AM
namespace Crc

def step (c : Int) : Int := bits2 .u32 Nat.xor (Int.fdiv c (pow2 (shiftN .u32 1))) (wrp .u32 (Int.mul 3988292384 (bits2 .u32 Nat.land c 1)))
noncomputable def iter (n : Nat) (c : Int) : Int := Nat.rec (motive := fun _ => Int → Int) (fun c => c) (fun _ ih c => ih (step c)) n c
noncomputable def tab (j : Nat) : Int := iter 8 (wrp .u32 (Int.ofNat j))
noncomputable def byte (c : Int) (b : UInt8) : Int := bits2 .u32 Nat.xor (tab (bits2 .u8 Nat.xor (wrp .u8 c) (Int.ofNat b.toNat)).toNat) (Int.fdiv c (pow2 (shiftN .u32 8)))
noncomputable def bytes (l : List UInt8) (c : Int) : Int := List.rec (motive := fun _ => Int → Int) (fun c => c) (fun b _ ih c => ih (byte c b)) l c
noncomputable def sum (l : List UInt8) : Int := bits2 .u32 Nat.xor (bif sgn .u32 then -1 else two .u32 - 1) (bytes l 4294967295)

theorem iter_succ (n : Nat) (c : Int) : iter (n + 1) c = step (iter n c) := by
  have key : ∀ n c, iter n (step c) = step (iter n c) := fun n => by
    induction n with
    | zero => intro c; rfl
    | succ n ih => intro c; show iter n (step (step c)) = step (iter n (step c)); rw [ih]
  exact key n c
theorem bytes_snoc (l : List UInt8) (b : UInt8) : ∀ c, bytes (l ++ [b]) c = byte (bytes l c) b := by
  induction l with
  | nil => intro c; rfl
  | cons a l ih => intro c; exact ih (byte c a)

/-- Its text, by parts; 'el', 'eb': the types of the table and of a byte. -/
def roundC : C :=
     .seq (.reg [⟨(some 14), none, .mov (.c (.i .i64 0))⟩]) (
     .block 2 (.loop (
       .seq (.reg [⟨(some 15), none, .bin .lss .int false (.t 14) (.c (.i .i64 8))⟩]) (
       .seq (.cond (.t 15) (
        .skip) (
        .exit 2)) (
       .seq (.block 3 (.reg [⟨(some 16), none, .mov (.t 5)⟩, ⟨(some 17), none, .bin .shr .int false (.t 16) (.c (.i .u64 1))⟩, ⟨(some 18), none, .mov (.t 5)⟩, ⟨(some 19), none, .bin .and .int false (.t 18) (.c (.i .u32 1))⟩, ⟨(some 20), none, .bin .mul .int false (.c (.i .u32 3988292384)) (.t 19)⟩, ⟨(some 21), none, .bin .xor .int false (.t 17) (.t 20)⟩, ⟨(some 5), none, .mov (.t 21)⟩])) (
       .reg [⟨(some 22), none, .bin .add .int false (.t 14) (.c (.i .i64 1))⟩, ⟨(some 14), none, .mov (.t 22)⟩]))))))
def entryC : C := .block 1 (.seq (.reg [⟨(some 11), none, .mov (.t 9)⟩, ⟨(some 4), none, .mov (.t 11)⟩]) (
     .seq (.reg [⟨(some 12), none, .mov (.t 4)⟩, ⟨(some 13), none, .conv (.int .u32) (.t 12)⟩, ⟨(some 5), none, .mov (.t 13)⟩]) (
     .seq roundC (
     .reg [⟨(some 23), none, .mov (.t 4)⟩, ⟨(some 24), none, .mov (.t 5)⟩, ⟨(some 25), none, .iaA 256 1 (.t 3) (.t 23)⟩, ⟨none, none, .store 1 (.t 25) (.t 24)⟩]))))
def tableC : C := .seq (.reg [⟨(some 9), none, .mov (.c (.i .i64 0))⟩]) (
  .block 0 (.loop (
    .seq (.reg [⟨(some 10), none, .bin .lss .int false (.t 9) (.c (.i .i64 256))⟩]) (
    .seq (.cond (.t 10) (
     .skip) (
     .exit 0)) (
    .seq entryC (
    .reg [⟨(some 26), none, .bin .add .int false (.t 9) (.c (.i .i64 1))⟩, ⟨(some 9), none, .mov (.t 26)⟩]))))))
def byteC : C := .block 5 (.seq (.reg [⟨(some 32), none, .iaV 1 (.t 28) (.t 30)⟩, ⟨(some 33), none, .load none (.t 32)⟩, ⟨(some 8), none, .mov (.t 33)⟩]) (
     .reg [⟨(some 34), none, .mov (.t 6)⟩, ⟨(some 35), none, .conv (.int .u8) (.t 34)⟩, ⟨(some 36), none, .mov (.t 8)⟩, ⟨(some 37), none, .bin .xor .int false (.t 35) (.t 36)⟩, ⟨(some 38), none, .iaA 256 1 (.t 3) (.t 37)⟩, ⟨(some 39), none, .load none (.t 38)⟩, ⟨(some 40), none, .mov (.t 6)⟩, ⟨(some 41), none, .bin .shr .int false (.t 40) (.c (.i .u64 8))⟩, ⟨(some 42), none, .bin .xor .int false (.t 39) (.t 41)⟩, ⟨(some 6), none, .mov (.t 42)⟩]))
def bytesC (eb : TypeId) : C := .seq (.reg [⟨(some 27), none, .mov (.t 0)⟩, ⟨(some 28), none, .conv (.strBytes eb) (.t 27)⟩, ⟨(some 29), none, .call (.b .lenV) [(.t 28)]⟩, ⟨(some 30), none, .mov (.c (.i .i64 0))⟩]) (
  .block 4 (.loop (
    .seq (.reg [⟨(some 31), none, .bin .lss .int false (.t 30) (.t 29)⟩]) (
    .seq (.cond (.t 31) (
     .skip) (
     .exit 4)) (
    .seq byteC (
    .reg [⟨(some 43), none, .bin .add .int false (.t 30) (.c (.i .i64 1))⟩, ⟨(some 30), none, .mov (.t 43)⟩]))))))
def F (el eb : TypeId) : Go.AM.F := ⟨46,
  .seq (.reg [⟨(some 2), none, .mov (.c (.i .u32 0))⟩]) (
  .seq (.reg [⟨(some 3), none, .new (List.replicate 256 (.i .u32 0)) el⟩]) (
  .seq tableC (
  .seq (.reg [⟨(some 6), none, .mov (.c (.i .u32 4294967295))⟩]) (
  .seq (bytesC eb) (
  .seq (.reg [⟨(some 44), none, .mov (.t 6)⟩, ⟨(some 45), none, .un .xor (.t 44)⟩, ⟨(some 2), none, .mov (.t 45)⟩]) (
  .ret)))))),
 [.tmp 2]⟩

noncomputable def con : Con := fun args h Q => ∃ l, args = [.s l] ∧ l.length ≤ 140737488355328 ∧ Q (.i .u32 (sum l)) ⟨fun b => if b = .ex h.next ∨ b = .gr (h.next + 1) then none else h.rd b, h.next + 2⟩

/-- The table so far. -/
noncomputable def tl (k : Nat) : List V := (List.range 256).map fun j => if j < k then .i .u32 (tab j) else .i .u32 0

end Crc

theorem Crc.round_ok {ch : Hd} {K : Ex → AS → Prop} {env : Ev} {defs : Defs} {h : Hp} {c : Int} (h5 : env 5 = .i .u32 c)
    (hK : ∀ env' : Ev, (∀ n, n < 5 ∨ 5 < n ∧ n < 14 ∨ 22 < n → env' n = env n) → env' 5 = .i .u32 (Crc.iter 8 c) → K .norm ⟨env', defs, h⟩) : awC ch Crc.roundC K ⟨env, defs, h⟩ := by
  unfold Crc.roundC
  simp only [awC_seq, awC_reg, awOps_cons, awOps_nil, awOp_none, aop, val, awRes_ok, thenE_norm, awC_block]
  refine awC_loopI (fun m s => ∃ k, m + k = 8 ∧ ∃ env', s = ⟨env', defs, h⟩ ∧ env' 14 = .i .i64 (k : Int) ∧ env' 5 = .i .u32 (Crc.iter k c) ∧ ∀ n, n < 5 ∨ 5 < n ∧ n < 14 ∨ 22 < n → env' n = env n) 8 ⟨0, rfl, _, rfl, putE_at, ?_, ?_⟩ ?_
  · rw [putE_ne (by decide), h5]; rfl
  · intro n hn; rw [putE_ne (by omega)]
  · rintro X m s hX ⟨k, hk, env', rfl, h14, h5, hf⟩
    simp only [awC_seq, awC_reg, awOps_cons, awOps_nil, awOp_none, aop, val, h14, binV, isShift, kbeq, intBin, okO, cond_false, cond_true, awRes_ok, thenE_norm]
    by_cases hk8 : k = 8
    · subst hk8
      refine awC_false (by simp [val, putE_app, ileb]) ?_
      simp only [awC_exit, thenE_exit, blkE_exit, if_pos]
      refine hK _ (fun n hn => ?_) ?_
      · rw [putE_ne (by omega)]; exact hf n hn
      · rw [putE_ne (by decide)]; exact h5
    · refine awC_true (by simp only [val, putE_at, ileb_eq]; simp; omega) ?_
      simp only [awC_skip, thenE_norm, awC_seq, awC_block, awC_reg, awOps_cons, awOps_nil, awOp_none, aop, val, blkE_norm, putE_app, reduceIte, Nat.reduceEqDiff, h5, h14, okO, binV, isShift, kbeq, cond_true, cond_false, intBin, shiftBin,
        show ileb 0 1 = true from rfl, awRes_ok]
      refine hX (m - 1) _ (by omega) ⟨k + 1, by omega, _, rfl, ?_, ?_, fun n hn => ?_⟩
      · rw [putE_at]
        rw [wrp_inc (by omega)]
      · simp only [putE_app, reduceIte, Nat.reduceEqDiff]
        rw [Crc.iter_succ]; rfl
      · simp only [putE_app]
        rw [if_neg (by omega), if_neg (by omega), if_neg (by omega), if_neg (by omega), if_neg (by omega), if_neg (by omega), if_neg (by omega), if_neg (by omega), if_neg (by omega), if_neg (by omega)]
        exact hf n hn

theorem Crc.tl_len (k : Nat) : (Crc.tl k).length = 256 := by simp [Crc.tl]
theorem Crc.tl_set (k : Nat) : (Crc.tl k).set k (.i .u32 (Crc.tab k)) = Crc.tl (k + 1) := by
  refine List.ext_getElem? fun i => ?_
  rw [List.getElem?_set]
  simp only [Crc.tl, List.getElem?_map, List.length_map, List.length_range]
  by_cases hik : k = i
  · subst hik
    rw [if_pos rfl]
    by_cases h : k < 256
    · rw [if_pos h, List.getElem?_range h]; simp
    · rw [if_neg h, List.getElem?_eq_none (by simpa using h)]; rfl
  · rw [if_neg hik]
    by_cases h : i < 256
    · rw [List.getElem?_range h]
      simp only [Option.map_some]
      by_cases h2 : i < k
      · rw [if_pos h2, if_pos (by omega)]
      · rw [if_neg h2, if_neg (by omega)]
    · rw [List.getElem?_eq_none (by simpa using h)]; rfl
theorem Crc.tl_get {i : Nat} (h : i < 256) : (Crc.tl 256)[i]? = some (.i .u32 (Crc.tab i)) := by
  simp only [Crc.tl, List.getElem?_map]
  rw [List.getElem?_range h]
  simp [h]
theorem Crc.tl_zero : Crc.tl 0 = List.replicate 256 (.i .u32 0) := by
  refine List.ext_getElem? fun i => ?_
  simp only [Crc.tl, List.getElem?_map, List.getElem?_replicate]
  by_cases h : i < 256
  · rw [List.getElem?_range h, if_pos h]; rfl
  · rw [List.getElem?_eq_none (by simpa using h), if_neg h]; rfl

/-- The heap while the table is made. -/
noncomputable def Crc.hp (h : Hp) (el : TypeId) (k : Nat) : Hp := ⟨fun b => if b = .ex h.next then some (exBlk (Crc.tl k) el) else h.rd b, h.next + 1⟩

theorem Crc.entry_ok {ch : Hd} {K : Ex → AS → Prop} {env : Ev} {defs : Defs} {h : Hp} {el : TypeId} {k : Nat} (hk : k < 256) (h9 : env 9 = .i .i64 (k : Int)) (h3 : env 3 = exP h.next)
    (hK : ∀ env' : Ev, (∀ n, n < 4 ∨ 5 < n ∧ n < 11 ∨ 25 < n → env' n = env n) → K .norm ⟨env', defs, Crc.hp h el (k + 1)⟩) : awC ch Crc.entryC K ⟨env, defs, Crc.hp h el k⟩ := by
  unfold Crc.entryC
  simp only [awC_block, awC_seq, awC_reg, awOps_cons, awOps_nil, awOp_none, aop, val, awRes_ok, thenE_norm, putE_app, reduceIte, Nat.reduceEqDiff, h9, convV, convI]
  refine Crc.round_ok (c := wrp .u32 (k : Int)) (by simp only [putE_app, reduceIte, Nat.reduceEqDiff]) fun env' hf h5 => ?_
  have h4 : env' 4 = .i .i64 (k : Int) := by rw [hf 4 (by omega)]; simp only [putE_app, reduceIte, Nat.reduceEqDiff]
  have h3' : env' 3 = exP h.next := by rw [hf 3 (by omega)]; simp only [putE_app, reduceIte, Nat.reduceEqDiff]; exact h3
  simp only [thenE_norm, awC_reg, awOps_cons, awOp_none, aop, val, awRes_ok, putE_app, reduceIte, Nat.reduceEqDiff, h4, h5, h3', aIaA, exP, natV, natI, ofO]
  have e1 : Nat.add 0 (k.mul 1) = k := by show 0 + k * 1 = k; omega
  rw [show Nat.blt k 256 = true from by rw [blt_nat]; simpa using hk, cond_true, awRes_ok, e1]
  have hrd : (Crc.hp h el k).rd (.ex h.next) = some (exBlk (Crc.tl k) el) := if_pos rfl
  have hw : wrCells (Crc.hp h el k).rd ⟨.ex h.next, k⟩ [.i .u32 (Crc.tab k)] = some (.put (.ex h.next) (exBlk (Crc.tl (k + 1)) el)) := by
    unfold wrCells
    rw [hrd]
    show wrBlk ⟨.ex h.next, k⟩ [.i .u32 (Crc.tab k)] (Crc.tl k) el (some 0) false 0 = _
    unfold wrBlk
    rw [lay_one' _ _ _ (by rw [Crc.tl_len]; exact hk), Crc.tl_set]
    rfl
  simp only [awOps_cons, awOp_none, aop, val, putE_app, reduceIte, Nat.reduceEqDiff, aStore, V.cells, List.length_cons, List.length_nil, Nat.zero_add]
  have htab : (Crc.iter 8 (wrp .u32 (k : Int))) = Crc.tab k := rfl
  rw [show Nat.beq 1 1 = true from rfl, cond_true, htab, hw]
  show K .norm _
  have hs : (Crc.hp h el k).set (.ex h.next) (some (exBlk (Crc.tl (k + 1)) el)) = Crc.hp h el (k + 1) := by
    unfold Hp.set Crc.hp
    congr 1
    funext b
    by_cases hb : b = .ex h.next
    · simp only [if_pos hb]
    · simp only [if_neg hb]
  show K .norm ⟨_, defs, (Crc.hp h el k).set (.ex h.next) (some (exBlk (Crc.tl (k + 1)) el))⟩
  rw [hs]
  refine hK _ fun n hn => ?_
  simp only [putE_none, putE_app]
  rw [if_neg (by omega), if_neg (by omega), if_neg (by omega), hf n (by omega)]
  simp only [putE_app]
  rw [if_neg (by omega), if_neg (by omega), if_neg (by omega), if_neg (by omega), if_neg (by omega)]

theorem Crc.table_ok {ch : Hd} {K : Ex → AS → Prop} {env : Ev} {defs : Defs} {h : Hp} {el : TypeId} (h3 : env 3 = exP h.next)
    (hK : ∀ env' : Ev, (∀ n, n < 4 → env' n = env n) → K .norm ⟨env', defs, Crc.hp h el 256⟩) : awC ch Crc.tableC K ⟨env, defs, Crc.hp h el 0⟩ := by
  unfold Crc.tableC
  simp only [awC_seq, awC_reg, awOps_cons, awOps_nil, awOp_none, aop, val, awRes_ok, thenE_norm, awC_block]
  refine awC_loopI (fun m s => ∃ k, m + k = 256 ∧ ∃ env' : Ev, s = ⟨env', defs, Crc.hp h el k⟩ ∧ env' 9 = .i .i64 (k : Int) ∧ ∀ n, n < 4 → env' n = env n) 256 ⟨0, rfl, _, rfl, putE_at, fun n hn => putE_ne (by omega)⟩ ?_
  rintro X m s hX ⟨k, hk, env', rfl, h9, hf⟩
  simp only [awC_seq, awC_reg, awOps_cons, awOps_nil, awOp_none, aop, val, h9, binV, isShift, kbeq, intBin, okO, cond_false, cond_true, awRes_ok, thenE_norm]
  by_cases hk8 : k = 256
  · subst hk8
    refine awC_false (by simp [val, putE_app, ileb]) ?_
    simp only [awC_exit, thenE_exit, blkE_exit, if_pos]
    exact hK _ fun n hn => by rw [putE_ne (by omega)]; exact hf n hn
  · refine awC_true (by simp only [val, putE_at, ileb_eq]; simp; omega) ?_
    simp only [awC_skip, thenE_norm, awC_seq]
    refine Crc.entry_ok (by omega) (by rw [putE_ne (by decide)]; exact h9) (by rw [putE_ne (by decide), hf 3 (by omega)]; exact h3) fun env2 hf2 => ?_
    have h92 : env2 9 = .i .i64 (k : Int) := by rw [hf2 9 (by omega), putE_ne (by decide)]; exact h9
    simp only [thenE_norm, awC_reg, awOps_cons, awOps_nil, awOp_none, aop, val, h92, binV, isShift, kbeq, intBin, okO, cond_false, cond_true, awRes_ok, putE_app, reduceIte]
    refine hX (m - 1) _ (by omega) ⟨k + 1, by omega, _, rfl, ?_, fun n hn => ?_⟩
    · rw [putE_at, wrp_inc (by omega)]
    · rw [putE_ne (by omega), putE_ne (by omega), hf2 n (by omega), putE_ne (by omega)]; exact hf n hn

/-- The heap while the bytes are summed. -/
noncomputable def Crc.hp2 (h : Hp) (el eb : TypeId) (l : List UInt8) : Hp := (Crc.hp h el 256).push true (.cells (bytesV l) eb (some 0) true false 1)

theorem Crc.byte_ok {ch : Hd} {K : Ex → AS → Prop} {env : Ev} {defs : Defs} {h : Hp} {el eb : TypeId} {l : List UInt8} {k : Nat} {b : UInt8} {c : Int} (hb : l[k]? = some b) (h3 : env 3 = exP h.next) (h28 : env 28 = grSl l.length (h.next + 1)) (h30 : env 30 = .i .i64 (k : Int)) (h6 : env 6 = .i .u32 c)
    (hK : ∀ env' : Ev, (∀ n, n < 6 ∨ 8 < n ∧ n < 32 → env' n = env n) → env' 6 = .i .u32 (Crc.byte c b) → K .norm ⟨env', defs, Crc.hp2 h el eb l⟩) : awC ch Crc.byteC K ⟨env, defs, Crc.hp2 h el eb l⟩ := by
  unfold Crc.byteC
  have hkl : k < l.length := (List.getElem?_eq_some_iff.1 hb).1
  have hrd1 : (Crc.hp2 h el eb l).rd (.gr (h.next + 1)) = some (.cells (bytesV l) eb (some 0) true false 1) := if_pos rfl
  have hrd2 : (Crc.hp2 h el eb l).rd (.ex h.next) = some (exBlk (Crc.tl 256) el) := by
    have e : (Crc.hp2 h el eb l).rd (.ex h.next) = if BId.ex h.next = .gr (h.next + 1) then some (.cells (bytesV l) eb (some 0) true false 1) else (Crc.hp h el 256).rd (.ex h.next) := rfl
    rw [e, if_neg (by simp)]; exact if_pos rfl
  have hl1 : rdCells (Crc.hp2 h el eb l).rd ⟨.gr (h.next + 1), k⟩ 1 = some [.i .u8 (Int.ofNat b.toNat)] := by
    unfold rdCells
    rw [hrd1]
    exact cut_one' _ _ _ (by simp [bytesV, hb])
  have e1 : Nat.add 0 (k.mul 1) = k := by show 0 + k * 1 = k; omega
  simp only [awC_block, awC_seq, awC_reg, awOps_cons, awOps_nil, awOp_none, aop, val, h28, h30, aIaV, grSl, natV, natI, ofO, show Nat.blt k l.length = true from by rw [blt_nat]; simpa using hkl, cond_true, awRes_ok, putE_app, reduceIte, Nat.reduceEqDiff, e1, aLoad, hl1, one, okO, thenE_norm, h6, convV, convI, binV, isShift, kbeq, cond_false, intBin]
  have hx : 0 ≤ bits2 .u8 Nat.xor (wrp .u8 c) (Int.ofNat b.toNat) ∧ bits2 .u8 Nat.xor (wrp .u8 c) (Int.ofNat b.toNat) < 256 := by
    exact wrp_u8 _
  obtain ⟨j, hj⟩ : ∃ j : Nat, bits2 .u8 Nat.xor (wrp .u8 c) (Int.ofNat b.toNat) = (j : Int) := ⟨_, (Int.toNat_of_nonneg hx.1).symm⟩
  have hj256 : j < 256 := by omega
  have e2 : Nat.add 0 (j.mul 1) = j := by show 0 + j * 1 = j; omega
  have hl2 : rdCells (Crc.hp2 h el eb l).rd ⟨.ex h.next, j⟩ 1 = some [.i .u32 (Crc.tab j)] := by
    unfold rdCells
    rw [hrd2]
    exact cut_one' _ _ _ (Crc.tl_get hj256)
  rw [hj]
  simp only [h3, aIaA, exP, natV, natI, ofO, show Nat.blt j 256 = true from by rw [blt_nat]; simpa using hj256, cond_true, awRes_ok, putE_app, reduceIte, Nat.reduceEqDiff, e2, aLoad, hl2, one, okO, h6, shiftBin, show ileb 0 8 = true from rfl, binV, isShift, kbeq, cond_false, intBin, blkE_norm, awOps_cons, awOps_nil, awOp_none, aop, val]
  refine hK _ (fun n hn => ?_) ?_
  · simp only [putE_app]
    rw [if_neg (by omega), if_neg (by omega), if_neg (by omega), if_neg (by omega), if_neg (by omega), if_neg (by omega), if_neg (by omega), if_neg (by omega), if_neg (by omega), if_neg (by omega), if_neg (by omega), if_neg (by omega), if_neg (by omega)]
  · rw [putE_at]
    unfold Crc.byte
    rw [hj]; rfl

theorem Crc.bytes_ok {ch : Hd} {K : Ex → AS → Prop} {env : Ev} {defs : Defs} {h : Hp} {el eb : TypeId} {l : List UInt8} {c : Int} (hlen : l.length ≤ 140737488355328) (h0 : env 0 = .s l) (h3 : env 3 = exP h.next) (h6 : env 6 = .i .u32 c)
    (hK : ∀ env' : Ev, env' 6 = .i .u32 (Crc.bytes l c) → K .norm ⟨env', defs, Crc.hp2 h el eb l⟩) : awC ch (Crc.bytesC eb) K ⟨env, defs, Crc.hp h el 256⟩ := by
  unfold Crc.bytesC
  have hpush : (Crc.hp h el 256).push true (.cells (bytesV l) eb (some 0) true false 1) = Crc.hp2 h el eb l := rfl
  have hnx : (Crc.hp h el 256).next = h.next + 1 := rfl
  simp only [awC_seq, awC_reg, awOps_cons, awOps_nil, awOp_none, aop, val, awRes_ok, thenE_norm, awC_block, h0, putE_app, reduceIte, Nat.reduceEqDiff, convV, convB, awRes_mk, hpush, hnx, vals, builtinV, arg1, lenVR, grSl]
  refine awC_loopI (fun m s => ∃ k, m + k = l.length ∧ ∃ env' : Ev, s = ⟨env', defs, Crc.hp2 h el eb l⟩ ∧ env' 3 = exP h.next ∧ env' 28 = grSl l.length (h.next + 1) ∧ env' 29 = .i .i64 (l.length : Int) ∧ env' 30 = .i .i64 (k : Int) ∧ env' 6 = .i .u32 (Crc.bytes (l.take k) c)) l.length
    ⟨0, by omega, _, rfl, ?_, ?_, ?_, ?_, ?_⟩ ?_
  · simp only [putE_app, reduceIte, Nat.reduceEqDiff]; exact h3
  · simp only [putE_app, reduceIte, Nat.reduceEqDiff]; rfl
  · simp only [putE_app, reduceIte, Nat.reduceEqDiff]; rfl
  · simp only [putE_app, reduceIte]; rfl
  · simp only [putE_app, reduceIte, Nat.reduceEqDiff]; exact h6
  rintro X m s hX ⟨k, hk, env', rfl, h3', h28, h29, h30, h6'⟩
  simp only [awC_seq, awC_reg, awOps_cons, awOps_nil, awOp_none, aop, val, h30, h29, binV, isShift, kbeq, intBin, okO, cond_false, cond_true, awRes_ok, thenE_norm]
  by_cases hkl : k = l.length
  · refine awC_false (by simp only [val, putE_at, ileb_eq]; simp; omega) ?_
    simp only [awC_exit, thenE_exit, blkE_exit, if_pos]
    refine hK _ ?_
    rw [putE_ne (by decide), h6', hkl, List.take_length]
  · refine awC_true (by simp only [val, putE_at, ileb_eq]; simp; omega) ?_
    have hlt : k < l.length := by omega
    simp only [awC_skip, thenE_norm, awC_seq]
    refine Crc.byte_ok (k := k) (b := l[k]) (c := Crc.bytes (l.take k) c) (List.getElem?_eq_getElem hlt) (by rw [putE_ne (by decide)]; exact h3') (by rw [putE_ne (by decide)]; exact h28) (by rw [putE_ne (by decide)]; exact h30) (by rw [putE_ne (by decide)]; exact h6') fun env2 hf2 h62 => ?_
    have h302 : env2 30 = .i .i64 (k : Int) := by rw [hf2 30 (by omega), putE_ne (by decide)]; exact h30
    simp only [thenE_norm, awC_reg, awOps_cons, awOps_nil, awOp_none, aop, val, h302, binV, isShift, kbeq, intBin, okO, cond_false, cond_true, awRes_ok, putE_app, reduceIte]
    refine hX (m - 1) _ (by omega) ⟨k + 1, by omega, _, rfl, ?_, ?_, ?_, ?_, ?_⟩
    · rw [putE_ne (by decide), putE_ne (by decide), hf2 3 (by omega), putE_ne (by decide)]; exact h3'
    · rw [putE_ne (by decide), putE_ne (by decide), hf2 28 (by omega), putE_ne (by decide)]; exact h28
    · rw [putE_ne (by decide), putE_ne (by decide), hf2 29 (by omega), putE_ne (by decide)]; exact h29
    · rw [putE_at, wrp_inc (by omega)]
    · rw [putE_ne (by decide), putE_ne (by decide), h62, List.take_succ_eq_append_getElem hlt, Crc.bytes_snoc]

theorem Crc.awF_ok (el eb : TypeId) (args : List V) (h : Hp) (Q : V → Hp → Prop) (hc : Crc.con args h Q) : awF noD noD (Crc.F el eb) args h fun v h2 => ∃ h3, Fgt h.next h2 h3 ∧ Q v h3 := by
  obtain ⟨l, rfl, hlen, hQ⟩ := hc
  refine ⟨by show 1 ≤ 46; omega, ?_⟩
  have hpush : h.push false (exBlk (List.replicate 256 (.i .u32 0)) el) = Crc.hp h el 0 := by
    unfold Crc.hp; rw [Crc.tl_zero]; rfl
  show awC noD (Crc.F el eb).code _ _
  unfold Crc.F
  simp only [awC_seq, awC_reg, awOps_cons, awOps_nil, awOp_none, aop, val, awRes_ok, thenE_norm, awRes_mk, hpush]
  refine Crc.table_ok (by rw [putE_at]) fun env1 hf1 => ?_
  simp only [thenE_norm, awC_seq, awC_reg, awOps_cons, awOps_nil, awOp_none, aop, val, awRes_ok]
  refine Crc.bytes_ok (l := l) hlen (by rw [putE_ne (by decide), hf1 0 (by omega)]; rfl) (by rw [putE_ne (by decide), hf1 3 (by omega), putE_at]) putE_at fun env2 h6 => ?_
  simp only [thenE_norm, awC_seq, awC_reg, awOps_cons, awOps_nil, awOp_none, aop, val, awRes_ok, h6, putE_app, reduceIte, unV, okO, awC_ret]
  refine ⟨_, rfl, _, ?_, hQ⟩
  refine ⟨Nat.le_refl _, fun b => ?_⟩
  have hr : (Crc.hp2 h el eb l).rd b = if b = .gr (h.next + 1) then some (.cells (bytesV l) eb (some 0) true false 1) else if b = .ex h.next then some (exBlk (Crc.tl 256) el) else h.rd b := rfl
  rw [hr]
  show (if b = .ex h.next ∨ b = .gr (h.next + 1) then none else h.rd b) = _ ∨ ((if b = .ex h.next ∨ b = .gr (h.next + 1) then none else h.rd b) = none ∧ b.isNew h.next)
  by_cases h1 : b = .ex h.next
  · right
    rw [if_pos (.inl h1), h1]
    exact ⟨rfl, Nat.le_refl _⟩
  · by_cases h2 : b = .gr (h.next + 1)
    · right
      rw [if_pos (.inr h2), h2]
      exact ⟨rfl, Nat.le_succ _⟩
    · left
      rw [if_neg (by simp [h1, h2]), if_neg h2, if_neg h1]

end Go.AM

/- Summaries: what some functions of Go's library do, for the fast run. Definitions alone. -/
namespace Go.AM

def idxB (c : Nat) : List UInt8 → Nat → Int
  | [], _ => -1
  | b :: l, k => bif Nat.beq b.toNat c then Int.ofNat k else idxB c l (Nat.succ k)
def cmpB : List UInt8 → List UInt8 → Int
  | [], [] => 0
  | [], _ :: _ => -1
  | _ :: _, [] => 1
  | a :: x, b :: y => bif Nat.blt a.toNat b.toNat then -1 else bif Nat.blt b.toNat a.toNat then 1 else cmpB x y

noncomputable section
def sIndexByte : Sum := fun _ args h => match args with
  | [.s l, .i k c] => bif kbeq k .u8 then (match c with
    | .ofNat c => bif Nat.blt c 256 then some (.i .i64 (idxB c l 0), h) else none
    | _ => none) else none
  | _ => none
def sCmp : Sum := fun _ args h => match args with
  | [.s a, .s b] => some (.i .i64 (cmpB a b), h)
  | _ => none
def bump (n : Nat) : Option H → Option H
  | some h => some ⟨h.t, Nat.add h.next n⟩
  | none => none
def put? (b : BId) (x : Option Blk) : Option H → Option H
  | some h => h.put b x
  | none => none
def withV (v : V) : Option H → Option (V × H)
  | some h => some (v, h)
  | none => none
def sCrc : Sum := fun _ args h => match args with
  | [.s l] => bif Nat.ble l.length 140737488355328 then withV (.i .u32 (Crc.sum l)) (bump 2 (put? (.gr (Nat.succ h.next)) none (h.put (.ex h.next) none))) else none
  | _ => none
/-- reflectlite.TypeOf ('et': the dynamic type; 'rt': reflectlite's own; 'n': how many globals there are), and Comparable of what it gives. -/
def sTypeOf (et rt n : Nat) : Sum := fun _ args h => match args with
  | [.ifc t _] => bif Nat.beq t et then some (.ifc rt (.agg [.p (some ⟨.old n, et⟩)]), h) else none
  | _ => none
def sComparable (et n : Nat) : Sum := fun _ args h => match args with
  | [.agg [.p (some a)]] => bif a.b.beq (.old n) && Nat.beq a.o et then some (.b true, h) else none
  | _ => none
def effS (h : H) : Option Eff → Option (V × H)
  | some e => withV (.tup []) (h.eff e)
  | none => none
def isEx : BId → Bool
  | .ex _ => true
  | _ => false
def copyBlk (B : Rd) (h : H) (bty : TypeId) (a : Ad) : Option Blk → Option (V × H)
  | some (.cells cs el _ _ ro gz) => bif Nat.beq el bty && (Nat.beq a.o 0 && (isEx a.b && (!ro && Nat.beq gz 0))) then (match cs with
    | [.p none, _] => effS h (wrCells (h.rd B) a [.p (some a)])
    | [.p (some b), _] => bif b.b.beq a.b && Nat.beq b.o a.o then some (.tup [], h) else none
    | _ => none) else none
  | _ => none
/-- (*strings.Builder).copyCheck ('bty': strings.Builder). -/
def sCopy (bty : TypeId) : Sum := fun B args h => match args with
  | [.p (some a)] => copyBlk B h bty a (h.rd B a.b)
  | _ => none
/-- A deferred call that finds no panic. -/
def sIdle : Sum := fun _ args h => match args with
  | [_] => some (.tup [], h)
  | _ => none

def lookN {α : Type} (k : Nat) : List (Nat × α) → Option α
  | [] => none
  | (n, x) :: l => bif Nat.beq n k then some x else lookN k l
def tabOf (t : T F) (sums dsums : List (Nat × Sum)) (multi : List Nat) : Tab where
  fs := t.get
  sum f := lookN f sums
  dsum f := lookN f dsums
  multi f := memN f multi
def isTrue : Option (V × H) → Bool
  | some (.b true, _) => true
  | _ => false
end

end Go.AM

/- The summaries of Go's library hold in the model. -/
namespace Go.AM

theorem idxB_eq (c : UInt8) : ∀ (l : List UInt8) (k : Nat), idxB c.toNat l k = if Lib.indexByte l c = -1 then -1 else Lib.indexByte l c + k
  | [], k => by simp [idxB, Lib.indexByte]
  | b :: l, k => by
    have ih := idxB_eq c l (Nat.succ k)
    have hge := Lib.indexByte_ge l c
    unfold idxB Lib.indexByte
    rw [beq_nat]
    by_cases hb : b = c
    · subst hb; simp
    · have : b.toNat ≠ c.toNat := fun e => hb (UInt8.toNat_inj.1 e)
      simp only [this, decide_false, cond_false, hb, beq_iff_eq, if_false]
      rw [ih]
      by_cases h1 : Lib.indexByte l c = -1
      · simp [h1]
      · simp only [h1, if_false]
        rw [if_neg (by omega)]
        simp only [Nat.succ_eq_add_one]; omega

theorem cmpB_eq : ∀ (a b : List UInt8), cmpB a b = Lib.compareBytes a b
  | [], [] => rfl
  | [], _ :: _ => rfl
  | _ :: _, [] => rfl
  | a :: x, b :: y => by
    unfold cmpB Lib.compareBytes
    rw [cmpB_eq x y, blt_nat, blt_nat]
    by_cases h1 : a < b
    · rw [if_pos h1, decide_eq_true (UInt8.lt_iff_toNat_lt.1 h1)]; rfl
    · rw [if_neg h1, decide_eq_false (fun h => h1 (UInt8.lt_iff_toNat_lt.2 h))]
      by_cases h2 : b < a
      · rw [if_pos h2, decide_eq_true (UInt8.lt_iff_toNat_lt.1 h2)]; rfl
      · rw [if_neg h2, decide_eq_false (fun h => h2 (UInt8.lt_iff_toNat_lt.2 h))]; rfl

/-- What a function without a text is. -/
structure ExtOk (P : Program) (f : FuncId) (e : Array Value → Sem Value) : Prop where
  ok : ∃ fn, P.funcs[f]? = some fn ∧ (fn.name == "runtime.NumGoroutine") = false ∧ fn.body.isNone = true ∧ Extern.findNext fn = none ∧ Extern.find fn = some e

section
variable {P : Program} {f : FuncId}

theorem ExtOk.run {e : Array Value → Sem Value} (h : ExtOk P f e) (args : Array Value) (w : World) : (callFunc f args).run P w = ((e args).run P w).andThen fun v w' => .ok (.value v) w' := by
  obtain ⟨fn, h1, h2, h3, h4, h5⟩ := h
  exact run_callFunc_extern h1 h2 h3 h4 h5 args w

theorem args_one {args' : Array Value} {v : Value} (h : args'.toList = [v]) : args' = #[v] := by cases args'; simp at h; subst h; rfl
theorem args_two {args' : Array Value} {v u : Value} (h : args'.toList = [v, u]) : args' = #[v, u] := by cases args'; simp at h; subst h; rfl

theorem indexByte_ok (h : ExtOk P f Extern.BytealgIndexByte.indexByte) : SumOk P f sIndexByte := by
  refine ⟨?_⟩
  intro B args hh v h' e φ w args' r hv
  unfold sIndexByte at e
  split at e
  · rename_i l k c
    obtain ⟨x', y', hxy, h1, h2⟩ := hv.two
    cases hk : kbeq k .u8 with
    | false => rw [hk] at e; cases e
    | true =>
      rw [hk] at e
      rw [kbeq_eq] at hk
      have hk' : k = .u8 := by simpa using hk
      subst hk'
      simp only [cond_true] at e
      split at e
      · rename_i c
        cases hc : Nat.blt c 256 with
        | false => rw [hc] at e; cases e
        | true =>
          rw [hc] at e
          cases e
          rw [blt_nat] at hc
          have hc' : c < 256 := by simpa using hc
          have ha := args_two hxy
          subst ha
          cases h1 with
          | s hs =>
            rename_i s
            cases h2 with
            | i =>
              rw [h.run, Lib.run_indexByteString, hs]
              have hcc : (Int.ofNat c).toNat.toUInt8.toNat = c := by
                show (UInt8.ofNat c).toNat = c
                simp [UInt8.toNat_ofNat']; omega
              have he : idxB c l 0 = Lib.indexByte l (Int.ofNat c).toNat.toUInt8 := by
                have := idxB_eq (Int.ofNat c).toNat.toUInt8 l 0
                rw [hcc] at this
                rw [this]
                by_cases h1 : Lib.indexByte l (Int.ofNat c).toNat.toUInt8 = -1
                · rw [if_pos h1, h1]
                · rw [if_neg h1]; omega
              rw [← he]
              exact ⟨φ, _, _, ⟨rfl, rfl⟩, .i _ _, Ext.refl r⟩
      · cases e
  · cases e

theorem cmp_ok (h : ExtOk P f Extern.BytealgCompare.compare) : SumOk P f sCmp := by
  refine ⟨?_⟩
  intro B args hh v h' e φ w args' r hv
  unfold sCmp at e
  split at e
  · rename_i a b
    cases e
    obtain ⟨x', y', hxy, h1, h2⟩ := hv.two
    have ha := args_two hxy
    subst ha
    cases h1 with
    | s hs =>
      cases h2 with
      | s hs2 =>
        rw [h.run, Lib.run_compareString, hs, hs2, ← cmpB_eq]
        exact ⟨φ, _, _, ⟨rfl, rfl⟩, .i _ _, Ext.refl r⟩
  · cases e

theorem typeOf_ok {e : Array Value → Sem Value} (h : ExtOk P f e) {et rt n : Nat} (hT : ∀ v w, (e #[.iface et v]).run P w = .ok (.iface rt (.agg #[.pointer (some ⟨n, et, none⟩)])) w) : SumOk P f (sTypeOf et rt n) := by
  refine ⟨?_⟩
  intro B args hh v h' e φ w args' r hv
  unfold sTypeOf at e
  split at e
  · rename_i t x
    rw [beq_nat] at e
    by_cases ht : t = et
    · subst ht
      simp only [decide_true, cond_true] at e
      cases e
      obtain ⟨x', hx, h1⟩ := hv.one
      have ha := args_one hx
      subst ha
      cases h1 with
      | ifc _ hx =>
        rw [h.run, hT]
        exact ⟨φ, _, _, ⟨rfl, rfl⟩, .ifc _ (.agg (.cons (.p ⟨_, r.old n, by simp⟩) .nil)), Ext.refl r⟩
    · simp only [ht, decide_false, cond_false] at e; cases e
  · cases e

theorem comparable_ok {e : Array Value → Sem Value} (h : ExtOk P f e) {et n : Nat} (hC : ∀ w, (e #[.agg #[.pointer (some ⟨n, et, none⟩)]]).run P w = .ok (.bool true) w) : SumOk P f (sComparable et n) := by
  refine ⟨?_⟩
  intro B args hh v h' e φ w args' r hv
  unfold sComparable at e
  split at e
  · rename_i a
    cases hc : (a.b.beq (.old n) && Nat.beq a.o et) with
    | false => rw [hc] at e; cases e
    | true =>
      rw [hc] at e
      cases e
      simp only [Bool.and_eq_true, Nat.beq_eq] at hc
      have hb := bid_beq_eq hc.1
      obtain ⟨ab, ao⟩ := a
      simp only at hb hc
      obtain ⟨_, hc⟩ := hc
      subst hb; subst hc
      obtain ⟨x', hx, h1⟩ := hv.one
      have ha := args_one hx
      subst ha
      cases h1 with
      | agg h2 =>
        obtain ⟨y', hy, h3⟩ := h2.one
        have hy' := args_one hy
        subst hy'
        cases h3 with
        | p hp =>
          obtain ⟨ph, hph, rfl⟩ := hp
          rw [r.old] at hph
          cases hph
          rw [h.run]
          have := hC w
          simp only [Nat.zero_add]
          rw [this]
          exact ⟨φ, _, _, ⟨rfl, rfl⟩, .b _, Ext.refl r⟩
  · cases e

theorem crc_ok {ptrs : List TypeId} (hptrs : PtrsOk P ptrs) (hm : P.follows .mixedOrders = true) {el eb : TypeId} (hF : FOk P ptrs f (Crc.F el eb)) : SumOk P f sCrc := by
  refine sum_of_con (con_of_awF noD_sound' noD_sound hptrs hm hF (c := Crc.con) fun args hp Q hq => Crc.awF_ok el eb args hp Q hq) fun B args hh v h' e => ?_
  unfold sCrc at e
  split at e
  · rename_i l
    rw [ble_nat] at e
    by_cases hl : l.length ≤ 140737488355328
    · simp only [hl, decide_true, cond_true] at e
      refine ⟨l, rfl, hl, ?_⟩
      cases h1 : hh.put (.ex hh.next) none with
      | none => rw [h1] at e; cases e
      | some ha =>
        rw [h1] at e
        cases h2 : ha.put (.gr (Nat.succ hh.next)) none with
        | none =>
          have e' : withV (.i .u32 (Crc.sum l)) (bump 2 (ha.put (.gr (Nat.succ hh.next)) none)) = some (v, h') := e
          rw [h2] at e'; cases e'
        | some hb =>
          have e' : withV (.i .u32 (Crc.sum l)) (bump 2 (ha.put (.gr (Nat.succ hh.next)) none)) = some (v, h') := e
          rw [h2] at e'
          have e2 : some (V.i .u32 (Crc.sum l), (⟨hb.t, Nat.add hb.next 2⟩ : H)) = some (v, h') := e'
          cases e2
          refine ⟨rfl, ?_⟩
          obtain ⟨n1, r1⟩ := H.put_rd (B := B) h1
          obtain ⟨n2, r2⟩ := H.put_rd (B := B) h2
          have hrd : (fun b => if b = BId.ex (hh.hp B).next ∨ b = .gr ((hh.hp B).next + 1) then none else (hh.hp B).rd b) = (⟨hb.t, Nat.add hb.next 2⟩ : H).rd B := by
            funext b
            have hq : (⟨hb.t, Nat.add hb.next 2⟩ : H).rd B b = hb.rd B b := by cases b <;> rfl
            rw [hq, r2, r1]
            show (if b = .ex hh.next ∨ b = .gr (hh.next + 1) then none else hh.rd B b) = if b = .gr (hh.next + 1) then none else if b = .ex hh.next then none else hh.rd B b
            by_cases q1 : b = .gr (hh.next + 1)
            · rw [if_pos (.inr q1), if_pos q1]
            · by_cases q2 : b = .ex hh.next
              · rw [if_pos (.inl q2), if_neg q1, if_pos q2]
              · rw [if_neg (by simp [q1, q2]), if_neg q1, if_neg q2]
          have hnx : (hh.hp B).next + 2 = Nat.add hb.next 2 := by
            show hh.next + 2 = hb.next + 2
            rw [n2, n1]
          rw [hrd, hnx]
          rfl
    · simp only [hl, decide_false, cond_false] at e; cases e
  · cases e

theorem copy_ok {bty : TypeId} (henter : ∀ args w, (callFunc f args).run P w = .ok (.enter f args) w)
    (fresh : ∀ b w, w.cell? ⟨b, 0, none⟩ = some (.pointer none) → w.shape? b = some (bty, 2) → w.frozen? ⟨b, 0, none⟩ = false →
      Calls P f #[.pointer (some ⟨b, 0, none⟩)] w fun e w' => e = .returned (.tuple #[]) ∧ w' = w.setCell ⟨b, 0, none⟩ (.pointer (some ⟨b, 0, none⟩)))
    (used : ∀ b w, w.cell? ⟨b, 0, none⟩ = some (.pointer (some ⟨b, 0, none⟩)) → Calls P f #[.pointer (some ⟨b, 0, none⟩)] w fun e w' => e = .returned (.tuple #[]) ∧ w' = w) : SumOk P f (sCopy bty) := by
  refine ⟨?_⟩
  intro B args hh v h' e φ w args' r hv
  unfold sCopy at e
  split at e
  · rename_i a
    unfold copyBlk at e
    split at e
    · rename_i cs el fz st ro gz hb
      cases hc : (Nat.beq el bty && (Nat.beq a.o 0 && (isEx a.b && (!ro && Nat.beq gz 0)))) with
      | false => rw [hc] at e; cases e
      | true =>
        rw [hc] at e
        simp only [cond_true] at e
        simp only [Bool.and_eq_true, Nat.beq_eq, Bool.not_eq_true'] at hc
        obtain ⟨h1, h2, h3, h4, h5⟩ := hc
        subst h1; subst h4; subst h5
        obtain ⟨x', hx, hxr⟩ := hv.one
        have ha := args_one hx
        subst ha
        obtain ⟨ab, ao⟩ := a
        simp only at h2 h3 hb e
        subst h2
        cases ab with
        | ex n =>
          cases hxr with
          | p hp =>
            have hp0 := hp
            obtain ⟨ph, hph, rfl⟩ := hp
            have hz := r.exz n ph _ hph hb rfl
            have hgr := r.grk _ _ hph
            obtain ⟨c, fr, hw, hcs, hsz, hf, hst⟩ := r.cells (a := ⟨.ex n, 0⟩) hph hb
            have hgr' : ph.gr = none := by cases hg : ph.gr with | none => rfl | some y => rw [hg] at hgr; cases hgr
            rw [hgr'] at hsz
            have hsz' : c.size = ph.sh + cs.length := hsz.2 rfl
            rw [hz] at hsz' hcs hf hp0 ⊢
            simp only [Nat.zero_add] at hsz' hcs hp0 ⊢
            have hcell : w.cell? ⟨ph.blk, 0, none⟩ = c[0]? := cell_at hw 0
            rw [henter]
            split at e
            · rename_i y
              have hsize : c.size = 2 := by rw [hsz']; rfl
              obtain ⟨v0, e1, e2⟩ := hcs 0 (.p none) rfl
              cases e2
              cases hwr : wrCells (hh.rd B) ⟨.ex n, 0⟩ [.p (some ⟨.ex n, 0⟩)] with
              | none => rw [hwr] at e; cases e
              | some ef =>
                rw [hwr] at e
                have hfz : okFz fz 0 = true := by
                  unfold wrCells wrB at hwr
                  rw [hb] at hwr
                  simp only at hwr
                  cases hk : okFz fz 0 with
                  | true => rfl
                  | false => rw [hk] at hwr; simp at hwr
                obtain ⟨w', g1, g2⟩ := wr_cells (P := P) r (a := ⟨.ex n, 0⟩) hp0 (.cons (.p hp0) .nil) hwr
                have hnf : ¬ (fr.1 ≤ 0 ∧ 0 < fr.2) := by
                  cases fz with
                  | none => cases hfz
                  | some k =>
                    have hk : k = 0 := by
                      have : Nat.ble k 0 = true := hfz
                      rw [ble_nat] at this
                      simpa using this
                    have := hf 0 (by omega) (by omega)
                    simpa using this
                have hset : w' = w.setCell ⟨ph.blk, 0, none⟩ (.pointer (some ⟨ph.blk, 0, none⟩)) := by
                  have hrun := run_storeCells P ph.blk 0 el fr [.pointer (some ⟨ph.blk, 0, none⟩)] 0 w c hw (by simp; omega) (fun j h1 h2 => by
                    have : j = 0 := by simp at h2; omega
                    subst this; exact hnf) (fun v hv => by simp at hv; subst hv; rfl)
                  rw [g1] at hrun
                  injection hrun with _ hrun
                  rw [hrun, setCell_lay hw]
                  rfl
                refine Calls.mono (fresh ph.blk w (by rw [hcell]; exact e1) (by simp [World.shape?, hw, hsize]) ?_) fun e' w2 ⟨h5, h6⟩ => ?_
                · rw [frozen_at hw]
                  cases hq : (decide (fr.1 ≤ 0) && decide (0 < fr.2)) with
                  | false => rfl
                  | true =>
                    simp only [Bool.and_eq_true, decide_eq_true_eq] at hq
                    exact absurd hq hnf
                · subst h5; subst h6
                  rw [← hset]
                  have e' : withV (.tup []) (hh.eff ef) = some (v, h') := e
                  cases hef : hh.eff ef with
                  | none => rw [hef] at e'; cases e'
                  | some h1 =>
                    rw [hef] at e'
                    cases e'
                    exact ⟨φ, _, _, ⟨rfl, rfl⟩, .tup .nil, by rw [H.eff_hp hef]; exact g2⟩
            · rename_i b y
              cases hbb : (b.b.beq (.ex n) && Nat.beq b.o 0) with
              | false => rw [hbb] at e; cases e
              | true =>
                rw [hbb] at e
                cases e
                simp only [Bool.and_eq_true, Nat.beq_eq] at hbb
                have hb1 := bid_beq_eq hbb.1
                obtain ⟨bb, bo⟩ := b
                simp only at hb1 hbb
                obtain ⟨_, hb2⟩ := hbb
                subst hb1; subst hb2
                obtain ⟨v0, e1, e2⟩ := hcs 0 _ rfl
                cases e2 with
                | p hp2 =>
                  obtain ⟨ph2, hph2, rfl⟩ := hp2
                  rw [hph] at hph2; cases hph2
                  rw [hz] at e1
                  simp only [Nat.zero_add] at e1
                  refine Calls.mono (used ph.blk w (by rw [hcell]; exact e1)) fun e' w2 ⟨h5, h6⟩ => ?_
                  subst h5; subst h6
                  exact ⟨φ, _, _, ⟨rfl, rfl⟩, .tup .nil, Ext.refl r⟩
            · cases e
        | _ => cases h3
    · cases e
  · cases e

end
/-! ### Tables -/

/-- What all of a tree's values have ('f': where a place of it stands in the whole). -/
def T.All {α : Type} (p : Nat → α → Prop) : T α → (Nat → Nat) → Prop
  | .e, _ => True
  | .n l v r, f => (∀ x, v = some x → p (f 0) x) ∧ T.All p l (fun j => f (2 * j + 1)) ∧ T.All p r (fun j => f (2 * j + 2))
theorem T.all_at {α : Type} {p : Nat → α → Prop} : ∀ {t : T α} {f : Nat → Nat}, T.All p t f → ∀ k x, t.get k = some x → p (f k) x
  | .e, f, _, k, x, h => by rw [T.get_e] at h; cases h
  | .n l v r, f, ⟨h1, h2, h3⟩, k, x, h => by
    rw [T.get_n] at h
    by_cases hk : k = 0
    · rw [if_pos hk] at h; rw [hk]; exact h1 x h
    · rw [if_neg hk] at h
      by_cases hk1 : k % 2 = 1
      · rw [if_pos hk1] at h
        have := T.all_at h2 (k / 2) x h
        rw [show 2 * (k / 2) + 1 = k from by omega] at this; exact this
      · rw [if_neg hk1] at h
        have := T.all_at h3 (k / 2 - 1) x h
        rw [show 2 * (k / 2 - 1) + 2 = k from by omega] at this; exact this
theorem T.all_get {α : Type} {p : Nat → α → Prop} {t : T α} (h : T.All p t fun j => j) {k : Nat} {x : α} (e : t.get k = some x) : p k x := T.all_at h k x e
theorem all_some {α : Type} {p : Nat → α → Prop} {k : Nat} {a : α} (h : p k a) : ∀ x, some a = some x → p k x := fun x e => by cases e; exact h
theorem all_none {α : Type} {p : Nat → α → Prop} {k : Nat} : ∀ x, (none : Option α) = some x → p k x := fun x e => by cases e
theorem lookN_mem {α : Type} {k : Nat} : ∀ {l : List (Nat × α)} {x : α}, lookN k l = some x → (k, x) ∈ l
  | [], x, h => by cases h
  | (n, y) :: l, x, h => by
    unfold lookN at h
    rw [beq_nat] at h
    by_cases hn : n = k
    · simp only [hn, decide_true, cond_true] at h
      cases h
      rw [hn]; exact List.mem_cons_self ..
    · simp only [hn, decide_false, cond_false] at h
      exact List.mem_cons_of_mem _ (lookN_mem h)

/-! ### A run by pieces -/

theorem an_sound {B : Rd} {ch : Ch} {base : Nat} {o : Op'} {re : List Op'} {s s1 : St} {K : AS → Prop} (e : runOp B ch o s = some s1)
    (hre : ∀ x ∈ re, wants (evT s1.env) x.grd = true → ∃ d, x.dst = some d ∧ aop (s1.h.rd B) (evT s1.env) x.op = .ok (evT s1.env d) .no) (hK : K (s1.as B)) : awDI (hdB B ch) base K (s.as B) (.an o re) :=
  op_sound e ⟨hre, hK⟩
theorem awDs_append {ch : Hd} {base : Nat} {K : AS → Prop} : ∀ {a b : List DI} {s : AS}, awDs ch base a (awDs ch base b K) s → awDs ch base (a ++ b) K s
  | [], _, _, h => h
  | i :: a, b, s, h => by
    have key : ∀ {K1 K2 : AS → Prop}, (∀ s, K1 s = K2 s) → awDI ch base K1 s i → awDI ch base K2 s i := fun {K1 K2} hk h => by
      have : K1 = K2 := funext hk
      rw [← this]; exact h
    have e : ∀ (a : List DI) (s : AS), awDs ch base (a ++ b) K s = awDs ch base a (awDs ch base b K) s := by
      intro a
      induction a with
      | nil => intro s; rfl
      | cons j a ih =>
        intro s
        show awDI ch base (awDs ch base (a ++ b) K) s j = awDI ch base (awDs ch base a (awDs ch base b K)) s j
        rw [show awDs ch base (a ++ b) K = awDs ch base a (awDs ch base b K) from funext ih]
    rw [e]; exact h
theorem isTrue_spec {x : Option (V × H)} (h : isTrue x = true) : ∃ h', x = some (.b true, h') := by
  unfold isTrue at h
  split at h
  · exact ⟨_, rfl⟩
  · cases h
theorem code_end {B : Rd} {ch dch : Ch} {fuel : Nat} {c : C} {res : List RV} {s : St} {Q : V → Hp → Prop} (e : isTrue (endF B dch res (runC B ch fuel c s)) = true) (hQ : ∀ h, Q (.b true) h) : awC (hdB B ch) c (awEnd (hdB B dch) res Q) (s.as B) := by
  obtain ⟨h', e⟩ := isTrue_spec e
  cases hr : runC B ch fuel c s with
  | none => rw [hr] at e; cases e
  | some p =>
    obtain ⟨x, s1⟩ := p
    rw [hr] at e
    exact code_sound c s x s1 _ hr (end_sound e (hQ _))

end Go.AM
