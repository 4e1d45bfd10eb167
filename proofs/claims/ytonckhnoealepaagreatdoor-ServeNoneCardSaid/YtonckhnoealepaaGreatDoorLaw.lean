/- ServeNone, called in a world whose listed variables hold what they must: it returns true, and what was there is unchanged. -/
import Derived.Test.YtonckhnoealepaaGreatDoorOk
import Derived.Test.YtonckhnoealepaaGreatDoorRun
namespace Go.Proofs.YtonckhnoealepaaGreatDoor
open Go Go.AM
section
variable (e0 e1 e2 : TypeId) (m p b : List UInt8)
theorem law_awF : awF (hdB (B0 e0 e1 e2) (chh e0 e1 e2)) (hdB (B0 e0 e1 e2) (dchh e0 e1 e2)) a3 [.agg [.s m, .s p, .s b]] (H0.hp (B0 e0 e1 e2)) fun v _ => v = .b true := by
  refine ⟨by show 1 ≤ 13; omega, ?_⟩
  rw [← start_as (B := B0 e0 e1 e2) (s0_eq m p b), a3_code, a3_res, awC_seq, awC_reg]
  refine ops_sound ops1 _ _ (s1_eq e0 e1 e2 m p b) ?_
  rw [thenE_norm, awC_seq]
  intro l hl
  obtain rfl := List.mem_singleton.1 hl
  refine awDs_append ?_
  refine ds_sound fls (S1b e0 e1 e2 m p b) _ (s2_eq e0 e1 e2 m p b) ?_
  refine an_sound (s3_eq e0 e1 e2 m p b) (fun x hx _ => ?_) ?_
  · obtain rfl := List.mem_singleton.1 hx
    exact ⟨5, rfl, s3_re e0 e1 e2 m p b⟩
  refine ds_sound ans _ _ (s4_eq e0 e1 e2 m p b) ?_
  rw [thenE_norm]
  exact code_end (s5_eq e0 e1 e2 m p b) fun _ => rfl
end
theorem ch_sound : SoundH Tryz.prog (hdOf (run tb 100000 199)) := @run_sound Tryz.prog pl pl_ok mixed tb tb_ok 100000 199
theorem ch_soundB (e0 e1 e2 : TypeId) : SoundH Tryz.prog (hdB (B0 e0 e1 e2) (chh e0 e1 e2)) := @hdB_sound Tryz.prog (run tb 100000 199) ch_sound (B0 e0 e1 e2)
theorem dch_soundB (e0 e1 e2 : TypeId) : SoundD Tryz.prog (hdB (B0 e0 e1 e2) (dchh e0 e1 e2)) := @dCh_sound Tryz.prog pl pl_ok mixed tb tb_ok 100000 (run tb 100000 199) ch_sound (B0 e0 e1 e2)
theorem law_calls {φ : Phi} {W : World} {e0 e1 e2 : TypeId} (r : HRel φ (H0.hp (B0 e0 e1 e2)) W) (m p b : ByteArray) : Calls Tryz.prog 3 #[.agg #[.string m, .string p, .string b]] W fun
    | .returned v', w' => CallR φ (H0.hp (B0 e0 e1 e2)) W (fun v _ => v = .b true) v' w'
    | _, _ => False :=
  (@awF_calls Tryz.prog (hdB (B0 e0 e1 e2) (chh e0 e1 e2)) (hdB (B0 e0 e1 e2) (dchh e0 e1 e2)) (ch_soundB e0 e1 e2) (dch_soundB e0 e1 e2) pl pl_ok mixed 3 a3 k3 _ _ _ (law_awF e0 e1 e2 m.data.toList p.data.toList b.data.toList) φ W _ r
    (.cons (.agg (.cons (.s rfl) (.cons (.s rfl) (.cons (.s rfl) .nil)))) .nil)).2

def pow10 : List Int := [1, 10, 100, 1000, 10000, 100000, 1000000, 10000000, 100000000, 1000000000, 10000000000, 100000000000, 1000000000000, 10000000000000, 100000000000000, 1000000000000000, 10000000000000000, 100000000000000000, 1000000000000000000, 10000000000000000000]
/-- What is asked of the world: the two listed variables that the run comes to. -/
structure Laid (W : World) : Prop where
  fine : ∃ a s, W.var? Tryz.prog "lodestar/wal.errFine" = some #[.iface 639 (.pointer (some a))] ∧ W.cell? a = some (.string s) ∧ s.data.toList = [102, 105, 110, 101]
  pow : W.var? Tryz.prog "internal/strconv.uint64pow10" = some (pow10.map fun z => Value.int .u64 z).toArray
theorem gFine : Tryz.prog.globalNamed "lodestar/wal.errFine" = some 0 := by kernel_rfl
theorem gPow : Tryz.prog.globalNamed "internal/strconv.uint64pow10" = some 1 := by kernel_rfl
theorem var_block {W : World} {n : String} {g : Nat} {cs : Array Value} (hg : Tryz.prog.globalNamed n = some g) (h : W.var? Tryz.prog n = some cs) : ∃ el fr, W.heap[g]? = some (.cells cs el fr) := by
  unfold World.var? at h
  rw [hg] at h
  simp only [Option.bind_some] at h
  split at h
  · rename_i c el fr hc
    cases h
    exact ⟨el, fr, hc⟩
  · cases h
def phi0 (k off : Nat) : Phi
  | .old n => some ⟨n, 0, none⟩
  | .ex 0 => some ⟨k, off, none⟩
  | _ => none
theorem blk_rel {φ : Phi} {ph : Ph} {cs : List V} {el : TypeId} {c : Array Value} {fr : Nat × Nat} (hg : ph.gr = none) (hc : CsRel φ cs c ph.sh) (hs : ph.sh + cs.length ≤ c.size) : BRel φ ph (.cells cs el none true true 1) (some (.cells c el fr)) := by
  refine .cells hc ?_ trivial (fun h => by cases h)
  rw [hg]
  exact ⟨hs, fun h => by cases h⟩
theorem cs_rel {φ : Phi} {cs : List V} {c : Array Value} (h : VsRel φ cs c.toList) : CsRel φ cs c 0 := fun i v hi => by
  obtain ⟨v', h1, h2⟩ := h.get hi
  exact ⟨v', by simpa using h1, h2⟩
theorem ints_rel {φ : Phi} {k : IntKind} : ∀ zs : List Int, VsRel φ (zs.map fun z => V.i k z) (zs.map fun z => Value.int k z)
  | [] => .nil
  | z :: zs => .cons (.i k z) (ints_rel zs)
theorem b0_pow {e0 e1 e2 : TypeId} : B0 e0 e1 e2 (.old 1) = some (.cells (pow10.map fun z => V.i .u64 z) e1 none true true 1) := rfl

theorem live {e0 e1 e2 k off : Nat} {b : BId} {ph : Ph} {x : Blk} (hb : phi0 k off b = some ph) (hx : (H0.hp (B0 e0 e1 e2)).rd b = some x) :
    (b = .old 0 ∧ ph = ⟨0, 0, none⟩ ∧ x = .cells [.ifc 639 (.p (some ⟨.ex 0, 0⟩))] e0 none true true 1) ∨ (b = .old 1 ∧ ph = ⟨1, 0, none⟩ ∧ x = .cells (pow10.map fun z => V.i .u64 z) e1 none true true 1) ∨
      (b = .ex 0 ∧ ph = ⟨k, off, none⟩ ∧ x = .cells [.s [102, 105, 110, 101]] e2 none true true 1) := by
  cases b with
  | old n =>
    have hb' : some (⟨n, 0, none⟩ : Ph) = some ph := hb
    have hx' : B0 e0 e1 e2 (.old n) = some x := hx
    match n, hb', hx' with
    | 0, hb', hx' => cases hb'; cases hx'; exact .inl ⟨rfl, rfl, rfl⟩
    | 1, hb', hx' => rw [b0_pow] at hx'; cases hb'; cases hx'; exact .inr (.inl ⟨rfl, rfl, rfl⟩)
    | n + 2, hb', hx' => cases hx'
  | ex n =>
    match n, hb, hx with
    | 0, hb, hx =>
      have hb' : some (⟨k, off, none⟩ : Ph) = some ph := hb
      have hx' : some (Blk.cells [.s [102, 105, 110, 101]] e2 none true true 1) = some x := hx
      cases hb'; cases hx'; exact .inr (.inr ⟨rfl, rfl, rfl⟩)
    | n + 1, hb, hx => cases hb
  | gr n => cases hb

theorem laid_rel {W : World} (h : Laid W) : ∃ φ e0 e1 e2, HRel φ (H0.hp (B0 e0 e1 e2)) W := by
  obtain ⟨a, s, h1, h2, h3⟩ := h.fine
  obtain ⟨e0, fr0, w0⟩ := var_block gFine h1
  obtain ⟨e1, fr1, w1⟩ := var_block gPow h.pow
  obtain ⟨k, off, spot⟩ := a
  have hcell := h2
  unfold World.cell? at hcell
  split at hcell
  · rename_i c e2 fr2 w2
    have w2' : W.heap[k]? = some (.cells c e2 fr2) := w2
    cases spot with
    | some sp => cases hcell
    | none =>
      have hoff : c[off]? = some (.string s) := by simpa using hcell
      have hk0 : k ≠ 0 := fun e => by
        subst e
        rw [w0] at w2'
        cases w2'
        cases off with
        | zero => simp at hoff
        | succ n => simp at hoff
      have hk1 : k ≠ 1 := fun e => by
        subst e
        rw [w1] at w2'
        cases w2'
        rw [← Array.getElem?_toList, List.getElem?_map] at hoff
        cases hq : pow10[off]? with
        | none => rw [hq] at hoff; cases hoff
        | some z => rw [hq] at hoff; cases hoff
      refine ⟨phi0 k off, e0, e1, e2, ?_, ?_, fun n => rfl, ?_, ?_, ?_⟩
      · intro b ph x hb hx
        rcases live hb hx with ⟨rfl, rfl, rfl⟩ | ⟨rfl, rfl, rfl⟩ | ⟨rfl, rfl, rfl⟩
        · rw [w0]
          exact blk_rel rfl (cs_rel (.cons (.ifc 639 (.p ⟨_, rfl, rfl⟩)) .nil)) (Nat.le_refl _)
        · rw [w1]
          exact blk_rel rfl (cs_rel (ints_rel pow10)) (Nat.le_refl _)
        · rw [w2']
          refine blk_rel rfl (fun i v hi => ?_) ?_
          · cases i with
            | zero =>
              have hi' : some (V.s [102, 105, 110, 101]) = some v := hi
              cases hi'
              exact ⟨_, hoff, .s h3⟩
            | succ n => simp at hi
          · obtain ⟨hlt, _⟩ := Array.getElem?_eq_some_iff.1 hoff
            show off + 1 ≤ c.size
            omega
      · intro b d p q x y hb hd hx hy e
        rcases live hb hx with ⟨rfl, rfl, _⟩ | ⟨rfl, rfl, _⟩ | ⟨rfl, rfl, _⟩ <;> rcases live hd hy with ⟨rfl, rfl, _⟩ | ⟨rfl, rfl, _⟩ | ⟨rfl, rfl, _⟩ <;> first
          | rfl
          | (cases e; done)
          | exact absurd e hk0
          | exact absurd e.symm hk0
          | exact absurd e hk1
          | exact absurd e.symm hk1
      · intro b hb
        cases b with
        | old n => exact hb.elim
        | ex n =>
          cases n with
          | zero => exact absurd hb (by show ¬ (1 ≤ 0); omega)
          | succ n => rfl
        | gr n => rfl
      · intro b ph hb
        cases b with
        | old n => cases hb; rfl
        | ex n =>
          cases n with
          | zero => cases hb; rfl
          | succ n => cases hb
        | gr n => cases hb
      · intro n ph x hb hx hr
        rcases live hb hx with ⟨e, _⟩ | ⟨e, _⟩ | ⟨_, _, rfl⟩
        · cases e
        · cases e
        · cases hr
  · cases hcell

/-- ServeNone in such a world: true; what was there stands, block by block. -/
theorem law_walk (m p b : ByteArray) {W : World} (h : Laid W) : Calls Tryz.prog 3 #[.agg #[.string m, .string p, .string b]] W fun e w' => e = .returned (.bool true) ∧ W.heap.size ≤ w'.heap.size ∧ (∀ r, r < W.heap.size → w'.heap[r]? = W.heap[r]?) ∧ w'.os = W.os ∧ w'.output = W.output := by
  obtain ⟨φ, e0, e1, e2, r⟩ := laid_rel h
  refine (law_calls r m p b).mono fun e w' he => ?_
  cases e with
  | returned v =>
    obtain ⟨φ', v2, h2, hv2, hv, hx⟩ := he
    subst hv2
    cases hv
    refine ⟨rfl, hx.size, fun r hr => hx.unch r hr fun b ph x hb hx' hro => ?_, hx.os, hx.out⟩
    have : x.ro = true := by
      cases b with
      | old n =>
        have hx2 : B0 e0 e1 e2 (.old n) = some x := hx'
        match n, hx2 with
        | 0, hx2 => cases hx2; rfl
        | 1, hx2 => rw [b0_pow] at hx2; cases hx2; rfl
        | n + 2, hx2 => cases hx2
      | ex n =>
        have hx2 : B0 e0 e1 e2 (.ex n) = some x := hx'
        match n, hx2 with
        | 0, hx2 => cases hx2; rfl
        | n + 1, hx2 => cases hx2
      | gr n =>
        have hx2 : B0 e0 e1 e2 (.gr n) = some x := hx'
        cases hx2
    rw [hro] at this; cases this
  | panicked c => exact he.elim
  | outgrown => exact he.elim
end Go.Proofs.YtonckhnoealepaaGreatDoor
