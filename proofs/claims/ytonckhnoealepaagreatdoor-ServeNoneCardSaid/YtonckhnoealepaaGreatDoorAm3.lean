/- What each operation does, abstractly and in the model: operators, conversions, addresses, slices. -/
import Derived.Test.YtonckhnoealepaaGreatDoorAm2
import Derived.Laws.BytesString
import Derived.Stop.Asserts
namespace Go.AM

section
variable {P : Program} {φ : Phi} {h : Hp} {w : World}

/-! ### Binary operators -/

theorem eqGuard_plain {op : BinOp} {t : TypeId} {x y : Operand} {a b : Value} (ha : ¬ (a = .nilIface ∧ b = .nilIface)) (hg : ∀ p q, a = .agg p → b = .agg q → P.eqGuardType P.depth t = false) :
    (eqGuard op t x y a b).run P w = .ok () w := by
  unfold eqGuard
  cases a with
  | nilIface =>
    cases b with
    | nilIface => exact absurd ⟨rfl, rfl⟩ ha
    | _ => cases op <;> simp
  | agg p =>
    cases b with
    | agg q => have := hg p q rfl rfl; cases op <;> simp [this]
    | _ => cases op <;> simp
  | _ => cases op <;> simp

theorem intBin_sim {op : BinOp} {k : IntKind} {a b : Int} {t : TypeId} {v : V} (hs : isShift op = false) (e : intBin op k a b = some v) :
    ∃ v', VRel φ v v' ∧ (binOp op t (.int k a) (.int k b)).run P w = .ok v' w := by
  cases op <;> simp [isShift] at hs <;> simp only [intBin, Option.some.injEq] at e
  case add => subst e; exact ⟨_, .i _ _, by rw [wrp_eq]; simp [binOp, Op.intArith]⟩
  case sub => subst e; exact ⟨_, .i _ _, by rw [wrp_eq]; simp [binOp, Op.intArith]; rfl⟩
  case mul => subst e; exact ⟨_, .i _ _, by rw [wrp_eq]; simp [binOp, Op.intArith]⟩
  case quo =>
    unfold divV at e
    rw [ibeq_eq] at e
    by_cases hb : b = 0
    · rw [show (b == 0) = true from by simpa using hb] at e; cases e
    · rw [show (b == 0) = false from by simpa using hb] at e
      simp only [cond_false, Option.some.injEq] at e; subst e
      exact ⟨_, .i _ _, by rw [wrp_eq]; simp [binOp, Op.intDiv, hb]⟩
  case rem =>
    unfold divV at e
    rw [ibeq_eq] at e
    by_cases hb : b = 0
    · rw [show (b == 0) = true from by simpa using hb] at e; cases e
    · rw [show (b == 0) = false from by simpa using hb] at e
      simp only [cond_false, Option.some.injEq] at e; subst e
      exact ⟨_, .i _ _, by simp [binOp, Op.intDiv, hb]⟩
  case and => subst e; exact ⟨_, .i _ _, by rw [bits_and]; simp [binOp, Op.intBits]⟩
  case or => subst e; exact ⟨_, .i _ _, by rw [bits_or]; simp [binOp, Op.intBits]⟩
  case xor => subst e; exact ⟨_, .i _ _, by rw [bits_xor]; simp [binOp, Op.intBits]⟩
  case andNot => subst e; exact ⟨_, .i _ _, by rw [bits_andNot]; simp [binOp, Op.intBits]⟩
  case eql => subst e; exact ⟨_, .b _, by rw [ibeq_eq]; simp [binOp, Op.intCmp]⟩
  case neq => subst e; exact ⟨_, .b _, by rw [ibeq_eq]; simp [binOp, Op.intCmp, bne]⟩
  case lss => subst e; exact ⟨_, .b _, by rw [ileb_eq]; simp only [binOp, Op.intCmp, ne_eq, not_true_eq_false, if_false, Sem.run_pure]; congr 2; rw [← decide_not, decide_eq_decide]; omega⟩
  case leq => subst e; exact ⟨_, .b _, by rw [ileb_eq]; simp [binOp, Op.intCmp]⟩
  case gtr => subst e; exact ⟨_, .b _, by rw [ileb_eq]; simp only [binOp, Op.intCmp, ne_eq, not_true_eq_false, if_false, Sem.run_pure]; congr 2; rw [← decide_not, decide_eq_decide]; omega⟩
  case geq => subst e; exact ⟨_, .b _, by rw [ileb_eq]; simp [binOp, Op.intCmp]⟩

theorem shiftBin_sim {op : BinOp} {k j : IntKind} {a b : Int} {t : TypeId} {v : V} (hs : isShift op = true) (e : shiftBin op k a b = some v) :
    ∃ v', VRel φ v v' ∧ (binOp op t (.int k a) (.int j b)).run P w = .ok v' w := by
  unfold shiftBin at e
  rw [ileb_eq] at e
  by_cases hb : (0 : Int) ≤ b
  · have hb' : ¬ b < 0 := by omega
    simp only [hb, decide_true, cond_true] at e
    cases op <;> simp [isShift] at hs
    · simp only [Option.some.injEq] at e; subst e
      exact ⟨_, .i _ _, by rw [wrp_eq, pow2_eq, shiftN_eq]; simp [binOp, Op.shift, hb']⟩
    · simp only [Option.some.injEq] at e; subst e
      exact ⟨_, .i _ _, by rw [pow2_eq, shiftN_eq]; simp [binOp, Op.shift, hb']⟩
  · simp [hb] at e

theorem strBin_sim {op : BinOp} {a b : List UInt8} {a' b' : ByteArray} {t : TypeId} {v : V} (ha : a'.data.toList = a) (hb : b'.data.toList = b) (e : strBin op a b = some v) :
    ∃ v', VRel φ v v' ∧ (binOp op t (.string a') (.string b')).run P w = .ok v' w := by
  have hlt : Op.bytesLess a'.toList b'.toList = bytesLt a b := by rw [bytesLt_eq, ByteArray.toList_eq, ByteArray.toList_eq, ha, hb]
  have heq : (a'.toList == b'.toList) = bytesEq a b := by rw [bytesEq_eq, ByteArray.toList_eq, ByteArray.toList_eq, ha, hb]
  cases op <;> simp only [strBin, Option.some.injEq] at e <;> try cases e
  case add =>
    rw [ble_nat] at e
    by_cases hle : Nat.add a.length b.length ≤ 4611686018427387904
    · simp only [hle, decide_true, cond_true, Option.some.injEq] at e
      subst e
      refine ⟨.string (a' ++ b'), .s (by rw [← ha, ← hb]; simp), ?_⟩
      have h1 : a'.size = a.length := by rw [← ha]; exact Lib.size_eq a'
      have h2 : b'.size = b.length := by rw [← hb]; exact Lib.size_eq b'
      have h3 : a.length + b.length ≤ 4611686018427387904 := hle
      have : ((a'.size : Int) + (b'.size : Int)) ≤ 9223372036854775807 := by omega
      have hm : IntKind.i64.max = 9223372036854775807 := rfl
      simp [binOp, Op.stringOp, hm, this]
    · simp only [hle, decide_false, cond_false] at e; cases e
  all_goals exact ⟨_, .b _, by simp [binOp, Op.stringOp, hlt, heq]⟩

def anyPair (x y : Value) : Bool := match x, y with
  | .int _ _, .int _ _ => true
  | .float _ _, .float _ _ => true
  | .complex _ _ _, .complex _ _ _ => true
  | .string _, .string _ => true
  | _, _ => false
theorem binOp_eql {t : TypeId} {x y : Value} (e : anyPair x y = false) : binOp .eql t x y = (do pure (.bool (← Op.equal t x y)) : Sem Value) := by
  cases x <;> cases y <;> first | rfl | (simp [anyPair] at e; done)
theorem binOp_neq {t : TypeId} {x y : Value} (e : anyPair x y = false) : binOp .neq t x y = (do pure (.bool (!(← Op.equal t x y))) : Sem Value) := by
  cases x <;> cases y <;> first | rfl | (simp [anyPair] at e; done)

theorem eqK_struct {ptrs : List TypeId} {d : Nat} {t : TypeId} {fs : List (Nat × Option Nat × EqK)} (e : eqK P ptrs d t = some (.struct fs)) :
    (∃ f, P.underlying t = some (.struct f)) ∨ ∃ n el, P.underlying t = some (.array n el) := by
  cases d with
  | zero => simp [eqK] at e
  | succ d =>
    unfold eqK at e
    split at e <;> (try split at e) <;> (try cases e) <;> (try split at e) <;> (try cases e)
    · rename_i f hu _ _ _; exact .inl ⟨f, hu⟩
    · exact .inr ⟨_, _, by assumption⟩
theorem eqK_iface {ptrs ps : List TypeId} {d : Nat} {t : TypeId} {m : Bool} (e : eqK P ptrs d t = some (.iface m ps)) : ∃ ms, P.underlying t = some (.interface ms) ∧ m = !ms.isEmpty := by
  cases d with
  | zero => simp [eqK] at e
  | succ d =>
    unfold eqK at e
    split at e <;> (try split at e) <;> (try cases e) <;> (try split at e) <;> (try cases e)
    rename_i ms hu
    exact ⟨ms, hu, rfl⟩
theorem isConstO_spec {x : Operand} (e : isConstO x = true) : ∃ v, x = .const v := by cases x <;> simp [isConstO] at e; exact ⟨_, rfl⟩

theorem VRel.nil_iff {x : V} {x' : Value} (r : VRel φ x x') : x' = .nilIface ↔ x = .ni := by cases r <;> simp
  <;> (rename_i h; intro e; subst e; simp [isRaw] at h)
theorem eqV_agg_struct {rd : Rd} {k : EqK} {xs ys : List V} {b : Bool} (e : eqV rd k (.agg xs) (.agg ys) = some b) : ∃ fs, k = .struct fs := by
  cases k <;> unfold eqV at e <;> first | exact ⟨_, rfl⟩ | (simp [eqB, eqI, eqS, samePV, eqIf, eqNs, eqNm, eqNf] at e; done)
theorem eqV_raw {rd : Rd} {k : EqK} {x : Value} {y : V} : eqV rd k (.raw x) y = none := by
  cases k <;> unfold eqV <;> simp [eqB, eqI, eqS, samePV, eqIf, eqNs, eqNm, eqNf]
theorem VRel.anyPair {x y : V} {x' y' : Value} (hx : VRel φ x x') (hy : VRel φ y y') (hi : ∀ j a k b, ¬ (x = .i j a ∧ y = .i k b)) (hs : ∀ a b, ¬ (x = .s a ∧ y = .s b)) (hr : ∀ z, x ≠ .raw z) :
    anyPair x' y' = false := by
  cases hx with
  | i j a =>
    cases hy with
    | i k b => exact absurd ⟨rfl, rfl⟩ (hi _ _ _ _)
    | raw h => cases y' <;> simp [isRaw] at h <;> rfl
    | _ => rfl
  | s e =>
    cases hy with
    | s e' => exact absurd ⟨rfl, rfl⟩ (hs _ _)
    | raw h => cases y' <;> simp [isRaw] at h <;> rfl
    | _ => rfl
  | raw h => exact absurd rfl (hr _)
  | _ => rfl

def opF : BinOp → Bool → Bool
  | .neq => not
  | _ => fun r => r
theorem eqG_sim {ptrs : List TypeId} (hptrs : PtrsOk P ptrs) (r : HRel φ h w) {d : Nat} {t : TypeId} {k : EqK} (hk : eqK P ptrs d t = some k) (hd : d + 1 ≤ 10000) {cst : Bool} {x y : V} {x' y' : Value}
    {ox oy : Operand} (hcst : cst = true → isConstO ox = true ∨ isConstO oy = true)
    (hg : (∃ fs, P.underlying t = some (.struct fs)) ∨ (∃ n e, P.underlying t = some (.array n e)) → P.eqGuardType P.depth t = false)
    {op : BinOp} (hop : op = .eql ∨ op = .neq) (hx : VRel φ x x') (hy : VRel φ y y') {v : V} (e : eqG h.rd (opF op) k cst x y = some v)
    (hi : ∀ j a k b, ¬ (x = .i j a ∧ y = .i k b)) (hs : ∀ a b, ¬ (x = .s a ∧ y = .s b)) :
    ∃ v', VRel φ v v' ∧ (do eqGuard op t ox oy x' y'; binOp op t x' y' : Sem Value).run P w = .ok v' w := by
  have fin : ∀ b, (Op.equalIn 10000 t x' y').run P w = .ok b w → anyPair x' y' = false → (binOp op t x' y').run P w = .ok (.bool (opF op b)) w := fun b hb hap => by
    rcases hop with rfl | rfl
    · rw [binOp_eql hap]; simp [Op.equal, Op.maxDepth, hb, opF]
    · rw [binOp_neq hap]; simp [Op.equal, Op.maxDepth, hb, opF]
  by_cases hnn : x = .ni ∧ y = .ni
  · obtain ⟨rfl, rfl⟩ := hnn
    cases hx; cases hy
    simp only [eqG] at e
    split at e
    · rename_i meth ps
      obtain ⟨ms, hu, hm⟩ := eqK_iface hk
      have hgd : (cst || !meth) = true := by
        cases hc : (cst || !meth) with
        | true => rfl
        | false => rw [hc] at e; cases e
      rw [hgd] at e
      simp only [cond_true, Option.some.injEq] at e; subst e
      refine ⟨_, .b _, ?_⟩
      have hguard : (eqGuard op t ox oy .nilIface .nilIface).run P w = .ok () w := by
        rcases Bool.or_eq_true_iff.1 hgd with hc | hc
        · rcases hcst hc with h1 | h1
          · obtain ⟨z, rfl⟩ := isConstO_spec h1
            rcases hop with rfl | rfl <;> simp [eqGuard]
          · obtain ⟨z, rfl⟩ := isConstO_spec h1
            rcases hop with rfl | rfl <;> cases ox <;> simp [eqGuard]
        · have hme : ms.isEmpty = true := by
            rw [hm] at hc; simpa using hc
          have hms : ms = #[] := by simpa using hme
          have hg2 : (Op.eqGuardIn Op.maxDepth t .nilIface .nilIface).run P w = .ok false w := by
            rw [show Op.maxDepth = 9999 + 1 from rfl, Op.eqGuardIn]
            simp [run_underlying_some hu, hms]
          rcases hop with rfl | rfl <;> cases ox <;> cases oy <;> simp [eqGuard, hg2]
      simp only [Sem.run_bind, hguard, Result.andThen_ok]
      exact fin true (equalIn_nn hu) rfl
    · cases e
  · have he : ∃ b, eqV h.rd k x y = some b ∧ v = .b (opF op b) := by
      unfold eqG at e
      split at e
      · exact absurd ⟨rfl, rfl⟩ hnn
      · unfold boolO at e
        split at e
        · rename_i b hb; simp at e; exact ⟨b, hb, e.symm⟩
        · cases e
    obtain ⟨b, hb, rfl⟩ := he
    refine ⟨_, .b _, ?_⟩
    have hap : anyPair x' y' = false := hx.anyPair hy hi hs (fun z hz => by subst hz; rw [eqV_raw] at hb; cases hb)
    have hguard : (eqGuard op t ox oy x' y').run P w = .ok () w := by
      refine eqGuard_plain (fun z => hnn ⟨hx.nil_iff.1 z.1, hy.nil_iff.1 z.2⟩) (fun p q hp hq => ?_)
      · subst hp; subst hq
        cases hx with
        | agg h1 =>
          cases hy with
          | agg h2 =>
            obtain ⟨fs, rfl⟩ := eqV_agg_struct hb
            exact hg (eqK_struct hk)
          | raw hr => simp [isRaw] at hr
        | raw hr => simp [isRaw] at hr
    simp only [Sem.run_bind, hguard, Result.andThen_ok]
    exact fin b (eqV_sim hptrs r d t k hk 10000 x y x' y' b hd hx hy hb) hap

/-- What 'cOp' takes for a binary operator. -/
def BinC (P : Program) (t : TypeId) (k : EqK) (cst : Bool) (ox oy : Operand) : Prop :=
  (∃ d ptrs, PtrsOk P ptrs ∧ eqK P ptrs d t = some k ∧ d + 1 ≤ 10000 ∧ (cst = true → isConstO ox = true ∨ isConstO oy = true) ∧
    ((∃ fs, P.underlying t = some (.struct fs)) ∨ (∃ n e, P.underlying t = some (.array n e)) → P.eqGuardType P.depth t = false)) ∨
  (k = .int ∧ cst = false) ∨ (k = .str ∧ cst = false)

theorem eqGuard_num {op : BinOp} {t : TypeId} {x y : Operand} {a b : Value} (h : (∃ k n, a = .int k n) ∨ ∃ s, a = .string s) : (eqGuard op t x y a b).run P w = .ok () w := by
  rcases h with ⟨k, n, rfl⟩ | ⟨s, rfl⟩
  · exact eqGuard_plain (fun z => by cases z.1) (fun p q hp _ => by cases hp)
  · exact eqGuard_plain (fun z => by cases z.1) (fun p q hp _ => by cases hp)

theorem eqG_int {rd : Rd} {f : Bool → Bool} {cst : Bool} {x y : V} {v : V} (e : eqG rd f .int cst x y = some v) : ∃ j a k b, x = .i j a ∧ y = .i k b := by
  unfold eqG at e
  split at e
  · cases e
  · unfold boolO at e
    split at e
    · rename_i b hb
      unfold eqV eqI at hb
      split at hb
      · exact ⟨_, _, _, _, rfl, rfl⟩
      · cases hb
    · cases e
theorem eqG_str {rd : Rd} {f : Bool → Bool} {cst : Bool} {x y : V} {v : V} (e : eqG rd f .str cst x y = some v) : ∃ a b, x = .s a ∧ y = .s b := by
  unfold eqG at e
  split at e
  · cases e
  · unfold boolO at e
    split at e
    · rename_i b hb
      unfold eqV eqS at hb
      split at hb
      · exact ⟨_, _, rfl, rfl⟩
      · cases hb
    · cases e

theorem sim_bin (r : HRel φ h w) {op : BinOp} {t : TypeId} {k : EqK} {cst : Bool} {ox oy : Operand} {x y : V} {x' y' : Value} (hc : BinC P t k cst ox oy) (hx : VRel φ x x') (hy : VRel φ y y') :
    ResSim P φ h w ((vv (do eqGuard op t ox oy x' y'; binOp op t x' y')).run P w) (okO (binV h.rd op k cst x y)) := by
  refine okO_sim r fun v e => ?_
  by_cases hii : ∃ j a l b, x = .i j a ∧ y = .i l b
  · obtain ⟨j, a, l, b, rfl, rfl⟩ := hii
    cases hx; cases hy
    simp only [binV] at e
    have hgd : (eqGuard op t ox oy (.int j a) (.int l b)).run P w = .ok () w := eqGuard_num (.inl ⟨_, _, rfl⟩)
    cases hs : isShift op with
    | true =>
      rw [hs] at e
      obtain ⟨v', h1, h2⟩ := shiftBin_sim (φ := φ) (P := P) (w := w) (j := l) (t := t) hs (by simpa using e)
      exact ⟨v', h1, by simp only [Sem.run_bind, hgd, Result.andThen_ok]; exact h2⟩
    | false =>
      rw [hs] at e
      simp only [cond_false] at e
      rw [kbeq_eq] at e
      by_cases hk : j = l
      · subst hk
        obtain ⟨v', h1, h2⟩ := intBin_sim (φ := φ) (P := P) (w := w) (t := t) hs (by simpa using e)
        exact ⟨v', h1, by simp only [Sem.run_bind, hgd, Result.andThen_ok]; exact h2⟩
      · simp [hk] at e
  · by_cases hss : ∃ a b, x = .s a ∧ y = .s b
    · obtain ⟨a, b, rfl, rfl⟩ := hss
      obtain ⟨a', rfl, ha⟩ := hx.str
      obtain ⟨b', rfl, hb⟩ := hy.str
      simp only [binV] at e
      obtain ⟨v', h1, h2⟩ := strBin_sim (φ := φ) (P := P) (w := w) (t := t) ha hb e
      have hgd : (eqGuard op t ox oy (.string a') (.string b')).run P w = .ok () w := eqGuard_num (.inr ⟨_, rfl⟩)
      exact ⟨v', h1, by simp only [Sem.run_bind, hgd, Result.andThen_ok]; exact h2⟩
    · have hi : ∀ j a k b, ¬ (x = .i j a ∧ y = .i k b) := fun j a k b z => hii ⟨j, a, k, b, z.1, z.2⟩
      have hs : ∀ a b, ¬ (x = .s a ∧ y = .s b) := fun a b z => hss ⟨a, b, z.1, z.2⟩
      have e' : eqOp h.rd op k cst x y = some v := by
        unfold binV at e
        split at e
        · exact absurd ⟨rfl, rfl⟩ (hi _ _ _ _)
        · exact absurd ⟨rfl, rfl⟩ (hs _ _)
        · exact e
      have hop : (op = .eql ∨ op = .neq) ∧ eqG h.rd (opF op) k cst x y = some v := by
        unfold eqOp at e'
        split at e'
        · exact ⟨.inl rfl, e'⟩
        · exact ⟨.inr rfl, e'⟩
        · cases e'
      rcases hc with ⟨d, ptrs, hp, hk, hd, hcst, hg⟩ | ⟨rfl, _⟩ | ⟨rfl, _⟩
      · exact eqG_sim hp r hk hd hcst hg hop.1 hx hy hop.2 hi hs
      · obtain ⟨j, a, k, b, rfl, rfl⟩ := eqG_int hop.2
        exact absurd ⟨rfl, rfl⟩ (hi j a k b)
      · obtain ⟨a, b, rfl, rfl⟩ := eqG_str hop.2
        exact absurd ⟨rfl, rfl⟩ (hs a b)

theorem sim_un (r : HRel φ h w) {op : UnOp} {x : V} {x' : Value} (hx : VRel φ x x') : ResSim P φ h w ((vv (Op.unary op x')).run P w) (okO (unV op x)) := by
  refine okO_sim r fun v e => ?_
  cases hx with
  | i k n =>
    cases op <;> simp only [unV, Option.some.injEq] at e <;> try cases e
    · exact ⟨_, .i _ _, by rw [wrp_eq]; simp [Op.unary, Op.intArith]; rfl⟩
    · refine ⟨_, .i _ _, ?_⟩
      rw [bits_xor]
      have : (bif sgn k then (-1 : Int) else two k - 1) = (if k.signed then -1 else k.max) := by
        cases k <;> rfl
      rw [this]
      simp [Op.unary, Op.intBits]
  | b b =>
    cases op <;> simp only [unV, Option.some.injEq] at e <;> try cases e
    exact ⟨_, .b _, by simp [Op.unary]⟩
  | _ => simp [unV] at e

/-! ### Conversions -/

theorem sim_convI (r : HRel φ h w) {s d : TypeId} {k : IntKind} {x : V} {x' : Value} (hs : ∃ j, P.underlying s = some (.int j)) (hd : P.underlying d = some (.int k)) (hx : VRel φ x x') :
    ResSim P φ h w ((vv (convert s d x')).run P w) (convI k x) := by
  obtain ⟨j, hs⟩ := hs
  cases hx with
  | i k' n => exact ok_sim r (v' := .int k (k.wrap n)) (by rw [wrp_eq]; exact .i _ _) (by simp [convert, run_underlying_some hs, run_underlying_some hd, Conv.intToInt])
  | _ => exact trivial
theorem sim_convR (r : HRel φ h w) {s d : TypeId} {x : V} {x' : Value} (hs : ∃ j, P.underlying s = some (.int j)) (hd : P.underlying d = some .string) (hx : VRel φ x x') :
    ResSim P φ h w ((vv (convert s d x')).run P w) (convR x) := by
  obtain ⟨j, hs⟩ := hs
  cases hx with
  | i k' n => exact ok_sim r (v' := .string (Utf8.encode n)) (.s rfl) (by simp [convert, run_underlying_some hs, run_underlying_some hd, Conv.intToString])
  | _ => exact trivial
theorem sim_convS (r : HRel φ h w) {s d : TypeId} {x : V} {x' : Value} (hs : P.underlying s = some .string) (hd : P.underlying d = some .string) (hx : VRel φ x x') :
    ResSim P φ h w ((vv (convert s d x')).run P w) (convS x) := by
  cases hx with
  | s e => exact ok_sim r (.s e) (by simp [convert, run_underlying_some hs, run_underlying_some hd])
  | _ => exact trivial

theorem bytesV_rel : ∀ (l : List UInt8), VsRel φ (bytesV l) (l.map fun b => Value.int .u8 b.toNat)
  | [] => .nil
  | _ :: l => .cons (.i _ _) (bytesV_rel l)
theorem bytesV_length (l : List UInt8) : (bytesV l).length = l.length := by simp [bytesV]
theorem bytesOf_rel : ∀ {cs : List V} {c : List Value} {l : List UInt8}, VsRel φ cs c → bytesOfCells cs = some l →
    ∃ ns : List Int, c = ns.map (fun n => Value.int .u8 n) ∧ l = ns.map (fun n => UInt8.ofNat n.toNat)
  | _, _, l, .nil, e => by simp [bytesOfCells] at e; subst e; exact ⟨[], rfl, rfl⟩
  | v :: cs, v' :: c, l, .cons r t, e => by
    unfold bytesOfCells at e
    split at e
    · rename_i b hb
      unfold byteOfV at hb
      split at hb
      · rename_i k n
        cases r
        rw [kbeq_eq] at hb
        by_cases hk : k = .u8
        · subst hk
          simp at hb; subst hb
          unfold consO at e
          split at e
          · rename_i l' hl
            simp at e; subst e
            obtain ⟨ns, rfl, rfl⟩ := bytesOf_rel t hl
            exact ⟨n :: ns, rfl, rfl⟩
          · cases e
        · simp [hk] at hb
      · cases hb
    · cases e

theorem pushes (ns : List Int) : ∀ (s : ByteArray), (ns.foldl (fun r n => r.push (UInt8.ofNat n.toNat)) s).data.toList = s.data.toList ++ ns.map (fun n => UInt8.ofNat n.toNat) := by
  induction ns with
  | nil => intro s; simp
  | cons n ns ih => intro s; simp only [List.foldl_cons]; rw [ih]; simp [ByteArray.push]

theorem ofO_some {α : Type} {a : α} {f : α → Res} : ofO (some a) f = f a := rfl
theorem ofO_none {α : Type} {f : α → Res} : ofO none f = .fail := rfl

theorem sim_convBS (r : HRel φ h w) {s d e : TypeId} {x : V} {x' : Value} (hs : P.underlying s = some (.slice e)) (he : P.underlying e = some (.int .u8)) (hd : P.underlying d = some .string) (hx : VRel φ x x') :
    ResSim P φ h w ((vv (convert s d x')).run P w) (convBS h.rd x) := by
  cases hx with
  | sl0 n c => exact ok_sim r (v' := .string .empty) (.s rfl) (by rw [run_convert_bytes_string w s d e _ _ _ hs he hd]; simp [Conv.bytesToString])
  | sl hsl =>
    rename_i a n c a' c'
    simp only [convBS]
    cases hc : rdCells h.rd a n with
    | none => exact trivial
    | some cs =>
      cases hb : bytesOfCells cs with
      | none => rw [ofO_some, hb]; exact trivial
      | some l =>
        rw [ofO_some, hb, ofO_some]
        obtain ⟨l', h1, h2, h3⟩ := rd_slice (P := P) r hsl id hc
        obtain ⟨ns, rfl, rfl⟩ := bytesOf_rel h1 hb
        exact ok_sim r (v' := .string (ns.foldl (fun r n => r.push (UInt8.ofNat n.toNat)) ByteArray.empty)) (.s (by rw [pushes]; simp)) (by rw [run_convert_bytes_string w s d e _ _ _ hs he hd]; exact run_bytesToString w a' n c' ns h3)
  | _ => exact trivial

theorem push_freeze (w : World) (c : Array Value) (e : TypeId) (n : Nat) : ((w.alloc (.cells c e)).freeze ⟨w.heap.size, n, none⟩ 1).heap = w.heap.push (.cells c e (n, n + 1)) := by
  simp only [World.freeze, World.alloc]
  apply Array.ext_getElem?
  intro i
  simp only [Nat.one_ne_zero, if_false]
  rw [Array.getElem?_modify, Array.getElem?_push, Array.getElem?_push]
  by_cases hi : w.heap.size = i
  · subst hi; simp
  · rw [if_neg hi, if_neg (fun x => hi x.symm), if_neg (fun x => hi x.symm)]

theorem run_appendCap (need old : Nat) (e : TypeId) : ∃ k, (choose (.appendCap need old e)).run P w = .ok (need + k) w.drew := by
  refine ⟨w.tape w.drawn (.appendCap need old e) % (2 ^ 63 - need), ?_⟩
  rw [run_choose]
  simp only [Question.forced, Question.cut, Bool.false_eq_true, if_false]
  rfl

/-- '[]byte(s)': the new block's capacity is drawn. -/
theorem sim_convB {s d e : TypeId} {x : V} {x' : Value} (hs : P.underlying s = some .string) (hd : P.underlying d = some (.slice e)) (he : P.underlying e = some (.int .u8)) (hx : VRel φ x x') :
    ResSim P φ h w ((vv (convert s d x')).run P w) (convB e x) := by
  cases hx with
  | s hl =>
    rename_i l s'
    simp only [convB]
    have hsz : s'.size = l.length := by rw [← hl]; exact Lib.size_eq s'
    obtain ⟨k, hk⟩ := run_appendCap (P := P) (w := w) s'.size 0 e
    let c : Array Value := (s'.data.map fun b => Value.int .u8 b.toNat) ++ Array.replicate (s'.size + k - s'.size) (.int .u8 0)
    have hcs : c.size = s'.size + k := by
      have : s'.data.size = s'.size := rfl
      simp [c, this]
    refine ⟨⟨w.heap.size, 0, some (1, s'.size + k)⟩, .slice (some ⟨w.heap.size, 0, none⟩) s'.size (s'.size + k), .cells c e (c.size, c.size + 1),
      ((w.drew.alloc (.cells c e)).freeze ⟨w.heap.size, c.size, none⟩ 1), ?_, ⟨rfl, rfl⟩, rfl, push_freeze w.drew c e c.size, ⟨rfl, rfl, rfl⟩, ?_, ?_⟩
    · have hsh : (w.drew.alloc (.cells c e)).shape? w.drew.heap.size = some (e, c.size) := by
        show (match (w.heap.push (Obj.cells c e))[w.heap.size]? with | some (.cells c elem _) => some (elem, c.size) | _ => none) = _
        rw [Array.getElem?_push_size]
      simp only [vv, convert, Sem.run_bind, run_underlying_some hs, run_underlying_some hd, run_underlying_some he, Result.andThen_ok, Conv.stringToBytes, hk, newRow, run_newObj, World.alloc_eq,
        markStringish, run_shape, Sem.run_pure]
      rw [show (Array.map (fun b => Value.int IntKind.u8 b.toNat) s'.data ++ Array.replicate (s'.size + k - s'.size) (Value.int IntKind.u8 0)) = c from rfl]
      simp only [hsh]
      rfl
    · refine .cells (fun i v hi => ?_) ?_ ?_ (fun z => by cases z)
      · obtain ⟨v', h1, h2⟩ := (bytesV_rel (φ := φ) l).get hi
        refine ⟨v', ?_, h2⟩
        have hil : i < l.length := by
          rcases Nat.lt_or_ge i (bytesV l).length with h' | h'
          · rwa [bytesV_length] at h'
          · simp [List.getElem?_eq_none h'] at hi
        have hi2 : i < s'.data.size := by rw [← hsz] at hil; exact hil
        subst hl
        simp only [Nat.zero_add, c]
        rw [Array.getElem?_append_left (by simpa using hi2)]
        simpa using h1
      · rw [hcs, bytesV_length]
        exact ⟨by decide, by omega, by show s'.size + k = 0 + (s'.size + k); omega, rfl⟩
      · intro off _ ho
        change 0 + off < c.size at ho
        show ¬ (c.size ≤ 0 + off ∧ 0 + off < c.size + 1)
        omega
    · intro ψ n hψ
      rw [hsz] at *
      exact .sl ⟨_, hψ, rfl, ⟨Nat.le_add_right _ _, rfl, rfl, .inr ⟨rfl, by show 0 + (l.length + k) * 1 ≤ l.length + k; omega⟩⟩⟩
  | _ => exact trivial

end
end Go.AM

/- What each operation does, abstractly and in the model: making, building, slicing, addresses. -/
namespace Go.AM

section
variable {P : Program} {φ : Phi} {h : Hp} {w : World}

theorem sim_mkI (r : HRel φ h w) {t : TypeId} {x : V} {x' : Value} (ht : ∃ d, P.underlying t = some d ∧ ∀ ms, d ≠ .interface ms) (hx : VRel φ x x') :
    ResSim P φ h w ((vv (Instr.makeInterface t x')).run P w) (.ok (.ifc t x) .no) := by
  obtain ⟨d, hd, hn⟩ := ht
  refine ok_sim r (.ifc t hx) ?_
  unfold Instr.makeInterface
  simp only [Sem.run_bind, run_underlying_some hd, Result.andThen_ok]
  cases d <;> first | rfl | exact absurd rfl (hn _)

theorem sim_mkM {t : TypeId} {res : Option Value} (hr : res = none ∨ (∃ k e, P.underlying t = some (.map k e)) ∧ ∃ j n, res = some (.int j n)) :
    ResSim P φ h w ((vv (Instr.makeMap t res)).run P w) (.mk false (fun i => .m (some (.ex i))) (.map [] 0 false)) := by
  have hrun : (Instr.makeMap t res).run P w = .ok (.map (some w.heap.size)) (w.alloc (.map #[] 0)) := by
    rcases hr with rfl | ⟨⟨k, e, hu⟩, j, n, rfl⟩
    · simp [Instr.makeMap]
    · simp [Instr.makeMap, run_underlying_some hu, asInt, asIntOf]
  exact new_sim (v' := .map (some w.heap.size)) (o := .map #[] 0) (ph := ⟨w.heap.size, 0, none⟩) hrun rfl (.map rfl .nil) (fun ψ n e => .m ⟨_, e, rfl⟩)

theorem rept_length (z : List V) : ∀ n, (rept z n).length = n * z.length
  | 0 => by simp [rept]
  | n + 1 => by simp [rept, rept_length z n, Nat.succ_mul]; omega
theorem rept_get (z : List V) (hz : 0 < z.length) : ∀ (n i : Nat), i < n * z.length → (rept z n)[i]? = z[i % z.length]?
  | 0, i, hi => by simp at hi
  | n + 1, i, hi => by
    rw [Nat.succ_mul] at hi
    simp only [rept]
    by_cases hc : i < z.length
    · rw [List.getElem?_append_left hc, Nat.mod_eq_of_lt hc]
    · rw [List.getElem?_append_right (by omega), rept_get z hz n _ (by omega)]
      congr 1
      rw [Nat.mod_eq_sub_mod (a := i) (by omega)]
theorem range0 {α : Type} (f : Nat → α) : (Array.range 0).map f = #[] := Array.eq_empty_of_size_eq_zero (by simp)
def reptA (zc : Array Value) (n : Nat) : Array Value := (Array.range n).map fun i => zc[i % zc.size]!
theorem rept_rel {z : List V} {zc : Array Value} (hz : VsRel φ z zc.toList) (h0 : 0 < z.length) (n : Nat) : VsRel φ (rept z n) (reptA zc (n * zc.size)).toList := by
  have hl : z.length = zc.size := by simpa using hz.length
  refine VsRel.of_get (by simp [reptA, rept_length, hl]) fun i v hi => ?_
  have hin : i < n * z.length := by
    rcases Nat.lt_or_ge i (rept z n).length with h' | h'
    · rwa [rept_length] at h'
    · simp [List.getElem?_eq_none h'] at hi
  rw [rept_get z h0 n i hin] at hi
  obtain ⟨v', h1, h2⟩ := hz.get hi
  refine ⟨v', ?_, h2⟩
  have hm : i % zc.size < zc.size := Nat.mod_lt _ (by omega)
  rw [hl] at h1 hin
  simp only [reptA, Array.toList_map, List.getElem?_map, Array.getElem?_toList]
  rw [Array.getElem?_range]
  simp only [hin, if_true, Option.map_some]
  simp at h1
  rw [getElem!_pos zc _ hm]
  rw [Array.getElem?_eq_getElem hm] at h1
  exact h1

theorem exSl_rel {ψ : Phi} {n b l c : Nat} (e : ψ (.ex n) = some ⟨b, 0, none⟩) : VRel ψ (.sl (some ⟨.ex n, 0⟩) l c) (.slice (some ⟨b, 0, none⟩) l c) := .sl ⟨_, e, rfl, rfl, rfl⟩

theorem wrap_small {n : Nat} (h : n ≤ most47) : IntKind.i64.wrap (n : Int) = n := by
  unfold most47 at h
  unfold IntKind.wrap
  have : ((n : Int) % (2 ^ IntKind.i64.bits : Int)) = n := by
    show (n : Int) % 18446744073709551616 = n
    omega
  simp only [this]
  have h2 : (IntKind.i64.signed && decide ((n : Int) ≥ (2 ^ (IntKind.i64.bits - 1) : Int))) = false := by
    have : ¬ ((n : Int) ≥ 9223372036854775808) := by omega
    simpa [IntKind.signed, IntKind.bits] using this
  rw [h2]
  rfl

theorem natV_spec {v : V} {v' : Value} {n : Nat} (e : natV v = some n) (r : VRel φ v v') : ∃ k, v' = .int k (n : Int) := by
  cases r <;> simp [natV] at e
  rename_i k m
  exact ⟨k, by rw [natI_spec e]⟩

theorem sim_mkS {t el : TypeId} {i : TypeInfo} {z : V} {l c : V} {l' c' : Value} (ht : P.underlying t = some (.slice el)) (hi : P.info? el = some i) (hz : zeroOf P el = some z)
    (hzl : z.cells.length = i.size) (h0 : i.size ≠ 0) (hl : VRel φ l l') (hc : VRel φ c c') :
    ResSim P φ h w ((vv (Instr.makeSlice t l' c')).run P w) (ofO (natV l) fun l => ofO (natV c) fun c => aMkS z.cells i.bytes el l c) := by
  cases hln : natV l with
  | none => exact trivial
  | some ln =>
    cases hcn : natV c with
    | none => exact trivial
    | some cn =>
      rw [ofO_some, ofO_some]
      obtain ⟨kl, rfl⟩ := natV_spec hln hl
      obtain ⟨kc, rfl⟩ := natV_spec hcn hc
      unfold aMkS
      rw [ble_nat, ble_nat, ble_nat]
      by_cases hcond : ln ≤ cn ∧ cn ≤ most47 ∧ Nat.mul i.bytes cn ≤ most47
      · obtain ⟨h1, h2, h3⟩ := hcond
        simp only [h1, h2, h3, decide_true, Bool.and_self, cond_true]
        obtain ⟨zv, hzr, hzv⟩ := zeroOf_run hz φ w
        have hzc := hzv.cells
        have hzs : zv.cells.size = i.size := by have := hzc.length; simp at this; omega
        have hrun : (Instr.makeSlice t (.int kl ln) (.int kc cn)).run P w = .ok (.slice (some ⟨w.heap.size, 0, none⟩) ln cn) (w.alloc (.cells (reptA zv.cells (cn * zv.cells.size)) el)) := by
          unfold Instr.makeSlice
          have hwl := wrap_small (show ln ≤ most47 by omega)
          have hwc := wrap_small h2
          have hb : (i.bytes : Int) * (cn : Int) ≤ 140737488355328 := by
            have h4 : i.bytes * cn ≤ 140737488355328 := h3
            have h5 : ((i.bytes * cn : Nat) : Int) ≤ 140737488355328 := by omega
            rwa [Int.natCast_mul] at h5
          simp only [Sem.run_bind, run_underlying_some ht, Result.andThen_ok, asInt, asIntOf, Sem.run_pure, run_typeInfo_some hi, hwl, hwc]
          have a1 : ¬ ((cn : Int) < 0) := by omega
          have a2 : ¬ ((i.bytes : Int) * (cn : Int) > 2 ^ 48) := by
            have : (2 : Int) ^ 48 = 281474976710656 := rfl
            omega
          have a3 : ¬ ((ln : Int) < 0) := by omega
          have a4 : ¬ ((ln : Int) > (cn : Int)) := by omega
          rw [if_neg (by simp only [a1, a2, a3, a4, decide_false, Bool.or_self]; decide)]
          simp only [Sem.run_bind]
          simp only [run_askRoom, Result.andThen_ok, Int.toNat_natCast]
          have hso : (sizeOf el).run P w = .ok i.size w := by simp [sizeOf, run_typeInfo_some hi]
          simp only [hso, Result.andThen_ok, Sem.run_ite]
          by_cases hn0 : cn * i.size = 0
          · simp [hn0, newRow, hzs, reptA, range0]
          · simp [hn0, hzr, newRow, hzs, reptA]
        exact new_sim (ph := ⟨w.heap.size, 0, none⟩) hrun rfl (exBlk_rel (rept_rel hzc (by omega) cn)) (fun ψ n e => exSl_rel e)
      · have : (decide (ln ≤ cn) && (decide (cn ≤ most47) && decide (Nat.mul i.bytes cn ≤ most47))) = false := by
          rw [Bool.eq_false_iff]
          intro hb
          simp only [Bool.and_eq_true, decide_eq_true_eq] at hb
          exact hcond hb
        rw [this]
        exact trivial

/-! ### Building -/

theorem foldl_lay (o : Nat) : ∀ (l : List Value) (k : Nat) (c : Array Value), (l.zipIdx k).foldl (fun cs (x : Value × Nat) => cs.setIfInBounds (o + x.2) x.1) c = layA c (o + k) l
  | [], _, _ => rfl
  | v :: l, k, c => by
    simp only [List.zipIdx_cons, List.foldl_cons, layA]
    rw [foldl_lay o l (k + 1)]
    rfl
theorem zip_lay (o : Nat) (v : Array Value) (c : Array Value) : v.zipIdx.foldl (fun cs (x : Value × Nat) => cs.setIfInBounds (o + x.2) x.1) c = layA c o v.toList := by
  have := foldl_lay o v.toList 0 c
  simp only [Nat.add_zero] at this
  rw [← this, ← Array.foldl_toList]
  simp

theorem fillP_sim {env : Ev} {ρ : Operand → Value} {place : Nat → Option (Nat × Nat)} : ∀ {ps : List (Nat × Operand)} {qs : List (Nat × Nat × Opd)} {cs cs' : List V} {c : Array Value},
    cParts place ps = some qs → (∀ x, x ∈ ps.map (·.2) → ∀ X, cOpd x = some X → VRel φ (val env X) (ρ x)) → VsRel φ cs c.toList → fillP env cs qs = some cs' →
    ∃ c', Instr.fill place c (ps.map fun p => (p.1, ρ p.2)) = some c' ∧ VsRel φ cs' c'.toList
  | [], qs, cs, cs', c, hq, _, hc, e => by
    simp [cParts] at hq; subst hq
    simp [fillP] at e; subst e
    exact ⟨c, rfl, hc⟩
  | (i, x) :: ps, qs, cs, cs', c, hq, hv, hc, e => by
    unfold cParts at hq
    split at hq
    · rename_i off size X l hp hx hl
      simp at hq; subst hq
      simp only [fillP] at e
      cases hcond : (Nat.beq (val env X).cells.length size && allFlat (val env X).cells) with
      | false => rw [hcond] at e; cases e
      | true =>
        rw [hcond] at e
        simp only [cond_true] at e
        simp only [Bool.and_eq_true] at hcond
        split at e
        · rename_i cs1 hlay
          obtain ⟨h1, h2, h3⟩ := lay_spec hlay
          have hr := (hv x (by simp) X hx).cells
          have hlen := hr.length
          have hlen2 := hc.length
          simp only [Array.length_toList] at hlen hlen2
          have hs : (ρ x).cells.size = size := by have := Nat.eq_of_beq_eq_true hcond.1; omega
          have hc1 : VsRel φ cs1 (layA c off (ρ x).cells.toList).toList := by
            refine VsRel.of_get (by simp [layA_size]; omega) fun j v hj => ?_
            rw [h3 j] at hj
            have hget := layA_get (ρ x).cells.toList c off j (by simp; omega)
            simp only [Array.getElem?_toList]
            rw [hget]
            by_cases hin : off ≤ j ∧ j < off + (val env X).cells.length
            · rw [if_pos hin] at hj
              rw [if_pos (by simp; omega)]
              exact hr.get hj
            · rw [if_neg hin] at hj
              rw [if_neg (by simp; omega)]
              obtain ⟨v', g1, g2⟩ := hc.get hj
              exact ⟨v', by simpa using g1, g2⟩
          obtain ⟨c', g1, g2⟩ := fillP_sim hl (fun y hy => hv y (by simp at hy ⊢; exact .inr hy)) hc1 e
          refine ⟨c', ?_, g2⟩
          simp only [List.map_cons, Instr.fill, hp]
          rw [if_neg (by simp [hs]; omega)]
          rw [show ((ρ x).cells.zipIdx.foldl (fun cs (x : Value × Nat) => match x with | (c, j) => cs.setIfInBounds (off + j) c) c) = layA c off (ρ x).cells.toList from zip_lay off _ _]
          exact g1
        · cases e
    · cases hq

theorem placesOf_run {fs : Array Field} {l : List (Nat × Nat)} (e : placesOf P fs.toList = some l) (w : World) :
    (fs.mapM (fun f => do pure (f.offset, ← sizeOf f.type) : Field → Sem (Nat × Nat))).run P w = .ok l.toArray w := by
  have key : ∀ (fl : List Field) (l : List (Nat × Nat)), placesOf P fl = some l → (fl.mapM (fun f => do pure (f.offset, ← sizeOf f.type) : Field → Sem (Nat × Nat))).run P w = .ok l w := by
    intro fl
    induction fl with
    | nil => intro l e; simp [placesOf] at e; subst e; simp
    | cons f fl ih =>
      intro l e
      unfold placesOf at e
      split at e
      · rename_i s l' hs hl
        simp at e; subst e
        simp only [List.mapM_cons, Sem.run_bind, szOf_run hs, Result.andThen_ok, Sem.run_pure, ih _ hl]
      · cases e
  rw [Array.mapM_eq_mapM_toList]
  simp only [Sem.run_map, key fs.toList l e, Result.andThen_ok]

theorem sim_build (r : HRel φ h w) {t : TypeId} {ps : Array (Nat × Operand)} {z : V} {pl : List (Nat × Nat)} {qs : List (Nat × Nat × Opd)} {env : Ev} {ρ : Operand → Value}
    (hz : zeroOf P t = some z)
    (hpl : (∃ fs, P.underlying t = some (.struct fs) ∧ placesOf P fs.toList = some pl ∧ cParts (fun i => pl[i]?) ps.toList = some qs) ∨
      ∃ n e s, P.underlying t = some (.array n e) ∧ szOf P e = some s ∧ cParts (fun i => some (i * s, s)) ps.toList = some qs)
    (hv : ∀ x, x ∈ ps.toList.map (·.2) → ∀ X, cOpd x = some X → VRel φ (val env X) (ρ x)) :
    ResSim P φ h w ((vv (Instr.build t (ps.map fun (i, x) => (i, ρ x)))).run P w) (aBuild (fillP env z.cells qs)) := by
  obtain ⟨zv, hzr, hzv⟩ := zeroOf_run hz φ w
  cases hf : fillP env z.cells qs with
  | none => exact trivial
  | some cs =>
    have hpt : (ps.map fun x => (x.1, ρ x.2)).toList = ps.toList.map fun p => (p.1, ρ p.2) := by simp
    rcases hpl with ⟨fs, hu, hp, hq⟩ | ⟨n, e, s, hu, hs, hq⟩
    · obtain ⟨c', g1, g2⟩ := fillP_sim hq hv hzv.cells hf
      refine ok_sim r (.agg g2) ?_
      unfold Instr.build
      simp only [Sem.run_bind, hzr, Result.andThen_ok, run_underlying_some hu, placesOf_run hp]
      simp only [List.getElem?_toArray]
      rw [show (Array.map (fun x => match x with | (i, x) => (i, ρ x)) ps).toList = ps.toList.map fun p => (p.1, ρ p.2) from hpt, g1]
      rfl
    · obtain ⟨c', g1, g2⟩ := fillP_sim hq hv hzv.cells hf
      refine ok_sim r (.agg g2) ?_
      unfold Instr.build
      simp only [Sem.run_bind, hzr, Result.andThen_ok, run_underlying_some hu, szOf_run hs]
      rw [show (Array.map (fun x => match x with | (i, x) => (i, ρ x)) ps).toList = ps.toList.map fun p => (p.1, ρ p.2) from hpt, g1]
      rfl

theorem sim_buildS {t el : TypeId} {n s : Nat} {ps : Array (Nat × Operand)} {z : V} {qs : List (Nat × Nat × Opd)} {env : Ev} {ρ : Operand → Value}
    (ht : P.underlying t = some (.slice el)) (hs : szOf P el = some s) (h0 : s ≠ 0) (hn : n * s ≤ 16777216) (hz : zeroOf P el = some z) (hzl : z.cells.length = s)
    (hq : cParts (fun i => some (i * s, s)) ps.toList = some qs) (hv : ∀ x, x ∈ ps.toList.map (·.2) → ∀ X, cOpd x = some X → VRel φ (val env X) (ρ x)) :
    ResSim P φ h w ((vv (Instr.buildSlice t n (ps.map fun (i, x) => (i, ρ x)))).run P w) (aBuildS (fillP env (rept z.cells n) qs) n el) := by
  obtain ⟨zv, hzr, hzv⟩ := zeroOf_run hz φ w
  have hzc := hzv.cells
  have hzs : zv.cells.size = s := by have := hzc.length; simp at this; omega
  cases hf : fillP env (rept z.cells n) qs with
  | none => exact trivial
  | some cs =>
    have hpt : (ps.map fun x => (x.1, ρ x.2)).toList = ps.toList.map fun p => (p.1, ρ p.2) := by simp
    obtain ⟨c', g1, g2⟩ := fillP_sim hq hv (rept_rel hzc (by omega) n) hf
    refine new_sim (v' := .slice (some ⟨w.heap.size, 0, none⟩) n n) (o := .cells c' el) (ph := ⟨w.heap.size, 0, none⟩) ?_ rfl (exBlk_rel g2) (fun ψ n e => exSl_rel e)
    have g1' : Instr.fill (fun i => some (i * s, s)) ((Array.range (n * s)).map (fun i => zv.cells[i % zv.cells.size]!)) (ps.toList.map fun p => (p.1, ρ p.2)) = some c' := by
      rw [← g1]; unfold reptA; rw [hzs]
    unfold Instr.buildSlice
    have hlim : ¬ (n * s > 2 ^ 24) := by
      have : (2 : Nat) ^ 24 = 16777216 := rfl
      omega
    simp only [Sem.run_bind, run_underlying_some ht, Result.andThen_ok, szOf_run hs]
    rw [if_neg hlim]
    by_cases hn0 : n * s = 0
    · have g2' : Instr.fill (fun i => some (i * s, s)) ((Array.range (n * s)).map (fun i => (#[] : Array Value)[i % (#[] : Array Value).size]!)) (ps.toList.map fun p => (p.1, ρ p.2)) = some c' := by
        rw [hn0] at g1' ⊢; rw [range0] at g1' ⊢; exact g1'
      simp only [hn0, if_true, Sem.run_bind, Sem.run_pure, Result.andThen_ok]
      rw [hn0] at g2'
      rw [show (Array.map (fun x => match x with | (i, x) => (i, ρ x)) ps).toList = ps.toList.map fun p => (p.1, ρ p.2) from hpt, g2']
      simp [newRow]
    · simp only [hn0, if_false, Sem.run_bind, Sem.run_pure, Result.andThen_ok, hzr]
      rw [show (Array.map (fun x => match x with | (i, x) => (i, ρ x)) ps).toList = ps.toList.map fun p => (p.1, ρ p.2) from hpt, g1']
      simp [newRow]

end
end Go.AM

/- What each operation does, abstractly and in the model: slices, addresses, elements. -/
namespace Go.AM

section
variable {P : Program} {φ : Phi} {h : Hp} {w : World}

/-! ### Bounds -/

theorem leN_spec {m : Nat} {x : Option Nat} {n : Nat} (e : leN m x = some n) : x = some n ∧ n ≤ m := by
  unfold leN at e
  split at e
  · rename_i k
    rw [ble_nat] at e
    by_cases hk : k ≤ m
    · simp [hk] at e; subst e; exact ⟨rfl, hk⟩
    · simp [hk] at e
  · cases e
theorem run_bound {v : V} {v' : Value} {n y : Nat} (code : BoundsCode) (hv : VRel φ v v') (e : natV v = some n) (hle : n ≤ y) : (Instr.sliceBound v' y code).run P w = .ok n w := by
  obtain ⟨k, rfl⟩ := natV_spec e hv
  have : (0 : Int) ≤ (n : Int) ∧ (n : Int) ≤ (y : Int) := by omega
  simp [Instr.sliceBound, asIntOf, this]

/-- An optional operand. -/
def ORel (φ : Phi) (env : Ev) : Option Opd → Option Value → Prop
  | none, none => True
  | some x, some v => VRel φ (val env x) v
  | _, _ => False

theorem bounds_run {env : Ev} {lo hi mx : Option Opd} {lo' hi' mx' : Option Value} {len cap cap' : Nat} {l g m : Nat} (b : Bool)
    (hlo : ORel φ env lo lo') (hhi : ORel φ env hi hi') (hmx : ORel φ env mx mx') (hcap : cap ≤ cap') (e : sliceBnd env len cap lo hi mx = some (l, g, m)) :
    ∃ m', (Instr.sliceBounds b len cap' lo' hi' mx').run P w = .ok (l, g, m') w ∧ l ≤ g ∧ g ≤ m ∧ m ≤ cap ∧ m ≤ m' ∧ m' ≤ cap' ∧ (cap' = cap → m' = m) ∧ (m' ≠ m → m = cap ∧ m' = cap') := by
  unfold sliceBnd at e
  split at e
  · cases e
  · rename_i m0 hm0
    split at e
    · cases e
    · rename_i g0 hg0
      split at e
      · cases e
      · rename_i l0 hl0
        simp at e
        obtain ⟨rfl, rfl, rfl⟩ := e
        -- max
        have hm : ∃ m', (match mx' with | some v => Instr.sliceBound v cap' (if b then .slice3Acap else .slice3Alen) | none => pure cap').run P w = .ok m' w ∧ m0 ≤ m' ∧ m' ≤ cap' ∧ m0 ≤ cap ∧
            (cap' = cap → m' = m0) ∧ (mx = none → m0 = cap ∧ m' = cap') ∧ (mx ≠ none → m' = m0) := by
          cases mx with
          | none =>
            cases mx' with
            | none =>
              simp [optNat] at hm0; subst hm0
              exact ⟨cap', rfl, hcap, Nat.le_refl _, Nat.le_refl _, id, fun _ => ⟨rfl, rfl⟩, fun x => absurd rfl x⟩
            | some v => exact hmx.elim
          | some x =>
            cases mx' with
            | none => exact hmx.elim
            | some v =>
              simp only [optNat] at hm0
              obtain ⟨h1, h2⟩ := leN_spec hm0
              exact ⟨m0, run_bound _ hmx h1 (by omega), Nat.le_refl _, by omega, h2, fun _ => rfl, fun x => (by cases x), fun _ => rfl⟩
        obtain ⟨m', r1, a1, a2, a3, a4, a5, a6⟩ := hm
        have hh : (match hi', mx' with
            | some v, some _ => Instr.sliceBound v m' .slice3B
            | some v, none => Instr.sliceBound v m' (if b then .sliceAcap else .sliceAlen)
            | none, none => pure len
            | none, some _ => stuck "Slice: max without high").run P w = .ok g0 w ∧ g0 ≤ m0 := by
          unfold sliceHi at hg0
          cases hi with
          | none =>
            cases hi' with
            | some v => exact hhi.elim
            | none =>
              simp only at hg0
              cases mx with
              | none =>
                cases mx' with
                | some v => exact hmx.elim
                | none =>
                  obtain ⟨h1, h2⟩ := leN_spec hg0
                  simp at h1; subst h1
                  exact ⟨rfl, h2⟩
              | some x => simp at hg0
          | some x =>
            cases hi' with
            | none => exact hhi.elim
            | some v =>
              simp only at hg0
              obtain ⟨h1, h2⟩ := leN_spec hg0
              refine ⟨?_, h2⟩
              cases mx' with
              | none => exact run_bound _ hhi h1 (by omega)
              | some u => exact run_bound _ hhi h1 (by omega)
        have hl : (match lo' with | some v => Instr.sliceBound v g0 (if mx'.isSome then .slice3C else .sliceB) | none => pure 0).run P w = .ok l0 w ∧ l0 ≤ g0 := by
          cases lo with
          | none =>
            cases lo' with
            | some v => exact hlo.elim
            | none => simp [optNat] at hl0; subst hl0; exact ⟨rfl, Nat.zero_le _⟩
          | some x =>
            cases lo' with
            | none => exact hlo.elim
            | some v =>
              simp only [optNat] at hl0
              obtain ⟨h1, h2⟩ := leN_spec hl0
              exact ⟨run_bound _ hlo h1 h2, h2⟩
        refine ⟨m', ?_, hl.2, hh.2, a3, a1, a2, a4, fun x => ?_⟩
        · obtain ⟨hh, _⟩ := hh
          obtain ⟨hl, _⟩ := hl
          clear hlo hhi hmx hm0 hg0 hl0 a5 a6
          unfold Instr.sliceBounds
          cases mx' <;> cases hi' <;> cases lo' <;> simp_all
        · by_cases hmxn : mx = none
          · exact a5 hmxn
          · exact absurd (a6 hmxn) x

theorem sim_slS (r : HRel φ h w) {t : TypeId} {env : Ev} {lo hi : Option Opd} {lo' hi' : Option Value} {x : V} {x' : Value} (ht : P.underlying t = some .string)
    (hlo : ORel φ env lo lo') (hhi : ORel φ env hi hi') (hx : VRel φ x x') : ResSim P φ h w ((vv (Instr.sliceAt t x' lo' hi' none)).run P w) (aSlS env lo hi x) := by
  cases hx with
  | s hl =>
    rename_i l s
    simp only [aSlS]
    cases e : sliceBnd env l.length l.length lo hi none with
    | none => exact trivial
    | some q =>
      obtain ⟨a, b, m⟩ := q
      have hsz : s.size = l.length := by rw [← hl]; exact Lib.size_eq s
      obtain ⟨m', h1, h2, h3, h4, _⟩ := bounds_run (P := P) (φ := φ) (w := w) (mx := none) (mx' := none) false hlo hhi trivial (Nat.le_refl _) e
      refine ok_sim r (v' := .string (s.extract a b)) (.s (by rw [Lib.extract_data, hl])) ?_
      unfold Instr.sliceAt
      simp only [Sem.run_bind, run_underlying_some ht, Result.andThen_ok]
      unfold Instr.slice
      simp only [Sem.run_bind, run_underlying_some ht, Result.andThen_ok, Option.isSome_none, Bool.false_eq_true, if_false]
      rw [hsz, h1]
      rfl
  | _ => exact trivial

theorem szGood_gr (r : HRel φ h w) {a : Ad} {ph : Ph} {size : Nat} (hp : φ a.b = some ph) {sz n : Nat} (hg : ph.gr = some (sz, n)) (hgr : isGr a.b = true) (e : szGood h.rd a size = true) : size = sz := by
  unfold szGood at e
  split at e
  · rename_i k hb
    unfold grOk at e
    split at e
    · rename_i cs el fz st ro gz hrd
      obtain ⟨c, fr, _, _, hs, _⟩ := r.cells hp hrd
      rw [hg] at hs
      have := Nat.eq_of_beq_eq_true e
      have := hs.2.2.2
      omega
    · cases e
  · rename_i hne
    cases hb : a.b with
    | gr k => exact absurd hb (hne k)
    | old k => rw [hb] at hgr; cases hgr
    | ex k => rw [hb] at hgr; cases hgr

theorem movA_b (a : Ad) (l m size : Nat) : (movA a l m size).b = a.b := by
  unfold movA
  split
  · rfl
  · cases Nat.beq m l <;> rfl

theorem movA_no {a : Ad} (hg : notGr a.b = true) (l m size : Nat) : movA a l m size = if m = l then a else ⟨a.b, a.o + l * size⟩ := by
  unfold movA
  split
  · rename_i k hk; rw [hk] at hg; cases hg
  · rw [beq_nat]; by_cases hml : m = l <;> simp [hml]

theorem sim_slV (r : HRel φ h w) {t el : TypeId} {env : Ev} {size : Nat} {lo hi mx : Option Opd} {lo' hi' mx' : Option Value} {x : V} {x' : Value} (ht : P.underlying t = some (.slice el)) (hs : szOf P el = some size)
    (hlo : ORel φ env lo lo') (hhi : ORel φ env hi hi') (hmx : ORel φ env mx mx') (hx : VRel φ x x') : ResSim P φ h w ((vv (Instr.sliceAt t x' lo' hi' mx')).run P w) (aSlV h.rd env size lo hi mx x) := by
  have hrun : ∀ (a' : Option Addr) (len cap' l g m' : Nat), (Instr.sliceBounds true len cap' lo' hi' mx').run P w = .ok (l, g, m') w →
      (Instr.sliceAt t (.slice a' len cap') lo' hi' mx').run P w = .ok (.slice (if m' = l then a' else a'.map (·.add (l * size))) (g - l) (m' - l)) w := fun a' len cap' l g m' hb => by
    unfold Instr.sliceAt
    simp only [Sem.run_bind, run_underlying_some ht, Result.andThen_ok]
    unfold Instr.slice
    simp only [Sem.run_bind, run_underlying_some ht, Result.andThen_ok, hb, szOf_run hs, Sem.run_pure]
  cases hx with
  | sl0 len cap =>
    simp only [aSlV, goodO, cond_true]
    cases e : sliceBnd env len cap lo hi mx with
    | none => exact trivial
    | some q =>
      obtain ⟨l, g, m⟩ := q
      obtain ⟨m', h1, h2, h3, h4, h5, h6, h7, _⟩ := bounds_run (P := P) (φ := φ) (w := w) true hlo hhi hmx (Nat.le_refl _) e
      obtain rfl := h7 rfl
      exact ok_sim r (.sl0 _ _) ((hrun none len cap l g m' h1).trans (by simp))
  | sl hsl =>
    rename_i a len cap a' cap'
    simp only [aSlV, goodO]
    cases hg : szGood h.rd a size with
    | false => exact trivial
    | true =>
      simp only [cond_true]
      cases e : sliceBnd env len cap lo hi mx with
      | none => exact trivial
      | some q =>
        obtain ⟨l, g, m⟩ := q
        obtain ⟨ph, hp, hgr, hrel⟩ := hsl
        have hcap : cap ≤ cap' := by
          cases hph : ph.gr with
          | none => rw [hph] at hrel; exact Nat.le_of_eq hrel.2.symm
          | some q => obtain ⟨sz, n⟩ := q; rw [hph] at hrel; exact hrel.1
        obtain ⟨m', h1, h2, h3, h4, h5, h6, h7, h8⟩ := bounds_run (P := P) (φ := φ) (w := w) true hlo hhi hmx hcap e
        refine ok_sim r (v' := .slice (some (if m' = l then a' else a'.add (l * size))) (g - l) (m' - l)) (.sl ⟨ph, ?_, ?_, ?_⟩) ((hrun (some a') len cap' l g m' h1).trans (by split <;> simp))
        · rw [movA_b]; exact hp
        · rw [movA_b]; exact hgr
        · cases hph : ph.gr with
          | none =>
            rw [hph] at hrel
            obtain ⟨rfl, hc⟩ := hrel
            obtain rfl := h7 hc
            have hno : ∀ k, a.b ≠ .gr k := fun k hk => by rw [hph, hk] at hgr; cases hgr
            refine ⟨?_, rfl⟩
            have hng : notGr a.b = true := by
              cases hb : a.b with
              | gr k => exact absurd hb (hno k)
              | old k => rfl
              | ex k => rfl
            rw [movA_no hng]
            by_cases hml : m' = l
            · simp [hml]
            · simp only [hml, if_false]
              rw [Addr.add_mk]
              show (⟨ph.blk, ph.sh + a.o + l * size, none⟩ : Addr) = ⟨ph.blk, ph.sh + (a.o + l * size), none⟩
              rw [Nat.add_assoc]
          | some q =>
            obtain ⟨sz, n⟩ := q
            have hisg : isGr a.b = true := by rw [hph] at hgr; exact hgr.symm
            have hsz := szGood_gr r hp hph hisg hg
            subst hsz
            rw [hph] at hrel
            obtain ⟨c1, c2, c3, c4⟩ := hrel
            have hmov : movA a l m size = ⟨a.b, a.o + l * size⟩ := by
              unfold movA
              cases hb : a.b with
              | gr k => rfl
              | old k => rw [hb] at hisg; cases hisg
              | ex k => rw [hb] at hisg; cases hisg
            rw [hmov]
            refine ⟨by show m - l ≤ m' - l; omega, ?_, ?_, ?_⟩
            · by_cases hml : m' = l
              · simp [hml, c2]
              · simp only [hml, if_false]
                obtain ⟨b', o', s'⟩ := a'
                simp only at c2 c3
                subst c3
                rw [Addr.add_mk]; exact c2
            · by_cases hml : m' = l
              · simp [hml, c3]
              · simp only [hml, if_false]
                obtain ⟨b', o', s'⟩ := a'
                simp only at c2 c3
                subst c3
                rw [Addr.add_mk]
            · by_cases hml : m' = l
              · exact .inl ⟨by show g - l = 0; omega, by show m' - l = 0; omega⟩
              · rcases c4 with c4 | c4
                · omega
                · right
                  simp only [hml, if_false]
                  obtain ⟨b', o', s'⟩ := a'
                  simp only at c2 c3 c4
                  subst c3
                  rw [Addr.add_mk]
                  refine ⟨by show o' + l * size = ph.sh + (a.o + l * size); omega, ?_⟩
                  show a.o + l * size + (m' - l) * size ≤ n
                  have e1 : l * size + (m' - l) * size = m' * size := by
                    rw [← Nat.add_mul]; congr 1; omega
                  have e2 : m' * size ≤ cap' * size := Nat.mul_le_mul_right _ h6
                  omega
  | _ => exact trivial

theorem sim_slA (r : HRel φ h w) {t el : TypeId} {env : Ev} {n size : Nat} {lo hi mx : Option Opd} {lo' hi' mx' : Option Value} {x : V} {x' : Value}
    (ht : P.underlying t = some (.array n el)) (hs : szOf P el = some size)
    (hlo : ORel φ env lo lo') (hhi : ORel φ env hi hi') (hmx : ORel φ env mx mx') (hx : VRel φ x x') : ResSim P φ h w ((vv (Instr.sliceAt t x' lo' hi' mx')).run P w) (aSlA env n size lo hi mx x) := by
  cases hx with
  | p hp =>
    rename_i a a'
    simp only [aSlA]
    cases hg : notGr a.b with
    | false => exact trivial
    | true =>
      simp only [cond_true]
      cases e : sliceBnd env n n lo hi mx with
      | none => exact trivial
      | some q =>
        obtain ⟨l, g, m⟩ := q
        obtain ⟨m', h1, h2, h3, h4, h5, h6, h7, h8⟩ := bounds_run (P := P) (φ := φ) (w := w) false hlo hhi hmx (Nat.le_refl _) e
        obtain rfl := h7 rfl
        obtain ⟨ph, hph, rfl⟩ := hp
        have hgr : ph.gr = none := by
          have := r.grk _ _ hph
          cases hq : ph.gr with
          | none => rfl
          | some q =>
            rw [hq] at this
            cases hb : a.b with
            | gr k => rw [hb] at hg; cases hg
            | old k => rw [hb] at this; cases this
            | ex k => rw [hb] at this; cases this
        have hrun : (Instr.sliceAt t (.pointer (some ⟨ph.blk, ph.sh + a.o, none⟩)) lo' hi' mx').run P w
            = .ok (.slice (some (if m' = l then ⟨ph.blk, ph.sh + a.o, none⟩ else (⟨ph.blk, ph.sh + a.o, none⟩ : Addr).add (l * size))) (g - l) (m' - l)) w := by
          unfold Instr.sliceAt
          simp only [Sem.run_bind, run_underlying_some ht, Result.andThen_ok, Instr.sureAddr, Sem.run_pure, h1, szOf_run hs]
        refine ok_sim r (.sl ⟨ph, by rw [movA_b]; exact hph, by rw [movA_b]; exact r.grk _ _ hph, ?_⟩) hrun
        rw [hgr]
        refine ⟨?_, rfl⟩
        rw [movA_no hg]
        by_cases hml : m' = l
        · simp [hml]
        · simp only [hml, if_false]
          rw [Addr.add_mk]
          show (⟨ph.blk, ph.sh + a.o + l * size, none⟩ : Addr) = ⟨ph.blk, ph.sh + (a.o + l * size), none⟩
          rw [Nat.add_assoc]
  | _ => exact trivial

end
end Go.AM

/- What each operation does, abstractly and in the model: parts, elements, type assertions. -/
namespace Go.AM

section
variable {P : Program} {φ : Phi} {h : Hp} {w : World}

theorem blt_nat' (a b : Nat) : Nat.blt a b = decide (a < b) := blt_nat a b

theorem ofO_res {α : Type} {x : Option α} {f : α → Res} {r : Result Next} (hx : ∀ v, x = some v → ResSim P φ h w r (f v)) : ResSim P φ h w r (ofO x f) := by
  cases x with
  | none => exact trivial
  | some v => exact hx v rfl
theorem bif_res {b : Bool} {x : Res} {r : Result Next} (hx : b = true → ResSim P φ h w r x) : ResSim P φ h w r (bif b then x else .fail) := by
  cases b with
  | false => exact trivial
  | true => exact hx rfl

theorem sim_fa (r : HRel φ h w) {t : TypeId} {fs : Array Field} {i n : Nat} {f : Field} {x : V} {x' : Value} (ht : P.underlying t = some (.struct fs)) (hf : fs[i]? = some f) (hs : szOf P f.type = some (n + 1))
    (hx : VRel φ x x') : ResSim P φ h w ((vv (Instr.fieldAt t x' i)).run P w) (aFa f.offset x) := by
  cases hx with
  | p hp =>
    rename_i a a'
    obtain ⟨ph, hph, rfl⟩ := hp
    refine ok_sim r (v' := .pointer (some ⟨ph.blk, ph.sh + a.o + f.offset, none⟩)) (.p ⟨ph, hph, by simp [Nat.add_assoc]⟩) ?_
    have hn : ¬ (n + 1 = 0) := by omega
    simp only [Instr.fieldAt, Sem.run_bind, run_underlying_some ht, Result.andThen_ok, hf, Instr.sureAddr, Sem.run_pure, fieldPlace, szOf_run hs, if_neg hn, Addr.add_mk]
  | _ => exact trivial

theorem sim_fld (r : HRel φ h w) {t : TypeId} {fs : Array Field} {i : Nat} {n : Option Nat} {f : Field} {x : V} {x' : Value} (ht : P.underlying t = some (.struct fs)) (hf : fs[i]? = some f)
    (hn : aggN P f.type = some n) (hx : VRel φ x x') : ResSim P φ h w ((vv (Instr.field t x' i)).run P w) (aFld f.offset n x) := by
  cases hx with
  | agg hc =>
    refine okO_sim r fun v e => ?_
    obtain ⟨v', h1, h2⟩ := partV_sim (P := P) (w := w) hn hc e
    exact ⟨v', h1, by simp only [Instr.field, Sem.run_bind, run_underlying_some ht, Result.andThen_ok, hf, asAgg, Sem.run_pure, h2]⟩
  | _ => exact trivial

theorem ix_ok {j n : Nat} (hj : j < n) : (0 : Int) ≤ (j : Int) ∧ (j : Int) < (n : Int) := by omega

theorem sim_iaV (r : HRel φ h w) {t el : TypeId} {size : Nat} {x ix : V} {x' ix' : Value} (ht : P.underlying t = some (.slice el)) (hs : szOf P el = some size) (hx : VRel φ x x') (hi : VRel φ ix ix') :
    ResSim P φ h w ((vv (Instr.indexAt t x' ix')).run P w) (aIaV size x ix) := by
  cases hx with
  | sl hsl =>
    rename_i a len cap a' cap'
    refine ofO_res fun j hj => bif_res fun hb => ?_
    have hjl : j < len := by rw [blt_nat] at hb; simpa using hb
    obtain ⟨k, rfl⟩ := natV_spec hj hi
    obtain ⟨ph, hph, rfl⟩ := hsl.ptr (by omega)
    refine ok_sim r (v' := .pointer (some ⟨ph.blk, ph.sh + a.o + j * size, none⟩)) (.p ⟨ph, hph, by simp [Nat.add_assoc]⟩) ?_
    have hc := ix_ok hjl
    simp only [Instr.indexAt, asIntOf, Sem.run_bind, Sem.run_pure, run_underlying_some ht, Result.andThen_ok, if_pos hc, szOf_run hs, Addr.add_mk, Int.toNat_natCast]
  | _ => exact trivial

theorem sim_iaA (r : HRel φ h w) {t el : TypeId} {size len : Nat} {x ix : V} {x' ix' : Value} (ht : P.underlying t = some (.array len el)) (hs : szOf P el = some size) (hx : VRel φ x x') (hi : VRel φ ix ix') :
    ResSim P φ h w ((vv (Instr.indexAt t x' ix')).run P w) (aIaA len size x ix) := by
  cases hx with
  | p hp =>
    rename_i a a'
    obtain ⟨ph, hph, rfl⟩ := hp
    refine ofO_res fun j hj => bif_res fun hb => ?_
    have hjl : j < len := by rw [blt_nat] at hb; simpa using hb
    obtain ⟨k, rfl⟩ := natV_spec hj hi
    refine ok_sim r (v' := .pointer (some ⟨ph.blk, ph.sh + a.o + j * size, none⟩)) (.p ⟨ph, hph, by simp [Nat.add_assoc]⟩) ?_
    have hc := ix_ok hjl
    simp only [Instr.indexAt, asIntOf, Sem.run_bind, Sem.run_pure, run_underlying_some ht, Result.andThen_ok, Instr.sureAddr, if_pos hc, szOf_run hs, Addr.add_mk, Int.toNat_natCast]
  | _ => exact trivial

theorem nthB_spec : ∀ {l : List UInt8} {n : Nat} {b : UInt8}, nthB l n = some b → l[n]? = some b
  | [], _, _, e => by simp [nthB] at e
  | _ :: _, 0, _, e => by simpa [nthB] using e
  | _ :: l, n + 1, _, e => by simpa [nthB] using nthB_spec (l := l) (n := n) e
theorem nthO_spec : ∀ {l : List V} {n : Nat} {b : V}, nthO l n = some b → l[n]? = some b
  | [], _, _, e => by simp [nthO] at e
  | _ :: _, 0, _, e => by simpa [nthO] using e
  | _ :: l, n + 1, _, e => by simpa [nthO] using nthO_spec (l := l) (n := n) e

theorem sim_ixS (r : HRel φ h w) {t : TypeId} {x ix : V} {x' ix' : Value} (ht : P.underlying t = some .string) (hx : VRel φ x x') (hi : VRel φ ix ix') :
    ResSim P φ h w ((vv (Instr.index t x' ix')).run P w) (aIxS x ix) := by
  cases hx with
  | s hl =>
    rename_i l s
    refine ofO_res fun j hj => ofO_res fun b hb => ?_
    obtain ⟨k, rfl⟩ := natV_spec hj hi
    have h0 : (0 : Int) ≤ (j : Int) := by omega
    have hg : s[j]? = some b := by
      have := nthB_spec hb
      rw [← hl] at this
      have h2 : s.data[j]? = some b := by simpa using this
      obtain ⟨h3, h4⟩ := Array.getElem?_eq_some_iff.1 h2
      have h5 : j < s.size := h3
      rw [getElem?_pos s j h5]
      exact congrArg some h4
    refine ok_sim r (v' := .int .u8 b.toNat) (.i _ _) ?_
    simp only [Instr.index, asIntOf, Sem.run_bind, Sem.run_pure, run_underlying_some ht, Result.andThen_ok, if_pos h0, Int.toNat_natCast, hg]
  | _ => exact trivial

theorem sim_ixA (r : HRel φ h w) {t el : TypeId} {size len : Nat} {n : Option Nat} {x ix : V} {x' ix' : Value} (ht : P.underlying t = some (.array len el)) (hs : szOf P el = some size) (hn : aggN P el = some n)
    (hx : VRel φ x x') (hi : VRel φ ix ix') : ResSim P φ h w ((vv (Instr.index t x' ix')).run P w) (aIxA len size n x ix) := by
  cases hx with
  | agg hc =>
    refine ofO_res fun j hj => bif_res fun hb => ?_
    have hjl : j < len := by rw [blt_nat] at hb; simpa using hb
    obtain ⟨k, rfl⟩ := natV_spec hj hi
    refine okO_sim r fun v e => ?_
    obtain ⟨v', h1, h2⟩ := partV_sim (P := P) (w := w) hn hc e
    have hcc := ix_ok hjl
    refine ⟨v', h1, ?_⟩
    simp only [Instr.index, asIntOf, Sem.run_bind, Sem.run_pure, run_underlying_some ht, Result.andThen_ok, if_pos hcc, szOf_run hs, Int.toNat_natCast]
    exact h2
  | _ => exact trivial

theorem sim_ext (r : HRel φ h w) {x : V} {x' : Value} {n : Nat} (hx : VRel φ x x') : ResSim P φ h w ((vv (Instr.extract x' n)).run P w) (aExt x n) := by
  cases hx with
  | tup hc =>
    refine okO_sim r fun v e => ?_
    obtain ⟨v', h1, h2⟩ := hc.get (nthO_spec e)
    refine ⟨v', h2, ?_⟩
    simp at h1
    simp [Instr.extract, h1]
  | _ => exact trivial

/-! ### Type assertions -/

theorem okTup_rel {v : V} {v' : Value} (ok there : Bool) (hv : VRel φ v v') : VRel φ (okTup ok v there) (if ok then .tuple #[v', .bool there] else v') := by
  cases ok with
  | false => exact hv
  | true => exact .tup (.cons hv (.cons (.b _) .nil))

theorem hasAll_iff {want : Array (String × TypeId)} {got : Array Method} : hasAll want got = true ↔ lacking want got = [] := by
  unfold hasAll lacking
  rw [List.map_eq_nil_iff, List.filter_eq_nil_iff, List.all_eq_true]
  refine forall_congr' fun x => forall_congr' fun _ => ?_
  obtain ⟨n, s⟩ := x
  simp

theorem oks_spec {want : Array (String × TypeId)} {t : TypeId} (e : memN t (oks P want) = true) : ∃ i, P.info? t = some i ∧ Instr.missingMethod want i.methods = none := by
  have hm : t ∈ oks P want := by rw [memN_eq] at e; simpa using e
  unfold oks at hm
  rw [List.mem_filter] at hm
  obtain ⟨_, h2⟩ := hm
  cases hi : P.info? t with
  | none => rw [hi] at h2; simp at h2
  | some i =>
    rw [hi] at h2
    exact ⟨i, rfl, missingMethod_none (hasAll_iff.1 h2)⟩

theorem oks_no {want : Array (String × TypeId)} {t : TypeId} (hlt : t < P.types.size) (e : memN t (oks P want) = false) : ∃ i, P.info? t = some i ∧ Instr.missingMethod want i.methods ≠ none := by
  have hm : t ∉ oks P want := by rw [memN_eq] at e; simpa using e
  have hi : P.info? t = some P.types[t] := by simp [Tables.info?, hlt]
  refine ⟨_, hi, fun hn => hm ?_⟩
  unfold oks
  rw [List.mem_filter]
  refine ⟨List.mem_range.2 hlt, ?_⟩
  rw [hi]
  refine hasAll_iff.2 ?_
  cases hl : lacking want P.types[t].methods with
  | nil => rfl
  | cons x l =>
    obtain ⟨m, hm⟩ := missingMethod_some (want := want) (got := P.types[t].methods) (by rw [hl]; simp)
    rw [hm] at hn; cases hn

theorem sim_tasI (r : HRel φ h w) {t u : TypeId} {want : Array (String × TypeId)} {z : V} {ok : Bool} {x : V} {x' : Value} (ht : P.underlying t = some (.interface want)) (hz : zeroOf P t = some z) (hx : VRel φ x x') :
    ResSim P φ h w ((vv (Instr.typeAssert x' u t ok)).run P w) (aTasI (oks P want) P.types.size z ok x) := by
  obtain ⟨zv, hzv, hzr⟩ := zeroOf_run hz φ w
  unfold Instr.typeAssert
  cases hx with
  | ni =>
    cases ok with
    | false => exact trivial
    | true => exact ok_sim r (v' := .tuple #[zv, .bool false]) (.tup (.cons hzr (.cons (.b _) .nil))) (by simp [run_underlying_some ht, hzv])
  | ifc s hv =>
    rename_i v v'
    simp only [aTasI]
    cases hm : memN s (oks P want) with
    | false =>
      simp only [cond_false]
      refine bif_res fun hlt => ?_
      have hlt' : s < P.types.size := by rw [blt_nat] at hlt; simpa using hlt
      obtain ⟨i, hi, hms⟩ := oks_no hlt' hm
      cases ok with
      | false => exact trivial
      | true =>
        refine ok_sim r (v' := .tuple #[zv, .bool false]) (.tup (.cons hzr (.cons (.b _) .nil))) ?_
        cases hw : Instr.missingMethod want i.methods with
        | none => exact absurd hw hms
        | some m => simp [run_underlying_some ht, run_typeInfo_some hi, hw, hzv]
    | true =>
      obtain ⟨i, h1, h2⟩ := oks_spec hm
      refine ok_sim r (okTup_rel ok true (.ifc s hv)) ?_
      simp [run_underlying_some ht, run_typeInfo_some h1, h2]
  | _ => exact trivial

theorem sim_tasC (r : HRel φ h w) {t u : TypeId} {d : TypeDesc} {z : V} {ok : Bool} {x : V} {x' : Value} (ht : P.underlying t = some d) (hd : ∀ ms, d ≠ .interface ms) (hz : zeroOf P t = some z) (hx : VRel φ x x') :
    ResSim P φ h w ((vv (Instr.typeAssert x' u t ok)).run P w) (aTasC t z ok x) := by
  obtain ⟨zv, hzv, hzr⟩ := zeroOf_run hz φ w
  unfold Instr.typeAssert
  cases hx with
  | ni =>
    cases ok with
    | false => exact trivial
    | true =>
      refine ok_sim r (v' := .tuple #[zv, .bool false]) (.tup (.cons hzr (.cons (.b _) .nil))) ?_
      cases d <;> first | exact absurd rfl (hd _) | simp [run_underlying_some ht, hzv]
  | ifc s hv =>
    rename_i v v'
    simp only [aTasC, beq_nat]
    by_cases hst : s = t
    · subst hst
      simp only [decide_true, cond_true]
      refine ok_sim r (okTup_rel ok true hv) ?_
      cases d <;> first | exact absurd rfl (hd _) | simp [run_underlying_some ht]
    · simp only [hst, decide_false, cond_false]
      cases ok with
      | false => exact trivial
      | true =>
        refine ok_sim r (v' := .tuple #[zv, .bool false]) (.tup (.cons hzr (.cons (.b _) .nil))) ?_
        cases d <;> first | exact absurd rfl (hd _) | simp [run_underlying_some ht, hzv, hst]
  | _ => exact trivial

end
end Go.AM
