/- The abstract machine's code as a predicate transformer, and that the model's code follows it. -/
import Derived.Test.YtonckhnoealepaaGreatDoorAm5
import Derived.Defers
import Derived.Test.YtonckhnoealepaaGreatDoorAm1
import Derived.Orders
namespace Go.AM

def awFl (no : Nat) (dst : Option Nat) (K : AS → Prop) (s : AS) : Res → Prop
  | .ok v .no => K (s.to dst v s.h)
  | .mk g v blk => s.h.rd (gId g no) = none ∧ K (s.to dst (v no) (s.h.set (gId g no) (some blk)))
  | _ => False
def awDI (ch : Hd) (base : Nat) (K : AS → Prop) (s : AS) : DI → Prop
  | .fl o mk => if wants s.env o.grd = true then awFl (base + mk) o.dst K s (aop s.h.rd s.env o.op) else K (s.to o.dst (.tup []) s.h)
  | .an o re => awOp ch o (fun s => (∀ x ∈ re, wants s.env x.grd = true → ∃ d, x.dst = some d ∧ aop s.h.rd s.env x.op = .ok (s.env d) .no) ∧ K s) s
def awDs (ch : Hd) (base : Nat) : List DI → (AS → Prop) → AS → Prop
  | [], K, s => K s
  | i :: l, K, s => awDI ch base (awDs ch base l K) s i

def thenE (X : AS → Prop) (Q : Ex → AS → Prop) : Ex → AS → Prop
  | .norm, s => X s
  | e, s => Q e s
def blkE (id : Nat) (Q : Ex → AS → Prop) : Ex → AS → Prop
  | .exit k, s => if k = id then Q .norm s else Q (.exit k) s
  | e, s => Q e s

def awC (ch : Hd) : C → (Ex → AS → Prop) → AS → Prop
  | .skip, Q, s => Q .norm s
  | .reg ops, Q, s => awOps ch ops (Q .norm) s
  | .dreg alts makes, Q, s => ∀ l ∈ alts, awDs ch s.h.next l (Q .norm) ⟨s.env, s.defs, ⟨s.h.rd, s.h.next + makes⟩⟩
  | .seq a b, Q, s => awC ch a (thenE (awC ch b Q) Q) s
  | .cond c x y, Q, s => match val s.env c with
    | .b true => awC ch x Q s
    | .b false => awC ch y Q s
    | _ => False
  | .block id x, Q, s => awC ch x (blkE id Q) s
  | .loop x, Q, s => ∀ X : AS → Prop, (∀ s, awC ch x (thenE X Q) s → X s) → X s
  | .exit id, Q, s => Q (.exit id) s
  | .ret, Q, s => Q .ret s

section
variable {P : Program} {φ0 : Phi} {h0 : Hp} {w0 : World} {N : Nat}

def QC (R : AS → Act → World → Prop) (Q : Ex → AS → Prop) : Exit → Act → World → Prop
  | .normal, a, w => ∃ s, Q .norm s ∧ R s a w
  | .exit id, a, w => ∃ s, Q (.exit id) s ∧ R s a w
  | .ret, a, w => ∃ s, Q .ret s ∧ R s a w
  | _, _, _ => False

theorem sim_wpOp {ch : Hd} (hch : SoundH P ch) {ptrs : List TypeId} (hptrs : PtrsOk P ptrs) {ops : Array Oper} {i : Nat} {o : Oper} (ho : ops[i]? = some o) (hN : N ≤ 1000000) (hdst : okDst N o.dst = true) {K : AS → Prop}
    {Q : Exit → Act → World → Prop} {s : AS} {a : Act} {w : World} (hr : Rl P φ0 h0 w0 N s a w) (hK : awOp ch (cOp' P ptrs ops o) K s) :
    wpOp P ops Q i (fun a w => ∃ s, K s ∧ Rl P φ0 h0 w0 N s a w) a w := by
  obtain ⟨φ, hx, he, hd, hsz⟩ := hr
  unfold wpOp
  simp only [ho]
  have hw := wants_rel he (by omega) (P := P) (ptrs := ptrs) (ops := ops) o
  unfold awOp at hK
  rw [hw] at hK
  by_cases hwn : Region.wanted o (yielded ops a.tmps) = true
  · rw [if_pos hwn] at hK ⊢
    left
    have hop : (cOp' P ptrs ops o).op = (cOp P ptrs o).getD .bad := rfl
    rw [hop] at hK
    cases hX : cOp P ptrs o with
    | none => rw [hX] at hK; exact hK.elim
    | some X =>
      rw [hX] at hK
      exact res_sim hch hx he hd hsz hdst (cOp_sim hptrs hx.rel hX fun x _ X hX => op_rel he hx.rel.old hX) hK
  · rw [if_neg hwn] at hK ⊢
    exact ⟨_, hK, φ, hx, he.put hsz hdst undef_rel, by rw [put_defers']; exact hd, by rw [put_size]; exact hsz⟩

theorem sim_ops {ch : Hd} (hch : SoundH P ch) {ptrs : List TypeId} (hptrs : PtrsOk P ptrs) {ops : Array Oper} (hN : N ≤ 1000000) {K : AS → Prop} {Q : Exit → Act → World → Prop}
    (hQ : ∀ s a w, K s → Rl P φ0 h0 w0 N s a w → Q .normal a w) : ∀ (l : List Oper) (k : Nat), ops.toList.drop k = l → (∀ o ∈ l, okDst N o.dst = true) → ∀ (s : AS) (a : Act) (w : World), Rl P φ0 h0 w0 N s a w →
    awOps ch (l.map (cOp' P ptrs ops)) K s → wpOps P ops Q (List.range' k l.length) a w
  | [], k, _, _, s, a, w, hr, hK => hQ s a w hK hr
  | o :: l, k, hl, hd, s, a, w, hr, hK => by
    have ho : ops[k]? = some o := by
      have : (ops.toList.drop k)[0]? = some o := by rw [hl]; rfl
      simpa using this
    have hl2 : ops.toList.drop (k + 1) = l := by
      have : (ops.toList.drop k).drop 1 = l := by rw [hl]; rfl
      rw [List.drop_drop] at this; exact this
    rw [List.length_cons, List.range'_succ, wpOps_cons]
    refine wpOp_mono (fun a w ⟨s, hs, hr⟩ => ?_) (sim_wpOp hch hptrs ho hN (hd o (List.mem_cons_self ..)) hr hK)
    exact sim_ops hch hptrs hN hQ l (k + 1) hl2 (fun o ho => hd o (List.mem_cons_of_mem _ ho)) s a w hr hs

/-- A loop's round and those behind it. -/
def LoopW (P : Program) (c : Code) (Q : Exit → Act → World → Prop) (a : Act) (w : World) : Prop :=
  ∀ (b : Frame) (k : List Item) (cs : List Frame), ∃ e a' w', Q e a' w' ∧ Arrives P (lone (b.at a (.code c :: .inLoop c :: k)) cs w) b k cs e a' w'
theorem LoopW.wp {c : Code} {Q : Exit → Act → World → Prop} {a : Act} {w : World} (h : LoopW P c Q a w) : (Code.loop c).wp P Q a w := fun b k cs =>
  let ⟨e, a', w', q, r⟩ := h b k cs; ⟨e, a', w', q, .of_steps (.one step_loop) r⟩
theorem LoopW.round {c : Code} {Q : Exit → Act → World → Prop} {a : Act} {w : World} (h : c.wp P (Exit.then (LoopW P c Q) Q) a w) : LoopW P c Q a w := by
  intro b k cs
  obtain ⟨e, a₁, w₁, hq, harr⟩ := h b (.inLoop c :: k) cs
  cases e with
  | normal =>
    obtain ⟨e₂, a₂, w₂, hq₂, harr₂⟩ := hq b k cs
    exact ⟨e₂, a₂, w₂, hq₂, .of_steps (Steps.trans harr (.one step_inLoop)) harr₂⟩
  | exit id => exact ⟨_, a₁, w₁, hq, .pass (x := .inLoop c) rfl (fun _ _ => .inl (by simp)) harr⟩
  | goto l => exact ⟨_, a₁, w₁, hq, .pass (x := .inLoop c) rfl (fun _ _ => .inl (by simp)) harr⟩
  | ret => exact ⟨_, a₁, w₁, hq, .pass (x := .inLoop c) rfl (fun _ _ => .inl (by simp)) harr⟩
  | panic ch => exact ⟨_, a₁, w₁, hq, .pass (x := .inLoop c) rfl (fun _ _ => .inl (by simp)) harr⟩
  | outgrown => exact ⟨_, a₁, w₁, hq, .pass (x := .inLoop c) rfl (fun _ _ => .inl (by simp)) harr⟩

end
end Go.AM

/- Regions whose order is drawn: what a floating make's block, laid late, does. -/
namespace Go.AM

/-- The abstract heap holds a block already; the model's is laid only now. -/
theorem Ext.adopt {φ0 φ : Phi} {h0 h : Hp} {w0 w w' : World} (e : Ext φ0 h0 w0 φ h w) {b : BId} {ph : Ph} {x : Blk} {o : Obj} (hb : φ b = none) (hrd : h.rd b = some x) (hnew : b.isNew h0.next) (hnn : ¬ b.isNew h.next)
    (hgk : ph.gr.isSome = isGr b) (hsh : ph.sh = 0) (hpb : ph.blk = w.heap.size) (hx : BRel φ ph x (some o)) (hw : w'.heap = w.heap.push o) (ht : w'.tape = w.tape) (hos : w'.os = w.os) (hout : w'.output = w.output) :
    Ext φ0 h0 w0 (φ.add b ph) h w' := by
  have r := e.rel
  have hle : φ.le (φ.add b ph) := Phi.add_le hb
  have hat : w'.heap[ph.blk]? = some o := by rw [hw, hpb]; simp
  have hold : ∀ i, i < w.heap.size → w'.heap[i]? = w.heap[i]? := fun i hi => by rw [hw, Array.getElem?_push, if_neg (by omega)]
  have hlive : ∀ c q y, φ c = some q → h.rd c = some y → q.blk < w.heap.size := fun c q y hc hy => by
    obtain ⟨z, hz⟩ := (r.blk c q y hc hy).some
    exact (Array.getElem?_eq_some_iff.1 hz).1
  have hbold : ∀ n, b ≠ .old n := fun n e => by rw [e, r.old] at hb; cases hb
  have split : ∀ c q, (φ.add b ph) c = some q → (c = b ∧ q = ph) ∨ (c ≠ b ∧ φ c = some q) := fun c q hc => by
    by_cases ec : c = b
    · subst ec; rw [Phi.add_same] at hc; cases hc; exact .inl ⟨rfl, rfl⟩
    · rw [Phi.add_ne ec] at hc; exact .inr ⟨ec, hc⟩
  refine ⟨Phi.le_trans e.sub hle, ⟨?_, ?_, ?_, ?_, ?_, ?_⟩, ?_, ?_, ?_, ?_, ?_, e.next, ht.trans e.tape, hos.trans e.os, hout.trans e.out⟩
  · intro c q y hc hy
    rcases split c q hc with ⟨rfl, rfl⟩ | ⟨_, h1⟩
    · rw [hrd] at hy; cases hy
      rw [hat]; exact hx.mono hle
    · rw [hold _ (hlive _ _ _ h1 hy)]
      exact (r.blk _ _ _ h1 hy).mono hle
  · intro c d p q y z hc hd hy hz he
    rcases split c p hc with ⟨rfl, rfl⟩ | ⟨_, h1⟩
    · rcases split d q hd with ⟨rfl, rfl⟩ | ⟨_, h2⟩
      · rfl
      · have := hlive _ _ _ h2 hz; omega
    · rcases split d q hd with ⟨rfl, rfl⟩ | ⟨_, h2⟩
      · have := hlive _ _ _ h1 hy; omega
      · exact r.inj _ _ _ _ _ _ h1 h2 hy hz he
  · intro n
    rw [Phi.add_ne (fun e => hbold n e.symm)]
    exact r.old n
  · intro c hc
    rw [Phi.add_ne (fun e => hnn (by rw [← e]; exact hc))]
    exact r.next c hc
  · intro c q hc
    rcases split c q hc with ⟨rfl, rfl⟩ | ⟨_, h1⟩
    · exact hgk
    · exact r.grk c q h1
  · intro n q y hc hy hr
    rcases split _ q hc with ⟨_, rfl⟩ | ⟨_, h1⟩
    · exact hsh
    · exact r.exz n q y h1 hy hr
  · have := e.size; rw [hw]; simp; omega
  · intro i hi hno
    have := e.size
    rw [hold i (by omega)]
    exact e.unch i hi hno
  · intro c q y hc hy
    rcases split c q hc with ⟨rfl, rfl⟩ | ⟨_, h1⟩
    · exact .inr (by have := e.size; omega)
    · exact e.fresh c q y h1 hy
  · intro c hc hn
    exact e.abs c hc hn
  · intro c hc hc'
    by_cases ec : c = b
    · subst ec; exact hnew
    · rw [Phi.add_ne ec] at hc'
      exact e.newid c hc hc'

/-! ### What an operation asks of the environment -/

section
variable {env env' : Ev}
def Agree (env env' : Ev) (l : List Nat) : Prop := ∀ t ∈ l, env t = env' t
theorem Agree.left {a b : List Nat} (h : Agree env env' (a ++ b)) : Agree env env' a := fun t ht => h t (List.mem_append_left _ ht)
theorem Agree.right {a b : List Nat} (h : Agree env env' (a ++ b)) : Agree env env' b := fun t ht => h t (List.mem_append_right _ ht)
theorem Agree.val {x : Opd} (h : Agree env env' (opdS x)) : val env x = val env' x := by
  cases x with
  | t n => exact h n (List.mem_cons_self ..)
  | c v => rfl
theorem Agree.vals : ∀ {l : List Opd}, Agree env env' (opdsS l) → vals env l = vals env' l
  | [], _ => rfl
  | x :: l, h => by
    show Go.AM.val env x :: Go.AM.vals env l = Go.AM.val env' x :: Go.AM.vals env' l
    rw [Agree.val (Agree.left h), Agree.vals (Agree.right h)]
theorem Agree.fill : ∀ {ps : List (Nat × Nat × Opd)} {cs : List V}, Agree env env' (partsS ps) → fillP env cs ps = fillP env' cs ps
  | [], cs, _ => rfl
  | (o, n, x) :: l, cs, h => by
    unfold fillP
    rw [Agree.val (x := x) (Agree.left h)]
    congr 1
    split
    · exact Agree.fill (Agree.right h)
    · rfl
theorem Agree.optNat {x : Option Opd} {d m : Nat} (h : Agree env env' (optS x)) : optNat env x d m = optNat env' x d m := by
  cases x with
  | none => rfl
  | some x => show leN m (natV (Go.AM.val env x)) = leN m (natV (Go.AM.val env' x)); rw [Agree.val h]
theorem Agree.hi {x mx : Option Opd} {n m : Nat} (h : Agree env env' (optS x)) : sliceHi env n m x mx = sliceHi env' n m x mx := by
  cases x with
  | none => rfl
  | some x => show leN m (natV (Go.AM.val env x)) = leN m (natV (Go.AM.val env' x)); rw [Agree.val h]
theorem Agree.bnd {lo hi mx : Option Opd} {n c : Nat} (h1 : Agree env env' (optS lo)) (h2 : Agree env env' (optS hi)) (h3 : Agree env env' (optS mx)) : sliceBnd env n c lo hi mx = sliceBnd env' n c lo hi mx := by
  unfold sliceBnd
  rw [Agree.optNat h3]
  split
  · rfl
  · rw [Agree.hi h2]
    split
    · rfl
    · rw [Agree.optNat h1]

theorem aop_agree {rd : Rd} {X : O} (h : Agree env env' (slotsO X)) : aop rd env X = aop rd env' X := by
  cases X <;> simp only [slotsO] at h <;> simp only [aop] <;> first
    | rfl
    | (rw [h.val])
    | (rw [h.left.val, h.right.val])
    | (rw [h.left.val, h.right.left.val, h.right.right.val])
    | (rw [h.fill])
    | (rw [h.left.vals, h.right.vals])
    | skip
  case slS x lo hi => rw [h.left.val]; unfold aSlS; split <;> first | rfl | rw [Agree.bnd (mx := none) h.right.left h.right.right (fun t ht => by cases ht)]
  case slV n x lo hi mx => rw [h.left.val]; unfold aSlV; split <;> first | rfl | rw [Agree.bnd h.right.left h.right.right.left h.right.right.right]
  case slA n s x lo hi mx => rw [h.left.val]; unfold aSlA; split <;> first | rfl | rw [Agree.bnd h.right.left h.right.right.left h.right.right.right]
  case call c args =>
    have ha := h.right.vals
    cases c with
    | v f => have hf : Agree env env' (opdS f) := h.left; simp only; rw [hf.val, ha]
    | m r t => have hf : Agree env env' (opdS r) := h.left; simp only; rw [hf.val, ha]
    | b b => simp only; rw [ha]
  case dfr f args => rw [h.left.val, h.right.vals]
end

/-! ### What asks no memory -/

theorem aop_pure {rd rd' : Rd} {env : Ev} {X : O} (hk : kdOf X = .pure) : aop rd env X = aop rd' env X := by
  cases X <;> first | rfl | (simp [kdOf] at hk; done) | skip
  case bin op k cst x y =>
    cases k <;> simp [kdOf] at hk <;> rfl
  case conv c x => cases c <;> simp [kdOf] at hk <;> rfl
  case call c args =>
    cases c with
    | b b => cases b <;> simp [kdOf] at hk <;> rfl
    | _ => simp [kdOf] at hk

theorem aop_make {rd rd' : Rd} {env : Ev} {X : O} (hk : kdOf X = .make) : aop rd env X = aop rd' env X := by
  cases X <;> first | rfl | (simp [kdOf] at hk; done) | skip
  case bin op k cst x y => cases k <;> simp [kdOf] at hk
  case conv c x => cases c <;> simp [kdOf] at hk <;> rfl
  case call c args =>
    cases c with
    | b b => cases b <;> simp [kdOf] at hk
    | _ => simp [kdOf] at hk

/-! ### One operation, where some slots lag -/

def EnvRelP (φ : Phi) (ok : Nat → Prop) (env : Ev) (tmps : Array Value) : Prop := ∀ n, ok n → VRel φ (env n) (tmps.getD n undef)
theorem EnvRelP.mono {φ ψ : Phi} (h : φ.le ψ) {ok : Nat → Prop} {env : Ev} {tmps : Array Value} (r : EnvRelP φ ok env tmps) : EnvRelP ψ ok env tmps := fun n hn => (r n hn).mono h
theorem EnvRelP.put {φ : Phi} {ok : Nat → Prop} {env : Ev} {a : Act} {N : Nat} {dst : Option Nat} {v : V} {v' : Value} (r : EnvRelP φ ok env a.tmps) (hN : a.tmps.size = N) (hd : okDst N dst = true) (hv : VRel φ v v') :
    EnvRelP φ (fun n => ok n ∨ dst = some n) (putE env dst v) (a.put dst v').tmps := by
  cases dst with
  | none => intro n hn; exact r n (hn.resolve_right (by simp))
  | some d =>
    intro n hn
    have hd' : d < a.tmps.size := by rw [hN]; simpa [okDst, blt_nat] using hd
    simp only [putE, Act.put]
    by_cases hnd : n = d
    · subst hnd
      simp [hd', hv]
    · rw [if_neg hnd]
      have : (a.tmps.setIfInBounds d v').getD n undef = a.tmps.getD n undef := by simp [Array.getElem?_setIfInBounds_ne (Ne.symm hnd)]
      rw [this]
      exact r n (hn.resolve_right fun e => hnd (by cases e; rfl))

/-- Where a step leads, some slots lagging. -/
def StepP (P : Program) (φ : Phi) (s : AS) (w : World) (ok : Nat → Prop) (N : Nat) (dst : Option Nat) (K : AS → Prop) (a : Act) (w' : World) : Prop :=
  ∃ s' φ' v, K s' ∧ Ext φ s.h w φ' s'.h w' ∧ EnvRelP φ' (fun n => ok n ∨ dst = some n) s'.env a.tmps ∧ DefsRel P φ' s'.defs a.defers ∧ a.tmps.size = N ∧ s'.env = putE s.env dst v

theorem res_simP {P : Program} {N : Nat} {ch : Hd} (hch : SoundH P ch) {φ : Phi} {s : AS} {a : Act} {w : World} {o : Oper} {K : AS → Prop} {Q : Exit → Act → World → Prop} {ok : Nat → Prop} (hrel : HRel φ s.h w) (he : EnvRelP φ ok s.env a.tmps)
    (hd : DefsRel P φ s.defs a.defers) (hN : a.tmps.size = N) (hdst : okDst N o.dst = true) {r : Result Next} {R : Res} (hr : ResSim P φ s.h w r R) (hK : awRes ch o.dst K s R) :
    o.upon P a (StepP P φ s w ok N o.dst K) Q r := by
  have put : ∀ {φ' : Phi} {h' : Hp} {w' : World} {v : V} {v' : Value}, K (s.to o.dst v h') → Ext φ s.h w φ' h' w' → VRel φ' v v' → StepP P φ s w ok N o.dst K (a.put o.dst v') w' := fun {φ' h' w' v v'} hk hx' hv =>
    ⟨_, φ', v, hk, hx', (he.mono hx'.sub).put hN hdst hv, by rw [put_defers']; exact hd.mono hx'.sub, by rw [put_size]; exact hN, rfl⟩
  cases R with
  | fail => exact hK.elim
  | ok v e =>
    obtain ⟨nx, v', w', rfl, hnx, hv, hx'⟩ := hr
    cases hnx with
    | val => exact put hK hx' hv
    | skip => exact put hK hx' hv
  | mk g v blk =>
    obtain ⟨ph, v', ob, w', rfl, hgk, hpb, hw, ⟨h1, h2, h3⟩, hb, hv⟩ := hr
    exact put hK (Ext.push hrel hgk hpb hb hw h1 h2 h3) (hv _ _ Phi.add_same)
  | rep v kill blk =>
    obtain ⟨ph, v', ob, w', pk, y, rfl, hgk, ⟨h1, h2, h3⟩, hb, hro, hv, hk, hy, hyr, hw⟩ := hr
    exact put hK (Ext.rep hrel hgk hb hk hy hyr hw h1 h2 h3) (hv _ _ Phi.add_same)
  | call f args =>
    obtain ⟨args', rfl, ha⟩ := hr
    have hD := hch.ok f args s.h _ hK φ w args' hrel ha
    generalize (callFunc f args').run P w = r at hD
    cases r with
    | ok nx w' =>
      cases nx <;> first | exact hD.elim | skip
      case value v' =>
        obtain ⟨φ', v, h', hk, hv, hx'⟩ := hD
        exact put hk hx' hv
      case enter g args2 =>
        refine Calls.mono hD fun e w'' h => ?_
        cases e with
        | returned v' =>
          obtain ⟨φ', v, h', hk, hv, hx'⟩ := h
          exact put hk hx' hv
        | panicked c => exact h.elim
        | outgrown => exact h.elim
    | halt x w' => exact hD.elim
  | dfr f args =>
    obtain ⟨f', args', d, rfl, hf, ha, hdd⟩ := hr
    refine ⟨_, φ, .tup [], hK, Ext.refl hrel, EnvRelP.put (a := { a with defers := d :: a.defers }) he hN hdst undef_rel, ?_, ?_, rfl⟩
    · rw [put_defers']
      refine .cons ⟨f', args', hf, ha, fun w2 => ?_⟩ hd
      cases f' <;> simp [Deferred.ofValue, stuck] at hdd ⊢ <;> exact hdd
    · rw [put_size]; exact hN
  | any l =>
    obtain ⟨x, hm, v', w', rfl, hv, hx'⟩ := hr
    exact put (hK x hm) hx' hv

theorem isB_rel {φ : Phi} {want : Bool} {v : V} {tmps : Array Value} {n : Nat} (h : VRel φ v (tmps.getD n undef)) : isB want v = ((match tmps[n]? with | some (.bool b) => some b | _ => none) == some want) := by
  have hgd : tmps.getD n undef = (tmps[n]?).getD undef := by simp
  rw [hgd] at h
  cases ht : tmps[n]? with
  | none =>
    rw [ht] at h
    cases h with
    | tup _ => rfl
    | raw hraw => cases hraw
  | some y =>
    rw [ht] at h
    simp only [Option.getD_some] at h
    cases h with
    | b b => cases b <;> cases want <;> rfl
    | raw hraw =>
      have : ∀ b, y ≠ .bool b := fun b e => by subst e; simp [isRaw] at hraw
      show false = _
      split
      · rename_i b hb; cases hb; exact absurd rfl (this _)
      · rfl
    | _ => rfl

theorem wants_relP {φ : Phi} {ok : Nat → Prop} {env : Ev} {a : Act} {N : Nat} (he : EnvRelP φ ok env a.tmps) (hsz : a.tmps.size = N) (hN : N ≤ 1000000) (hbig : ∀ n, N ≤ n → ok n) {P : Program} {ptrs : List TypeId} {ops : Array Oper} (o : Oper)
    (hok : ∀ t ∈ o.looksAt ops, ok t) : wants env (cOp' P ptrs ops o).grd = Region.wanted o (yielded ops a.tmps) := by
  unfold cOp' Region.wanted
  cases hg : o.guard with
  | none => rfl
  | some jw =>
    obtain ⟨j, want⟩ := jw
    simp only [yielded]
    cases hd : (ops[j]?).bind (·.dst) with
    | some d =>
      simp only [wants, Option.bind_some]
      exact isB_rel (he d (hok d (by simp [Oper.looksAt, hg, hd])))
    | none =>
      simp only [wants, Option.bind_none]
      rw [isB_rel (he 1000000 (hbig _ hN))]
      have : a.tmps[1000000]? = none := Array.getElem?_eq_none (by omega)
      rw [this]

theorem sim_wpOpP {P : Program} {N : Nat} {ch : Hd} (hch : SoundH P ch) {ptrs : List TypeId} (hptrs : PtrsOk P ptrs) {ops : Array Oper} {i : Nat} {o : Oper} (ho : ops[i]? = some o) (hN : N ≤ 1000000) (hdst : okDst N o.dst = true)
    {φ : Phi} {s : AS} {a : Act} {w : World} {K : AS → Prop} {Q : Exit → Act → World → Prop} {ok : Nat → Prop} (hbig : ∀ n, N ≤ n → ok n) (hok : ∀ t ∈ o.looksAt ops, ok t) (hrel : HRel φ s.h w) (he : EnvRelP φ ok s.env a.tmps)
    (hd : DefsRel P φ s.defs a.defers) (hsz : a.tmps.size = N) (hK : awOp ch (cOp' P ptrs ops o) K s) : wpOp P ops Q i (StepP P φ s w ok N o.dst K) a w := by
  unfold wpOp
  simp only [ho]
  have hw := wants_relP he hsz hN hbig (P := P) (ptrs := ptrs) (ops := ops) o hok
  unfold awOp at hK
  rw [hw] at hK
  by_cases hwn : Region.wanted o (yielded ops a.tmps) = true
  · rw [if_pos hwn] at hK ⊢
    left
    have hop : (cOp' P ptrs ops o).op = (cOp P ptrs o).getD .bad := rfl
    rw [hop] at hK
    cases hX : cOp P ptrs o with
    | none => rw [hX] at hK; exact hK.elim
    | some X =>
      rw [hX] at hK
      refine res_simP hch hrel he hd hsz hdst (cOp_sim hptrs hrel hX fun x hx X hX => ?_) hK
      cases x with
      | tmp t =>
        simp [cOpd] at hX; subst hX
        refine he t (hok t ?_)
        exact List.mem_append_left _ (List.mem_filterMap.2 ⟨.tmp t, by simpa using hx, rfl⟩)
      | const v =>
        simp only [cOpd] at hX
        split at hX
        · rename_i v' hv; cases hX; exact absC_rel hv
        · cases hX
      | global g => simp [cOpd] at hX; subst hX; exact .p ⟨_, hrel.old g, by simp⟩
      | func f => simp [cOpd] at hX; subst hX; exact .fn _ .nil .nil
  · rw [if_neg hwn] at hK ⊢
    exact ⟨_, φ, .tup [], hK, Ext.refl hrel, he.put hsz hdst undef_rel, by rw [put_defers']; exact hd, by rw [put_size]; exact hsz, rfl⟩

theorem putE_same {env : Ev} {d : Nat} : putE env (some d) (env d) = env := by
  funext n
  show (if n = d then env d else env n) = env n
  by_cases h : n = d
  · rw [if_pos h, h]
  · rw [if_neg h]

/-- A make that lags is laid now. -/
theorem make_step {P : Program} {N : Nat} {ptrs : List TypeId} (hptrs : PtrsOk P ptrs) {ops : Array Oper} {i : Nat} {o : Oper} (ho : ops[i]? = some o) (hdst : okDst N o.dst = true) {φ0 φ : Phi} {h0 : Hp} {w0 : World} {s : AS} {a : Act} {w : World}
    {Q : Exit → Act → World → Prop} {ok : Nat → Prop} (hx : Ext φ0 h0 w0 φ s.h w) (he : EnvRelP φ ok s.env a.tmps) (hd : DefsRel P φ s.defs a.defers) (hsz : a.tmps.size = N) (hok : ∀ t ∈ o.looksAt ops, ok t)
    (hw : Region.wanted o (yielded ops a.tmps) = true) {X : O} (hX : cOp P ptrs o = some X) {g : Bool} {v : Nat → V} {blk : Blk} {no : Nat} (hm : aop s.h.rd s.env X = .mk g v blk) (hdd : ∀ d, o.dst = some d → s.env d = v no)
    (hb : s.h.rd (gId g no) = some blk) (hφ : φ (gId g no) = none) (hnew : (gId g no).isNew h0.next) (hnn : ¬ (gId g no).isNew s.h.next) :
    wpOp P ops Q i (fun a' w' => ∃ ph, Ext φ0 h0 w0 (φ.add (gId g no) ph) s.h w' ∧ EnvRelP (φ.add (gId g no) ph) (fun n => ok n ∨ o.dst = some n) s.env a'.tmps ∧ DefsRel P (φ.add (gId g no) ph) s.defs a'.defers ∧ a'.tmps.size = N) a w := by
  unfold wpOp
  simp only [ho]
  rw [if_pos hw]
  left
  have hrel := hx.rel
  have hr := cOp_sim (env := s.env) (ρ := a.eval) hptrs hrel hX fun x hx X hX => by
    cases x with
    | tmp t =>
      simp [cOpd] at hX; subst hX
      refine he t (hok t ?_)
      exact List.mem_append_left _ (List.mem_filterMap.2 ⟨.tmp t, by simpa using hx, rfl⟩)
    | const v =>
      simp only [cOpd] at hX
      split at hX
      · rename_i v' hv; cases hX; exact absC_rel hv
      · cases hX
    | global g => simp [cOpd] at hX; subst hX; exact .p ⟨_, hrel.old g, by simp⟩
    | func f => simp [cOpd] at hX; subst hX; exact .fn _ .nil .nil
  rw [hm] at hr
  obtain ⟨ph, v', ob, w', hrun, hgk, hpb, hwp, ⟨h1, h2, h3⟩, hbr, hv⟩ := hr
  unfold Oper.wp
  rw [hrun]
  have hgk' : ph.gr.isSome = isGr (gId g no) := by rw [hgk.1]; cases g <;> rfl
  have hle : φ.le (φ.add (gId g no) ph) := Phi.add_le hφ
  refine ⟨ph, Ext.adopt hx hφ hb hnew hnn hgk' hgk.2 hpb hbr hwp h1 h2 h3, ?_, by rw [put_defers']; exact hd.mono hle, by rw [put_size]; exact hsz⟩
  have hput := (he.mono hle).put (dst := o.dst) hsz hdst (hv _ _ (Phi.add_same (φ := φ) (b := gId g no) (ph := ph)))
  have hsame : putE s.env o.dst (v no) = s.env := by
    cases hd : o.dst with
    | none => rfl
    | some d => rw [← hdd d hd]; exact putE_same
  rw [hsame] at hput
  exact hput

end Go.AM

/- Regions whose order is drawn: what must have run ahead of an operation. -/
namespace Go.AM

theorem one_bit (n j : Nat) (h : (1 <<< n).testBit j = true) : j = n := by
  rw [Nat.testBit_shiftLeft] at h
  simp only [Bool.and_eq_true, decide_eq_true_eq] at h
  obtain ⟨h1, h2⟩ := h
  rcases Nat.eq_zero_or_pos (j - n) with h3 | h3
  · omega
  · obtain ⟨k, hk⟩ : ∃ k, j - n = k + 1 := ⟨j - n - 1, by omega⟩
    rw [hk, Nat.testBit_succ] at h2
    simp at h2

theorem anc1_spec (i : Nat) (acc : List Nat) : ∀ (es : List Edge) (b : Nat), ancs.anc1 i acc es = some b →
    (∀ e ∈ es, Region.binds .any e = true → e.on < i) ∧ ∀ j, b.testBit j = true → ∃ e ∈ es, Region.binds .any e = true ∧ (j = e.on ∨ (acc.getD e.on 0).testBit j = true)
  | [], b, h => by
    cases h
    exact ⟨fun e he => by simp at he, fun j hj => by simp at hj⟩
  | e :: es, b, h => by
    unfold ancs.anc1 at h
    split at h
    · cases h
    · rename_i b0 hb0
      obtain ⟨h1, h2⟩ := anc1_spec i acc es b0 hb0
      by_cases hb : Region.binds .any e = true
      · rw [if_pos hb] at h
        by_cases hlt : e.on < i
        · rw [if_pos hlt] at h
          cases h
          refine ⟨fun e' he' hb' => ?_, fun j hj => ?_⟩
          · rcases List.mem_cons.1 he' with rfl | he'
            · exact hlt
            · exact h1 e' he' hb'
          · rw [Nat.testBit_or, Nat.testBit_or, Bool.or_eq_true, Bool.or_eq_true] at hj
            rcases hj with (hj | hj) | hj
            · obtain ⟨e', g1, g2, g3⟩ := h2 j hj
              exact ⟨e', List.mem_cons_of_mem _ g1, g2, g3⟩
            · exact ⟨e, List.mem_cons_self .., hb, .inr hj⟩
            · exact ⟨e, List.mem_cons_self .., hb, .inl (one_bit _ _ hj)⟩
        · rw [if_neg hlt] at h; cases h
      · rw [if_neg hb] at h
        cases h
        refine ⟨fun e' he' hb' => ?_, fun j hj => ?_⟩
        · rcases List.mem_cons.1 he' with rfl | he'
          · exact absurd hb' hb
          · exact h1 e' he' hb'
        · obtain ⟨e', g1, g2, g3⟩ := h2 j hj
          exact ⟨e', List.mem_cons_of_mem _ g1, g2, g3⟩

theorem ancs_go : ∀ (l : List Oper) (i : Nat) (acc as : List Nat), ancs l i acc = some as → acc.length = i →
    (∃ r, as = acc ++ r ∧ r.length = l.length) ∧ ∀ k o, l[k]? = some o → ∃ b, as[i + k]? = some b ∧ ancs.anc1 (i + k) (as.take (i + k)) o.after.toList = some b
  | [], i, acc, as, h, _ => by
    cases h
    exact ⟨⟨[], by simp, rfl⟩, fun k o hk => by simp at hk⟩
  | o :: l, i, acc, as, h, hl => by
    unfold ancs at h
    split at h
    · rename_i b hb
      obtain ⟨⟨r, hr, hrl⟩, h2⟩ := ancs_go l (i + 1) (acc ++ [b]) as h (by simp [hl])
      refine ⟨⟨b :: r, by rw [hr]; simp, by simp [hrl]⟩, fun k o' hk => ?_⟩
      cases k with
      | zero =>
        simp at hk; subst hk
        refine ⟨b, ?_, ?_⟩
        · rw [hr, Nat.add_zero, List.append_assoc, List.getElem?_append_right (by omega), hl]; simp
        · rw [hr, Nat.add_zero, List.append_assoc, List.take_append_of_le_length (by omega), List.take_of_length_le (by omega)]
          exact hb
      | succ k =>
        obtain ⟨b', g1, g2⟩ := h2 k o' (by simpa using hk)
        rw [show i + 1 + k = i + (k + 1) from by omega] at g1 g2
        exact ⟨b', g1, g2⟩
    · cases h

/-- Each operation's edges point back; what is an ancestor is so through an edge. -/
theorem ancs_spec {ops : Array Oper} {as : List Nat} (h : ancs ops.toList 0 [] = some as) : as.length = ops.size ∧ ∀ (i : Nat) (o : Oper), ops[i]? = some o →
    (∀ e ∈ o.after.toList, Region.binds .any e = true → e.on < i) ∧
    ∀ j, (as.getD i 0).testBit j = true → ∃ e ∈ o.after.toList, Region.binds .any e = true ∧ (j = e.on ∨ (as.getD e.on 0).testBit j = true) := by
  obtain ⟨⟨r, hr, hrl⟩, h2⟩ := ancs_go _ _ _ _ h rfl
  refine ⟨by rw [hr]; simpa using hrl, fun i o ho => ?_⟩
  obtain ⟨b, g1, g2⟩ := h2 i o (by simpa using ho)
  rw [Nat.zero_add] at g1 g2
  obtain ⟨q1, q2⟩ := anc1_spec _ _ _ _ g2
  refine ⟨q1, fun j hj => ?_⟩
  have hb : as.getD i 0 = b := by rw [List.getD_eq_getElem?_getD, g1]; rfl
  rw [hb] at hj
  obtain ⟨e, e1, e2, e3⟩ := q2 j hj
  refine ⟨e, e1, e2, e3.imp id fun h3 => ?_⟩
  have hlt := q1 e e1 e2
  rw [List.getD_eq_getElem?_getD] at h3 ⊢
  rw [List.getElem?_take, if_pos hlt] at h3
  exact h3

/-- What has run, has run behind all that it must wait for. -/
def Closed (ops : Array Oper) (listed : Array Bool) : Prop := ∀ (i : Nat) (o : Oper), ops[i]? = some o → listed.getD i false = true → ∀ e ∈ o.after.toList, Region.binds .any e = true → listed.getD e.on false = true

theorem anc_listed {ops : Array Oper} {as : List Nat} (h : ancs ops.toList 0 [] = some as) {listed : Array Bool} (hc : Closed ops listed) : ∀ (i : Nat) (o : Oper), ops[i]? = some o →
    (∀ e ∈ o.after.toList, Region.binds .any e = true → listed.getD e.on false = true) → ∀ j, (as.getD i 0).testBit j = true → listed.getD j false = true := by
  intro i
  induction i using Nat.strongRecOn with
  | _ i ih =>
    intro o ho hp j hj
    obtain ⟨h1, h2⟩ := (ancs_spec h).2 i o ho
    obtain ⟨e, g1, g2, g3⟩ := h2 j hj
    have hl := hp e g1 g2
    rcases g3 with rfl | g3
    · exact hl
    · have hlt := h1 e g1 g2
      have hsz : i < ops.size := (Array.getElem?_eq_some_iff.1 ho).1
      have ho' : ops[e.on]? = some ops[e.on] := Array.getElem?_eq_getElem (by omega)
      exact ih e.on hlt _ ho' (hc e.on _ ho' hl) j g3

theorem closed_none {ops : Array Oper} (n : Nat) : Closed ops (Array.replicate n false) := fun i o _ hl => by
  have : (Array.replicate n false).getD i false = false := by simp [Array.getElem?_replicate]; split <;> rfl
  rw [this] at hl; cases hl

theorem closed_set {ops : Array Oper} {listed : Array Bool} (hc : Closed ops listed) {i : Nat} {o : Oper} (ho : ops[i]? = some o) (hp : ∀ e ∈ o.after.toList, Region.binds .any e = true → listed.getD e.on false = true) :
    Closed ops (listed.setIfInBounds i true) := fun j o' ho' hl e he hb => by
  refine getD_set_true ?_
  by_cases hij : i = j
  · subst hij
    rw [ho] at ho'; cases ho'
    exact hp e he hb
  · rw [getD_set_ne false hij] at hl
    exact hc j o' ho' hl e he hb

/-- Where none is ready, all have run. -/
theorem all_listed {ops : Array Oper} {as : List Nat} (h : ancs ops.toList 0 [] = some as) {listed : Array Bool} (hsz : listed.size = ops.size) (hr : Region.ready .any ops listed = []) : ∀ i, i < ops.size → listed.getD i false = true := by
  intro i
  induction i using Nat.strongRecOn with
  | _ i ih =>
    intro hi
    have ho : ops[i]? = some ops[i] := Array.getElem?_eq_getElem hi
    cases hl : listed.getD i false with
    | true => rfl
    | false =>
      have hm : i ∈ Region.ready .any ops listed := by
        rw [mem_ready]
        refine ⟨?_, ops[i], ho, fun e he hb => ?_⟩
        · have hlt : i < listed.size := by omega
          simp [hlt] at hl ⊢; exact hl
        · have hlt := ((ancs_spec h).2 i _ ho).1 e (by simpa using he) hb
          exact ih e.on hlt (by omega)
      rw [hr] at hm; cases hm

end Go.AM

/- Regions whose order is drawn: what holds while some floating operations lag. -/
namespace Go.AM

/-! ### Ancestors -/

theorem anc1_conv (i : Nat) (acc : List Nat) : ∀ (es : List Edge) (b : Nat), ancs.anc1 i acc es = some b →
    ∀ e ∈ es, Region.binds .any e = true → ∀ j, (j = e.on ∨ (acc.getD e.on 0).testBit j = true) → b.testBit j = true
  | [], b, h => fun e he => by simp at he
  | e :: es, b, h => by
    unfold ancs.anc1 at h
    split at h
    · cases h
    · rename_i b0 hb0
      have ih := anc1_conv i acc es b0 hb0
      intro e' he' hb' j hj
      by_cases hb : Region.binds .any e = true
      · rw [if_pos hb] at h
        by_cases hlt : e.on < i
        · rw [if_pos hlt] at h
          cases h
          rw [Nat.testBit_or, Nat.testBit_or, Bool.or_eq_true, Bool.or_eq_true]
          rcases List.mem_cons.1 he' with rfl | he'
          · rcases hj with rfl | hj
            · exact .inr (by simp [Nat.testBit_shiftLeft])
            · exact .inl (.inr hj)
          · exact .inl (.inl (ih e' he' hb' j hj))
        · rw [if_neg hlt] at h; cases h
      · rw [if_neg hb] at h
        cases h
        rcases List.mem_cons.1 he' with rfl | he'
        · exact absurd hb' hb
        · exact ih e' he' hb' j hj

theorem ancs_conv {ops : Array Oper} {as : List Nat} (h : ancs ops.toList 0 [] = some as) {i : Nat} {o : Oper} (ho : ops[i]? = some o) {e : Edge} (he : e ∈ o.after.toList) (hb : Region.binds .any e = true) {j : Nat}
    (hj : j = e.on ∨ (as.getD e.on 0).testBit j = true) : (as.getD i 0).testBit j = true := by
  obtain ⟨⟨r, hr, hrl⟩, h2⟩ := ancs_go _ _ _ _ h rfl
  obtain ⟨b, g1, g2⟩ := h2 i o (by simpa using ho)
  rw [Nat.zero_add] at g1 g2
  have hlt := (anc1_spec _ _ _ _ g2).1 e he hb
  have hbb : as.getD i 0 = b := by rw [List.getD_eq_getElem?_getD, g1]; rfl
  rw [hbb]
  refine anc1_conv _ _ _ _ g2 e he hb j (hj.imp id fun h3 => ?_)
  rw [List.getD_eq_getElem?_getD] at h3 ⊢
  rw [List.getElem?_take, if_pos hlt]
  exact h3

theorem anc_lt {ops : Array Oper} {as : List Nat} (h : ancs ops.toList 0 [] = some as) : ∀ (i : Nat) (o : Oper), ops[i]? = some o → ∀ j, (as.getD i 0).testBit j = true → j < i := by
  intro i
  induction i using Nat.strongRecOn with
  | _ i ih =>
    intro o ho j hj
    obtain ⟨h1, h2⟩ := (ancs_spec h).2 i o ho
    obtain ⟨e, g1, g2, g3⟩ := h2 j hj
    have hlt := h1 e g1 g2
    rcases g3 with rfl | g3
    · exact hlt
    · have hsz : i < ops.size := (Array.getElem?_eq_some_iff.1 ho).1
      have ho' : ops[e.on]? = some ops[e.on] := Array.getElem?_eq_getElem (by omega)
      have := ih e.on hlt _ ho' j g3
      omega

theorem anc_trans {ops : Array Oper} {as : List Nat} (h : ancs ops.toList 0 [] = some as) {k : Nat} : ∀ (i : Nat) (o : Oper), ops[i]? = some o → ∀ j, (as.getD i 0).testBit j = true → (as.getD j 0).testBit k = true → (as.getD i 0).testBit k = true := by
  intro i
  induction i using Nat.strongRecOn with
  | _ i ih =>
    intro o ho j hj hk
    obtain ⟨h1, h2⟩ := (ancs_spec h).2 i o ho
    obtain ⟨e, g1, g2, g3⟩ := h2 j hj
    have hlt := h1 e g1 g2
    refine ancs_conv h ho g1 g2 (.inr ?_)
    rcases g3 with rfl | g3
    · exact hk
    · have hsz : i < ops.size := (Array.getElem?_eq_some_iff.1 ho).1
      have ho' : ops[e.on]? = some ops[e.on] := Array.getElem?_eq_getElem (by omega)
      exact ih e.on hlt _ ho' j g3 hk

/-! ### The region's operations, as they are compiled -/

def kOf (o : Oper) (X : O) : Kd := match o.op with | .assign _ => .anch | _ => kdOf X

theorem itsOf_mem {P : Program} {ptrs : List TypeId} {ops : Array Oper} : ∀ (l : List Oper) (i : Nat) (as : List Nat) (x : It), x ∈ itsOf P ptrs ops l i as →
    ∃ k o, l[k]? = some o ∧ x = ⟨i + k, cOp' P ptrs ops o, kOf o (cOp' P ptrs ops o).op, as.getD k 0⟩
  | [], i, as, x, h => by simp [itsOf] at h
  | o :: l, i, as, x, h => by
    unfold itsOf at h
    rcases List.mem_cons.1 h with rfl | h
    · refine ⟨0, o, rfl, ?_⟩
      cases as <;> rfl
    · obtain ⟨k, o', h1, h2⟩ := itsOf_mem l (i + 1) (as.drop 1) x h
      refine ⟨k + 1, o', by simpa using h1, ?_⟩
      rw [h2, show i + 1 + k = i + (k + 1) from by omega]
      congr 1
      cases as <;> simp

theorem itsOf_at {P : Program} {ptrs : List TypeId} {ops : Array Oper} : ∀ (l : List Oper) (i : Nat) (as : List Nat) (k : Nat) (o : Oper), l[k]? = some o → ∃ x ∈ itsOf P ptrs ops l i as, x.i = i + k
  | [], i, as, k, o, h => by simp at h
  | o :: l, i, as, k, o', h => by
    unfold itsOf
    cases k with
    | zero => exact ⟨_, List.mem_cons_self .., rfl⟩
    | succ k =>
      obtain ⟨x, h1, h2⟩ := itsOf_at l (i + 1) (as.drop 1) k o' (by simpa using h)
      exact ⟨x, List.mem_cons_of_mem _ h1, by omega⟩

theorem itsOf_ge {P : Program} {ptrs : List TypeId} {ops : Array Oper} {l : List Oper} {i : Nat} {as : List Nat} {x : It} (h : x ∈ itsOf P ptrs ops l i as) : i ≤ x.i := by
  obtain ⟨k, o, _, rfl⟩ := itsOf_mem _ _ _ _ h
  show i ≤ i + k
  omega

theorem itsOf_pw {P : Program} {ptrs : List TypeId} {ops : Array Oper} : ∀ (l : List Oper) (i : Nat) (as : List Nat), (itsOf P ptrs ops l i as).Pairwise fun x y => x.i < y.i
  | [], i, as => by unfold itsOf; exact .nil
  | o :: l, i, as => by
    unfold itsOf
    exact .cons (fun y hy => itsOf_ge hy) (itsOf_pw l (i + 1) (as.drop 1))

/-- What is known of a drawn region. -/
structure Drw (P : Program) (ptrs : List TypeId) (ops : Array Oper) (N : Nat) (as : List Nat) (its : List It) : Prop where
  has : ancs ops.toList 0 [] = some as
  hits : its = itsOf P ptrs ops ops.toList 0 as
  slots : slotsOk ops its = true
  dst : ∀ o ∈ ops.toList, okDst N o.dst = true

section
variable {P : Program} {ptrs : List TypeId} {ops : Array Oper} {N : Nat} {as : List Nat} {its : List It}

theorem Drw.mem (D : Drw P ptrs ops N as its) {x : It} (hx : x ∈ its) : ∃ o, ops[x.i]? = some o ∧ x.o = cOp' P ptrs ops o ∧ x.k = kOf o x.o.op ∧ x.anc = as.getD x.i 0 := by
  rw [D.hits] at hx
  obtain ⟨k, o, h1, rfl⟩ := itsOf_mem _ _ _ _ hx
  refine ⟨o, ?_, rfl, rfl, ?_⟩
  · show ops[0 + k]? = some o
    rw [Nat.zero_add]; simpa using h1
  · show as.getD k 0 = as.getD (0 + k) 0
    rw [Nat.zero_add]
theorem Drw.at (D : Drw P ptrs ops N as its) {i : Nat} {o : Oper} (ho : ops[i]? = some o) : ∃ x ∈ its, x.i = i := by
  rw [D.hits]
  obtain ⟨x, h1, h2⟩ := itsOf_at (P := P) (ptrs := ptrs) (ops := ops) ops.toList 0 as i o (by simpa using ho)
  exact ⟨x, h1, by omega⟩
theorem Drw.uniq (D : Drw P ptrs ops N as its) {x y : It} (hx : x ∈ its) (hy : y ∈ its) (h : x.i = y.i) : x = y := by
  rw [D.hits] at hx hy
  obtain ⟨k, o, h1, rfl⟩ := itsOf_mem _ _ _ _ hx
  obtain ⟨k', o', h1', rfl⟩ := itsOf_mem _ _ _ _ hy
  have hk : k = k' := by
    have : 0 + k = 0 + k' := h
    omega
  subst hk
  rw [h1] at h1'; cases h1'
  rfl
theorem Drw.pw (D : Drw P ptrs ops N as its) : its.Pairwise fun x y => x.i < y.i := by rw [D.hits]; exact itsOf_pw _ _ _
theorem Drw.lt (D : Drw P ptrs ops N as its) {x : It} (hx : x ∈ its) {j : Nat} (hj : x.anc.testBit j = true) : j < x.i := by
  obtain ⟨o, h1, _, _, h4⟩ := D.mem hx
  rw [h4] at hj
  exact anc_lt D.has _ _ h1 _ hj
theorem Drw.trans (D : Drw P ptrs ops N as its) {x y : It} (hx : x ∈ its) (hy : y ∈ its) {k : Nat} (h : x.anc.testBit y.i = true) (hk : y.anc.testBit k = true) : x.anc.testBit k = true := by
  obtain ⟨o, h1, _, _, h4⟩ := D.mem hx
  obtain ⟨_, _, _, _, g4⟩ := D.mem hy
  rw [h4] at h ⊢
  rw [g4] at hk
  exact anc_trans D.has _ _ h1 _ h hk
theorem Drw.okd (D : Drw P ptrs ops N as its) {x : It} (hx : x ∈ its) : okDst N x.o.dst = true := by
  obtain ⟨o, h1, h2, _, _⟩ := D.mem hx
  rw [h2]
  exact D.dst o (by rw [← Array.getElem?_toList] at h1; exact List.mem_of_getElem? h1)

/-- A floating operation's slot is not asked by itself. -/
theorem Drw.own (D : Drw P ptrs ops N as its) {x : It} (hx : x ∈ its) (hf : x.isAn = false) {d : Nat} (hd : x.o.dst = some d) : d ∉ x.asks ops := by
  have h := D.slots
  unfold slotsOk at h
  rw [List.all_eq_true] at h
  have h1 := h x hx
  obtain ⟨o, g1, g2, _, _⟩ := D.mem hx
  have hdo : o.dst = some d := by rw [g2] at hd; exact hd
  rw [g1] at h1
  simp only [Option.bind_some, hdo, Bool.and_eq_true, Bool.or_eq_true, Bool.not_eq_true', hf] at h1
  have h2 := h1.1.resolve_left (by simp)
  simpa using h2
/-- Who names a slot comes behind the operation that fills it, or (an anchored one's) is waited for by it. -/
theorem Drw.name (D : Drw P ptrs ops N as its) {x y : It} (hx : x ∈ its) (hy : y ∈ its) (hne : y.i ≠ x.i) {d : Nat} (hd : x.o.dst = some d) (hn : d ∈ y.names ops) : y.anc.testBit x.i = true ∨ (x.isAn = true ∧ x.anc.testBit y.i = true) := by
  have h := D.slots
  unfold slotsOk at h
  rw [List.all_eq_true] at h
  have h1 := h x hx
  obtain ⟨o, g1, g2, _, _⟩ := D.mem hx
  have hdo : o.dst = some d := by rw [g2] at hd; exact hd
  rw [g1] at h1
  simp only [Option.bind_some, hdo, Bool.and_eq_true, List.all_eq_true, Bool.or_eq_true, Bool.not_eq_true', beq_iff_eq] at h1
  have h2 := h1.2 y hy
  rcases h2 with ((h2 | h2) | h2) | h2
  · exact absurd h2 hne
  · exact absurd hn (by simpa using h2)
  · exact .inl h2
  · exact .inr h2

theorem asks_names {x : It} {t : Nat} (h : t ∈ x.asks ops) : t ∈ x.names ops := by
  unfold It.asks at h
  unfold It.names
  rcases List.mem_append.1 h with h | h
  · refine List.mem_append_left _ ?_
    split at h
    · rename_i o ho
      exact List.mem_append_right _ h
    · simp at h
  · exact List.mem_append_right _ h

end

/-! ### Reading a greater memory -/

section
variable {rd rd' : Rd}
def RdLe (rd rd' : Rd) : Prop := ∀ b x, rd b = some x → rd' b = some x
theorem RdLe.cutB (h : RdLe rd rd') {b : BId} {o n : Nat} {l : List V} (e : cutB o n (rd b) = some l) : cutB o n (rd' b) = some l := by
  cases hb : rd b with
  | none => rw [hb] at e; cases e
  | some x => rw [h b x hb, ← hb]; exact e
theorem RdLe.cells (h : RdLe rd rd') {a : Ad} {n : Nat} {l : List V} (e : rdCells rd a n = some l) : rdCells rd' a n = some l := h.cutB e
theorem RdLe.live (h : RdLe rd rd') {b : BId} (e : isLive (rd b) = true) : isLive (rd' b) = true := by
  cases hb : rd b with
  | none => rw [hb] at e; cases e
  | some x => rw [h b x hb]; rfl
theorem RdLe.noStr (h : RdLe rd rd') {b : BId} (e : noStr (rd b) = true) : noStr (rd' b) = true := by
  cases hb : rd b with
  | none => rw [hb] at e; cases e
  | some x => rw [h b x hb, ← hb]; exact e
theorem RdLe.same (h : RdLe rd rd') {a b : Ad} {r : Bool} (e : samePlain rd a b = some r) : samePlain rd' a b = some r := by
  unfold samePlain at e ⊢
  cases hb : a.b.beq b.b with
  | true =>
    rw [hb] at e
    cases hl : isLive (rd a.b) with
    | false => rw [hl] at e; cases e
    | true => rw [hl] at e; rw [h.live hl]; exact e
  | false =>
    rw [hb] at e
    cases hl : Go.AM.noStr (rd a.b) && Go.AM.noStr (rd b.b) with
    | false => rw [hl] at e; cases e
    | true =>
      rw [hl] at e
      simp only [Bool.and_eq_true] at hl
      rw [h.noStr hl.1, h.noStr hl.2]; exact e
theorem RdLe.ptr (h : RdLe rd rd') {a b : Option Ad} {r : Bool} (e : samePtr rd a b = some r) : samePtr rd' a b = some r := by
  cases a <;> cases b <;> first | exact e | exact h.same e
theorem RdLe.pv (h : RdLe rd rd') {x y : V} {r : Bool} (e : samePV rd x y = some r) : samePV rd' x y = some r := by
  unfold samePV at e ⊢
  split at e
  · exact h.ptr e
  · cases e
theorem RdLe.eqIf (h : RdLe rd rd') {ptrs : List TypeId} {x y : V} {r : Bool} (e : eqIf rd ptrs x y = some r) : eqIf rd' ptrs x y = some r := by
  unfold Go.AM.eqIf at e ⊢
  split at e
  · exact e
  · rename_i t x
    split at e
    · exact e
    · rename_i u y
      cases htu : Nat.beq t u with
      | false => rw [htu] at e; exact e
      | true =>
        rw [htu] at e
        cases hm : memN t ptrs with
        | false => rw [hm] at e; cases e
        | true => rw [hm] at e; exact h.pv e
    · cases e
  · cases e

mutual
theorem RdLe.eqV (h : RdLe rd rd') : ∀ (k : EqK) (x y : V) (r : Bool), eqV rd k x y = some r → eqV rd' k x y = some r
  | .bool, x, y, r, e => e
  | .int, x, y, r, e => e
  | .str, x, y, r, e => e
  | .ptr, x, y, r, e => h.pv e
  | .iface _ ptrs, x, y, r, e => h.eqIf e
  | .struct fs, x, y, r, e => by
    unfold Go.AM.eqV at e ⊢
    split at e
    · exact RdLe.eqFs h fs _ _ r e
    · cases e
  | .nilS, x, y, r, e => e
  | .nilM, x, y, r, e => e
  | .nilF, x, y, r, e => e
theorem RdLe.eqFs (h : RdLe rd rd') : ∀ (fs : List (Nat × Option Nat × EqK)) (xs ys : List V) (r : Bool), eqFs rd fs xs ys = some r → eqFs rd' fs xs ys = some r
  | [], xs, ys, r, e => e
  | (off, n, k) :: fs, xs, ys, r, e => by
    unfold Go.AM.eqFs at e ⊢
    split at e
    · rename_i x hx
      split at e
      · rename_i y hy
        split at e
        · rename_i hv
          rw [RdLe.eqV h k x y true hv]
          exact RdLe.eqFs h fs xs ys r e
        · rename_i hv
          rw [RdLe.eqV h k x y false hv]
          exact e
        · cases e
      · cases e
    · cases e
end

theorem okO_ok {x : Option V} {v : V} {e : Eff} (h : okO x = .ok v e) : x = some v ∧ e = .no := by
  unfold okO at h
  split at h
  · cases h; exact ⟨rfl, rfl⟩
  · cases h

theorem RdLe.eqG (h : RdLe rd rd') {f : Bool → Bool} {k : EqK} {cst : Bool} {x y v : V} (e : eqG rd f k cst x y = some v) : eqG rd' f k cst x y = some v := by
  have key : ∀ {x y : V}, boolO f (Go.AM.eqV rd k x y) = some v → boolO f (Go.AM.eqV rd' k x y) = some v := fun {x y} e => by
    cases hv : Go.AM.eqV rd k x y with
    | none => rw [hv] at e; cases e
    | some r => rw [hv] at e; rw [RdLe.eqV h k x y r hv]; exact e
  unfold Go.AM.eqG at e ⊢
  split at e
  · exact e
  · exact key e
theorem RdLe.eqOp (h : RdLe rd rd') {op : BinOp} {k : EqK} {cst : Bool} {x y v : V} (e : eqOp rd op k cst x y = some v) : eqOp rd' op k cst x y = some v := by
  cases op <;> first | exact h.eqG (f := fun r => r) e | exact h.eqG (f := not) e | exact e
theorem RdLe.binV (h : RdLe rd rd') {op : BinOp} {k : EqK} {cst : Bool} {x y v : V} (e : binV rd op k cst x y = some v) : binV rd' op k cst x y = some v := by
  unfold Go.AM.binV at e ⊢
  split at e
  · exact e
  · exact e
  · exact h.eqOp e

/-- What reads a memory, reads the same in a greater one. -/
theorem aop_mono (h : RdLe rd rd') {env : Ev} {X : O} (hk : kdOf X = .read) {v : V} (e : aop rd env X = .ok v .no) : aop rd' env X = .ok v .no := by
  cases X <;> first | (simp [kdOf] at hk; done) | skip
  case bin op k cst x y =>
    obtain ⟨e1, _⟩ := okO_ok (show okO (Go.AM.binV rd op k cst (val env x) (val env y)) = .ok v .no from e)
    show okO (Go.AM.binV rd' op k cst (val env x) (val env y)) = .ok v .no
    rw [h.binV e1]; rfl
  case conv c x =>
    cases c <;> simp [kdOf] at hk
    simp only [aop, convV, convBS] at e ⊢
    split at e
    · exact e
    · rename_i a n c hx
      cases hr : rdCells rd a n with
      | none => rw [hr] at e; cases e
      | some l => rw [hr] at e; rw [h.cells hr]; exact e
    · cases e
  case load n a =>
    simp only [aop, aLoad] at e ⊢
    split at e
    · rename_i a ha
      obtain ⟨e1, _⟩ := okO_ok e
      cases n with
      | some k =>
        simp only at e1 ⊢
        cases hr : rdCells rd a k with
        | none => rw [hr] at e1; cases e1
        | some l => rw [hr] at e1; rw [h.cells hr, e1]; rfl
      | none =>
        simp only at e1 ⊢
        cases hr : rdCells rd a 1 with
        | none => rw [hr] at e1; cases e1
        | some l => rw [hr] at e1; rw [h.cells hr, e1]; rfl
    · cases e
  case slV size x lo hi mx =>
    simp only [aop, aSlV] at e ⊢
    split at e
    · rename_i a len cap ha
      cases hg : goodO rd size a with
      | false => rw [hg] at e; cases e
      | true =>
        rw [hg] at e
        have : goodO rd' size a = true := by
          cases a with
          | none => rfl
          | some a =>
            simp only [goodO, szGood] at hg ⊢
            split at hg
            · rename_i n hn
              cases hb : rd a.b with
              | none => rw [hb] at hg; cases hg
              | some x => rw [hb] at hg; rw [h _ _ hb]; exact hg
            · rfl
        rw [this]; exact e
    · cases e
  case lkp kk zero ok m k =>
    simp only [aop, aLkp] at e ⊢
    cases hc : chkK kk (val env k) with
    | false => rw [hc] at e; cases e
    | true =>
      rw [hc] at e
      simp only [cond_true] at e ⊢
      split at e
      · exact e
      · rename_i r hr
        cases hb : rd r with
        | none => rw [hb] at e; cases e
        | some x => rw [hb] at e; rw [h _ _ hb]; exact e
      · cases e
  case call c args =>
    cases c with
    | b b =>
      cases b <;> simp [kdOf] at hk
      simp only [aop, builtinV, arg1] at e ⊢
      split at e
      · rename_i x hx
        cases x with
        | m o =>
          cases o with
          | none => exact e
          | some r =>
            simp only [lenMR] at e ⊢
            cases hb : rd r with
            | none => rw [hb] at e; cases e
            | some x => rw [hb] at e; rw [h _ _ hb]; exact e
        | _ => cases e
      · cases e
    | _ => simp [kdOf] at hk

end

def isMkR : Res → Bool
  | .mk _ _ _ => true
  | _ => false
def isCallR : Res → Bool
  | .call _ _ => true
  | _ => false

section
variable {p : Res → Bool}
/-- Neither made nor called. -/
structure Tame (p : Res → Bool) : Prop where
  fail : p .fail = false
  ok : ∀ v e, p (.ok v e) = false
  rep : ∀ v k b, p (.rep v k b) = false
  any : ∀ l, p (.any l) = false
theorem tame_mk : Tame isMkR := ⟨rfl, fun _ _ => rfl, fun _ _ _ => rfl, fun _ => rfl⟩
theorem tame_call : Tame isCallR := ⟨rfl, fun _ _ => rfl, fun _ _ _ => rfl, fun _ => rfl⟩
theorem Tame.okO (h : Tame p) (x : Option V) : p (okO x) = false := by cases x <;> first | exact h.fail | exact h.ok _ _
theorem Tame.effO (h : Tame p) (v : V) (x : Option Eff) : p (effO v x) = false := by cases x <;> first | exact h.fail | exact h.ok _ _
theorem Tame.ofO (h : Tame p) {α : Type} (x : Option α) {f : α → Res} (hf : ∀ a, p (f a) = false) : p (ofO x f) = false := by cases x <;> first | exact h.fail | exact hf _
theorem Tame.cond (_h : Tame p) (b : Bool) {x y : Res} (hx : p x = false) (hy : p y = false) : p (bif b then x else y) = false := by cases b <;> assumption
end

/-- What makes a block is a 'make', or anchored. -/
theorem aop_notmk' {rd : Rd} {env : Ev} {X : O} (hk : kdOf X = .pure ∨ kdOf X = .read) : isMkR (aop rd env X) = false := by
  have T := tame_mk
  cases X <;> first
    | (rcases hk with hk | hk <;> simp [kdOf] at hk <;> done)
    | rfl
    | exact T.okO _
    | skip
  case pick c a b => simp only [aop, aPick]; split <;> rfl
  case build z ps => simp only [aop, aBuild]; split <;> rfl
  case load n a => simp only [aop, aLoad]; split <;> first | rfl | exact T.okO _
  case nilc x => simp only [aop, aNilc]; split <;> rfl
  case conv c x =>
    cases c <;> first
      | (rcases hk with hk | hk <;> simp [kdOf] at hk <;> done)
      | (simp only [aop, convV, convI]; split <;> rfl)
      | (simp only [aop, convV, convR]; split <;> rfl)
      | (simp only [aop, convV, convS]; split <;> rfl)
      | (simp only [aop, convV, convBS]; split <;> first | rfl | exact T.ofO _ fun _ => T.ofO _ fun _ => rfl)
  case slS x lo hi => simp only [aop, aSlS]; split <;> first | rfl | (split <;> rfl)
  case slV n x lo hi mx => simp only [aop, aSlV]; split <;> first | rfl | (refine T.cond _ ?_ rfl; split <;> rfl)
  case slA n s x lo hi mx => simp only [aop, aSlA]; split <;> first | rfl | (refine T.cond _ ?_ rfl; split <;> rfl)
  case fa o x => simp only [aop, aFa]; split <;> rfl
  case fld o n x => simp only [aop, aFld]; split <;> first | rfl | exact T.okO _
  case iaV s x ix => simp only [aop, aIaV]; split <;> first | rfl | exact T.ofO _ fun _ => T.cond _ rfl rfl
  case iaA l s x ix => simp only [aop, aIaA]; split <;> first | rfl | exact T.ofO _ fun _ => T.cond _ rfl rfl
  case ixS x ix => simp only [aop, aIxS]; split <;> first | rfl | exact T.ofO _ fun _ => T.ofO _ fun _ => rfl
  case ixA l s n x ix => simp only [aop, aIxA]; split <;> first | rfl | exact T.ofO _ fun _ => T.cond _ (T.okO _) rfl
  case lkp kk z ok m k =>
    simp only [aop, aLkp]
    refine T.cond _ ?_ rfl
    split <;> first | rfl | skip
    simp only [lkpE]
    split <;> first | rfl | (split <;> rfl)
  case tasI l m z ok x => simp only [aop, aTasI, noAs]; split <;> first | rfl | exact T.cond _ rfl rfl | exact T.cond _ rfl (T.cond _ (T.cond _ rfl rfl) rfl)
  case tasC t z ok x => simp only [aop, aTasC, noAs]; split <;> first | rfl | exact T.cond _ rfl rfl | exact T.cond _ rfl (T.cond _ rfl rfl)
  case ext x n => simp only [aop, aExt]; split <;> first | rfl | exact T.okO _
  case call c args =>
    cases c with
    | b b =>
      cases b <;> first
        | (rcases hk with hk | hk <;> simp [kdOf] at hk <;> done)
        | skip
      case cap => simp only [aop, builtinV, arg1]; split <;> first | rfl | (simp only [capR]; split <;> first | rfl | (split <;> rfl))
      case lenS => simp only [aop, builtinV, arg1]; split <;> first | rfl | (simp only [lenSR]; split <;> rfl)
      case lenV => simp only [aop, builtinV, arg1]; split <;> first | rfl | (simp only [lenVR]; split <;> rfl)
      case lenM => simp only [aop, builtinV, arg1]; split <;> first | rfl | (simp only [lenMR]; split <;> first | rfl | (split <;> rfl))
      case lenN n => simp only [aop, builtinV, arg1]; split <;> rfl
      case max => simp only [aop, builtinV, argF]; split <;> first | rfl | exact T.okO _
      case min => simp only [aop, builtinV, argF]; split <;> first | rfl | exact T.okO _
      case usSliceData => simp only [aop, builtinV, arg1]; split <;> first | rfl | (simp only [usSlV]; split <;> first | rfl | exact T.cond _ rfl rfl)
    | _ => rcases hk with hk | hk <;> simp [kdOf] at hk
theorem aop_notmk {rd : Rd} {env : Ev} {X : O} (hk : kdOf X = .pure ∨ kdOf X = .read) {g : Bool} {v : Nat → V} {blk : Blk} : aop rd env X ≠ .mk g v blk := fun e => by
  have := aop_notmk' (rd := rd) (env := env) hk
  rw [e] at this; cases this

/-- Only calls call. -/
theorem aop_notcall' {rd : Rd} {env : Ev} {X : O} (hn : notCall X = true) : isCallR (aop rd env X) = false := by
  have T := tame_call
  cases X <;> first
    | rfl
    | exact T.okO _
    | skip
  case pick c a b => simp only [aop, aPick]; split <;> rfl
  case box x el => simp only [aop, aBox]; exact T.cond _ rfl rfl
  case build z ps => simp only [aop, aBuild]; split <;> rfl
  case buildS z l ps el => simp only [aop, aBuildS]; split <;> rfl
  case load n a => simp only [aop, aLoad]; split <;> first | rfl | exact T.okO _
  case store n a x => simp only [aop, aStore]; split <;> first | rfl | exact T.cond _ (T.effO _ _) rfl
  case nilc x => simp only [aop, aNilc]; split <;> rfl
  case conv c x =>
    cases c <;> first
      | (simp only [aop, convV, convI]; split <;> rfl)
      | (simp only [aop, convV, convR]; split <;> rfl)
      | (simp only [aop, convV, convS]; split <;> rfl)
      | (simp only [aop, convV, convB]; split <;> rfl)
      | (simp only [aop, convV, convBS]; split <;> first | rfl | exact T.ofO _ fun _ => T.ofO _ fun _ => rfl)
  case mkS z b el l c => simp only [aop, aMkS]; exact T.ofO _ fun _ => T.ofO _ fun _ => T.cond _ rfl rfl
  case slS x lo hi => simp only [aop, aSlS]; split <;> first | rfl | (split <;> rfl)
  case slV n x lo hi mx => simp only [aop, aSlV]; split <;> first | rfl | (refine T.cond _ ?_ rfl; split <;> rfl)
  case slA n s x lo hi mx => simp only [aop, aSlA]; split <;> first | rfl | (refine T.cond _ ?_ rfl; split <;> rfl)
  case fa o x => simp only [aop, aFa]; split <;> rfl
  case fld o n x => simp only [aop, aFld]; split <;> first | rfl | exact T.okO _
  case iaV s x ix => simp only [aop, aIaV]; split <;> first | rfl | exact T.ofO _ fun _ => T.cond _ rfl rfl
  case iaA l s x ix => simp only [aop, aIaA]; split <;> first | rfl | exact T.ofO _ fun _ => T.cond _ rfl rfl
  case ixS x ix => simp only [aop, aIxS]; split <;> first | rfl | exact T.ofO _ fun _ => T.ofO _ fun _ => rfl
  case ixA l s n x ix => simp only [aop, aIxA]; split <;> first | rfl | exact T.ofO _ fun _ => T.cond _ (T.okO _) rfl
  case lkp kk z ok m k =>
    simp only [aop, aLkp]
    refine T.cond _ ?_ rfl
    split <;> first | rfl | skip
    simp only [lkpE]
    split <;> first | rfl | (split <;> rfl)
  case mset kk m k x =>
    simp only [aop, aMset]
    refine T.cond _ ?_ rfl
    split <;> first | rfl | skip
    simp only [msetE]
    split <;> first | rfl | (split <;> first | rfl | exact T.cond _ rfl rfl)
  case ment kk z m k =>
    simp only [aop, aMent]
    refine T.cond _ ?_ rfl
    split <;> first | rfl | skip
    simp only [mentE]
    split <;> first | rfl | (split <;> first | rfl | exact T.cond _ rfl rfl)
  case mest m s x =>
    simp only [aop, aMest]
    split <;> first | rfl | skip
    refine T.ofO _ fun _ => ?_
    simp only [mestE]
    split <;> first | rfl | (split <;> rfl)
  case rngS x => simp only [aop, aRngS]; split <;> rfl
  case rngM x => simp only [aop, aRngM]; split <;> first | rfl | (simp only [rngE]; split <;> rfl)
  case nxtS x =>
    simp only [aop, aNxtS]
    refine T.ofO _ fun _ => ?_
    simp only [nxtSE]
    split <;> first | rfl | exact T.cond _ rfl rfl
  case nxtM x =>
    simp only [aop, aNxtM]
    refine T.ofO _ fun _ => ?_
    simp only [nxtM0]
    split <;> first | rfl | skip
    simp only [nxtME]
    split <;> first | rfl | skip
    refine T.cond _ ?_ rfl
    simp only [nxtL]
    split <;> rfl
  case ent x =>
    simp only [aop, aEnt]
    refine T.ofO _ fun _ => ?_
    simp only [entE]
    split <;> first | rfl | skip
    simp only [entME]
    split <;> first | rfl | exact T.cond _ (T.ofO _ fun _ => T.ofO _ fun _ => rfl) rfl
  case tasI l m z ok x => simp only [aop, aTasI, noAs]; split <;> first | rfl | exact T.cond _ rfl rfl | exact T.cond _ rfl (T.cond _ (T.cond _ rfl rfl) rfl)
  case tasC t z ok x => simp only [aop, aTasC, noAs]; split <;> first | rfl | exact T.cond _ rfl rfl | exact T.cond _ rfl (T.cond _ rfl rfl)
  case ext x n => simp only [aop, aExt]; split <;> first | rfl | exact T.okO _
  case dfr f args => simp only [aop, aDfr]; split <;> rfl
  case call c args =>
    cases c with
    | b b =>
      cases b
      case append s bs el =>
        simp only [aop, builtinV, arg2]
        split <;> first | rfl | skip
        simp only [appendV]
        split <;> first | rfl | skip
        refine T.ofO _ fun _ => T.ofO _ fun _ => ?_
        simp only [appendN]
        refine T.cond _ ?_ (T.cond _ ?_ rfl)
        · simp only [appIn]; split <;> first | rfl | (refine T.cond _ ?_ rfl; split <;> first | rfl | exact T.effO _ _)
        · simp only [appOut]
          split <;> first | exact T.cond _ rfl rfl | skip
          refine T.ofO _ fun _ => ?_
          split <;> first | rfl | skip
          simp only [appRep]
          split <;> first | rfl | exact T.cond _ rfl rfl
      case cap => simp only [aop, builtinV, arg1]; split <;> first | rfl | (simp only [capR]; split <;> first | rfl | (split <;> rfl))
      case clear z => simp only [aop, builtinV, arg1]; split <;> first | rfl | (simp only [clearV]; split <;> first | rfl | (split <;> first | rfl | exact T.effO _ _))
      case copy s =>
        simp only [aop, builtinV, arg2]
        split <;> first | rfl | skip
        simp only [copyV]
        split <;> first | rfl | skip
        refine T.ofO _ fun _ => T.ofO _ fun _ => ?_
        simp only [copyN]
        split <;> first | rfl | (split <;> first | rfl | exact T.effO _ _)
      case delete kk =>
        simp only [aop, builtinV, arg2]
        split <;> first | rfl | skip
        simp only [deleteV]
        split <;> first | rfl | exact T.cond _ rfl rfl | skip
        split <;> first | rfl | skip
        simp only [deleteE]
        refine T.cond _ ?_ rfl
        split <;> rfl
      case clearM => simp only [aop, builtinV, arg1]; split <;> first | rfl | (simp only [clearM]; split <;> first | rfl | (split <;> rfl))
      case lenS => simp only [aop, builtinV, arg1]; split <;> first | rfl | (simp only [lenSR]; split <;> rfl)
      case lenV => simp only [aop, builtinV, arg1]; split <;> first | rfl | (simp only [lenVR]; split <;> rfl)
      case lenM => simp only [aop, builtinV, arg1]; split <;> first | rfl | (simp only [lenMR]; split <;> first | rfl | (split <;> rfl))
      case lenN n => simp only [aop, builtinV, arg1]; split <;> rfl
      case max => simp only [aop, builtinV, argF]; split <;> first | rfl | exact T.okO _
      case min => simp only [aop, builtinV, argF]; split <;> first | rfl | exact T.okO _
      case usString el =>
        simp only [aop, builtinV, arg2]
        split <;> first | rfl | skip
        refine T.ofO _ fun _ => ?_
        simp only [usStrV]
        split <;> first | rfl | exact T.cond _ rfl rfl | skip
        refine T.cond _ rfl (T.cond _ ?_ rfl)
        simp only [usStr]
        split <;> first | rfl | exact T.cond _ (T.ofO _ fun _ => T.ofO _ fun _ => rfl) rfl
      case usSliceData => simp only [aop, builtinV, arg1]; split <;> first | rfl | (simp only [usSlV]; split <;> first | rfl | exact T.cond _ rfl rfl)
    | _ => simp [notCall] at hn
theorem aop_notcall {rd : Rd} {env : Ev} {X : O} (hn : notCall X = true) {f : FuncId} {args : List V} : aop rd env X ≠ .call f args := fun e => by
  have := aop_notcall' (rd := rd) (env := env) hn
  rw [e] at this; cases this

end Go.AM

/- Regions whose order is drawn: laying floating operations, one step of each kind, the induction. -/
namespace Go.AM

/-- The abstract heap gets a block under a name that is not in use. -/
theorem Ext.setFree {φ0 φ : Phi} {h0 h : Hp} {w0 w : World} (e : Ext φ0 h0 w0 φ h w) {b : BId} (x : Option Blk) (hb : φ b = none) (hnew : b.isNew h0.next) : Ext φ0 h0 w0 φ (h.set b x) w := by
  have hne : ∀ c q, φ c = some q → c ≠ b := fun c q hc e => by rw [e, hb] at hc; cases hc
  have r := e.rel
  refine ⟨e.sub, ⟨?_, ?_, r.old, r.next, r.grk, fun n q y hc hy hr => by rw [Hp.rd_set_ne (hne _ q hc)] at hy; exact r.exz n q y hc hy hr⟩, e.size, e.unch, ?_, ?_, e.newid, e.next, e.tape, e.os, e.out⟩
  · intro c q y hc hy
    rw [Hp.rd_set_ne (hne c q hc)] at hy
    exact r.blk c q y hc hy
  · intro c d p q y z hc hd hy hz he
    rw [Hp.rd_set_ne (hne c p hc)] at hy
    rw [Hp.rd_set_ne (hne d q hd)] at hz
    exact r.inj c d p q y z hc hd hy hz he
  · intro c q y hc hy
    rw [Hp.rd_set_ne (hne c q hc)] at hy
    exact e.fresh c q y hc hy
  · intro c hc hn
    have : c ≠ b := fun e => hn (by rw [e]; exact hnew)
    rw [Hp.rd_set_ne this]
    exact e.abs c hc hn

/-- More names are held back. -/
theorem Ext.bump {φ0 φ : Phi} {h0 h : Hp} {w0 w : World} (e : Ext φ0 h0 w0 φ h w) (m : Nat) : Ext φ0 h0 w0 φ ⟨h.rd, h.next + m⟩ w := by
  have r := e.rel
  exact ⟨e.sub, ⟨r.blk, r.inj, r.old, fun b hb => r.next b (BId.isNew_mono (Nat.le_add_right _ _) hb), r.grk, r.exz⟩, e.size, e.unch, e.fresh, e.abs, e.newid, Nat.le_trans e.next (Nat.le_add_right _ _), e.tape, e.os, e.out⟩

/-- What a floating operation that lags has been told, its step taken by the abstract machine alone. -/
def Rec (base : Nat) (makes : List Nat) (s : AS) (x : It) : Prop :=
  if wants s.env x.o.grd = true then
    (∃ v, aop s.h.rd s.env x.o.op = .ok v .no ∧ ∀ d, x.o.dst = some d → s.env d = v) ∨
    (∃ g v blk, x.isMk = true ∧ aop s.h.rd s.env x.o.op = .mk g v blk ∧ (∀ d, x.o.dst = some d → s.env d = v (base + makes.idxOf x.i)) ∧ s.h.rd (gId g (base + makes.idxOf x.i)) = some blk)
  else ∀ d, x.o.dst = some d → s.env d = .tup []

structure Lag (P : Program) (φ0 : Phi) (h0 : Hp) (w0 : World) (N base : Nat) (makes : List Nat) (fl : List It) (L : It → Prop) (listed : Array Bool) (s : AS) (φ : Phi) (a : Act) (w : World) : Prop where
  ext : Ext φ0 h0 w0 φ s.h w
  env : EnvRelP φ (fun n => ∀ x ∈ fl, L x → listed.getD x.i false = false → x.o.dst ≠ some n) s.env a.tmps
  defs : DefsRel P φ s.defs a.defers
  size : a.tmps.size = N
  recd : ∀ x ∈ fl, L x → listed.getD x.i false = false → Rec base makes s x
  next : base + makes.length ≤ s.h.next
  free : ∀ x ∈ fl, x.isMk = true → (L x → listed.getD x.i false = false) → ∀ g, φ (gId g (base + makes.idxOf x.i)) = none

theorem gId_inj {g g' : Bool} {n n' : Nat} (h : gId g n = gId g' n') : n = n' := by cases g <;> cases g' <;> simp [gId] at h <;> exact h
theorem idxOf_inj {l : List Nat} {a b : Nat} (ha : a ∈ l) (hb : b ∈ l) (h : l.idxOf a = l.idxOf b) : a = b := by
  have h1 := List.getElem_idxOf (List.idxOf_lt_length_iff.2 ha)
  have h2 := List.getElem_idxOf (List.idxOf_lt_length_iff.2 hb)
  rw [← h1, ← h2]
  congr 1

theorem wants_agree {env env' : Ev} {g : Option (Nat × Bool)} (h : ∀ t ∈ grdS g, env' t = env t) : wants env' g = wants env g := by
  cases g with
  | none => rfl
  | some p => obtain ⟨t, w⟩ := p; simp only [wants]; rw [h t (List.mem_cons_self ..)]

section
variable {P : Program} {ptrs : List TypeId} {ops : Array Oper} {N : Nat} {as : List Nat} {its fl : List It} {φ0 : Phi} {h0 : Hp} {w0 : World} {base : Nat} {makes : List Nat} {L : It → Prop} {listed : Array Bool}

/-- Which of the operations float, which make blocks. -/
structure Fl (ops : Array Oper) (its fl : List It) (makes : List Nat) : Prop where
  mem : ∀ x ∈ fl, x ∈ its ∧ x.isAn = false
  mks : ∀ x ∈ fl, x.isMk = true → x.i ∈ makes

theorem kd_of {D : Drw P ptrs ops N as its} {x : It} (hx : x ∈ its) (hf : x.isAn = false) : x.k = kdOf x.o.op := by
  obtain ⟨o, _, _, hk, _⟩ := D.mem hx
  unfold kOf at hk
  split at hk
  · rw [It.isAn, hk] at hf; cases hf
  · exact hk

theorem Rec.keep {s s' : AS} (D : Drw P ptrs ops N as its) {x : It} (hx : x ∈ its) (hf : x.isAn = false) (hag : ∀ t ∈ x.names ops, s'.env t = s.env t)
    (hread : x.isRd = true → wants s.env x.o.grd = true → ∀ v, aop s.h.rd s.env x.o.op = .ok v .no → (∀ d, x.o.dst = some d → s.env d = v) → aop s'.h.rd s'.env x.o.op = .ok v .no)
    (hmem : x.isMk = true → ∀ g blk, s.h.rd (gId g (base + makes.idxOf x.i)) = some blk → s'.h.rd (gId g (base + makes.idxOf x.i)) = some blk) (r : Rec base makes s x) : Rec base makes s' x := by
  have hk := kd_of (D := D) hx hf
  have hsl : Agree s'.env s.env (slotsO x.o.op) := fun t ht => hag t (List.mem_append_right _ (List.mem_append_left _ ht))
  have hgr : wants s'.env x.o.grd = wants s.env x.o.grd := wants_agree fun t ht => hag t (List.mem_append_right _ (List.mem_append_right _ ht))
  have hdst : ∀ d, x.o.dst = some d → s'.env d = s.env d := fun d hd => by
    obtain ⟨o, h1, h2, _, _⟩ := D.mem hx
    refine hag d ?_
    unfold It.names
    rw [h1]
    have : o.dst = some d := by rw [h2] at hd; exact hd
    refine List.mem_append_left _ (List.mem_append_left _ ?_)
    rw [this]; exact List.mem_cons_self ..
  unfold Rec at r ⊢
  rw [hgr]
  by_cases hw : wants s.env x.o.grd = true
  · rw [if_pos hw] at r ⊢
    rcases r with ⟨v, h1, h2⟩ | ⟨g, v, blk, hm, h1, h2, h3⟩
    · refine .inl ⟨v, ?_, fun d hd => by rw [hdst d hd]; exact h2 d hd⟩
      cases hkx : x.k with
      | pure => rw [aop_pure (rd' := s.h.rd) (by rw [← hk]; exact hkx), aop_agree hsl]; exact h1
      | make => rw [aop_make (rd' := s.h.rd) (by rw [← hk]; exact hkx), aop_agree hsl]; exact h1
      | read => exact hread (by simp [It.isRd, hkx]) hw v h1 h2
      | anch => rw [It.isAn, hkx] at hf; cases hf
    · refine .inr ⟨g, v, blk, hm, ?_, fun d hd => by rw [hdst d hd]; exact h2 d hd, hmem hm g blk h3⟩
      have hkx : x.k = .make := by
        unfold It.isMk at hm
        split at hm
        · assumption
        · cases hm
      rw [aop_make (rd' := s.h.rd) (by rw [← hk]; exact hkx), aop_agree hsl]; exact h1
  · rw [if_neg hw] at r ⊢
    intro d hd
    rw [hdst d hd]; exact r d hd

/-- A floating operation's step, taken by the abstract machine alone. -/
theorem lay_one {ch : Hd} {K : AS → Prop} (D : Drw P ptrs ops N as its) (F : Fl ops its fl makes) (hbase : h0.next ≤ base) {s : AS} {φ : Phi} {a : Act} {w : World} {z : It} (hz : z ∈ fl) (hL : ¬ L z) (hun : listed.getD z.i false = false)
    (hanc : ∀ x ∈ fl, L x → listed.getD x.i false = false → x.anc.testBit z.i = false) (hlag : Lag P φ0 h0 w0 N base makes fl L listed s φ a w) (h : awDI ch base K s (.fl z.o (makes.idxOf z.i))) :
    ∃ s', K s' ∧ Lag P φ0 h0 w0 N base makes fl (fun x => L x ∨ x = z) listed s' φ a w := by
  obtain ⟨hzi, hzf⟩ := F.mem z hz
  have hk := kd_of (D := D) hzi hzf
  -- the slots that lagging ones name stay
  have hkeep : ∀ x ∈ fl, L x → listed.getD x.i false = false → ∀ d, z.o.dst = some d → d ∉ x.names ops := fun x hx hLx hux d hd hn => by
    have hxz : x.i ≠ z.i := fun e => hL (by rw [← D.uniq (F.mem x hx).1 hzi e]; exact hLx)
    rcases D.name hzi (F.mem x hx).1 hxz hd hn with h1 | ⟨h1, _⟩
    · rw [hanc x hx hLx hux] at h1; cases h1
    · rw [hzf] at h1; cases h1
  have hown : ∀ d, z.o.dst = some d → ∀ t ∈ slotsO z.o.op ++ grdS z.o.grd, t ≠ d := fun d hd t ht e => D.own hzi hzf hd (by subst e; exact List.mem_append_right _ ht)
  -- a step that puts v, the heap h' greater
  have step : ∀ (v : V) (h' : Hp), (h' = s.h ∨ ∃ g blk, z.isMk = true ∧ s.h.rd (gId g (base + makes.idxOf z.i)) = none ∧ h' = s.h.set (gId g (base + makes.idxOf z.i)) (some blk)) →
      Rec base makes (s.to z.o.dst v h') z → Lag P φ0 h0 w0 N base makes fl (fun x => L x ∨ x = z) listed (s.to z.o.dst v h') φ a w := fun v h' hh hrz => by
    have hput : ∀ t, (∀ d, z.o.dst = some d → t ≠ d) → (s.to z.o.dst v h').env t = s.env t := fun t ht => by
      show putE s.env z.o.dst v t = s.env t
      unfold putE
      cases hd : z.o.dst with
      | none => rfl
      | some d => simp only; rw [if_neg (ht d hd)]
    have hle : RdLe s.h.rd h'.rd := fun b x hb => by
      rcases hh with rfl | ⟨g, blk, _, hn, rfl⟩
      · exact hb
      · rw [Hp.rd_set_ne (fun e => by rw [e, hn] at hb; cases hb)]; exact hb
    refine ⟨?_, ?_, hlag.defs, hlag.size, ?_, ?_, ?_⟩
    · rcases hh with rfl | ⟨g, blk, hm, hn, rfl⟩
      · exact hlag.ext
      · refine hlag.ext.setFree _ (hlag.free z hz hm (fun h => absurd h hL) g) ?_
        cases g <;> simp [gId, BId.isNew] <;> omega
    · intro n hn
      have hne : ∀ d, z.o.dst = some d → n ≠ d := fun d hd e => hn z hz (.inr rfl) hun (by rw [hd, e])
      rw [hput n hne]
      exact hlag.env n fun x hx hLx hux => hn x hx (.inl hLx) hux
    · intro x hx hLx hux
      by_cases hxz : x = z
      · subst hxz; exact hrz
      · have hLx' := hLx.resolve_right hxz
        refine Rec.keep D (F.mem x hx).1 (F.mem x hx).2 (fun t ht => hput t fun d hd e => hkeep x hx hLx' hux d hd (by rw [← e]; exact ht)) ?_ ?_ (hlag.recd x hx hLx' hux)
        · intro hrd _ v' hv' _
          have hkx := kd_of (D := D) (F.mem x hx).1 (F.mem x hx).2
          have hkr : x.k = .read := by
            unfold It.isRd at hrd
            split at hrd
            · assumption
            · cases hrd
          have hsl : Agree (s.to z.o.dst v h').env s.env (slotsO x.o.op) := fun t ht => hput t fun d hd e => hkeep x hx hLx' hux d hd (by rw [← e]; exact List.mem_append_right _ (List.mem_append_left _ ht))
          rw [aop_agree hsl]
          exact aop_mono hle (by rw [← hkx]; exact hkr) hv'
        · intro _ g blk hb
          exact hle _ _ hb
    · rcases hh with rfl | ⟨g, blk, hm, hn, rfl⟩
      · exact hlag.next
      · exact hlag.next
    · intro x hx hm hxl g
      exact hlag.free x hx hm (fun h => hxl (.inl h)) g
  have hown' : ∀ (v : V) (h' : Hp), (∀ t ∈ slotsO z.o.op, (s.to z.o.dst v h').env t = s.env t) ∧ wants (s.to z.o.dst v h').env z.o.grd = wants s.env z.o.grd ∧ ∀ d, z.o.dst = some d → (s.to z.o.dst v h').env d = v := fun v h' => by
    have hput : ∀ t ∈ slotsO z.o.op ++ grdS z.o.grd, (s.to z.o.dst v h').env t = s.env t := fun t ht => by
      show putE s.env z.o.dst v t = s.env t
      unfold putE
      cases hd : z.o.dst with
      | none => rfl
      | some d => simp only; rw [if_neg (hown d hd t ht)]
    refine ⟨fun t ht => hput t (List.mem_append_left _ ht), wants_agree fun t ht => hput t (List.mem_append_right _ ht), fun d hd => ?_⟩
    show putE s.env z.o.dst v d = v
    rw [hd]; simp [putE]
  simp only [awDI] at h
  by_cases hw : wants s.env z.o.grd = true
  · rw [if_pos hw] at h
    cases hR : aop s.h.rd s.env z.o.op with
    | ok v e =>
      cases e with
      | put b blk => rw [hR] at h; exact h.elim
      | no =>
        rw [hR] at h
        obtain ⟨q1, q2, q3⟩ := hown' v s.h
        refine ⟨_, h, step v s.h (.inl rfl) ?_⟩
        unfold Rec
        rw [q2, if_pos hw]
        refine .inl ⟨v, ?_, q3⟩
        rw [aop_agree (env' := s.env) (fun t ht => q1 t ht)]
        exact hR
    | mk g v blk =>
      rw [hR] at h
      obtain ⟨hn, h⟩ := h
      have hkz : z.k = .make := by
        cases hkz : z.k with
        | pure => exact absurd hR (aop_notmk (.inl (by rw [← hk]; exact hkz)))
        | read => exact absurd hR (aop_notmk (.inr (by rw [← hk]; exact hkz)))
        | make => rfl
        | anch => rw [It.isAn, hkz] at hzf; cases hzf
      have hm : z.isMk = true := by simp [It.isMk, hkz]
      obtain ⟨q1, q2, q3⟩ := hown' (v (base + makes.idxOf z.i)) (s.h.set (gId g (base + makes.idxOf z.i)) (some blk))
      refine ⟨_, h, step _ _ (.inr ⟨g, blk, hm, hn, rfl⟩) ?_⟩
      unfold Rec
      rw [q2, if_pos hw]
      refine .inr ⟨g, v, blk, hm, ?_, q3, Hp.rd_set_same⟩
      rw [aop_make (rd' := s.h.rd) (by rw [← hk]; exact hkz), aop_agree (env' := s.env) (fun t ht => q1 t ht)]
      exact hR
    | _ => rw [hR] at h; exact h.elim
  · rw [if_neg hw] at h
    obtain ⟨q1, q2, q3⟩ := hown' (.tup []) s.h
    refine ⟨_, h, step _ s.h (.inl rfl) ?_⟩
    unfold Rec
    rw [q2, if_neg hw]
    exact q3

theorem Lag.congr {L' : It → Prop} {s : AS} {φ : Phi} {a : Act} {w : World} (h : ∀ x ∈ fl, L x ↔ L' x) (l : Lag P φ0 h0 w0 N base makes fl L listed s φ a w) : Lag P φ0 h0 w0 N base makes fl L' listed s φ a w :=
  ⟨l.ext, fun n hn => l.env n fun x hx hL hu => hn x hx ((h x hx).1 hL) hu, l.defs, l.size, fun x hx hL hu => l.recd x hx ((h x hx).2 hL) hu, l.next, fun x hx hm hl g => l.free x hx hm (fun hL => hl ((h x hx).1 hL)) g⟩

theorem lay_list {ch : Hd} {K : AS → Prop} (D : Drw P ptrs ops N as its) (F : Fl ops its fl makes) (hbase : h0.next ≤ base) {φ : Phi} {a : Act} {w : World} (rest : List DI) : ∀ (l : List It) (L : It → Prop) (s : AS), l.Pairwise (fun x y => x.i < y.i) →
    (∀ z ∈ l, z ∈ fl ∧ ¬ L z ∧ listed.getD z.i false = false ∧ ∀ x ∈ fl, L x → listed.getD x.i false = false → x.anc.testBit z.i = false) → Lag P φ0 h0 w0 N base makes fl L listed s φ a w →
    awDs ch base (l.map (fun x => DI.fl x.o (makes.idxOf x.i)) ++ rest) K s → ∃ s', awDs ch base rest K s' ∧ Lag P φ0 h0 w0 N base makes fl (fun x => L x ∨ x ∈ l) listed s' φ a w
  | [], L, s, _, _, hlag, h => ⟨s, h, hlag.congr fun x _ => by simp⟩
  | z :: l, L, s, hp, hz, hlag, h => by
    obtain ⟨h1, h2, h3, h4⟩ := hz z (List.mem_cons_self ..)
    obtain ⟨s1, hs1, hl1⟩ := lay_one D F hbase h1 h2 h3 h4 hlag h
    have hp' := List.pairwise_cons.1 hp
    obtain ⟨s2, hs2, hl2⟩ := lay_list D F hbase rest l _ s1 hp'.2 (fun y hy => by
      obtain ⟨g1, g2, g3, g4⟩ := hz y (List.mem_cons_of_mem _ hy)
      have hlt := hp'.1 y hy
      refine ⟨g1, fun hL => ?_, g3, fun x hx hLx hux => ?_⟩
      · rcases hL with hL | rfl
        · exact g2 hL
        · omega
      · rcases hLx with hLx | rfl
        · exact g4 x hx hLx hux
        · cases hb : x.anc.testBit y.i with
          | false => rfl
          | true => have := D.lt (F.mem x hx).1 hb; omega) hl1 hs1
    exact ⟨s2, hs2, hl2.congr fun x _ => by rw [List.mem_cons, or_assoc]⟩

/-- The slots that an operation looks at do not lag, if all that it waits for have run. -/
theorem looks_ok (D : Drw P ptrs ops N as its) (F : Fl ops its fl makes) {x : It} (hx : x ∈ its) {o : Oper} (ho : ops[x.i]? = some o) (hanc : ∀ j, x.anc.testBit j = true → listed.getD j false = true) {t : Nat} (ht : t ∈ o.looksAt ops) :
    ∀ y ∈ fl, L y → listed.getD y.i false = false → y.o.dst ≠ some t := fun y hy hLy huy hd => by
  have hask : t ∈ x.asks ops := by unfold It.asks; rw [ho]; exact List.mem_append_left _ ht
  by_cases hxy : x.i = y.i
  · have := D.uniq hx (F.mem y hy).1 hxy
    subst this
    exact D.own hx (F.mem x hy).2 hd hask
  · rcases D.name (F.mem y hy).1 hx hxy hd (asks_names hask) with h1 | ⟨h1, _⟩
    · rw [hanc _ h1] at huy; cases huy
    · rw [(F.mem y hy).2] at h1; cases h1

theorem big_ok (D : Drw P ptrs ops N as its) (F : Fl ops its fl makes) {n : Nat} (hn : N ≤ n) : ∀ y ∈ fl, L y → listed.getD y.i false = false → y.o.dst ≠ some n := fun y hy _ _ hd => by
  have := D.okd (F.mem y hy).1
  rw [hd] at this
  simp [okDst, blt_nat] at this
  omega

theorem set_listed {i j : Nat} (h : (listed.setIfInBounds i true).getD j false = false) (hi : i < listed.size) : listed.getD j false = false ∧ j ≠ i := by
  by_cases hij : i = j
  · subst hij
    have : (listed.setIfInBounds i true).getD i false = true := by simp [hi]
    rw [this] at h; cases h
  · rw [getD_set_ne false hij] at h
    exact ⟨h, fun e => hij e.symm⟩

theorem unmapped {φ φ' : Phi} {h h' : Hp} {w w' : World} (e : Ext φ h w φ' h' w') {b : BId} (hb : φ b = none) (hn : ¬ b.isNew h.next) : φ' b = none := by
  cases hq : φ' b with
  | none => rfl
  | some q => exact absurd (e.newid b hb (by rw [hq]; simp)) hn

/-- A floating operation that lags is drawn. -/
theorem draw_float {ch : Hd} (hch : SoundH P ch) (hptrs : PtrsOk P ptrs) (hN : N ≤ 1000000) (D : Drw P ptrs ops N as its) (F : Fl ops its fl makes) (hbase : h0.next ≤ base) (hls : listed.size = ops.size) {Q : Exit → Act → World → Prop} {s : AS} {φ : Phi} {a : Act} {w : World}
    {x : It} (hx : x ∈ fl) (hL : L x) (hun : listed.getD x.i false = false) (hanc : ∀ j, x.anc.testBit j = true → listed.getD j false = true) (hlag : Lag P φ0 h0 w0 N base makes fl L listed s φ a w) :
    wpOp P ops Q x.i (fun a' w' => ∃ φ', Lag P φ0 h0 w0 N base makes fl L (listed.setIfInBounds x.i true) s φ' a' w') a w := by
  obtain ⟨hxi, hxf⟩ := F.mem x hx
  obtain ⟨o, ho, hxo, _, _⟩ := D.mem hxi
  have hlt : x.i < listed.size := by rw [hls]; exact (Array.getElem?_eq_some_iff.1 ho).1
  have hdst : okDst N o.dst = true := by have := D.okd hxi; rw [hxo] at this; exact this
  have hod : x.o.dst = o.dst := by rw [hxo]; rfl
  have hlook : ∀ t ∈ o.looksAt ops, ∀ y ∈ fl, L y → listed.getD y.i false = false → y.o.dst ≠ some t := fun t ht => looks_ok D F hxi ho hanc ht
  have hbig : ∀ n, N ≤ n → ∀ y ∈ fl, L y → listed.getD y.i false = false → y.o.dst ≠ some n := fun n hn => big_ok D F hn
  have hr := hlag.recd x hx hL hun
  have envOk : ∀ {φ' : Phi} {env : Ev} {tmps : Array Value}, EnvRelP φ' (fun n => (∀ y ∈ fl, L y → listed.getD y.i false = false → y.o.dst ≠ some n) ∨ o.dst = some n) env tmps →
      EnvRelP φ' (fun n => ∀ y ∈ fl, L y → (listed.setIfInBounds x.i true).getD y.i false = false → y.o.dst ≠ some n) env tmps := fun {φ' env tmps} he n hn => by
    refine he n ?_
    by_cases hd : o.dst = some n
    · exact .inr hd
    · refine .inl fun y hy hLy huy => ?_
      by_cases hyx : y.i = x.i
      · rw [D.uniq (F.mem y hy).1 hxi hyx, hod]; exact hd
      · refine hn y hy hLy ?_
        rw [getD_set_ne false (Ne.symm hyx)]; exact huy
  have noNew : ∀ y ∈ fl, y.isMk = true → ∀ g, ¬ (gId g (base + makes.idxOf y.i)).isNew s.h.next := fun y hy hm g => by
    refine gId_not_new g ?_
    have := List.idxOf_lt_length_iff.2 (F.mks y hy hm)
    have := hlag.next
    omega
  -- it gives what it gave
  have flat : awOp ch (cOp' P ptrs ops o) (· = s) s → wpOp P ops Q x.i (fun a' w' => ∃ φ', Lag P φ0 h0 w0 N base makes fl L (listed.setIfInBounds x.i true) s φ' a' w') a w := fun hK => by
    refine wpOp_mono (fun a' w' hst => ?_) (sim_wpOpP hch hptrs ho hN hdst hbig hlook hlag.ext.rel hlag.env hlag.defs hlag.size hK)
    obtain ⟨s', φ', v, rfl, h1, h2, h3, h4, _⟩ := hst
    refine ⟨φ', hlag.ext.trans h1, envOk h2, h3, h4, fun y hy hLy huy => hlag.recd y hy hLy (set_listed huy hlt).1, hlag.next, fun y hy hm hl g => ?_⟩
    refine unmapped h1 (hlag.free y hy hm (fun hLy => (set_listed (hl hLy) hlt).1) g) (noNew y hy hm g)
  have same : ∀ v, (∀ d, x.o.dst = some d → s.env d = v) → s.to o.dst v s.h = s := fun v hv => by
    show (⟨putE s.env o.dst v, s.defs, s.h⟩ : AS) = s
    have : putE s.env o.dst v = s.env := by
      rw [← hod]
      cases hd : x.o.dst with
      | none => rfl
      | some d => rw [← hv d hd]; exact putE_same
    rw [this]
  unfold Rec at hr
  by_cases hw : wants s.env x.o.grd = true
  · rw [if_pos hw] at hr
    rcases hr with ⟨v, h1, h2⟩ | ⟨g, v, blk, hm, h1, h2, h3⟩
    · refine flat ?_
      unfold awOp
      rw [← hxo, if_pos hw, h1, hod]
      exact same v h2
    · have hwr := wants_relP hlag.env hlag.size hN hbig (P := P) (ptrs := ptrs) (ops := ops) o hlook
      rw [← hxo, hw] at hwr
      have hopx : x.o.op = (cOp P ptrs o).getD .bad := by rw [hxo]; rfl
      cases hX : cOp P ptrs o with
      | none => rw [hX] at hopx; rw [hopx] at h1; cases h1
      | some X =>
        rw [hX] at hopx
        have h1' : aop s.h.rd s.env X = .mk g v blk := by rw [← h1, hopx]; rfl
        have hfr := hlag.free x hx hm (fun _ => hun) g
        refine wpOp_mono (fun a' w' hst => ?_) (make_step hptrs ho hdst hlag.ext hlag.env hlag.defs hlag.size hlook hwr.symm hX h1' (fun d hd => h2 d (hod.trans hd)) h3 hfr (by cases g <;> simp [gId, BId.isNew] <;> omega) (noNew x hx hm g))
        obtain ⟨ph, q1, q2, q3, q4⟩ := hst
        refine ⟨_, q1, envOk q2, q3, q4, fun y hy hLy huy => hlag.recd y hy hLy (set_listed huy hlt).1, hlag.next, fun y hy hmy hl g' => ?_⟩
        by_cases hyx : y.i = x.i
        · have := hl (by rw [D.uniq (F.mem y hy).1 hxi hyx]; exact hL)
          exact absurd hyx (set_listed this hlt).2
        · rw [Phi.add_ne (fun e => hyx (idxOf_inj (F.mks y hy hmy) (F.mks x hx hm) (by have := gId_inj e; omega)))]
          refine hlag.free y hy hmy (fun hLy => ?_) g'
          have := hl hLy
          rw [getD_set_ne false (Ne.symm hyx)] at this; exact this
  · rw [if_neg hw] at hr
    refine flat ?_
    unfold awOp
    rw [← hxo, if_neg hw, hod]
    exact same _ hr

/-- An anchored operation is drawn. -/
theorem draw_anch {ch : Hd} (hch : SoundH P ch) (hptrs : PtrsOk P ptrs) (hN : N ≤ 1000000) (D : Drw P ptrs ops N as its) (F : Fl ops its fl makes) (hls : listed.size = ops.size) {Q : Exit → Act → World → Prop} {K : AS → Prop} {s : AS} {φ : Phi} {a : Act} {w : World}
    {c : It} (hc : c ∈ its) (hcan : c.isAn = true) (hanc : ∀ j, c.anc.testBit j = true → listed.getD j false = true) (hLc : ∀ x ∈ fl, L x → x.anc.testBit c.i = false) (hlag : Lag P φ0 h0 w0 N base makes fl L listed s φ a w)
    {re : List Op'} (hre : ∀ x ∈ fl, L x → listed.getD x.i false = false → x.isRd = true → x.o ∈ re) (h : awDI ch base K s (.an c.o re)) :
    wpOp P ops Q c.i (fun a' w' => ∃ s' φ', K s' ∧ Lag P φ0 h0 w0 N base makes fl L (listed.setIfInBounds c.i true) s' φ' a' w') a w := by
  obtain ⟨o, ho, hxo, _, _⟩ := D.mem hc
  have hlt : c.i < listed.size := by rw [hls]; exact (Array.getElem?_eq_some_iff.1 ho).1
  have hdst : okDst N o.dst = true := by have := D.okd hc; rw [hxo] at this; exact this
  have hod : c.o.dst = o.dst := by rw [hxo]; rfl
  have hlook : ∀ t ∈ o.looksAt ops, ∀ y ∈ fl, L y → listed.getD y.i false = false → y.o.dst ≠ some t := fun t ht => looks_ok D F hc ho hanc ht
  have hbig : ∀ n, N ≤ n → ∀ y ∈ fl, L y → listed.getD y.i false = false → y.o.dst ≠ some n := fun n hn => big_ok D F hn
  have h' : awOp ch (cOp' P ptrs ops o) (fun s => (∀ x ∈ re, wants s.env x.grd = true → ∃ d, x.dst = some d ∧ aop s.h.rd s.env x.op = .ok (s.env d) .no) ∧ K s) s := by rw [← hxo]; exact h
  refine wpOp_mono (fun a' w' hst => ?_) (sim_wpOpP hch hptrs ho hN hdst hbig hlook hlag.ext.rel hlag.env hlag.defs hlag.size h')
  obtain ⟨s', φ', v, ⟨hchk, hK⟩, h1, h2, h3, h4, henv⟩ := hst
  have hput : ∀ t, (∀ d, c.o.dst = some d → t ≠ d) → s'.env t = s.env t := fun t ht => by
    rw [henv, ← hod]
    unfold putE
    cases hd : c.o.dst with
    | none => rfl
    | some d => simp only; rw [if_neg (ht d hd)]
  have noNew : ∀ y ∈ fl, y.isMk = true → ∀ g, ¬ (gId g (base + makes.idxOf y.i)).isNew s.h.next := fun y hy hm g => by
    refine gId_not_new g ?_
    have := List.idxOf_lt_length_iff.2 (F.mks y hy hm)
    have := hlag.next
    omega
  refine ⟨s', φ', hK, hlag.ext.trans h1, ?_, h3, h4, ?_, Nat.le_trans hlag.next h1.next, ?_⟩
  · intro n hn
    refine h2 n (.inl fun y hy hLy huy => ?_)
    refine hn y hy hLy ?_
    have hyc : c.i ≠ y.i := fun e => by
      have := D.uniq hc (F.mem y hy).1 e
      subst this
      rw [(F.mem c hy).2] at hcan; cases hcan
    rw [getD_set_ne false hyc]; exact huy
  · intro x hx hLx hux
    have hux' := (set_listed hux hlt).1
    have hxc : x.i ≠ c.i := (set_listed hux hlt).2
    have hkeep : ∀ t ∈ x.names ops, s'.env t = s.env t := fun t ht => hput t fun d hd e => by
      rcases D.name hc (F.mem x hx).1 hxc hd (by rw [← e]; exact ht) with g1 | ⟨_, g2⟩
      · rw [hLc x hx hLx] at g1; cases g1
      · rw [hanc _ g2] at hux'; cases hux'
    refine Rec.keep D (F.mem x hx).1 (F.mem x hx).2 hkeep ?_ ?_ (hlag.recd x hx hLx hux')
    · intro hrd hw v' hv' hd'
      have hgr : wants s'.env x.o.grd = wants s.env x.o.grd := wants_agree fun t ht => hkeep t (List.mem_append_right _ (List.mem_append_right _ ht))
      obtain ⟨d, q1, q2⟩ := hchk x.o (hre x hx hLx hux' hrd) (by rw [hgr]; exact hw)
      rw [q2]
      have hdn : d ∈ x.names ops := by
        obtain ⟨o', g1, g2, _, _⟩ := D.mem (F.mem x hx).1
        unfold It.names
        rw [g1]
        have : o'.dst = some d := by rw [g2] at q1; exact q1
        refine List.mem_append_left _ (List.mem_append_left _ ?_)
        rw [this]; exact List.mem_cons_self ..
      rw [hkeep d hdn, hd' d q1]
    · intro hm g blk hb
      have hfr := hlag.free x hx hm (fun _ => hux') g
      rw [h1.abs _ hfr (noNew x hx hm g)]; exact hb
  · intro y hy hm hl g
    refine unmapped h1 (hlag.free y hy hm (fun hLy => (set_listed (hl hLy) hlt).1) g) (noNew y hy hm g)

end
end Go.AM

/- The model's code follows the abstract one: regions whose order is drawn, and the whole. -/
namespace Go.AM

def restDs (makes : List Nat) (an : List It) : List It → List Nat → List It → List It → List DI
  | [], _, _, _ => []
  | c :: cs, done, F, past => .an c.o ((past.filter fun x => x.isRd && !(c.anc.testBit x.i)).map (·.o)) :: lays makes an cs (c.i :: done) F past
theorem lays_eq {makes : List Nat} {an cs : List It} {done : List Nat} {fl past : List It} :
    lays makes an cs done fl past = (fl.filter (canFl an done)).map (fun x => DI.fl x.o (makes.idxOf x.i)) ++ restDs makes an cs done (fl.filter fun x => !canFl an done x) (past ++ fl.filter (canFl an done)) := by
  cases cs <;> simp [lays, restDs]

theorem getD_tf {listed : Array Bool} {i : Nat} (h : listed.getD i true = false) : listed.getD i false = false := by
  by_cases hi : i < listed.size
  · simp [hi] at h ⊢; exact h
  · simp [hi] at h

theorem filter_lt {p q : Nat → Bool} (hle : ∀ x, q x = true → p x = true) {i : Nat} (hp : p i = true) (hq : q i = false) : ∀ (l : List Nat), i ∈ l → (l.filter q).length < (l.filter p).length
  | [], h => by simp at h
  | x :: l, h => by
    have hle2 : (l.filter q).length ≤ (l.filter p).length := by
      clear h
      induction l with
      | nil => simp
      | cons y l ih =>
        rw [List.filter_cons, List.filter_cons]
        cases hqy : q y with
        | true => rw [hle y hqy]; simp; exact ih
        | false => cases p y <;> simp <;> omega
    rw [List.filter_cons, List.filter_cons]
    rcases List.mem_cons.1 h with rfl | h
    · rw [hp, hq]; simp; omega
    · have := filter_lt hle hp hq l h
      cases hqx : q x with
      | true => rw [hle x hqx]; simp; exact this
      | false => cases p x <;> simp <;> omega

theorem foldr_spec {g : It → Option (List (List It))} {x : It} : ∀ {fs : List It} {css : List (List It)}, fs.foldr (fun x acc => joinO (consAll x (g x)) acc) (some []) = some css → x ∈ fs → ∃ css', g x = some css' ∧ ∀ cs ∈ css', x :: cs ∈ css
  | [], css, _, hx => by simp at hx
  | y :: fs, css, h, hx => by
    rw [List.foldr_cons] at h
    cases ha : consAll y (g y) with
    | none => rw [ha] at h; cases h
    | some a =>
      cases hb : fs.foldr (fun x acc => joinO (consAll x (g x)) acc) (some []) with
      | none => rw [ha, hb] at h; cases h
      | some b =>
        rw [ha, hb] at h
        cases h
        rcases List.mem_cons.1 hx with rfl | hx
        · cases hg : g x with
          | none => rw [hg] at ha; cases ha
          | some css' =>
            rw [hg] at ha
            cases ha
            exact ⟨css', rfl, fun cs hcs => List.mem_append_left _ (List.mem_map.2 ⟨cs, hcs, rfl⟩)⟩
        · obtain ⟨css', h1, h2⟩ := foldr_spec hb hx
          exact ⟨css', h1, fun cs hcs => List.mem_append_right _ (h2 cs hcs)⟩

theorem orders_ne : ∀ (n : Nat) (l : List It) (css : List (List It)), orders n l = some css → css ≠ []
  | 0, l, css, h => by
    cases l with
    | nil => simp [orders] at h; subst h; simp
    | cons y ys => simp [orders] at h
  | n + 1, l, css, h => by
    cases l with
    | nil => simp [orders] at h; subst h; simp
    | cons y ys =>
      simp only [orders] at h
      split at h
      · cases h
      · rename_i f fs hf
        obtain ⟨css', h1, h2⟩ := foldr_spec h (List.mem_cons_self ..)
        have := orders_ne n _ _ h1
        cases css' with
        | nil => exact absurd rfl this
        | cons c cs => exact fun e => by have := h2 c (List.mem_cons_self ..); rw [e] at this; simp at this

theorem orders_first {n : Nat} {l : List It} {css : List (List It)} (h : orders n l = some css) {x : It} (hx : x ∈ l) (hf : isFirst l x = true) : ∃ m css', orders m (l.filter fun y => !(y.i == x.i)) = some css' ∧ ∀ cs ∈ css', x :: cs ∈ css := by
  cases l with
  | nil => simp at hx
  | cons y ys =>
    cases n with
    | zero => simp [orders] at h
    | succ n =>
      simp only [orders] at h
      have hm : x ∈ (y :: ys).filter (isFirst (y :: ys)) := List.mem_filter.2 ⟨hx, hf⟩
      split at h
      · rename_i he; rw [he] at hm; simp at hm
      · rename_i f fs he
        rw [he] at hm
        obtain ⟨css', h1, h2⟩ := foldr_spec h hm
        exact ⟨n, css', h1, h2⟩

/-- What holds behind one operation, for each order, holds for all orders at once. -/
theorem op_conj {ι : Type} {ch : Hd} {o : Op'} {K : ι → AS → Prop} {s : AS} {l : List ι} (hne : l ≠ []) (hc : (∀ a ∈ l, ∀ b ∈ l, a = b) ∨ notCall o.op = true) (h : ∀ x ∈ l, awOp ch o (K x) s) : awOp ch o (fun s => ∀ x ∈ l, K x s) s := by
  obtain ⟨x0, hx0⟩ : ∃ x, x ∈ l := List.exists_mem_of_ne_nil l hne
  rcases hc with hc | hc
  · have : (fun s => ∀ x ∈ l, K x s) = K x0 := by
      funext s
      exact propext ⟨fun h => h x0 hx0, fun h x hx => by rw [hc x hx x0 hx0]; exact h⟩
    rw [this]
    exact h x0 hx0
  · unfold awOp at h ⊢
    by_cases hw : wants s.env o.grd = true
    · rw [if_pos hw]
      have h' : ∀ x ∈ l, awRes ch o.dst (K x) s (aop s.h.rd s.env o.op) := fun x hx => by have := h x hx; rw [if_pos hw] at this; exact this
      cases hR : aop s.h.rd s.env o.op with
      | fail => rw [hR] at h'; exact (h' x0 hx0).elim
      | call f args => exact absurd hR (aop_notcall hc)
      | any l2 => rw [hR] at h'; exact fun y hy x hx => h' x hx y hy
      | _ => rw [hR] at h'; exact h'
    · rw [if_neg hw]
      exact fun x hx => by have := h x hx; rw [if_neg hw] at this; exact this
theorem fl_conj {ι : Type} {ch : Hd} {base : Nat} {o : Op'} {mk : Nat} {K : ι → AS → Prop} {s : AS} {l : List ι} (hne : l ≠ []) (h : ∀ x ∈ l, awDI ch base (K x) s (.fl o mk)) : awDI ch base (fun s => ∀ x ∈ l, K x s) s (.fl o mk) := by
  obtain ⟨x0, hx0⟩ : ∃ x, x ∈ l := List.exists_mem_of_ne_nil l hne
  simp only [awDI] at h ⊢
  by_cases hw : wants s.env o.grd = true
  · rw [if_pos hw]
    have h' : ∀ x ∈ l, awFl (base + mk) o.dst (K x) s (aop s.h.rd s.env o.op) := fun x hx => by have := h x hx; rw [if_pos hw] at this; exact this
    cases hR : aop s.h.rd s.env o.op with
    | ok v e =>
      rw [hR] at h'
      cases e with
      | no => exact h'
      | put b blk => exact (h' x0 hx0).elim
    | mk g v blk => rw [hR] at h'; exact ⟨(h' x0 hx0).1, fun x hx => (h' x hx).2⟩
    | _ => rw [hR] at h'; exact (h' x0 hx0).elim
  · rw [if_neg hw]
    exact fun x hx => by have := h x hx; rw [if_neg hw] at this; exact this
theorem fl_mono {ch : Hd} {base : Nat} {o : Op'} {mk : Nat} {K K' : AS → Prop} {s : AS} (hK : ∀ s, K s → K' s) (h : awDI ch base K s (.fl o mk)) : awDI ch base K' s (.fl o mk) := by
  simp only [awDI] at h ⊢
  by_cases hw : wants s.env o.grd = true
  · rw [if_pos hw] at h ⊢
    cases hR : aop s.h.rd s.env o.op with
    | ok v e =>
      rw [hR] at h
      cases e with
      | no => exact hK _ h
      | put b blk => exact h.elim
    | mk g v blk => rw [hR] at h; exact ⟨h.1, hK _ h.2⟩
    | _ => rw [hR] at h; exact h.elim
  · rw [if_neg hw] at h ⊢
    exact hK _ h
theorem fls_conj {ι : Type} {ch : Hd} {base : Nat} {makes : List Nat} {K : AS → Prop} {l : List ι} (hne : l ≠ []) {rest : ι → List DI} : ∀ (zs : List It) (s : AS), (∀ x ∈ l, awDs ch base (zs.map (fun x => DI.fl x.o (makes.idxOf x.i)) ++ rest x) K s) →
    awDs ch base (zs.map fun x => DI.fl x.o (makes.idxOf x.i)) (fun s => ∀ x ∈ l, awDs ch base (rest x) K s) s
  | [], s, h => h
  | z :: zs, s, h => by
    have h' : ∀ x ∈ l, awDI ch base (awDs ch base (zs.map (fun x => DI.fl x.o (makes.idxOf x.i)) ++ rest x) K) s (.fl z.o (makes.idxOf z.i)) := h
    have h2 := fl_conj hne h'
    show awDI ch base (awDs ch base (zs.map fun x => DI.fl x.o (makes.idxOf x.i)) (fun s => ∀ x ∈ l, awDs ch base (rest x) K s)) s (.fl z.o (makes.idxOf z.i))
    refine fl_mono (fun s hs => fls_conj hne zs s hs) h2

section
variable {P : Program} {φ0 : Phi} {h0 : Hp} {w0 : World} {N : Nat}

theorem draw_all {ch : Hd} (hch : SoundH P ch) {ptrs : List TypeId} (hptrs : PtrsOk P ptrs) (hN : N ≤ 1000000) {ops : Array Oper} {as : List Nat} {its : List It} (D : Drw P ptrs ops N as its) {base : Nat} (hbase : h0.next ≤ base) {makes : List Nat}
    (F0 : Fl ops its (its.filter fun x => !x.isAn) makes) {K : AS → Prop} {Q : Exit → Act → World → Prop} (hQ : ∀ s a w, K s → Rl P φ0 h0 w0 N s a w → Q .normal a w) : ∀ (fuel : Nat) (listed : Array Bool) (done : List Nat) (css : List (List It)) (F past : List It) (n : Nat) (s : AS)
    (φ : Phi) (a : Act) (w : World), Closed ops listed → listed.size = ops.size → (∀ y ∈ its.filter (·.isAn), done.contains y.i = listed.getD y.i false) →
    (∀ x, x ∈ F ↔ x ∈ its.filter (fun x => !x.isAn) ∧ canFl (its.filter (·.isAn)) done x = false) → F.Pairwise (fun x y => x.i < y.i) → (∀ x, x ∈ past ↔ x ∈ its.filter (fun x => !x.isAn) ∧ canFl (its.filter (·.isAn)) done x = true) →
    orders n ((its.filter (·.isAn)).filter fun y => !listed.getD y.i false) = some css → ((∀ a ∈ css, ∀ b ∈ css, a = b) ∨ ∀ y ∈ its.filter (·.isAn), notCall y.o.op = true) → Lag P φ0 h0 w0 N base makes (its.filter fun x => !x.isAn) (fun x => canFl (its.filter (·.isAn)) done x = true) listed s φ a w →
    (∀ cs ∈ css, awDs ch base (restDs makes (its.filter (·.isAn)) cs done F past) K s) → ((List.range ops.size).filter fun i => !listed.getD i false).length ≤ fuel → wpAny P .any ops Q fuel listed a w := by
  intro fuel
  generalize han : its.filter (·.isAn) = an at *
  generalize hfl : its.filter (fun x => !x.isAn) = fl at *
  have memAn : ∀ {y}, y ∈ an ↔ y ∈ its ∧ y.isAn = true := fun {y} => by rw [← han]; simp
  have memFl : ∀ {y}, y ∈ fl ↔ y ∈ its ∧ y.isAn = false := fun {y} => by rw [← hfl]; simp
  have hfin : ∀ (listed : Array Bool) (done : List Nat) (css : List (List It)) (F past : List It) (n : Nat) (s : AS) (φ : Phi) (a : Act) (w : World), listed.size = ops.size → orders n (an.filter fun y => !listed.getD y.i false) = some css →
      Lag P φ0 h0 w0 N base makes fl (fun x => canFl an done x = true) listed s φ a w → (∀ cs ∈ css, awDs ch base (restDs makes an cs done F past) K s) → Region.ready .any ops listed = [] → Q .normal a w := fun listed done css F past n s φ a w hls hch' hlag h hr => by
    have hall := all_listed D.has hls hr
    have hit : ∀ y ∈ its, listed.getD y.i false = true := fun y hy => by
      obtain ⟨o, h1, _⟩ := D.mem hy
      exact hall _ (Array.getElem?_eq_some_iff.1 h1).1
    have hnil : an.filter (fun y => !listed.getD y.i false) = [] := by
      rw [List.filter_eq_nil_iff]
      intro y hy
      rw [hit y (memAn.1 hy).1]; simp
    rw [hnil] at hch'
    have hcs : css = [[]] := by cases n <;> simp [orders] at hch' <;> exact hch'.symm
    subst hcs
    exact hQ s a w (h [] (List.mem_cons_self ..)) ⟨φ, hlag.ext, fun n => hlag.env n fun x hx _ hu => (by rw [hit x (memFl.1 hx).1] at hu; cases hu), hlag.defs, hlag.size⟩
  induction fuel with
  | zero =>
    intro listed done css F past n s φ a w hcl hls hdone hF hFp hpast hchn hone hlag h hcnt
    have hr : Region.ready .any ops listed = [] := by
      cases hq : Region.ready .any ops listed with
      | nil => rfl
      | cons i l =>
        have hi : i ∈ Region.ready .any ops listed := by rw [hq]; exact List.mem_cons_self ..
        obtain ⟨h1, o, h2, _⟩ := mem_ready.1 hi
        have h0 : (List.range ops.size).filter (fun i => !listed.getD i false) = [] := List.length_eq_zero_iff.1 (by omega)
        rw [List.filter_eq_nil_iff] at h0
        have := h0 i (List.mem_range.2 (Array.getElem?_eq_some_iff.1 h2).1)
        rw [getD_tf h1] at this
        simp at this
    exact ⟨hr, hfin listed done css F past n s φ a w hls hchn hlag h hr⟩
  | succ fuel ih =>
    intro listed done css F past n s φ a w hcl hls hdone hF hFp hpast hchn hone hlag h hcnt
    refine ⟨hfin listed done css F past n s φ a w hls hchn hlag h, fun i hi => ?_⟩
    obtain ⟨hun0, o, ho, hedge⟩ := mem_ready.1 hi
    have hun := getD_tf hun0
    have hedge' : ∀ e ∈ o.after.toList, Region.binds .any e = true → listed.getD e.on false = true := fun e he => hedge e (by simpa using he)
    have hisz : i < ops.size := (Array.getElem?_eq_some_iff.1 ho).1
    obtain ⟨x, hx, rfl⟩ := D.at ho
    have hancd : ∀ j, x.anc.testBit j = true → listed.getD j false = true := fun j hj => by
      obtain ⟨o', h1, _, _, h4⟩ := D.mem hx
      rw [ho] at h1; cases h1
      rw [h4] at hj
      exact anc_listed D.has hcl _ _ ho hedge' j hj
    have hcl' : Closed ops (listed.setIfInBounds x.i true) := closed_set hcl ho hedge'
    have hls' : (listed.setIfInBounds x.i true).size = ops.size := by simp [hls]
    have hcnt' : ((List.range ops.size).filter fun i => !(listed.setIfInBounds x.i true).getD i false).length ≤ fuel := by
      have hlt := filter_lt (p := fun i => !listed.getD i false) (q := fun i => !(listed.setIfInBounds x.i true).getD i false) (fun j hj => by
        have hj : (!(listed.setIfInBounds x.i true).getD j false) = true := hj
        have : (listed.setIfInBounds x.i true).getD j false = false := by simpa only [Bool.not_eq_true'] using hj
        show (!listed.getD j false) = true
        rw [(set_listed this (by omega)).1]; rfl) (i := x.i) (by show (!listed.getD x.i false) = true; rw [hun]; rfl) (by
        show (!(listed.setIfInBounds x.i true).getD x.i false) = false
        have : (listed.setIfInBounds x.i true).getD x.i false = true := by simp [hls, hisz]
        rw [this]; rfl) (List.range ops.size) (List.mem_range.2 hisz)
      omega
    have hother : ∀ y ∈ its, y ≠ x → (listed.setIfInBounds x.i true).getD y.i false = listed.getD y.i false := fun y hy hne => getD_set_ne false fun e => hne (D.uniq hy hx e.symm)
    have hself : (listed.setIfInBounds x.i true).getD x.i false = true := by simp [hls, hisz]
    cases hxa : x.isAn with
    | false =>
      have hxf : x ∈ fl := memFl.2 ⟨hx, hxa⟩
      have hcan : canFl an done x = true := by
        unfold canFl
        rw [List.all_eq_true]
        intro y hy
        cases hb : x.anc.testBit y.i with
        | false => rfl
        | true => rw [hdone y hy, hancd _ hb]; rfl
      refine wpOp_mono (fun a' w' hst => ?_) (draw_float hch hptrs hN D F0 hbase hls hxf hcan hun hancd hlag)
      obtain ⟨φ', hl⟩ := hst
      refine ih _ done css F past n s φ' a' w' hcl' hls' (fun y hy => ?_) hF hFp hpast ?_ hone hl h hcnt'
      · rw [hother y (memAn.1 hy).1 (fun e => by subst e; rw [(memAn.1 hy).2] at hxa; cases hxa)]
        exact hdone y hy
      · rw [← hchn]
        congr 1
        refine List.filter_congr fun y hy => ?_
        rw [hother y (memAn.1 hy).1 (fun e => by subst e; rw [(memAn.1 hy).2] at hxa; cases hxa)]
    | true =>
      have hxn : x ∈ an := memAn.2 ⟨hx, hxa⟩
      have hxR : x ∈ an.filter (fun y => !listed.getD y.i false) := by rw [List.mem_filter]; exact ⟨hxn, by rw [hun]; rfl⟩
      have hfirst : isFirst (an.filter fun y => !listed.getD y.i false) x = true := by
        unfold isFirst
        rw [List.all_eq_true]
        intro y hy
        obtain ⟨_, hy2⟩ := List.mem_filter.1 hy
        cases hb : x.anc.testBit y.i with
        | false => rfl
        | true => rw [hancd _ hb] at hy2; cases hy2
      have hR' : an.filter (fun y => !(listed.setIfInBounds x.i true).getD y.i false) = (an.filter fun y => !listed.getD y.i false).filter fun y => !(y.i == x.i) := by
        rw [List.filter_filter]
        refine List.filter_congr fun y hy => ?_
        by_cases hyx : y = x
        · subst hyx; rw [hself]; simp
        · rw [hother y (memAn.1 hy).1 hyx]
          have : (y.i == x.i) = false := by simpa using fun e => hyx (D.uniq (memAn.1 hy).1 hx e)
          rw [this]; simp
      generalize an.filter (fun y => !listed.getD y.i false) = R at *
      obtain ⟨m, css', hchn', hcss⟩ := orders_first hchn hxR hfirst
      have hne' := orders_ne _ _ _ hchn'
      have hone' : (∀ a ∈ css', ∀ b ∈ css', a = b) ∨ ∀ y ∈ an, notCall y.o.op = true := hone.imp (fun h1 a ha b hb => by
        have := h1 _ (hcss a ha) _ (hcss b hb)
        exact (List.cons.inj this).2) id
      have hLc : ∀ y ∈ fl, canFl an done y = true → y.anc.testBit x.i = false := fun y hy hcan => by
        unfold canFl at hcan
        rw [List.all_eq_true] at hcan
        have := hcan x hxn
        rw [hdone x hxn, hun] at this
        simpa using this
      refine wpOp_mono (fun a' w' hst => ?_) (draw_anch (re := (past.filter fun y => y.isRd && !(x.anc.testBit y.i)).map (·.o)) (K := fun s => ∀ cs' ∈ css', awDs ch base (lays makes an cs' (x.i :: done) F past) K s) hch hptrs hN D F0 hls hx hxa hancd hLc hlag (fun y hy hcan huy hrd => ?_) ?_)
      · obtain ⟨s', φ', hK, hl⟩ := hst
        have hK' := fls_conj (K := K) (ch := ch) (base := base) (makes := makes) hne' (rest := fun cs' => restDs makes an cs' (x.i :: done) (F.filter fun x_1 => !canFl an (x.i :: done) x_1) (past ++ F.filter (canFl an (x.i :: done)))) (F.filter (canFl an (x.i :: done))) s' (fun cs' hcs' => by have := hK cs' hcs'; rw [lays_eq] at this; exact this)
        have listedCan : ∀ y ∈ fl, listed.getD y.i false = true → canFl an done y = true := fun y hy hly => by
          unfold canFl
          rw [List.all_eq_true]
          intro z hz
          cases hb : y.anc.testBit z.i with
          | false => rfl
          | true =>
            obtain ⟨o', h1, _, _, h4⟩ := D.mem (memFl.1 hy).1
            rw [h4] at hb
            rw [hdone z hz, anc_listed D.has hcl _ _ h1 (hcl _ _ h1 hly) _ hb]; rfl
        have hmono : ∀ y, canFl an done y = true → canFl an (x.i :: done) y = true := fun y hy => by
          unfold canFl at hy ⊢
          rw [List.all_eq_true] at hy ⊢
          intro z hz
          have := hy z hz
          rw [Bool.or_eq_true] at this ⊢
          rcases this with h1 | h1
          · exact .inl h1
          · exact .inr (by rw [List.contains_cons, h1]; simp)
        obtain ⟨s2, hs2, hl2⟩ := lay_list D F0 hbase [] (F.filter (canFl an (x.i :: done))) _ s' (hFp.filter _) (fun z hz => by
          obtain ⟨hz1, hz2⟩ := List.mem_filter.1 hz
          obtain ⟨hz3, hz4⟩ := (hF z).1 hz1
          refine ⟨hz3, by rw [hz4]; simp, ?_, fun y hy hcan huy => ?_⟩
          · cases hq : (listed.setIfInBounds x.i true).getD z.i false with
            | false => rfl
            | true =>
              rw [hother z (memFl.1 hz3).1 (fun e => by subst e; rw [(memFl.1 hz3).2] at hxa; cases hxa)] at hq
              rw [listedCan z hz3 hq] at hz4; cases hz4
          · cases hb : y.anc.testBit z.i with
            | false => rfl
            | true =>
              have : canFl an done z = true := by
                unfold canFl at hcan ⊢
                rw [List.all_eq_true] at hcan ⊢
                intro u hu
                have hcu := hcan u hu
                rw [Bool.or_eq_true] at hcu ⊢
                rcases hcu with h1 | h1
                · refine .inl ?_
                  cases hzu : z.anc.testBit u.i with
                  | false => rfl
                  | true => rw [D.trans (memFl.1 hy).1 (memFl.1 hz3).1 hb hzu] at h1; cases h1
                · exact .inr h1
              rw [this] at hz4; cases hz4) hl (by rw [List.append_nil]; exact hK')
        refine ih _ (x.i :: done) css' _ _ m s2 φ' a' w' hcl' hls' (fun y hy => ?_) (fun y => ?_) (hFp.filter _) (fun y => ?_) ?_ hone' (hl2.congr fun y hy => ?_) hs2 hcnt'
        · rw [List.contains_cons]
          by_cases hyx : y = x
          · subst hyx; rw [hself]; simp
          · rw [hother y (memAn.1 hy).1 hyx, ← hdone y hy]
            have : (y.i == x.i) = false := by simpa using fun e => hyx (D.uniq (memAn.1 hy).1 hx e)
            rw [this]; rfl
        · rw [List.mem_filter, hF]
          constructor
          · rintro ⟨⟨h1, _⟩, h3⟩; exact ⟨h1, by simpa using h3⟩
          · rintro ⟨h1, h2⟩
            refine ⟨⟨h1, ?_⟩, by rw [h2]; rfl⟩
            cases hq : canFl an done y with
            | false => rfl
            | true => rw [hmono y hq] at h2; cases h2
        · rw [List.mem_append, List.mem_filter, hF, hpast]
          constructor
          · rintro (⟨h1, h2⟩ | ⟨⟨h1, _⟩, h3⟩)
            · exact ⟨h1, hmono y h2⟩
            · exact ⟨h1, h3⟩
          · rintro ⟨h1, h2⟩
            cases hq : canFl an done y with
            | false => exact .inr ⟨⟨h1, rfl⟩, h2⟩
            | true => exact .inl ⟨h1, rfl⟩
        · rw [hR']; exact hchn'
        · rw [List.mem_filter, hF]
          constructor
          · rintro (h1 | ⟨_, h3⟩)
            · exact hmono y h1
            · exact h3
          · intro h2
            cases hq : canFl an done y with
            | false => exact .inr ⟨⟨hy, rfl⟩, h2⟩
            | true => exact .inl rfl
      · refine List.mem_map.2 ⟨y, List.mem_filter.2 ⟨(hpast y).2 ⟨hy, hcan⟩, ?_⟩, rfl⟩
        rw [hrd]
        cases hb : x.anc.testBit y.i with
        | false => rfl
        | true => rw [hancd _ hb] at huy; cases huy
      · have h2 := op_conj (ch := ch) (o := x.o) (s := s) hne' (hone'.imp id fun hn => hn x hxn) (K := fun (cs' : List It) (s : AS) => (∀ y : Op', y ∈ (past.filter fun y : It => y.isRd && !(x.anc.testBit y.i)).map (fun z : It => z.o) → wants s.env y.grd = true → ∃ d, y.dst = some d ∧ aop s.h.rd s.env y.op = .ok (s.env d) .no) ∧ awDs ch base (lays makes an cs' (x.i :: done) F past) K s)
          (fun cs' hcs' => (h (x :: cs') (hcss cs' hcs') : awDI ch base (awDs ch base (lays makes an cs' (x.i :: done) F past) K) s (.an x.o ((past.filter fun y : It => y.isRd && !(x.anc.testBit y.i)).map (·.o)))))
        obtain ⟨c0, hc0⟩ := List.exists_mem_of_ne_nil _ hne'
        have heq : (fun s : AS => ∀ cs' ∈ css', (∀ y : Op', y ∈ (past.filter fun y : It => y.isRd && !(x.anc.testBit y.i)).map (fun z : It => z.o) → wants s.env y.grd = true → ∃ d, y.dst = some d ∧ aop s.h.rd s.env y.op = .ok (s.env d) .no) ∧ awDs ch base (lays makes an cs' (x.i :: done) F past) K s) =
            fun s => (∀ y : Op', y ∈ (past.filter fun y : It => y.isRd && !(x.anc.testBit y.i)).map (fun z : It => z.o) → wants s.env y.grd = true → ∃ d, y.dst = some d ∧ aop s.h.rd s.env y.op = .ok (s.env d) .no) ∧ ∀ cs' ∈ css', awDs ch base (lays makes an cs' (x.i :: done) F past) K s := by
          funext s
          exact propext ⟨fun hs => ⟨(hs c0 hc0).1, fun cs' hcs' => (hs cs' hcs').2⟩, fun hs cs' hcs' => ⟨hs.1, hs.2 cs' hcs'⟩⟩
        rw [heq] at h2
        exact h2

theorem sim_draw {ch : Hd} (hch : SoundH P ch) {ptrs : List TypeId} (hptrs : PtrsOk P ptrs) (hN : N ≤ 1000000) (hm : P.follows .mixedOrders = true) {id : Nat} {ops : Array Oper} {Q : Ex → AS → Prop} {s : AS} {a : Act} {w : World}
    (hok : ∀ o ∈ ops.toList, okDst N o.dst = true) (hr : Rl P φ0 h0 w0 N s a w) (h : awC ch (cDraw P ptrs ops) Q s) : (Code.region id ops true).wp P (QC (Rl P φ0 h0 w0 N) Q) a w := by
  have bad : ∀ {Q : Ex → AS → Prop} {s : AS}, ¬ awC ch (.reg [⟨none, none, .bad⟩]) Q s := fun h => h
  unfold cDraw at h
  split at h
  · exact (bad h).elim
  · rename_i as has
    simp only at h
    split at h
    · rename_i css hcs
      split at h
      · rename_i hslots
        rw [Bool.and_eq_true] at hslots
        obtain ⟨hslots, hone⟩ := hslots
        generalize hits : itsOf P ptrs ops ops.toList 0 as = its at *
        have D : Drw P ptrs ops N as its := ⟨has, hits.symm, hslots, hok⟩
        generalize hmk : (its.filter (·.isMk)).map (·.i) = makes at *
        have F0 : Fl ops its (its.filter fun x => !x.isAn) makes := ⟨fun x hx => by simpa using hx, fun x hx hm => by
          rw [← hmk]
          exact List.mem_map.2 ⟨x, List.mem_filter.2 ⟨(List.mem_filter.1 hx).1, hm⟩, rfl⟩⟩
        obtain ⟨φ, hx, he, hd, hsz⟩ := hr
        refine wp_region_any hm ?_
        have h1 : ∀ l ∈ css.map (fun cs => lays makes (its.filter (·.isAn)) cs [] (its.filter fun x => !x.isAn) []), awDs ch s.h.next l (Q .norm) ⟨s.env, s.defs, ⟨s.h.rd, s.h.next + makes.length⟩⟩ := h
        have h' := fls_conj (K := Q .norm) (ch := ch) (base := s.h.next) (makes := makes) (orders_ne _ _ _ hcs) (rest := fun cs => restDs makes (its.filter (·.isAn)) cs [] ((its.filter fun x => !x.isAn).filter fun x => !canFl (its.filter (·.isAn)) [] x) ([] ++ (its.filter fun x => !x.isAn).filter (canFl (its.filter (·.isAn)) [])))
          ((its.filter fun x => !x.isAn).filter (canFl (its.filter (·.isAn)) [])) ⟨s.env, s.defs, ⟨s.h.rd, s.h.next + makes.length⟩⟩ (fun cs hcs' => by have := h1 _ (List.mem_map.2 ⟨cs, hcs', rfl⟩); rw [lays_eq] at this; exact this)
        have hunl : ∀ i, (Array.replicate ops.size false).getD i false = false := fun i => by simp [Array.getElem?_replicate]; split <;> rfl
        have hxb := hx.bump makes.length
        have hlag0 : Lag P φ0 h0 w0 N s.h.next makes (its.filter fun x => !x.isAn) (fun _ => False) (Array.replicate ops.size false) ⟨s.env, s.defs, ⟨s.h.rd, s.h.next + makes.length⟩⟩ φ a { w with drawn := w.drawn + 1 } := by
          refine ⟨hxb.trans (Ext.drew hxb.rel rfl rfl rfl rfl), fun n _ => he n, hd, hsz, fun x _ hL => hL.elim, Nat.le_refl _, fun x _ _ _ g => hx.rel.next _ ?_⟩
          cases g <;> simp [gId, BId.isNew]
        obtain ⟨s1, hs1, hl1⟩ := lay_list D F0 hx.next [] _ _ _ ((D.pw.filter _).filter _) (fun z hz => ⟨(List.mem_filter.1 hz).1, fun h => h, hunl _, fun x _ hL => hL.elim⟩) hlag0 (by rw [List.append_nil]; exact h')
        refine draw_all hch hptrs hN D hx.next F0 (K := Q .norm) (fun s a w hK hr => ⟨s, hK, hr⟩) ops.size _ [] css _ _ (its.filter (·.isAn)).length s1 φ a _ (closed_none _) (by simp) (fun y _ => by rw [hunl]; rfl) (fun y => ?_) ((D.pw.filter _).filter _) (fun y => ?_) ?_ ?_ (hl1.congr fun y hy => ?_) hs1 ?_
        · rw [List.mem_filter]; simp
        · rw [List.nil_append, List.mem_filter]
        · have hself : (its.filter (·.isAn)).filter (fun y => !(Array.replicate ops.size false).getD y.i false) = its.filter (·.isAn) := List.filter_eq_self.2 fun y _ => by rw [hunl]; rfl
          rw [hself]
          exact hcs
        · rw [Bool.or_eq_true] at hone
          rcases hone with hone | hone
          · left
            unfold isOne at hone
            split at hone
            · intro a ha b hb; rw [List.mem_singleton.1 ha, List.mem_singleton.1 hb]
            · cases hone
          · exact .inr (List.all_eq_true.1 hone)
        · rw [List.mem_filter]
          constructor
          · rintro (h1 | ⟨_, h2⟩)
            · exact h1.elim
            · exact h2
          · exact fun h2 => .inr ⟨hy, h2⟩
        · refine Nat.le_trans (List.length_filter_le _ _) (by simp)
      · exact (bad h).elim
    · exact (bad h).elim

theorem sim_code {ch : Hd} (hch : SoundH P ch) {ptrs : List TypeId} (hptrs : PtrsOk P ptrs) (hN : N ≤ 1000000) (hm : P.follows .mixedOrders = true) : ∀ (c : Code) (Q : Ex → AS → Prop) (s : AS) (a : Act) (w : World), okCode N c = true →
    Rl P φ0 h0 w0 N s a w → awC ch (cCode P ptrs c) Q s → c.wp P (QC (Rl P φ0 h0 w0 N) Q) a w := by
  have bad : ∀ {Q : Ex → AS → Prop} {s : AS}, ¬ awC ch (.reg [⟨none, none, .bad⟩]) Q s := fun h => h
  intro c
  induction c with
  | skip => exact fun Q s a w _ hr h => wp_skip ⟨s, h, hr⟩
  | region id ops draw =>
    intro Q s a w hok hr h
    cases draw with
    | true => exact sim_draw hch hptrs hN hm (List.all_eq_true.1 hok) hr h
    | false =>
      refine wp_region ?_
      have hd : ∀ o ∈ ops.toList, okDst N o.dst = true := List.all_eq_true.1 hok
      have := sim_ops hch hptrs hN (K := Q .norm) (Q := QC (Rl P φ0 h0 w0 N) Q) (fun s a w h r => ⟨s, h, r⟩) ops.toList 0 rfl hd s a w hr h
      rw [Array.length_toList, ← List.range_eq_range'] at this
      exact this
  | seq x y ihx ihy =>
    intro Q s a w hok hr h
    simp only [okCode, Bool.and_eq_true] at hok
    refine wp_seq (wp_mono (ihx _ s a w hok.1 hr h) fun e a w hq => ?_)
    cases e with
    | normal => obtain ⟨s, hs, hr⟩ := hq; exact ihy Q s a w hok.2 hr hs
    | exit id => exact hq
    | ret => exact hq
    | _ => exact hq.elim
  | cond c x y ihx ihy =>
    intro Q s a w hok hr h
    unfold cCode at h
    split at h
    · rename_i c' hc
      simp only [okCode, Bool.and_eq_true] at hok
      obtain ⟨φ, hx, he, hd, hsz⟩ := id hr
      have hv := op_rel he hx.rel.old hc
      simp only [awC] at h
      split at h
      · rename_i hv2
        rw [hv2] at hv
        exact wp_cond_true hv.bool (ihx Q s a w hok.1 hr h)
      · rename_i hv2
        rw [hv2] at hv
        exact wp_cond_false hv.bool (ihy Q s a w hok.2 hr h)
      · exact h.elim
    · exact (bad h).elim
  | block id x ih =>
    intro Q s a w hok hr h
    refine wp_block (wp_mono (ih _ s a w hok hr h) fun e a w hq => ?_)
    cases e with
    | normal => exact hq
    | exit k =>
      obtain ⟨s, hs, hr⟩ := hq
      simp only [blkE] at hs
      simp only [Exit.inBlock]
      by_cases hk : k = id
      · rw [if_pos hk] at hs ⊢; exact ⟨s, hs, hr⟩
      · rw [if_neg hk] at hs ⊢; exact ⟨s, hs, hr⟩
    | ret => exact hq
    | _ => exact hq.elim
  | loop x ih =>
    intro Q s a w hok hr h
    refine LoopW.wp ?_
    refine h (fun s => ∀ a w, Rl P φ0 h0 w0 N s a w → LoopW P x (QC (Rl P φ0 h0 w0 N) Q) a w) (fun s hs a w hr => ?_) a w hr
    refine LoopW.round (wp_mono (ih _ s a w hok hr hs) fun e a w hq => ?_)
    cases e with
    | normal => obtain ⟨s, hs, hr⟩ := hq; exact hs a w hr
    | exit k => exact hq
    | ret => exact hq
    | _ => exact hq.elim
  | exit id => exact fun Q s a w _ hr h => wp_exit ⟨s, h, hr⟩
  | ret => exact fun Q s a w _ hr h => wp_ret ⟨s, h, hr⟩
  | rangeFunc f ps x y => exact fun Q s a w _ hr h => (bad h).elim
  | scope x => exact fun Q s a w _ hr h => (bad h).elim
  | label l => exact fun Q s a w _ hr h => (bad h).elim
  | goto l => exact fun Q s a w _ hr h => (bad h).elim
  | refuse s => exact fun Q s a w _ hr h => (bad h).elim

end
end Go.AM
