/- A function of the abstract machine, and that the model's calls follow it. -/
import Derived.Test.YtonckhnoealepaaGreatDoorAm6
import Derived.Test.YtonckhnoealepaaGreatDoorAm2
namespace Go.AM

def awDefs (dch : Hd) : Defs → (Hp → Prop) → Hp → Prop
  | [], K, h => K h
  | (f, args) :: ds, K, h => match f with
    | .fn (.func g) first captured => dch g (first ++ args ++ captured) h fun _ h' => awDefs dch ds K h'
    | _ => False

def argE (args : List V) : Ev := fun n => (args[n]?).getD (.tup [])
/-- What a function's end does: the deferred calls, then the results. -/
def awEnd (dch : Hd) (res : List RV) (Q : V → Hp → Prop) : Ex → AS → Prop
  | .exit _, _ => False
  | _, s => awDefs dch s.defs (fun h => ∃ vs, resVs h.rd s.env res = some vs ∧ Q (result vs) h) s.h
def awF (ch dch : Hd) (F : F) (args : List V) (h : Hp) (Q : V → Hp → Prop) : Prop :=
  args.length ≤ F.ntmps ∧ awC ch F.code (awEnd dch F.res Q) ⟨argE args, [], h⟩

/-- A deferred call, while its caller is returning. -/
def DoesD (P : Program) (R : World → Prop) (w : World) : Result Next → Prop
  | .ok (.enter f args) w' => w' = w ∧ CallsD P f args .returning w fun e u w'' => match e with
    | .returned _ => u = .returning ∧ R w''
    | _ => False
  | _ => False
structure SoundD (P : Program) (dch : Hd) : Prop where
  ok : ∀ f args h Q, dch f args h Q → ∀ φ w (args' : Array Value), HRel φ h w → VsRel φ args args'.toList →
  DoesD P (fun w' => ∃ φ' v h', Q v h' ∧ Ext φ h w φ' h' w') w ((callFunc f args').run P w)

section
variable {P : Program}

theorem resP_run {φ : Phi} {h : Hp} {w : World} (r : HRel φ h w) {t : TypeId} {n : Option Nat} {x v : V} {x' : Value} (hn : aggN P t = some n) (hx : VRel φ x x') (e : resP h.rd n x = some v) :
    ∃ v', (do loadVar t (← asAddr x') : Sem Value).run P w = .ok v' w ∧ VRel φ v v' := by
  cases hx with
  | p hp =>
    rename_i a a'
    have ha : (asAddr (.pointer (some a'))).run P w = .ok a' w := rfl
    simp only [Sem.run_bind, ha, Result.andThen_ok]
    simp only [resP] at e
    cases n with
    | some k =>
      obtain ⟨l, hl, rfl⟩ := aggO_spec e
      obtain ⟨x, h1, h2⟩ := loadVar_agg (P := P) r (aggN_some hn w).1 (aggN_some hn w).2 hp hl
      exact ⟨_, h2, .agg h1⟩
    | none =>
      obtain ⟨v', h1, h2⟩ := loadVar_one (P := P) r (aggN_none hn w) hp e
      exact ⟨v', h2, h1⟩
  | _ => cases e

theorem results_list {φ : Phi} {h : Hp} {w : World} (r : HRel φ h w) {env : Ev} {tmps : Array Value} (he : EnvRel φ env tmps) : ∀ {l : List ResultVar} {res : List RV} {vs : List V}, cRes P l = some res → resVs h.rd env res = some vs →
    ∃ vs', (l.mapM fun | .tmp t => pure (tmps.getD t undef) | .cell a t => do loadVar t (← asAddr (tmps.getD a undef)) : Sem (List Value)).run P w = .ok vs' w ∧ VsRel φ vs vs'
  | [], res, vs, e, hv => by
    simp [cRes] at e; subst e
    simp [resVs] at hv; subst hv
    exact ⟨[], rfl, .nil⟩
  | x :: l, res, vs, e, hv => by
    have split : ∀ {q : RV} {res' : List RV}, resVs h.rd env (q :: res') = some vs → ∃ v vs', resV h.rd env q = some v ∧ resVs h.rd env res' = some vs' ∧ vs = v :: vs' := fun {q res'} hq => by
      unfold resVs cons2 at hq
      split at hq
      · rename_i v hv1
        unfold consO at hq
        split at hq
        · rename_i vs' hvs; cases hq; exact ⟨v, vs', hv1, hvs, rfl⟩
        · cases hq
      · cases hq
    cases x with
    | tmp t =>
      simp only [cRes] at e
      split at e
      · rename_i res' hr
        cases e
        obtain ⟨v, vs', h1, h2, rfl⟩ := split hv
        simp [resV] at h1; subst h1
        obtain ⟨l', g1, g2⟩ := results_list r he hr h2
        exact ⟨tmps.getD t undef :: l', by rw [List.mapM_cons]; simp only [Sem.run_bind, Sem.run_pure, Result.andThen_ok]; rw [g1]; rfl, .cons (he t) g2⟩
      · cases e
    | cell t ty =>
      simp only [cRes] at e
      split at e
      · rename_i n res' hn hr
        cases e
        obtain ⟨v, vs', h1, h2, rfl⟩ := split hv
        simp only [resV] at h1
        obtain ⟨v', q1, q2⟩ := resP_run (P := P) r hn (he t) h1
        obtain ⟨l', g1, g2⟩ := results_list r he hr h2
        refine ⟨v' :: l', ?_, .cons q2 g2⟩
        rw [List.mapM_cons, Sem.run_bind, q1]
        simp only [Result.andThen_ok, Sem.run_bind]
        rw [g1]; rfl
      · cases e

theorem results_run {φ : Phi} {h : Hp} {w : World} (r : HRel φ h w) {env : Ev} {tmps : Array Value} (he : EnvRel φ env tmps) {fn : Func} {res : List RV} {vs : List V} (hres : cRes P fn.results.toList = some res) (hv : resVs h.rd env res = some vs) :
    ∃ v', (results fn tmps).run P w = .ok v' w ∧ VRel φ (result vs) v' := by
  obtain ⟨l', g1, g2⟩ := results_list r he hres hv
  refine ⟨if h : l'.toArray.size = 1 then l'.toArray[0] else .tuple l'.toArray, ?_, ?_⟩
  · unfold results
    rw [Array.mapM_eq_mapM_toList]
    simp only [Sem.run_bind, Sem.run_map, Sem.run_pure]
    exact congrArg (fun q => (Result.andThen q (fun a w' => Result.ok a.toArray w')).andThen fun a w' => Result.ok (if h : a.size = 1 then a[0] else Value.tuple a) w') g1
  · cases g2 with
    | nil => exact .tup .nil
    | cons h1 t =>
      cases t with
      | nil => exact h1
      | cons h2 t => exact .tup (.cons h1 (.cons h2 t))

/-! ### A call -/

theorem callFunc_enter {f : FuncId} {fn : Func} {args : Array Value} {w : World} (hf : P.funcs[f]? = some fn) (hb : fn.body.isSome = true) (hn : (fn.name == "runtime.NumGoroutine") = false) : (callFunc f args).run P w = .ok (.enter f args) w := by
  have hb' : fn.body ≠ none := fun e => by rw [e] at hb; cases hb
  have hn' : fn.name ≠ "runtime.NumGoroutine" := by simpa using hn
  simp [callFunc, hf, hn', hb']

/-- What the compiled function is of. -/
structure FOk (P : Program) (ptrs : List TypeId) (f : FuncId) (F : F) : Prop where
  ok : ∃ fn, P.funcs[f]? = some fn ∧ (fn.name == "runtime.NumGoroutine") = false ∧ cFunc P ptrs fn = some F

theorem cFunc_spec {ptrs : List TypeId} {fn : Func} {F : F} (e : cFunc P ptrs fn = some F) : ∃ c, fn.body = some c ∧ cRes P fn.results.toList = some F.res ∧ F.ntmps = fn.ntmps ∧ F.code = cCode P ptrs c ∧ okCode F.ntmps c = true ∧ F.ntmps ≤ 1000000 := by
  unfold cFunc at e
  split at e
  · rename_i c hc
    split at e
    · rename_i hok
      simp only [Bool.and_eq_true, Nat.ble_eq] at hok
      split at e
      · rename_i res hr
        cases e
        exact ⟨c, hc, hr, rfl, rfl, hok.1, hok.2⟩
      · cases e
    · cases e
  · cases e

def CallR (φ : Phi) (h : Hp) (w : World) (Q : V → Hp → Prop) (v' : Value) (w' : World) : Prop := ∃ φ' v h', Q v h' ∧ VRel φ' v v' ∧ Ext φ h w φ' h' w'

theorem leaves_sim {dch : Hd} (hdch : SoundD P dch) {φ0 : Phi} {h0 : Hp} {w0 : World} {fn : Func} {res : List RV} (hres : cRes P fn.results.toList = some res) {env : Ev} {tmps : Array Value} {Q : V → Hp → Prop} {R : Ending → World → Prop}
    (hR : ∀ v w, CallR φ0 h0 w0 Q v w → R (.returned v) w) : ∀ (ds : Defs) (defers : List Deferred) (h : Hp) (w : World) (φ : Phi), Ext φ0 h0 w0 φ h w → EnvRel φ env tmps → DefsRel P φ ds defers →
    awDefs dch ds (fun h => ∃ vs, resVs h.rd env res = some vs ∧ Q (result vs) h) h → Leaves P fn tmps R defers .returning w
  | [], defers, h, w, φ, hx, he, hd, ha => by
    cases hd
    obtain ⟨vs, h1, h2⟩ := ha
    obtain ⟨v', g1, g2⟩ := results_run (P := P) hx.rel he hres h1
    exact ⟨v', g1, hR _ _ ⟨φ, _, h, h2, g2, hx⟩⟩
  | (f, args) :: ds, defers, h, w, φ, hx, he, hd, ha => by
    cases hd with
    | cons hd1 hdt =>
      obtain ⟨f', args', hf, hargs, hdd⟩ := hd1
      unfold awDefs at ha
      split at ha
      · rename_i g first captured
        cases hf with
        | fn _ hfx hfy =>
          rename_i xa ya
          have hd2 := hdd w
          simp [Deferred.ofValue] at hd2
          subst hd2
          have hv : VsRel φ (first ++ args ++ captured) ((xa ++ args') ++ ya).toList := by simpa using (hfx.append hargs).append hfy
          have hD := hdch.ok g _ h _ ha φ w _ hx.rel hv
          refine ⟨by simp, .func g, ya, ?_⟩
          generalize hrun : (callFunc g ((xa ++ args') ++ ya)).run P w = r at hD
          cases r with
          | halt x w' => exact hD.elim
          | ok nx w' =>
            cases nx <;> first | exact hD.elim | skip
            case enter f2 args2 =>
              obtain ⟨rfl, hC⟩ := hD
              refine ⟨f2, args2, rfl, hrun, CallsD.mono hC fun e u' w'' hq => ?_⟩
              cases e with
              | returned v =>
                obtain ⟨rfl, φ', v2, h', hk, hx'⟩ := hq
                exact leaves_sim hdch hres hR ds _ h' w'' φ' (hx.trans hx') (he.mono hx'.sub) (hdt.mono hx'.sub) hk
              | panicked c => exact hq.elim
              | outgrown => exact hq.elim
      · exact ha.elim

theorem start_rl {φ : Phi} {h : Hp} {w : World} {N k : Nat} {args : List V} {args' : Array Value} (r : HRel φ h w) (hv : VsRel φ args args'.toList) (hsz : (args' ++ Array.replicate k undef).size = N) :
    Rl P φ h w N ⟨argE args, [], h⟩ { tmps := args' ++ Array.replicate k undef, defers := [] } w := by
  have hal : args'.size = args.length := by rw [hv.length]; simp
  refine ⟨φ, Ext.refl r, fun n => ?_, .nil, hsz⟩
  show VRel φ ((args[n]?).getD (.tup [])) _
  have hgd : (args' ++ Array.replicate (k) undef).getD n undef = ((args' ++ Array.replicate (k) undef)[n]?).getD undef := by simp
  show VRel φ _ ((args' ++ Array.replicate (k) undef).getD n undef)
  rw [hgd]
  cases hq : args[n]? with
  | some v =>
    obtain ⟨v', g1, g2⟩ := hv.get hq
    have hlt : n < args'.size := by rw [hal]; exact (List.getElem?_eq_some_iff.1 hq).1
    rw [Array.getElem?_append_left hlt]
    rw [Array.getElem?_toList] at g1
    rw [g1]; exact g2
  | none =>
    have hge : args'.size ≤ n := by rw [hal]; simpa using hq
    rw [Array.getElem?_append_right hge, Array.getElem?_replicate]
    split <;> exact undef_rel

theorem awF_calls {ch dch : Hd} (hch : SoundH P ch) (hdch : SoundD P dch) {ptrs : List TypeId} (hptrs : PtrsOk P ptrs) (hm : P.follows .mixedOrders = true) {f : FuncId} {F : F} (hF : FOk P ptrs f F) {args : List V} {h : Hp} {Q : V → Hp → Prop}
    (ha : awF ch dch F args h Q) {φ : Phi} {w : World} {args' : Array Value} (r : HRel φ h w) (hv : VsRel φ args args'.toList) :
    (callFunc f args').run P w = .ok (.enter f args') w ∧ Calls P f args' w fun
      | .returned v', w' => CallR φ h w Q v' w'
      | _, _ => False := by
  obtain ⟨⟨fn, hf, hn, hc⟩⟩ := hF
  obtain ⟨c, hb, hres, hnt, hcode, hok, hfew⟩ := cFunc_spec hc
  refine ⟨callFunc_enter hf (by simp [hb]) hn, calls_of_wp_defers hf hb ?_⟩
  obtain ⟨hlen, hw⟩ := ha
  rw [hcode] at hw
  have hal : args'.size = args.length := by rw [hv.length]; simp
  have hsz : (args' ++ Array.replicate (fn.ntmps - args'.size) undef).size = F.ntmps := by simp; omega
  have hr0 := start_rl (P := P) (φ := φ) (h := h) (w := w) (N := F.ntmps) (k := fn.ntmps - args'.size) r hv hsz
  refine wp_mono (sim_code hch hptrs hfew hm c _ _ _ _ hok hr0 hw) fun e a w' hq => ?_
  have fin : ∀ s, awDefs dch s.defs (fun h => ∃ vs, resVs h.rd s.env F.res = some vs ∧ Q (result vs) h) s.h → Rl P φ h w F.ntmps s a w' → Leaves P fn a.tmps (fun
      | .returned v', w' => CallR φ h w Q v' w'
      | _, _ => False) a.defers .returning w' := fun s hs ⟨φ', hx, he, hd, _⟩ => leaves_sim hdch hres (fun v w h => h) _ _ _ _ φ' hx he hd hs
  cases e with
  | normal => obtain ⟨s, hs, hr⟩ := hq; exact fin s hs hr
  | ret => obtain ⟨s, hs, hr⟩ := hq; exact fin s hs hr
  | exit id => obtain ⟨s, hs, hr⟩ := hq; exact hs.elim
  | _ => exact hq.elim

def noD : Hd := fun _ _ _ _ => False
theorem noD_sound {P : Program} : SoundD P noD := ⟨fun _ _ _ _ h => h.elim⟩

/-- The same, deferred: of a function that defers nothing itself. -/
theorem awF_callsD {ch : Hd} (hch : SoundH P ch) {ptrs : List TypeId} (hptrs : PtrsOk P ptrs) (hm : P.follows .mixedOrders = true) {f : FuncId} {F : F} (hF : FOk P ptrs f F) {args : List V} {h : Hp} {Q : V → Hp → Prop}
    (ha : awF ch noD F args h Q) {φ : Phi} {w : World} {args' : Array Value} (r : HRel φ h w) (hv : VsRel φ args args'.toList) :
    (callFunc f args').run P w = .ok (.enter f args') w ∧ CallsD P f args' .returning w fun e u w' => u = .returning ∧ match e with
      | .returned v' => CallR φ h w Q v' w'
      | _ => False := by
  obtain ⟨⟨fn, hf, hn, hc⟩⟩ := hF
  obtain ⟨c, hb, hres, hnt, hcode, hok, hfew⟩ := cFunc_spec hc
  refine ⟨callFunc_enter hf (by simp [hb]) hn, callsD_of_wp hf hb (R := fun e w' => match e with
      | .returned v' => CallR φ h w Q v' w'
      | _ => False) ?_⟩
  obtain ⟨hlen, hw⟩ := ha
  rw [hcode] at hw
  have hal : args'.size = args.length := by rw [hv.length]; simp
  have hsz : (args' ++ Array.replicate (fn.ntmps - args'.size) undef).size = F.ntmps := by simp; omega
  have hr0 := start_rl (P := P) (φ := φ) (h := h) (w := w) (N := F.ntmps) (k := fn.ntmps - args'.size) r hv hsz
  refine wp_mono (sim_code hch hptrs hfew hm c _ _ _ _ hok hr0 hw) fun e a w' hq => ?_
  have fin : ∀ s, awDefs noD s.defs (fun h => ∃ vs, resVs h.rd s.env F.res = some vs ∧ Q (result vs) h) s.h → Rl P φ h w F.ntmps s a w' → a.defers = [] ∧ ∃ v, (results fn a.tmps).run P w' = .ok v w' ∧ CallR φ h w Q v w' := fun s hs ⟨φ', hx, he, hd, _⟩ => by
    cases hds : s.defs with
    | nil =>
      rw [hds] at hs hd
      obtain ⟨vs, h1, h2⟩ := hs
      obtain ⟨v', g1, g2⟩ := results_run (P := P) hx.rel he hres h1
      refine ⟨?_, v', g1, φ', _, _, h2, g2, hx⟩
      generalize a.defers = ds at hd
      cases hd; rfl
    | cons d ds =>
      rw [hds] at hs
      obtain ⟨f, args⟩ := d
      unfold awDefs at hs
      split at hs
      · exact hs.elim
      · exact hs.elim
  cases e with
  | normal => obtain ⟨s, hs, hr⟩ := hq; exact fin s hs hr
  | ret => obtain ⟨s, hs, hr⟩ := hq; exact fin s hs hr
  | exit id => obtain ⟨s, hs, hr⟩ := hq; exact hs.elim
  | _ => exact hq.elim

end
end Go.AM

/- What is forgotten. -/
namespace Go.AM

/-- Some of the blocks that were made are forgotten; names are held back. -/
def Fgt (n : Nat) (h h' : Hp) : Prop := h.next ≤ h'.next ∧ ∀ b, h'.rd b = h.rd b ∨ (h'.rd b = none ∧ b.isNew n)
theorem Fgt.refl (n : Nat) (h : Hp) : Fgt n h h := ⟨Nat.le_refl _, fun _ => .inl rfl⟩

theorem Ext.fgt {φ φ' : Phi} {h h1 h2 : Hp} {w w' : World} (e : Ext φ h w φ' h1 w') (f : Fgt h.next h1 h2) : Ext φ h w φ' h2 w' := by
  have key : ∀ b x, h2.rd b = some x → h1.rd b = some x := fun b x hb => by
    rcases f.2 b with h' | ⟨h', _⟩
    · rw [← h']; exact hb
    · rw [h'] at hb; cases hb
  have r := e.rel
  refine ⟨e.sub, ⟨fun b ph x hb hx => r.blk b ph x hb (key b x hx), fun b c p q x y hb hc hx hy => r.inj b c p q x y hb hc (key b x hx) (key c y hy), r.old, fun b hb => r.next b (BId.isNew_mono f.1 hb), r.grk, fun n q y hc hy hr => r.exz n q y hc (key _ y hy) hr⟩,
    e.size, e.unch, fun b ph x hb hx => e.fresh b ph x hb (key b x hx), ?_, e.newid, Nat.le_trans e.next f.1, e.tape, e.os, e.out⟩
  intro b hb hn
  rcases f.2 b with h' | ⟨_, h'⟩
  · rw [h']; exact e.abs b hb hn
  · exact absurd h' hn

end Go.AM

/- The fast run follows the predicate transformer. -/
namespace Go.AM

theorem T.get_e {α : Type} (k : Nat) : (T.e : T α).get k = none := rfl
theorem br_eq {α : Type} (b : Bool) (x y : α) : br b x y = if b = true then x else y := by cases b <;> rfl
theorem T.get_n {α : Type} (l : T α) (v : Option α) (r : T α) (k : Nat) : (T.n l v r).get k = if k = 0 then v else if k % 2 = 1 then l.get (k / 2) else r.get (k / 2 - 1) := by
  show br (Nat.beq k 0) v (br (Nat.beq (Nat.mod k 2) 1) (l.get (Nat.div k 2)) (r.get (Nat.pred (Nat.div k 2)))) = _
  rw [br_eq, br_eq]
  simp only [beq_nat, decide_eq_true_eq]
  rfl
theorem T.get_n0 {α : Type} (k : Nat) : (T.n .e none .e : T α).get k = none := by
  rw [T.get_n]; split
  · rfl
  · split <;> rfl

theorem T.sets_get {α : Type} {x : Option α} {ih : T α → Nat → Option (T α)} (hih : ∀ t k t', ih t k = some t' → ∀ j, t'.get j = if j = k then x else t.get j) {k : Nat} {l : T α} {v : Option α} {r t' : T α}
    (e : T.sets x ih k l v r = some t') (j : Nat) : t'.get j = if j = k then x else (T.n l v r).get j := by
  unfold T.sets at e
  rw [br_eq, br_eq] at e
  simp only [beq_nat, decide_eq_true_eq] at e
  by_cases h0 : k = 0
  · rw [if_pos h0] at e
    cases e
    rw [T.get_n, T.get_n]
    by_cases hj : j = 0
    · rw [if_pos hj, if_pos (by omega)]
    · have hjk : ¬ j = k := by omega
      rw [if_neg hj, if_neg hjk, if_neg hj]
  · rw [if_neg h0] at e
    by_cases h1 : k % 2 = 1
    · rw [if_pos (show Nat.mod k 2 = 1 from h1)] at e
      cases hq : ih l (Nat.div k 2) with
      | none => rw [hq] at e; cases e
      | some l' =>
        rw [hq] at e
        cases e
        have hl := hih _ _ _ hq
        rw [T.get_n, T.get_n]
        by_cases hj : j = 0
        · rw [if_pos hj, if_pos hj, if_neg (by omega)]
        · rw [if_neg hj, if_neg hj]
          by_cases hj1 : j % 2 = 1
          · rw [if_pos hj1, if_pos hj1, hl]
            show (if j / 2 = k / 2 then x else l.get (j / 2)) = _
            by_cases hjk : j = k
            · rw [if_pos (by omega), if_pos hjk]
            · rw [if_neg (by omega), if_neg hjk]
          · rw [if_neg hj1, if_neg hj1, if_neg (by intro e; subst e; exact hj1 h1)]
    · rw [if_neg (show ¬ Nat.mod k 2 = 1 from h1)] at e
      cases hq : ih r (Nat.pred (Nat.div k 2)) with
      | none => rw [hq] at e; cases e
      | some r' =>
        rw [hq] at e
        cases e
        have hl := hih _ _ _ hq
        rw [T.get_n, T.get_n]
        by_cases hj : j = 0
        · rw [if_pos hj, if_pos hj, if_neg (by omega)]
        · rw [if_neg hj, if_neg hj]
          by_cases hj1 : j % 2 = 1
          · rw [if_pos hj1, if_pos hj1, if_neg (by intro e; subst e; exact h1 hj1)]
          · rw [if_neg hj1, if_neg hj1, hl]
            show (if j / 2 - 1 = k / 2 - 1 then x else r.get (j / 2 - 1)) = _
            by_cases hjk : j = k
            · rw [if_pos (by rw [hjk]), if_pos hjk]
            · rw [if_neg (by omega), if_neg hjk]

theorem T.set_get {α : Type} {x : Option α} : ∀ (fuel : Nat) (t : T α) (k : Nat) (t' : T α), T.set x fuel t k = some t' → ∀ j, t'.get j = if j = k then x else t.get j
  | 0, t, k, t', hq => by cases hq
  | fuel + 1, t, k, t', hq => fun j => by
    cases t with
    | e =>
      have e' : T.sets x (T.set x fuel) k .e none .e = some t' := hq
      rw [T.sets_get (T.set_get fuel) e' j, T.get_n0, T.get_e]
    | n l v r =>
      have e' : T.sets x (T.set x fuel) k l v r = some t' := hq
      exact T.sets_get (T.set_get fuel) e' j

noncomputable def H.hp (B : Rd) (h : H) : Hp := ⟨h.rd B, h.next⟩
noncomputable def St.as (B : Rd) (s : St) : AS := ⟨evT s.env, s.defs, s.h.hp B⟩

theorem H.put_rd {B : Rd} {h h' : H} {b : BId} {x : Option Blk} (e : h.put b x = some h') : h'.next = h.next ∧ ∀ c, h'.rd B c = if c = b then x else h.rd B c := by
  cases b with
  | old n => cases e
  | ex n =>
    simp only [H.put] at e
    cases hq : T.set (some x) 40 h.t (Nat.mul 2 n) with
    | none => rw [hq] at e; cases e
    | some t =>
      rw [hq] at e
      cases e
      refine ⟨rfl, fun c => ?_⟩
      have hg := T.set_get _ _ _ _ hq
      cases c with
      | old m => rfl
      | ex m =>
        show orB (B (.ex m)) (t.get (Nat.mul 2 m)) = _
        rw [hg]
        by_cases hm : m = n
        · subst hm; simp [orB]
        · rw [if_neg (by show ¬ 2 * m = 2 * n; omega), if_neg (by simpa using hm)]; rfl
      | gr m =>
        show orB (B (.gr m)) (t.get (Nat.succ (Nat.mul 2 m))) = _
        rw [hg, if_neg (by show ¬ 2 * m + 1 = 2 * n; omega), if_neg (by simp)]; rfl
  | gr n =>
    simp only [H.put] at e
    cases hq : T.set (some x) 40 h.t (Nat.succ (Nat.mul 2 n)) with
    | none => rw [hq] at e; cases e
    | some t =>
      rw [hq] at e
      cases e
      refine ⟨rfl, fun c => ?_⟩
      have hg := T.set_get _ _ _ _ hq
      cases c with
      | old m => rfl
      | gr m =>
        show orB (B (.gr m)) (t.get (Nat.succ (Nat.mul 2 m))) = _
        rw [hg]
        by_cases hm : m = n
        · subst hm; simp [orB]
        · rw [if_neg (by show ¬ 2 * m + 1 = 2 * n + 1; omega), if_neg (by simpa using hm)]; rfl
      | ex m =>
        show orB (B (.ex m)) (t.get (Nat.mul 2 m)) = _
        rw [hg, if_neg (by show ¬ 2 * m = 2 * n + 1; omega), if_neg (by simp)]; rfl

theorem H.put_hp {B : Rd} {h h' : H} {b : BId} {x : Option Blk} (e : h.put b x = some h') : h'.hp B = (h.hp B).set b x ∧ h'.next = h.next := by
  obtain ⟨h1, h2⟩ := H.put_rd (B := B) e
  refine ⟨?_, h1⟩
  unfold H.hp Hp.set
  rw [h1]
  congr 1
  exact funext h2

theorem H.eff_hp {B : Rd} {h h' : H} {e : Eff} (he : h.eff e = some h') : h'.hp B = (h.hp B).eff e := by
  cases e with
  | no => cases he; rfl
  | put b blk => exact (H.put_hp he).1
theorem H.push_hp {B : Rd} {h h' : H} {g : Bool} {blk : Blk} (he : h.push g blk = some h') : h'.hp B = (h.hp B).push g blk := by
  unfold H.push H.up at he
  split at he
  · rename_i h1 hp
    cases he
    obtain ⟨g1, g2⟩ := H.put_hp (B := B) hp
    have g3 : h1.rd B = ((h.hp B).set (gId g h.next) (some blk)).rd := congrArg Hp.rd g1
    show (⟨h1.rd B, Nat.succ h1.next⟩ : Hp) = ⟨((h.hp B).set (gId g h.next) (some blk)).rd, h.next + 1⟩
    rw [← g3, g2]
  · cases he

theorem evT_setD {env env' : T V} {dst : Option Nat} {v : V} (e : setD env dst v = some env') : evT env' = putE (evT env) dst v := by
  cases dst with
  | none => cases e; rfl
  | some d =>
    have hg := T.set_get _ _ _ _ (show T.set (some v) 40 env d = some env' from e)
    funext n
    show orV (env'.get n) = if n = d then v else orV (env.get n)
    rw [hg]
    by_cases hn : n = d
    · rw [if_pos hn, if_pos hn]; rfl
    · rw [if_neg hn, if_neg hn]

end Go.AM

/- The fast run follows the predicate transformer: operations, code, functions. -/
namespace Go.AM

/-- What a run says of a call. -/
def hdOf (ch : Rd → Ch) : Hd := fun f args h Q => ∃ (B : Rd) (hh : H), hh.hp B = h ∧ ∃ v h', ch B f args hh = some (v, h') ∧ Q v (h'.hp B)
/-- The same, what was there fixed. -/
def hdB (B : Rd) (ch : Ch) : Hd := fun f args h Q => ∃ hh : H, hh.hp B = h ∧ ∃ v h', ch f args hh = some (v, h') ∧ Q v (h'.hp B)

section
variable {B : Rd}

theorem wants_as {s : St} {g : Option (Nat × Bool)} : wants (s.as B).env g = wants (evT s.env) g := rfl

theorem to_as {s s' : St} {dst : Option Nat} {v : V} {x : Option H} {h2 : Hp} (e : s.to dst v x = some s') (hx : ∀ h, x = some h → (h.hp B) = h2) : (s'.as B) = (s.as B).to dst v h2 := by
  unfold St.to mkSt at e
  split at e
  · rename_i h
    split at e
    · rename_i env he
      cases e
      show (⟨evT env, s.defs, (h.hp B)⟩ : AS) = ⟨putE (evT s.env) dst v, s.defs, h2⟩
      rw [evT_setD he, hx h rfl]
    · cases e
  · cases e

theorem set_as {s s' : St} {dst : Option Nat} {v : V} {defs : Defs} (e : mkSt defs s.h (setD s.env dst v) = some s') : (s'.as B) = ⟨putE (s.as B).env dst v, defs, (s.as B).h⟩ := by
  unfold mkSt at e
  split at e
  · rename_i env he
    cases e
    show (⟨evT env, defs, (s.h.hp B)⟩ : AS) = ⟨putE (evT s.env) dst v, defs, (s.h.hp B)⟩
    rw [evT_setD he]
  · cases e

theorem res_sound {ch : Ch} {s s' : St} {dst : Option Nat} {R : Res} {K : AS → Prop} (e : s.res ch dst R = some s') (hK : K (s'.as B)) : awRes (hdB B ch) dst K (s.as B) R := by
  cases R with
  | fail => cases e
  | ok v ef =>
    have := to_as (B := B) e fun h hh => H.eff_hp hh
    rw [this] at hK; exact hK
  | mk g v blk =>
    have := to_as (B := B) e fun h hh => H.push_hp hh
    rw [this] at hK; exact hK
  | rep v kill blk =>
    simp only [St.res, St.rep] at e
    split at e
    · rename_i h1 hp
      obtain ⟨g1, g2⟩ := H.put_hp (B := B) hp
      have := to_as (B := B) e fun h hh => H.push_hp hh
      rw [this, g1] at hK
      have hn : h1.next = (s.as B).h.next := g2
      rw [hn] at hK; exact hK
    · cases e
  | call f args =>
    simp only [St.res, St.toR] at e
    split at e
    · rename_i v h hc
      refine ⟨s.h, rfl, v, h, hc, ?_⟩
      have := to_as (B := B) (s := s) (dst := dst) (v := v) (x := some h) (h2 := (h.hp B)) e fun h' hh => by cases hh; rfl
      rw [this] at hK; exact hK
    · cases e
  | dfr f args =>
    have := set_as (B := B) e
    rw [this] at hK; exact hK
  | any l =>
    simp only [St.res, St.any1] at e
    split at e
    · rename_i x
      intro y hy
      obtain rfl := List.mem_singleton.1 hy
      have := to_as (B := B) e fun h hh => H.eff_hp hh
      rw [this] at hK; exact hK
    · cases e

theorem op_sound {ch : Ch} {o : Op'} {s s' : St} {K : AS → Prop} (e : runOp B ch o s = some s') (hK : K (s'.as B)) : awOp (hdB B ch) o K (s.as B) := by
  unfold runOp at e
  unfold awOp
  rw [wants_as]
  cases hw : wants (evT s.env) o.grd with
  | true => rw [hw] at e; rw [if_pos rfl]; exact res_sound e hK
  | false =>
    rw [hw] at e
    rw [if_neg (by simp)]
    have := set_as (B := B) e
    rw [this] at hK; exact hK

theorem ops_sound {ch : Ch} {K : AS → Prop} : ∀ (l : List Op') (s s' : St), runOps B ch l s = some s' → K (s'.as B) → awOps (hdB B ch) l K (s.as B)
  | [], s, s', e, hK => by cases e; exact hK
  | o :: l, s, s', e, hK => by
    have e' : thenS (runOps B ch l) (runOp B ch o s) = some s' := e
    unfold thenS at e'
    split at e'
    · rename_i s1 h1
      exact op_sound h1 (ops_sound l s1 s' e' hK)
    · cases e'

theorem bid_beq_eq {a b : BId} (e : a.beq b = true) : a = b := by rw [bid_beq] at e; simpa using e

theorem beqV_eqs (n : Nat) : (∀ p q : V, SizeOf.sizeOf p ≤ n → beqV p q = true → p = q) ∧ (∀ p q : List V, SizeOf.sizeOf p ≤ n → beqVs p q = true → p = q) := by
  induction n with
  | zero => exact ⟨fun p _ h => by cases p <;> simp at h, fun p _ h => by cases p <;> simp at h⟩
  | succ n ih =>
    obtain ⟨ihv, ihs⟩ := ih
    refine ⟨fun p q hs e => ?_, fun p q hs e => ?_⟩
    · unfold beqV at e
      split at e
      · simp at e; rw [e]
      · simp only [kbeq_eq, ibeq_eq, Bool.and_eq_true, decide_eq_true_eq, beq_iff_eq] at e
        rw [e.1, e.2]
      · simp only [bytesEq_eq, beq_iff_eq] at e; rw [e]
      · rfl
      · rename_i a c
        simp only [Bool.and_eq_true, Nat.beq_eq] at e
        have := bid_beq_eq e.1
        obtain ⟨ab, ao⟩ := a; obtain ⟨cb, co⟩ := c
        simp only at this e
        rw [this, e.2]
      · simp only [Bool.and_eq_true, Nat.beq_eq] at e; rw [e.1, e.2]
      · rename_i a n c a' m d
        simp only [Bool.and_eq_true, Nat.beq_eq] at e
        obtain ⟨⟨⟨e1, e2⟩, e3⟩, e4⟩ := e
        have := bid_beq_eq e1
        obtain ⟨ab, ao⟩ := a; obtain ⟨cb, co⟩ := a'
        simp only at this e2
        rw [this, e2, e3, e4]
      · rfl
      · rw [bid_beq_eq e]
      · rfl
      · rfl
      · simp only [Bool.and_eq_true, Nat.beq_eq] at e
        simp at hs
        rw [e.1, ihv _ _ (by omega) e.2]
      · simp at hs; rw [ihs _ _ (by omega) e]
      · simp at hs; rw [ihs _ _ (by omega) e]
      · simp only [Bool.and_eq_true, Nat.beq_eq] at e
        simp at hs
        rw [e.1.1, ihs _ _ (by omega) e.1.2, ihs _ _ (by omega) e.2]
      · cases e
    · unfold beqVs at e
      split at e
      · rfl
      · simp only [Bool.and_eq_true] at e
        simp at hs
        rw [ihv _ _ (by omega) e.1, ihs _ _ (by omega) e.2]
      · cases e
theorem beqV_eq (p q : V) (e : beqV p q = true) : p = q := (beqV_eqs _).1 p q (Nat.le_refl _) e

theorem again_sound {h : H} {env : Ev} : ∀ {l : List Op'}, again B h env l = true → ∀ x ∈ l, wants env x.grd = true → ∃ d, x.dst = some d ∧ aop (h.rd B) env x.op = .ok (env d) .no
  | [], _, x, hm, _ => by simp at hm
  | r :: l, e, x, hm, hw => by
    simp only [again, Bool.and_eq_true] at e
    rcases List.mem_cons.1 hm with rfl | hm
    · have h1 := e.1
      unfold again1 at h1
      rw [hw] at h1
      simp only [cond_true] at h1
      split at h1
      · rename_i d hd
        refine ⟨d, hd, ?_⟩
        unfold same1 at h1
        split at h1
        · rename_i v hv
          rw [hv, beqV_eq _ _ h1]
        · cases h1
      · cases h1
    · exact again_sound e.2 x hm hw

theorem di_sound {ch : Ch} {base : Nat} {i : DI} {s s' : St} {K : AS → Prop} (e : runDI B ch base s i = some s') (hK : K (s'.as B)) : awDI (hdB B ch) base K (s.as B) i := by
  cases i with
  | fl o mk =>
    simp only [runDI, runFl] at e
    show if wants (s.as B).env o.grd = true then awFl (base + mk) o.dst K (s.as B) (aop (s.as B).h.rd (s.as B).env o.op) else K ((s.as B).to o.dst (.tup []) (s.as B).h)
    rw [wants_as]
    cases hw : wants (evT s.env) o.grd with
    | false =>
      rw [hw] at e
      rw [if_neg (by simp)]
      have := set_as (B := B) e
      rw [this] at hK; exact hK
    | true =>
      rw [hw] at e
      rw [if_pos rfl]
      simp only [cond_true, flRes] at e
      split at e
      · rename_i v hv
        have := set_as (B := B) e
        rw [this] at hK
        show awFl (base + mk) o.dst K (s.as B) (aop (s.h.rd B) (evT s.env) o.op)
        rw [hv]; exact hK
      · rename_i g v blk hv
        show awFl (base + mk) o.dst K (s.as B) (aop (s.h.rd B) (evT s.env) o.op)
        rw [hv]
        unfold putNew at e
        split at e
        · cases e
        · rename_i hn
          have := to_as (B := B) e fun h hh => (H.put_hp hh).1
          rw [this] at hK
          exact ⟨hn, hK⟩
      · cases e
  | an o re =>
    have e : thenS (askRe B re) (runOp B ch o s) = some s' := e
    unfold thenS at e
    split at e
    · rename_i s1 h1
      unfold askRe at e
      cases ha : again B s1.h (evT s1.env) re with
      | false => rw [ha] at e; cases e
      | true =>
        rw [ha] at e
        cases e
        exact op_sound h1 ⟨fun x hx hw => again_sound ha x hx hw, hK⟩
    · cases e

theorem ds_sound {ch : Ch} {base : Nat} {K : AS → Prop} : ∀ (l : List DI) (s s' : St), runDs B ch base l s = some s' → K (s'.as B) → awDs (hdB B ch) base l K (s.as B)
  | [], s, s', e, hK => by cases e; exact hK
  | i :: l, s, s', e, hK => by
    have e' : thenS (runDs B ch base l) (runDI B ch base s i) = some s' := e
    unfold thenS at e'
    split at e'
    · rename_i s1 h1
      exact di_sound h1 (ds_sound l s1 s' e' hK)
    · cases e'

theorem code_sound {ch : Ch} {fuel : Nat} : ∀ (c : C) (s : St) (x : Ex) (s' : St) (Q : Ex → AS → Prop), runC B ch fuel c s = some (x, s') → Q x (s'.as B) → awC (hdB B ch) c Q (s.as B) := by
  intro c
  induction c with
  | skip => intro s x s' Q e hQ; cases e; exact hQ
  | reg ops =>
    intro s x s' Q e hQ
    have e' : norm (runOps B ch ops s) = some (x, s') := e
    unfold norm at e'
    split at e'
    · rename_i s1 h1
      cases e'
      exact ops_sound (K := Q .norm) ops s _ h1 hQ
    · cases e'
  | dreg alts makes =>
    intro s x s' Q e hQ
    have e' : norm (runDr B ch makes s alts) = some (x, s') := e
    unfold norm at e'
    split at e'
    · rename_i s1 h1
      cases e'
      unfold runDr at h1
      split at h1
      · rename_i l
        intro l2 hl2
        obtain rfl := List.mem_singleton.1 hl2
        exact ds_sound (K := Q .norm) _ _ _ h1 hQ
      · cases h1
    · cases e'
  | seq a b iha ihb =>
    intro s x s' Q e hQ
    have e' : thenC (runC B ch fuel b) (runC B ch fuel a s) = some (x, s') := e
    cases ha : runC B ch fuel a s with
    | none => rw [ha] at e'; cases e'
    | some p =>
      obtain ⟨y, s1⟩ := p
      rw [ha] at e'
      refine iha s y s1 _ ha ?_
      cases y with
      | norm => exact ihb s1 x s' Q e' hQ
      | exit id => cases e'; exact hQ
      | ret => cases e'; exact hQ
  | cond c a b iha ihb =>
    intro s x s' Q e hQ
    have e' : ofB (runC B ch fuel a s) (runC B ch fuel b s) (val (evT s.env) c) = some (x, s') := e
    unfold ofB at e'
    split at e'
    · rename_i hv
      have hv' : val (s.as B).env c = .b true := hv
      simp only [awC, hv']
      exact iha s x s' Q e' hQ
    · rename_i hv
      have hv' : val (s.as B).env c = .b false := hv
      simp only [awC, hv']
      exact ihb s x s' Q e' hQ
    · cases e'
  | block id a iha =>
    intro s x s' Q e hQ
    have e' : endB id (runC B ch fuel a s) = some (x, s') := e
    cases ha : runC B ch fuel a s with
    | none => rw [ha] at e'; cases e'
    | some p =>
      obtain ⟨y, s1⟩ := p
      rw [ha] at e'
      refine iha s y s1 _ ha ?_
      cases y with
      | norm => cases e'; exact hQ
      | exit k =>
        simp only [endB, beq_nat] at e'
        simp only [blkE]
        by_cases hk : k = id
        · simp only [hk, decide_true, cond_true] at e'
          cases e'
          rw [if_pos hk]; exact hQ
        · simp only [hk, decide_false, cond_false] at e'
          cases e'
          rw [if_neg hk]; exact hQ
      | ret => cases e'; exact hQ
  | loop a iha =>
    intro s x s' Q e hQ X hX
    have key : ∀ n s, iter (runC B ch fuel a) n s = some (x, s') → X (s.as B) := by
      intro n
      induction n with
      | zero => intro s e; cases e
      | succ n ih =>
        intro s e
        have e' : thenC (iter (runC B ch fuel a) n) (runC B ch fuel a s) = some (x, s') := e
        cases ha : runC B ch fuel a s with
        | none => rw [ha] at e'; cases e'
        | some p =>
          obtain ⟨y, s1⟩ := p
          rw [ha] at e'
          refine hX _ (iha s y s1 _ ha ?_)
          cases y with
          | norm => exact ih s1 e'
          | exit k => cases e'; exact hQ
          | ret => cases e'; exact hQ
    exact key fuel s e
  | exit id => intro s x s' Q e hQ; cases e; exact hQ
  | ret => intro s x s' Q e hQ; cases e; exact hQ

end
end Go.AM

/- All outcomes of a function, made one: that the predicate transformer follows. -/
namespace Go.AM

theorem bindL_mem {α β : Type} {f : α → Option (List β)} : ∀ {l : List α} {r : List β}, bindL f l = some r → ∀ a ∈ l, ∃ ra, f a = some ra ∧ ∀ x ∈ ra, x ∈ r
  | [], r, h, a, ha => by simp at ha
  | b :: l, r, h, a, ha => by
    have h' : appO (f b) (bindL f l) = some r := h
    unfold appO at h'
    split at h'
    · rename_i x hx
      split at h'
      · rename_i y hy
        cases h'
        rcases List.mem_cons.1 ha with rfl | ha
        · exact ⟨x, hx, fun z hz => List.mem_append_left _ hz⟩
        · obtain ⟨ra, h1, h2⟩ := bindL_mem hy a ha
          exact ⟨ra, h1, fun z hz => List.mem_append_right _ (h2 z hz)⟩
      · cases h'
    · cases h'
theorem thenL_mem {α β : Type} {f : α → Option (List β)} {l : Option (List α)} {r : List β} (h : thenL f l = some r) : ∃ l', l = some l' ∧ ∀ a ∈ l', ∃ ra, f a = some ra ∧ ∀ x ∈ ra, x ∈ r := by
  unfold thenL at h
  split at h
  · rename_i l'
    exact ⟨l', rfl, fun a ha => bindL_mem h a ha⟩
  · cases h
theorem one1_eq {α : Type} {x : Option α} {l : List α} (h : one1 x = some l) : ∃ a, x = some a ∧ l = [a] := by
  unfold one1 at h
  split at h
  · cases h; exact ⟨_, rfl, rfl⟩
  · cases h

section
variable {B : Rd} {ch : Ch}

theorem resM_sound {s : St} {dst : Option Nat} {R : Res} {K : AS → Prop} {l : List St} (e : s.resM ch dst R = some l) (hK : ∀ s' ∈ l, K (s'.as B)) : awRes (hdB B ch) dst K (s.as B) R := by
  unfold St.resM at e
  split at e
  · rename_i l2
    intro x hx
    obtain ⟨ra, h1, h2⟩ := bindL_mem e x hx
    obtain ⟨s', h3, rfl⟩ := one1_eq h1
    have := to_as (B := B) h3 fun h hh => H.eff_hp hh
    have h4 := hK s' (h2 s' (List.mem_cons_self ..))
    rw [this] at h4
    exact h4
  · obtain ⟨s', h3, rfl⟩ := one1_eq e
    exact res_sound h3 (hK s' (List.mem_cons_self ..))

theorem opM_sound {o : Op'} {s : St} {K : AS → Prop} {l : List St} (e : runOpM B ch o s = some l) (hK : ∀ s' ∈ l, K (s'.as B)) : awOp (hdB B ch) o K (s.as B) := by
  unfold runOpM at e
  unfold awOp
  rw [wants_as]
  cases hw : wants (evT s.env) o.grd with
  | true => rw [hw] at e; rw [if_pos rfl]; exact resM_sound e hK
  | false =>
    rw [hw] at e
    rw [if_neg (by simp)]
    obtain ⟨s', h3, rfl⟩ := one1_eq e
    have := set_as (B := B) h3
    have h4 := hK s' (List.mem_cons_self ..)
    rw [this] at h4; exact h4

theorem opsM_sound {K : AS → Prop} : ∀ (l : List Op') (s : St) (r : List St), runOpsM B ch l s = some r → (∀ s' ∈ r, K (s'.as B)) → awOps (hdB B ch) l K (s.as B)
  | [], s, r, e, hK => by
    have e' : some [s] = some r := e
    cases e'
    exact hK s (List.mem_cons_self ..)
  | o :: l, s, r, e, hK => by
    have e' : thenL (runOpsM B ch l) (runOpM B ch o s) = some r := e
    obtain ⟨l', h1, h2⟩ := thenL_mem e'
    exact opM_sound h1 fun s1 hs1 => by
      obtain ⟨ra, g1, g2⟩ := h2 s1 hs1
      exact opsM_sound l s1 ra g1 fun s' hs' => hK s' (g2 s' hs')

theorem diM_sound {base : Nat} {i : DI} {s : St} {K : AS → Prop} {l : List St} (e : runDIM B ch base s i = some l) (hK : ∀ s' ∈ l, K (s'.as B)) : awDI (hdB B ch) base K (s.as B) i := by
  cases i with
  | fl o mk =>
    obtain ⟨s', h3, rfl⟩ := one1_eq (show one1 (runFl B (Nat.add base mk) o s) = some l from e)
    exact di_sound (i := .fl o mk) h3 (hK s' (List.mem_cons_self ..))
  | an o re =>
    have e' : thenL (fun s => one1 (askRe B re s)) (runOpM B ch o s) = some l := e
    obtain ⟨l', h1, h2⟩ := thenL_mem e'
    exact opM_sound h1 fun s1 hs1 => by
      obtain ⟨ra, g1, g2⟩ := h2 s1 hs1
      obtain ⟨s2, g3, rfl⟩ := one1_eq g1
      unfold askRe at g3
      cases ha : again B s1.h (evT s1.env) re with
      | false => rw [ha] at g3; cases g3
      | true =>
        rw [ha] at g3
        cases g3
        exact ⟨fun x hx hw => again_sound ha x hx hw, hK s1 (g2 s1 (List.mem_cons_self ..))⟩

theorem dsM_sound {base : Nat} {K : AS → Prop} : ∀ (l : List DI) (s : St) (r : List St), runDsM B ch base l s = some r → (∀ s' ∈ r, K (s'.as B)) → awDs (hdB B ch) base l K (s.as B)
  | [], s, r, e, hK => by
    have e' : some [s] = some r := e
    cases e'
    exact hK s (List.mem_cons_self ..)
  | i :: l, s, r, e, hK => by
    have e' : thenL (runDsM B ch base l) (runDIM B ch base s i) = some r := e
    obtain ⟨l', h1, h2⟩ := thenL_mem e'
    exact diM_sound h1 fun s1 hs1 => by
      obtain ⟨ra, g1, g2⟩ := h2 s1 hs1
      exact dsM_sound l s1 ra g1 fun s' hs' => hK s' (g2 s' hs')

theorem normM_eq {l : Option (List St)} {r : List (Ex × St)} (h : normM l = some r) : ∃ l', l = some l' ∧ r = l'.map fun s => (.norm, s) := by
  unfold normM at h
  split at h
  · cases h; exact ⟨_, rfl, rfl⟩
  · cases h

theorem codeM_sound {fuel : Nat} : ∀ (c : C) (s : St) (r : List (Ex × St)) (Q : Ex → AS → Prop), runCM B ch fuel c s = some r → (∀ p ∈ r, Q p.1 (p.2.as B)) → awC (hdB B ch) c Q (s.as B) := by
  intro c
  induction c with
  | skip =>
    intro s r Q e hQ
    have e' : some [(Ex.norm, s)] = some r := e
    cases e'
    exact hQ _ (List.mem_cons_self ..)
  | reg ops =>
    intro s r Q e hQ
    obtain ⟨l', h1, rfl⟩ := normM_eq (show normM (runOpsM B ch ops s) = some r from e)
    exact opsM_sound (K := Q .norm) ops s l' h1 fun s' hs' => hQ (.norm, s') (List.mem_map.2 ⟨s', hs', rfl⟩)
  | dreg alts makes =>
    intro s r Q e hQ
    obtain ⟨l', h1, rfl⟩ := normM_eq (show normM (runDrM B ch makes s alts) = some r from e)
    intro l hl
    obtain ⟨ra, g1, g2⟩ := bindL_mem (show bindL _ alts = some l' from h1) l hl
    exact dsM_sound (K := Q .norm) l _ ra g1 fun s' hs' => hQ (.norm, s') (List.mem_map.2 ⟨s', g2 s' hs', rfl⟩)
  | seq a b iha ihb =>
    intro s r Q e hQ
    obtain ⟨l', h1, h2⟩ := thenL_mem (show thenL (thenP (runCM B ch fuel b)) (runCM B ch fuel a s) = some r from e)
    refine iha s l' _ h1 fun p hp => ?_
    obtain ⟨ra, g1, g2⟩ := h2 p hp
    obtain ⟨x, s1⟩ := p
    cases x with
    | norm => exact ihb s1 ra Q g1 fun q hq => hQ q (g2 q hq)
    | exit id =>
      have g1' : some [(Ex.exit id, s1)] = some ra := g1
      cases g1'
      exact hQ _ (g2 _ (List.mem_cons_self ..))
    | ret =>
      have g1' : some [(Ex.ret, s1)] = some ra := g1
      cases g1'
      exact hQ _ (g2 _ (List.mem_cons_self ..))
  | cond c a b iha ihb =>
    intro s r Q e hQ
    have e' : ofBM (runCM B ch fuel a s) (runCM B ch fuel b s) (val (evT s.env) c) = some r := e
    unfold ofBM at e'
    split at e'
    · rename_i hv
      have hv' : val (s.as B).env c = .b true := hv
      simp only [awC, hv']
      exact iha s r Q e' hQ
    · rename_i hv
      have hv' : val (s.as B).env c = .b false := hv
      simp only [awC, hv']
      exact ihb s r Q e' hQ
    · cases e'
  | block id a iha =>
    intro s r Q e hQ
    have e' : endBM id (runCM B ch fuel a s) = some r := e
    unfold endBM at e'
    split at e'
    · rename_i l' h1
      cases e'
      refine iha s l' _ h1 fun p hp => ?_
      have h3 := hQ (endP id p) (List.mem_map.2 ⟨p, hp, rfl⟩)
      obtain ⟨x, s1⟩ := p
      cases x with
      | norm => exact h3
      | exit k =>
        simp only [blkE]
        simp only [endP, beq_nat] at h3
        by_cases hk : k = id
        · rw [if_pos hk]
          simp only [hk, decide_true, cond_true] at h3
          exact h3
        · rw [if_neg hk]
          simp only [hk, decide_false, cond_false] at h3
          exact h3
      | ret => exact h3
    · cases e'
  | loop a iha =>
    intro s r Q e hQ X hX
    have key : ∀ n s r, iterM (runCM B ch fuel a) n s = some r → (∀ p ∈ r, Q p.1 (p.2.as B)) → X (s.as B) := by
      intro n
      induction n with
      | zero => intro s r e; cases e
      | succ n ih =>
        intro s r e hQ
        obtain ⟨l', h1, h2⟩ := thenL_mem (show thenL (thenP (iterM (runCM B ch fuel a) n)) (runCM B ch fuel a s) = some r from e)
        refine hX _ (iha s l' _ h1 fun p hp => ?_)
        obtain ⟨ra, g1, g2⟩ := h2 p hp
        obtain ⟨x, s1⟩ := p
        cases x with
        | norm => exact ih s1 ra g1 fun q hq => hQ q (g2 q hq)
        | exit id =>
          have g1' : some [(Ex.exit id, s1)] = some ra := g1
          cases g1'
          exact hQ _ (g2 _ (List.mem_cons_self ..))
        | ret =>
          have g1' : some [(Ex.ret, s1)] = some ra := g1
          cases g1'
          exact hQ _ (g2 _ (List.mem_cons_self ..))
    exact key fuel s r e hQ
  | exit id =>
    intro s r Q e hQ
    have e' : some [(Ex.exit id, s)] = some r := e
    cases e'
    exact hQ _ (List.mem_cons_self ..)
  | ret =>
    intro s r Q e hQ
    have e' : some [(Ex.ret, s)] = some r := e
    cases e'
    exact hQ _ (List.mem_cons_self ..)

end

/-! ### Made one -/

theorem beqO_eq {a b : Option Nat} (h : beqO a b = true) : a = b := by
  unfold beqO at h
  split at h
  · rfl
  · simp at h; rw [h]
  · cases h
theorem beqVs_eq (p q : List V) (e : beqVs p q = true) : p = q := (beqV_eqs _).2 p q (Nat.le_refl _) e
theorem beqEs_eq : ∀ {a b : List Ent}, beqEs a b = true → a = b
  | [], [], _ => rfl
  | [], _ :: _, h => by cases h
  | _ :: _, [], h => by cases h
  | x :: a, y :: b, h => by
    simp only [beqEs, Bool.and_eq_true, Nat.beq_eq] at h
    obtain ⟨h1, h2, h3, h4⟩ := h
    obtain ⟨xk, xv, xb⟩ := x
    obtain ⟨yk, yv, yb⟩ := y
    simp only at h1 h2 h3
    rw [h1, beqV_eq _ _ h2, beqV_eq _ _ h3, beqEs_eq h4]
theorem beqBlk_eq {a b : Blk} (h : beqBlk a b = true) : a = b := by
  unfold beqBlk at h
  split at h
  · simp only [Bool.and_eq_true, Nat.beq_eq, beq_iff_eq] at h
    obtain ⟨h1, h2, h3, h4, h5, h6⟩ := h
    rw [h1, beqO_eq h2, h3, h4, h5, beqVs_eq _ _ h6]
  · simp only [Bool.and_eq_true, Nat.beq_eq, beq_iff_eq] at h
    obtain ⟨h1, h2, h3⟩ := h
    rw [h1, h2, beqEs_eq h3]
  · cases h
theorem beqOB_eq {a b : Option Blk} (h : beqOB a b = true) : a = b := by
  unfold beqOB at h
  split at h
  · rfl
  · rw [beqBlk_eq h]
  · cases h

theorem T.get_nn {α : Type} (t : T α) (k : Nat) : t.get k = if k = 0 then t.val else if k % 2 = 1 then t.lft.get (k / 2) else t.rgt.get (k / 2 - 1) := by
  cases t with
  | e =>
    rw [T.get_e]
    split
    · rfl
    · split <;> rfl
  | n l v r => exact T.get_n l v r k

/-- What a mixed place is. -/
def MixOk (isnew : Bool) (x y z : Option (Option Blk)) : Prop := (z = x ∨ (z = some none ∧ isnew = true)) ∧ (z = y ∨ (z = some none ∧ isnew = true))
theorem mixV_ok {isnew : Bool} {x y : Option (Option Blk)} {z : Option (Option Blk)} (h : mixV isnew x y = some z) : MixOk isnew x y z := by
  unfold mixV at h
  split at h
  · cases h; exact ⟨.inl rfl, .inl rfl⟩
  · rename_i a b
    cases hb : beqOB a b with
    | true =>
      rw [hb] at h
      cases h
      rw [beqOB_eq hb]
      exact ⟨.inl rfl, .inl rfl⟩
    | false =>
      rw [hb] at h
      cases hn : isnew with
      | true => rw [hn] at h; cases h; exact ⟨.inr ⟨rfl, rfl⟩, .inr ⟨rfl, rfl⟩⟩
      | false => rw [hn] at h; cases h
  · cases hn : isnew with
    | true => rw [hn] at h; cases h; exact ⟨.inr ⟨rfl, rfl⟩, .inr ⟨rfl, rfl⟩⟩
    | false => rw [hn] at h; cases h

theorem mkN_eq {α : Type} {v : Option (Option α)} {l r : Option (T α)} {t : T α} (h : mkN v l r = some t) : ∃ v' l' r', v = some v' ∧ l = some l' ∧ r = some r' ∧ t = .n l' v' r' := by
  unfold mkN at h
  split at h
  · split at h
    · split at h
      · cases h; exact ⟨_, _, _, rfl, rfl, rfl, rfl⟩
      · cases h
    · cases h
  · cases h

theorem mixT_get {k0 : Nat} : ∀ (fuel : Nat) (x y : T (Option Blk)) (p : Nat → Nat) (t : T (Option Blk)), mixT k0 fuel x y p = some t → ∀ k, MixOk (Nat.ble k0 (p k)) (x.get k) (y.get k) (t.get k)
  | 0, x, y, p, t, h, k => by cases h
  | fuel + 1, x, y, p, t, h, k => by
    have step : ∀ {x y : T (Option Blk)}, mkN (mixV (Nat.ble k0 (p 0)) x.val y.val) (mixT k0 fuel x.lft y.lft fun j => p (Nat.succ (Nat.mul 2 j))) (mixT k0 fuel x.rgt y.rgt fun j => p (Nat.add (Nat.mul 2 j) 2)) = some t →
        MixOk (Nat.ble k0 (p k)) (x.get k) (y.get k) (t.get k) := fun {x y} h => by
      obtain ⟨v', l', r', h1, h2, h3, rfl⟩ := mkN_eq h
      rw [T.get_nn x, T.get_nn y, T.get_n]
      by_cases hk : k = 0
      · subst hk
        simp only [if_pos]
        exact mixV_ok h1
      · rw [if_neg hk, if_neg hk, if_neg hk]
        by_cases hk1 : k % 2 = 1
        · rw [if_pos hk1, if_pos hk1, if_pos hk1]
          have := mixT_get fuel _ _ _ _ h2 (k / 2)
          have e : Nat.succ (Nat.mul 2 (k / 2)) = k := by show 2 * (k / 2) + 1 = k; omega
          rw [e] at this; exact this
        · rw [if_neg hk1, if_neg hk1, if_neg hk1]
          have := mixT_get fuel _ _ _ _ h3 (k / 2 - 1)
          have e : Nat.add (Nat.mul 2 (k / 2 - 1)) 2 = k := by show 2 * (k / 2 - 1) + 2 = k; omega
          rw [e] at this; exact this
    cases x with
    | e =>
      cases y with
      | e =>
        have h' : some T.e = some t := h
        cases h'
        exact ⟨.inl rfl, .inl rfl⟩
      | n l v r => exact step h
    | n l v r => exact step h

/-- Of what one outcome wrote, some new names are forgotten. -/
theorem fgt_of_mix {B : Rd} {n : Nat} {h h' : H} (hn : h.next = h'.next) (hg : ∀ k, h'.t.get k = h.t.get k ∨ (h'.t.get k = some none ∧ Nat.ble (Nat.mul 2 n) k = true)) : Fgt n (h.hp B) (h'.hp B) := by
  refine ⟨Nat.le_of_eq hn, fun b => ?_⟩
  cases b with
  | old m => exact .inl rfl
  | ex m =>
    show orB (B (.ex m)) (h'.t.get (Nat.mul 2 m)) = orB (B (.ex m)) (h.t.get (Nat.mul 2 m)) ∨ (orB (B (.ex m)) (h'.t.get (Nat.mul 2 m)) = none ∧ n ≤ m)
    rcases hg (Nat.mul 2 m) with h1 | ⟨h1, h2⟩
    · rw [h1]; exact .inl rfl
    · rw [h1]
      refine .inr ⟨rfl, ?_⟩
      have : 2 * n ≤ 2 * m := by simpa [Nat.ble_eq] using h2
      omega
  | gr m =>
    show orB (B (.gr m)) (h'.t.get (Nat.succ (Nat.mul 2 m))) = orB (B (.gr m)) (h.t.get (Nat.succ (Nat.mul 2 m))) ∨ (orB (B (.gr m)) (h'.t.get (Nat.succ (Nat.mul 2 m))) = none ∧ n ≤ m)
    rcases hg (Nat.succ (Nat.mul 2 m)) with h1 | ⟨h1, h2⟩
    · rw [h1]; exact .inl rfl
    · rw [h1]
      refine .inr ⟨rfl, ?_⟩
      have : 2 * n ≤ 2 * m + 1 := by simpa [Nat.ble_eq] using h2
      omega
theorem Fgt.trans {n : Nat} {a b c : Hp} (h : Fgt n a b) (h' : Fgt n b c) : Fgt n a c := by
  refine ⟨Nat.le_trans h.1 h'.1, fun d => ?_⟩
  rcases h'.2 d with h1 | h1
  · rw [h1]; exact h.2 d
  · exact .inr h1

theorem mix2_fgt {B : Rd} {n : Nat} {a b c : V × H} (h : mix2 (Nat.mul 2 n) a b = some c) : (c.1 = a.1 ∧ Fgt n (a.2.hp B) (c.2.hp B)) ∧ (c.1 = b.1 ∧ Fgt n (b.2.hp B) (c.2.hp B)) := by
  unfold mix2 at h
  cases hb : (beqV a.1 b.1 && Nat.beq a.2.next b.2.next) with
  | false => rw [hb] at h; cases h
  | true =>
    rw [hb] at h
    simp only [Bool.and_eq_true, Nat.beq_eq] at hb
    simp only [cond_true] at h
    split at h
    · rename_i t ht
      cases h
      have hm := mixT_get _ _ _ _ _ ht
      exact ⟨⟨rfl, fgt_of_mix rfl fun k => (hm k).1⟩, ⟨beqV_eq _ _ hb.1, fgt_of_mix hb.2.symm fun k => (hm k).2⟩⟩
    · cases h
theorem mixL_fgt {B : Rd} {n : Nat} : ∀ {l : List (V × H)} {a c : V × H}, mixL (Nat.mul 2 n) a l = some c → ∀ x ∈ a :: l, c.1 = x.1 ∧ Fgt n (x.2.hp B) (c.2.hp B)
  | [], a, c, h, x, hx => by
    cases h
    obtain rfl := List.mem_singleton.1 hx
    exact ⟨rfl, Fgt.refl _ _⟩
  | b :: l, a, c, h, x, hx => by
    unfold mixL at h
    split at h
    · rename_i d hd
      have h2 := mixL_fgt (B := B) h
      have h3 := mix2_fgt (B := B) hd
      obtain ⟨q1, q2⟩ := h2 d (List.mem_cons_self ..)
      rcases List.mem_cons.1 hx with rfl | hx
      · exact ⟨q1.trans h3.1.1, h3.1.2.trans q2⟩
      · rcases List.mem_cons.1 hx with rfl | hx
        · exact ⟨q1.trans h3.2.1, h3.2.2.trans q2⟩
        · exact h2 x (List.mem_cons_of_mem _ hx)
    · cases h

theorem T.over_get {α : Type} : ∀ (y x : T α) (k : Nat), (T.over y x).get k = match y.get k with | some w => some w | none => x.get k
  | .e, x, k => rfl
  | .n l v r, x, k => by
    have e : T.over (.n l v r) x = .n (T.over l x.lft) (match v with | some w => some w | none => x.val) (T.over r x.rgt) := rfl
    rw [e, T.get_n, T.get_n, T.get_nn x]
    by_cases hk : k = 0
    · rw [if_pos hk, if_pos hk, if_pos hk]
    · rw [if_neg hk, if_neg hk, if_neg hk]
      by_cases hk1 : k % 2 = 1
      · rw [if_pos hk1, if_pos hk1, if_pos hk1]; exact T.over_get l _ _
      · rw [if_neg hk1, if_neg hk1, if_neg hk1]; exact T.over_get r _ _

theorem over_hp {B : Rd} {h h' : H} : (⟨T.over h'.t h.t, h'.next⟩ : H).hp B = h'.hp (h.rd B) := by
  have key : ∀ k d, orB d ((T.over h'.t h.t).get k) = orB (orB d (h.t.get k)) (h'.t.get k) := fun k d => by
    rw [T.over_get]
    cases h'.t.get k <;> rfl
  unfold H.hp
  congr 1
  funext b
  cases b with
  | old n => rfl
  | ex n => exact key _ _
  | gr n => exact key _ _

end Go.AM

/- The fast run follows the predicate transformer: functions; what a run proves of the model. -/
namespace Go.AM

theorem argsT_get : ∀ (l : List V) (n : Nat) (t t' : T V), argsT l n t = some t' → ∀ m, t'.get m = if n ≤ m ∧ m < n + l.length then l[m - n]? else t.get m
  | [], n, t, t', e, m => by
    cases e
    rw [if_neg (by simp)]
  | v :: l, n, t, t', e, m => by
    unfold argsT at e
    split at e
    · rename_i t1 h1
      have hg := T.set_get _ _ _ _ h1
      rw [argsT_get l (n + 1) t1 t' e m, hg]
      by_cases hm : m = n
      · subst hm
        rw [if_neg (by omega), if_pos rfl, if_pos (by simp)]; simp
      · rw [if_neg hm]
        by_cases h2 : n + 1 ≤ m ∧ m < n + 1 + l.length
        · rw [if_pos h2, if_pos (by simp; omega)]
          obtain ⟨k, rfl⟩ : ∃ k, m = n + 1 + k := ⟨m - (n + 1), by omega⟩
          rw [show n + 1 + k - (n + 1) = k from by omega, show n + 1 + k - n = k + 1 from by omega, List.getElem?_cons_succ]
        · rw [if_neg h2, if_neg (by simp; omega)]
    · cases e

theorem argsT_env {args : List V} {t : T V} (e : argsT args 0 .e = some t) : evT t = argE args := by
  funext m
  show orV (t.get m) = (args[m]?).getD (.tup [])
  rw [argsT_get _ _ _ _ e, T.get_e]
  by_cases hm : m < args.length
  · rw [if_pos (by omega), Nat.sub_zero]
    rw [List.getElem?_eq_getElem hm]; rfl
  · rw [if_neg (by omega), List.getElem?_eq_none (by omega)]; rfl

theorem defs_sound {B : Rd} {dch : Ch} {K : Hp → Prop} : ∀ (ds : Defs) (h h' : H), runDefs dch ds h = some h' → K (h'.hp B) → awDefs (hdB B dch) ds K (h.hp B)
  | [], h, h', e, hK => by cases e; exact hK
  | (f, args) :: ds, h, h', e, hK => by
    have e' : thenH (runDefs dch ds) (dcall dch f args h) = some h' := e
    unfold thenH at e'
    split at e'
    · rename_i v h1 hd
      unfold dcall at hd
      unfold awDefs
      split at hd
      · exact ⟨h, rfl, _, _, hd, defs_sound ds _ h' e' hK⟩
      · cases hd
    · cases e'

theorem out_sound {B : Rd} {dch : Ch} {res : List RV} {s : St} {v : V} {h' : H} {Q : V → Hp → Prop} (e : outH B (evT s.env) res (runDefs dch s.defs s.h) = some (v, h')) (hQ : Q v (h'.hp B)) :
    awDefs (hdB B dch) (s.as B).defs (fun h => ∃ vs, resVs h.rd (s.as B).env res = some vs ∧ Q (result vs) h) (s.as B).h := by
  unfold outH at e
  split at e
  · rename_i h1 hd
    refine defs_sound _ _ _ hd ?_
    unfold outV at e
    split at e
    · rename_i vs hvs
      cases e
      exact ⟨vs, hvs, hQ⟩
    · cases e
  · cases e
theorem end_sound {B : Rd} {dch : Ch} {res : List RV} {x : Ex} {s : St} {v : V} {h' : H} {Q : V → Hp → Prop} (e : endF B dch res (some (x, s)) = some (v, h')) (hQ : Q v (h'.hp B)) : awEnd (hdB B dch) res Q x (s.as B) := by
  cases x with
  | norm => exact out_sound e hQ
  | ret => exact out_sound e hQ
  | exit id => cases e

theorem start_as {B : Rd} {args : List V} {h : H} {s : St} (hc : mkSt [] h (argsT args 0 .e) = some s) : s.as B = ⟨argE args, [], h.hp B⟩ := by
  unfold mkSt at hc
  split at hc
  · rename_i env he
    cases hc
    show (⟨evT env, [], h.hp B⟩ : AS) = _
    rw [argsT_env he]
  · cases hc

theorem runF_sound {B : Rd} {ch dch : Ch} {fuel : Nat} {F : F} {args : List V} {h h' : H} {v : V} {Q : V → Hp → Prop} (e : runF B ch dch fuel F args h = some (v, h')) (hQ : Q v (h'.hp B)) : awF (hdB B ch) (hdB B dch) F args (h.hp B) Q := by
  unfold runF at e
  cases hle : Nat.ble args.length F.ntmps with
  | false => rw [hle] at e; cases e
  | true =>
    rw [hle] at e
    simp only [cond_true] at e
    refine ⟨by rw [ble_nat] at hle; simpa using hle, ?_⟩
    cases hc : mkSt [] h (argsT args 0 .e) with
    | none => rw [hc] at e; cases e
    | some s =>
      rw [hc] at e
      have hs := start_as (B := B) hc
      have e' : endF B dch F.res (runC B ch fuel F.code s) = some (v, h') := e
      cases hr : runC B ch fuel F.code s with
      | none => rw [hr] at e'; cases e'
      | some p =>
        obtain ⟨x, s1⟩ := p
        rw [hr] at e'
        rw [← hs]
        exact code_sound F.code s x s1 _ hr (end_sound e' hQ)

theorem runFM_sound {B : Rd} {ch dch : Ch} {fuel : Nat} {F : F} {args : List V} {h : H} {r : List (V × H)} {Q : V → Hp → Prop} (e : runFM B ch dch fuel F args h = some r) (hQ : ∀ p ∈ r, Q p.1 (p.2.hp B)) : awF (hdB B ch) (hdB B dch) F args (h.hp B) Q := by
  unfold runFM at e
  cases hle : Nat.ble args.length F.ntmps with
  | false => rw [hle] at e; cases e
  | true =>
    rw [hle] at e
    simp only [cond_true] at e
    refine ⟨by rw [ble_nat] at hle; simpa using hle, ?_⟩
    obtain ⟨l, h1, h2⟩ := thenL_mem e
    cases hc : mkSt [] h (argsT args 0 .e) with
    | none => rw [hc] at h1; cases h1
    | some s =>
      rw [hc] at h1
      have h1' : runCM B ch fuel F.code s = some l := h1
      rw [← start_as (B := B) hc]
      refine codeM_sound F.code s l _ h1' fun p hp => ?_
      obtain ⟨ra, g1, g2⟩ := h2 p hp
      obtain ⟨q, g3, rfl⟩ := one1_eq g1
      obtain ⟨x, s1⟩ := p
      exact end_sound (show endF B dch F.res (some (x, s1)) = some (q.1, q.2) from g3) (hQ q (g2 q (List.mem_cons_self ..)))

/-- A summary holds in the model. -/
structure SumOk (P : Program) (f : FuncId) (g : Sum) : Prop where
  ok : ∀ B args hh v h', g B args hh = some (v, h') → ∀ φ w (args' : Array Value), HRel φ (hh.hp B) w → VsRel φ args args'.toList →
  Does P (CallR φ (hh.hp B) w fun v2 h2 => v2 = v ∧ h2 = h'.hp B) ((callFunc f args').run P w)
structure DsumOk (P : Program) (f : FuncId) (g : Sum) : Prop where
  ok : ∀ B args hh v h', g B args hh = some (v, h') → ∀ φ w (args' : Array Value), HRel φ (hh.hp B) w → VsRel φ args args'.toList →
  DoesD P (fun w' => ∃ φ', Ext φ (hh.hp B) w φ' (h'.hp B) w') w ((callFunc f args').run P w)

theorem Does.mono {P : Program} {R R' : Value → World → Prop} (hR : ∀ v w, R v w → R' v w) : ∀ {r : Result Next}, Does P R r → Does P R' r := by
  intro r h
  cases r with
  | halt x w => exact h.elim
  | ok nx w =>
    cases nx <;> first | exact h.elim | skip
    case value v => exact hR _ _ h
    case enter f args =>
      refine Calls.mono h fun e w' he => ?_
      cases e with
      | returned v => exact hR _ _ he
      | panicked c => exact he
      | outgrown => exact he

theorem DoesD.mono {P : Program} {R R' : World → Prop} {w : World} (hR : ∀ w, R w → R' w) : ∀ {r : Result Next}, DoesD P R w r → DoesD P R' w r := by
  intro r h
  cases r with
  | halt x w => exact h.elim
  | ok nx w' =>
    cases nx <;> first | exact h.elim | skip
    case enter f args =>
      refine ⟨h.1, CallsD.mono h.2 fun e u w'' he => ?_⟩
      cases e with
      | returned v => exact ⟨he.1, hR _ he.2⟩
      | panicked c => exact he
      | outgrown => exact he

/-- What is asked of a table. -/
structure TabOk (P : Program) (ptrs : List TypeId) (tb : Tab) : Prop where
  fs : ∀ f F, tb.fs f = some F → FOk P ptrs f F
  sum : ∀ f g, tb.sum f = some g → SumOk P f g
  dsum : ∀ f g, tb.dsum f = some g → DsumOk P f g

theorem hdB_sound {P : Program} {c : Rd → Ch} (h : SoundH P (hdOf c)) (B : Rd) : SoundH P (hdB B (c B)) :=
  ⟨fun f args hp Q ⟨hh, h1, h2⟩ => h.ok f args hp Q ⟨B, hh, h1, h2⟩⟩

theorem noCh_noD {B : Rd} : hdB B noCh = noD := by
  funext f args h Q
  exact propext ⟨fun ⟨hh, _, v, h', e, _⟩ => (by cases e), fun h => h.elim⟩

theorem dCh_sound {P : Program} {ptrs : List TypeId} (hptrs : PtrsOk P ptrs) (hm : P.follows .mixedOrders = true) {tb : Tab} (htb : TabOk P ptrs tb) {fuel : Nat} {ch : Rd → Ch} (hch : SoundH P (hdOf ch)) (B : Rd) : SoundD P (hdB B (dCh tb fuel ch B)) := by
  refine ⟨?_⟩
  intro g args h Q ⟨hh, hhe, v, h', e, hQ⟩ φ w args' r hv
  subst hhe
  have e : (match tb.dsum g with | some g => g B args hh | none => dF B ch fuel args hh (tb.fs g)) = some (v, h') := e
  split at e
  · rename_i x hx
    refine DoesD.mono (fun w' hq => ?_) ((htb.dsum g x hx).ok B args hh v h' e φ w args' r hv)
    obtain ⟨φ', q⟩ := hq
    exact ⟨φ', v, _, hQ, q⟩
  · unfold dF at e
    split at e
    · rename_i F hF
      have ha := runF_sound e hQ
      rw [noCh_noD] at ha
      obtain ⟨h1, h2⟩ := awF_callsD (hdB_sound hch B) hptrs hm (htb.fs g F hF) ha r hv
      rw [h1]
      refine ⟨rfl, CallsD.mono h2 fun e u w' he => ?_⟩
      cases e with
      | returned v' =>
        obtain ⟨hu, φ', v2, h2, hq, _, hx⟩ := he
        exact ⟨hu, φ', v2, h2, hq, hx⟩
      | panicked c => exact he.2.elim
      | outgrown => exact he.2.elim
    · cases e

theorem e_hp {B : Rd} {h : H} : (⟨.e, h.next⟩ : H).hp (h.rd B) = h.hp B := by
  have : (⟨.e, h.next⟩ : H).rd (h.rd B) = h.rd B := by funext b; cases b <;> rfl
  unfold H.hp
  rw [this]

theorem run_sound {P : Program} {ptrs : List TypeId} (hptrs : PtrsOk P ptrs) (hm : P.follows .mixedOrders = true) {tb : Tab} (htb : TabOk P ptrs tb) (fuel : Nat) : ∀ n, SoundH P (hdOf (run tb fuel n))
  | 0 => ⟨fun f args h Q ⟨B, hh, _, v, h', e, _⟩ => by cases e⟩
  | n + 1 => by
    refine ⟨?_⟩
    intro f args h Q ⟨B, hh, hhe, v, h', e, hQ⟩ φ w args' r hv
    subst hhe
    have e' : (match tb.sum f with | some g => g B args hh | none => orF (run tb fuel n) (dCh tb fuel (run tb fuel n)) B fuel (tb.multi f) args hh (tb.fs f)) = some (v, h') := e
    split at e'
    · rename_i g hg
      refine Does.mono (fun v' w' hq => ?_) ((htb.sum f g hg).ok B args hh v h' e' φ w args' r hv)
      obtain ⟨φ', v2, h2, ⟨rfl, rfl⟩, q1, q2⟩ := hq
      exact ⟨φ', _, _, hQ, q1, q2⟩
    · unfold orF at e'
      split at e'
      · rename_i F hF
        rw [br_eq] at e'
        split at e'
        · unfold runMul overO at e'
          split at e'
          · rename_i v1 h1 hmix
            cases e'
            rw [over_hp] at hQ
            unfold mixO at hmix
            split at hmix
            · rename_i a l hM
              have hfgt := mixL_fgt (B := hh.rd B) (n := hh.next) hmix
              have ha := runFM_sound (Q := fun v2 h2 => ∃ h3, Fgt hh.next h2 h3 ∧ Q v2 h3) hM fun p hp => ⟨_, (hfgt p hp).2, by rw [← (hfgt p hp).1]; exact hQ⟩
              rw [e_hp] at ha
              obtain ⟨g1, g2⟩ := awF_calls (hdB_sound (run_sound hptrs hm htb fuel n) (hh.rd B)) (dCh_sound hptrs hm htb (run_sound hptrs hm htb fuel n) (hh.rd B)) hptrs hm (htb.fs f F hF) ha r hv
              rw [g1]
              refine Calls.mono g2 fun e w' he => ?_
              cases e with
              | returned v' =>
                obtain ⟨φ', v2, h3, ⟨h4, hf, hq⟩, q1, q2⟩ := he
                exact ⟨φ', v2, h4, hq, q1, q2.fgt hf⟩
              | panicked c => exact he.elim
              | outgrown => exact he.elim
            · cases hmix
          · cases e'
        · obtain ⟨h1, h2⟩ := awF_calls (hdB_sound (run_sound hptrs hm htb fuel n) B) (dCh_sound hptrs hm htb (run_sound hptrs hm htb fuel n) B) hptrs hm (htb.fs f F hF) (runF_sound e' hQ) r hv
          rw [h1]
          exact h2
      · cases e'

end Go.AM

/- Contracts of single functions over the abstract machine; what is forgotten. -/
namespace Go.AM

/-- What holds of one function's calls. -/
abbrev Con := List V → Hp → (V → Hp → Prop) → Prop
def ConOk (P : Program) (f : FuncId) (c : Con) : Prop := ∀ args h Q, c args h Q → ∀ φ w (args' : Array Value), HRel φ h w → VsRel φ args args'.toList →
  Does P (CallR φ h w Q) ((callFunc f args').run P w)

/-- A handler out of contracts. -/
def conH (cs : FuncId → Option Con) : Hd := fun f args h Q => ∃ c, cs f = some c ∧ c args h Q
theorem conH_sound {P : Program} {cs : FuncId → Option Con} (h : ∀ f c, cs f = some c → ConOk P f c) : SoundH P (conH cs) := by
  refine ⟨?_⟩
  intro f args hp Q ⟨c, hc, hq⟩ φ w args' r hv
  exact h f c hc args hp Q hq φ w args' r hv

theorem noD_sound' {P : Program} : SoundH P noD := ⟨fun _ _ _ _ h => h.elim⟩

/-- A function's text gives a contract, what it made and nobody sees forgotten. -/
theorem con_of_awF {P : Program} {ch dch : Hd} (hch : SoundH P ch) (hdch : SoundD P dch) {ptrs : List TypeId} (hptrs : PtrsOk P ptrs) (hm : P.follows .mixedOrders = true) {f : FuncId} {F : F} (hF : FOk P ptrs f F) {c : Con}
    (h : ∀ args hp Q, c args hp Q → awF ch dch F args hp fun v h2 => ∃ h3, Fgt hp.next h2 h3 ∧ Q v h3) : ConOk P f c := by
  intro args hp Q hq φ w args' r hv
  obtain ⟨h1, h2⟩ := awF_calls hch hdch hptrs hm hF (h args hp Q hq) r hv
  rw [h1]
  refine Calls.mono h2 fun e w' he => ?_
  cases e with
  | returned v =>
    obtain ⟨φ', v2, h3, ⟨h4, hf, hq'⟩, q1, q2⟩ := he
    exact ⟨φ', v2, h4, hq', q1, q2.fgt hf⟩
  | panicked c => exact he.elim
  | outgrown => exact he.elim

/-- A contract gives a summary for the fast run. -/
theorem sum_of_con {P : Program} {f : FuncId} {c : Con} (hc : ConOk P f c) {g : Sum} (h : ∀ B args hh v h', g B args hh = some (v, h') → c args (hh.hp B) fun v2 h2 => v2 = v ∧ h2 = h'.hp B) : SumOk P f g := by
  refine ⟨?_⟩
  intro B args hh v h' e φ w args' r hv
  exact hc args (hh.hp B) _ (h B args hh v h' e) φ w args' r hv

/-- A fast run gives a contract. -/
theorem con_of_run {P : Program} {ptrs : List TypeId} (hptrs : PtrsOk P ptrs) (hm : P.follows .mixedOrders = true) {tb : Tab} (htb : TabOk P ptrs tb) (fuel n : Nat) (f : FuncId) : ConOk P f (hdOf (run tb fuel n) f) := by
  intro args h Q hq φ w args' r hv
  exact (run_sound hptrs hm htb fuel n).ok f args h Q hq φ w args' r hv

end Go.AM
