/- What each operation does, abstractly and in the model: maps. -/
import Derived.Test.YtonckhnoealepaaGreatDoorAm3
import Derived.Maps.RangeRun
namespace Go.AM

section
variable {P : Program} {φ : Phi} {h : Hp} {w : World}

theorem HRel.noRd (r : HRel φ h w) : HRel φ ⟨noRd, h.next⟩ w where
  blk := fun _ _ _ _ e => by cases e
  inj := fun _ _ _ _ _ _ _ _ e => by cases e
  old := r.old
  next := r.next
  grk := r.grk
  exz := fun _ _ _ _ e => by cases e

theorem keyK_spec {t : TypeId} {kk : EqK} (e : keyK P t = some kk) : eqK P [] 8 t = some kk ∧ plainK kk = true ∧ ∀ n a, P.underlying t ≠ some (.array n a) := by
  unfold keyK at e
  split at e
  · cases e
  · rename_i hne
    split at e
    · rename_i k hk
      cases hp : plainK k with
      | false => simp [hp] at e
      | true => simp [hp] at e; subst e; exact ⟨hk, hp, fun n a ha => hne n a ha⟩
    · cases e

theorem run_forIn_unit {α : Type} (f : α → PUnit → Sem (ForInStep PUnit)) : ∀ (l : List α), (∀ a ∈ l, (f a ⟨⟩).run P w = .ok (.yield ⟨⟩) w) → (forIn l PUnit.unit f).run P w = .ok ⟨⟩ w
  | [], _ => rfl
  | a :: l, hf => by
    simp only [List.forIn_cons, Sem.run_bind, hf a (List.mem_cons_self ..), Result.andThen_ok]
    exact run_forIn_unit f l fun b hb => hf b (List.mem_cons_of_mem _ hb)

theorem go_mem {d : Nat} : ∀ {fl : List Field} {l : List (Nat × Option Nat × EqK)}, eqK.go P (eqK P [] d) fl = some l → ∀ f ∈ fl, f.name ≠ "_" → ∃ a k, aggN P f.type = some a ∧ eqK P [] d f.type = some k ∧ (f.offset, a, k) ∈ l
  | [], _, _, _, hm, _ => by simp at hm
  | f :: fl, l, e, g, hm, hn => by
    unfold eqK.go at e
    by_cases hnm : f.name = "_"
    · simp [hnm] at e
      rcases List.mem_cons.1 hm with rfl | hm
      · exact absurd hnm hn
      · exact go_mem e g hm hn
    · simp [hnm] at e
      split at e
      · rename_i a k l' ha hkk hl'
        simp at e; subst e
        rcases List.mem_cons.1 hm with rfl | hm
        · exact ⟨a, k, ha, hkk, List.mem_cons_self ..⟩
        · obtain ⟨a', k', h1, h2, h3⟩ := go_mem hl' g hm hn
          exact ⟨a', k', h1, h2, List.mem_cons_of_mem _ h3⟩
      · cases e

theorem chkFs_mem : ∀ {l : List (Nat × Option Nat × EqK)} {xs : List V}, chkFs l xs = true → ∀ off n k, (off, n, k) ∈ l → ∃ v, partV xs off n = some v
  | [], _, _, _, _, _, hm => by simp at hm
  | (o, m, q) :: l, xs, e, off, n, k, hm => by
    unfold chkFs at e
    cases hp : partV xs o m with
    | none => simp [hp] at e
    | some v =>
      simp [hp] at e
      rcases List.mem_cons.1 hm with hm | hm
      · cases hm; exact ⟨v, hp⟩
      · exact chkFs_mem e off n k hm

theorem plain_mem : ∀ {l : List (Nat × Option Nat × EqK)}, plainK.all l = true → ∀ off n k, (off, n, k) ∈ l → k = .int ∨ k = .str ∨ k = .bool
  | [], _, _, _, _, hm => by simp at hm
  | (o, m, q) :: l, e, off, n, k, hm => by
    unfold plainK.all at e
    rw [Bool.and_eq_true] at e
    rcases List.mem_cons.1 hm with hm | hm
    · cases hm
      cases q <;> simp at e ⊢
    · exact plain_mem e.2 off n k hm

theorem leaf_under {d : Nat} {t : TypeId} {k : EqK} (e : eqK P [] d t = some k) (hk : k = .int ∨ k = .str ∨ k = .bool) : (∃ i, P.underlying t = some (.int i)) ∨ P.underlying t = some .string ∨ P.underlying t = some .bool := by
  cases d with
  | zero => simp [eqK] at e
  | succ d =>
    unfold eqK at e
    split at e
    · exact .inr (.inr ‹_›)
    · exact .inl ⟨_, ‹_›⟩
    · exact .inr (.inl ‹_›)
    all_goals
      exfalso
      (repeat' split at e) <;> (try simp at e) <;> (try subst e) <;> simp_all

theorem checkKey_run {b : Bool} {t : TypeId} {kk : EqK} {k : V} {k' : Value} (e : keyK P t = some kk) (hk : VRel φ k k') (hc : chkK kk k = true) : (Instr.checkKey b 10000 t k').run P w = .ok () w := by
  obtain ⟨e1, e2, e3⟩ := keyK_spec e
  show (Instr.checkKey b (9998 + 1 + 1) t k').run P w = .ok () w
  generalize 9998 = m
  unfold eqK at e1
  split at e1
  · cases e1; cases hc
  · rename_i hu
    unfold Instr.checkKey
    simp [run_underlying_some hu]
  · rename_i hu
    unfold Instr.checkKey
    simp [run_underlying_some hu]
  · split at e1
    · split at e1
      · cases e1
      · cases e1; cases e2
    · cases e1
  · cases e1; cases e2
  · rename_i fs hu
    split at e1
    · cases e1
    · split at e1
      · rename_i l hl
        cases e1
        cases k with
        | agg xs =>
          cases hk with
          | agg hxs =>
            rename_i c
            unfold Instr.checkKey
            simp only [Sem.run_bind, run_underlying_some hu, Result.andThen_ok]
            rw [← Array.forIn_toList]
            rw [run_forIn_unit _ _ fun f hf => ?_]
            · rfl
            by_cases hnm : f.name = "_"
            · simp [hnm]
            · obtain ⟨a, q, h1, h2, h3⟩ := go_mem hl f hf hnm
              obtain ⟨v, hv⟩ := chkFs_mem hc _ _ _ h3
              obtain ⟨v', hvr, hvq⟩ := partV_sim (P := P) (w := w) h1 hxs hv
              have hin : (Instr.checkKey b (m + 1) f.type v').run P w = .ok () w := by
                unfold Instr.checkKey
                rcases leaf_under h2 (plain_mem e2 _ _ _ h3) with ⟨i, hu⟩ | hu | hu <;> simp [run_underlying_some hu]
              simp [hnm, hvq, hin]
        | _ => cases hc
      · cases e1
  · rename_i hu
    exact absurd hu (e3 _ _)
  · cases e1; cases e2
  · cases e1; cases e2
  · cases e1; cases e2
  · cases e1

/-! ### A key's place -/

def FRel (φ : Phi) (es' : List MapEntry) (i : Nat) : Option (Nat × Ent) → Option (Nat × Value) → Prop
  | none, x => x = none
  | some (j, e), x => ∃ m e', j = i + m ∧ es'[m]? = some e' ∧ VRel φ e.key e'.key ∧ VRel φ e.val e'.val ∧ e'.born = e.born ∧ x = some (j, e'.val)

theorem FRel.tail {i : Nat} {e0 : MapEntry} {es' : List MapEntry} {o : Option (Nat × Ent)} {x : Option (Nat × Value)} (hr : FRel φ es' (i + 1) o x) : FRel φ (e0 :: es') i o x := by
  cases o with
  | none => exact hr
  | some q =>
    obtain ⟨j, e⟩ := q
    obtain ⟨m, e', h1, h2, h3⟩ := hr
    exact ⟨m + 1, e', by omega, by simpa using h2, h3⟩

theorem findAsking_run (r : HRel φ h w) {t : TypeId} {kk : EqK} {k : V} {k' : Value} (e : keyK P t = some kk) (hk : VRel φ k k') : ∀ {es : List Ent} {es' : List MapEntry} (i : Nat) {o : Option (Nat × Ent)},
    EsRel φ es es' → findE kk k es i = some o → ∃ x, (Instr.findAsking t k' es' i).run P w = .ok x w ∧ FRel φ es' i o x
  | _, _, i, o, .nil, he => by
    simp [findE] at he; subst he
    exact ⟨none, rfl, rfl⟩
  | _, _, i, o, .cons (e := a) (e' := a') (l := l) (l' := l') hkk hv hb ht, he => by
    unfold findE at he
    obtain ⟨e1, _, _⟩ := keyK_spec e
    have heq : ∀ b, eqV noRd kk k a.key = some b → (Op.equal t k' a'.key).run P w = .ok b w := fun b hb =>
      eqV_sim ptrsOk_nil r.noRd 8 t kk e1 Op.maxDepth k a.key k' a'.key b (by decide) hk hkk hb
    split at he
    · rename_i hq
      simp at he; subst he
      refine ⟨some (i, a'.val), ?_, 0, a', by omega, rfl, hkk, hv, hb, rfl⟩
      simp [Instr.findAsking, heq _ hq]
    · rename_i hq
      obtain ⟨x, h1, h2⟩ := findAsking_run r e hk (i + 1) ht he
      exact ⟨x, by simp [Instr.findAsking, heq _ hq, h1], h2.tail⟩
    · cases he

theorem sameNow_int {j : IntKind} {x y : V} {x' y' : Value} {b : Bool} (hx : VRel φ x x') (hy : VRel φ y y') (e : eqI x y = some b) : Instr.sameNow (.int j) x' y' = some b := by
  cases hx with
  | i k n =>
    cases hy with
    | i k2 n2 =>
      simp only [eqI, kbeq_eq] at e
      by_cases hk : k = k2
      · simp [hk] at e; subst e
        simp [Instr.sameNow, hk, ibeq_eq]
      · simp [hk] at e
    | _ => simp [eqI] at e
  | _ => simp [eqI] at e
theorem sameNow_str {x y : V} {x' y' : Value} {b : Bool} (hx : VRel φ x x') (hy : VRel φ y y') (e : eqS x y = some b) : Instr.sameNow .string x' y' = some b := by
  cases hx with
  | s h1 =>
    cases hy with
    | s h2 =>
      simp [eqS] at e; subst e
      rw [bytesEq_eq]
      simp only [Instr.sameNow, beq_toListBytes, ByteArray.toList_eq, h1, h2]
    | _ => simp [eqS] at e
  | _ => simp [eqS] at e

theorem findNow_run {d : TypeDesc} {kk : EqK} {k : V} {k' : Value} (hd : (kk = .int ∧ ∃ j, d = .int j) ∨ (kk = .str ∧ d = .string)) (hk : VRel φ k k') : ∀ {es : List Ent} {es' : List MapEntry} (i : Nat) {o : Option (Nat × Ent)},
    EsRel φ es es' → findE kk k es i = some o → ∃ x, Instr.findNow d k' es' i = some x ∧ FRel φ es' i o x
  | _, _, i, o, .nil, he => by
    simp [findE] at he; subst he
    exact ⟨none, rfl, rfl⟩
  | _, _, i, o, .cons (e := a) (e' := a') (l := l) (l' := l') hkk hv hb ht, he => by
    unfold findE at he
    have heq : ∀ b, eqV noRd kk k a.key = some b → Instr.sameNow d k' a'.key = some b := fun b hb => by
      rcases hd with ⟨rfl, j, rfl⟩ | ⟨rfl, rfl⟩
      · exact sameNow_int hk hkk (by simpa [eqV] using hb)
      · exact sameNow_str hk hkk (by simpa [eqV] using hb)
    split at he
    · rename_i hq
      simp at he; subst he
      refine ⟨some (i, a'.val), ?_, 0, a', by omega, rfl, hkk, hv, hb, rfl⟩
      simp [Instr.findNow, heq _ hq]
    · rename_i hq
      obtain ⟨x, h1, h2⟩ := findNow_run hd hk (i + 1) ht he
      exact ⟨x, by simp [Instr.findNow, heq _ hq, h1], h2.tail⟩
    · cases he

theorem findKey_run (r : HRel φ h w) {t : TypeId} {kk : EqK} {k : V} {k' : Value} (e : keyK P t = some kk) (hk : VRel φ k k') {es : List Ent} {es' : List MapEntry} {o : Option (Nat × Ent)}
    (hes : EsRel φ es es') (he : findE kk k es 0 = some o) : ∃ x, (Instr.findKey t k' es').run P w = .ok x w ∧ FRel φ es' 0 o x := by
  obtain ⟨x, h1, h2⟩ := findAsking_run r e hk 0 hes he
  obtain ⟨e1, e2, e3⟩ := keyK_spec e
  have e1' := e1
  unfold eqK at e1
  have hnow : ∀ d, P.underlying t = some d → ((kk = .int ∧ ∃ j, d = .int j) ∨ (kk = .str ∧ d = .string)) → ∃ x, (Instr.findKey t k' es').run P w = .ok x w ∧ FRel φ es' 0 o x := fun d hu hd => by
    obtain ⟨y, g1, g2⟩ := findNow_run hd hk 0 hes he
    exact ⟨y, by simp [Instr.findKey, run_underlying_some hu, g1], g2⟩
  split at e1
  · cases e1; cases e2
  · rename_i hu
    cases e1
    exact hnow _ hu (.inl ⟨rfl, _, rfl⟩)
  · rename_i hu
    cases e1
    exact hnow _ hu (.inr ⟨rfl, rfl⟩)
  · rename_i el hu
    split at e1
    · split at e1
      · cases e1
      · cases e1; cases e2
    · cases e1
  · cases e1; cases e2
  · rename_i fs hu
    cases hes with
    | nil =>
      simp [findE] at he; subst he
      exact ⟨none, by simp [Instr.findKey, run_underlying_some hu, Instr.findNow], rfl⟩
    | cons hkk hv hb ht =>
      refine ⟨x, ?_, h2⟩
      have hs : ∀ y, Instr.sameNow (.struct fs) k' y = none := fun y => by cases k' <;> cases y <;> rfl
      simp only [Instr.findKey, Sem.run_bind, run_underlying_some hu, Result.andThen_ok, Instr.findNow, hs, h1]
  · rename_i hu
    exact absurd hu (e3 _ _)
  · cases e1; cases e2
  · cases e1; cases e2
  · cases e1; cases e2
  · cases e1

/-! ### Keys that cannot be told apart -/

theorem sameCell_sim {x y : V} {x' y' : Value} (hx : VRel φ x x') (hy : VRel φ y y') (e : sameCell x y = true) (n : Nat) : Instr.sameBits (n + 1) x' y' = true := by
  cases hx with
  | b c =>
    cases hy with
    | b d => simp [sameCell] at e; subst e; simp [Instr.sameBits]
    | _ => simp [sameCell] at e
  | i k c =>
    cases hy with
    | i l d =>
      simp only [sameCell, kbeq_eq, ibeq_eq, Bool.and_eq_true, decide_eq_true_eq] at e
      obtain ⟨e1, e2⟩ := e
      subst e1
      simp [Instr.sameBits] at e2 ⊢
      exact e2
    | _ => simp [sameCell] at e
  | s h1 =>
    cases hy with
    | s h2 =>
      simp only [sameCell, bytesEq_eq] at e
      simp only [Instr.sameBits, beq_toListBytes, ByteArray.toList_eq, h1, h2, e]
    | _ => simp [sameCell] at e
  | _ => simp [sameCell] at e
theorem sameCells_sim : ∀ {xs ys : List V} {xs' ys' : List Value}, VsRel φ xs xs' → VsRel φ ys ys' → sameCells xs ys = true → ∀ n, xs'.length = ys'.length ∧ (xs'.zip ys').all (fun (x, y) => Instr.sameBits (n + 1) x y) = true
  | _, _, _, _, .nil, .nil, _, _ => ⟨rfl, rfl⟩
  | _, _, _, _, .nil, .cons _ _, e, _ => by simp [sameCells] at e
  | _, _, _, _, .cons _ _, .nil, e, _ => by simp [sameCells] at e
  | _, _, _, _, .cons h1 t1, .cons h2 t2, e, n => by
    simp only [sameCells, Bool.and_eq_true] at e
    obtain ⟨g1, g2⟩ := sameCells_sim t1 t2 e.2 n
    refine ⟨by simp [g1], ?_⟩
    simp only [List.zip_cons_cons, List.all_cons, sameCell_sim h1 h2 e.1 n, g2, Bool.and_self]
theorem sameKey_sim {x y : V} {x' y' : Value} (hx : VRel φ x x') (hy : VRel φ y y') (e : sameKey x y = true) : Instr.sameBits 10000 x' y' = true := by
  show Instr.sameBits (9998 + 1 + 1) x' y' = true
  generalize 9998 = n
  unfold sameKey at e
  split at e
  · cases hx with
    | agg h1 =>
      cases hy with
      | agg h2 =>
        obtain ⟨g1, g2⟩ := sameCells_sim h1 h2 e n
        simp only [Instr.sameBits, Bool.and_eq_true, beq_iff_eq]
        exact ⟨by simpa using g1, g2⟩
  · exact sameCell_sim hx hy e (n + 1)
theorem keyThatStays_run {o k : Value} (e : Instr.sameBits 10000 o k = true) : (Instr.keyThatStays o k).run P w = .ok k w := by
  simp [Instr.keyThatStays, e]

/-! ### The operations -/

theorem EsRel.length : ∀ {l : List Ent} {l' : List MapEntry}, EsRel φ l l' → l.length = l'.length
  | _, _, .nil => rfl
  | _, _, .cons _ _ _ t => by simp [t.length]
theorem EsRel.append : ∀ {a : List Ent} {a' : List MapEntry} {c : List Ent} {c' : List MapEntry}, EsRel φ a a' → EsRel φ c c' → EsRel φ (a ++ c) (a' ++ c')
  | _, _, _, _, .nil, h => h
  | _, _, _, _, .cons x y z t, h => .cons x y z (t.append h)
theorem modE_rel {f : Ent → Ent} {f' : MapEntry → MapEntry} : ∀ {es : List Ent} {es' : List MapEntry} {i : Nat}, EsRel φ es es' →
    (∀ e e', es'[i]? = some e' → VRel φ e.key e'.key → VRel φ e.val e'.val → e'.born = e.born → VRel φ (f e).key (f' e').key ∧ VRel φ (f e).val (f' e').val ∧ (f' e').born = (f e).born) → EsRel φ (modE f es i) (es'.modify i f')
  | _, _, _, .nil, _ => by simpa [modE] using .nil
  | _, _, 0, .cons hk hv hb t, hf => by
    obtain ⟨h1, h2, h3⟩ := hf _ _ rfl hk hv hb
    simpa [modE] using .cons h1 h2 h3 t
  | _, _, i + 1, .cons hk hv hb t, hf => by
    have := modE_rel (i := i) t fun e e' he => hf e e' (by simpa using he)
    simpa [modE] using .cons hk hv hb this
theorem delE_rel : ∀ {es : List Ent} {es' : List MapEntry} {i : Nat}, EsRel φ es es' → EsRel φ (delE es i) (es'.eraseIdx i)
  | _, _, _, .nil => by simpa [delE] using .nil
  | _, _, 0, .cons _ _ _ t => by simpa [delE] using t
  | _, _, i + 1, .cons hk hv hb t => by simpa [delE] using .cons hk hv hb (delE_rel (i := i) t)

theorem run_getObj' {r clock : Nat} {es : Array MapEntry} (e : w.heap[r]? = some (.map es clock)) : (getObj r).run P w = .ok (.map es clock) w := by simp [getObj, Sem.run, e]
theorem run_setObj' {r clock : Nat} {es : Array MapEntry} (o' : Obj) (e : w.heap[r]? = some (.map es clock)) : (setObj r o').run P w = .ok () (World.lay w r o') := by
  simp [setObj, Sem.run, e, World.lay]

theorem MRel.map (r : HRel φ h w) {m : BId} {m' : Nat} {es : List Ent} {clock : Nat} {ro : Bool} (hm : MRel φ m m') (e : h.rd m = some (.map es clock ro)) :
    ∃ es', w.heap[m']? = some (.map es' clock) ∧ EsRel φ es es'.toList ∧ ∃ ph, φ m = some ph ∧ ph.blk = m' ∧ ph.sh = 0 := by
  obtain ⟨ph, h1, rfl⟩ := hm
  have hb := r.blk _ _ _ h1 e
  generalize ho : w.heap[ph.blk]? = o at hb
  cases hb with
  | map h0 hes => exact ⟨_, rfl, hes, ph, h1, rfl, h0⟩

theorem putMap (r : HRel φ h w) {m : BId} {ph : Ph} {es es2 : List Ent} {clock clock2 : Nat} {es' es2' : Array MapEntry} (hp : φ m = some ph) (h0 : ph.sh = 0) (e : h.rd m = some (.map es clock false))
    (hw : w.heap[ph.blk]? = some (.map es' clock)) (hes : EsRel φ es2 es2'.toList) : Ext φ h w φ (h.eff (.put m (.map es2 clock2 false))) (World.lay w ph.blk (.map es2' clock2)) :=
  Ext.put r hp e rfl (lay_get hw) (.map h0 hes) (fun _ hi => lay_ne (Ne.symm hi)) lay_size rfl rfl rfl

theorem sim_lkp (r : HRel φ h w) {t kt el : TypeId} {kk : EqK} {z : V} {ok : Bool} {m k : V} {m' k' : Value} (ht : P.underlying t = some (.map kt el)) (hkk : keyK P kt = some kk) (hz : zeroOf P el = some z)
    (hm : VRel φ m m') (hk : VRel φ k k') : ResSim P φ h w ((vv (Instr.lookup t m' k' ok)).run P w) (aLkp h.rd kk z ok m k) := by
  obtain ⟨zv, hzv, hzr⟩ := zeroOf_run hz φ w
  refine bif_res fun hc => ?_
  have hck := fun b => checkKey_run (P := P) (w := w) (b := b) hkk hk hc
  cases hm with
  | m0 =>
    refine ok_sim r (okTup_rel ok false hzr) ?_
    obtain ⟨x, h1, h2⟩ := findKey_run (P := P) (es := []) (es' := []) (o := none) r hkk hk .nil rfl
    cases h2
    simp [Instr.lookup, run_underlying_some ht, hck, h1, hzv]
  | m hmr =>
    rename_i b b'
    simp only
    unfold lkpE
    split
    · rename_i es clock ro hrd
      obtain ⟨es', g1, g2, _⟩ := hmr.map r hrd
      split
      · rename_i i e he
        obtain ⟨x, h1, h2⟩ := findKey_run (P := P) r hkk hk g2 he
        obtain ⟨mm, e', a1, a2, a3, a4, a5, rfl⟩ := h2
        refine ok_sim r (okTup_rel ok true a4) ?_
        simp [Instr.lookup, run_underlying_some ht, run_getObj' g1, hck, h1]
      · rename_i he
        obtain ⟨x, h1, h2⟩ := findKey_run (P := P) r hkk hk g2 he
        cases h2
        refine ok_sim r (okTup_rel ok false hzr) ?_
        simp [Instr.lookup, run_underlying_some ht, run_getObj' g1, hck, h1, hzv]
      · exact trivial
    · exact trivial
  | _ => exact trivial

theorem ent_key {es' : List MapEntry} {m : Nat} {e' : MapEntry} (h : es'[m]? = some e') (k : Value) : ((es'[m]?).map (·.key)).getD k = e'.key := by simp [h]

theorem sim_mset (r : HRel φ h w) {t kt el : TypeId} {kk : EqK} {m k x : V} {m' k' x' : Value} (ht : P.underlying t = some (.map kt el)) (hkk : keyK P kt = some kk)
    (hm : VRel φ m m') (hk : VRel φ k k') (hx : VRel φ x x') : ResSim P φ h w ((uu (Instr.mapUpdate t m' k' x')).run P w) (aMset h.rd kk m k x) := by
  refine bif_res fun hc => ?_
  have hck := fun b => checkKey_run (P := P) (w := w) (b := b) hkk hk hc
  cases hm with
  | m hmr =>
    rename_i b b'
    simp only
    unfold msetE
    split
    · rename_i es clock hrd
      obtain ⟨es', g1, g2, ph, p1, rfl, p3⟩ := hmr.map r hrd
      split
      · rename_i i e he
        refine bif_res fun hs => ?_
        obtain ⟨y, h1, h2⟩ := findKey_run (P := P) r hkk hk g2 he
        obtain ⟨mm, e', a1, a2, a3, a4, a5, rfl⟩ := h2
        obtain rfl : i = mm := by omega
        have hst := keyThatStays_run (P := P) (w := w) (sameKey_sim a3 hk hs)
        have ha2 : es'[i]? = some e' := by simpa using a2
        refine ⟨.skip, undef, _, ?_, .skip, undef_rel, putMap r p1 p3 hrd g1 (es2' := es'.modify i fun e => { e with key := k', val := x' }) ?_⟩
        · simp [uu, Instr.mapUpdate, run_underlying_some ht, run_getObj' g1, hck, h1, ha2, hst, run_setObj' _ g1]
        · rw [Array.toList_modify]
          exact modE_rel g2 fun _ _ _ _ _ hb => ⟨hk, hx, hb⟩
      · rename_i he
        obtain ⟨y, h1, h2⟩ := findKey_run (P := P) r hkk hk g2 he
        cases h2
        refine ⟨.skip, undef, _, ?_, .skip, undef_rel, putMap r p1 p3 hrd g1 (es2' := es'.push { key := k', val := x', born := clock }) ?_⟩
        · simp [uu, Instr.mapUpdate, run_underlying_some ht, run_getObj' g1, hck, h1, run_setObj' _ g1]
        · rw [Array.toList_push]
          exact g2.append (.cons hk hx rfl .nil)
      · exact trivial
    · exact trivial
  | _ => exact trivial

theorem sim_ment (r : HRel φ h w) {t kt el : TypeId} {kk : EqK} {z : V} {m k : V} {m' k' : Value} (ht : P.underlying t = some (.map kt el)) (hkk : keyK P kt = some kk) (hz : zeroOf P el = some z)
    (hm : VRel φ m m') (hk : VRel φ k k') : ResSim P φ h w ((vv (Instr.mapEntry t m' k')).run P w) (aMent h.rd kk z m k) := by
  obtain ⟨zv, hzv, hzr⟩ := zeroOf_run hz φ w
  refine bif_res fun hc => ?_
  have hck := fun b => checkKey_run (P := P) (w := w) (b := b) hkk hk hc
  cases hm with
  | m hmr =>
    rename_i b b'
    simp only
    unfold mentE
    split
    · rename_i es clock hrd
      obtain ⟨es', g1, g2, ph, p1, rfl, p3⟩ := hmr.map r hrd
      split
      · rename_i i e he
        refine bif_res fun hs => ?_
        obtain ⟨y, h1, h2⟩ := findKey_run (P := P) r hkk hk g2 he
        obtain ⟨mm, e', a1, a2, a3, a4, a5, rfl⟩ := h2
        obtain rfl : i = mm := by omega
        have hst := keyThatStays_run (P := P) (w := w) (sameKey_sim a3 hk hs)
        have ha2 : es'[i]? = some e' := by simpa using a2
        refine ⟨.value (.tuple #[e'.val, goInt e'.born]), _, _, ?_, .val _, .tup (.cons a4 (.cons (by rw [a5]; exact .i _ _) .nil)), putMap r p1 p3 hrd g1 (es2' := es'.modify i fun e => { e with key := k' }) ?_⟩
        · simp [vv, Instr.mapEntry, run_underlying_some ht, run_getObj' g1, hck, h1, ha2, hst, run_setObj' _ g1]
        · rw [Array.toList_modify]
          exact modE_rel g2 fun _ _ _ _ hv hb => ⟨hk, hv, hb⟩
      · rename_i he
        obtain ⟨y, h1, h2⟩ := findKey_run (P := P) r hkk hk g2 he
        cases h2
        refine ⟨.value (.tuple #[zv, goInt clock]), _, _, ?_, .val _, .tup (.cons hzr (.cons (.i _ _) .nil)), putMap r p1 p3 hrd g1 (es2' := es'.push { key := k', val := zv, born := clock }) ?_⟩
        · simp [vv, Instr.mapEntry, run_underlying_some ht, run_getObj' g1, hck, h1, hzv, run_setObj' _ g1]
        · rw [Array.toList_push]
          exact g2.append (.cons hk hzr rfl .nil)
      · exact trivial
    · exact trivial
  | _ => exact trivial

theorem bornE_find : ∀ {es : List Ent} {es' : List MapEntry} {born : Nat} {x : V} {x' : Value} {e : Ent}, EsRel φ es es' → VRel φ x x' → bornE born es = some e →
    ∃ i e', es'.findIdx? (fun e => (e.born : Int) == (born : Int)) = some i ∧ EsRel φ (setE born x es) (es'.modify i fun e => { e with val := x' }) ∧ es'.find? (·.born == born) = some e' ∧ VRel φ e.key e'.key ∧ VRel φ e.val e'.val
  | _, _, _, _, _, _, .nil, _, e => by simp [bornE] at e
  | _, _, born, x, x', e0, .cons (e := a) (e' := a') (l := l) (l' := l') hk hv hb t, hx, e => by
    simp only [bornE, beq_nat] at e
    by_cases hq : a.born = born
    · simp [hq] at e; subst e
      refine ⟨0, a', by simp [List.findIdx?_cons, hb, hq], ?_, by simp [hb, hq], hk, hv⟩
      simpa [setE, beq_nat, hq] using .cons hk hx (hb.trans hq) t
    · simp [hq] at e
      obtain ⟨i, e', h1, h2, h3, h4⟩ := bornE_find t hx e
      refine ⟨i + 1, e', ?_, ?_, ?_, h4⟩
      · have : ¬ ((a'.born : Int) == (born : Int)) = true := by simp [hb]; omega
        simp [List.findIdx?_cons, this, h1]
      · simpa [setE, beq_nat, hq] using .cons hk hv hb h2
      · have : ¬ (a'.born == born) = true := by simp [hb, hq]
        simp [this, h3]

theorem sim_mest (r : HRel φ h w) {t : TypeId} {m s x : V} {m' s' x' : Value} (hm : VRel φ m m') (hs : VRel φ s s') (hx : VRel φ x x') :
    ResSim P φ h w ((uu (Instr.entryStore t m' s' x')).run P w) (aMest h.rd m s x) := by
  cases hm with
  | m hmr =>
    rename_i b b'
    refine ofO_res fun born hborn => ?_
    obtain ⟨k, rfl⟩ := natV_spec hborn hs
    unfold mestE
    split
    · rename_i es clock hrd
      obtain ⟨es', g1, g2, ph, p1, rfl, p3⟩ := hmr.map r hrd
      split
      · rename_i e he
        obtain ⟨i, e', h1, h2, _⟩ := bornE_find g2 hx he
        refine ⟨.skip, undef, _, ?_, .skip, undef_rel, putMap r p1 p3 hrd g1 (es2' := es'.modify i fun e => { e with val := x' }) (by rw [Array.toList_modify]; exact h2)⟩
        have h1' : es'.findIdx? (fun e => (e.born : Int) == (born : Int)) = some i := by rw [← h1, ← List.findIdx?_toArray]
        simp [uu, Instr.entryStore, run_getObj' g1, asInt, asIntOf, h1', run_setObj' _ g1]
      · exact trivial
    · exact trivial
  | _ => exact trivial

end
end Go.AM

/- What each operation does, abstractly and in the model: ranges. -/
namespace Go.AM

section
variable {P : Program} {φ : Phi} {h : Hp} {w : World}

theorem valid_eq (c : Nat) : Utf8.valid (c : Int) = (Nat.blt c 55296 || (Nat.ble 57344 c && Nat.ble c 1114111)) := by
  rw [Bool.eq_iff_iff]
  simp only [Utf8.valid, blt_nat, ble_nat, Bool.or_eq_true, Bool.and_eq_true, decide_eq_true_eq]
  omega

theorem okRune_eq (c n least : Nat) : okRune c n least = if least ≤ c ∧ Utf8.valid (c : Int) = true then (c, n) else (65533, 1) := by
  unfold okRune
  rw [← valid_eq, ble_nat, cond_eq_ite]
  simp only [Bool.and_eq_true, decide_eq_true_eq]
theorem decode_eq (s : ByteArray) (i : Nat) (hi : i < s.size) : Utf8.decode s i = utf8dec (s.data.toList.drop i) := by
  have hat : ∀ k b, (s.data.toList.drop i)[k]? = some b → s.get! (i + k) = b ∧ i + k < s.size := fun k b e => by
    rw [List.getElem?_drop] at e
    have e2 : s.data[i + k]? = some b := by simpa using e
    obtain ⟨h1, h2⟩ := Array.getElem?_eq_some_iff.1 e2
    refine ⟨?_, h1⟩
    show s.data[i + k]! = b
    rw [getElem!_pos s.data (i + k) h1, h2]
  have hno : ∀ k, (s.data.toList.drop i)[k]? = none → ¬ (i + k < s.size) := fun k e h1 => by
    rw [List.getElem?_drop] at e
    have e2 : s.data[i + k]? = none := by simpa using e
    have : s.data.size ≤ i + k := by simpa using e2
    have : s.size ≤ i + k := this
    omega
  have hne : s.data.toList.drop i ≠ [] := fun e => hno 0 (by rw [e]; rfl) (by simpa using hi)
  generalize s.data.toList.drop i = l at hat hno hne ⊢
  match l, hne with
  | [b0], _ =>
    have h0 := hat 0 b0 rfl
    have h1 := hno 1 rfl
    simp only [Nat.add_zero] at h0
    simp only [Utf8.decode, utf8dec, utf8dec2, Nat.add_zero, h0.1, h1, decide_false, Bool.false_and, Bool.and_false, Bool.false_eq_true, if_false, blt_nat, cond_eq_ite, decide_eq_true_eq, Utf8.runeError]
  | [b0, b1], _ =>
    have h0 := hat 0 b0 rfl
    have h1 := hat 1 b1 rfl
    have h2 := hno 2 rfl
    simp only [Nat.add_zero] at h0
    simp only [Utf8.decode, utf8dec, utf8dec2, utf8dec3, Nat.add_zero, h0.1, h1.1, h1.2, h2, decide_true, Bool.true_and, decide_false, Bool.false_and, Bool.and_false, Bool.false_eq_true, if_false, blt_nat, ble_nat, beq_nat,
      cond_eq_ite, decide_eq_true_eq, Utf8.runeError, Bool.and_eq_true, beq_iff_eq, ge_iff_le]
  | [b0, b1, b2], _ =>
    have h0 := hat 0 b0 rfl
    have h1 := hat 1 b1 rfl
    have h2 := hat 2 b2 rfl
    have h3 := hno 3 rfl
    simp only [Nat.add_zero] at h0
    simp only [Utf8.decode, utf8dec, utf8dec2, utf8dec3, utf8dec4, okRune_eq, Nat.add_zero, h0.1, h1.1, h1.2, h2.1, h2.2, h3, decide_true, Bool.true_and, decide_false, Bool.false_and, Bool.and_false, Bool.false_eq_true, if_false,
      blt_nat, ble_nat, beq_nat, cond_eq_ite, decide_eq_true_eq, Utf8.runeError, Bool.and_eq_true, beq_iff_eq, ge_iff_le, and_assoc]
  | b0 :: b1 :: b2 :: b3 :: l, _ =>
    have h0 := hat 0 b0 rfl
    have h1 := hat 1 b1 rfl
    have h2 := hat 2 b2 rfl
    have h3 := hat 3 b3 rfl
    simp only [Nat.add_zero] at h0
    simp only [Utf8.decode, utf8dec, utf8dec2, utf8dec3, utf8dec4, okRune_eq, Nat.add_zero, h0.1, h1.1, h1.2, h2.1, h2.2, h3.1, h3.2, decide_true, Bool.true_and,
      blt_nat, ble_nat, beq_nat, cond_eq_ite, decide_eq_true_eq, Utf8.runeError, Bool.and_eq_true, beq_iff_eq, ge_iff_le, and_assoc]

theorem sim_rngS {t : TypeId} {x : V} {x' : Value} (ht : P.underlying t = some .string) (hx : VRel φ x x') : ResSim P φ h w ((vv (Instr.range t x')).run P w) (aRngS x) := by
  cases hx with
  | s hl =>
    rename_i l s
    exact new_sim (v' := .pointer (some ⟨w.heap.size, 0, none⟩)) (o := .stringIter s 0) (ph := ⟨w.heap.size, 0, none⟩) (by simp [Instr.range, run_underlying_some ht]) rfl (.siter rfl hl) (fun ψ n e => exP_rel e)
  | _ => exact trivial

theorem sim_rngM (r : HRel φ h w) {t k e : TypeId} {x : V} {x' : Value} (ht : P.underlying t = some (.map k e)) (hx : VRel φ x x') : ResSim P φ h w ((vv (Instr.range t x')).run P w) (aRngM h.rd x) := by
  cases hx with
  | m0 => exact new_sim (v' := .pointer (some ⟨w.heap.size, 0, none⟩)) (o := .mapIter none 0 #[] 0) (ph := ⟨w.heap.size, 0, none⟩) (by simp [Instr.range, run_underlying_some ht]) rfl (.miter rfl .none rfl) (fun ψ n e => exP_rel e)
  | m hm =>
    rename_i b b'
    simp only [aRngM]
    unfold rngE
    split
    · rename_i es clock ro hrd
      obtain ⟨es', g1, _⟩ := hm.map r hrd
      exact new_sim (v' := .pointer (some ⟨w.heap.size, 0, none⟩)) (o := .mapIter (some b') clock #[] clock) (ph := ⟨w.heap.size, 0, none⟩) (by simp [Instr.range, run_underlying_some ht, run_getObj' g1]) rfl (.miter rfl (.some hm) rfl) (fun ψ n e => exP_rel e)
    · exact trivial
  | _ => exact trivial

theorem atHead_spec {x : V} {x' : Value} {b : BId} (e : atHead x = some b) (hx : VRel φ x x') : ∃ ph, φ b = some ph ∧ x' = .pointer (some ⟨ph.blk, ph.sh, none⟩) := by
  cases hx with
  | p hp =>
    rename_i a a'
    obtain ⟨ph, h1, rfl⟩ := hp
    simp only [atHead, beq_nat] at e
    by_cases h0 : a.o = 0
    · simp [h0] at e; subst e
      exact ⟨ph, h1, by simp [h0]⟩
    · simp [h0] at e
  | _ => simp [atHead] at e

theorem sim_nxtS (r : HRel φ h w) {x : V} {x' : Value} {ty : TypeId} (hx : VRel φ x x') : ResSim P φ h w ((vv (Instr.next x' true ty)).run P w) (aNxtS h.rd x) := by
  refine ofO_res fun b hb => ?_
  obtain ⟨ph, hp, rfl⟩ := atHead_spec hb hx
  unfold nxtSE
  split
  · rename_i l pos hrd
    have hbr := r.blk _ _ _ hp hrd
    generalize ho : w.heap[ph.blk]? = o at hbr
    cases hbr with
    | siter h0 hl =>
      rename_i s
      have hsz : s.size = l.length := by rw [← hl]; exact Lib.size_eq s
      rw [blt_nat]
      by_cases hlt : pos < l.length
      · simp only [hlt, decide_true, cond_true]
        have hd := decode_eq s pos (by omega)
        rw [hl] at hd
        refine ⟨.value (.tuple #[.bool true, goInt pos, .int .i32 (utf8dec (l.drop pos)).1]), _, World.lay w ph.blk (.stringIter s (pos + (utf8dec (l.drop pos)).2)), ?_, .val _,
          .tup (.cons (.b _) (.cons (.i _ _) (.cons (.i _ _) .nil))),
          Ext.put r hp hrd rfl (lay_get ho) (.siter h0 hl) (fun i hi => lay_ne (Ne.symm hi)) lay_size rfl rfl rfl⟩
        simp [vv, Instr.next, h0, getObj, setObj, Sem.run, ho, hsz, hlt, hd, World.lay]
      · simp only [hlt, decide_false, cond_false]
        refine ok_sim r (v' := .tuple #[.bool false]) (.tup (.cons (.b _) .nil)) ?_
        simp [Instr.next, h0, getObj, Sem.run, ho, hsz, hlt]
  · exact trivial

theorem filterBorn_rel {seen : List Nat} {seen' : Array Nat} (hs : seen'.toList = seen) : ∀ {es : List Ent} {es' : List MapEntry}, EsRel φ es es' → EsRel φ (filterBorn seen es) (es'.filter fun e => !seen'.contains e.born)
  | _, _, .nil => .nil
  | _, _, .cons (e := a) (e' := a') (l := l) (l' := l') hk hv hb t => by
    have ih := filterBorn_rel hs t
    have hc : memN a.born seen = seen'.contains a'.born := by
      rw [memN_eq, hb, ← hs]; simp
    unfold filterBorn
    rw [hc, List.filter_cons]
    generalize seen'.contains a'.born = q
    cases q with
    | true => exact ih
    | false => exact .cons hk hv hb ih
theorem EsRel.mem : ∀ {es : List Ent} {es' : List MapEntry} {e' : MapEntry}, EsRel φ es es' → e' ∈ es' → ∃ e ∈ es, VRel φ e.key e'.key ∧ VRel φ e.val e'.val ∧ e'.born = e.born
  | _, _, _, .nil, hm => by simp at hm
  | _, _, e', .cons hk hv hb t, hm => by
    rcases List.mem_cons.1 hm with rfl | hm
    · exact ⟨_, List.mem_cons_self .., hk, hv, hb⟩
    · obtain ⟨e, h1, h2⟩ := t.mem hm
      exact ⟨e, List.mem_cons_of_mem _ h1, h2⟩
theorem nxtAny_mem {r m : BId} {since clock : Nat} {seen : List Nat} : ∀ {l : List Ent} {e : Ent}, e ∈ l → (V.tup [.b true, e.key, e.val], Eff.put r (.miter (some m) since (seen ++ [e.born]) clock)) ∈ nxtAny r m since seen clock l
  | [], _, hm => by simp at hm
  | a :: l, e, hm => by
    unfold nxtAny
    rcases List.mem_cons.1 hm with rfl | hm
    · exact List.mem_cons_self ..
    · exact List.mem_cons_of_mem _ (nxtAny_mem hm)
theorem bornLt_rel {n : Nat} : ∀ {es : List Ent} {es' : List MapEntry}, EsRel φ es es' → bornLt n es = true → ∀ x ∈ es', x.born < n
  | _, _, .nil, _, _, hm => by simp at hm
  | _, _, .cons hk hv hb t, e, x, hm => by
    simp only [bornLt, Bool.and_eq_true, blt_nat, decide_eq_true_eq] at e
    rcases List.mem_cons.1 hm with rfl | hm
    · omega
    · exact bornLt_rel t e.2 x hm

theorem sim_nxtM (r : HRel φ h w) {x : V} {x' : Value} {ty : TypeId} (hx : VRel φ x x') : ResSim P φ h w ((vv (Instr.next x' false ty)).run P w) (aNxtM h.rd x) := by
  refine ofO_res fun b hb => ?_
  obtain ⟨ph, hp, rfl⟩ := atHead_spec hb hx
  unfold nxtM0
  split
  · rename_i hrd
    have hbr := r.blk _ _ _ hp hrd
    generalize ho : w.heap[ph.blk]? = o at hbr
    cases hbr with
    | miter h0 hm hs =>
      cases hm
      refine ok_sim r (v' := .tuple #[.bool false]) (.tup (.cons (.b _) .nil)) ?_
      simp [Instr.next, h0, getObj, Sem.run, ho]
  · rename_i m since seen last hrd
    have hbr := r.blk _ _ _ hp hrd
    generalize ho : w.heap[ph.blk]? = o at hbr
    cases hbr with
    | miter h0 hm hs =>
      rename_i m' seen'
      cases hm with
      | some hmr =>
        rename_i m'
        unfold nxtME
        split
        · rename_i es clock ro hrm
          obtain ⟨es', g1, g2, _⟩ := hmr.map r hrm
          refine bif_res fun hc => ?_
          simp only [Bool.and_eq_true, beq_nat, decide_eq_true_eq] at hc
          obtain ⟨hc1, hc2, hc3⟩ := hc
          obtain rfl : clock = last := hc1.trans hc2.symm
          subst hc1
          have hleft := filterBorn_rel (φ := φ) hs g2
          have hlo : (leftOf es' seen').toList = es'.toList.filter fun e => !seen'.contains e.born := by simp [leftOf]
          rw [h0]
          rcases run_next_at (P := P) w ty ph.blk m' clock clock seen' es' clock ho g1 (bornLt_rel g2 hc3) (Nat.le_refl _) with ⟨hz, hrun⟩ | ⟨e', he', w1, hw1, hrun⟩
          · have hnil : filterBorn seen es = [] := by
              have hl := hleft.length
              rw [← hlo] at hl
              have : (leftOf es' seen').toList.length = 0 := by simpa using hz
              rw [this] at hl
              exact List.length_eq_zero_iff.1 hl
            rw [hnil]
            exact ok_sim r (v' := .tuple #[.bool false]) (.tup (.cons (.b _) .nil)) hrun
          · rw [hlo] at he'
            obtain ⟨e, hme, hk, hv, hbn⟩ := hleft.mem he'
            have hany : nxtL b m clock seen clock (filterBorn seen es) = .any (nxtAny b m clock seen clock (filterBorn seen es)) := by
              cases hf : filterBorn seen es with
              | nil => rw [hf] at hme; simp at hme
              | cons a l => rfl
            rw [hany]
            have hx1 : Ext φ h w φ h w1 := by
              rcases hw1 with rfl | rfl
              · exact Ext.refl r
              · exact Ext.drew r rfl rfl rfl rfl
            have ho1 : w1.heap[ph.blk]? = some (.mapIter (some m') clock seen' clock) := by rcases hw1 with rfl | rfl <;> exact ho
            refine ⟨_, nxtAny_mem hme, _, ChangeMaps.setBlock w1 ph.blk (.mapIter (some m') clock (seen'.push e'.born) clock), by simp [vv, hrun], .tup (.cons (.b _) (.cons hk (.cons hv .nil))), ?_⟩
            refine hx1.trans ?_
            have hset : ChangeMaps.setBlock w1 ph.blk (.mapIter (some m') clock (seen'.push e'.born) clock) = World.lay w1 ph.blk (.mapIter (some m') clock (seen'.push e'.born) clock) := rfl
            rw [hset]
            exact Ext.put hx1.rel hp hrd rfl (lay_get ho1) (.miter h0 (.some hmr) (by simp [hs, hbn])) (fun i hi => lay_ne (Ne.symm hi)) lay_size rfl rfl rfl
        · exact trivial
  · exact trivial

theorem lastN_spec : ∀ {l : List Nat} {n : Nat}, lastN l = some n → l.getLast? = some n
  | [], _, e => by simp [lastN] at e
  | [x], _, e => by simpa [lastN] using e
  | x :: y :: l, n, e => by
    have : lastN (y :: l) = some n := e
    rw [List.getLast?_cons_cons]
    exact lastN_spec this

theorem sim_ent (r : HRel φ h w) {x : V} {x' : Value} (hx : VRel φ x x') : ResSim P φ h w ((vv (Instr.entry x')).run P w) (aEnt h.rd x) := by
  refine ofO_res fun b hb => ?_
  obtain ⟨ph, hp, rfl⟩ := atHead_spec hb hx
  unfold entE
  split
  · rename_i m since seen last hrd
    have hbr := r.blk _ _ _ hp hrd
    generalize ho : w.heap[ph.blk]? = o at hbr
    cases hbr with
    | miter h0 hm hs =>
      rename_i m' seen'
      cases hm with
      | some hmr =>
        rename_i m'
        unfold entME
        split
        · rename_i es clock ro hrm
          obtain ⟨es', g1, g2, _⟩ := hmr.map r hrm
          refine bif_res fun hc => ?_
          rw [beq_nat, decide_eq_true_eq] at hc
          subst hc
          refine ofO_res fun born hbo => ofO_res fun e he => ?_
          obtain ⟨i, e', _, _, h3, h4, h5⟩ := bornE_find g2 (φ := φ) (.ni) he
          have hlast : seen'.back? = some born := by
            rw [← Array.getLast?_toList, hs]; exact lastN_spec hbo
          have h3' : es'.find? (·.born == born) = some e' := by rw [← Array.find?_toList]; exact h3
          refine ok_sim r (v' := .tuple #[e'.key, e'.val]) (.tup (.cons h4 (.cons h5 .nil))) ?_
          simp [Instr.entry, h0, getObj, Sem.run, ho, hlast, g1, h3']
        · exact trivial
  · exact trivial

end
end Go.AM

/- What each operation does, abstractly and in the model: the builtins. -/
namespace Go.AM

section
variable {P : Program} {φ : Phi} {h : Hp} {w : World}

theorem lenV_run {x : V} {x' : Value} {n : Nat} (hx : VRel φ x x') (e : lenV x = some n) : (Builtin.lenOf x').run P w = .ok n w := by
  cases hx with
  | sl0 len cap => simp [lenV] at e; subst e; rfl
  | sl hs => simp [lenV] at e; subst e; rfl
  | s hl => simp [lenV] at e; subst e; simp only [Builtin.lenOf, Sem.run_pure]; rw [← hl, Lib.size_eq]
  | _ => simp [lenV] at e

theorem srcCells_run (r : HRel φ h w) {x : V} {x' : Value} {size n m : Nat} {new : List V} (hx : VRel φ x x') (hm : lenV x = some m) (hn : n ≤ m) (e : srcCells h.rd size n x = some new) :
    ∃ new' : List Value, VsRel φ new new' ∧ (Builtin.firstCells size n x').run P w = .ok new'.toArray w := by
  cases hx with
  | sl0 len cap =>
    simp only [srcCells, beq_nat] at e
    by_cases h0 : n = 0
    · simp [h0] at e; subst e; exact ⟨[], .nil, rfl⟩
    · simp [h0] at e
  | sl hs =>
    simp [lenV] at hm; subst hm
    simp only [srcCells] at e
    have hz : ∀ len, n ≤ len → len = 0 → n * size = 0 := fun len h1 h2 => by
      obtain rfl : n = 0 := by omega
      exact Nat.zero_mul _
    obtain ⟨l', h1, _, h3⟩ := rd_slice (P := P) r hs (hz _ hn) e
    exact ⟨l', h1, h3⟩
  | s hl =>
    rename_i l s
    simp [lenV] at hm
    simp only [srcCells, beq_nat] at e
    by_cases h1 : size = 1
    · simp [h1] at e; subst e
      have hb := bytesV_rel (φ := φ) (l.take n)
      refine ⟨_, hb, ?_⟩
      simp only [Builtin.firstCells, Sem.run_pure]
      congr 1
      apply Array.toList_inj.1
      rw [Array.toList_map, Lib.extract_data]
      simp [hl]
    · simp [h1] at e
  | _ => simp [srcCells] at e

theorem srcCells_len {x : V} {size n m : Nat} {new : List V} (hm : lenV x = some m) (hn : n ≤ m) (e : srcCells h.rd size n x = some new) : new.length = n * size := by
  unfold srcCells at e
  split at e
  · unfold rdCells cutB at e
    split at e
    · exact (cut_spec e).1
    · cases e
  · rw [beq_nat] at e
    by_cases h0 : n = 0
    · simp [h0] at e; subst e; simp [h0]
    · simp [h0] at e
  · rename_i l
    simp [lenV] at hm
    rw [beq_nat] at e
    by_cases h1 : size = 1
    · simp [h1] at e; subst e
      rw [bytesV_length, h1]; simp; omega
    · simp [h1] at e
  · cases e

theorem zeroCells_size (z : Array Value) (n : Nat) : (Builtin.zeroCells z n).size = n * z.size := by simp [Builtin.zeroCells]

theorem grow_le (m : Nat) (hm : 256 ≤ m) : ∀ (k c : Nat), c ≤ m → Builtin.growBy m k c ≤ 2 * m
  | 0, c, hc => by simp only [Builtin.growBy]; omega
  | k + 1, c, hc => by
    simp only [Builtin.growBy]
    by_cases h1 : c ≥ m
    · simp only [h1, if_true]; omega
    · simp only [h1, if_false]
      by_cases h2 : c + (c + 768) / 4 ≤ m
      · exact grow_le m hm k _ h2
      · cases k with
        | zero => simp only [Builtin.growBy]; omega
        | succ k =>
          simp only [Builtin.growBy]
          rw [if_pos (by omega)]; omega
theorem nextcap_le {need cap : Nat} (hlt : cap < need) : Builtin.nextslicecap need cap ≤ 2 * need := by
  unfold Builtin.nextslicecap
  split
  · omega
  · split
    · omega
    · exact grow_le need (by omega) 4 cap (by omega)

theorem run_append {t u el ty : TypeId} {i : TypeInfo} {zv : Value} {base : Option Addr} {len cap' n : Nat} {x' : Value} (ht : P.underlying t = some (.slice el)) (hu : (∃ e, P.underlying u = some (.slice e)) ∨ P.underlying u = some .string)
    (hi : P.info? el = some i) (hsz : szOf P el = some i.size) (hz : ∀ w, (zeroValue el).run P w = .ok zv w) (hb : i.bytes ≠ 0) (hl : (Builtin.lenOf x').run P w = .ok n w) (hsm : ¬ len + n ≤ cap' → (len + n) * i.bytes ≤ most47) :
    (Builtin.append_ #[t, u] ty #[.slice base len cap', x']).run P w =
      if len + n ≤ cap' then ((Builtin.firstCells i.size n x').run P w).andThen fun new w1 =>
          ((match base with | some a => storeCells (a.add (len * i.size)) new.toList | none => pure ()).run P w1).andThen fun _ w2 => .ok (.slice base (len + n) cap') w2
      else ((choose (.appendCap (len + n) cap' el)).run P w).andThen fun newCap w1 =>
        ((Builtin.firstCells i.size len (.slice base len cap')).run P w1).andThen fun old w2 =>
          ((Builtin.firstCells i.size n x').run P w2).andThen fun new w3 =>
            ((newRow el (old ++ new ++ Builtin.zeroCells zv.cells (newCap - (len + n)))).run P w3).andThen fun a w4 => .ok (.slice (some a) (len + n) newCap) w4 := by
  have hnext : ¬ len + n ≤ cap' → ¬ Builtin.nextslicecap (len + n) cap' * i.bytes > 2 ^ 48 := fun hn => by
    have h1 := nextcap_le (need := len + n) (cap := cap') (by omega)
    have h2 := Nat.mul_le_mul_right i.bytes h1
    rw [Nat.mul_assoc] at h2
    have h3 : most47 = 140737488355328 := rfl
    have h4 := hsm hn
    omega
  have hti := run_typeInfo_some (P := P) hi
  have hsz' := szOf_run (P := P) hsz
  have htu := run_underlying_some (P := P) ht
  by_cases hc : len + n ≤ cap'
  · rw [if_pos hc]
    rcases hu with ⟨e, hu⟩ | hu <;> cases base <;>
      simp [Builtin.append_, htu, run_underlying_some hu, hsz', hl, hc]
  · rw [if_neg hc]
    have hn2 := hnext hc
    rcases hu with ⟨e, hu⟩ | hu <;>
      simp [Builtin.append_, htu, run_underlying_some hu, hsz', hl, hc, hti, hb, hn2, hz]

theorem SRel.ptr' {a : Ad} {n c : Nat} {a' : Addr} {c' : Nat} (hs : SRel φ a n c a' c') (hn : c' ≠ 0) : PRel φ a a' := by
  obtain ⟨ph, h1, h2, h3⟩ := hs
  refine ⟨ph, h1, ?_⟩
  cases hg : ph.gr with
  | none => rw [hg] at h3; exact h3.1
  | some q =>
    obtain ⟨sz, t⟩ := q
    rw [hg] at h3
    obtain ⟨_, g2, g3, g4⟩ := h3
    rcases g4 with g4 | g4
    · exact absurd g4.2 hn
    · obtain ⟨b, o, s⟩ := a'
      simp only at g2 g3 g4
      subst g2
      subst g3
      rw [g4.1]

theorem SRel.cap_le {a : Ad} {n c : Nat} {a' : Addr} {c' : Nat} (hs : SRel φ a n c a' c') : c ≤ c' := by
  obtain ⟨ph, h1, h2, h3⟩ := hs
  cases hg : ph.gr with
  | none => rw [hg] at h3; exact Nat.le_of_eq h3.2.symm
  | some q => obtain ⟨sz, t⟩ := q; rw [hg] at h3; exact h3.1

theorem SRel.len {a : Ad} {n c : Nat} {a' : Addr} {c' m : Nat} (hs : SRel φ a n c a' c') (hm : m ≤ c) : SRel φ a m c a' c' := by
  have hc := hs.cap_le
  obtain ⟨ph, h1, h2, h3⟩ := hs
  refine ⟨ph, h1, h2, ?_⟩
  cases hg : ph.gr with
  | none => rw [hg] at h3; exact h3
  | some q =>
    obtain ⟨sz, t⟩ := q
    rw [hg] at h3
    obtain ⟨g1, g2, g3, g4⟩ := h3
    refine ⟨g1, g2, g3, ?_⟩
    rcases g4 with g4 | g4
    · exact .inl ⟨by omega, g4.2⟩
    · exact .inr g4

theorem effO_simV {v : V} {v' : Value} {e : Option Eff} {s : Sem Value} (hv : VRel φ v v') (hx : ∀ x, e = some x → ∃ w', s.run P w = .ok v' w' ∧ Ext φ h w φ (h.eff x) w') :
    ResSim P φ h w ((vv s).run P w) (effO v e) := by
  cases e with
  | none => exact trivial
  | some x =>
    obtain ⟨w', h1, h2⟩ := hx x rfl
    exact ⟨.value v', v', w', by simp [vv, h1], .val _, hv, h2⟩

theorem grBlk_rel {cs : List V} {cs' : List Value} {el : TypeId} {b size tot : Nat} (hc : VsRel φ cs cs') (zs : Array Value) (h0 : size ≠ 0) (ht : cs'.length + zs.size = tot) :
    BRel φ ⟨b, 0, some (size, tot)⟩ (grBlk cs el size) (some (.cells (cs'.toArray ++ zs) el)) := by
  have hl := hc.length
  refine .cells (fun i v hi => ?_) ⟨by omega, by omega, by simp; omega, rfl⟩ (fun off _ _ => by simp) (fun _ => rfl)
  obtain ⟨v', h1, h2⟩ := hc.get hi
  refine ⟨v', ?_, h2⟩
  have hi2 : i < cs'.length := (List.getElem?_eq_some_iff.1 h1).1
  rw [Nat.zero_add, Array.getElem?_append_left (by simpa using hi2)]
  simpa using h1

theorem grSl_rel {ψ : Phi} {n blk size tot need cap' : Nat} {sh : Nat} (e : ψ (.gr n) = some ⟨blk, sh, some (size, tot)⟩) (h1 : need ≤ cap') (h2 : cap' * size ≤ tot) : VRel ψ (grSl need n) (.slice (some ⟨blk, sh, none⟩) need cap') :=
  .sl ⟨_, e, rfl, h1, rfl, rfl, .inr ⟨rfl, by show 0 + cap' * size ≤ tot; omega⟩⟩

/-- What an append does that needs a new block. -/
theorem out_sim {el : TypeId} {zv : Value} {base : Option Addr} {size len n need cap' k : Nat} {x' : Value} {old new : List V} {old' new' : List Value} {s : Sem Value}
    (hs : s.run P w = ((choose (.appendCap need cap' el)).run P w).andThen fun newCap w1 =>
        ((Builtin.firstCells size len (.slice base len cap')).run P w1).andThen fun o w2 =>
          ((Builtin.firstCells size n x').run P w2).andThen fun nw w3 =>
            ((newRow el (o ++ nw ++ Builtin.zeroCells zv.cells (newCap - need))).run P w3).andThen fun a w4 => .ok (.slice (some a) need newCap) w4)
    (hk : (choose (.appendCap need cap' el)).run P w = .ok (need + k) w.drew) (ho : VsRel φ old old') (hn : VsRel φ new new') (ho' : (Builtin.firstCells size len (.slice base len cap')).run P w.drew = .ok old'.toArray w.drew)
    (hn' : (Builtin.firstCells size n x').run P w.drew = .ok new'.toArray w.drew) (hz : zv.cells.size = size) (h0 : size ≠ 0) (hol : old'.length = len * size) (hnl : new'.length = n * size) (hneed : need = len + n) :
    ∃ ph v' o w', (vv s).run P w = .ok (.value v') w' ∧ (ph.gr.isSome = true ∧ ph.sh = 0) ∧ ph.blk = w.heap.size ∧ w'.heap = w.heap.push o ∧ (w'.tape = w.tape ∧ w'.os = w.os ∧ w'.output = w.output) ∧ BRel φ ph (grBlk (old ++ new) el size) (some o) ∧
      ∀ (ψ : Phi) n, ψ (gId true n) = some ph → VRel ψ (grSl need n) v' := by
  have hc := ho.append hn
  let zs := Builtin.zeroCells zv.cells (need + k - need)
  have hzs : zs.size = k * size := by rw [zeroCells_size, hz]; congr 1; omega
  have htot : (old' ++ new').length + zs.size = (need + k) * size := by
    rw [List.length_append, hol, hnl, hzs, hneed, Nat.add_mul, Nat.add_mul]
  refine ⟨⟨w.heap.size, 0, some (size, (need + k) * size)⟩, .slice (some ⟨w.heap.size, 0, none⟩) need (need + k), .cells ((old' ++ new').toArray ++ zs) el, w.drew.alloc (.cells ((old' ++ new').toArray ++ zs) el), ?_, ⟨rfl, rfl⟩, rfl, rfl, ⟨rfl, rfl, rfl⟩,
    grBlk_rel hc zs h0 htot, fun ψ n e => grSl_rel e (by omega) (Nat.le_refl _)⟩
  have hap : old'.toArray ++ new'.toArray ++ zs = (old' ++ new').toArray ++ zs := by simp
  simp only [vv, Sem.run_bind, hs, hk, Result.andThen_ok, ho', hn', newRow, run_newObj, Sem.run_pure]
  rw [hap]
  rfl

theorem BRel.loose {ph : Ph} {cs : List V} {el : TypeId} {gz : Nat} {o : Obj} {fz : Option Nat} {st : Bool} (hb : BRel φ ph (.cells cs el (Option.some 0) false false gz) (Option.some o)) : BRel φ ph (.cells cs el fz st false gz) (Option.some o) := by
  cases hb with
  | cells hc hs hf ht =>
    refine .cells hc hs ?_ (fun _ => ht rfl)
    cases fz with
    | none => exact trivial
    | some k => exact fun off _ h2 => hf off (Nat.zero_le _) h2

theorem rdCells_len {rd : Rd} {a : Ad} {n : Nat} {l : List V} (e : rdCells rd a n = some l) : l.length = n := by
  unfold rdCells cutB at e
  split at e
  · exact (cut_spec e).1
  · cases e

theorem sim_append (r : HRel φ h w) {t u el ty : TypeId} {i : TypeInfo} {z s x : V} {s' x' : Value} (ht : P.underlying t = some (.slice el)) (hu : (∃ e, P.underlying u = some (.slice e)) ∨ P.underlying u = some .string)
    (hi : P.info? el = some i) (hz : zeroOf P el = some z) (hzl : z.cells.length = i.size) (h0 : i.size ≠ 0) (hb : i.bytes ≠ 0) (hs : VRel φ s s') (hx : VRel φ x x') :
    ResSim P φ h w ((vv (Builtin.append_ #[t, u] ty #[s', x'])).run P w) (appendV h.rd i.size i.bytes el s x) := by
  have hsz : szOf P el = some i.size := by unfold szOf; rw [hi]
  have hzv : ∃ zv : Value, (∀ w, (zeroValue el).run P w = .ok zv w) ∧ VRel φ z zv := by
    have hz' := hz
    unfold zeroOf at hz'
    split at hz'
    · rename_i i hi
      split at hz'
      · rename_i zv hq
        exact ⟨zv, fun w => run_zeroValue_some hi hq w, absC_rel hz'⟩
      · cases hz'
    · cases hz'
  obtain ⟨zv, hzr, hzrel⟩ := hzv
  have hzc : zv.cells.size = i.size := by
    have := hzrel.cells.length
    rw [hzl] at this
    simpa using this.symm
  have main : ∀ (base : Option Ad) (base' : Option Addr) (len cap cap' : Nat), (base = none ∧ base' = none ∧ cap' = cap ∨ ∃ a a', base = some a ∧ base' = some a' ∧ SRel φ a len cap a' cap') →
      ResSim P φ h w ((vv (Builtin.append_ #[t, u] ty #[.slice base' len cap', x'])).run P w) (appendV h.rd i.size i.bytes el (.sl base len cap) x) := by
    intro base base' len cap cap' hbase
    refine ofO_res fun n hn => ofO_res fun new hnew => ?_
    have hlen := lenV_run (P := P) (w := w) hx hn
    have hcap : cap ≤ cap' := by
      rcases hbase with ⟨_, _, h3⟩ | ⟨a, a', _, _, h3⟩
      · omega
      · exact h3.cap_le
    obtain ⟨new', hnr, hnrun⟩ := srcCells_run (P := P) (w := w) r hx hn (Nat.le_refl _) hnew
    have hrd := r.drew (w' := w.drew) rfl
    have hnl := srcCells_len hn (Nat.le_refl _) hnew
    have hnl' : new'.length = n * i.size := by rw [← hnr.length]; exact hnl
    unfold appendN
    rw [ble_nat]
    by_cases hin : len + n ≤ cap
    · -- in place
      have hin' : len + n ≤ cap' := by omega
      have hrun := run_append (P := P) (w := w) (ty := ty) (base := base') (cap' := cap') ht hu hi hsz hzr hb hlen (fun hc => absurd hin' hc)
      rw [if_pos hin', hnrun] at hrun
      rw [show decide (len.add n ≤ cap) = true from by simpa using hin, cond_true]
      unfold appIn
      rcases hbase with ⟨rfl, rfl, rfl⟩ | ⟨a, a', rfl, rfl, hsr⟩
      · exact ok_sim r (.sl0 _ _) (by rw [hrun]; rfl)
      · refine bif_res fun hg => ?_
        have hvs := hsr.len (m := len + n) hin
        cases new with
        | nil =>
          cases hnr
          exact ok_sim r (.sl hvs) (by rw [hrun]; rfl)
        | cons v l =>
          have hn0 : n ≠ 0 := fun e => by subst e; simp at hnl
          have hpr := hsr.ptr' (by omega)
          have hpr2 : PRel φ ⟨a.b, a.o + len * i.size⟩ (a'.add (len * i.size)) := by
            obtain ⟨ph, h1, rfl⟩ := hpr
            exact ⟨ph, h1, by rw [Addr.add_mk, Nat.add_assoc]⟩
          refine effO_simV (.sl hvs) fun e he => ?_
          obtain ⟨w', g1, g2⟩ := wr_cells (P := P) r hpr2 hnr he
          exact ⟨w', by rw [hrun]; simp [g1], g2⟩
    · rw [show decide (len.add n ≤ cap) = false from by simpa using hin, cond_false]
      refine bif_res fun hc => ?_
      simp only [Bool.and_eq_true, ble_nat, decide_eq_true_eq] at hc
      obtain ⟨⟨⟨hc1, _⟩, _⟩, hfl⟩ := hc
      have hrun := run_append (P := P) (w := w) (ty := ty) (base := base') (cap' := cap') ht hu hi hsz hzr hb hlen (fun _ => hc1)
      obtain ⟨k, hk⟩ := run_appendCap (P := P) (w := w) (len + n) cap' el
      obtain ⟨nd, hndr, hndrun⟩ := srcCells_run (P := P) (w := w.drew) hrd hx hn (Nat.le_refl _) hnew
      have hndl : nd.length = n * i.size := by rw [← hndr.length]; exact hnl
      unfold appOut
      rcases hbase with ⟨rfl, rfl, rfl⟩ | ⟨a, a', rfl, rfl, hsr⟩
      · refine bif_res fun hl0 => ?_
        obtain rfl : len = 0 := Nat.eq_of_beq_eq_true hl0
        rw [if_neg hin] at hrun
        exact out_sim (old := []) (old' := []) hrun hk .nil hndr rfl hndrun hzc h0 (by simp) hndl rfl
      · refine ofO_res fun old hold => ?_
        have hol : old.length = len * i.size := rdCells_len hold
        have hsr2 := hsr
        obtain ⟨od, hodr, hodl, hodrun⟩ := rd_slice (P := P) (k := len * i.size) hrd hsr (fun e => by rw [e, Nat.zero_mul]) hold
        have hfresh : ¬ len + n ≤ cap' → ∃ ph v' o w', (vv (Builtin.append_ #[t, u] ty #[.slice (some a') len cap', x'])).run P w = .ok (.value v') w' ∧ (ph.gr.isSome = true ∧ ph.sh = 0) ∧ ph.blk = w.heap.size ∧ w'.heap = w.heap.push o ∧ (w'.tape = w.tape ∧ w'.os = w.os ∧ w'.output = w.output) ∧
            BRel φ ph (grBlk (old ++ new) el i.size) (some o) ∧ ∀ (ψ : Phi) m, ψ (gId true m) = some ph → VRel ψ (grSl (len + n) m) v' := fun hnin => by
          rw [if_neg hnin] at hrun
          exact out_sim hrun hk hodr hndr (by simpa [Builtin.firstCells] using hodrun) hndrun hzc h0 hodl hndl rfl
        split
        · -- capacity not known
          rename_i gk hab
          unfold appRep
          split
          · rename_i cs el' fz st ro gz hblk
            refine bif_res fun hcc => ?_
            simp only [Bool.and_eq_true, Bool.not_eq_true', beq_nat, decide_eq_true_eq] at hcc
            obtain ⟨hro, hfz, hgz, hel⟩ := hcc
            subst hro
            subst hel
            obtain ⟨ph, hph, hgr, hrel⟩ := hsr2
            obtain ⟨c, fr, hw, hcs, hso, hf, hst⟩ := r.cells hph hblk
            have hkill : ∃ pk y, φ a.b = some pk ∧ h.rd a.b = some y ∧ y.ro = false ∧ pk = ph := ⟨ph, _, hph, hblk, rfl, rfl⟩
            by_cases hin' : len + n ≤ cap'
            · rw [if_pos hin', hnrun] at hrun
              have hc0 : cap' ≠ 0 := by omega
              obtain ⟨ph0, hph0, hae⟩ := hsr.ptr' hc0
              rw [hph] at hph0
              obtain rfl : ph = ph0 := by simpa using hph0
              cases hg : ph.gr with
              | none => rw [hg, hab] at hgr; cases hgr
              | some q =>
                obtain ⟨sz, tot⟩ := q
                rw [hg] at hrel hso
                obtain ⟨g1, g2, g3, g4⟩ := hrel
                obtain ⟨o1, o2, o3, o4⟩ := hso
                obtain rfl : sz = i.size := by omega
                have g5 : a.o + cap' * i.size ≤ tot := by
                  rcases g4 with g4 | g4
                  · exact absurd g4.2 hc0
                  · exact g4.2
                have hmul : (len + n) * i.size ≤ cap' * i.size := Nat.mul_le_mul_right _ hin'
                have hadd : (len + n) * i.size = len * i.size + n * i.size := Nat.add_mul ..
                subst hae
                have hst' := run_storeCells P ph.blk (ph.sh + (a.o + len * i.size)) el fr new' 0 w c hw (by omega)
                  (fun j j1 j2 => fz_lay hf hfz (n := new'.length) (by show ph.sh + (a.o + len * i.size) + new'.length ≤ c.size; omega) j (by omega) (by omega)) (hnr.oneCell hfl)
                refine ⟨⟨ph.blk, ph.sh + a.o, some (i.size, tot - a.o)⟩, .slice (some ⟨ph.blk, ph.sh + a.o, none⟩) (len + n) cap', .cells (layA c (ph.sh + (a.o + len * i.size) + 0) new') el fr,
                  World.lay w ph.blk (.cells (layA c (ph.sh + (a.o + len * i.size) + 0) new') el fr), ph, _, ?_, rfl, ⟨rfl, rfl, rfl⟩, ?_, rfl, fun ψ m e => grSl_rel e hin' (by omega), hph, hblk, rfl, .inr ⟨rfl, rfl⟩⟩
                · simp only [vv, Sem.run_bind, hrun, Result.andThen_ok, Addr.add_mk]
                  rw [show ph.sh + a.o + len * i.size = ph.sh + (a.o + len * i.size) from by omega]
                  simp only [hst', Result.andThen_ok, Sem.run_pure]
                · refine .cells (fun j v hj => ?_) ⟨o1, ?_, ?_, rfl⟩ ?_ hst
                  · show ∃ v', (layA c (ph.sh + (a.o + len * i.size) + 0) new')[ph.sh + a.o + j]? = some v' ∧ VRel φ v v'
                    rw [layA_get _ _ _ _ (by omega)]
                    rcases Nat.lt_or_ge j old.length with hjl | hjl
                    · rw [List.getElem?_append_left hjl] at hj
                      have hcut : cut cs a.o (len * i.size) = some old := by
                        unfold rdCells cutB at hold
                        rw [hblk] at hold
                        exact hold
                      obtain ⟨q1, q2, q3⟩ := cut_spec hcut
                      rw [q3 j (by omega)] at hj
                      obtain ⟨v', e1, e2⟩ := hcs _ _ hj
                      exact ⟨v', by rw [if_neg (by omega), ← e1]; congr 1; omega, e2⟩
                    · rw [List.getElem?_append_right hjl] at hj
                      obtain ⟨v', e1, e2⟩ := hnr.get hj
                      have hjn : j - old.length < new'.length := (List.getElem?_eq_some_iff.1 e1).1
                      refine ⟨v', ?_, e2⟩
                      rw [if_pos (by omega), ← e1]; congr 1; omega
                  · rw [List.length_append, hol, hnl]; omega
                  · rw [layA_size]; show c.size = ph.sh + a.o + (tot - a.o); omega
                  · rw [layA_size]
                    show fzOk (ph.sh + a.o) c.size fr (fzLess a.o fz)
                    cases fz with
                    | none => exact trivial
                    | some kf =>
                      intro off h1 h2
                      have := hf (a.o + off) (by omega) (by omega)
                      rw [Nat.add_assoc]; exact this
            · obtain ⟨ph2, v', o, w', e1, e2, e3, e4, e5, e6, e7⟩ := hfresh hin'
              obtain ⟨pk, y, k1, k2, k3, k4⟩ := hkill
              exact ⟨ph2, v', o, w', pk, y, e1, e2.1, e5, e6.loose, rfl, e7, k1, k2, k3, .inl ⟨e3, e4⟩⟩
          · exact trivial
        · -- a block of known capacity
          rename_i hng
          have hcc : cap' = cap := by
            obtain ⟨ph, h1, h2, h3⟩ := hsr
            cases hg : ph.gr with
            | none => rw [hg] at h3; exact h3.2
            | some q =>
              rw [hg] at h2
              cases hab : a.b with
              | gr k => exact absurd hab (hng k)
              | old k => rw [hab] at h2; cases h2
              | ex k => rw [hab] at h2; cases h2
          exact hfresh (by omega)
  cases hs with
  | sl0 len cap => exact main none none len cap cap (.inl ⟨rfl, rfl, rfl⟩)
  | sl hsr => exact main (some _) (some _) _ _ _ (.inr ⟨_, _, rfl, rfl, hsr⟩)
  | _ => exact trivial

end
end Go.AM
