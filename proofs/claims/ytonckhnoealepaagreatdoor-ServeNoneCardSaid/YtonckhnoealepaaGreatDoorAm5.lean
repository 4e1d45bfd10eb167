/- What each operation does, abstractly and in the model: the rest of the builtins. -/
import Derived.Test.YtonckhnoealepaaGreatDoorAm4
import Derived.Lib.UnsafeStr
import Derived.Test.YtonckhnoealepaaGreatDoorAm1
namespace Go.AM

section
variable {P : Program} {φ : Phi} {h : Hp} {w : World}

theorem sim_cap (r : HRel φ h w) {t ty : TypeId} {x : V} {x' : Value} (ht : ∃ e, P.underlying t = some (.slice e)) (hx : VRel φ x x') : ResSim P φ h w ((vv (Builtin.cap_ #[t] ty #[x'])).run P w) (capR x) := by
  obtain ⟨e, ht⟩ := ht
  cases hx with
  | sl0 n c => exact ok_sim r (v' := goInt c) (.i _ _) (by simp [Builtin.cap_, run_underlying_some ht])
  | sl hs =>
    rename_i a n c a' c'
    simp only [capR]
    split
    · exact trivial
    · rename_i hng
      have hcc : c' = c := by
        obtain ⟨ph, h1, h2, h3⟩ := hs
        cases hg : ph.gr with
        | none => rw [hg] at h3; exact h3.2
        | some q =>
          rw [hg] at h2
          cases hab : a.b with
          | gr k => exact absurd hab (hng k)
          | old k => rw [hab] at h2; cases h2
          | ex k => rw [hab] at h2; cases h2
      subst hcc
      exact ok_sim r (v' := goInt c') (.i _ _) (by simp [Builtin.cap_, run_underlying_some ht])
  | _ => exact trivial

theorem sim_lenS (r : HRel φ h w) {t ty : TypeId} {x : V} {x' : Value} (ht : P.underlying t = some .string) (hx : VRel φ x x') : ResSim P φ h w ((vv (Builtin.len_ #[t] ty #[x'])).run P w) (lenSR x) := by
  cases hx with
  | s hl =>
    rename_i l s
    have hz : l.length = s.size := by rw [← hl]; exact (Lib.size_eq s).symm
    simp only [lenSR, hz]
    exact ok_sim r (v' := goInt s.size) (.i _ _) (by simp [Builtin.len_, run_underlying_some ht])
  | _ => exact trivial
theorem sim_lenV (r : HRel φ h w) {t ty e : TypeId} {x : V} {x' : Value} (ht : P.underlying t = some (.slice e)) (hx : VRel φ x x') : ResSim P φ h w ((vv (Builtin.len_ #[t] ty #[x'])).run P w) (lenVR x) := by
  cases hx with
  | sl0 n c => exact ok_sim r (v' := goInt n) (.i _ _) (by simp [Builtin.len_, run_underlying_some ht])
  | sl hs => exact ok_sim r (v' := goInt _) (.i _ _) (by simp [Builtin.len_, run_underlying_some ht])
  | _ => exact trivial
theorem sim_lenM (r : HRel φ h w) {t ty k e : TypeId} {x : V} {x' : Value} (ht : P.underlying t = some (.map k e)) (hx : VRel φ x x') : ResSim P φ h w ((vv (Builtin.len_ #[t] ty #[x'])).run P w) (lenMR h.rd x) := by
  cases hx with
  | m0 => exact ok_sim r (v' := goInt 0) (.i _ _) (by simp [Builtin.len_, run_underlying_some ht])
  | m hm =>
    unfold lenMR
    simp only
    split
    · rename_i es clock ro hrd
      obtain ⟨es', g1, g2, _⟩ := hm.map r hrd
      have hl : es'.size = es.length := by rw [g2.length]; simp
      exact ok_sim r (v' := goInt es.length) (.i _ _) (by simp [Builtin.len_, run_underlying_some ht, run_getObj' g1, hl])
    · exact trivial
  | _ => exact trivial

theorem sim_lenN (r : HRel φ h w) {t ty : TypeId} {n : Nat} {x' : Value} (ht : (∃ e, P.underlying t = some (.array n e)) ∨ ∃ a e, P.underlying t = some (.pointer a) ∧ P.underlying a = some (.array n e)) :
    ResSim P φ h w ((vv (Builtin.len_ #[t] ty #[x'])).run P w) (.ok (.i .i64 (Int.ofNat n)) .no) := by
  refine ok_sim r (v' := goInt n) (.i _ _) ?_
  rcases ht with ⟨e, ht⟩ | ⟨a, e, ht, ha⟩
  · simp [Builtin.len_, run_underlying_some ht]
  · simp [Builtin.len_, run_underlying_some ht, run_underlying_some ha]

theorem foldV_sim {f : V → V → Option V} {g : Value → Value → Sem Value} (hf : ∀ x y z x' y', f x y = some z → VRel φ x x' → VRel φ y y' → ∃ z', VRel φ z z' ∧ (g x' y').run P w = .ok z' w) :
    ∀ (l : List V) (l' : List Value) (x z : V) (x' : Value), foldV f x l = some z → VRel φ x x' → VsRel φ l l' → ∃ z', VRel φ z z' ∧ (l'.foldlM g x').run P w = .ok z' w
  | [], l', x, z, x', e, hx, ht => by
    cases ht
    simp [foldV] at e; subst e; exact ⟨x', hx, rfl⟩
  | y :: l, l', x, z, x', e, hx, ht => by
    cases ht with
    | cons hy t =>
      rename_i y' l2
      unfold foldV at e
      split at e
      · rename_i u hu
        obtain ⟨u', h1, h2⟩ := hf _ _ _ _ _ hu hx hy
        obtain ⟨z', h3, h4⟩ := foldV_sim hf l l2 u z u' e h1 t
        exact ⟨z', h3, by simp [List.foldlM, h2, h4]⟩
      · cases e

theorem max2_sim (x y z : V) (x' y' : Value) (e : maxV x y = some z) (hx : VRel φ x x') (hy : VRel φ y y') : ∃ z', VRel φ z z' ∧ (Builtin.max2 x' y').run P w = .ok z' w := by
  cases hx with
  | i k n =>
    cases hy with
    | i k2 n2 =>
      simp only [maxV, ileb_eq, cond_eq_ite, decide_eq_true_eq, Option.some.injEq] at e
      subst e
      refine ⟨_, .i _ _, ?_⟩
      simp only [Builtin.max2, Sem.run_pure]
      congr 2
      by_cases hc : n2 ≤ n
      · rw [if_pos hc, if_neg (by omega)]
      · rw [if_neg hc, if_pos (by omega)]
    | _ => simp [maxV] at e
  | _ => simp [maxV] at e
theorem min2_sim (x y z : V) (x' y' : Value) (e : minV x y = some z) (hx : VRel φ x x') (hy : VRel φ y y') : ∃ z', VRel φ z z' ∧ (Builtin.min2 x' y').run P w = .ok z' w := by
  cases hx with
  | i k n =>
    cases hy with
    | i k2 n2 =>
      simp only [minV, ileb_eq, cond_eq_ite, decide_eq_true_eq, Option.some.injEq] at e
      subst e
      refine ⟨_, .i _ _, ?_⟩
      simp only [Builtin.min2, Sem.run_pure]
      congr 2
      by_cases hc : n ≤ n2
      · rw [if_pos hc, if_neg (by omega)]
      · rw [if_neg hc, if_pos (by omega)]
    | _ => simp [minV] at e
  | _ => simp [minV] at e

theorem sim_max (r : HRel φ h w) {ts : Array TypeId} {ty : TypeId} {args : List V} {args' : List Value} (ha : VsRel φ args args') : ResSim P φ h w ((vv (Builtin.max_ ts ty args'.toArray)).run P w) (argF args maxV) := by
  unfold argF
  cases ha with
  | nil => exact trivial
  | cons hx t =>
    refine okO_sim r fun v e => ?_
    obtain ⟨z', h1, h2⟩ := foldV_sim max2_sim _ _ _ _ _ e hx t
    exact ⟨z', h1, by simpa [Builtin.max_] using h2⟩
theorem sim_min (r : HRel φ h w) {ts : Array TypeId} {ty : TypeId} {args : List V} {args' : List Value} (ha : VsRel φ args args') : ResSim P φ h w ((vv (Builtin.min_ ts ty args'.toArray)).run P w) (argF args minV) := by
  unfold argF
  cases ha with
  | nil => exact trivial
  | cons hx t =>
    refine okO_sim r fun v e => ?_
    obtain ⟨z', h1, h2⟩ := foldV_sim min2_sim _ _ _ _ _ e hx t
    exact ⟨z', h1, by simpa [Builtin.min_] using h2⟩

theorem sim_usSl (r : HRel φ h w) {ts : Array TypeId} {ty : TypeId} {x : V} {x' : Value} (hx : VRel φ x x') : ResSim P φ h w ((vv (Builtin.unsafeSliceData_ ts ty #[x'])).run P w) (usSlV x) := by
  cases hx with
  | sl0 n c => exact ok_sim r .p0 (Go.Lib.run_unsafeSliceData_nil w ts ty n c)
  | sl hs =>
    rename_i a n c a' c'
    show ResSim P φ h w _ (bif Nat.beq c 0 then .fail else .ok (.p (some a)) .no)
    refine (by
      cases hc : Nat.beq c 0 with
      | true => exact trivial
      | false =>
        have hc0 : c ≠ 0 := by rw [beq_nat] at hc; simpa using hc
        have := hs.cap_le
        exact ok_sim r (.p (hs.ptr' (by omega))) (Go.Lib.run_unsafeSliceData_row w ts ty a' n c' (by omega)))
  | _ => exact trivial

theorem sim_delete (r : HRel φ h w) {ts : Array TypeId} {t kt el ty : TypeId} {kk : EqK} {m k : V} {m' k' : Value} (ht : P.underlying t = some (.map kt el)) (hkk : keyK P kt = some kk) (hts : ts[0]? = some t)
    (hm : VRel φ m m') (hk : VRel φ k k') : ResSim P φ h w ((vv (Builtin.delete_ ts ty #[m', k'])).run P w) (deleteV h.rd kk k m) := by
  cases hm with
  | m0 =>
    unfold deleteV
    refine bif_res fun hc => ?_
    have hck := fun b => checkKey_run (P := P) (w := w) (b := b) hkk hk hc
    exact ok_sim r (v' := .tuple #[]) (.tup .nil) (by simp [Builtin.delete_, hts, run_underlying_some ht, hck])
  | m hmr =>
    rename_i b b'
    simp only [deleteV]
    split
    · rename_i es clock hrd
      obtain ⟨es', g1, g2, ph, p1, rfl, p3⟩ := hmr.map r hrd
      unfold deleteE
      refine bif_res fun hc => ?_
      have hck := fun b => checkKey_run (P := P) (w := w) (b := b) hkk hk hc
      split
      · rename_i i e he
        obtain ⟨y, h1, h2⟩ := findKey_run (P := P) r hkk hk g2 he
        obtain ⟨mm, e', a1, a2, a3, a4, a5, rfl⟩ := h2
        obtain rfl : i = mm := by omega
        refine ⟨.value (.tuple #[]), _, _, ?_, .val _, .tup .nil, putMap r p1 p3 hrd g1 (es2' := es'.eraseIdxIfInBounds i) ?_⟩
        · simp [vv, Builtin.delete_, hts, run_underlying_some ht, run_getObj' g1, hck, h1, run_setObj' _ g1]
        · have hi : i < es'.size := by
            have := (List.getElem?_eq_some_iff.1 a2).1
            simpa using this
          rw [Array.eraseIdxIfInBounds, dif_pos hi, Array.toList_eraseIdx]
          exact delE_rel g2
      · rename_i he
        obtain ⟨y, h1, h2⟩ := findKey_run (P := P) r hkk hk g2 he
        cases h2
        refine ok_sim r (v' := .tuple #[]) (.tup .nil) ?_
        simp [Builtin.delete_, hts, run_underlying_some ht, run_getObj' g1, hck, h1, run_setObj' _ g1, lay_self g1]
      · exact trivial
    · exact trivial
  | _ => exact trivial

theorem sim_clearM (r : HRel φ h w) {t k e ty : TypeId} {x : V} {x' : Value} (ht : P.underlying t = some (.map k e)) (hx : VRel φ x x') : ResSim P φ h w ((vv (Builtin.clear_ #[t] ty #[x'])).run P w) (clearM h.rd x) := by
  cases hx with
  | m0 => exact ok_sim r (v' := .tuple #[]) (.tup .nil) (by simp [Builtin.clear_, run_underlying_some ht])
  | m hm =>
    unfold clearM
    simp only
    split
    · rename_i es clock hrd
      obtain ⟨es', g1, g2, ph, p1, rfl, p3⟩ := hm.map r hrd
      refine ⟨.value (.tuple #[]), _, _, ?_, .val _, .tup .nil, putMap r p1 p3 hrd g1 (es2' := #[]) .nil⟩
      simp [vv, Builtin.clear_, run_underlying_some ht, run_getObj' g1, run_setObj' _ g1]
    · exact trivial
  | _ => exact trivial

theorem sim_clear (r : HRel φ h w) {t e ty : TypeId} {z : V} {x : V} {x' : Value} (ht : P.underlying t = some (.slice e)) (hz : zeroOf P e = some z) (h0 : z.cells.length ≠ 0) (hx : VRel φ x x') :
    ResSim P φ h w ((vv (Builtin.clear_ #[t] ty #[x'])).run P w) (clearV h.rd z.cells x) := by
  cases hx with
  | sl0 n c => exact ok_sim r (v' := .tuple #[]) (.tup .nil) (by simp [Builtin.clear_, run_underlying_some ht])
  | sl hs =>
    rename_i a n c a' c'
    cases n with
    | zero => exact ok_sim r (v' := .tuple #[]) (.tup .nil) (by simp [Builtin.clear_, run_underlying_some ht])
    | succ n =>
      obtain ⟨zv, hz1, hz2⟩ := zeroOf_run hz φ w
      have hzc := hz2.cells
      have hre := rept_rel (φ := φ) hzc (by omega) (n + 1)
      refine effO_simV (v' := .tuple #[]) (.tup .nil) fun eff he => ?_
      obtain ⟨w', g1, g2⟩ := wr_cells (P := P) r (hs.ptr (by omega)) hre he
      refine ⟨w', ?_, g2⟩
      have hzz : Builtin.zeroCells zv.cells (n + 1) = reptA zv.cells ((n + 1) * zv.cells.size) := rfl
      simp only [Builtin.clear_]
      simp [run_underlying_some ht, hz1, hzz, g1]
  | _ => exact trivial

theorem copy_n (sl dl : Nat) : minN sl dl = Nat.min sl dl := by
  unfold minN
  rw [ble_nat]
  by_cases hc : sl ≤ dl
  · simp [hc, Nat.min_eq_left hc]
  · simp [hc]; exact (Nat.min_eq_right (by omega)).symm

theorem sim_copy (r : HRel φ h w) {ts : Array TypeId} {t el ty : TypeId} {size : Nat} {d x : V} {d' x' : Value} (ht : P.underlying t = some (.slice el)) (hts : ts[0]? = some t) (hsz : szOf P el = some size)
    (hd : VRel φ d d') (hx : VRel φ x x') : ResSim P φ h w ((vv (Builtin.copy_ ts ty #[d', x'])).run P w) (copyV h.rd size d x) := by
  have main : ∀ (base : Option Ad) (base' : Option Addr) (dl cap cap' : Nat), (base = none ∧ base' = none ∨ ∃ a a', base = some a ∧ base' = some a' ∧ SRel φ a dl cap a' cap') →
      ResSim P φ h w ((vv (Builtin.copy_ ts ty #[.slice base' dl cap', x'])).run P w) (copyV h.rd size (.sl base dl cap) x) := by
    intro base base' dl cap cap' hbase
    refine ofO_res fun sl hsl => ofO_res fun new hnew => ?_
    have hlen := lenV_run (P := P) (w := w) hx hsl
    have hmin : minN sl dl ≤ sl := by rw [copy_n]; exact Nat.min_le_left _ _
    obtain ⟨new', hnr, hnrun⟩ := srcCells_run (P := P) (w := w) r hx hsl hmin hnew
    have hnl := srcCells_len hsl hmin hnew
    rw [copy_n] at hnrun hnl ⊢
    unfold copyN
    rcases hbase with ⟨rfl, rfl⟩ | ⟨a, a', rfl, rfl, hsr⟩
    · exact ok_sim r (v' := goInt (Nat.min sl dl)) (.i _ _) (by simp [Builtin.copy_, hts, run_underlying_some ht, hlen, szOf_run hsz, hnrun])
    · cases new with
      | nil =>
        cases hnr
        exact ok_sim r (v' := goInt (Nat.min sl dl)) (.i _ _) (by simp [Builtin.copy_, hts, run_underlying_some ht, hlen, szOf_run hsz, hnrun, storeCells])
      | cons v l =>
        have hn0 : dl ≠ 0 := fun e => by subst e; simp at hnl
        have hpr := hsr.ptr hn0
        refine effO_simV (v' := goInt (Nat.min sl dl)) (.i _ _) fun e he => ?_
        obtain ⟨w', g1, g2⟩ := wr_cells (P := P) r hpr hnr he
        exact ⟨w', by simp [Builtin.copy_, hts, run_underlying_some ht, hlen, szOf_run hsz, hnrun, g1], g2⟩
  cases hd with
  | sl0 len cap => exact main none none len cap cap (.inl ⟨rfl, rfl⟩)
  | sl hsr => exact main (some _) (some _) _ _ _ (.inr ⟨_, _, rfl, rfl, hsr⟩)
  | _ => exact trivial

theorem liesAt_row {e : TypeId} (hc : P.cellsOf e = 1) (count off n : Nat) (hn : off + n ≤ count) : liesAt P P.depth e count off e n = true := by
  have hd : P.depth = (2 * (P.types.size + Made.depth) + 1) + 1 := rfl
  rw [hd]
  simp only [liesAt, Bool.or_eq_true]
  left
  rw [hd]
  simp only [rowAt, hc, Nat.div_one, Nat.mod_one]
  simp [hn, sameLayout]

theorem run_loadBytesI : ∀ (ns : List Int) (b o : Nat) (acc : ByteArray), (∀ (j : Nat) (n : Int), ns[j]? = some n → w.cell? ⟨b, o + j, none⟩ = some (.int .u8 n)) →
    (loadBytes ⟨b, o, none⟩ acc ns.length).run P w = .ok ⟨acc.data ++ (ns.map fun n => UInt8.ofNat n.toNat).toArray⟩ w
  | [], b, o, acc, _ => by simp [loadBytes]
  | x :: l, b, o, acc, hx => by
    have h0 : w.cell? ⟨b, o, none⟩ = some (.int .u8 x) := hx 0 x rfl
    have ih := run_loadBytesI l b (o + 1) (acc.push (UInt8.ofNat x.toNat)) (fun j y hy => by
      have := hx (j + 1) y (by simpa using hy)
      rw [← this]; congr 2; omega)
    have hp : (x.toNat).toUInt8 = UInt8.ofNat x.toNat := rfl
    simp only [List.length_cons, loadBytes, Sem.run_bind, run_load, h0, Result.andThen, Addr.add_mk, hp]
    rw [ih]
    congr 1
    apply ByteArray.ext
    simp [ByteArray.push]

theorem unsafeString_p0 (pt it ty : TypeId) (k : IntKind) (n : Int) : Builtin.unsafeString_ #[pt, it] ty #[.pointer none, .int k n] =
    (do
      let n ← asInt (.int k n)
      if n < 0 then runtimePanic (.error "unsafe.String: len out of range")
      if n > IntKind.i64.max then unsupported (.unsafePointer "String: a length above the largest int")
      if n = 0 then pure (.string .empty)
      else runtimePanic (.error "unsafe.String: ptr is nil and len is not zero")) := rfl
theorem unsafeString_p (pt it ty : TypeId) (a : Addr) (k : IntKind) (n : Int) : Builtin.unsafeString_ #[pt, it] ty #[.pointer (some a), .int k n] =
    (do
      let n ← asInt (.int k n)
      if n < 0 then runtimePanic (.error "unsafe.String: len out of range")
      if n > IntKind.i64.max then unsupported (.unsafePointer "String: a length above the largest int")
      if n = 0 then pure (.string .empty)
      else if ← variablesAt a (← elemOf pt) n.toNat then do
        let s ← loadBytes a .empty n.toNat
        freeze a n.toNat
        pure (.string s)
      else unsupported (.unsafePointer "String: not so many bytes at ptr")) := rfl

theorem sim_usStr (r : HRel φ h w) {pt it el ty : TypeId} {p k : V} {p' k' : Value} {n : Nat} (ht : P.underlying pt = some (.pointer el)) (hsz : szOf P el = some 1)
    (hp : VRel φ p p') (hk : VRel φ k k') (hn : natV k = some n) : ResSim P φ h w ((vv (Builtin.unsafeString_ #[pt, it] ty #[p', k'])).run P w) (usStrV h.rd el n p) := by
  obtain ⟨kk, rfl⟩ := natV_spec hn hk
  have hmax : IntKind.i64.max = 9223372036854775807 := rfl
  cases hp with
  | p0 =>
    refine bif_res fun h0 => ?_
    obtain rfl : n = 0 := Nat.eq_of_beq_eq_true h0
    exact ok_sim r (v' := .string .empty) (.s rfl) (by rw [unsafeString_p0]; simp [asInt, asIntOf, hmax])
  | p hpr =>
    rename_i a a'
    show ResSim P φ h w _ (bif Nat.beq n 0 then .ok (.s []) .no else bif Nat.ble n most47 then usStr el a n (h.rd a.b) else .fail)
    rw [beq_nat]
    by_cases h0 : n = 0
    · subst h0
      exact ok_sim r (v' := .string .empty) (.s rfl) (by rw [unsafeString_p]; simp [asInt, asIntOf, hmax])
    · simp only [h0, decide_false, cond_false]
      refine bif_res fun hle => ?_
      have hn47 : n ≤ most47 := by rw [ble_nat] at hle; simpa using hle
      have h3 : most47 = 140737488355328 := rfl
      obtain ⟨ph, hph, rfl⟩ := hpr
      unfold usStr
      split
      · rename_i cs el' fz st ro gz hblk
        refine bif_res fun hc => ofO_res fun l hl => ofO_res fun s hs => ?_
        simp only [Bool.and_eq_true, Bool.not_eq_true', beq_nat, decide_eq_true_eq] at hc
        obtain ⟨hro, hel⟩ := hc
        subst hro
        subst hel
        obtain ⟨c, fr, hw, hcs, hso, hf, hst⟩ := r.cells hph hblk
        obtain ⟨q1, q2, q3⟩ := cut_spec hl
        have hcap : ph.sh + cs.length ≤ c.size := by
          revert hso
          cases ph.gr with
          | none => simp only [szOk]; omega
          | some g => obtain ⟨sz, m⟩ := g; simp only [szOk]; omega
        have hcut : ∀ j v, l[j]? = some v → ∃ v', c[ph.sh + a.o + j]? = some v' ∧ VRel φ v v' := fun j v hj => by
          have hjn : j < n := by rw [← q1]; exact (List.getElem?_eq_some_iff.1 hj).1
          rw [q3 j hjn] at hj
          obtain ⟨v', e1, e2⟩ := hcs _ _ hj
          exact ⟨v', by rw [← e1, Nat.add_assoc], e2⟩
        have hrel : VsRel φ l ((c.toList.drop (ph.sh + a.o)).take n) := by
          refine VsRel.of_get ?_ fun j v hj => ?_
          · rw [q1, List.length_take, List.length_drop, Array.length_toList]; omega
          · have hjn : j < n := by rw [← q1]; exact (List.getElem?_eq_some_iff.1 hj).1
            obtain ⟨v', e1, e2⟩ := hcut j v hj
            refine ⟨v', ?_, e2⟩
            rw [List.getElem?_take, if_pos hjn, List.getElem?_drop, Array.getElem?_toList]; exact e1
        obtain ⟨ns, hns, rfl⟩ := bytesOf_rel hrel hs
        have hnl : ns.length = n := by
          have h1 := hrel.length
          rw [hns, q1] at h1
          simpa using h1.symm
        have hload := run_loadBytesI (P := P) (w := w) ns ph.blk (ph.sh + a.o) .empty (fun j m hj => by
          rw [cell_at hw]
          have h1 : ((c.toList.drop (ph.sh + a.o)).take n)[j]? = some (.int .u8 m) := by rw [hns]; simp [hj]
          have hjn : j < n := by rw [← hnl]; exact (List.getElem?_eq_some_iff.1 hj).1
          rw [List.getElem?_take, if_pos hjn, List.getElem?_drop, Array.getElem?_toList] at h1
          exact h1)
        rw [hnl] at hload
        have hsh : w.shape? ph.blk = some (el, c.size) := by
          show (match w.heap[ph.blk]? with | some (.cells c elem _) => some (elem, c.size) | _ => none) = _
          rw [hw]
        have hce : P.cellsOf el = 1 := szOf_cells hsz
        have hlies := liesAt_row (P := P) hce c.size (ph.sh + a.o) n (by omega)
        have hvar : (variablesAt ⟨ph.blk, ph.sh + a.o, none⟩ el n).run P w = .ok true w := by
          simp only [variablesAt, Sem.run_bind, run_program, Result.andThen_ok, run_shape, hsh, Sem.run_pure, hce, Nat.div_one, hlies]
        let fr' : Nat × Nat := if fr.1 == fr.2 then (ph.sh + a.o, ph.sh + a.o + n) else (min fr.1 (ph.sh + a.o), max fr.2 (ph.sh + a.o + n))
        have hfz : ∀ i, (w.freeze ⟨ph.blk, ph.sh + a.o, none⟩ n).heap[i]? = (World.lay w ph.blk (.cells c el fr')).heap[i]? := fun i => by
          simp only [World.freeze, if_neg h0, World.lay]
          rw [Array.getElem?_modify, Array.getElem?_setIfInBounds]
          by_cases hi : ph.blk = i
          · subst hi
            have hlt : ph.blk < w.heap.size := (Array.getElem?_eq_some_iff.1 hw).1
            rw [if_pos rfl, if_pos rfl, if_pos hlt, hw]
            obtain ⟨lo, hi⟩ := fr
            rfl
          · rw [if_neg hi, if_neg hi]
        refine ⟨.value (.string ⟨ByteArray.empty.data ++ (ns.map fun n => UInt8.ofNat n.toNat).toArray⟩), _, w.freeze ⟨ph.blk, ph.sh + a.o, none⟩ n, ?_, .val _, .s (by simp), ?_⟩
        · have hi1 : ¬ ((n : Int) < 0) := by omega
          have hi2 : ¬ ((n : Int) > 9223372036854775807) := by omega
          have hi3 : ¬ ((n : Int) = 0) := by omega
          rw [unsafeString_p]
          simp [vv, asInt, asIntOf, hmax, hi1, hi2, h0, elemOf, run_underlying_some ht, hvar, hload]
        · refine Ext.put r hph hblk rfl (by rw [hfz]; exact lay_get hw) ?_ (fun i hi => by rw [hfz]; exact lay_ne (Ne.symm hi)) ?_ ?_ ?_ ?_
          · refine .cells hcs hso ?_ (fun z => by cases z)
            unfold fzStr
            cases st with
            | true => exact trivial
            | false =>
              simp only [cond_false]
              have hfe := hst rfl
              split
              · rename_i k
                cases hk0 : Nat.beq k 0 with
                | false => exact trivial
                | true =>
                  simp only [cond_true]
                  intro off h1 h2
                  have : fr' = (ph.sh + a.o, ph.sh + a.o + n) := by simp [fr', hfe]
                  rw [this]
                  simp only
                  omega
              · exact trivial
          · rw [World.freeze, if_neg h0]; simp
          · rw [World.freeze, if_neg h0]
          · rw [World.freeze, if_neg h0]
          · rw [World.freeze, if_neg h0]
      · exact trivial
  | _ => exact trivial

end
end Go.AM

/- What each operation does, abstractly and in the model: calls. -/
namespace Go.AM

section
variable {P : Program} {φ : Phi} {h : Hp} {w : World}

theorem findT_mem {t : TypeId} {x : FuncId × Option Nat} : ∀ {l : List (TypeId × FuncId × Option Nat)}, findT t l = some x → (t, x) ∈ l
  | [], e => by simp [findT] at e
  | (u, f) :: l, e => by
    simp only [findT, beq_nat] at e
    by_cases hu : u = t
    · simp [hu] at e; subst e; subst hu; exact List.mem_cons_self ..
    · simp [hu] at e; exact List.mem_cons_of_mem _ (findT_mem e)

/-- What a row of a method's table says. -/
theorem table_spec {name : String} {t : TypeId} {f : FuncId} {q : Option Nat} (e : (t, f, q) ∈ table P name) :
    ∃ i m, P.info? t = some i ∧ i.methods.find? (·.name == name) = some m ∧ m.path = #[] ∧
      ((q = none ∧ ((m.func = some (f, true) ∧ ∃ e, P.underlying t = some (.pointer e)) ∨ (m.func = some (f, false) ∧ ∃ d, P.underlying t = some d ∧ ∀ e, d ≠ .pointer e))) ∨
        (∃ n e, q = some n ∧ m.func = some (f, false) ∧ P.underlying t = some (.pointer e) ∧ isAggB P e = true ∧ szOf P e = some n)) := by
  unfold table at e
  rw [List.mem_filterMap] at e
  obtain ⟨u, _, hu⟩ := e
  split at hu
  · cases hu
  · rename_i i hi
    split at hu
    · cases hu
    · rename_i m hm
      split at hu
      · cases hu
      · rename_i hpe
        have hp : m.path = #[] := by simpa using hpe
        split at hu
        · rename_i g e hf hun
          simp at hu; obtain ⟨rfl, rfl, rfl⟩ := hu
          exact ⟨i, m, hi, hm, hp, .inl ⟨rfl, .inl ⟨hf, e, hun⟩⟩⟩
        · rename_i g e hf hun
          split at hu
          · rename_i hag
            split at hu
            · rename_i n hn
              simp at hu; obtain ⟨rfl, rfl, rfl⟩ := hu
              exact ⟨i, m, hi, hm, hp, .inr ⟨n, e, rfl, hf, hun, hag, hn⟩⟩
            · cases hu
          · cases hu
        · rename_i g d hne hf hun
          simp at hu; obtain ⟨rfl, rfl, rfl⟩ := hu
          exact ⟨i, m, hi, hm, hp, .inl ⟨rfl, .inr ⟨hf, d, hun, fun e hd => hne e hd⟩⟩⟩
        · cases hu

theorem call_sim {s : Sem Next} {f : FuncId} {args : List V} {args' : List Value} {a : Array Value} (ha : VsRel φ args args') (haa : a.toList = args') (hs : s.run P w = (callFunc f a).run P w) :
    ResSim P φ h w (s.run P w) (.call f args) := ⟨a, hs, by rw [haa]; exact ha⟩

theorem sim_callV {f : V} {f' : Value} {args : List V} {args' : Array Value} (hf : VRel φ f f') (ha : VsRel φ args args'.toList) :
    ResSim P φ h w ((do let d ← Deferred.ofValue f' args'; invoke d.target d.args : Sem Next).run P w) (callV f args) := by
  cases hf with
  | fn fn hx hy =>
    rename_i x y x' y'
    cases fn with
    | func f =>
      refine call_sim (args' := (x'.toList ++ args'.toList) ++ y'.toList) (a := (x' ++ args') ++ y') ((hx.append ha).append hy) (by simp) ?_
      simp [Deferred.ofValue, invoke]
    | _ => exact trivial
  | _ => exact trivial

theorem sim_dfr {f : V} {f' : Value} {args : List V} {args' : Array Value} (hf : VRel φ f f') (ha : VsRel φ args args'.toList) :
    ResSim P φ h w ((do pure (.defer (← Deferred.ofValue f' args')) : Sem Next).run P w) (aDfr f args) := by
  cases hf with
  | fn fn hx hy => exact ⟨_, args', _, by simp [Deferred.ofValue]; rfl, .fn fn hx hy, ha, by simp [Deferred.ofValue]⟩
  | _ => exact trivial

theorem method_run {name : String} {t : TypeId} {v' : Value} {i : TypeInfo} {m : Method} (hi : P.info? t = some i) (hm : i.methods.find? (·.name == name) = some m) (hp : m.path = #[]) {f : FuncId} {b : Bool} (hf : m.func = some (f, b)) (k : Nat) :
    (method (k + 1) t v' name).run P w = ((receiverAt t (.val v') b (some ((name.splitOn ".").getLastD name))).run P w).andThen fun x w' => .ok (f, x) w' := by
  unfold method
  simp [run_typeInfo_some hi, hm, hp, follow, hf]

theorem isAggB_run {e : TypeId} (ha : isAggB P e = true) (w : World) : (isAgg e).run P w = .ok true w := by
  unfold isAggB at ha
  split at ha
  · rename_i hu; simp [isAgg, run_underlying_some hu]
  · rename_i hu; simp [isAgg, run_underlying_some hu]
  · cases ha

theorem sim_inv (r : HRel φ h w) {x : V} {x' : Value} {name : String} {args : List V} {args' : Array Value} (hx : VRel φ x x') (ha : VsRel φ args args'.toList) :
    ResSim P φ h w ((callMethod x' name args').run P w) (aInv h.rd (table P name) args x) := by
  cases hx with
  | ifc t hv =>
    rename_i v v'
    show ResSim P φ h w _ (invV h.rd v args (findT t (table P name)))
    have hk : P.types.size + Made.depth = (P.types.size + 99) + 1 := rfl
    unfold invV
    split
    · rename_i f hf
      obtain ⟨i, m, h1, h2, h3, h4⟩ := table_spec (findT_mem hf)
      rcases h4 with ⟨_, h4⟩ | ⟨n, e, hq, _⟩
      · have hrec : ∃ b, m.func = some (f, b) ∧ (receiverAt t (.val v') b (some ((name.splitOn ".").getLastD name))).run P w = .ok v' w := by
          rcases h4 with ⟨hf, e, hu⟩ | ⟨hf, d, hu, hd⟩
          · exact ⟨true, hf, by simp [receiverAt, run_underlying_some hu, Place.get]⟩
          · refine ⟨false, hf, ?_⟩
            cases d <;> first | exact absurd rfl (hd _) | simp [receiverAt, run_underlying_some hu, Place.get]
        obtain ⟨b, hb, hr⟩ := hrec
        refine call_sim (args' := v' :: args'.toList) (a := #[v'] ++ args') (.cons hv ha) (by simp) ?_
        simp only [callMethod, Sem.run_bind, run_program, Result.andThen_ok, hk, method_run h1 h2 h3 hb, hr]
      · cases hq
    · rename_i f n hf
      obtain ⟨i, m, h1, h2, h3, h4⟩ := table_spec (findT_mem hf)
      rcases h4 with ⟨hq, _⟩ | ⟨n', e, hq, hfn, hu, hag, hsz⟩
      · cases hq
      · cases hq
        split
        · rename_i a
          cases hv with
          | p hpr =>
            rename_i a'
            refine ofO_res fun cs hcs => ?_
            obtain ⟨c', g1, g2⟩ := loadVar_agg (P := P) r (isAggB_run hag w) (szOf_run hsz w) hpr hcs
            refine call_sim (args' := .agg c' :: args'.toList) (a := #[.agg c'] ++ args') (.cons (.agg g1) ha) (by simp) ?_
            have hr : (receiverAt t (.val (.pointer (some a'))) false (some ((name.splitOn ".").getLastD name))).run P w = .ok (.agg c') w := by
              simp only [receiverAt, Sem.run_bind, run_underlying_some hu, Result.andThen_ok, Place.get, Sem.run_pure]
              have hw : (Builtin.ssaWrapNilChk_ #[t] t #[.pointer (some a'), strVal "", strVal ((name.splitOn ".").getLastD name)]).run P w = .ok (.pointer (some a')) w := rfl
              rw [hw]
              simp [asAddr, g2]
            simp only [callMethod, Sem.run_bind, run_program, Result.andThen_ok, hk, method_run h1 h2 h3 hfn, hr]
        · exact trivial
    · exact trivial
  | _ => exact trivial

end
end Go.AM

/- Each operation: what the compiled one does and what the model's does. -/
namespace Go.AM

section
variable {P : Program} {φ : Phi} {h : Hp} {w : World} {env : Ev} {ρ : Operand → Value}

theorem elemT_spec {t e : TypeId} (he : elemT P t = some e) : P.underlying t = some (.slice e) := by
  unfold elemT at he
  split at he
  · rename_i e' hu; cases he; exact hu
  · cases he

theorem opds_rel : ∀ {l : List Operand} {L : List Opd}, cOpds l = some L → (∀ x ∈ l, ∀ X, cOpd x = some X → VRel φ (val env X) (ρ x)) → VsRel φ (vals env L) (l.map ρ)
  | [], L, e, _ => by simp [cOpds] at e; subst e; exact .nil
  | x :: l, L, e, hv => by
    unfold cOpds at e
    split at e
    · rename_i X L' hX hL
      simp at e; subst e
      exact .cons (hv x (List.mem_cons_self ..) X hX) (opds_rel hL fun y hy => hv y (List.mem_cons_of_mem _ hy))
    · cases e

theorem opt_rel {x : Option Operand} {X : Option Opd} (e : cOpt x = some X) (hv : ∀ y, x = some y → ∀ Y, cOpd y = some Y → VRel φ (val env Y) (ρ y)) : ORel φ env X (x.map ρ) := by
  cases x with
  | none => simp [cOpt] at e; subst e; exact trivial
  | some y =>
    simp only [cOpt] at e
    cases hY : cOpd y with
    | none => rw [hY] at e; cases e
    | some Y => rw [hY] at e; cases e; exact hv y rfl Y hY

theorem arg1_res {args : List V} {args' : Array Value} {f : V → Res} {R : Result Next} (ha : VsRel φ args args'.toList) (hf : ∀ x x', args' = #[x'] → VRel φ x x' → ResSim P φ h w R (f x)) : ResSim P φ h w R (arg1 args f) := by
  unfold arg1
  split
  · obtain ⟨x', h1, h2⟩ := ha.one
    exact hf _ x' (Array.toList_inj.1 (by simpa using h1)) h2
  · exact trivial
theorem arg2_res {args : List V} {args' : Array Value} {f : V → V → Res} {R : Result Next} (ha : VsRel φ args args'.toList)
    (hf : ∀ x y x' y', args' = #[x', y'] → VRel φ x x' → VRel φ y y' → ResSim P φ h w R (f x y)) : ResSim P φ h w R (arg2 args f) := by
  unfold arg2
  split
  · obtain ⟨x', y', h1, h2, h3⟩ := ha.two
    exact hf _ _ x' y' (Array.toList_inj.1 (by simpa using h1)) h2 h3
  · exact trivial

theorem sim_builtin (r : HRel φ h w) {b : Builtin} {ts : Array TypeId} {ty : TypeId} {consts : Array Bool} {B : Bt} (hB : cBt P b ts.toList = some B) {args : List V} {args' : Array Value} (ha : VsRel φ args args'.toList) :
    ResSim P φ h w ((builtin b ts ty consts args').run P w) (builtinV h.rd B args) := by
  generalize hl : ts.toList = l at hB
  have hts : ts = l.toArray := Array.toList_inj.1 (by simpa using hl)
  subst hts
  clear hl
  unfold cBt at hB
  split at hB
  · rename_i t u
    split at hB
    · rename_i e he
      split at hB
      · rename_i i z hi hz
        split at hB
        · cases hB
        · rename_i hc
          simp only [Bool.or_eq_true, not_or, beq_nat, decide_eq_true_eq, Bool.not_eq_true', decide_eq_false_iff_not, Decidable.not_not] at hc
          have main : ((∃ e, P.underlying u = some (.slice e)) ∨ P.underlying u = some .string) → ResSim P φ h w ((builtin .append #[t, u] ty consts args').run P w) (builtinV h.rd (.append i.size i.bytes e) args) := fun hu =>
            arg2_res ha fun x y x' y' hx h1 h2 => by
              subst hx
              exact sim_append r (elemT_spec he) hu hi hz hc.2.2 hc.1 hc.2.1 h1 h2
          split at hB
          · rename_i e' hu
            cases hB
            exact main (.inl ⟨_, hu⟩)
          · rename_i hu
            split at hB
            · cases hB; exact main (.inr hu)
            · cases hB
          · cases hB
      · cases hB
    · cases hB
  · rename_i t
    split at hB
    · rename_i e hu
      cases hB
      exact arg1_res ha fun x x' hx h1 => by subst hx; exact sim_cap r ⟨e, hu⟩ h1
    · cases hB
  · rename_i t
    split at hB
    · rename_i e hu
      split at hB
      · rename_i z hz
        split at hB
        · cases hB
        · rename_i h0
          cases hB
          rw [beq_nat] at h0
          exact arg1_res ha fun x x' hx h1 => by subst hx; exact sim_clear r hu hz (by simpa using h0) h1
      · cases hB
    · rename_i k e hu
      cases hB
      exact arg1_res ha fun x x' hx h1 => by subst hx; exact sim_clearM r hu h1
    · cases hB
  · rename_i t l
    split at hB
    · rename_i e he
      split at hB
      · rename_i n hn
        cases hB
        exact arg2_res ha fun x y x' y' hx h1 h2 => by subst hx; exact sim_copy r (elemT_spec he) rfl hn h1 h2
      · cases hB
    · cases hB
  · rename_i t l
    split at hB
    · rename_i k e hu
      split at hB
      · rename_i kk hkk
        cases hB
        exact arg2_res ha fun x y x' y' hx h1 h2 => by subst hx; exact sim_delete r hu hkk rfl h1 h2
      · cases hB
    · cases hB
  · rename_i t
    split at hB
    · rename_i n e hu
      cases hB
      exact arg1_res ha fun x x' hx h1 => by subst hx; exact sim_lenN r (.inl ⟨e, hu⟩)
    · rename_i a hu
      split at hB
      · rename_i n e hu2
        cases hB
        exact arg1_res ha fun x x' hx h1 => by subst hx; exact sim_lenN r (.inr ⟨a, e, hu, hu2⟩)
      · cases hB
    · rename_i hu
      cases hB
      exact arg1_res ha fun x x' hx h1 => by subst hx; exact sim_lenS r hu h1
    · rename_i e hu
      cases hB
      exact arg1_res ha fun x x' hx h1 => by subst hx; exact sim_lenV r hu h1
    · rename_i k e hu
      cases hB
      exact arg1_res ha fun x x' hx h1 => by subst hx; exact sim_lenM r hu h1
    · cases hB
  · cases hB
    have := sim_max (P := P) (ts := l.toArray) (ty := ty) r ha
    exact this
  · cases hB
    have := sim_min (P := P) (ts := l.toArray) (ty := ty) r ha
    exact this
  · rename_i pt it
    split at hB
    · rename_i e hu
      split at hB
      · rename_i n hn
        split at hB
        · rename_i h1
          cases hB
          obtain rfl : n = 1 := Nat.eq_of_beq_eq_true h1
          exact arg2_res ha fun x y x' y' hx h1 h2 => by subst hx; exact ofO_res fun n hnn => sim_usStr r hu hn h1 h2 hnn
        · cases hB
      · cases hB
    · cases hB
  · cases hB
    exact arg1_res ha fun x x' hx h1 => by subst hx; exact sim_usSl r h1
  · cases hB

theorem cOp_sim {ptrs : List TypeId} (hptrs : PtrsOk P ptrs) (r : HRel φ h w) {o : Oper} {X : O} (hX : cOp P ptrs o = some X) (hv : OR φ env ρ o) :
    ResSim P φ h w ((execOp ρ o).run P w) (aop h.rd env X) := by
  cases o with
  | mk dst op ty pos after guard =>
  unfold OR at hv
  simp only at hv
  have hv' : ∀ x, x ∈ op.operands → ∀ X, cOpd x = some X → VRel φ (val env X) (ρ x) := hv
  cases op with
  | move x =>
    simp only [cOp] at hX
    split at hX
    · rename_i x' hx
      cases hX
      exact ⟨_, _, w, rfl, .val _, hv' x (by simp [Op.operands]) _ hx, Ext.refl r⟩
    · cases hX
  | assign x =>
    simp only [cOp] at hX
    split at hX
    · rename_i x' hx
      cases hX
      exact ⟨_, _, w, rfl, .val _, hv' x (by simp [Op.operands]) _ hx, Ext.refl r⟩
    · cases hX
  | pick c a b =>
    simp only [cOp] at hX
    split at hX
    · rename_i c' a' b' hc ha hb
      cases hX
      exact sim_pick r (hv' c (by simp [Op.operands]) _ hc) (hv' a (by simp [Op.operands]) _ ha) (hv' b (by simp [Op.operands]) _ hb)
    · cases hX
  | alloc t =>
    simp only [cOp] at hX
    split at hX
    · rename_i z hz
      split at hX
      · cases hX
        obtain ⟨zv, h1, h2⟩ := zeroOf_run hz φ w
        exact sim_new h1 h2.cells
      · cases hX
    · cases hX
  | box t x =>
    simp only [cOp] at hX
    split at hX
    · rename_i x' hx
      cases hX
      exact sim_box (hv' x (by simp [Op.operands]) _ hx)
    · cases hX
  | build t ps =>
    have hps : ∀ x, x ∈ ps.toList.map (·.2) → ∀ X, cOpd x = some X → VRel φ (val env X) (ρ x) := fun x hx => hv' x (by simpa [Op.operands] using hx)
    simp only [cOp] at hX
    split at hX
    · rename_i z fs hz hu
      split at hX
      · rename_i pl hpl
        split at hX
        · rename_i l hl
          cases hX
          exact sim_build r hz (.inl ⟨fs, hu, hpl, hl⟩) hps
        · cases hX
      · cases hX
    · rename_i z n e hz hu
      split at hX
      · rename_i s hs
        split at hX
        · rename_i l hl
          cases hX
          exact sim_build (pl := []) r hz (.inr ⟨_, e, s, hu, hs, hl⟩) hps
        · cases hX
      · cases hX
    · cases hX
  | buildSlice t n ps =>
    have hps : ∀ x, x ∈ ps.toList.map (·.2) → ∀ X, cOpd x = some X → VRel φ (val env X) (ρ x) := fun x hx => hv' x (by simpa [Op.operands] using hx)
    simp only [cOp] at hX
    split at hX
    · rename_i e he
      split at hX
      · rename_i s z hs hz
        split at hX
        · cases hX
        · rename_i hc
          simp only [Bool.or_eq_true, not_or, beq_nat, blt_nat, decide_eq_true_eq, Bool.not_eq_true', decide_eq_false_iff_not, Decidable.not_not] at hc
          split at hX
          · rename_i l hl
            cases hX
            exact sim_buildS (elemT_spec he) hs hc.1.1.1 (by omega) hz hc.1.2 hl hps
          · cases hX
      · cases hX
    · cases hX
  | load t a =>
    simp only [cOp] at hX
    split at hX
    · rename_i n a' hn ha
      cases hX
      exact sim_load r hn (hv' a (by simp [Op.operands]) _ ha)
    · cases hX
  | store t a x =>
    simp only [cOp] at hX
    split at hX
    · rename_i n a' x' hn ha hx
      cases hX
      exact sim_store r hn (hv' a (by simp [Op.operands]) _ ha) (hv' x (by simp [Op.operands]) _ hx)
    · cases hX
  | ready g => cases hX
  | waits g => cases hX
  | nilCheck x =>
    simp only [cOp] at hX
    split at hX
    · rename_i x' hx
      cases hX
      exact sim_nilc r (hv' x (by simp [Op.operands]) _ hx)
    · cases hX
  | binOp op t x y m =>
    simp only [cOp] at hX
    split at hX
    · rename_i a b ha hb
      have hxa := hv' x (by simp [Op.operands]) _ ha
      have hyb := hv' y (by simp [Op.operands]) _ hb
      split at hX
      · cases hX
        exact sim_bin r (.inr (.inl ⟨rfl, rfl⟩)) hxa hyb
      · cases hX
        exact sim_bin r (.inr (.inr ⟨rfl, rfl⟩)) hxa hyb
      · cases hg : (P.eqGuardType P.depth t && isAggB P t) with
        | true => rw [hg] at hX; cases hX
        | false =>
          rw [hg] at hX
          simp only [cond_false] at hX
          split at hX
          · rename_i k hk
            cases hX
            refine sim_bin r (.inl ⟨8, ptrs, hptrs, hk, by omega, fun e => by simpa using e, fun hs => ?_⟩) hxa hyb
            rcases hs with ⟨fs, hu⟩ | ⟨n, e, hu⟩ <;> simpa [hu, isAggB] using hg
          · cases hX
    · cases hX
  | unOp op t x =>
    simp only [cOp] at hX
    split at hX
    · rename_i x' hx
      cases hX
      exact sim_un r (hv' x (by simp [Op.operands]) _ hx)
    · cases hX
  | convert s d x =>
    simp only [cOp] at hX
    split at hX
    · rename_i x' hx
      have hxr := hv' x (by simp [Op.operands]) _ hx
      split at hX
      · rename_i hs hd
        cases hX
        exact sim_convI r ⟨_, hs⟩ hd hxr
      · rename_i hs hd
        cases hX
        exact sim_convR r ⟨_, hs⟩ hd hxr
      · rename_i hs hd
        cases hX
        exact sim_convS r hs hd hxr
      · rename_i e hs hd
        split at hX
        · rename_i he
          cases hX
          exact sim_convB hs hd he hxr
        · cases hX
      · rename_i e hs hd
        split at hX
        · rename_i he
          cases hX
          exact sim_convBS r hs he hd hxr
        · cases hX
      · cases hX
    · cases hX
  | sliceToArrayPointer t x => cases hX
  | makeInterface t x =>
    simp only [cOp] at hX
    split at hX
    · cases hX
    · rename_i d x' hne hu hx
      cases hX
      exact sim_mkI r ⟨d, hu, fun ms e => hne ms e⟩ (hv' x (by simp [Op.operands]) _ hx)
    · cases hX
  | makeFunc f a b =>
    simp only [cOp] at hX
    split at hX
    · rename_i a' b' ha hb
      cases hX
      have h1 := opds_rel (φ := φ) (ρ := ρ) (env := env) ha fun x hx => hv' x (by simp [Op.operands]; exact .inl (by simpa using hx))
      have h2 := opds_rel (φ := φ) (ρ := ρ) (env := env) hb fun x hx => hv' x (by simp [Op.operands]; exact .inr (by simpa using hx))
      exact ok_sim r (s := Instr.makeFunc f (a.map ρ) (b.map ρ)) (.fn f (by simpa using h1) (by simpa using h2)) rfl
    · cases hX
  | makeMap t res =>
    cases res with
    | none =>
      simp only [cOp] at hX
      cases hX
      exact sim_mkM (t := t) (res := none) (.inl rfl)
    | some x =>
      cases x with
      | const v =>
        cases v with
        | int j n =>
          simp only [cOp] at hX
          split at hX
          · rename_i k e hu
            cases hX
            have hr : ρ (.const (.int j n)) = .int j n := (hv' (.const (.int j n)) (by simp [Op.operands]) (.c (.i j n)) rfl).int
            have := sim_mkM (P := P) (φ := φ) (h := h) (w := w) (t := t) (res := some (.int j n)) (.inr ⟨⟨k, e, hu⟩, j, n, rfl⟩)
            show ResSim P φ h w ((vv (Instr.makeMap t (some (ρ (.const (.int j n)))))).run P w) _
            rw [hr]; exact this
          · cases hX
        | _ => cases hX
      | _ => cases hX
  | makeChan t s => cases hX
  | makeSlice t l c =>
    simp only [cOp] at hX
    split at hX
    · rename_i e he
      split at hX
      · rename_i i z l' c' hi hz hl hc
        split at hX
        · cases hX
        · rename_i hcc
          simp only [Bool.or_eq_true, not_or, beq_nat, decide_eq_true_eq, Bool.not_eq_true', decide_eq_false_iff_not, Decidable.not_not] at hcc
          cases hX
          exact sim_mkS (elemT_spec he) hi hz hcc.1.2 hcc.1.1 (hv' l (by simp [Op.operands]) _ hl) (hv' c (by simp [Op.operands]) _ hc)
      · cases hX
    · cases hX
  | slice t x lo hi mx =>
    simp only [cOp] at hX
    split at hX
    · rename_i x' lo' hi' mx' hx hlo hhi hmx
      have h0 := hv' x (by simp [Op.operands]) _ hx
      have h1 := opt_rel (φ := φ) (ρ := ρ) (env := env) hlo fun y hy => hv' y (by simp [Op.operands, hy])
      have h2 := opt_rel (φ := φ) (ρ := ρ) (env := env) hhi fun y hy => hv' y (by simp [Op.operands, hy])
      have h3 := opt_rel (φ := φ) (ρ := ρ) (env := env) hmx fun y hy => hv' y (by simp [Op.operands, hy])
      split at hX
      · rename_i hu
        split at hX
        · rename_i hm
          cases hX
          cases mx with
          | none => exact sim_slS r hu h1 h2 h0
          | some y => cases h3
        · cases hX
      · rename_i e hu
        split at hX
        · rename_i s hs
          cases hX
          exact sim_slV r hu hs h1 h2 h3 h0
        · cases hX
      · rename_i n e hu
        split at hX
        · rename_i s hs
          cases hX
          exact sim_slA r hu hs h1 h2 h3 h0
        · cases hX
      · cases hX
    · cases hX
  | fieldAddr t x f =>
    simp only [cOp] at hX
    split at hX
    · rename_i fs x' hu hx
      split at hX
      · rename_i fl hf
        split at hX
        · rename_i n hn
          cases hX
          exact sim_fa r hu hf hn (hv' x (by simp [Op.operands]) _ hx)
        · cases hX
      · cases hX
    · cases hX
  | field t x f =>
    simp only [cOp] at hX
    split at hX
    · rename_i fs x' hu hx
      split at hX
      · rename_i fl hf
        split at hX
        · rename_i n hn
          cases hX
          exact sim_fld r hu hf hn (hv' x (by simp [Op.operands]) _ hx)
        · cases hX
      · cases hX
    · cases hX
  | indexAddr t x i =>
    simp only [cOp] at hX
    split at hX
    · rename_i x' i' hx hi
      have h1 := hv' x (by simp [Op.operands]) _ hx
      have h2 := hv' i (by simp [Op.operands]) _ hi
      split at hX
      · rename_i n e hu
        split at hX
        · rename_i s hs
          cases hX
          exact sim_iaA r hu hs h1 h2
        · cases hX
      · rename_i e hu
        split at hX
        · rename_i s hs
          cases hX
          exact sim_iaV r hu hs h1 h2
        · cases hX
      · cases hX
    · cases hX
  | index t x i =>
    simp only [cOp] at hX
    split at hX
    · rename_i x' i' hx hi
      have h1 := hv' x (by simp [Op.operands]) _ hx
      have h2 := hv' i (by simp [Op.operands]) _ hi
      split at hX
      · rename_i n e hu
        split at hX
        · rename_i s a hs ha
          cases hX
          exact sim_ixA r hu hs ha h1 h2
        · cases hX
      · rename_i hu
        cases hX
        exact sim_ixS r hu h1 h2
      · cases hX
    · cases hX
  | lookup t x i ok =>
    simp only [cOp] at hX
    split at hX
    · rename_i x' i' kt e hx hi hu
      split at hX
      · rename_i kk z hk hz
        cases hX
        exact sim_lkp r hu hk hz (hv' x (by simp [Op.operands]) _ hx) (hv' i (by simp [Op.operands]) _ hi)
      · cases hX
    · cases hX
  | mapUpdate t m k x =>
    simp only [cOp] at hX
    split at hX
    · rename_i kt e m' k' x' hu hm hk hx
      split at hX
      · rename_i kk hkk
        cases hX
        exact sim_mset r hu hkk (hv' m (by simp [Op.operands]) _ hm) (hv' k (by simp [Op.operands]) _ hk) (hv' x (by simp [Op.operands]) _ hx)
      · cases hX
    · cases hX
  | insert t m k x =>
    simp only [cOp] at hX
    split at hX
    · rename_i kt e m' k' x' hu hm hk hx
      split at hX
      · rename_i kk hkk
        cases hX
        exact sim_mset r hu hkk (hv' m (by simp [Op.operands]) _ hm) (hv' k (by simp [Op.operands]) _ hk) (hv' x (by simp [Op.operands]) _ hx)
      · cases hX
    · cases hX
  | mapEntry t m k =>
    simp only [cOp] at hX
    split at hX
    · rename_i m' k' kt e hm hk hu
      split at hX
      · rename_i kk z hkk hz
        cases hX
        exact sim_ment r hu hkk hz (hv' m (by simp [Op.operands]) _ hm) (hv' k (by simp [Op.operands]) _ hk)
      · cases hX
    · cases hX
  | entryStore t m s x =>
    simp only [cOp] at hX
    split at hX
    · rename_i m' s' x' hm hs hx
      cases hX
      exact sim_mest r (hv' m (by simp [Op.operands]) _ hm) (hv' s (by simp [Op.operands]) _ hs) (hv' x (by simp [Op.operands]) _ hx)
    · cases hX
  | range t x =>
    simp only [cOp] at hX
    split at hX
    · rename_i x' hx hu
      cases hX
      exact sim_rngS hu (hv' x (by simp [Op.operands]) _ hx)
    · rename_i x' k e hx hu
      cases hX
      exact sim_rngM r hu (hv' x (by simp [Op.operands]) _ hx)
    · cases hX
  | next x str =>
    simp only [cOp] at hX
    split at hX
    · rename_i x' hx
      cases str with
      | true => cases hX; exact sim_nxtS r (hv' x (by simp [Op.operands]) _ hx)
      | false => cases hX; exact sim_nxtM r (hv' x (by simp [Op.operands]) _ hx)
    · cases hX
  | entry x =>
    simp only [cOp] at hX
    split at hX
    · rename_i x' hx
      cases hX
      exact sim_ent r (hv' x (by simp [Op.operands]) _ hx)
    · cases hX
  | typeAssert x u t ok =>
    simp only [cOp] at hX
    split at hX
    · rename_i x' z want hx hz hu
      cases hX
      exact sim_tasI r hu hz (hv' x (by simp [Op.operands]) _ hx)
    · rename_i x' z d hne hx hz hu
      cases hX
      exact sim_tasC r hu (fun ms e => hne ms e) hz (hv' x (by simp [Op.operands]) _ hx)
    · cases hX
  | extract x n =>
    simp only [cOp] at hX
    split at hX
    · rename_i x' hx
      cases hX
      exact sim_ext r (hv' x (by simp [Op.operands]) _ hx)
    · cases hX
  | call c =>
    have hco : ∀ x, x ∈ c.operands → ∀ X, cOpd x = some X → VRel φ (val env X) (ρ x) := hv'
    simp only [cOp] at hX
    split at hX
    · rename_i f args hcal hargs
      split at hX
      · rename_i f' hf
        cases hX
        have ha := opds_rel (φ := φ) (ρ := ρ) (env := env) hargs fun x hx => hco x (by simp only [Call.operands, Array.mem_append]; exact .inr (by simpa using hx))
        have hfr := hco f (by simp [Call.operands, hcal]) _ hf
        have hs := sim_callV (P := P) (h := h) (w := w) hfr (args' := c.args.map ρ) (by simpa using ha)
        have he : execOp ρ { dst := dst, op := Op.call c, type := ty, pos := pos, after := after, guard := guard } = (do let d ← Deferred.ofValue (ρ f) (c.args.map ρ); invoke d.target d.args : Sem Next) := by
          show (do let d ← resolve ρ c ty; invoke d.target d.args : Sem Next) = _
          simp only [resolve, hcal]
        rw [he]
        exact hs
      · cases hX
    · rename_i rc name args hcal hargs
      split at hX
      · rename_i x' hx
        cases hX
        have ha := opds_rel (φ := φ) (ρ := ρ) (env := env) hargs fun x hx => hco x (by simp only [Call.operands, Array.mem_append]; exact .inr (by simpa using hx))
        have hxr := hco rc (by simp [Call.operands, hcal]) _ hx
        have hs := sim_inv (P := P) r (name := name) hxr (args' := c.args.map ρ) (by simpa using ha)
        have he : (execOp ρ { dst := dst, op := Op.call c, type := ty, pos := pos, after := after, guard := guard }).run P w = (callMethod (ρ rc) name (c.args.map ρ)).run P w := by
          show ((do let d ← resolve ρ c ty; invoke d.target d.args : Sem Next)).run P w = _
          have he0 : (#[ρ rc] ++ c.args.map ρ)[0]? = some (ρ rc) := by rw [Array.getElem?_append_left (by simp)]; rfl
          have he1 : (#[ρ rc] ++ c.args.map ρ).extract 1 (#[ρ rc] ++ c.args.map ρ).size = c.args.map ρ := by
            apply Array.toList_inj.1
            rw [Array.toList_extract, List.extract_eq_take_drop]
            simp
            rw [List.take_of_length_le (by simp)]
          have hres : resolve ρ c ty = pure { target := .fn (.method name) #[], args := #[ρ rc] ++ c.args.map ρ } := by simp only [resolve, hcal]
          rw [hres]
          show (invoke (.fn (.method name) #[]) (#[ρ rc] ++ c.args.map ρ)).run P w = _
          simp only [invoke, he0, he1]
        rw [he]
        exact hs
      · cases hX
    · rename_i b args hcal hargs
      split at hX
      · rename_i B hB
        cases hX
        have ha := opds_rel (φ := φ) (ρ := ρ) (env := env) hargs fun x hx => hco x (by simp only [Call.operands, Array.mem_append]; exact .inr (by simpa using hx))
        obtain ⟨consts, hres⟩ : ∃ consts, resolve ρ c ty = pure { target := .builtin b c.argTypes ty consts, args := c.args.map ρ } := ⟨_, by simp only [resolve, hcal]; rfl⟩
        have hs := sim_builtin (P := P) r (ty := ty) (consts := consts) hB (args' := c.args.map ρ) (by simpa using ha)
        have he : (execOp ρ { dst := dst, op := Op.call c, type := ty, pos := pos, after := after, guard := guard }).run P w = (builtin b c.argTypes ty consts (c.args.map ρ)).run P w := by
          show ((do let d ← resolve ρ c ty; invoke d.target d.args : Sem Next)).run P w = _
          rw [hres]
          rfl
        rw [he]
        exact hs
      · cases hX
    · cases hX
  | defer c =>
    have hco : ∀ x, x ∈ c.operands → ∀ X, cOpd x = some X → VRel φ (val env X) (ρ x) := hv'
    simp only [cOp] at hX
    split at hX
    · rename_i f args hcal hargs
      split at hX
      · rename_i f' hf
        cases hX
        have ha := opds_rel (φ := φ) (ρ := ρ) (env := env) hargs fun x hx => hco x (by simp only [Call.operands, Array.mem_append]; exact .inr (by simpa using hx))
        have hfr := hco f (by simp [Call.operands, hcal]) _ hf
        have hs := sim_dfr (P := P) (h := h) (w := w) hfr (args' := c.args.map ρ) (by simpa using ha)
        have he : execOp ρ { dst := dst, op := Op.defer c, type := ty, pos := pos, after := after, guard := guard } = (do pure (.defer (← Deferred.ofValue (ρ f) (c.args.map ρ))) : Sem Next) := by
          show (do pure (.defer (← resolve ρ c ty)) : Sem Next) = _
          simp only [resolve, hcal]
        rw [he]
        exact hs
      · cases hX
    · cases hX
  | go c => cases hX
  | panic x => cases hX
  | send ch x => cases hX
  | recv t ch ok => cases hX
  | select cs b => cases hX

end
end Go.AM

/- The abstract machine as a predicate transformer, and that the model's operations follow it. -/
namespace Go.AM

structure AS where
  env : Ev
  defs : Defs
  h : Hp

def putE (env : Ev) (dst : Option Nat) (v : V) : Ev := match dst with
  | some d => fun n => if n = d then v else env n
  | none => env

abbrev Hd := FuncId → List V → Hp → (V → Hp → Prop) → Prop

def AS.to (s : AS) (dst : Option Nat) (v : V) (h : Hp) : AS := ⟨putE s.env dst v, s.defs, h⟩

def awRes (ch : Hd) (dst : Option Nat) (K : AS → Prop) (s : AS) : Res → Prop
  | .fail => False
  | .ok v e => K (s.to dst v (s.h.eff e))
  | .mk g v blk => K (s.to dst (v s.h.next) (s.h.push g blk))
  | .rep v kill blk => K (s.to dst (v s.h.next) ((s.h.set kill none).push true blk))
  | .call f args => ch f args s.h fun v h => K (s.to dst v h)
  | .dfr f args => K ⟨putE s.env dst (.tup []), (f, args) :: s.defs, s.h⟩
  | .any l => ∀ x ∈ l, K (s.to dst x.1 (s.h.eff x.2))
def awOp (ch : Hd) (o : Op') (K : AS → Prop) (s : AS) : Prop :=
  if wants s.env o.grd = true then awRes ch o.dst K s (aop s.h.rd s.env o.op) else K (s.to o.dst (.tup []) s.h)
def awOps (ch : Hd) : List Op' → (AS → Prop) → AS → Prop
  | [], K, s => K s
  | o :: l, K, s => awOp ch o (awOps ch l K) s

/-! ### The relation -/

def EnvRel (φ : Phi) (env : Ev) (tmps : Array Value) : Prop := ∀ n, VRel φ (env n) (tmps.getD n undef)

def DefRel (P : Program) (φ : Phi) (x : V × List V) (d : Deferred) : Prop :=
  ∃ f' args', VRel φ x.1 f' ∧ VsRel φ x.2 (Array.toList args') ∧ ∀ w, (Deferred.ofValue f' args').run P w = .ok d w
inductive DefsRel (P : Program) (φ : Phi) : Defs → List Deferred → Prop
  | nil : DefsRel P φ [] []
  | cons {x : V × List V} {d : Deferred} {l : Defs} {l' : List Deferred} (h : DefRel P φ x d) (t : DefsRel P φ l l') : DefsRel P φ (x :: l) (d :: l')

theorem EnvRel.mono {φ ψ : Phi} (h : φ.le ψ) {env : Ev} {tmps : Array Value} (r : EnvRel φ env tmps) : EnvRel ψ env tmps := fun n => (r n).mono h
theorem DefsRel.mono {P : Program} {φ ψ : Phi} (h : φ.le ψ) : ∀ {l : Defs} {l' : List Deferred}, DefsRel P φ l l' → DefsRel P ψ l l'
  | _, _, .nil => .nil
  | _, _, .cons ⟨f, a, h1, h2, h3⟩ t => .cons ⟨f, a, h1.mono h, h2.mono h, h3⟩ (t.mono h)

/-- The abstract state stands to the model's, which has come from (φ0, h0, w0). -/
def Rl (P : Program) (φ0 : Phi) (h0 : Hp) (w0 : World) (N : Nat) (s : AS) (a : Act) (w : World) : Prop :=
  ∃ φ, Ext φ0 h0 w0 φ s.h w ∧ EnvRel φ s.env a.tmps ∧ DefsRel P φ s.defs a.defers ∧ a.tmps.size = N

theorem EnvRel.put {φ : Phi} {env : Ev} {a : Act} {N : Nat} {dst : Option Nat} {v : V} {v' : Value} (r : EnvRel φ env a.tmps) (hN : a.tmps.size = N) (hd : okDst N dst = true) (hv : VRel φ v v') :
    EnvRel φ (putE env dst v) (a.put dst v').tmps := by
  cases dst with
  | none => exact r
  | some d =>
    intro n
    have hd' : d < a.tmps.size := by rw [hN]; simpa [okDst, blt_nat] using hd
    simp only [putE, Act.put]
    by_cases hn : n = d
    · subst hn
      simp [hd', hv]
    · rw [if_neg hn]
      have : (a.tmps.setIfInBounds d v').getD n undef = a.tmps.getD n undef := by simp [Array.getElem?_setIfInBounds_ne (Ne.symm hn)]
      rw [this]; exact r n

theorem put_size {a : Act} {dst : Option Nat} {v : Value} : (a.put dst v).tmps.size = a.tmps.size := by cases dst <;> simp [Act.put]
theorem put_defers' {a : Act} {dst : Option Nat} {v : Value} : (a.put dst v).defers = a.defers := by cases dst <;> rfl

/-! ### Calls -/

def Does (P : Program) (R : Value → World → Prop) : Result Next → Prop
  | .ok (.value v) w => R v w
  | .ok (.enter f args) w => Calls P f args w fun
    | .returned v, w' => R v w'
    | _, _ => False
  | _ => False

/-- What a handler says of a call holds in the model. -/
structure SoundH (P : Program) (ch : Hd) : Prop where
  ok : ∀ f args h Q, ch f args h Q → ∀ φ w (args' : Array Value), HRel φ h w → VsRel φ args args'.toList →
  Does P (fun v' w' => ∃ φ' v h', Q v h' ∧ VRel φ' v v' ∧ Ext φ h w φ' h' w') ((callFunc f args').run P w)

theorem Ext.rep {φ : Phi} {h : Hp} {w w' : World} (r : HRel φ h w) {kill : BId} {ph pk : Ph} {x y : Blk} {o : Obj} (hgk : ph.gr.isSome = true) (hx : BRel φ ph x (some o)) (hk : φ kill = some pk) (hy : h.rd kill = some y) (hyr : y.ro = false)
    (hw : (ph.blk = w.heap.size ∧ w'.heap = w.heap.push o) ∨ (ph.blk = pk.blk ∧ w'.heap = w.heap.setIfInBounds ph.blk o)) (ht : w'.tape = w.tape) (hos : w'.os = w.os) (hout : w'.output = w.output) :
    Ext φ h w (φ.add (.gr h.next) ph) ((h.set kill none).push true x) w' := by
  have hn : φ (.gr h.next) = none := r.next _ (gId_new true _)
  have hle : φ.le (φ.add (.gr h.next) ph) := Phi.add_le hn
  have hkn : kill ≠ .gr h.next := fun e => by rw [e, hn] at hk; cases hk
  have hrd : ∀ b, b ≠ .gr h.next → ((h.set kill none).push true x).rd b = if b = kill then none else h.rd b := fun b e => by
    show (if b = .gr h.next then some x else (h.set kill none).rd b) = _
    rw [if_neg e]; rfl
  have hrs : ((h.set kill none).push true x).rd (.gr h.next) = some x := if_pos rfl
  have hlive : ∀ b q y, φ b = some q → h.rd b = some y → q.blk < w.heap.size := fun b q y hb hy => by
    obtain ⟨z, hz⟩ := (r.blk b q y hb hy).some
    exact (Array.getElem?_eq_some_iff.1 hz).1
  have hpk := hlive _ _ _ hk hy
  have hne : ∀ b q y', φ b = some q → h.rd b = some y' → b ≠ kill → q.blk ≠ ph.blk := fun b q y' hb hy' hbk e => by
    rcases hw with ⟨h1, _⟩ | ⟨h1, _⟩
    · have := hlive _ _ _ hb hy'; omega
    · exact hbk (r.inj _ _ _ _ _ _ hb hk hy' hy (by omega))
  have hold : ∀ i, i < w.heap.size → i ≠ ph.blk → w'.heap[i]? = w.heap[i]? := fun i hi hp => by
    rcases hw with ⟨h1, h2⟩ | ⟨h1, h2⟩
    · rw [h2, Array.getElem?_push, if_neg (by omega)]
    · rw [h2, Array.getElem?_setIfInBounds_ne (Ne.symm hp)]
  have hnew : w'.heap[ph.blk]? = some o := by
    rcases hw with ⟨h1, h2⟩ | ⟨h1, h2⟩
    · rw [h2, h1]; simp
    · rw [h2, h1]; simp [hpk]
  have hnx : ((h.set kill none).push true x).next = h.next + 1 := rfl
  have split : ∀ b q y', (φ.add (.gr h.next) ph) b = some q → ((h.set kill none).push true x).rd b = some y' → (b = .gr h.next ∧ q = ph ∧ y' = x) ∨ (b ≠ .gr h.next ∧ b ≠ kill ∧ φ b = some q ∧ h.rd b = some y') := fun b q y' hb hy' => by
    by_cases e : b = .gr h.next
    · subst e
      rw [hrs] at hy'; cases hy'
      rw [Phi.add_same] at hb; cases hb
      exact .inl ⟨rfl, rfl, rfl⟩
    · rw [hrd b e] at hy'
      rw [Phi.add_ne e] at hb
      by_cases ek : b = kill
      · rw [if_pos ek] at hy'; cases hy'
      · rw [if_neg ek] at hy'
        exact .inr ⟨e, ek, hb, hy'⟩
  refine ⟨hle, ⟨?_, ?_, ?_, ?_, ?_, ?_⟩, ?_, ?_, ?_, ?_, ?_, by rw [hnx]; omega, ht, hos, hout⟩
  · intro b q y' hb hy'
    rcases split b q y' hb hy' with ⟨rfl, rfl, rfl⟩ | ⟨e, ek, h1, h2⟩
    · rw [hnew]; exact hx.mono hle
    · rw [hold _ (hlive _ _ _ h1 h2) (hne _ _ _ h1 h2 ek)]
      exact (r.blk _ _ _ h1 h2).mono hle
  · intro b c p q y1 y2 hb hc hy1 hy2 e
    rcases split b p y1 hb hy1 with ⟨rfl, rfl, rfl⟩ | ⟨e1, ek1, h1, h2⟩
    · rcases split c q y2 hc hy2 with ⟨rfl, rfl, rfl⟩ | ⟨e3, ek3, h3, h4⟩
      · rfl
      · exact absurd e.symm (hne _ _ _ h3 h4 ek3)
    · rcases split c q y2 hc hy2 with ⟨rfl, rfl, rfl⟩ | ⟨e3, ek3, h3, h4⟩
      · exact absurd e (hne _ _ _ h1 h2 ek1)
      · exact r.inj _ _ _ _ _ _ h1 h3 h2 h4 e
  · intro n
    rw [Phi.add_ne (by simp)]
    exact r.old n
  · intro b hb
    have e : b ≠ .gr h.next := fun e => by subst e; simp [hnx, BId.isNew] at hb; omega
    rw [Phi.add_ne e]
    exact r.next b (BId.isNew_mono (Nat.le_succ _) hb)
  · intro b q hb
    by_cases e : b = .gr h.next
    · subst e
      rw [Phi.add_same] at hb; cases hb
      exact hgk
    · rw [Phi.add_ne e] at hb
      exact r.grk b q hb
  · intro n q y' hb hy' hr
    rcases split _ q y' hb hy' with ⟨e, _⟩ | ⟨_, _, h1, h2⟩
    · cases e
    · exact r.exz n q y' h1 h2 hr
  · rcases hw with ⟨_, h2⟩ | ⟨_, h2⟩ <;> rw [h2] <;> simp
  · intro i hi hno
    refine hold i hi fun e => ?_
    rcases hw with ⟨h1, _⟩ | ⟨h1, _⟩
    · omega
    · exact hno _ _ _ hk hy hyr (by omega)
  · intro b q y' hb hy'
    rcases split b q y' hb hy' with ⟨rfl, rfl, rfl⟩ | ⟨e, ek, h1, h2⟩
    · rcases hw with ⟨h1, _⟩ | ⟨h1, _⟩
      · exact .inr (by omega)
      · exact .inl ⟨kill, pk, y, hk, hy, h1.symm, fun z => by rw [hyr] at z; cases z⟩
    · exact .inl ⟨b, q, y', h1, h2, rfl, id⟩
  · intro b hb hnn
    have e : b ≠ .gr h.next := fun e => by subst e; exact hnn (gId_new true _)
    rw [hrd b e, if_neg (fun ek => by rw [ek, hk] at hb; cases hb)]
  · intro b hb hb'
    by_cases e : b = .gr h.next
    · subst e; exact gId_new true _
    · rw [Phi.add_ne e] at hb'; exact absurd hb hb'

/-! ### One operation -/

section
variable {P : Program} {φ0 : Phi} {h0 : Hp} {w0 : World} {N : Nat}

theorem res_sim {ch : Hd} (hch : SoundH P ch) {φ : Phi} {s : AS} {a : Act} {w : World} {o : Oper} {K : AS → Prop} {Q : Exit → Act → World → Prop} (hx : Ext φ0 h0 w0 φ s.h w) (he : EnvRel φ s.env a.tmps) (hd : DefsRel P φ s.defs a.defers)
    (hN : a.tmps.size = N) (hdst : okDst N o.dst = true) {r : Result Next} {R : Res} (hr : ResSim P φ s.h w r R) (hK : awRes ch o.dst K s R) :
    o.upon P a (fun a w => ∃ s, K s ∧ Rl P φ0 h0 w0 N s a w) Q r := by
  have put : ∀ {φ' : Phi} {h' : Hp} {w' : World} {v : V} {v' : Value}, Ext φ s.h w φ' h' w' → VRel φ' v v' → Rl P φ0 h0 w0 N (s.to o.dst v h') (a.put o.dst v') w' := fun {φ' h' w' v v'} hx' hv =>
    ⟨φ', hx.trans hx', (he.mono hx'.sub).put hN hdst hv, by rw [put_defers']; exact hd.mono hx'.sub, by rw [put_size]; exact hN⟩
  cases R with
  | fail => exact hK.elim
  | ok v e =>
    obtain ⟨nx, v', w', rfl, hnx, hv, hx'⟩ := hr
    cases hnx with
    | val => exact ⟨_, hK, put hx' hv⟩
    | skip => exact ⟨_, hK, put hx' hv⟩
  | mk g v blk =>
    obtain ⟨ph, v', ob, w', rfl, hgk, hpb, hw, ⟨h1, h2, h3⟩, hb, hv⟩ := hr
    have hx' := Ext.push hx.rel hgk hpb hb hw h1 h2 h3
    exact ⟨_, hK, put hx' (hv _ _ Phi.add_same)⟩
  | rep v kill blk =>
    obtain ⟨ph, v', ob, w', pk, y, rfl, hgk, ⟨h1, h2, h3⟩, hb, hro, hv, hk, hy, hyr, hw⟩ := hr
    have hx' := Ext.rep hx.rel hgk hb hk hy hyr hw h1 h2 h3
    exact ⟨_, hK, put hx' (hv _ _ Phi.add_same)⟩
  | call f args =>
    obtain ⟨args', rfl, ha⟩ := hr
    have hD := hch.ok f args s.h _ hK φ w args' hx.rel ha
    generalize (callFunc f args').run P w = r at hD
    have fin : ∀ v' w', (∃ φ' v h', K (s.to o.dst v h') ∧ VRel φ' v v' ∧ Ext φ s.h w φ' h' w') → ∃ s, K s ∧ Rl P φ0 h0 w0 N s (a.put o.dst v') w' := fun v' w' ⟨φ', v, h', hk, hv, hx'⟩ => ⟨_, hk, put hx' hv⟩
    cases r with
    | ok nx w' =>
      cases nx <;> first | exact hD.elim | skip
      case value v' => exact fin _ _ hD
      case enter g args2 =>
        refine Calls.mono hD fun e w'' h => ?_
        cases e with
        | returned v' => exact fin _ _ h
        | panicked c => exact h.elim
        | outgrown => exact h.elim
    | halt x w' => exact hD.elim
  | dfr f args =>
    obtain ⟨f', args', d, rfl, hf, ha, hdd⟩ := hr
    refine ⟨_, hK, φ, hx, EnvRel.put (a := { a with defers := d :: a.defers }) he hN hdst undef_rel, ?_, ?_⟩
    · rw [put_defers']
      refine .cons ⟨f', args', hf, ha, fun w2 => ?_⟩ hd
      cases f' <;> simp [Deferred.ofValue, stuck] at hdd ⊢ <;> exact hdd
    · rw [put_size]; exact hN
  | any l =>
    obtain ⟨x, hm, v', w', rfl, hv, hx'⟩ := hr
    exact ⟨_, hK x hm, put hx' hv⟩

theorem op_rel {φ : Phi} {env : Ev} {a : Act} (he : EnvRel φ env a.tmps) (hold : ∀ n, φ (.old n) = some ⟨n, 0, none⟩) {x : Operand} {X : Opd} (hX : cOpd x = some X) : VRel φ (val env X) (a.eval x) := by
  cases x with
  | tmp t => simp [cOpd] at hX; subst hX; exact he t
  | const v =>
    simp only [cOpd] at hX
    split at hX
    · rename_i v' hv; cases hX; exact absC_rel hv
    · cases hX
  | global g => simp [cOpd] at hX; subst hX; exact .p ⟨_, hold g, by simp⟩
  | func f => simp [cOpd] at hX; subst hX; exact .fn _ .nil .nil

theorem wants_rel {φ : Phi} {env : Ev} {a : Act} (he : EnvRel φ env a.tmps) (hN : a.tmps.size ≤ 1000000) {P : Program} {ptrs : List TypeId} {ops : Array Oper} (o : Oper) :
    wants env (cOp' P ptrs ops o).grd = Region.wanted o (yielded ops a.tmps) := by
  unfold cOp' Region.wanted
  cases hg : o.guard with
  | none => rfl
  | some jw =>
    obtain ⟨j, want⟩ := jw
    have key : ∀ n : Nat, isB want (env n) = ((match a.tmps[n]? with | some (.bool b) => some b | _ => none) == some want) := fun n => by
      have h := he n
      have hgd : a.tmps.getD n undef = (a.tmps[n]?).getD undef := by simp
      rw [hgd] at h
      cases ht : a.tmps[n]? with
      | none =>
        rw [ht] at h
        generalize env n = x at h
        cases h with
        | tup _ => rfl
        | raw hraw => cases hraw
      | some y =>
        rw [ht] at h
        simp only [Option.getD_some] at h
        generalize env n = x at h
        cases h with
        | b b => cases b <;> cases want <;> rfl
        | raw hraw =>
          have : ∀ b, y ≠ .bool b := fun b e => by subst e; simp [isRaw] at hraw
          show false = _
          split
          · rename_i b hb; cases hb; exact absurd rfl (this _)
          · rfl
        | _ => rfl
    simp only [yielded]
    cases hd : (ops[j]?).bind (·.dst) with
    | some d => simp only [wants, Option.bind_some]; exact key d
    | none =>
      simp only [wants, Option.bind_none]
      rw [key]
      have : a.tmps[1000000]? = none := Array.getElem?_eq_none hN
      rw [this]

end

end Go.AM
