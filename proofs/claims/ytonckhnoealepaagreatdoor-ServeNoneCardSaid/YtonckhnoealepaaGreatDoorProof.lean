/- ServeNone: the given row, proved. Conditions: those of the row alone (the listed variables read as listed). -/
import Derived.Test.YtonckhnoealepaaGreatDoorRows
import Derived.Test.YtonckhnoealepaaGreatDoorLaw
import Derived.Test.YtonckhnoealepaaGreatDoorJj
import Derived.Test.YtonckhnoealepaaGreatDoorDb
import Derived.Test.YtonckhnoealepaaGreatDoorDc
import Derived.Test.YtonckhnoealepaaGreatDoorDd
import Derived.Test.YtonckhnoealepaaGreatDoorDe
import Derived.Test.YtonckhnoealepaaGreatDoorDf
import Derived.Test.YtonckhnoealepaaGreatDoorDg
import Derived.Lay
import Derived.WalkKit
import Derived.ProofKit
import Derived.LaidMore
import Derived.OpenShut
import Derived.Stop.Joined
import Derived.Stop.LaidErr
import Derived.Lib.LaidTab
namespace Go.Proofs.YtonckhnoealepaaGreatDoor
open Go.ChangeShapes Go.WideShapes Go.ChangeAt Go.WideMaps Go.WideElems Go.RowKit Go.ChangeMaps

theorem own : ownKnob Tryz.prog.godebug = none := by kernel_rfl

/-! ### What the row's condition gives -/
def restPow : List (String × DataW Unit) := lists.drop 1
def restFine : List (String × DataW Unit) := lists.drop 8
theorem lists_pow : lists = ("internal/strconv.uint64pow10", Lib.tabData .u64 pow10) :: restPow := by kernel_rfl
theorem lists_fine : lists.drop 7 = ("lodestar/wal.errFine", .iface "*errors.errorString" (.ptr (.agg [.lit (.string [102, 105, 110, 101])]))) :: restFine := by kernel_rfl
theorem laidMet_drop {P : Program} {W : World} : ∀ (n : Nat) {l : List (String × DataW Unit)}, laidMet P l W → laidMet P (l.drop n) W
  | 0, _, h => h
  | _ + 1, [], h => h
  | n + 1, _ :: _, h => laidMet_drop n (laidMet.tail h)
theorem of_laidH {W : World} (h : laidMetH Tryz.prog Rows.serveNoneRow.laid W) : laidMet Tryz.prog lists W := by
  unfold laidMetH at h
  rw [lists_h, lists_n] at h
  exact h.1
theorem star : "*" ++ "errors.errorString" = "*errors.errorString" := by decide
theorem row639 (u : TypeId) (h : Tryz.prog.typeName? 3 u = some "*errors.errorString") : u = 639 :=
  typeName_ptr_named (nm := "errors.errorString") (by rw [star]; kernel_rfl) (by kernel_rfl) (by decide) u (by rw [star]; exact h)
theorem tFine : (Tryz.prog.globals[0]?).map (·.type) = some 256 := by kernel_rfl
theorem tPow : (Tryz.prog.globals[1]?).map (·.type) = some 471 := by kernel_rfl
theorem cells641 : Tryz.prog.cellsOf 641 = 1 := by kernel_rfl
theorem cells9 : Tryz.prog.cellsOf 9 = 1 := by kernel_rfl
theorem cells191 : Tryz.prog.cellsOf 191 = 1 := by kernel_rfl
theorem cells471 : Tryz.prog.cellsOf 471 = 20 := by kernel_rfl
theorem cells23 : Tryz.prog.cellsOf 23 = 3 := by kernel_rfl
theorem of_laid {W : World} (h : laidMetH Tryz.prog Rows.serveNoneRow.laid W) : Laid W := by
  have h9 := of_laidH h
  have hp : laidMet Tryz.prog (("internal/strconv.uint64pow10", Lib.tabData .u64 pow10) :: restPow) W := lists_pow ▸ h9
  have h2 : laidMet Tryz.prog (("lodestar/wal.errFine", .iface "*errors.errorString" (.ptr (.agg [.lit (.string [102, 105, 110, 101])]))) :: restFine) W := lists_fine ▸ laidMet_drop 7 h9
  obtain ⟨a, s, g1, g2, g3, _⟩ := laid_sentinel h2 gFine tFine Tryz.underlying256 row639 Tryz.underlying639 Tryz.underlying641 rfl rfl Tryz.underlying9 cells641 cells9
  exact ⟨⟨a, s, g1, g2, g3⟩, Lib.tabIs_of_head gPow tPow Tryz.underlying471 Tryz.underlying191 cells191 cells471 hp⟩

/-! ### The argument: a struct of three strings -/
set_option maxRecDepth 100000 in
theorem open_req {H : Type} {enc : TypeId × Value → H} {W : World} {base : Nat} {sp : Nat → Bool} {hd : Bool} {r : Reach} {b0 : Nat} {v : Value} {d : DataW H} {ps : List MemPlace} (hval : Value.okWide Tryz.prog W r b0 23 v)
    (h : DataW.Trod enc Tryz.prog W base sp hd 23 v d ps) : ∃ m p b : ByteArray, v = .agg #[.string m, .string p, .string b] ∧ d = .agg [.lit (.string m.data.toList), .lit (.string p.data.toList), .lit (.string b.data.toList)] ∧ ps = [] ∧
      m.size ≤ maxLen ∧ p.size ≤ maxLen ∧ b.size ≤ maxLen := by
  obtain ⟨cs, rfl, hs⟩ := okWide_struct Tryz.underlying23 hval
  rw [cells23] at hs
  obtain ⟨c⟩ := cs
  match c, hs with
  | [x, y, z], _ =>
    obtain ⟨fuel, hf⟩ := h
    obtain ⟨xs, n, _, hx, _, hl, hel⟩ := DataW.trod_struct Tryz.underlying23 hf
    match xs, hl with
    | [u0, u1, u2], _ =>
      have k0 : DataW.trod enc Tryz.prog W base sp hd n 9 (([x, y, z].drop 0).take (Tryz.prog.cellsOf 9)) = some u0 := hel 0 _ rfl
      have k1 : DataW.trod enc Tryz.prog W base sp hd n 9 (([x, y, z].drop 1).take (Tryz.prog.cellsOf 9)) = some u1 := hel 1 _ rfl
      have k2 : DataW.trod enc Tryz.prog W base sp hd n 9 (([x, y, z].drop 2).take (Tryz.prog.cellsOf 9)) = some u2 := hel 2 _ rfl
      rw [cells9] at k0 k1 k2
      obtain ⟨s0, e0, q0, m0⟩ := DataW.trod_string Tryz.underlying9 (show DataW.trod enc Tryz.prog W base sp hd n 9 [x] = some u0 from k0)
      obtain ⟨s1, e1, q1, m1⟩ := DataW.trod_string Tryz.underlying9 (show DataW.trod enc Tryz.prog W base sp hd n 9 [y] = some u1 from k1)
      obtain ⟨s2, e2, q2, m2⟩ := DataW.trod_string Tryz.underlying9 (show DataW.trod enc Tryz.prog W base sp hd n 9 [z] = some u2 from k2)
      simp only [List.cons.injEq, and_true] at e0 e1 e2
      subst e0; subst e1; subst e2; subst q0; subst q1; subst q2
      simp only [Prod.mk.injEq] at hx
      exact ⟨s0, s1, s2, rfl, by simpa using hx.1, by simpa using hx.2, m0, m1, m2⟩
theorem shut_req {H : Type} {enc : TypeId × Value → H} {W : World} {base : Nat} {sp : Nat → Bool} {hd : Bool} {m p b : ByteArray} (hm : m.size ≤ maxLen) (hp : p.size ≤ maxLen) (hb : b.size ≤ maxLen) :
    DataW.Trod enc Tryz.prog W base sp hd 23 (.agg #[.string m, .string p, .string b]) (.agg [.lit (.string m.data.toList), .lit (.string p.data.toList), .lit (.string b.data.toList)]) [] := by
  refine ⟨2, ?_⟩
  have := trod_struct_mk (enc := enc) (w := W) (base := base) (spare := sp) (held := hd) (n := 1) (cs := [.string m, .string p, .string b]) (xs := [(.lit (.string m.data.toList), []), (.lit (.string p.data.toList), []), (.lit (.string b.data.toList), [])]) Tryz.underlying23 (by rw [cells23]; rfl)
    (by simp [DataW.trod, cells9, Tryz.underlying9, hm, hp, hb])
  simpa [Value.cells] using this

/-! ### The row's step -/
theorem kept_of {W W' : World} (h : ∀ r, r < W.heap.size → W'.heap[r]? = W.heap[r]?) (ho : W'.os = W.os) (hu : W'.output = W.output) (may : MemPlace → Prop) : W.keptBut W' may := by
  refine ⟨ho, hu, fun i hi => ?_⟩
  rw [h i hi]
  split
  · rename_i e1 e2
    rw [e1] at e2; cases e2
    exact ⟨rfl, rfl, rfl, fun _ _ => rfl⟩
  · rename_i e1 e2
    rw [e1] at e2; cases e2
    exact .inr ⟨rfl, rfl⟩
  · rfl
theorem funcs_none : (funcsListed Rows.serveNoneRow.laid).map (·.1) = [] := by kernel_rfl
theorem funcs_none2 : (funcsListed Rows.serveNoneRow.laid).map (·.2.funcsOut) = [] := by kernel_rfl
theorem all_mem : (lists.filter fun x => (lists.map (·.1)).contains x.1) = lists := List.filter_eq_self.2 fun x hx => List.contains_iff_mem.2 (List.mem_map.2 ⟨x, hx, rfl⟩)
theorem no_other : (lists.filter fun x => !(lists.map (·.1)).contains x.1) = [] := List.filter_eq_nil_iff.2 fun x hx => by rw [List.contains_iff_mem.2 (List.mem_map.2 ⟨x, hx, rfl⟩)]; simp
theorem met_lists (os : Os) (args : Array Value) : laidMet Tryz.prog lists ((wit os).forCall (fun _ _ => 0) ⟨#[], args, []⟩).memory :=
  laidMet_layVars (w0 := base0 os) (lists.map (·.1)) [] (by rw [all_mem]; simp [World.memory, World.forCall, Input.heap, wit]) (by rw [all_mem]; exact d1 os) (by rw [all_mem]; exact d2 os args) (by rw [no_other]; exact LaidIn.none)
theorem door_met (os : Os) (args : Array Value) : laidMetH Tryz.prog Rows.serveNoneRow.laid ((wit os).forCall (fun _ _ => 0) ⟨#[], args, []⟩).memory :=
  laidMetH_of_parts3 (fuel := 8) (by rw [lists_n]; exact met_lists os args) (by rw [lists_hh]; exact d3 os args) (by rw [funcs_none, funcs_none2]; rfl)
set_option maxRecDepth 100000 in
theorem lifted (os : Os) (started : os.Started) (H : Type) (enc : TypeId × Value → H) :
    ReturnsInHanded {} Tryz.checked os 3 .any (fun w args => (Rows.serveNoneSpec.pre enc Tryz.prog Tryz.f3 [] false w args ∧ laidMetH Tryz.prog Rows.serveNoneRow.laid w) ∧ sizedMet enc Tryz.prog Tryz.f3 (OpenSpec.ofChange Rows.serveNoneSpec) false w args)
      (Rows.serveNoneSpec.post enc Tryz.prog Tryz.f3 false true false false) := by
  refine returnsInHanded_of_change_and (C := Tryz.checked) (X := fun w _ => laidMetH Tryz.prog Rows.serveNoneRow.laid w) (fun _ _ _ hh h => h.of_heap hh) own started (by kernel_rfl) Tryz.func3
    (ChangeSpec.witness_shaped (enc := enc) (C := Tryz.checked) (os := os) (X := fun w _ => laidMetH Tryz.prog Rows.serveNoneRow.laid w) false (wit os) #[.agg #[.string ⟨#[]⟩, .string ⟨#[]⟩, .string ⟨#[]⟩]] 8 (World.layVars_os _ _ _) (World.shaped_of_ZipB (s1 os) (s2 os)) (s3 os) (s4 enc os) (s5 enc os) (door_met os _)) ?_
  intro W base args ds gs before hval0 hW _ _ hL _
  have hval : ∀ (j : Nat) t v, Tryz.f3.params[j]? = some t → args[j]? = some v → Value.okWide Tryz.prog W .any base t v := hval0
  have hW' := hW
  obtain ⟨p, q, hA0, hV, rfl, hfz, hnd⟩ := hW
  have hA : DataW.TrodAll enc Tryz.prog W 0 (fun _ => true) true Tryz.f3.params.toList args.toList ds p := hA0
  rw [Tryz.params3] at hA hval
  obtain ⟨v0, d0, rfl, rfl, h0⟩ := trodAll_one hA
  obtain ⟨rfl, rfl⟩ := trodVars_none hV
  obtain ⟨x, y, z, rfl, rfl, rfl, hx, hy, hz⟩ := open_req (hval 0 23 v0 rfl rfl) h0
  have hl := of_laid hL
  clear hA0 hval0
  simp only [List.append_nil] at hW'
  refine (law_walk x y z hl).mono fun e W' ⟨he, hs, hk, ho, hu⟩ => ?_
  subst he
  exact ⟨_, rfl, _, _, _, [], [], [], hW', trodAll_mk1 (shut_bool Tryz.underlying4 _), trodAll_mk1 (shut_req hx hy hz), rfl, kept_of hk ho hu _, fun h => by cases h⟩

theorem serveNone_holds : Rows.ServeNoneSaid :=
  OpenClaim.holds_of_wide 3 Tryz.f3 rfl rfl rfl rfl rfl rfl rfl ⟨rfl, rfl, rfl, rfl, rfl⟩ rfl rfl rfl rfl rfl fact_n Tryz.func3 joined fact_i fact_w
    (fun os started H enc _ => lifted os started H enc)
end Go.Proofs.YtonckhnoealepaaGreatDoor
