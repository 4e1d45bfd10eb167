/- The abstract machine's numbers, bytes and strings are the model's. -/
import Derived.Test.YtonckhnoealepaaGreatDoorAm1
import Derived.Orders
import Derived.Laws.Cells
import Derived.Laws.World
import Derived.Laws.Sem
import Derived.Laws.StructEq
import Derived.Lib.Strings
namespace Go.AM

theorem ileb_eq (a b : Int) : ileb a b = decide (a ≤ b) := by
  unfold ileb
  cases a <;> cases b
  · rename_i x y
    rw [Bool.eq_iff_iff]; simp [Nat.ble_eq]
  · rename_i x y; simp; omega
  · rename_i x y; simp; omega
  · rename_i x y
    rw [Bool.eq_iff_iff]; simp [Nat.ble_eq]
    omega
theorem ibeq_eq (a b : Int) : ibeq a b = (a == b) := by
  unfold ibeq
  cases a <;> cases b
  · rename_i x y
    rw [Bool.eq_iff_iff, Nat.beq_eq]; simp; omega
  · simp
  · simp
  · rename_i x y
    rw [Bool.eq_iff_iff, Nat.beq_eq]; simp
theorem kbeq_eq (j k : IntKind) : kbeq j k = decide (j = k) := by cases j <;> cases k <;> rfl
theorem kbeq_self (k : IntKind) : kbeq k k = true := by cases k <;> rfl
theorem two_eq (k : IntKind) : two k = (2 ^ k.bits : Int) := by cases k <;> rfl
theorem half_eq (k : IntKind) : half k = (2 ^ (k.bits - 1) : Int) := by cases k <;> rfl
theorem sgn_eq (k : IntKind) : sgn k = k.signed := by cases k <;> rfl
theorem nbits_eq (k : IntKind) : nbits k = k.bits := by cases k <;> rfl
theorem wrp_eq (k : IntKind) (n : Int) : wrp k n = k.wrap n := by
  unfold wrp wrpM IntKind.wrap
  rw [ileb_eq, sgn_eq, half_eq, two_eq]
  show (bif k.signed && decide ((2 ^ (k.bits - 1) : Int) ≤ n % 2 ^ k.bits) then n % 2 ^ k.bits - 2 ^ k.bits else n % 2 ^ k.bits) = _
  simp only [ge_iff_le]
  cases hb : (k.signed && decide ((2 ^ (k.bits - 1) : Int) ≤ n % 2 ^ k.bits)) <;> simp
theorem natI_spec {n : Int} {k : Nat} (e : natI n = some k) : n = (k : Int) := by
  unfold natI at e
  cases n with
  | ofNat m => simp at e; subst e; rfl
  | negSucc m => simp at e

theorem beq_nat (a b : Nat) : Nat.beq a b = decide (a = b) := by rw [Bool.eq_iff_iff, Nat.beq_eq]; simp
theorem ble_nat (a b : Nat) : Nat.ble a b = decide (a ≤ b) := by rw [Bool.eq_iff_iff, Nat.ble_eq]; simp
theorem blt_nat (a b : Nat) : Nat.blt a b = decide (a < b) := by rw [Nat.blt, ble_nat]; simp [Nat.lt_iff_add_one_le]

theorem unsgn_eq (k : IntKind) (x : Int) : unsgn k x = (BitVec.ofInt k.bits x).toNat := by
  unfold unsgn
  rw [BitVec.toNat_ofInt, two_eq]
  show ((x % 2 ^ k.bits).toNat) = _
  norm_cast
theorem unsgn_lt (k : IntKind) (x : Int) : unsgn k x < 2 ^ k.bits := by rw [unsgn_eq]; exact BitVec.isLt _

def backOf (k : IntKind) (r : BitVec k.bits) : Int := k.wrap r.toNat
theorem bits_and (k : IntKind) (x y : Int) : bits2 k Nat.land x y = k.wrap (BitVec.ofInt k.bits x &&& BitVec.ofInt k.bits y).toNat := by
  unfold bits2; rw [wrp_eq, BitVec.toNat_and, unsgn_eq, unsgn_eq]; rfl
theorem bits_or (k : IntKind) (x y : Int) : bits2 k Nat.lor x y = k.wrap (BitVec.ofInt k.bits x ||| BitVec.ofInt k.bits y).toNat := by
  unfold bits2; rw [wrp_eq, BitVec.toNat_or, unsgn_eq, unsgn_eq]; rfl
theorem bits_xor (k : IntKind) (x y : Int) : bits2 k Nat.xor x y = k.wrap (BitVec.ofInt k.bits x ^^^ BitVec.ofInt k.bits y).toNat := by
  unfold bits2; rw [wrp_eq, BitVec.toNat_xor, unsgn_eq, unsgn_eq]; rfl
theorem bits_andNot (k : IntKind) (x y : Int) : bits2 k (fun a b => Nat.land a (Nat.xor b (unsgn k (-1)))) x y = k.wrap (BitVec.ofInt k.bits x &&& ~~~ BitVec.ofInt k.bits y).toNat := by
  unfold bits2
  rw [wrp_eq, BitVec.toNat_and, unsgn_eq, unsgn_eq, unsgn_eq]
  have : ~~~ BitVec.ofInt k.bits y = BitVec.ofInt k.bits y ^^^ BitVec.ofInt k.bits (-1) := by
    have e : BitVec.ofInt k.bits (-1) = BitVec.allOnes k.bits := by
      cases k <;> rfl
    rw [e, BitVec.xor_allOnes]
  rw [this, BitVec.toNat_xor]
  rfl

theorem pow2_eq (n : Nat) : pow2 n = (2 ^ n : Int) := by
  unfold pow2
  rw [show Nat.shiftLeft 1 n = 1 <<< n from rfl, Nat.shiftLeft_eq, Nat.one_mul]
  simp
theorem shiftN_eq (k : IntKind) (y : Int) : shiftN k y = min y.toNat k.bits := by
  unfold shiftN
  rw [ble_nat, nbits_eq]
  by_cases h : y.toNat ≤ k.bits
  · simp [h]
  · simp [h]; omega

theorem bytesEq_eq : ∀ (x y : List UInt8), bytesEq x y = (x == y)
  | [], [] => rfl
  | [], _ :: _ => rfl
  | _ :: _, [] => rfl
  | a :: x, b :: y => by
    unfold bytesEq
    rw [bytesEq_eq x y, beq_nat]
    have : decide (a.toNat = b.toNat) = (a == b) := by
      rw [Bool.eq_iff_iff]; simp [UInt8.toNat_inj]
    rw [this]; rfl
theorem bytesLt_eq : ∀ (x y : List UInt8), bytesLt x y = Op.bytesLess x y
  | [], [] => rfl
  | _ :: _, [] => rfl
  | [], _ :: _ => rfl
  | a :: x, b :: y => by
    unfold bytesLt Op.bytesLess
    rw [bytesLt_eq x y, blt_nat, beq_nat]
    have h1 : decide (a.toNat = b.toNat) = (a == b) := by rw [Bool.eq_iff_iff]; simp [UInt8.toNat_inj]
    have h2 : decide (a.toNat < b.toNat) = decide (a < b) := by rw [Bool.eq_iff_iff]; simp [UInt8.lt_iff_toNat_lt]
    rw [h1, h2]

theorem bid_beq (c d : BId) : c.beq d = decide (c = d) := by cases c <;> cases d <;> simp [BId.beq, beq_nat]

theorem memN_eq (t : Nat) : ∀ l : List Nat, memN t l = l.contains t
  | [] => rfl
  | u :: l => by unfold memN; rw [memN_eq t l, beq_nat, List.contains_cons]; congr 1

end Go.AM

/- How an abstract value, block, heap stands to the model's: 'VRel', 'BRel', 'HRel'; how a step of both leads on: 'Ext'. -/
namespace Go.AM

/-- Where an abstract block lies: the model's block; the cell at which it begins there; of one whose capacity is not known: the size of an element, how many cells there are from there on. -/
structure Ph where
  blk : Nat
  sh : Nat
  gr : Option (Nat × Nat)

abbrev Phi := BId → Option Ph

def Phi.le (φ ψ : Phi) : Prop := ∀ b ph, φ b = some ph → ψ b = some ph
theorem Phi.le_refl (φ : Phi) : φ.le φ := fun _ _ h => h
theorem Phi.le_trans {φ ψ χ : Phi} (h : φ.le ψ) (h' : ψ.le χ) : φ.le χ := fun b ph e => h' b ph (h b ph e)

def PRel (φ : Phi) (a : Ad) (a' : Addr) : Prop := ∃ ph, φ a.b = some ph ∧ a' = ⟨ph.blk, ph.sh + a.o, none⟩

def GrRel (ph : Ph) (a : Ad) (len cap : Nat) (a' : Addr) (cap' : Nat) : Option (Nat × Nat) → Prop
  | none => a' = ⟨ph.blk, ph.sh + a.o, none⟩ ∧ cap' = cap
  | some (sz, n) => cap ≤ cap' ∧ a'.block = ph.blk ∧ a'.spot = none ∧ ((len = 0 ∧ cap' = 0) ∨ (a'.off = ph.sh + a.o ∧ a.o + cap' * sz ≤ n))

def isGr : BId → Bool
  | .gr _ => true
  | _ => false
def SRel (φ : Phi) (a : Ad) (len cap : Nat) (a' : Addr) (cap' : Nat) : Prop := ∃ ph, φ a.b = some ph ∧ ph.gr.isSome = isGr a.b ∧ GrRel ph a len cap a' cap' ph.gr

def MRel (φ : Phi) (m : BId) (m' : Nat) : Prop := ∃ ph, φ m = some ph ∧ m' = ph.blk

/-- What is carried as it is: no address in it. -/
def isRaw : Value → Bool
  | .float _ _ | .complex _ _ _ => true
  | _ => false

mutual
inductive VRel (φ : Phi) : V → Value → Prop
  | b (x : Bool) : VRel φ (.b x) (.bool x)
  | i (k : IntKind) (n : Int) : VRel φ (.i k n) (.int k n)
  | s {l : List UInt8} {s : ByteArray} (h : s.data.toList = l) : VRel φ (.s l) (.string s)
  | p0 : VRel φ (.p none) (.pointer none)
  | p {a : Ad} {a' : Addr} (h : PRel φ a a') : VRel φ (.p (some a)) (.pointer (some a'))
  | sl0 (len cap : Nat) : VRel φ (.sl none len cap) (.slice none len cap)
  | sl {a : Ad} {len cap : Nat} {a' : Addr} {cap' : Nat} (h : SRel φ a len cap a' cap') : VRel φ (.sl (some a) len cap) (.slice (some a') len cap')
  | m0 : VRel φ (.m none) (.map none)
  | m {r : BId} {r' : Nat} (h : MRel φ r r') : VRel φ (.m (some r)) (.map (some r'))
  | fn (f : Fn) {x y : List V} {x' y' : Array Value} (hx : VsRel φ x x'.toList) (hy : VsRel φ y y'.toList) : VRel φ (.fn f x y) (.func f x' y')
  | nf : VRel φ .nf .nilFunc
  | ifc (t : TypeId) {v : V} {v' : Value} (h : VRel φ v v') : VRel φ (.ifc t v) (.iface t v')
  | ni : VRel φ .ni .nilIface
  | agg {x : List V} {x' : Array Value} (h : VsRel φ x x'.toList) : VRel φ (.agg x) (.agg x')
  | tup {x : List V} {x' : Array Value} (h : VsRel φ x x'.toList) : VRel φ (.tup x) (.tuple x')
  | raw {x : Value} (h : isRaw x = true) : VRel φ (.raw x) x
inductive VsRel (φ : Phi) : List V → List Value → Prop
  | nil : VsRel φ [] []
  | cons {v : V} {v' : Value} {l : List V} {l' : List Value} (h : VRel φ v v') (t : VsRel φ l l') : VsRel φ (v :: l) (v' :: l')
end

theorem PRel.mono {φ ψ : Phi} (h : φ.le ψ) {a : Ad} {a' : Addr} : PRel φ a a' → PRel ψ a a' := fun ⟨ph, e, r⟩ => ⟨ph, h _ _ e, r⟩
theorem SRel.mono {φ ψ : Phi} (h : φ.le ψ) {a : Ad} {n c : Nat} {a' : Addr} {c' : Nat} : SRel φ a n c a' c' → SRel ψ a n c a' c' := fun ⟨ph, e, r⟩ => ⟨ph, h _ _ e, r⟩
theorem MRel.mono {φ ψ : Phi} (h : φ.le ψ) {m : BId} {m' : Nat} : MRel φ m m' → MRel ψ m m' := fun ⟨ph, e, r⟩ => ⟨ph, h _ _ e, r⟩

mutual
theorem VRel.mono {φ ψ : Phi} (h : φ.le ψ) : ∀ {v : V} {v' : Value}, VRel φ v v' → VRel ψ v v'
  | _, _, .b x => .b x
  | _, _, .i k n => .i k n
  | _, _, .s e => .s e
  | _, _, .p0 => .p0
  | _, _, .p r => .p (r.mono h)
  | _, _, .sl0 n c => .sl0 n c
  | _, _, .sl r => .sl (r.mono h)
  | _, _, .m0 => .m0
  | _, _, .m r => .m (r.mono h)
  | _, _, .fn f hx hy => .fn f (VsRel.mono h hx) (VsRel.mono h hy)
  | _, _, .nf => .nf
  | _, _, .ifc t r => .ifc t (VRel.mono h r)
  | _, _, .ni => .ni
  | _, _, .agg r => .agg (VsRel.mono h r)
  | _, _, .tup r => .tup (VsRel.mono h r)
  | _, _, .raw e => .raw e
theorem VsRel.mono {φ ψ : Phi} (h : φ.le ψ) : ∀ {l : List V} {l' : List Value}, VsRel φ l l' → VsRel ψ l l'
  | _, _, .nil => .nil
  | _, _, .cons r t => .cons (VRel.mono h r) (VsRel.mono h t)
end

section lists
variable {φ : Phi}
theorem VsRel.length : ∀ {l : List V} {l' : List Value}, VsRel φ l l' → l.length = l'.length
  | _, _, .nil => rfl
  | _, _, .cons _ t => by simp [t.length]
theorem VsRel.append : ∀ {a : List V} {a' : List Value} {c : List V} {c' : List Value}, VsRel φ a a' → VsRel φ c c' → VsRel φ (a ++ c) (a' ++ c')
  | _, _, _, _, .nil, h => h
  | _, _, _, _, .cons r t, h => .cons r (t.append h)
theorem VsRel.get : ∀ {l : List V} {l' : List Value} {i : Nat} {v : V}, VsRel φ l l' → l[i]? = some v → ∃ v', l'[i]? = some v' ∧ VRel φ v v'
  | _, _, _, _, .nil, e => by simp at e
  | _, _, 0, _, .cons r _, e => by simp at e; subst e; exact ⟨_, rfl, r⟩
  | _, _, i + 1, _, .cons _ t, e => by
    simp at e
    obtain ⟨v', e', r⟩ := t.get e
    exact ⟨v', by simpa using e', r⟩
theorem VsRel.of_get : ∀ {l : List V} {l' : List Value}, l.length = l'.length → (∀ (i : Nat) (v : V), l[i]? = some v → ∃ v', l'[i]? = some v' ∧ VRel φ v v') → VsRel φ l l'
  | [], [], _, _ => .nil
  | [], _ :: _, e, _ => by simp at e
  | _ :: _, [], e, _ => by simp at e
  | v :: l, v' :: l', e, h => by
    obtain ⟨u, hu, r⟩ := h 0 v rfl
    simp at hu; subst hu
    exact .cons r (VsRel.of_get (by simpa using e) fun i x hx => by
      obtain ⟨y, hy, r⟩ := h (i + 1) x (by simpa using hx)
      exact ⟨y, by simpa using hy, r⟩)
theorem VsRel.one {v : V} {l' : List Value} (h : VsRel φ [v] l') : ∃ v', l' = [v'] ∧ VRel φ v v' := by
  cases h with | cons r t => cases t; exact ⟨_, rfl, r⟩
theorem VsRel.two {v u : V} {l' : List Value} (h : VsRel φ [v, u] l') : ∃ v' u', l' = [v', u'] ∧ VRel φ v v' ∧ VRel φ u u' := by
  cases h with | cons r t => obtain ⟨u', rfl, r'⟩ := t.one; exact ⟨_, _, rfl, r, r'⟩
end lists

def CsRel (φ : Phi) (cs : List V) (c : Array Value) (sh : Nat) : Prop := ∀ (i : Nat) (v : V), cs[i]? = some v → ∃ v', c[sh + i]? = some v' ∧ VRel φ v v'

def szOk (gz n size sh : Nat) : Option (Nat × Nat) → Prop
  | none => sh + n ≤ size ∧ (gz = 0 → size = sh + n)
  | some (sz, m) => 0 < sz ∧ n ≤ m ∧ size = sh + m ∧ gz = sz
def fzOk (sh size : Nat) (fr : Nat × Nat) : Option Nat → Prop
  | none => True
  | some k => ∀ off, k ≤ off → sh + off < size → ¬ (fr.1 ≤ sh + off ∧ sh + off < fr.2)
def stOk (fr : Nat × Nat) (st : Bool) : Prop := st = false → fr.1 = fr.2

inductive EsRel (φ : Phi) : List Ent → List MapEntry → Prop
  | nil : EsRel φ [] []
  | cons {e : Ent} {e' : MapEntry} {l : List Ent} {l' : List MapEntry} (hk : VRel φ e.key e'.key) (hv : VRel φ e.val e'.val) (hb : e'.born = e.born) (t : EsRel φ l l') : EsRel φ (e :: l) (e' :: l')
theorem EsRel.mono {φ ψ : Phi} (h : φ.le ψ) : ∀ {l : List Ent} {l' : List MapEntry}, EsRel φ l l' → EsRel ψ l l'
  | _, _, .nil => .nil
  | _, _, .cons hk hv hb t => .cons (hk.mono h) (hv.mono h) hb (t.mono h)

inductive MoRel (φ : Phi) : Option BId → Option Nat → Prop
  | none : MoRel φ none none
  | some {m : BId} {m' : Nat} (h : MRel φ m m') : MoRel φ (some m) (some m')
theorem MoRel.mono {φ ψ : Phi} (h : φ.le ψ) {m : Option BId} {m' : Option Nat} : MoRel φ m m' → MoRel ψ m m'
  | .none => .none
  | .some r => .some (r.mono h)

inductive BRel (φ : Phi) (ph : Ph) : Blk → Option Obj → Prop
  | cells {cs : List V} {el : TypeId} {fz : Option Nat} {st ro : Bool} {gz : Nat} {c : Array Value} {fr : Nat × Nat} (hc : CsRel φ cs c ph.sh) (hs : szOk gz cs.length c.size ph.sh ph.gr)
      (hf : fzOk ph.sh c.size fr fz) (ht : stOk fr st) : BRel φ ph (.cells cs el fz st ro gz) (some (.cells c el fr))
  | map {es : List Ent} {clock : Nat} {ro : Bool} {es' : Array MapEntry} (h0 : ph.sh = 0) (h : EsRel φ es es'.toList) : BRel φ ph (.map es clock ro) (some (.map es' clock))
  | siter {l : List UInt8} {pos : Nat} {s : ByteArray} (h0 : ph.sh = 0) (h : s.data.toList = l) : BRel φ ph (.siter l pos) (some (.stringIter s pos))
  | miter {m : Option BId} {m' : Option Nat} {since stepped : Nat} {seen : List Nat} {seen' : Array Nat} (h0 : ph.sh = 0) (hm : MoRel φ m m') (hs : seen'.toList = seen) :
      BRel φ ph (.miter m since seen stepped) (some (.mapIter m' since seen' stepped))

theorem CsRel.mono {φ ψ : Phi} (h : φ.le ψ) {cs : List V} {c : Array Value} {sh : Nat} (r : CsRel φ cs c sh) : CsRel ψ cs c sh := fun i v e =>
  let ⟨v', e', x⟩ := r i v e; ⟨v', e', x.mono h⟩
theorem BRel.mono {φ ψ : Phi} (h : φ.le ψ) {ph : Ph} {x : Blk} {o : Option Obj} : BRel φ ph x o → BRel ψ ph x o
  | .cells hc hs hf ht => .cells (hc.mono h) hs hf ht
  | .map h0 r => .map h0 (r.mono h)
  | .siter h0 r => .siter h0 r
  | .miter h0 hm hs => .miter h0 (hm.mono h) hs
theorem BRel.some {φ : Phi} {ph : Ph} {x : Blk} {o : Option Obj} : BRel φ ph x o → ∃ y, o = some y
  | .cells .. => ⟨_, rfl⟩
  | .map .. => ⟨_, rfl⟩
  | .siter .. => ⟨_, rfl⟩
  | .miter .. => ⟨_, rfl⟩

/-- The abstract heap: what each name holds; the number that the next new block gets. -/
structure Hp where
  rd : Rd
  next : Nat

def BId.isNew (n : Nat) : BId → Prop
  | .old _ => False
  | .ex k => n ≤ k
  | .gr k => n ≤ k
def Hp.set (h : Hp) (b : BId) (x : Option Blk) : Hp := ⟨fun c => if c = b then x else h.rd c, h.next⟩
def Hp.eff (h : Hp) : Eff → Hp
  | .no => h
  | .put b blk => h.set b (some blk)
def Hp.push (h : Hp) (g : Bool) (blk : Blk) : Hp := ⟨(h.set (gId g h.next) (some blk)).rd, h.next + 1⟩

theorem Hp.rd_set_same {h : Hp} {b : BId} {x : Option Blk} : (h.set b x).rd b = x := by simp [Hp.set]
theorem Hp.rd_set_ne {h : Hp} {b c : BId} {x : Option Blk} (e : c ≠ b) : (h.set b x).rd c = h.rd c := by simp [Hp.set, e]

structure HRel (φ : Phi) (h : Hp) (w : World) : Prop where
  blk : ∀ b ph x, φ b = some ph → h.rd b = some x → BRel φ ph x w.heap[ph.blk]?
  inj : ∀ b c p q x y, φ b = some p → φ c = some q → h.rd b = some x → h.rd c = some y → p.blk = q.blk → b = c
  old : ∀ n, φ (.old n) = some ⟨n, 0, none⟩
  next : ∀ b, b.isNew h.next → φ b = none
  grk : ∀ b ph, φ b = some ph → ph.gr.isSome = isGr b
  exz : ∀ n ph x, φ (.ex n) = some ph → h.rd (.ex n) = some x → x.ro = false → ph.sh = 0

/-- From (φ, h, w) on to (φ', h', w'). -/
structure Ext (φ : Phi) (h : Hp) (w : World) (φ' : Phi) (h' : Hp) (w' : World) : Prop where
  sub : φ.le φ'
  rel : HRel φ' h' w'
  size : w.heap.size ≤ w'.heap.size
  unch : ∀ r, r < w.heap.size → (∀ b ph x, φ b = some ph → h.rd b = some x → x.ro = false → ph.blk ≠ r) → w'.heap[r]? = w.heap[r]?
  fresh : ∀ b ph x, φ' b = some ph → h'.rd b = some x → (∃ c p y, φ c = some p ∧ h.rd c = some y ∧ p.blk = ph.blk ∧ (y.ro = true → x.ro = true)) ∨ w.heap.size ≤ ph.blk
  abs : ∀ b, φ b = none → ¬ b.isNew h.next → h'.rd b = h.rd b
  newid : ∀ b, φ b = none → φ' b ≠ none → b.isNew h.next
  next : h.next ≤ h'.next
  tape : w'.tape = w.tape
  os : w'.os = w.os
  out : w'.output = w.output

theorem BId.isNew_mono {m n : Nat} (h : m ≤ n) {b : BId} : b.isNew n → b.isNew m := by
  cases b <;> simp [BId.isNew] <;> omega

theorem Ext.refl {φ : Phi} {h : Hp} {w : World} (r : HRel φ h w) : Ext φ h w φ h w where
  sub := Phi.le_refl _
  rel := r
  size := Nat.le_refl _
  unch := fun _ _ _ => rfl
  fresh := fun b ph x e e' => .inl ⟨b, ph, x, e, e', rfl, id⟩
  abs := fun _ _ _ => rfl
  newid := fun _ e e' => absurd e e'
  next := Nat.le_refl _
  tape := rfl
  os := rfl
  out := rfl

theorem Ext.trans {φ φ' φ'' : Phi} {h h' h'' : Hp} {w w' w'' : World} (a : Ext φ h w φ' h' w') (c : Ext φ' h' w' φ'' h'' w'') : Ext φ h w φ'' h'' w'' where
  sub := Phi.le_trans a.sub c.sub
  rel := c.rel
  size := Nat.le_trans a.size c.size
  unch := fun r hr hno => by
    rw [c.unch r (Nat.lt_of_lt_of_le hr a.size) ?_]
    · exact a.unch r hr hno
    · intro b ph x e e' ro he
      rcases a.fresh b ph x e e' with ⟨d, p, y, h1, h2, h3, h4⟩ | hge
      · exact hno d p y h1 h2 (by cases hy : y.ro with | false => rfl | true => rw [h4 hy] at ro; cases ro) (h3.trans he)
      · omega
  fresh := fun b ph x e e' => by
    rcases c.fresh b ph x e e' with ⟨d, p, y, h1, h2, h3, h4⟩ | hge
    · rcases a.fresh d p y h1 h2 with ⟨d', p', y', g1, g2, g3, g4⟩ | hge
      · exact .inl ⟨d', p', y', g1, g2, g3.trans h3, fun z => h4 (g4 z)⟩
      · exact .inr (h3 ▸ hge)
    · exact .inr (Nat.le_trans a.size hge)
  abs := fun b e hn => by
    have h1 := a.abs b e hn
    have e' : φ' b = none := by
      cases hb : φ' b with
      | none => rfl
      | some ph => exact absurd (a.newid b e (by rw [hb]; simp)) hn
    rw [c.abs b e' (fun z => hn (BId.isNew_mono a.next z)), h1]
  newid := fun b e e' => by
    cases hb : φ' b with
    | none => exact BId.isNew_mono a.next (c.newid b hb e')
    | some ph => exact a.newid b e (by rw [hb]; simp)
  next := Nat.le_trans a.next c.next
  tape := c.tape.trans a.tape
  os := c.os.trans a.os
  out := c.out.trans a.out

/-- Draws move nothing that is looked at. -/
theorem HRel.drew {φ : Phi} {h : Hp} {w w' : World} (r : HRel φ h w) (e : w'.heap = w.heap) : HRel φ h w' where
  blk := fun b ph x a c => by rw [e]; exact r.blk b ph x a c
  inj := r.inj
  old := r.old
  next := r.next
  grk := r.grk
  exz := r.exz
theorem Ext.drew {φ : Phi} {h : Hp} {w w' : World} (r : HRel φ h w) (e : w'.heap = w.heap) (ht : w'.tape = w.tape) (ho : w'.os = w.os) (hu : w'.output = w.output) : Ext φ h w φ h w' where
  sub := Phi.le_refl _
  rel := r.drew e
  size := by rw [e]; exact Nat.le_refl _
  unch := fun _ _ _ => by rw [e]
  fresh := fun b ph x e e' => .inl ⟨b, ph, x, e, e', rfl, id⟩
  abs := fun _ _ _ => rfl
  newid := fun _ e e' => absurd e e'
  next := Nat.le_refl _
  tape := ht
  os := ho
  out := hu

end Go.AM

/- Reading, writing, laying new blocks: what the abstract heap tells of the model's. -/
namespace Go.AM

/-! ### Lists -/

theorem takeN_spec : ∀ {l : List V} {n : Nat} {r : List V}, takeN l n = some r → r.length = n ∧ ∀ j, j < n → r[j]? = l[j]?
  | l, 0, r, e => by unfold takeN at e; simp at e; subst e; simp
  | [], n + 1, r, e => by unfold takeN at e; simp at e
  | v :: l, n + 1, r, e => by
    unfold takeN at e
    simp only at e
    split at e
    · rename_i r' h
      obtain ⟨h1, h2⟩ := takeN_spec h
      simp at e; subst e
      refine ⟨by simp [h1], fun j hj => ?_⟩
      cases j with
      | zero => rfl
      | succ j => simpa using h2 j (by omega)
    · cases e
theorem dropN_spec : ∀ {l : List V} {n : Nat} {r : List V}, dropN l n = some r → l.length = n + r.length ∧ ∀ j : Nat, r[j]? = l[n + j]?
  | l, 0, r, e => by unfold dropN at e; simp at e; subst e; simp
  | [], n + 1, r, e => by unfold dropN at e; simp at e
  | v :: l, n + 1, r, e => by
    unfold dropN at e
    simp only at e
    obtain ⟨h1, h2⟩ := dropN_spec e
    refine ⟨by simp [h1]; omega, fun j => ?_⟩
    rw [h2 j, show n + 1 + j = (n + j) + 1 from by omega]
    rfl
theorem cut_spec {l : List V} {o n : Nat} {r : List V} (e : cut l o n = some r) : r.length = n ∧ o + n ≤ l.length ∧ ∀ j, j < n → r[j]? = l[o + j]? := by
  unfold cut at e
  split at e
  · rename_i d hd
    obtain ⟨h1, h2⟩ := dropN_spec hd
    obtain ⟨h3, h4⟩ := takeN_spec e
    refine ⟨h3, ?_, fun j hj => by rw [h4 j hj, h2 j]⟩
    rcases Nat.lt_or_ge d.length n with hlt | hge
    · have := h4 d.length (by omega)
      rw [show d[d.length]? = none from by simp] at this
      have h5 : d.length < r.length := by omega
      simp [h5] at this
    · omega
  · cases e
theorem lay0_spec : ∀ {l vs r : List V}, lay0 l vs = some r → vs.length ≤ l.length ∧ r.length = l.length ∧ ∀ j : Nat, r[j]? = if j < vs.length then vs[j]? else l[j]?
  | l, [], r, e => by unfold lay0 at e; simp at e; subst e; simp
  | [], _ :: _, r, e => by unfold lay0 at e; simp at e
  | u :: l, v :: vs, r, e => by
    unfold lay0 at e
    split at e
    · rename_i r' h
      obtain ⟨h1, h2, h3⟩ := lay0_spec h
      simp at e; subst e
      refine ⟨by simpa using h1, by simpa using h2, fun j => ?_⟩
      cases j with
      | zero => simp
      | succ j => simpa using h3 j
    · cases e
theorem lay_spec : ∀ {l : List V} {o : Nat} {vs r : List V}, lay l o vs = some r → o + vs.length ≤ l.length ∧ r.length = l.length ∧
    ∀ j : Nat, r[j]? = if o ≤ j ∧ j < o + vs.length then vs[j - o]? else l[j]?
  | l, 0, vs, r, e => by
    unfold lay at e
    obtain ⟨h1, h2, h3⟩ := lay0_spec e
    exact ⟨by omega, h2, fun j => by rw [h3 j]; simp⟩
  | [], o + 1, vs, r, e => by unfold lay at e; simp at e
  | u :: l, o + 1, vs, r, e => by
    unfold lay at e
    simp only at e
    split at e
    · rename_i r' h
      obtain ⟨h1, h2, h3⟩ := lay_spec h
      simp at e; subst e
      refine ⟨by simp; omega, by simpa using h2, fun j => ?_⟩
      cases j with
      | zero => simp
      | succ j =>
        have := h3 j
        simp only [List.getElem?_cons_succ]
        rw [this]
        by_cases hc : o ≤ j ∧ j < o + vs.length
        · rw [if_pos hc, if_pos (by omega), show j + 1 - (o + 1) = j - o from by omega]
        · rw [if_neg hc, if_neg (by omega)]
    · cases e

theorem one_spec {x : Option (List V)} {v : V} (e : one x = some v) : x = some [v] := by
  unfold one at e
  split at e
  · simp at e; subst e; rfl
  · cases e
theorem aggO_spec {x : Option (List V)} {v : V} (e : aggO x = some v) : ∃ l, x = some l ∧ v = .agg l := by
  unfold aggO at e
  split at e
  · simp at e; subst e; exact ⟨_, rfl, rfl⟩
  · cases e

theorem Addr.add_mk (b o n : Nat) : (⟨b, o, none⟩ : Addr).add n = ⟨b, o + n, none⟩ := by
  unfold Addr.add
  split
  · subst_vars; rfl
  · rfl

theorem cell_at {w : World} {b : Nat} {c : Array Value} {el : TypeId} {fr : Nat × Nat} (h : w.heap[b]? = some (.cells c el fr)) (o : Nat) : w.cell? ⟨b, o, none⟩ = c[o]? := by
  simp [World.cell?, h]
theorem frozen_at {w : World} {b : Nat} {c : Array Value} {el : TypeId} {fr : Nat × Nat} (h : w.heap[b]? = some (.cells c el fr)) (o : Nat) :
    w.frozen? ⟨b, o, none⟩ = (decide (fr.1 ≤ o) && decide (o < fr.2)) := by
  obtain ⟨lo, hi⟩ := fr
  simp [World.frozen?, h]

section
variable {P : Program} {φ : Phi} {h : Hp} {w : World}

theorem HRel.cells (r : HRel φ h w) {a : Ad} {ph : Ph} {cs : List V} {el : TypeId} {fz : Option Nat} {st ro : Bool} (hp : φ a.b = some ph) {gz : Nat} (hb : h.rd a.b = some (.cells cs el fz st ro gz)) :
    ∃ c fr, w.heap[ph.blk]? = some (.cells c el fr) ∧ CsRel φ cs c ph.sh ∧ szOk gz cs.length c.size ph.sh ph.gr ∧ fzOk ph.sh c.size fr fz ∧ stOk fr st := by
  have := r.blk _ _ _ hp hb
  generalize w.heap[ph.blk]? = x at this
  cases this with
  | cells hc hs hf ht => exact ⟨_, _, rfl, hc, hs, hf, ht⟩

theorem rd_cells (r : HRel φ h w) {a : Ad} {a' : Addr} {n : Nat} {l : List V} (hp : PRel φ a a') (hr : rdCells h.rd a n = some l) :
    ∃ l' : List Value, VsRel φ l l' ∧ l'.length = n ∧ (loadCells a' n).run P w = .ok l'.toArray w := by
  obtain ⟨ph, hph, rfl⟩ := hp
  unfold rdCells cutB at hr
  split at hr
  · rename_i cs el fz st ro gz hb
    obtain ⟨c, fr, hw, hc, _⟩ := r.cells hph hb
    obtain ⟨h1, h2, h3⟩ := cut_spec hr
    have hex : ∀ j, j < n → ∃ v', c[ph.sh + (a.o + j)]? = some v' := fun j hj => by
      have hlt : a.o + j < cs.length := by omega
      obtain ⟨v', hv', _⟩ := hc (a.o + j) cs[a.o + j] (List.getElem?_eq_getElem hlt)
      exact ⟨v', hv'⟩
    let l' := (List.range n).map fun j => (c[ph.sh + (a.o + j)]?).getD undef
    have hget : ∀ j, j < n → l'[j]? = c[ph.sh + (a.o + j)]? := fun j hj => by
      obtain ⟨v', hv'⟩ := hex j hj
      simp [l', hj, hv']
    have hlen : l'.length = n := by simp [l']
    refine ⟨l', VsRel.of_get (by omega) fun j v hj => ?_, hlen, ?_⟩
    · have hjn : j < n := by
        rcases Nat.lt_or_ge j l.length with h' | h'
        · omega
        · simp [List.getElem?_eq_none h'] at hj
      rw [h3 j hjn] at hj
      obtain ⟨v', hv', hvr⟩ := hc _ _ hj
      exact ⟨v', by rw [hget j hjn, hv'], hvr⟩
    · have := run_loadCells_list (P := P) w ⟨ph.blk, ph.sh + a.o, none⟩ l' (fun j v hj => by
        have hjn : j < n := by
          rcases Nat.lt_or_ge j l'.length with h' | h'
          · omega
          · simp [List.getElem?_eq_none h'] at hj
        rw [Addr.add_mk, cell_at hw, ← hj, hget j hjn]
        congr 1; omega)
      rw [hlen] at this
      exact this
  · cases hr

theorem rd_one (r : HRel φ h w) {a : Ad} {a' : Addr} {v : V} (hp : PRel φ a a') (hr : one (rdCells h.rd a 1) = some v) :
    ∃ v', VRel φ v v' ∧ w.cell? a' = some v' := by
  unfold one at hr
  split at hr
  · rename_i u hl
    simp at hr; subst hr
    obtain ⟨ph, hph, rfl⟩ := hp
    unfold rdCells cutB at hl
    split at hl
    · rename_i cs el fz st ro gz hb
      obtain ⟨c, fr, hw, hc, _⟩ := r.cells hph hb
      obtain ⟨h1, h2, h3⟩ := cut_spec hl
      have := h3 0 (by omega)
      simp at this
      obtain ⟨v', hv', hvr⟩ := hc _ _ this.symm
      exact ⟨v', hvr, by rw [cell_at hw, hv']⟩
    · cases hl
  · cases hr

theorem loadVar_agg (r : HRel φ h w) {t : TypeId} {n : Nat} {a : Ad} {a' : Addr} {l : List V} (hag : (isAgg t).run P w = .ok true w) (hsz : (sizeOf t).run P w = .ok n w)
    (hp : PRel φ a a') (hr : rdCells h.rd a n = some l) : ∃ x : Array Value, VsRel φ l x.toList ∧ (loadVar t a').run P w = .ok (.agg x) w := by
  obtain ⟨l', h1, _, h3⟩ := rd_cells (P := P) r hp hr
  exact ⟨l'.toArray, by simpa using h1, by simp [loadVar, hag, hsz, h3]⟩
theorem loadVar_one (r : HRel φ h w) {t : TypeId} {a : Ad} {a' : Addr} {v : V} (hag : (isAgg t).run P w = .ok false w)
    (hp : PRel φ a a') (hr : one (rdCells h.rd a 1) = some v) : ∃ v', VRel φ v v' ∧ (loadVar t a').run P w = .ok v' w := by
  obtain ⟨v', h1, h2⟩ := rd_one r hp hr
  exact ⟨v', h1, by simp [loadVar, hag, h2]⟩

theorem SRel.ptr {a : Ad} {n c : Nat} {a' : Addr} {c' : Nat} (hs : SRel φ a n c a' c') (hn : n ≠ 0) : PRel φ a a' := by
  obtain ⟨ph, hp, hg, hr⟩ := hs
  refine ⟨ph, hp, ?_⟩
  cases hgr : ph.gr with
  | none => rw [hgr] at hr; exact hr.1
  | some g =>
    obtain ⟨sz, m⟩ := g
    rw [hgr] at hr
    obtain ⟨_, h1, h2, h3⟩ := hr
    rcases h3 with h3 | h3
    · exact absurd h3.1 hn
    · obtain ⟨b, o, s⟩ := a'
      simp only at h1 h2 h3
      rw [h1, h2, h3.1]

/-- The cells of a slice's first elements. -/
theorem rd_slice (r : HRel φ h w) {a : Ad} {len c k : Nat} {a' : Addr} {c' : Nat} {l : List V} (hs : SRel φ a len c a' c') (hk : len = 0 → k = 0) (hr : rdCells h.rd a k = some l) :
    ∃ l' : List Value, VsRel φ l l' ∧ l'.length = k ∧ (loadCells a' k).run P w = .ok l'.toArray w := by
  by_cases hn : len = 0
  · obtain rfl := hk hn
    have : l = [] := by
      unfold rdCells cutB at hr
      split at hr
      · exact List.eq_nil_of_length_eq_zero (cut_spec hr).1
      · cases hr
    subst this
    exact ⟨[], .nil, rfl, by simp [loadCells, loadCellsFrom]⟩
  · exact rd_cells r (hs.ptr hn) hr

/-! ### Writing -/

def layA (c : Array Value) (o : Nat) : List Value → Array Value
  | [] => c
  | v :: vs => layA (c.setIfInBounds o v) (o + 1) vs
theorem layA_size (vs : List Value) : ∀ (c : Array Value) (o : Nat), (layA c o vs).size = c.size := by
  induction vs with
  | nil => intro c o; rfl
  | cons v vs ih => intro c o; simp [layA, ih]
theorem layA_get (vs : List Value) : ∀ (c : Array Value) (o j : Nat), o + vs.length ≤ c.size → (layA c o vs)[j]? = if o ≤ j ∧ j < o + vs.length then vs[j - o]? else c[j]? := by
  induction vs with
  | nil => intro c o j _; simp [layA]; omega
  | cons v vs ih =>
    intro c o j hle
    simp only [List.length_cons] at hle
    rw [layA, ih _ _ _ (by simp; omega)]
    by_cases hj : j = o
    · subst hj
      rw [if_neg (by omega), if_pos ⟨Nat.le_refl _, by simp only [List.length_cons]; omega⟩]
      have : j < c.size := by omega
      simp [this]
    · by_cases hc : o + 1 ≤ j ∧ j < o + 1 + vs.length
      · rw [if_pos hc, if_pos (by simp; omega), show j - o = (j - (o + 1)) + 1 from by omega]
        rfl
      · rw [if_neg hc, if_neg (by simp; omega)]
        simp [Array.getElem?_setIfInBounds_ne (Ne.symm hj)]

/-- A block is laid anew. -/
def World.lay (w : World) (b : Nat) (o : Obj) : World := { w with heap := w.heap.setIfInBounds b o }
theorem setCell_lay {w : World} {b o : Nat} {c : Array Value} {el : TypeId} {fr : Nat × Nat} (h : w.heap[b]? = some (.cells c el fr)) (v : Value) :
    w.setCell ⟨b, o, none⟩ v = World.lay w b (.cells (c.setIfInBounds o v) el fr) := by
  unfold World.setCell World.lay
  congr 1
  apply Array.ext_getElem?
  intro i
  rw [Array.getElem?_modify, Array.getElem?_setIfInBounds]
  have hlt : b < w.heap.size := (Array.getElem?_eq_some_iff.1 h).1
  have hg := (Array.getElem?_eq_some_iff.1 h).2
  by_cases hi : b = i
  · subst hi
    simp [hlt, hg]
  · simp [hi]
theorem lay_get {w : World} {b : Nat} {o x : Obj} (h : w.heap[b]? = some x) : (World.lay w b o).heap[b]? = some o := by
  have hlt : b < w.heap.size := (Array.getElem?_eq_some_iff.1 h).1
  simp [World.lay, hlt]
theorem lay_ne {w : World} {b r : Nat} {o : Obj} (h : b ≠ r) : (World.lay w b o).heap[r]? = w.heap[r]? := by
  simp [World.lay, Array.getElem?_setIfInBounds_ne h]
theorem lay_size {w : World} {b : Nat} {o : Obj} : (World.lay w b o).heap.size = w.heap.size := by simp [World.lay]
theorem lay_lay {w : World} {b : Nat} {o o' : Obj} : World.lay (World.lay w b o) b o' = World.lay w b o' := by
  unfold World.lay
  congr 1
  apply Array.ext_getElem?
  intro i
  simp only [Array.getElem?_setIfInBounds, Array.size_setIfInBounds]
  by_cases hi : b = i <;> simp [hi]
theorem lay_self {w : World} {b : Nat} {o : Obj} (h : w.heap[b]? = some o) : World.lay w b o = w := by
  unfold World.lay
  have hlt : b < w.heap.size := (Array.getElem?_eq_some_iff.1 h).1
  have : w.heap.setIfInBounds b o = w.heap := by
    apply Array.ext_getElem?
    intro i
    rw [Array.getElem?_setIfInBounds]
    by_cases hi : b = i
    · subst hi; simp [hlt, (Array.getElem?_eq_some_iff.1 h).2]
    · simp [hi]
  rw [this]

theorem run_storeCells (P : Program) (b o : Nat) (el : TypeId) (fr : Nat × Nat) : ∀ (vs : List Value) (i : Nat) (w : World) (c : Array Value),
    w.heap[b]? = some (.cells c el fr) → o + i + vs.length ≤ c.size → (∀ j, o + i ≤ j → j < o + i + vs.length → ¬ (fr.1 ≤ j ∧ j < fr.2)) → (∀ v ∈ vs, v.oneCell' = true) →
    (storeCells ⟨b, o, none⟩ vs i).run P w = .ok () (World.lay w b (.cells (layA c (o + i) vs) el fr)) := by
  intro vs
  induction vs with
  | nil => intro i w c hw _ _ _; simp [storeCells, layA, lay_self hw]
  | cons v vs ih =>
    intro i w c hw hle hfz hone
    simp only [List.length_cons] at hle hfz
    have hcell : ∃ u, w.cell? ((⟨b, o, none⟩ : Addr).add i) = some u := by
      rw [Addr.add_mk, cell_at hw]
      exact ⟨_, Array.getElem?_eq_getElem (by omega)⟩
    obtain ⟨u, hu⟩ := hcell
    have hnf : w.frozen? ((⟨b, o, none⟩ : Addr).add i) = false := by
      rw [Addr.add_mk, frozen_at hw]
      have := hfz (o + i) (by omega) (by omega)
      simp; omega
    have hs := run_store P w ((⟨b, o, none⟩ : Addr).add i) v .plain (hone v (by simp))
    rw [hu] at hs
    simp only [hnf] at hs
    simp only [storeCells, Sem.run_bind]
    rw [hs]
    simp only [Result.andThen_ok, Bool.false_eq_true, if_false]
    rw [Addr.add_mk, setCell_lay hw]
    rw [ih (i + 1) _ _ (lay_get hw) (by simp; omega) (fun j h1 h2 => hfz j (by omega) (by omega)) (fun v hv => hone v (by simp [hv]))]
    rw [lay_lay]
    rfl

theorem VRel.oneCell {v : V} {v' : Value} (r : VRel φ v v') (hf : v.flat = true) : v'.oneCell' = true := by
  cases r <;> first | rfl | (simp [V.flat] at hf; done)
theorem VsRel.oneCell : ∀ {l : List V} {l' : List Value}, VsRel φ l l' → allFlat l = true → ∀ v ∈ l', v.oneCell' = true
  | _, _, .nil, _, v, hv => by cases hv
  | _, _, .cons r t, hf, v, hv => by
    simp only [allFlat, Bool.and_eq_true] at hf
    rcases List.mem_cons.1 hv with rfl | hv
    · exact r.oneCell hf.1
    · exact t.oneCell hf.2 v hv

/-- One block is changed. -/
theorem Ext.put (r : HRel φ h w) {b : BId} {ph : Ph} {x x' : Blk} {o' : Obj} {w' : World} (hp : φ b = some ph) (hb : h.rd b = some x) (hro : x.ro = false)
    (hw : w'.heap[ph.blk]? = some o') (hx : BRel φ ph x' (some o')) (hne : ∀ i, i ≠ ph.blk → w'.heap[i]? = w.heap[i]?) (hsz : w'.heap.size = w.heap.size)
    (ht : w'.tape = w.tape) (hos : w'.os = w.os) (hout : w'.output = w.output) : Ext φ h w φ (h.set b (some x')) w' where
  sub := Phi.le_refl _
  rel := {
    blk := fun c q y hc hy => by
      by_cases e : c = b
      · subst e
        rw [Hp.rd_set_same] at hy
        cases hy
        rw [hp] at hc; cases hc
        rw [hw]; exact hx
      · rw [Hp.rd_set_ne e] at hy
        have hq : q.blk ≠ ph.blk := fun he => e (r.inj _ _ _ _ _ _ hc hp hy hb he)
        rw [hne _ hq]
        exact r.blk _ _ _ hc hy
    inj := fun c d p q y z hc hd hy hz e => by
      have f : ∀ c y, (h.set b (some x')).rd c = some y → ∃ y', h.rd c = some y' := fun c y hy => by
        by_cases e : c = b
        · subst e; exact ⟨_, hb⟩
        · rw [Hp.rd_set_ne e] at hy; exact ⟨_, hy⟩
      obtain ⟨y', hy'⟩ := f c y hy
      obtain ⟨z', hz'⟩ := f d z hz
      exact r.inj _ _ _ _ _ _ hc hd hy' hz' e
    old := r.old
    next := r.next
    grk := r.grk
    exz := fun n q y hc hy hr => by
      by_cases e : BId.ex n = b
      · subst e; exact r.exz n q x hc hb hro
      · rw [Hp.rd_set_ne e] at hy; exact r.exz n q y hc hy hr }
  size := by omega
  unch := fun i _ hno => hne i (fun e => hno b ph x hp hb hro e.symm)
  fresh := fun c q y hc hy => by
    by_cases e : c = b
    · subst e
      exact .inl ⟨c, q, x, hc, hb, rfl, fun z => by rw [hro] at z; cases z⟩
    · rw [Hp.rd_set_ne e] at hy
      exact .inl ⟨c, q, y, hc, hy, rfl, id⟩
  abs := fun c hc _ => by
    have e : c ≠ b := fun e => by subst e; rw [hp] at hc; cases hc
    rw [Hp.rd_set_ne e]
  newid := fun _ e e' => absurd e e'
  next := Nat.le_refl _
  tape := ht
  os := hos
  out := hout

theorem fz_lay {sh size o n : Nat} {fr : Nat × Nat} {fz : Option Nat} (hf : fzOk sh size fr fz) (hk : okFz fz o = true) (hle : sh + o + n ≤ size) :
    ∀ j, sh + o ≤ j → j < sh + o + n → ¬ (fr.1 ≤ j ∧ j < fr.2) := by
  intro j h1 h2
  cases fz with
  | none => simp [okFz] at hk
  | some k =>
    simp only [okFz, Nat.ble_eq] at hk
    have := hf (j - sh) (by omega) (by omega)
    rwa [show sh + (j - sh) = j from by omega] at this

theorem wr_cells (r : HRel φ h w) {a : Ad} {a' : Addr} {vs : List V} {vs' : List Value} {e : Eff} (hp : PRel φ a a') (hv : VsRel φ vs vs') (hr : wrCells h.rd a vs = some e) :
    ∃ w', (storeCells a' vs').run P w = .ok () w' ∧ Ext φ h w φ (h.eff e) w' := by
  obtain ⟨ph, hph, rfl⟩ := hp
  unfold wrCells wrB at hr
  split at hr
  · rename_i cs el fz st ro gz hb
    cases hc : (!ro && okFz fz a.o && allFlat vs) with
    | false => rw [hc] at hr; cases hr
    | true =>
      rw [hc] at hr
      simp only [cond_true, wrBlk] at hr
      simp only [Bool.and_eq_true, Bool.not_eq_true'] at hc
      obtain ⟨⟨hro, hfz⟩, hfl⟩ := hc
      split at hr
      · rename_i cs' hl
        simp at hr; subst hr
        obtain ⟨c, fr, hw, hcs, hsz, hf, hst⟩ := r.cells hph hb
        obtain ⟨h1, h2, h3⟩ := lay_spec hl
        have hlen := hv.length
        have hcap : ph.sh + cs.length ≤ c.size := by
          revert hsz
          cases ph.gr with
          | none => simp only [szOk]; omega
          | some g => obtain ⟨sz, m⟩ := g; simp only [szOk]; omega
        have hrun := run_storeCells P ph.blk (ph.sh + a.o) el fr vs' 0 w c hw (by omega) (fun j j1 j2 => fz_lay hf hfz (n := vs'.length) (by omega) j (by omega) (by omega)) (hv.oneCell hfl)
        refine ⟨_, hrun, ?_⟩
        refine Ext.put r hph hb (by simp [Blk.ro, hro]) (lay_get hw) ?_ (fun i hi => lay_ne (Ne.symm hi)) lay_size rfl rfl rfl
        refine .cells (fun j v hj => ?_) ?_ ?_ hst
        · rw [h3 j] at hj
          rw [layA_get _ _ _ _ (by omega)]
          by_cases hin : a.o ≤ j ∧ j < a.o + vs.length
          · rw [if_pos hin] at hj
            obtain ⟨v', e1, e2⟩ := hv.get hj
            exact ⟨v', by rw [if_pos (by omega), show ph.sh + j - (ph.sh + a.o + 0) = j - a.o from by omega]; exact e1, e2⟩
          · rw [if_neg hin] at hj
            rw [if_neg (by omega)]
            exact hcs j v hj
        · rw [h2, layA_size]; exact hsz
        · rw [layA_size]; exact hf
      · cases hr
  · cases hr

/-! ### A new block -/

def Phi.add (φ : Phi) (b : BId) (ph : Ph) : Phi := fun c => if c = b then some ph else φ c
theorem Phi.add_le {φ : Phi} {b : BId} {ph : Ph} (e : φ b = none) : φ.le (φ.add b ph) := fun c q hc => by
  unfold Phi.add
  rw [if_neg (fun x => by subst x; rw [e] at hc; cases hc)]
  exact hc
theorem Phi.add_same {φ : Phi} {b : BId} {ph : Ph} : φ.add b ph b = some ph := by simp [Phi.add]
theorem Phi.add_ne {φ : Phi} {b c : BId} {ph : Ph} (h : c ≠ b) : φ.add b ph c = φ c := by simp [Phi.add, h]

theorem gId_ne_old (g : Bool) (n m : Nat) : (BId.old m) ≠ gId g n := by cases g <;> simp [gId]
theorem gId_new (g : Bool) (n : Nat) : (gId g n).isNew n := by cases g <;> simp [gId, BId.isNew]
theorem gId_not_new (g : Bool) {m n : Nat} (h : n < m) : ¬ (gId g n).isNew m := by cases g <;> simp [gId, BId.isNew] <;> omega
theorem new_cases {n : Nat} {b : BId} (h : b.isNew n) (h' : ¬ b.isNew (n + 1)) : b = gId true n ∨ b = gId false n := by
  cases b <;> simp [BId.isNew, gId] at * <;> omega

/-- A block is laid at the heap's end, under a name that is the next one's. -/
theorem Ext.push (r : HRel φ h w) {g : Bool} {ph : Ph} {x : Blk} {o : Obj} {w' : World} (hgk : ph.gr.isSome = g ∧ ph.sh = 0) (hpb : ph.blk = w.heap.size) (hx : BRel φ ph x (some o))
    (hw : w'.heap = w.heap.push o) (ht : w'.tape = w.tape) (hos : w'.os = w.os) (hout : w'.output = w.output) :
    Ext φ h w (φ.add (gId g h.next) ph) (h.push g x) w' := by
  have hnone : ∀ g, φ (gId g h.next) = none := fun g => r.next _ (gId_new g _)
  have hle : φ.le (φ.add (gId g h.next) ph) := Phi.add_le (hnone g)
  have hnew : w'.heap[ph.blk]? = some o := by rw [hw, hpb]; simp
  have hold : ∀ i, i < w.heap.size → w'.heap[i]? = w.heap[i]? := fun i hi => by rw [hw, Array.getElem?_push, if_neg (by omega)]
  have hlive : ∀ b q y, φ b = some q → h.rd b = some y → q.blk < w.heap.size := fun b q y hb hy => by
    obtain ⟨z, hz⟩ := (r.blk b q y hb hy).some
    exact (Array.getElem?_eq_some_iff.1 hz).1
  have hrd : ∀ b, b ≠ gId g h.next → (h.push g x).rd b = h.rd b := fun b e => by simp [Hp.push, Hp.set, e]
  have hrs : (h.push g x).rd (gId g h.next) = some x := by simp [Hp.push, Hp.set]
  refine ⟨hle, ⟨?_, ?_, ?_, ?_, ?_, ?_⟩, by rw [hw]; simp, fun i hi _ => hold i hi, ?_, ?_, ?_, by simp [Hp.push], ht, hos, hout⟩
  · intro b q y hb hy
    by_cases e : b = gId g h.next
    · subst e
      rw [hrs] at hy; cases hy
      rw [Phi.add_same] at hb; cases hb
      rw [hnew]; exact hx.mono hle
    · rw [hrd b e] at hy
      rw [Phi.add_ne e] at hb
      rw [hold _ (hlive b q y hb hy)]
      exact (r.blk b q y hb hy).mono hle
  · intro b c p q y z hb hc hy hz e
    by_cases e1 : b = gId g h.next
    · by_cases e2 : c = gId g h.next
      · rw [e1, e2]
      · rw [hrd c e2] at hz
        rw [Phi.add_ne e2] at hc
        subst e1
        rw [Phi.add_same] at hb; cases hb
        have := hlive c q z hc hz
        omega
    · rw [hrd b e1] at hy
      rw [Phi.add_ne e1] at hb
      by_cases e2 : c = gId g h.next
      · subst e2
        rw [Phi.add_same] at hc; cases hc
        have := hlive b p y hb hy
        omega
      · rw [hrd c e2] at hz
        rw [Phi.add_ne e2] at hc
        exact r.inj b c p q y z hb hc hy hz e
  · intro n
    rw [Phi.add_ne (gId_ne_old g _ n)]
    exact r.old n
  · intro b hb
    have e : b ≠ gId g h.next := fun e => by subst e; exact gId_not_new g (Nat.lt_succ_self _) hb
    rw [Phi.add_ne e]
    exact r.next b (BId.isNew_mono (Nat.le_succ _) hb)
  · intro b q hb
    by_cases e : b = gId g h.next
    · subst e
      rw [Phi.add_same] at hb; cases hb
      rw [hgk.1]; cases g <;> rfl
    · rw [Phi.add_ne e] at hb
      exact r.grk b q hb
  · intro n q y hb hy hr
    by_cases e : BId.ex n = gId g h.next
    · rw [e, Phi.add_same] at hb; cases hb
      exact hgk.2
    · rw [Phi.add_ne e] at hb
      rw [hrd _ e] at hy
      exact r.exz n q y hb hy hr
  · intro b q y hb hy
    by_cases e : b = gId g h.next
    · subst e
      rw [Phi.add_same] at hb; cases hb
      exact .inr (by omega)
    · rw [hrd b e] at hy
      rw [Phi.add_ne e] at hb
      exact .inl ⟨b, q, y, hb, hy, rfl, id⟩
  · intro b hb hn
    exact hrd b (fun e => by subst e; exact hn (gId_new g _))
  · intro b hb hb'
    by_cases e : b = gId g h.next
    · subst e; exact gId_new g _
    · rw [Phi.add_ne e] at hb'; exact absurd hb hb'

end
end Go.AM

/- What each operation does, abstractly and in the model: the plain ones. -/
namespace Go.AM

inductive NxV : Next → Value → Prop
  | val (v : Value) : NxV (.value v) v
  | skip : NxV .skip undef

def ResSim (P : Program) (φ : Phi) (h : Hp) (w : World) (r : Result Next) : Res → Prop
  | .fail => True
  | .ok v e => ∃ nx v' w', r = .ok nx w' ∧ NxV nx v' ∧ VRel φ v v' ∧ Ext φ h w φ (h.eff e) w'
  | .mk g v x => ∃ ph v' o w', r = .ok (.value v') w' ∧ (ph.gr.isSome = g ∧ ph.sh = 0) ∧ ph.blk = w.heap.size ∧ w'.heap = w.heap.push o ∧ (w'.tape = w.tape ∧ w'.os = w.os ∧ w'.output = w.output) ∧ BRel φ ph x (some o) ∧
      ∀ (ψ : Phi) n, ψ (gId g n) = some ph → VRel ψ (v n) v'
  | .rep v kill x => ∃ ph v' o w' pk y, r = .ok (.value v') w' ∧ ph.gr.isSome = true ∧ (w'.tape = w.tape ∧ w'.os = w.os ∧ w'.output = w.output) ∧ BRel φ ph x (some o) ∧ x.ro = false ∧
      (∀ (ψ : Phi) n, ψ (.gr n) = some ph → VRel ψ (v n) v') ∧ φ kill = some pk ∧ h.rd kill = some y ∧ y.ro = false ∧
      ((ph.blk = w.heap.size ∧ w'.heap = w.heap.push o) ∨ (ph.blk = pk.blk ∧ w'.heap = w.heap.setIfInBounds ph.blk o))
  | .call f args => ∃ args' : Array Value, r = (callFunc f args').run P w ∧ VsRel φ args args'.toList
  | .dfr f args => ∃ f' args' d, r = .ok (.defer d) w ∧ VRel φ f f' ∧ VsRel φ args (Array.toList args') ∧ (Deferred.ofValue f' args').run P w = .ok d w
  | .any l => ∃ x ∈ l, ∃ v' w', r = .ok (.value v') w' ∧ VRel φ x.1 v' ∧ Ext φ h w φ (h.eff x.2) w'

/-- 'v', 'u' as execOp uses them. -/
def vv (s : Sem Value) : Sem Next := do pure (.value (← s))
def uu (s : Sem Unit) : Sem Next := do s; pure .skip

section
variable {P : Program} {φ : Phi} {h : Hp} {w : World}

theorem okO_sim {x : Option V} {s : Sem Value} (r : HRel φ h w) (hx : ∀ v, x = some v → ∃ v', VRel φ v v' ∧ s.run P w = .ok v' w) : ResSim P φ h w ((vv s).run P w) (okO x) := by
  cases x with
  | none => exact trivial
  | some v =>
    obtain ⟨v', h1, h2⟩ := hx v rfl
    exact ⟨_, v', w, by simp [vv, h2], .val _, h1, Ext.refl r⟩
theorem ok_sim {v : V} {v' : Value} {s : Sem Value} (r : HRel φ h w) (hv : VRel φ v v') (hs : s.run P w = .ok v' w) : ResSim P φ h w ((vv s).run P w) (.ok v .no) :=
  ⟨_, v', w, by simp [vv, hs], .val _, hv, Ext.refl r⟩
theorem fail_sim {r : Result Next} : ResSim P φ h w r .fail := trivial
theorem effO_simU {v : V} {e : Option Eff} {s : Sem Unit} (hv : VRel φ v undef) (hx : ∀ x, e = some x → ∃ w', s.run P w = .ok () w' ∧ Ext φ h w φ (h.eff x) w') :
    ResSim P φ h w ((uu s).run P w) (effO v e) := by
  cases e with
  | none => exact trivial
  | some x =>
    obtain ⟨w', h1, h2⟩ := hx x rfl
    exact ⟨.skip, undef, w', by simp [uu, h1], .skip, hv, h2⟩
theorem undef_rel : VRel φ (.tup []) undef := .tup .nil

/-! ### Types -/

theorem run_typeInfo_some {t : TypeId} {i : TypeInfo} (e : P.info? t = some i) (w : World) : (typeInfo t).run P w = .ok i w := by simp [typeInfo, e]
theorem run_underlying_some {t : TypeId} {d : TypeDesc} (e : P.underlying t = some d) (w : World) : (underlying t).run P w = .ok d w := by simp [underlying, e]
theorem szOf_run {t : TypeId} {n : Nat} (e : szOf P t = some n) (w : World) : (sizeOf t).run P w = .ok n w := by
  unfold szOf at e
  split at e
  · rename_i i hi; simp at e; subst e; simp [sizeOf, run_typeInfo_some hi]
  · cases e
theorem szOf_cells {t : TypeId} {n : Nat} (e : szOf P t = some n) : P.cellsOf t = n := by
  unfold szOf at e
  split at e
  · rename_i i hi; simp at e; subst e; simp [Program.cellsOf, hi]
  · cases e
theorem aggN_some {t : TypeId} {n : Nat} (e : aggN P t = some (some n)) (w : World) : (isAgg t).run P w = .ok true w ∧ (sizeOf t).run P w = .ok n w := by
  unfold aggN at e
  split at e
  · cases e
  · rename_i d hd
    split at e
    · cases e
    · rename_i i hi
      have hs : (sizeOf t).run P w = .ok i.size w := by simp [sizeOf, run_typeInfo_some hi]
      cases d <;> simp at e <;> subst e <;> simp [isAgg, run_underlying_some hd, hs]
theorem aggN_none {t : TypeId} (e : aggN P t = some none) (w : World) : (isAgg t).run P w = .ok false w := by
  unfold aggN at e
  split at e
  · cases e
  · rename_i d hd
    split at e
    · cases e
    · rename_i i hi
      cases d <;> simp at e <;> simp [isAgg, run_underlying_some hd]
theorem run_zeroValue_some {t : TypeId} {i : TypeInfo} {z : Value} (e : P.info? t = some i) (hz : i.zero = some z) (w : World) : (zeroValue t).run P w = .ok z w := by
  simp [zeroValue, run_typeInfo_some e, hz]

mutual
theorem absC_rel : ∀ {x : Value} {v : V}, absC x = some v → VRel φ v x
  | .bool b, v, e => by simp [absC] at e; subst e; exact .b b
  | .int k n, v, e => by simp [absC] at e; subst e; exact .i k n
  | .string s, v, e => by simp [absC] at e; subst e; exact .s rfl
  | .pointer none, v, e => by simp [absC] at e; subst e; exact .p0
  | .pointer (some a), v, e => by simp [absC] at e
  | .slice none 0 0, v, e => by simp [absC] at e; subst e; exact .sl0 0 0
  | .slice none 0 (n + 1), v, e => by simp [absC] at e
  | .slice none (n + 1) c, v, e => by simp [absC] at e
  | .slice (some a) n c, v, e => by simp [absC] at e
  | .map none, v, e => by simp [absC] at e; subst e; exact .m0
  | .map (some r), v, e => by simp [absC] at e
  | .nilFunc, v, e => by simp [absC] at e; subst e; exact .nf
  | .nilIface, v, e => by simp [absC] at e; subst e; exact .ni
  | .agg ⟨cs⟩, v, e => by
    simp only [absC] at e
    split at e
    · rename_i l hl; simp at e; subst e; exact .agg (absCs_rel hl)
    · cases e
  | .tuple ⟨cs⟩, v, e => by
    simp only [absC] at e
    split at e
    · rename_i l hl; simp at e; subst e; exact .tup (absCs_rel hl)
    · cases e
  | .float _ _, v, e => by simp [absC] at e
  | .complex _ _ _, v, e => by simp [absC] at e
  | .chan _, v, e => by simp [absC] at e
  | .func _ _ _, v, e => by simp [absC] at e
  | .iface _ _, v, e => by simp [absC] at e
theorem absCs_rel : ∀ {x : List Value} {l : List V}, absCs x = some l → VsRel φ l x
  | [], l, e => by simp [absCs] at e; subst e; exact .nil
  | x :: xs, l, e => by
    simp only [absCs] at e
    split at e
    · rename_i v l' h1 h2; simp at e; subst e; exact .cons (absC_rel h1) (absCs_rel h2)
    · cases e
end

theorem zeroOf_run {t : TypeId} {z : V} (e : zeroOf P t = some z) (φ : Phi) (w : World) : ∃ zv, (zeroValue t).run P w = .ok zv w ∧ VRel φ z zv := by
  unfold zeroOf at e
  split at e
  · rename_i i hi
    split at e
    · rename_i zv hz
      exact ⟨zv, run_zeroValue_some hi hz w, absC_rel e⟩
    · cases e
  · cases e

theorem VRel.cells {v : V} {v' : Value} (r : VRel φ v v') : VsRel φ v.cells v'.cells.toList := by
  cases r with
  | agg h => exact h
  | raw h => cases v' <;> simp [isRaw] at h <;> exact .cons (.raw rfl) .nil
  | _ => exact .cons (by constructor <;> assumption) .nil

/-! ### Operands -/

def OR (φ : Phi) (env : Ev) (ρ : Operand → Value) (o : Oper) : Prop := ∀ x, x ∈ o.op.operands → ∀ X, cOpd x = some X → VRel φ (val env X) (ρ x)

/-! ### One by one -/

theorem sim_pick {c a b : V} {c' a' b' : Value} (r : HRel φ h w) (hc : VRel φ c c') (ha : VRel φ a a') (hb : VRel φ b b') :
    ResSim P φ h w ((do pure (Next.value (if ← asBool c' then a' else b')) : Sem Next).run P w) (aPick c a b) := by
  cases hc with
  | b x =>
    refine ⟨_, if x then a' else b', w, by simp [asBool], .val _, ?_, Ext.refl r⟩
    cases x
    · exact hb
    · exact ha
  | _ => exact trivial

theorem new_sim {s : Sem Value} {v' : Value} {g : Bool} {v : Nat → V} {x : Blk} {o : Obj} {ph : Ph} (hs : s.run P w = .ok v' (w.alloc o)) (hp : ph.blk = w.heap.size) (hx : BRel φ ph x (some o))
    (hv : ∀ (ψ : Phi) n, ψ (gId g n) = some ph → VRel ψ (v n) v') (hg : ph.gr.isSome = g := by rfl) (hz : ph.sh = 0 := by rfl) : ResSim P φ h w ((vv s).run P w) (.mk g v x) :=
  ⟨ph, v', o, w.alloc o, by simp [vv, hs], ⟨hg, hz⟩, hp, rfl, ⟨rfl, rfl, rfl⟩, hx, hv⟩

theorem exBlk_rel {cs : List V} {c : Array Value} {el : TypeId} {b : Nat} (hc : VsRel φ cs c.toList) : BRel φ ⟨b, 0, none⟩ (exBlk cs el) (some (.cells c el)) := by
  refine .cells (fun i v hi => ?_) ?_ ?_ ?_
  · obtain ⟨v', h1, h2⟩ := hc.get hi
    exact ⟨v', by simpa using h1, h2⟩
  · simp [szOk, hc.length]
  · intro off _ _; simp
  · intro _; rfl
theorem exP_rel {ψ : Phi} {n b : Nat} (e : ψ (.ex n) = some ⟨b, 0, none⟩) : VRel ψ (exP n) (.pointer (some ⟨b, 0, none⟩)) := .p ⟨_, e, by simp⟩

theorem sim_new {cs : List V} {el : TypeId} {zv : Value} (hz : (zeroValue el).run P w = .ok zv w) (hc : VsRel φ cs zv.cells.toList) :
    ResSim P φ h w ((vv (Instr.alloc el true (.tuple #[]))).run P w) (.mk false exP (exBlk cs el)) :=
  new_sim (v' := .pointer (some ⟨w.heap.size, 0, none⟩)) (o := .cells zv.cells el) (by simp [Instr.alloc, hz, newVar, newRow]) rfl (exBlk_rel hc) (fun ψ n e => exP_rel e)
theorem sim_box {x : V} {x' : Value} {el : TypeId} (hx : VRel φ x x') : ResSim P φ h w ((vv (Instr.box el x')).run P w) (aBox x el) := by
  unfold aBox
  cases allFlat x.cells with
  | false => exact trivial
  | true => exact new_sim (v' := .pointer (some ⟨w.heap.size, 0, none⟩)) (o := .cells x'.cells el) (by simp [Instr.box, newVar, newRow]) rfl (exBlk_rel hx.cells) (fun ψ n e => exP_rel e)

theorem sim_load {t : TypeId} {n : Option Nat} {a : V} {a' : Value} (r : HRel φ h w) (hn : aggN P t = some n) (ha : VRel φ a a') :
    ResSim P φ h w ((vv (Instr.loadAt t a')).run P w) (aLoad h.rd n a) := by
  cases ha with
  | p hp =>
    rename_i a a'
    refine okO_sim r fun v hv => ?_
    have hl : (Instr.loadAt t (.pointer (some a'))).run P w = (loadVar t a').run P w := by simp [Instr.loadAt, Instr.sureAddr]
    rw [hl]
    cases n with
    | none => exact loadVar_one r (aggN_none hn w) hp hv
    | some k =>
      simp only [aggO] at hv
      split at hv
      · rename_i l hl'
        simp at hv; subst hv
        obtain ⟨x, h1, h2⟩ := loadVar_agg r (aggN_some hn w).1 (aggN_some hn w).2 hp hl'
        exact ⟨_, .agg h1, h2⟩
      · cases hv
  | _ => exact trivial

theorem sim_store {t : TypeId} {n : Nat} {a x : V} {a' x' : Value} (r : HRel φ h w) (hn : szOf P t = some n) (ha : VRel φ a a') (hx : VRel φ x x') :
    ResSim P φ h w ((uu (Instr.storeAt t a' x')).run P w) (aStore h.rd n a x) := by
  cases ha with
  | p hp =>
    rename_i a a'
    simp only [aStore]
    cases hl : Nat.beq x.cells.length n with
    | false => exact trivial
    | true =>
      have hlen : x'.cells.size = n := by
        have h1 := hx.cells.length
        have h2 := Nat.eq_of_beq_eq_true hl
        simp at h1; omega
      refine effO_simU undef_rel fun e he => ?_
      obtain ⟨w', h1, h2⟩ := wr_cells (P := P) r hp hx.cells he
      exact ⟨w', by simp [Instr.storeAt, Instr.sureAddr, storeVar, szOf_run hn, hlen, h1], h2⟩
  | _ => exact trivial

theorem sim_nilc {x : V} {x' : Value} (r : HRel φ h w) (hx : VRel φ x x') : ResSim P φ h w ((execOp (fun _ => x') { (default : Oper) with op := .nilCheck (.tmp 0) }).run P w) (aNilc x) := by
  cases hx with
  | p hp => exact ⟨_, _, w, rfl, .val _, .p hp, Ext.refl r⟩
  | ifc t hv => exact ⟨_, _, w, rfl, .val _, .ifc t hv, Ext.refl r⟩
  | fn f h1 h2 =>
    cases f with
    | func f => exact ⟨_, _, w, rfl, .val _, .fn _ h1 h2, Ext.refl r⟩
    | _ => exact trivial
  | _ => exact trivial

end
end Go.AM

/- What each operation does, abstractly and in the model: numbers, strings, equality. -/
namespace Go.AM

section
variable {P : Program} {φ : Phi} {h : Hp} {w : World}

theorem VRel.str {l : List UInt8} {x : Value} (r : VRel φ (.s l) x) : ∃ s : ByteArray, x = .string s ∧ s.data.toList = l := by
  cases r with | s e => exact ⟨_, rfl, e⟩
theorem VRel.int {k : IntKind} {n : Int} {x : Value} (r : VRel φ (.i k n) x) : x = .int k n := by cases r; rfl
theorem VRel.bool {b : Bool} {x : Value} (r : VRel φ (.b b) x) : x = .bool b := by cases r; rfl

/-! ### Equality -/

structure PtrT (P : Program) (t : TypeId) : Prop where
  ex : ∃ e n i, P.underlying t = some (.pointer e) ∧ szOf P e = some n ∧ n ≠ 0 ∧ P.info? t = some i ∧ i.comparable = true
def PtrsOk (P : Program) (ptrs : List TypeId) : Prop := ∀ t, memN t ptrs = true → PtrT P t
theorem ptrsOk_nil : PtrsOk P [] := fun t e => by simp [memN] at e
theorem ptrsOk_tys : PtrsOk P (ptrTys P) := fun t e => by
  rw [memN_eq] at e
  simp only [ptrTys, List.contains_iff_mem, List.mem_filter] at e
  obtain ⟨_, e⟩ := e
  split at e
  · rename_i el hu
    simp only [Bool.and_eq_true] at e
    obtain ⟨e1, e2⟩ := e
    split at e1
    · rename_i n hn
      split at e2
      · rename_i i hi
        refine ⟨el, n, i, hu, hn, ?_, hi, e2⟩
        rw [beq_nat] at e1
        simpa using e1
      · cases e2
    · cases e1
  · cases e

theorem noStr_spec (r : HRel φ h w) {a : Ad} {ph : Ph} (hp : φ a.b = some ph) (e : noStr (h.rd a.b) = true) :
    ∃ c el fr, w.heap[ph.blk]? = some (.cells c el fr) ∧ ∀ off, ¬ (fr.1 ≤ off ∧ off < fr.2) := by
  unfold noStr at e
  split at e
  · rename_i cs el fz st ro gz hb
    obtain ⟨c, fr, hw, _, _, _, hst⟩ := r.cells hp hb
    exact ⟨c, el, fr, hw, fun off => by have := hst (by simpa using e); omega⟩
  · cases e

theorem samePlain_sim (r : HRel φ h w) {a b : Ad} {a' b' : Addr} {x : Bool} (ha : PRel φ a a') (hb : PRel φ b b') (e : samePlain h.rd a b = some x) :
    (sameAddr a' b').run P w = .ok x w := by
  obtain ⟨p, hp, rfl⟩ := ha
  obtain ⟨q, hq, rfl⟩ := hb
  unfold samePlain at e
  rw [bid_beq] at e
  by_cases hc : a.b = b.b
  · rw [hc] at hp
    rw [hp] at hq; cases hq
    simp only [hc, decide_true, cond_true] at e
    simp only [sameAddr]
    cases hl : isLive (h.rd b.b) with
    | false => rw [hl] at e; cases e
    | true =>
      rw [hl] at e
      simp only [cond_true, Option.some.injEq] at e
      subst e
      rw [beq_nat]
      simp only [beq_self_eq_true, if_true, Sem.run_pure]
      congr 1
      rw [Bool.eq_iff_iff]
      simp
  · simp only [hc, decide_false, cond_false] at e
    cases hn : (noStr (h.rd a.b) && noStr (h.rd b.b)) with
    | false => rw [hn] at e; cases e
    | true =>
      rw [hn] at e
      simp only [cond_true, Option.some.injEq] at e
      subst e
      simp only [Bool.and_eq_true] at hn
      obtain ⟨c1, el1, fr1, hw1, hf1⟩ := noStr_spec r hp hn.1
      obtain ⟨c2, el2, fr2, hw2, hf2⟩ := noStr_spec r hq hn.2
      have hne : p.blk ≠ q.blk := fun he => hc (by
        have l1 : ∃ x, h.rd a.b = some x := by
          have := hn.1; unfold noStr at this; split at this <;> simp_all
        have l2 : ∃ x, h.rd b.b = some x := by
          have := hn.2; unfold noStr at this; split at this <;> simp_all
        obtain ⟨x, hx⟩ := l1
        obtain ⟨y, hy⟩ := l2
        exact r.inj _ _ _ _ _ _ hp hq hx hy he)
      have fz1 : ∀ o, w.frozen? ⟨p.blk, o, none⟩ = false := fun o => by
        rw [frozen_at hw1]; have := hf1 o; simp; omega
      have fz2 : ∀ o, w.frozen? ⟨q.blk, o, none⟩ = false := fun o => by
        rw [frozen_at hw2]; have := hf2 o; simp; omega
      have s1 : w.shape? p.blk = some (el1, c1.size) := by simp [World.shape?, hw1]
      have s2 : w.shape? q.blk = some (el2, c2.size) := by simp [World.shape?, hw2]
      simp [sameAddr, hne, fz1, fz2, noView, viewAt, s1, s2, mayBeOne, stringish]

theorem samePV_sim (r : HRel φ h w) {d : Nat} {t : TypeId} {x y : V} {x' y' : Value} {b : Bool} (ht : ∃ e n, P.underlying t = some (.pointer e) ∧ szOf P e = some n ∧ n ≠ 0)
    (hx : VRel φ x x') (hy : VRel φ y y') (e : samePV h.rd x y = some b) : (Op.equalIn (d + 1) t x' y').run P w = .ok b w := by
  obtain ⟨el, n, hu, hs, hn⟩ := ht
  cases hx with
  | p0 =>
    cases hy with
    | p0 => simp [samePV, samePtr] at e; subst e; simp [Op.equalIn, run_underlying_some hu]
    | p h2 => simp [samePV, samePtr] at e; subst e; simp [Op.equalIn, run_underlying_some hu]
    | _ => simp [samePV] at e
  | p h1 =>
    cases hy with
    | p0 => simp [samePV, samePtr] at e; subst e; simp [Op.equalIn, run_underlying_some hu]
    | p h2 =>
      simp only [samePV, samePtr] at e
      simp [Op.equalIn, run_underlying_some hu, szOf_run hs, hn, samePlain_sim r h1 h2 e]
    | _ => simp [samePV] at e
  | _ => cases hy <;> simp [samePV] at e

theorem partV_sim {cs : List V} {c : Array Value} {off : Nat} {n : Option Nat} {t : TypeId} {v : V} (hn : aggN P t = some n) (hc : VsRel φ cs c.toList) (e : partV cs off n = some v) :
    ∃ v', VRel φ v v' ∧ (part t c off).run P w = .ok v' w := by
  unfold partV at e
  cases n with
  | some k =>
    obtain ⟨l, hl, rfl⟩ := aggO_spec e
    · obtain ⟨h1, h2, h3⟩ := cut_spec hl
      obtain ⟨g1, g2⟩ := aggN_some hn w
      have hlen : cs.length = c.size := by simpa using hc.length
      refine ⟨.agg (c.extract off (off + k)), .agg (VsRel.of_get (by simp; omega) fun i v hi => ?_), by simp [part, g1, g2]⟩
      have hik : i < k := by
        rcases Nat.lt_or_ge i l.length with h' | h'
        · omega
        · simp [List.getElem?_eq_none h'] at hi
      rw [h3 i hik] at hi
      obtain ⟨v', e1, e2⟩ := hc.get hi
      refine ⟨v', ?_, e2⟩
      simp at e1 ⊢
      rw [← e1]
      simp [hik]
  | none =>
    have hl := one_spec e
    · obtain ⟨h1, h2, h3⟩ := cut_spec hl
      have := h3 0 (by omega)
      simp at this
      obtain ⟨v', e1, e2⟩ := hc.get this.symm
      simp at e1
      exact ⟨v', e2, by simp [part, aggN_none hn w, e1]⟩

theorem eqB_sim {d : Nat} {t : TypeId} {x y : V} {x' y' : Value} {b : Bool} (hu : P.underlying t = some .bool) (hx : VRel φ x x') (hy : VRel φ y y') (e : eqB x y = some b) :
    (Op.equalIn (d + 1) t x' y').run P w = .ok b w := by
  cases hx with
  | b p =>
    cases hy with
    | b q => simp [eqB] at e; subst e; exact run_equalIn_bool w d t p q hu
    | _ => simp [eqB] at e
  | _ => simp [eqB] at e
theorem eqI_sim {d : Nat} {t : TypeId} {kk : IntKind} {x y : V} {x' y' : Value} {b : Bool} (hu : P.underlying t = some (.int kk)) (hx : VRel φ x x') (hy : VRel φ y y') (e : eqI x y = some b) :
    (Op.equalIn (d + 1) t x' y').run P w = .ok b w := by
  cases hx with
  | i k1 n1 =>
    cases hy with
    | i k2 n2 =>
      simp only [eqI] at e
      rw [kbeq_eq] at e
      by_cases hkk : k1 = k2
      · subst hkk
        simp at e; subst e
        rw [ibeq_eq]
        exact run_equalIn_int w d t k1 kk n1 n2 hu
      · simp [hkk] at e
    | _ => simp [eqI] at e
  | _ => simp [eqI] at e
theorem eqS_sim {d : Nat} {t : TypeId} {x y : V} {x' y' : Value} {b : Bool} (hu : P.underlying t = some .string) (hx : VRel φ x x') (hy : VRel φ y y') (e : eqS x y = some b) :
    (Op.equalIn (d + 1) t x' y').run P w = .ok b w := by
  cases hx with
  | s h1 =>
    cases hy with
    | s h2 =>
      simp [eqS] at e; subst e
      rw [bytesEq_eq, run_equalIn_string w d t _ _ hu, ByteArray.toList_eq, ByteArray.toList_eq, h1, h2]
    | _ => simp [eqS] at e
  | _ => simp [eqS] at e
theorem eqNs_sim {d : Nat} {t el : TypeId} {x y : V} {x' y' : Value} {b : Bool} (hu : P.underlying t = some (.slice el)) (hx : VRel φ x x') (hy : VRel φ y y') (e : eqNs x y = some b) :
    (Op.equalIn (d + 1) t x' y').run P w = .ok b w := by
  cases hx with
  | sl0 n c =>
    cases hy with
    | sl0 n2 c2 => simp [eqNs, nilO] at e; subst e; simp [Op.equalIn, run_underlying_some hu]
    | sl h2 => simp [eqNs, nilO] at e; subst e; simp [Op.equalIn, run_underlying_some hu]
    | _ => simp [eqNs] at e
  | sl h1 =>
    cases hy with
    | sl0 n2 c2 => simp [eqNs, nilO] at e; subst e; simp [Op.equalIn, run_underlying_some hu]
    | sl h2 => simp [eqNs, nilO] at e
    | _ => simp [eqNs] at e
  | _ => simp [eqNs] at e
theorem eqNm_sim {d : Nat} {t k el : TypeId} {x y : V} {x' y' : Value} {b : Bool} (hu : P.underlying t = some (.map k el)) (hx : VRel φ x x') (hy : VRel φ y y') (e : eqNm x y = some b) :
    (Op.equalIn (d + 1) t x' y').run P w = .ok b w := by
  cases hx with
  | m0 =>
    cases hy with
    | m0 => simp [eqNm, nilO] at e; subst e; simp [Op.equalIn, run_underlying_some hu]
    | m h2 => simp [eqNm, nilO] at e; subst e; simp [Op.equalIn, run_underlying_some hu]
    | _ => simp [eqNm] at e
  | m h1 =>
    cases hy with
    | m0 => simp [eqNm, nilO] at e; subst e; simp [Op.equalIn, run_underlying_some hu]
    | m h2 => simp [eqNm, nilO] at e
    | _ => simp [eqNm] at e
  | _ => simp [eqNm] at e
theorem eqNf_sim {d : Nat} {t : TypeId} {ps rs : Array TypeId} {vd : Bool} {x y : V} {x' y' : Value} {b : Bool} (hu : P.underlying t = some (.func ps rs vd)) (hx : VRel φ x x') (hy : VRel φ y y')
    (e : eqNf x y = some b) : (Op.equalIn (d + 1) t x' y').run P w = .ok b w := by
  cases hx with
  | nf =>
    cases hy with
    | nf => simp [eqNf] at e; subst e; simp [Op.equalIn, run_underlying_some hu]
    | fn f h1 h2 => simp [eqNf] at e; subst e; simp [Op.equalIn, run_underlying_some hu]
    | _ => simp [eqNf] at e
  | fn f h1 h2 =>
    cases hy with
    | nf => simp [eqNf] at e; subst e; simp [Op.equalIn, run_underlying_some hu]
    | _ => simp [eqNf] at e
  | _ => simp [eqNf] at e
theorem equalIn_ifc_ne {d : Nat} {t t1 t2 : TypeId} {ms : Array (String × TypeId)} {x y : Value} (hu : P.underlying t = some (.interface ms)) (hne : t1 ≠ t2) :
    (Op.equalIn (d + 1) t (.iface t1 x) (.iface t2 y)).run P w = .ok false w := by
  rw [Op.equalIn]
  simp only [Sem.run_bind, run_underlying_some hu, Result.andThen_ok]
  simp [hne]
theorem equalIn_ifc_eq {d : Nat} {t t1 : TypeId} {ms : Array (String × TypeId)} {i : TypeInfo} {x y : Value} {b : Bool} (hu : P.underlying t = some (.interface ms)) (hi : P.info? t1 = some i)
    (hc : i.comparable = true) (he : (Op.equalIn d t1 x y).run P w = .ok b w) : (Op.equalIn (d + 1) t (.iface t1 x) (.iface t1 y)).run P w = .ok b w := by
  rw [Op.equalIn]
  simp only [Sem.run_bind, run_underlying_some hu, Result.andThen_ok]
  simp [run_typeInfo_some hi, hc, he]
theorem equalIn_nn {d : Nat} {t : TypeId} {ms : Array (String × TypeId)} (hu : P.underlying t = some (.interface ms)) : (Op.equalIn (d + 1) t .nilIface .nilIface).run P w = .ok true w := by
  rw [Op.equalIn]
  simp only [Sem.run_bind, run_underlying_some hu, Result.andThen_ok, Sem.run_pure]
theorem equalIn_ni {d : Nat} {t t1 : TypeId} {ms : Array (String × TypeId)} {x : Value} (hu : P.underlying t = some (.interface ms)) : (Op.equalIn (d + 1) t .nilIface (.iface t1 x)).run P w = .ok false w := by
  rw [Op.equalIn]
  simp only [Sem.run_bind, run_underlying_some hu, Result.andThen_ok, Sem.run_pure]
theorem equalIn_in {d : Nat} {t t1 : TypeId} {ms : Array (String × TypeId)} {x : Value} (hu : P.underlying t = some (.interface ms)) : (Op.equalIn (d + 1) t (.iface t1 x) .nilIface).run P w = .ok false w := by
  rw [Op.equalIn]
  simp only [Sem.run_bind, run_underlying_some hu, Result.andThen_ok, Sem.run_pure]
theorem eqIf_sim {ptrs : List TypeId} (hptrs : PtrsOk P ptrs) (r : HRel φ h w) {d : Nat} {t : TypeId} {ms : Array (String × TypeId)} {x y : V} {x' y' : Value} {b : Bool}
    (hu : P.underlying t = some (.interface ms)) (hx : VRel φ x x') (hy : VRel φ y y') (e : eqIf h.rd ptrs x y = some b) : (Op.equalIn (d + 2) t x' y').run P w = .ok b w := by
  cases hx with
  | ni =>
    cases hy with
    | ni => simp only [eqIf, Option.some.injEq] at e; subst e; exact equalIn_nn hu
    | ifc t2 h2 => simp only [eqIf, Option.some.injEq] at e; subst e; exact equalIn_ni hu
    | _ => simp only [eqIf] at e; cases e
  | ifc t1 h1 =>
    cases hy with
    | ni => simp only [eqIf, Option.some.injEq] at e; subst e; exact equalIn_in hu
    | ifc t2 h2 =>
      simp only [eqIf] at e
      rw [beq_nat] at e
      by_cases htt : t1 = t2
      · subst htt
        simp only [decide_true, cond_true] at e
        cases hm : memN t1 ptrs with
        | false => rw [hm] at e; cases e
        | true =>
          rw [hm] at e
          simp only [cond_true] at e
          obtain ⟨el, n, i, hu1, hs, hn0, hi, hcmp⟩ := (hptrs t1 hm).ex
          exact equalIn_ifc_eq hu hi hcmp (samePV_sim (d := d) r ⟨el, n, hu1, hs, hn0⟩ h1 h2 e)
      · simp only [htt, decide_false, cond_false, Option.some.injEq] at e
        subst e
        exact equalIn_ifc_ne hu htt
    | _ => simp only [eqIf] at e; cases e
  | _ => simp only [eqIf] at e; cases e

theorem eqV_sim {ptrs : List TypeId} (hptrs : PtrsOk P ptrs) (r : HRel φ h w) : ∀ (d : Nat) (t : TypeId) (k : EqK), eqK P ptrs d t = some k →
    ∀ (D : Nat) (x y : V) (x' y' : Value) (b : Bool), d + 1 ≤ D → VRel φ x x' → VRel φ y y' → eqV h.rd k x y = some b → (Op.equalIn D t x' y').run P w = .ok b w := by
  intro d
  induction d with
  | zero => intro t k e; simp [eqK] at e
  | succ d ih =>
    intro t k hk D x y x' y' b hD hx hy he
    obtain ⟨D, rfl⟩ : ∃ m, D = m + 2 := ⟨D - 2, by omega⟩
    unfold eqK at hk
    split at hk
    · rename_i hu
      cases hk
      unfold eqV at he
      exact eqB_sim hu hx hy he
    · rename_i hu
      cases hk
      unfold eqV at he
      exact eqI_sim hu hx hy he
    · rename_i hu
      cases hk
      unfold eqV at he
      exact eqS_sim hu hx hy he
    · -- pointer
      rename_i el hu
      split at hk
      · rename_i n hn
        cases hz : Nat.beq n 0 with
        | true => simp [hz] at hk
        | false =>
          simp [hz] at hk; subst hk
          unfold eqV at he
          rw [beq_nat] at hz
          exact samePV_sim r ⟨el, n, hu, hn, by simpa using hz⟩ hx hy he
      · cases hk
    · -- interface
      rename_i ms hu
      cases hk
      unfold eqV at he
      exact eqIf_sim hptrs r hu hx hy he
    · -- struct
      rename_i fs hu
      split at hk
      · cases hk
      · rename_i hst
        split at hk
        · rename_i l hl
          cases hk
          unfold eqV at he
          cases hx with
          | agg h1 =>
            cases hy with
            | agg h2 =>
              rename_i xs xs' ys ys'
              simp only at he
              have hfo : P.fieldsOf t = fs := by simp [Program.fieldsOf, hu]
              rw [run_equalIn_struct w (D + 1) t xs' ys' (by rw [hfo]; exact hu) (by simpa using hst), hfo]
              clear hu hfo
              generalize fs.toList = fl at hl
              induction fl generalizing l with
              | nil =>
                simp [eqK.go] at hl; subst hl
                simp [eqFs] at he; subst he
                simp [Op.eqFields]
              | cons f fl ihf =>
                unfold eqK.go at hl
                by_cases hnm : f.name = "_"
                · simp [hnm] at hl
                  simp only [Op.eqFields, hnm]
                  simpa using ihf l he hl
                · simp [hnm] at hl
                  split at hl
                  · rename_i a k l' ha hkk hl'
                    simp at hl; subst hl
                    unfold eqFs at he
                    split at he
                    · rename_i u hu1
                      split at he
                      · rename_i u' hu2
                        obtain ⟨v1, r1, q1⟩ := partV_sim (w := w) ha h1 hu1
                        obtain ⟨v2, r2, q2⟩ := partV_sim (w := w) ha h2 hu2
                        have hq : ∀ b, eqV h.rd k u u' = some b → (Op.equalIn (D + 1) f.type v1 v2).run P w = .ok b w := fun b hb =>
                          ih f.type k hkk (D + 1) u u' v1 v2 b (by omega) r1 r2 hb
                        split at he
                        · rename_i hb
                          simp only [Op.eqFields, hnm, ne_eq, not_false_eq_true, if_true, Sem.run_bind, q1, q2, Result.andThen_ok, hq _ hb, Bool.not_true, Bool.false_eq_true, if_false]
                          exact ihf l' he hl'
                        · rename_i hb
                          simp at he; subst he
                          simp [Op.eqFields, hnm, q1, q2, hq _ hb]
                        · cases he
                      · cases he
                    · cases he
                  · cases hl
            | _ => simp at he
          | _ => cases hy <;> simp at he
        · cases hk
    · -- array
      rename_i n e hu
      split at hk
      · rename_i h1
        subst h1
        split at hk
        · rename_i s a k hs ha hkk
          cases hk
          unfold eqV at he
          cases hx with
          | agg h1 =>
            cases hy with
            | agg h2 =>
              rename_i xs xs' ys ys'
              simp only at he
              unfold eqFs at he
              split at he
              · rename_i u hu1
                split at he
                · rename_i u' hu2
                  obtain ⟨v1, r1, q1⟩ := partV_sim (w := w) ha h1 hu1
                  obtain ⟨v2, r2, q2⟩ := partV_sim (w := w) ha h2 hu2
                  have hq : ∀ b, eqV h.rd k u u' = some b → (Op.equalIn (D + 1) e v1 v2).run P w = .ok b w := fun b hb =>
                    ih e k hkk (D + 1) u u' v1 v2 b (by omega) r1 r2 hb
                  rw [Op.equalIn]
                  simp only [Sem.run_bind, run_underlying_some hu, Result.andThen_ok]
                  split at he
                  · rename_i hb
                    unfold eqFs at he
                    simp at he; subst he
                    simp [szOf_run hs, q1, q2, hq _ hb, Std.Legacy.Range.forIn_eq_forIn_range', Std.Legacy.Range.size]
                  · rename_i hb
                    simp at he; subst he
                    simp [szOf_run hs, q1, q2, hq _ hb, Std.Legacy.Range.forIn_eq_forIn_range', Std.Legacy.Range.size]
                  · cases he
                · cases he
              · cases he
            | _ => simp at he
          | _ => cases hy <;> simp at he
        · cases hk
      · cases hk
    · rename_i hu
      cases hk
      unfold eqV at he
      exact eqNs_sim hu hx hy he
    · rename_i hu
      cases hk
      unfold eqV at he
      exact eqNm_sim hu hx hy he
    · rename_i hu
      cases hk
      unfold eqV at he
      exact eqNf_sim hu hx hy he
    · cases hk

end
end Go.AM
