/- The abstract machine: values, blocks, operations: the code's run without draws of an order, capacities and block numbers. Definitions alone. -/
import GoSem.Step
import Derived.Orders
namespace Go.AM

/-- The name of an abstract block: of the memory that was there; of exact size; or one that append made (its capacity is not known). -/
inductive BId where
  | old (n : Nat)
  | ex (n : Nat)
  | gr (n : Nat)
  deriving DecidableEq, Inhabited

def BId.beq : BId → BId → Bool
  | .old a, .old b => Nat.beq a b
  | .ex a, .ex b => Nat.beq a b
  | .gr a, .gr b => Nat.beq a b
  | _, _ => false

structure Ad where
  b : BId
  o : Nat
  deriving DecidableEq, Inhabited

inductive V where
  | b (x : Bool)
  | i (k : IntKind) (n : Int)
  | s (l : List UInt8)
  | p (a : Option Ad)
  | sl (a : Option Ad) (len cap : Nat)
  | m (r : Option BId)
  | fn (f : Fn) (first captured : List V)
  | nf
  | ifc (t : TypeId) (v : V)
  | ni
  | agg (cs : List V)
  | tup (vs : List V)
  | raw (x : Value)
  deriving Inhabited

def V.cells : V → List V
  | .agg cs => cs
  | v => [v]

/-- May it stand in one cell? -/
def V.flat : V → Bool
  | .agg _ | .tup _ | .raw _ => false
  | _ => true

structure Ent where
  key : V
  val : V
  born : Nat
  deriving Inhabited

inductive Blk where
  /-- 'fz': from which cell on nothing is frozen (none: nowhere is that known); 'st': may it count as a string's bytes; 'ro': it is not written; 'gz': where the capacity is not known, an element's size. -/
  | cells (cs : List V) (el : TypeId) (fz : Option Nat) (st ro : Bool) (gz : Nat)
  | map (es : List Ent) (clock : Nat) (ro : Bool)
  | siter (s : List UInt8) (pos : Nat)
  | miter (m : Option BId) (since : Nat) (seen : List Nat) (stepped : Nat)
  deriving Inhabited

def Blk.ro : Blk → Bool
  | .cells _ _ _ _ ro _ => ro
  | .map _ _ ro => ro
  | _ => false

inductive Opd where
  | t (n : Nat)
  | c (v : V)
  deriving Inhabited

/-- How values of a type are held against each other. -/
inductive EqK where
  | bool | int | str
  | ptr
  /-- pointers among them (of types whose elements have a size); other dynamic types are not held against each other -/
  | iface (meth : Bool) (ptrs : List TypeId)
  | struct (fs : List (Nat × Option Nat × EqK))
  /-- slices, maps, functions: against nil alone -/
  | nilS | nilM | nilF
  deriving Inhabited

inductive Cv where
  | int (k : IntKind)
  | runeStr
  | strStr
  | strBytes (el : TypeId)
  | bytesStr
  deriving Inhabited

inductive Bt where
  | append (size bytes : Nat) (el : TypeId)
  | cap
  | clear (zero : List V)
  | copy (size : Nat)
  | delete (kk : EqK)
  | clearM
  | lenS
  | lenV
  | lenM
  | lenN (n : Nat)
  | max
  | min
  | usString (el : TypeId)
  | usSliceData
  deriving Inhabited

inductive Cal where
  | v (f : Opd)
  /-- of each dynamic type the method; 'some n': the receiver is loaded behind the pointer, n cells -/
  | m (recv : Opd) (table : List (TypeId × FuncId × Option Nat))
  | b (b : Bt)
  deriving Inhabited

inductive O where
  | mov (x : Opd)
  | pick (c a b : Opd)
  | new (cs : List V) (el : TypeId)
  | box (x : Opd) (el : TypeId)
  | build (zero : List V) (ps : List (Nat × Nat × Opd))
  | buildS (zero : List V) (len : Nat) (ps : List (Nat × Nat × Opd)) (el : TypeId)
  | load (n : Option Nat) (a : Opd)
  | store (n : Nat) (a x : Opd)
  | nilc (x : Opd)
  | bin (op : BinOp) (k : EqK) (cst : Bool) (x y : Opd)
  | un (op : UnOp) (x : Opd)
  | conv (c : Cv) (x : Opd)
  | mkI (t : TypeId) (x : Opd)
  | mkF (f : Fn) (first captured : List Opd)
  | mkM
  | mkS (zero : List V) (bytes : Nat) (el : TypeId) (l c : Opd)
  | slS (x : Opd) (lo hi : Option Opd)
  | slV (size : Nat) (x : Opd) (lo hi mx : Option Opd)
  | slA (n size : Nat) (x : Opd) (lo hi mx : Option Opd)
  | fa (off : Nat) (x : Opd)
  | fld (off : Nat) (n : Option Nat) (x : Opd)
  | iaV (size : Nat) (x ix : Opd)
  | iaA (len size : Nat) (x ix : Opd)
  | ixS (x ix : Opd)
  | ixA (len size : Nat) (n : Option Nat) (x ix : Opd)
  | lkp (kk : EqK) (zero : V) (ok : Bool) (m k : Opd)
  | mset (kk : EqK) (m k x : Opd)
  | ment (kk : EqK) (zero : V) (m k : Opd)
  | mest (m s x : Opd)
  | rngS (x : Opd)
  | rngM (x : Opd)
  | nxtS (x : Opd)
  | nxtM (x : Opd)
  | ent (x : Opd)
  | tasI (oks : List TypeId) (most : Nat) (zero : V) (ok : Bool) (x : Opd)
  | tasC (t : TypeId) (zero : V) (ok : Bool) (x : Opd)
  | ext (x : Opd) (n : Nat)
  | call (c : Cal) (args : List Opd)
  | dfr (f : Opd) (args : List Opd)
  | bad
  deriving Inhabited

structure Op' where
  dst : Option Nat
  grd : Option (Nat × Bool)      -- the slot that is asked, and what is wanted
  op : O
  deriving Inhabited

/-- A region that draws its order, laid anew: 'fl': it may float ('mk': which of the region's new blocks it makes); 'an': it is anchored; behind it those reads that may come on either side of it are asked again. -/
inductive DI where
  | fl (o : Op') (mk : Nat)
  | an (o : Op') (re : List Op')
  deriving Inhabited

inductive C where
  | skip
  | reg (ops : List Op')
  /-- one list for each order of the anchored ones -/
  | dreg (alts : List (List DI)) (makes : Nat)
  | seq (a b : C)
  | cond (c : Opd) (thn els : C)
  | block (id : Nat) (body : C)
  | loop (body : C)
  | exit (id : Nat)
  | ret
  deriving Inhabited

inductive RV where
  | tmp (t : Nat)
  | cell (t : Nat) (n : Option Nat)
  deriving Inhabited

structure F where
  ntmps : Nat
  code : C
  res : List RV
  deriving Inhabited

/-! ### Numbers, cheap to reckon -/

def two (k : IntKind) : Int := match k with
  | .i8 | .u8 => Int.ofNat 256
  | .i16 | .u16 => Int.ofNat 65536
  | .i32 | .u32 => Int.ofNat 4294967296
  | .i64 | .u64 => Int.ofNat 18446744073709551616
def half (k : IntKind) : Int := match k with
  | .i8 | .u8 => Int.ofNat 128
  | .i16 | .u16 => Int.ofNat 32768
  | .i32 | .u32 => Int.ofNat 2147483648
  | .i64 | .u64 => Int.ofNat 9223372036854775808
def sgn : IntKind → Bool
  | .i8 | .i16 | .i32 | .i64 => true
  | _ => false
def nbits : IntKind → Nat
  | .i8 | .u8 => 8
  | .i16 | .u16 => 16
  | .i32 | .u32 => 32
  | .i64 | .u64 => 64
def ileb (a b : Int) : Bool := match a, b with
  | .ofNat x, .ofNat y => Nat.ble x y
  | .ofNat _, .negSucc _ => false
  | .negSucc _, .ofNat _ => true
  | .negSucc x, .negSucc y => Nat.ble y x
def ibeq (a b : Int) : Bool := match a, b with
  | .ofNat x, .ofNat y => Nat.beq x y
  | .negSucc x, .negSucc y => Nat.beq x y
  | _, _ => false
def kbeq : IntKind → IntKind → Bool
  | .i8, .i8 | .i16, .i16 | .i32, .i32 | .i64, .i64 | .u8, .u8 | .u16, .u16 | .u32, .u32 | .u64, .u64 => true
  | _, _ => false
def wrpM (k : IntKind) (m : Int) : Int := bif sgn k && ileb (half k) m then Int.sub m (two k) else m
def wrp (k : IntKind) (n : Int) : Int := wrpM k (Int.emod n (two k))
def unsgn (k : IntKind) (n : Int) : Nat := (Int.emod n (two k)).toNat
def bits2 (k : IntKind) (f : Nat → Nat → Nat) (x y : Int) : Int := wrp k (Int.ofNat (f (unsgn k x) (unsgn k y)))
def pow2 (n : Nat) : Int := Int.ofNat (Nat.shiftLeft 1 n)
def natI (n : Int) : Option Nat := match n with
  | .ofNat k => some k
  | .negSucc _ => none

def divV (k : IntKind) (_x y : Int) (r : Int) : Option V := bif ibeq y 0 then none else some (.i k r)
def intBin (op : BinOp) (k : IntKind) (x y : Int) : Option V := match op with
  | .add => some (.i k (wrp k (Int.add x y)))
  | .sub => some (.i k (wrp k (Int.sub x y)))
  | .mul => some (.i k (wrp k (Int.mul x y)))
  | .quo => divV k x y (wrp k (x.tdiv y))
  | .rem => divV k x y (x.tmod y)
  | .and => some (.i k (bits2 k Nat.land x y))
  | .or => some (.i k (bits2 k Nat.lor x y))
  | .xor => some (.i k (bits2 k Nat.xor x y))
  | .andNot => some (.i k (bits2 k (fun a b => Nat.land a (Nat.xor b (unsgn k (-1)))) x y))
  | .eql => some (.b (ibeq x y))
  | .neq => some (.b (!ibeq x y))
  | .lss => some (.b (!ileb y x))
  | .leq => some (.b (ileb x y))
  | .gtr => some (.b (!ileb x y))
  | .geq => some (.b (ileb y x))
  | _ => none

def shiftN (k : IntKind) (y : Int) : Nat := bif Nat.ble y.toNat (nbits k) then y.toNat else nbits k
def shiftBin (op : BinOp) (k : IntKind) (x y : Int) : Option V :=
  bif ileb 0 y then
    match op with
    | .shl => some (.i k (wrp k (Int.mul x (pow2 (shiftN k y)))))
    | .shr => some (.i k (Int.fdiv x (pow2 (shiftN k y))))
    | _ => none
  else none

def bytesEq : List UInt8 → List UInt8 → Bool
  | [], [] => true
  | a :: x, b :: y => Nat.beq a.toNat b.toNat && bytesEq x y
  | _, _ => false
def bytesLt : List UInt8 → List UInt8 → Bool
  | _, [] => false
  | [], _ :: _ => true
  | a :: x, b :: y => Nat.blt a.toNat b.toNat || (Nat.beq a.toNat b.toNat && bytesLt x y)

def strBin (op : BinOp) (x y : List UInt8) : Option V := match op with
  | .add => bif Nat.ble (Nat.add x.length y.length) 4611686018427387904 then some (.s (x ++ y)) else none
  | .eql => some (.b (bytesEq x y))
  | .neq => some (.b (!bytesEq x y))
  | .lss => some (.b (bytesLt x y))
  | .leq => some (.b (bytesLt x y || bytesEq x y))
  | .gtr => some (.b (!(bytesLt x y || bytesEq x y)))
  | .geq => some (.b (!bytesLt x y))
  | _ => none

/-! ### What an operation does -/

inductive Eff where
  | no
  | put (b : BId) (blk : Blk)                  -- a block's new content
  deriving Inhabited

inductive Res where
  | fail
  | ok (v : V) (e : Eff)
  /-- it makes a block ('g': one whose capacity is not known), under the number that is handed in -/
  | mk (g : Bool) (v : Nat → V) (blk : Blk)
  /-- append: the old block is dead, the new one stands under the next number -/
  | rep (v : Nat → V) (kill : BId) (blk : Blk)
  | call (f : FuncId) (args : List V)
  | dfr (f : V) (args : List V)
  | any (l : List (V × Eff))
  deriving Inhabited

def ofO {α : Type} (x : Option α) (f : α → Res) : Res := match x with
  | some a => f a
  | none => .fail
def okO (x : Option V) : Res := match x with
  | some v => .ok v .no
  | none => .fail
def effO (v : V) (x : Option Eff) : Res := match x with
  | some e => .ok v e
  | none => .fail

abbrev Rd := BId → Option Blk

/-- What each slot holds. -/
abbrev Ev := Nat → V

def val (env : Ev) : Opd → V
  | .t n => env n
  | .c v => v
def vals (env : Ev) : List Opd → List V
  | [] => []
  | x :: l => val env x :: vals env l

def takeN : List V → Nat → Option (List V)
  | l, n => match n with
    | 0 => some []
    | n + 1 => match l with
      | [] => none
      | v :: l => match takeN l n with
        | some r => some (v :: r)
        | none => none
def dropN : List V → Nat → Option (List V)
  | l, n => match n with
    | 0 => some l
    | n + 1 => match l with
      | [] => none
      | _ :: l => dropN l n
def cut (l : List V) (o n : Nat) : Option (List V) := match dropN l o with
  | some r => takeN r n
  | none => none
/-- Lays values over a list's, from its head on. -/
def lay0 : List V → List V → Option (List V)
  | l, [] => some l
  | [], _ :: _ => none
  | _ :: l, v :: vs => match lay0 l vs with
    | some r => some (v :: r)
    | none => none
/-- Lays values over a list's, from a place on. -/
def lay : List V → Nat → List V → Option (List V)
  | l, o, vs => match o with
    | 0 => lay0 l vs
    | o + 1 => match l with
      | [] => none
      | u :: l => match lay l o vs with
        | some r => some (u :: r)
        | none => none

def allFlat : List V → Bool
  | [] => true
  | v :: l => v.flat && allFlat l

def cutB (o n : Nat) : Option Blk → Option (List V)
  | some (.cells cs _ _ _ _ _) => cut cs o n
  | _ => none
def rdCells (rd : Rd) (a : Ad) (n : Nat) : Option (List V) := cutB a.o n (rd a.b)

def okFz (fz : Option Nat) (o : Nat) : Bool := match fz with
  | some n => Nat.ble n o
  | none => false

def wrBlk (a : Ad) (vs cs : List V) (el : TypeId) (fz : Option Nat) (st : Bool) (gz : Nat) : Option Eff := match lay cs a.o vs with
  | some cs' => some (.put a.b (.cells cs' el fz st false gz))
  | none => none
def wrB (a : Ad) (vs : List V) : Option Blk → Option Eff
  | some (.cells cs el fz st ro gz) => bif !ro && okFz fz a.o && allFlat vs then wrBlk a vs cs el fz st gz else none
  | _ => none
def wrCells (rd : Rd) (a : Ad) (vs : List V) : Option Eff := wrB a vs (rd a.b)

/-- Parts laid into a zero value. -/
def fillP (env : Ev) : List V → List (Nat × Nat × Opd) → Option (List V)
  | cs, [] => some cs
  | cs, (off, size, x) :: rest =>
    bif Nat.beq (val env x).cells.length size && allFlat (val env x).cells then
      match lay cs off (val env x).cells with
      | some cs' => fillP env cs' rest
      | none => none
    else none

def rept (z : List V) : Nat → List V
  | 0 => []
  | n + 1 => z ++ rept z n

def one : Option (List V) → Option V
  | some [v] => some v
  | _ => none
def aggO : Option (List V) → Option V
  | some l => some (.agg l)
  | none => none
def partV (cs : List V) (off : Nat) (n : Option Nat) : Option V := match n with
  | some k => aggO (cut cs off k)
  | none => one (cut cs off 1)

def isLive : Option Blk → Bool
  | some _ => true
  | none => false
/-- It holds cells, and none that a string shares. -/
def noStr : Option Blk → Bool
  | some (.cells _ _ _ st _ _) => !st
  | _ => false
/-- An address's identity; both blocks must be there, and no string's. -/
def samePlain (rd : Rd) (a b : Ad) : Option Bool :=
  bif a.b.beq b.b then (bif isLive (rd a.b) then some (Nat.beq a.o b.o) else none)
  else bif noStr (rd a.b) && noStr (rd b.b) then some false else none
def samePtr (rd : Rd) : Option Ad → Option Ad → Option Bool
  | none, none => some true
  | none, some _ => some false
  | some _, none => some false
  | some a, some b => samePlain rd a b

def samePV (rd : Rd) : V → V → Option Bool
  | .p x, .p y => samePtr rd x y
  | _, _ => none
def nilO {α : Type} : Option α → Option α → Option Bool
  | none, none => some true
  | none, some _ => some false
  | some _, none => some false
  | some _, some _ => none
def eqNs : V → V → Option Bool
  | .sl a _ _, .sl b _ _ => nilO a b
  | _, _ => none
def eqNm : V → V → Option Bool
  | .m a, .m b => nilO a b
  | _, _ => none
def eqNf : V → V → Option Bool
  | .nf, .nf => some true
  | .nf, .fn _ _ _ => some false
  | .fn _ _ _, .nf => some false
  | _, _ => none
def memN (t : Nat) : List Nat → Bool
  | [] => false
  | u :: l => Nat.beq t u || memN t l
def eqIf (rd : Rd) (ptrs : List TypeId) (x y : V) : Option Bool := match x with
  | .ni => (match y with
    | .ni => some true
    | .ifc _ _ => some false
    | _ => none)
  | .ifc t x => (match y with
    | .ni => some false
    | .ifc u y => bif Nat.beq t u then (bif memN t ptrs then samePV rd x y else none) else some false
    | _ => none)
  | _ => none
def eqB : V → V → Option Bool
  | .b x, .b y => some (x == y)
  | _, _ => none
def eqI : V → V → Option Bool
  | .i k x, .i k' y => bif kbeq k k' then some (ibeq x y) else none
  | _, _ => none
def eqS : V → V → Option Bool
  | .s x, .s y => some (bytesEq x y)
  | _, _ => none

mutual
def eqV (rd : Rd) : EqK → V → V → Option Bool
  | .bool, x, y => eqB x y
  | .int, x, y => eqI x y
  | .str, x, y => eqS x y
  | .ptr, x, y => samePV rd x y
  | .iface _ ptrs, x, y => eqIf rd ptrs x y
  | .struct fs, x, y => match x, y with
    | .agg xs, .agg ys => eqFs rd fs xs ys
    | _, _ => none
  | .nilS, x, y => eqNs x y
  | .nilM, x, y => eqNm x y
  | .nilF, x, y => eqNf x y
def eqFs (rd : Rd) : List (Nat × Option Nat × EqK) → List V → List V → Option Bool
  | [], _, _ => some true
  | (off, n, k) :: fs, xs, ys => match partV xs off n with
    | some x => match partV ys off n with
      | some y => match eqV rd k x y with
        | some true => eqFs rd fs xs ys
        | some false => some false
        | none => none
      | none => none
    | none => none
end

def boolO (f : Bool → Bool) : Option Bool → Option V
  | some r => some (.b (f r))
  | none => none
/-- '==', '!=' at values that are neither numbers nor strings. -/
def eqG (rd : Rd) (f : Bool → Bool) (k : EqK) (cst : Bool) (x y : V) : Option V := match x, y with
  | .ni, .ni => (match k with
    | .iface meth _ => bif cst || !meth then some (.b (f true)) else none
    | _ => none)
  | x, y => boolO f (eqV rd k x y)
def eqOp (rd : Rd) (op : BinOp) (k : EqK) (cst : Bool) (x y : V) : Option V := match op with
  | .eql => eqG rd (fun r => r) k cst x y
  | .neq => eqG rd not k cst x y
  | _ => none
def isShift : BinOp → Bool
  | .shl | .shr => true
  | _ => false
def binV (rd : Rd) (op : BinOp) (k : EqK) (cst : Bool) (x y : V) : Option V := match x, y with
  | .i kx a, .i ky b => bif isShift op then shiftBin op kx a b else bif kbeq kx ky then intBin op kx a b else none
  | .s a, .s b => strBin op a b
  | x, y => eqOp rd op k cst x y

def unV (op : UnOp) (x : V) : Option V := match x with
  | .i k n => (match op with
    | .neg => some (.i k (wrp k (Int.neg n)))
    | .xor => some (.i k (bits2 k Nat.xor (bif sgn k then -1 else two k - 1) n))
    | _ => none)
  | .b b => (match op with
    | .not => some (.b !b)
    | _ => none)
  | _ => none

def noRd : Rd := fun _ => none
/-- The place and the entry of a key. -/
def findE (kk : EqK) (k : V) : List Ent → Nat → Option (Option (Nat × Ent))
  | [], _ => some none
  | e :: es, i => match eqV noRd kk k e.key with
    | some true => some (some (i, e))
    | some false => findE kk k es (i + 1)
    | none => none
def modE (f : Ent → Ent) : List Ent → Nat → List Ent
  | [], _ => []
  | e :: es, i => match i with
    | 0 => f e :: es
    | i + 1 => e :: modE f es i
def delE : List Ent → Nat → List Ent
  | [], _ => []
  | e :: es, i => match i with
    | 0 => es
    | i + 1 => e :: delE es i
/-- A key's parts are there. -/
def chkFs : List (Nat × Option Nat × EqK) → List V → Bool
  | [], _ => true
  | (off, n, _) :: fs, xs => match partV xs off n with
    | some _ => chkFs fs xs
    | none => false
def chkK : EqK → V → Bool
  | .struct fs, .agg xs => chkFs fs xs
  | .int, _ => true
  | .str, _ => true
  | _, _ => false
/-- Of two keys nothing can be told apart. -/
def sameCell : V → V → Bool
  | .b x, .b y => x == y
  | .i k x, .i k' y => kbeq k k' && ibeq x y
  | .s x, .s y => bytesEq x y
  | _, _ => false
def sameCells : List V → List V → Bool
  | [], [] => true
  | x :: xs, y :: ys => sameCell x y && sameCells xs ys
  | _, _ => false
def sameKey : V → V → Bool
  | .agg xs, .agg ys => sameCells xs ys
  | x, y => sameCell x y
def bornE (born : Nat) : List Ent → Option Ent
  | [] => none
  | e :: es => bif Nat.beq e.born born then some e else bornE born es

def natV : V → Option Nat
  | .i _ n => natI n
  | _ => none
def leN (most : Nat) : Option Nat → Option Nat
  | some n => bif Nat.ble n most then some n else none
  | none => none
def optNat (env : Ev) (x : Option Opd) (dflt most : Nat) : Option Nat := match x with
  | some x => leN most (natV (val env x))
  | none => some dflt
/-- low, high, max -/
def sliceHi (env : Ev) (len m : Nat) (hi mx : Option Opd) : Option Nat := match hi with
  | some h => leN m (natV (val env h))
  | none => match mx with
    | none => leN m (some len)
    | some _ => none
def sliceBnd (env : Ev) (len cap : Nat) (lo hi mx : Option Opd) : Option (Nat × Nat × Nat) :=
  match optNat env mx cap cap with
  | none => none
  | some m => match sliceHi env len m hi mx with
    | none => none
    | some h => match optNat env lo 0 h with
      | none => none
      | some l => some (l, h, m)

/-- A slice's new address. -/
def movA (a : Ad) (l m size : Nat) : Ad := match a.b with
  | .gr _ => ⟨a.b, Nat.add a.o (Nat.mul l size)⟩
  | _ => bif Nat.beq m l then a else ⟨a.b, Nat.add a.o (Nat.mul l size)⟩

def lenV : V → Option Nat
  | .sl _ n _ => some n
  | .s l => some l.length
  | _ => none
def bytesV (l : List UInt8) : List V := l.map fun b => .i .u8 (Int.ofNat b.toNat)
def srcCells (rd : Rd) (size n : Nat) : V → Option (List V)
  | .sl (some a) _ _ => rdCells rd a (Nat.mul n size)
  | .sl none _ _ => bif Nat.beq n 0 then some [] else none
  | .s l => bif Nat.beq size 1 then some (bytesV (l.take n)) else none
  | _ => none

def most47 : Nat := 140737488355328

def grSl (need : Nat) (i : Nat) : V := .sl (some ⟨.gr i, 0⟩) need need
def grBlk (cs : List V) (el : TypeId) (size : Nat) : Blk := .cells cs el (some 0) false false size
def exP (i : Nat) : V := .p (some ⟨.ex i, 0⟩)
def exBlk (cs : List V) (el : TypeId) : Blk := .cells cs el (some 0) false false 0
def grOk (size : Nat) : Option Blk → Bool
  | some (.cells _ _ _ _ _ gz) => Nat.beq gz size
  | _ => false
/-- An element of a block whose capacity is not known has this size. -/
def szGood (rd : Rd) (a : Ad) (size : Nat) : Bool := match a.b with
  | .gr _ => grOk size (rd a.b)
  | _ => true
def appIn (rd : Rd) (size : Nat) (base : Option Ad) (len need cap : Nat) (new : List V) : Res := match base with
  | none => .ok (.sl none need cap) .no
  | some a => bif szGood rd a size then (match new with
    | [] => .ok (.sl base need cap) .no
    | _ :: _ => effO (.sl base need cap) (wrCells rd ⟨a.b, Nat.add a.o (Nat.mul len size)⟩ new)) else .fail
def fzLess (o : Nat) : Option Nat → Option Nat
  | some k => some (k - o)
  | none => none
def appRep (size : Nat) (a : Ad) (len need : Nat) (cells : List V) (el : TypeId) : Option Blk → Res
  | some (.cells _ el' fz st ro gz) => bif !ro && (okFz fz (Nat.add a.o (Nat.mul len size)) && (Nat.beq gz size && Nat.beq el el')) then .rep (grSl need) a.b (.cells cells el (fzLess a.o fz) st false size) else .fail
  | _ => .fail
def appOut (rd : Rd) (size : Nat) (el : TypeId) (base : Option Ad) (len need : Nat) (new : List V) : Res := match base with
  | none => bif Nat.beq len 0 then .mk true (grSl need) (grBlk new el size) else .fail
  | some a => ofO (rdCells rd a (Nat.mul len size)) fun old =>
    match a.b with
    | .gr _ => appRep size a len need (old ++ new) el (rd a.b)
    | _ => .mk true (grSl need) (grBlk (old ++ new) el size)
def appendN (rd : Rd) (size bytes : Nat) (el : TypeId) (base : Option Ad) (len cap n : Nat) (new : List V) : Res :=
  bif Nat.ble (Nat.add len n) cap then appIn rd size base len (Nat.add len n) cap new
  else bif Nat.ble (Nat.mul (Nat.add len n) bytes) most47 && !Nat.beq size 0 && !Nat.beq bytes 0 && allFlat new then appOut rd size el base len (Nat.add len n) new
  else .fail
def appendV (rd : Rd) (size bytes : Nat) (el : TypeId) (s x : V) : Res := match s with
  | .sl base len cap => ofO (lenV x) fun n => ofO (srcCells rd size n x) fun new => appendN rd size bytes el base len cap n new
  | _ => .fail

def minN (a b : Nat) : Nat := bif Nat.ble a b then a else b
def copyN (rd : Rd) (base : Option Ad) (n : Nat) (new : List V) : Res := match base with
  | none => .ok (.i .i64 (Int.ofNat n)) .no
  | some a => match new with
    | [] => .ok (.i .i64 (Int.ofNat n)) .no
    | _ :: _ => effO (.i .i64 (Int.ofNat n)) (wrCells rd a new)
def copyV (rd : Rd) (size : Nat) (dst src : V) : Res := match dst with
  | .sl base dl _ => ofO (lenV src) fun sl => ofO (srcCells rd size (minN sl dl) src) fun new => copyN rd base (minN sl dl) new
  | _ => .fail

def consO {α : Type} (a : α) : Option (List α) → Option (List α)
  | some r => some (a :: r)
  | none => none
def byteOfV : V → Option UInt8
  | .i k n => bif kbeq k .u8 then some (UInt8.ofNat n.toNat) else none
  | _ => none
def bytesOfCells : List V → Option (List UInt8)
  | [] => some []
  | v :: l => match byteOfV v with
    | some b => consO b (bytesOfCells l)
    | none => none

def utf8enc (r : Int) : List UInt8 := (Utf8.encode r).data.toList
def okRune (c w : Nat) (least : Nat) : Nat × Nat :=
  bif Nat.ble least c && (Nat.blt c 55296 || (Nat.ble 57344 c && Nat.ble c 1114111)) then (c, w) else (65533, 1)
def utf8dec4 (x0 x1 x2 : Nat) : List UInt8 → Nat × Nat
  | [] => (65533, 1)
  | b3 :: _ => bif Nat.beq (x0 / 8) 30 && (Nat.beq (x1 / 64) 2 && (Nat.beq (x2 / 64) 2 && Nat.beq (b3.toNat / 64) 2))
    then okRune ((x0 % 8) * 262144 + (x1 % 64) * 4096 + (x2 % 64) * 64 + b3.toNat % 64) 4 65536 else (65533, 1)
def utf8dec3 (x0 x1 : Nat) : List UInt8 → Nat × Nat
  | [] => (65533, 1)
  | b2 :: l => bif Nat.beq (x0 / 16) 14 && (Nat.beq (x1 / 64) 2 && Nat.beq (b2.toNat / 64) 2)
    then okRune ((x0 % 16) * 4096 + (x1 % 64) * 64 + b2.toNat % 64) 3 2048 else utf8dec4 x0 x1 b2.toNat l
def utf8dec2 (x0 : Nat) : List UInt8 → Nat × Nat
  | [] => (65533, 1)
  | b1 :: l => bif Nat.beq (x0 / 32) 6 && Nat.beq (b1.toNat / 64) 2
    then (bif Nat.ble 128 ((x0 % 32) * 64 + b1.toNat % 64) then ((x0 % 32) * 64 + b1.toNat % 64, 2) else (65533, 1)) else utf8dec3 x0 b1.toNat l
/-- A rune at a list's head, and its width. -/
def utf8dec : List UInt8 → Nat × Nat
  | [] => (65533, 1)
  | b0 :: l => bif Nat.blt b0.toNat 128 then (b0.toNat, 1) else utf8dec2 b0.toNat l

def minV : V → V → Option V
  | .i k x, .i _ y => some (.i k (bif ileb x y then x else y))
  | _, _ => none
def maxV : V → V → Option V
  | .i k x, .i _ y => some (.i k (bif ileb y x then x else y))
  | _, _ => none
def foldV (f : V → V → Option V) : V → List V → Option V
  | x, [] => some x
  | x, y :: l => match f x y with
    | some z => foldV f z l
    | none => none

def clearM (rd : Rd) : V → Res
  | .m none => .ok (.tup []) .no
  | .m (some r) => (match rd r with
    | some (.map _ clock false) => .ok (.tup []) (.put r (.map [] clock false))
    | _ => .fail)
  | _ => .fail
def clearV (rd : Rd) (zero : List V) : V → Res
  | .sl none _ _ => .ok (.tup []) .no
  | .sl (some a) n _ => (match n with
    | 0 => .ok (.tup []) .no
    | n + 1 => effO (.tup []) (wrCells rd a (rept zero (n + 1))))
  | _ => .fail
def deleteE (kk : EqK) (r : BId) (es : List Ent) (clock : Nat) (k : V) : Res := bif chkK kk k then (match findE kk k es 0 with
  | some (some (i, _)) => .ok (.tup []) (.put r (.map (delE es i) clock false))
  | some none => .ok (.tup []) .no
  | none => .fail) else .fail
def deleteV (rd : Rd) (kk : EqK) (k : V) : V → Res
  | .m none => bif chkK kk k then .ok (.tup []) .no else .fail
  | .m (some r) => (match rd r with
    | some (.map es clock false) => deleteE kk r es clock k
    | _ => .fail)
  | _ => .fail
def lenSR : V → Res
  | .s l => .ok (.i .i64 (Int.ofNat l.length)) .no
  | _ => .fail
def lenVR : V → Res
  | .sl _ n _ => .ok (.i .i64 (Int.ofNat n)) .no
  | _ => .fail
def lenMR (rd : Rd) : V → Res
  | .m none => .ok (.i .i64 0) .no
  | .m (some r) => (match rd r with
    | some (.map es _ _) => .ok (.i .i64 (Int.ofNat es.length)) .no
    | _ => .fail)
  | _ => .fail
def capR : V → Res
  | .sl none _ c => .ok (.i .i64 (Int.ofNat c)) .no
  | .sl (some a) _ c => (match a.b with
    | .gr _ => .fail
    | _ => .ok (.i .i64 (Int.ofNat c)) .no)
  | _ => .fail
def fzStr (st : Bool) (fz : Option Nat) (k : Nat) : Option Nat := bif st then none else match fz with
  | some n => bif Nat.beq n 0 then some k else none
  | none => none
def usStr (el : TypeId) (a : Ad) (n : Nat) : Option Blk → Res
  | some (.cells cs el' fz st ro gz) => bif !ro && Nat.beq el el' then
      ofO (cut cs a.o n) fun l => ofO (bytesOfCells l) fun s => .ok (.s s) (.put a.b (.cells cs el' (fzStr st fz (a.o + n)) true false gz))
    else .fail
  | _ => .fail
def usStrV (rd : Rd) (el : TypeId) (n : Nat) : V → Res
  | .p none => bif Nat.beq n 0 then .ok (.s []) .no else .fail
  | .p (some a) => bif Nat.beq n 0 then .ok (.s []) .no else bif Nat.ble n most47 then usStr el a n (rd a.b) else .fail
  | _ => .fail
def usSlV : V → Res
  | .sl none _ _ => .ok (.p none) .no
  | .sl (some a) _ c => bif Nat.beq c 0 then .fail else .ok (.p (some a)) .no
  | _ => .fail

def arg1 (args : List V) (f : V → Res) : Res := match args with
  | [x] => f x
  | _ => .fail
def arg2 (args : List V) (f : V → V → Res) : Res := match args with
  | [x, y] => f x y
  | _ => .fail
def argF (args : List V) (f : V → V → Option V) : Res := match args with
  | x :: l => okO (foldV f x l)
  | [] => .fail
def builtinV (rd : Rd) (b : Bt) (args : List V) : Res := match b with
  | .append size bytes el => arg2 args (appendV rd size bytes el)
  | .cap => arg1 args capR
  | .clear zero => arg1 args (clearV rd zero)
  | .clearM => arg1 args (clearM rd)
  | .copy size => arg2 args (copyV rd size)
  | .delete kk => arg2 args fun m k => deleteV rd kk k m
  | .lenS => arg1 args lenSR
  | .lenV => arg1 args lenVR
  | .lenM => arg1 args (lenMR rd)
  | .lenN n => arg1 args fun _ => .ok (.i .i64 (Int.ofNat n)) .no
  | .max => argF args maxV
  | .min => argF args minV
  | .usString el => arg2 args fun p n => ofO (natV n) fun n => usStrV rd el n p
  | .usSliceData => arg1 args usSlV

def convI (k : IntKind) : V → Res
  | .i _ n => .ok (.i k (wrp k n)) .no
  | _ => .fail
def convR : V → Res
  | .i _ n => .ok (.s (utf8enc n)) .no
  | _ => .fail
def convS : V → Res
  | .s l => .ok (.s l) .no
  | _ => .fail
def convB (el : TypeId) : V → Res
  | .s l => .mk true (grSl l.length) (.cells (bytesV l) el (some 0) true false 1)
  | _ => .fail
def convBS (rd : Rd) : V → Res
  | .sl none _ _ => .ok (.s []) .no
  | .sl (some a) n _ => ofO (rdCells rd a n) fun cs => ofO (bytesOfCells cs) fun l => .ok (.s l) .no
  | _ => .fail
def convV (rd : Rd) (c : Cv) (x : V) : Res := match c with
  | .int k => convI k x
  | .runeStr => convR x
  | .strStr => convS x
  | .strBytes el => convB el x
  | .bytesStr => convBS rd x

def callV (f : V) (args : List V) : Res := match f with
  | .fn (.func f) first captured => .call f (first ++ args ++ captured)
  | _ => .fail

def filterBorn (seen : List Nat) : List Ent → List Ent
  | [] => []
  | e :: es => bif memN e.born seen then filterBorn seen es else e :: filterBorn seen es

def aPick (c a b : V) : Res := match c with
  | .b r => .ok (bif r then a else b) .no
  | _ => .fail
def aBox (x : V) (el : TypeId) : Res := bif allFlat x.cells then .mk false exP (exBlk x.cells el) else .fail
def aBuild (cs : Option (List V)) : Res := match cs with
  | some cs => .ok (.agg cs) .no
  | none => .fail
def aBuildS (cs : Option (List V)) (len : Nat) (el : TypeId) : Res := match cs with
  | some cs => .mk false (fun i => .sl (some ⟨.ex i, 0⟩) len len) (exBlk cs el)
  | none => .fail
def aLoad (rd : Rd) (n : Option Nat) (a : V) : Res := match a with
  | .p (some a) => okO (match n with
    | some k => aggO (rdCells rd a k)
    | none => one (rdCells rd a 1))
  | _ => .fail
def aStore (rd : Rd) (n : Nat) (a x : V) : Res := match a with
  | .p (some a) => bif Nat.beq x.cells.length n then effO (.tup []) (wrCells rd a x.cells) else .fail
  | _ => .fail
def aNilc (x : V) : Res := match x with
  | .p (some a) => .ok (.p (some a)) .no
  | .fn (.func f) xs ys => .ok (.fn (.func f) xs ys) .no
  | .ifc t v => .ok (.ifc t v) .no
  | _ => .fail
def aMkS (zero : List V) (bytes : Nat) (el : TypeId) (l c : Nat) : Res :=
  bif Nat.ble l c && (Nat.ble c most47 && Nat.ble (Nat.mul bytes c) most47) then .mk false (fun i => .sl (some ⟨.ex i, 0⟩) l c) (exBlk (rept zero c) el) else .fail
def aSlS (env : Ev) (lo hi : Option Opd) (x : V) : Res := match x with
  | .s l => (match sliceBnd env l.length l.length lo hi none with
    | some (a, b, _) => .ok (.s ((l.drop a).take (b - a))) .no
    | none => .fail)
  | _ => .fail
def movO (a : Option Ad) (l m size : Nat) : Option Ad := match a with
  | some a => some (movA a l m size)
  | none => none
def goodO (rd : Rd) (size : Nat) : Option Ad → Bool
  | some a => szGood rd a size
  | none => true
def aSlV (rd : Rd) (env : Ev) (size : Nat) (lo hi mx : Option Opd) (x : V) : Res := match x with
  | .sl a len cap => bif goodO rd size a then (match sliceBnd env len cap lo hi mx with
    | some (l, h, m) => .ok (.sl (movO a l m size) (Nat.sub h l) (Nat.sub m l)) .no
    | none => .fail) else .fail
  | _ => .fail
def notGr : BId → Bool
  | .gr _ => false
  | _ => true
def aSlA (env : Ev) (n size : Nat) (lo hi mx : Option Opd) (x : V) : Res := match x with
  | .p (some a) => bif notGr a.b then (match sliceBnd env n n lo hi mx with
    | some (l, h, m) => .ok (.sl (some (movA a l m size)) (Nat.sub h l) (Nat.sub m l)) .no
    | none => .fail) else .fail
  | _ => .fail
def aFa (off : Nat) (x : V) : Res := match x with
  | .p (some a) => .ok (.p (some ⟨a.b, Nat.add a.o off⟩)) .no
  | _ => .fail
def aFld (off : Nat) (n : Option Nat) (x : V) : Res := match x with
  | .agg cs => okO (partV cs off n)
  | _ => .fail
def aIaV (size : Nat) (x ix : V) : Res := match x with
  | .sl (some a) len _ => ofO (natV ix) fun j => bif Nat.blt j len then .ok (.p (some ⟨a.b, Nat.add a.o (Nat.mul j size)⟩)) .no else .fail
  | _ => .fail
def aIaA (len size : Nat) (x ix : V) : Res := match x with
  | .p (some a) => ofO (natV ix) fun j => bif Nat.blt j len then .ok (.p (some ⟨a.b, Nat.add a.o (Nat.mul j size)⟩)) .no else .fail
  | _ => .fail
def nthB : List UInt8 → Nat → Option UInt8
  | [], _ => none
  | b :: l, n => match n with
    | 0 => some b
    | n + 1 => nthB l n
def aIxS (x ix : V) : Res := match x with
  | .s l => ofO (natV ix) fun j => ofO (nthB l j) fun b => .ok (.i .u8 (Int.ofNat b.toNat)) .no
  | _ => .fail
def aIxA (len size : Nat) (n : Option Nat) (x ix : V) : Res := match x with
  | .agg cs => ofO (natV ix) fun j => bif Nat.blt j len then okO (partV cs (Nat.mul j size) n) else .fail
  | _ => .fail
def okTup (ok : Bool) (v : V) (there : Bool) : V := bif ok then .tup [v, .b there] else v
def lkpE (kk : EqK) (zero : V) (ok : Bool) (k : V) : Option Blk → Res
  | some (.map es _ _) => (match findE kk k es 0 with
    | some (some (_, e)) => .ok (okTup ok e.val true) .no
    | some none => .ok (okTup ok zero false) .no
    | none => .fail)
  | _ => .fail
def aLkp (rd : Rd) (kk : EqK) (zero : V) (ok : Bool) (m k : V) : Res := bif chkK kk k then (match m with
  | .m none => .ok (okTup ok zero false) .no
  | .m (some r) => lkpE kk zero ok k (rd r)
  | _ => .fail) else .fail
def msetE (kk : EqK) (r : BId) (k x : V) : Option Blk → Res
  | some (.map es clock false) => (match findE kk k es 0 with
    | some (some (i, e)) => bif sameKey e.key k then .ok (.tup []) (.put r (.map (modE (fun e => { e with key := k, val := x }) es i) clock false)) else .fail
    | some none => .ok (.tup []) (.put r (.map (es ++ [⟨k, x, clock⟩]) (clock + 1) false))
    | none => .fail)
  | _ => .fail
def aMset (rd : Rd) (kk : EqK) (m k x : V) : Res := bif chkK kk k then (match m with
  | .m (some r) => msetE kk r k x (rd r)
  | _ => .fail) else .fail
def mentE (kk : EqK) (zero : V) (r : BId) (k : V) : Option Blk → Res
  | some (.map es clock false) => (match findE kk k es 0 with
    | some (some (i, e)) => bif sameKey e.key k then .ok (.tup [e.val, .i .i64 (Int.ofNat e.born)]) (.put r (.map (modE (fun e => { e with key := k }) es i) clock false)) else .fail
    | some none => .ok (.tup [zero, .i .i64 (Int.ofNat clock)]) (.put r (.map (es ++ [⟨k, zero, clock⟩]) (clock + 1) false))
    | none => .fail)
  | _ => .fail
def aMent (rd : Rd) (kk : EqK) (zero : V) (m k : V) : Res := bif chkK kk k then (match m with
  | .m (some r) => mentE kk zero r k (rd r)
  | _ => .fail) else .fail
def setE (born : Nat) (x : V) : List Ent → List Ent
  | [] => []
  | e :: es => bif Nat.beq e.born born then { e with val := x } :: es else e :: setE born x es
def mestE (r : BId) (born : Nat) (x : V) : Option Blk → Res
  | some (.map es clock false) => (match bornE born es with
    | some _ => .ok (.tup []) (.put r (.map (setE born x es) clock false))
    | none => .fail)
  | _ => .fail
def aMest (rd : Rd) (m s x : V) : Res := match m with
  | .m (some r) => ofO (natV s) fun born => mestE r born x (rd r)
  | _ => .fail
def aRngS (x : V) : Res := match x with
  | .s l => .mk false exP (.siter l 0)
  | _ => .fail
def rngE (r : BId) : Option Blk → Res
  | some (.map _ clock _) => .mk false exP (.miter (some r) clock [] clock)
  | _ => .fail
def aRngM (rd : Rd) (x : V) : Res := match x with
  | .m none => .mk false exP (.miter none 0 [] 0)
  | .m (some r) => rngE r (rd r)
  | _ => .fail
def nxtTup (pos c : Nat) : V := .tup [.b true, .i .i64 (Int.ofNat pos), .i .i32 (Int.ofNat c)]
def nxtSE (r : BId) : Option Blk → Res
  | some (.siter l pos) => bif Nat.blt pos l.length then .ok (nxtTup pos (utf8dec (l.drop pos)).1) (.put r (.siter l (pos + (utf8dec (l.drop pos)).2)))
    else .ok (.tup [.b false]) .no
  | _ => .fail
def atHead : V → Option BId
  | .p (some a) => bif Nat.beq a.o 0 then some a.b else none
  | _ => none
def aNxtS (rd : Rd) (x : V) : Res := ofO (atHead x) fun r => nxtSE r (rd r)
def nxtAny (r m : BId) (since : Nat) (seen : List Nat) (clock : Nat) : List Ent → List (V × Eff)
  | [] => []
  | e :: l => (.tup [.b true, e.key, e.val], .put r (.miter (some m) since (seen ++ [e.born]) clock)) :: nxtAny r m since seen clock l
def bornLt (n : Nat) : List Ent → Bool
  | [] => true
  | e :: l => Nat.blt e.born n && bornLt n l
def nxtL (r m : BId) (since : Nat) (seen : List Nat) (clock : Nat) (l : List Ent) : Res := match l with
  | [] => .ok (.tup [.b false]) .no
  | e :: l => .any (nxtAny r m since seen clock (e :: l))
/-- Nothing was put in since the range began. -/
def nxtME (r m : BId) (since last : Nat) (seen : List Nat) : Option Blk → Res
  | some (.map es clock _) => bif Nat.beq clock since && (Nat.beq last since && bornLt since es) then nxtL r m since seen clock (filterBorn seen es) else .fail
  | _ => .fail
def nxtM0 (rd : Rd) (r : BId) : Option Blk → Res
  | some (.miter none _ _ _) => .ok (.tup [.b false]) .no
  | some (.miter (some m) since seen last) => nxtME r m since last seen (rd m)
  | _ => .fail
def aNxtM (rd : Rd) (x : V) : Res := ofO (atHead x) fun r => nxtM0 rd r (rd r)
def lastN : List Nat → Option Nat
  | [] => none
  | x :: l => match l with
    | [] => some x
    | _ :: _ => lastN l
def entME (seen : List Nat) (stepped : Nat) : Option Blk → Res
  | some (.map es clock _) => bif Nat.beq clock stepped then ofO (lastN seen) fun born => ofO (bornE born es) fun e => .ok (.tup [e.key, e.val]) .no else .fail
  | _ => .fail
def entE (rd : Rd) : Option Blk → Res
  | some (.miter (some m) _ seen stepped) => entME seen stepped (rd m)
  | _ => .fail
def aEnt (rd : Rd) (x : V) : Res := ofO (atHead x) fun r => entE rd (rd r)
def noAs (zero : V) (ok : Bool) : Res := bif ok then .ok (.tup [zero, .b false]) .no else .fail
def aTasI (oks : List TypeId) (most : Nat) (zero : V) (ok : Bool) (x : V) : Res := match x with
  | .ni => noAs zero ok
  | .ifc t v => bif memN t oks then .ok (okTup ok (.ifc t v) true) .no else bif Nat.blt t most then noAs zero ok else .fail
  | _ => .fail
def aTasC (t : TypeId) (zero : V) (ok : Bool) (x : V) : Res := match x with
  | .ni => noAs zero ok
  | .ifc u v => bif Nat.beq u t then .ok (okTup ok v true) .no else noAs zero ok
  | _ => .fail
def nthO : List V → Nat → Option V
  | [], _ => none
  | v :: l, n => match n with
    | 0 => some v
    | n + 1 => nthO l n
def aExt (x : V) (n : Nat) : Res := match x with
  | .tup vs => okO (nthO vs n)
  | _ => .fail
def findT (t : TypeId) : List (TypeId × FuncId × Option Nat) → Option (FuncId × Option Nat)
  | [] => none
  | (u, f) :: l => bif Nat.beq u t then some f else findT t l
def invV (rd : Rd) (v : V) (args : List V) : Option (FuncId × Option Nat) → Res
  | some (f, none) => .call f (v :: args)
  | some (f, some n) => (match v with
    | .p (some a) => ofO (rdCells rd a n) fun cs => .call f (.agg cs :: args)
    | _ => .fail)
  | none => .fail
def aInv (rd : Rd) (table : List (TypeId × FuncId × Option Nat)) (args : List V) (r : V) : Res := match r with
  | .ifc t v => invV rd v args (findT t table)
  | _ => .fail

def gId (g : Bool) (n : Nat) : BId := match g with
  | true => .gr n
  | false => .ex n

def aDfr (f : V) (args : List V) : Res := match f with
  | .fn .. => .dfr f args
  | _ => .fail

def aop (rd : Rd) (env : Ev) : O → Res
  | .mov x => .ok (val env x) .no
  | .pick c a b => aPick (val env c) (val env a) (val env b)
  | .new cs el => .mk false exP (exBlk cs el)
  | .box x el => aBox (val env x) el
  | .build zero ps => aBuild (fillP env zero ps)
  | .buildS zero len ps el => aBuildS (fillP env (rept zero len) ps) len el
  | .load n a => aLoad rd n (val env a)
  | .store n a x => aStore rd n (val env a) (val env x)
  | .nilc x => aNilc (val env x)
  | .bin op k cst x y => okO (binV rd op k cst (val env x) (val env y))
  | .un op x => okO (unV op (val env x))
  | .conv c x => convV rd c (val env x)
  | .mkI t x => .ok (.ifc t (val env x)) .no
  | .mkF f first captured => .ok (.fn f (vals env first) (vals env captured)) .no
  | .mkM => .mk false (fun i => .m (some (.ex i))) (.map [] 0 false)
  | .mkS zero bytes el l c => ofO (natV (val env l)) fun l => ofO (natV (val env c)) fun c => aMkS zero bytes el l c
  | .slS x lo hi => aSlS env lo hi (val env x)
  | .slV size x lo hi mx => aSlV rd env size lo hi mx (val env x)
  | .slA n size x lo hi mx => aSlA env n size lo hi mx (val env x)
  | .fa off x => aFa off (val env x)
  | .fld off n x => aFld off n (val env x)
  | .iaV size x ix => aIaV size (val env x) (val env ix)
  | .iaA len size x ix => aIaA len size (val env x) (val env ix)
  | .ixS x ix => aIxS (val env x) (val env ix)
  | .ixA len size n x ix => aIxA len size n (val env x) (val env ix)
  | .lkp kk zero ok m k => aLkp rd kk zero ok (val env m) (val env k)
  | .mset kk m k x => aMset rd kk (val env m) (val env k) (val env x)
  | .ment kk zero m k => aMent rd kk zero (val env m) (val env k)
  | .mest m s x => aMest rd (val env m) (val env s) (val env x)
  | .rngS x => aRngS (val env x)
  | .rngM x => aRngM rd (val env x)
  | .nxtS x => aNxtS rd (val env x)
  | .nxtM x => aNxtM rd (val env x)
  | .ent x => aEnt rd (val env x)
  | .tasI oks most zero ok x => aTasI oks most zero ok (val env x)
  | .tasC t zero ok x => aTasC t zero ok (val env x)
  | .ext x n => aExt (val env x) n
  | .call c args => (match c with
    | .v f => callV (val env f) (vals env args)
    | .b b => builtinV rd b (vals env args)
    | .m r table => aInv rd table (vals env args) (val env r))
  | .dfr f args => aDfr (val env f) (vals env args)
  | .bad => .fail

end Go.AM

/- The abstract machine's run, for the kernel: a heap as a tree, rounds and calls by fuel. Definitions alone. -/
namespace Go.AM

inductive T (α : Type) where
  | e
  | n (l : T α) (v : Option α) (r : T α)
  deriving Inhabited

noncomputable section

/-- (The kernel meets it a hundred thousand times: recursors outright.) -/
def br {α : Type} (b : Bool) (x y : α) : α := Bool.rec y x b
def T.get {α : Type} (t : T α) : Nat → Option α :=
  T.rec (motive := fun _ => Nat → Option α) (fun _ => none) (fun _ v _ gl gr k => br (Nat.beq k 0) v (br (Nat.beq (Nat.mod k 2) 1) (gl (Nat.div k 2)) (gr (Nat.pred (Nat.div k 2))))) t
def T.nl {α : Type} (v : Option α) (r : T α) (l : Option (T α)) : Option (T α) := Option.rec none (fun l => some (.n l v r)) l
def T.nr {α : Type} (l : T α) (v : Option α) (r : Option (T α)) : Option (T α) := Option.rec none (fun r => some (.n l v r)) r
def T.sets {α : Type} (x : Option α) (ih : T α → Nat → Option (T α)) (k : Nat) (l : T α) (v : Option α) (r : T α) : Option (T α) :=
  br (Nat.beq k 0) (some (.n l x r)) (br (Nat.beq (Nat.mod k 2) 1) (T.nl v r (ih l (Nat.div k 2))) (T.nr l v (ih r (Nat.pred (Nat.div k 2)))))
def T.set {α : Type} (x : Option α) (fuel : Nat) : T α → Nat → Option (T α) :=
  Nat.rec (motive := fun _ => T α → Nat → Option (T α)) (fun _ _ => none) (fun _ ih t k => T.rec (motive := fun _ => Option (T α)) (T.sets x ih k .e none .e) (fun l v r _ _ => T.sets x ih k l v r) t) fuel

/-- What was written ('none': killed), and the next name; what was there is a parameter ('B'). -/
structure H where
  t : T (Option Blk)
  next : Nat
  deriving Inhabited

def orB (d : Option Blk) : Option (Option Blk) → Option Blk
  | some x => x
  | none => d
def H.rd (B : Rd) (h : H) : Rd
  | .old n => B (.old n)
  | .ex n => orB (B (.ex n)) (h.t.get (Nat.mul 2 n))
  | .gr n => orB (B (.gr n)) (h.t.get (Nat.succ (Nat.mul 2 n)))
def H.tr (h : H) : Option (T (Option Blk)) → Option H
  | some t => some ⟨t, h.next⟩
  | none => none
def H.put (h : H) (b : BId) (x : Option Blk) : Option H := match b with
  | .old _ => none
  | .ex n => h.tr (T.set (some x) 40 h.t (Nat.mul 2 n))
  | .gr n => h.tr (T.set (some x) 40 h.t (Nat.succ (Nat.mul 2 n)))
def H.eff (h : H) : Eff → Option H
  | .no => some h
  | .put b blk => h.put b (some blk)
def H.up : Option H → Option H
  | some h => some ⟨h.t, Nat.succ h.next⟩
  | none => none
def H.push (h : H) (g : Bool) (blk : Blk) : Option H := H.up (h.put (gId g h.next) (some blk))

abbrev Defs := List (V × List V)
abbrev Ch := FuncId → List V → H → Option (V × H)

inductive Ex where
  | norm
  | exit (id : Nat)
  | ret
  deriving Inhabited

structure St where
  env : T V
  defs : Defs
  h : H
  deriving Inhabited

def orV : Option V → V
  | some v => v
  | none => .tup []
def evT (env : T V) : Ev := fun n => orV (env.get n)
def setD (env : T V) (dst : Option Nat) (v : V) : Option (T V) := match dst with
  | some d => T.set (some v) 40 env d
  | none => some env

def isB (w : Bool) : V → Bool
  | .b x => x == w
  | _ => false
def wants (env : Ev) : Option (Nat × Bool) → Bool
  | none => true
  | some (t, w) => isB w (env t)

def mkSt (defs : Defs) (h : H) : Option (T V) → Option St
  | some env => some ⟨env, defs, h⟩
  | none => none
def St.to (s : St) (dst : Option Nat) (v : V) : Option H → Option St
  | some h => mkSt s.defs h (setD s.env dst v)
  | none => none
def St.toR (s : St) (dst : Option Nat) : Option (V × H) → Option St
  | some (v, h) => mkSt s.defs h (setD s.env dst v)
  | none => none
def St.rep (s : St) (dst : Option Nat) (v : Nat → V) (blk : Blk) : Option H → Option St
  | some h => s.to dst (v h.next) (h.push true blk)
  | none => none
def St.any1 (s : St) (dst : Option Nat) : List (V × Eff) → Option St
  | [x] => s.to dst x.1 (s.h.eff x.2)
  | _ => none
def St.res (ch : Ch) (s : St) (dst : Option Nat) : Res → Option St
  | .fail => none
  | .ok v e => s.to dst v (s.h.eff e)
  | .mk g v blk => s.to dst (v s.h.next) (s.h.push g blk)
  | .rep v kill blk => s.rep dst v blk (s.h.put kill none)
  | .call f args => s.toR dst (ch f args s.h)
  | .dfr f args => mkSt ((f, args) :: s.defs) s.h (setD s.env dst (.tup []))
  | .any l => s.any1 dst l
/-- One operation. -/
def runOp (B : Rd) (ch : Ch) (o : Op') (s : St) : Option St :=
  bif wants (evT s.env) o.grd then s.res ch o.dst (aop (s.h.rd B) (evT s.env) o.op) else mkSt s.defs s.h (setD s.env o.dst (.tup []))

def thenS {α : Type} (f : St → Option α) : Option St → Option α
  | some s => f s
  | none => none
def runOps (B : Rd) (ch : Ch) (l : List Op') : St → Option St :=
  List.rec (motive := fun _ => St → Option St) (fun s => some s) (fun o _ ih s => thenS ih (runOp B ch o s)) l

mutual
def beqV : V → V → Bool
  | .b x, .b y => x == y
  | .i k x, .i l y => kbeq k l && ibeq x y
  | .s x, .s y => bytesEq x y
  | .p none, .p none => true
  | .p (some a), .p (some c) => a.b.beq c.b && Nat.beq a.o c.o
  | .sl none n c, .sl none m d => Nat.beq n m && Nat.beq c d
  | .sl (some a) n c, .sl (some a') m d => a.b.beq a'.b && Nat.beq a.o a'.o && Nat.beq n m && Nat.beq c d
  | .m none, .m none => true
  | .m (some a), .m (some c) => a.beq c
  | .nf, .nf => true
  | .ni, .ni => true
  | .ifc t v, .ifc u w => Nat.beq t u && beqV v w
  | .agg x, .agg y => beqVs x y
  | .tup x, .tup y => beqVs x y
  | .fn (.func f) a c, .fn (.func g) a' c' => Nat.beq f g && beqVs a a' && beqVs c c'
  | _, _ => false
def beqVs : List V → List V → Bool
  | [], [] => true
  | v :: l, w :: m => beqV v w && beqVs l m
  | _, _ => false
end

def same1 (w : V) : Res → Bool
  | .ok v .no => beqV v w
  | _ => false
def again1 (B : Rd) (h : H) (env : Ev) (r : Op') : Bool := bif wants env r.grd then match r.dst with
    | some d => same1 (env d) (aop (h.rd B) env r.op)
    | none => false
  else true
def again (B : Rd) (h : H) (env : Ev) : List Op' → Bool
  | [] => true
  | r :: l => again1 B h env r && again B h env l

def putNew (s : St) (dst : Option Nat) (v : V) (b : BId) (blk : Blk) : Option Blk → Option St
  | some _ => none
  | none => s.to dst v (s.h.put b (some blk))
def flRes (B : Rd) (s : St) (dst : Option Nat) (no : Nat) : Res → Option St
  | .ok v .no => mkSt s.defs s.h (setD s.env dst v)
  | .mk g v blk => putNew s dst (v no) (gId g no) blk (s.h.rd B (gId g no))
  | _ => none
def runFl (B : Rd) (no : Nat) (o : Op') (s : St) : Option St :=
  bif wants (evT s.env) o.grd then flRes B s o.dst no (aop (s.h.rd B) (evT s.env) o.op) else mkSt s.defs s.h (setD s.env o.dst (.tup []))
def askRe (B : Rd) (re : List Op') (s : St) : Option St := bif again B s.h (evT s.env) re then some s else none
def runDI (B : Rd) (ch : Ch) (base : Nat) (s : St) : DI → Option St
  | .fl o mk => runFl B (Nat.add base mk) o s
  | .an o re => thenS (askRe B re) (runOp B ch o s)
def runDs (B : Rd) (ch : Ch) (base : Nat) (l : List DI) : St → Option St :=
  List.rec (motive := fun _ => St → Option St) (fun s => some s) (fun i _ ih s => thenS ih (runDI B ch base s i)) l
def runDr (B : Rd) (ch : Ch) (makes : Nat) (s : St) : List (List DI) → Option St
  | [l] => runDs B ch s.h.next l ⟨s.env, s.defs, ⟨s.h.t, Nat.add s.h.next makes⟩⟩
  | _ => none

abbrev Out := Option (Ex × St)
def bindS (f : St → Out) : Option St → Out
  | some s => f s
  | none => none
def norm : Option St → Out
  | some s => some (.norm, s)
  | none => none
def thenC (f : St → Out) : Out → Out
  | some (.norm, s) => f s
  | r => r
def endB (id : Nat) : Out → Out
  | some (.exit k, s) => bif Nat.beq k id then some (.norm, s) else some (.exit k, s)
  | r => r
def iter (f : St → Out) (n : Nat) : St → Out :=
  Nat.rec (motive := fun _ => St → Out) (fun _ => none) (fun _ ih s => thenC ih (f s)) n
def ofB (x y : Out) : V → Out
  | .b true => x
  | .b false => y
  | _ => none

def runC (B : Rd) (ch : Ch) (fuel : Nat) (c : C) : St → Out :=
  C.rec (motive := fun _ => St → Out)
    (fun s => some (.norm, s))
    (fun ops s => norm (runOps B ch ops s))
    (fun alts makes s => norm (runDr B ch makes s alts))
    (fun _ _ ra rb s => thenC rb (ra s))
    (fun c _ _ rx ry s => ofB (rx s) (ry s) (val (evT s.env) c))
    (fun id _ rx s => endB id (rx s))
    (fun _ rx s => iter rx fuel s)
    (fun id s => some (.exit id, s))
    (fun s => some (.ret, s)) c

def resP (rd : Rd) (n : Option Nat) : V → Option V
  | .p (some a) => (match n with
    | some k => aggO (rdCells rd a k)
    | none => one (rdCells rd a 1))
  | _ => none
def resV (rd : Rd) (env : Ev) : RV → Option V
  | .tmp t => some (env t)
  | .cell t n => resP rd n (env t)
def cons2 (x : Option V) (l : Option (List V)) : Option (List V) := match x with
  | some v => consO v l
  | none => none
def resVs (rd : Rd) (env : Ev) : List RV → Option (List V)
  | [] => some []
  | r :: l => cons2 (resV rd env r) (resVs rd env l)
def result : List V → V
  | [v] => v
  | vs => .tup vs

/-- The calls that were deferred, the last first: 'dch': what such a call does. -/
def thenH {α : Type} (f : H → Option α) : Option (V × H) → Option α
  | some (_, h) => f h
  | none => none
def dcall (dch : Ch) (f : V) (args : List V) (h : H) : Option (V × H) := match f with
  | .fn (.func g) first captured => dch g (first ++ args ++ captured) h
  | _ => none
def runDefs (dch : Ch) : Defs → H → Option H
  | [], h => some h
  | d :: ds, h => thenH (runDefs dch ds) (dcall dch d.1 d.2 h)

def argsT : List V → Nat → T V → Option (T V)
  | [], _, t => some t
  | v :: l, n, t => match T.set (some v) 40 t n with
    | some t => argsT l (n + 1) t
    | none => none

def outV (h : H) : Option (List V) → Option (V × H)
  | some vs => some (result vs, h)
  | none => none
def outH (B : Rd) (env : Ev) (res : List RV) : Option H → Option (V × H)
  | some h => outV h (resVs (h.rd B) env res)
  | none => none
def endF (B : Rd) (dch : Ch) (res : List RV) : Out → Option (V × H)
  | some (.norm, s) => outH B (evT s.env) res (runDefs dch s.defs s.h)
  | some (.ret, s) => outH B (evT s.env) res (runDefs dch s.defs s.h)
  | _ => none
def runF (B : Rd) (ch dch : Ch) (fuel : Nat) (f : F) (args : List V) (h : H) : Option (V × H) :=
  bif Nat.ble args.length f.ntmps then endF B dch f.res (bindS (runC B ch fuel f.code) (mkSt [] h (argsT args 0 .e))) else none

/-! ### Where an outcome is open: all outcomes, made one -/

def one1 {α : Type} : Option α → Option (List α)
  | some a => some [a]
  | none => none
def appO {α : Type} (x y : Option (List α)) : Option (List α) := match x with
  | some a => (match y with
    | some b => some (a ++ b)
    | none => none)
  | none => none
def bindL {α β : Type} (f : α → Option (List β)) (l : List α) : Option (List β) :=
  List.rec (motive := fun _ => Option (List β)) (some []) (fun a _ ih => appO (f a) ih) l
def thenL {α β : Type} (f : α → Option (List β)) : Option (List α) → Option (List β)
  | some l => bindL f l
  | none => none
def St.resM (ch : Ch) (s : St) (dst : Option Nat) : Res → Option (List St)
  | .any l => bindL (fun x => one1 (s.to dst x.1 (s.h.eff x.2))) l
  | r => one1 (s.res ch dst r)
def runOpM (B : Rd) (ch : Ch) (o : Op') (s : St) : Option (List St) :=
  bif wants (evT s.env) o.grd then s.resM ch o.dst (aop (s.h.rd B) (evT s.env) o.op) else one1 (mkSt s.defs s.h (setD s.env o.dst (.tup [])))
def runOpsM (B : Rd) (ch : Ch) (l : List Op') : St → Option (List St) :=
  List.rec (motive := fun _ => St → Option (List St)) (fun s => some [s]) (fun o _ ih s => thenL ih (runOpM B ch o s)) l
def runDIM (B : Rd) (ch : Ch) (base : Nat) (s : St) : DI → Option (List St)
  | .fl o mk => one1 (runFl B (Nat.add base mk) o s)
  | .an o re => thenL (fun s => one1 (askRe B re s)) (runOpM B ch o s)
def runDsM (B : Rd) (ch : Ch) (base : Nat) (l : List DI) : St → Option (List St) :=
  List.rec (motive := fun _ => St → Option (List St)) (fun s => some [s]) (fun i _ ih s => thenL ih (runDIM B ch base s i)) l
def runDrM (B : Rd) (ch : Ch) (makes : Nat) (s : St) (alts : List (List DI)) : Option (List St) :=
  bindL (fun l => runDsM B ch s.h.next l ⟨s.env, s.defs, ⟨s.h.t, Nat.add s.h.next makes⟩⟩) alts

abbrev OutM := Option (List (Ex × St))
def normM : Option (List St) → OutM
  | some l => some (l.map fun s => (.norm, s))
  | none => none
def thenP (f : St → OutM) (p : Ex × St) : OutM := match p with
  | (.norm, s) => f s
  | r => some [r]
def endP (id : Nat) (p : Ex × St) : Ex × St := match p with
  | (.exit k, s) => bif Nat.beq k id then (.norm, s) else (.exit k, s)
  | r => r
def endBM (id : Nat) : OutM → OutM
  | some l => some (l.map (endP id))
  | none => none
def iterM (f : St → OutM) (n : Nat) : St → OutM :=
  Nat.rec (motive := fun _ => St → OutM) (fun _ => none) (fun _ ih s => thenL (thenP ih) (f s)) n
def ofBM (x y : OutM) : V → OutM
  | .b true => x
  | .b false => y
  | _ => none
def runCM (B : Rd) (ch : Ch) (fuel : Nat) (c : C) : St → OutM :=
  C.rec (motive := fun _ => St → OutM)
    (fun s => some [(.norm, s)])
    (fun ops s => normM (runOpsM B ch ops s))
    (fun alts makes s => normM (runDrM B ch makes s alts))
    (fun _ _ ra rb s => thenL (thenP rb) (ra s))
    (fun c _ _ rx ry s => ofBM (rx s) (ry s) (val (evT s.env) c))
    (fun id _ rx s => endBM id (rx s))
    (fun _ rx s => iterM rx fuel s)
    (fun id s => some [(.exit id, s)])
    (fun s => some [(.ret, s)]) c
def endFM (B : Rd) (dch : Ch) (res : List RV) (p : Ex × St) : Option (V × H) := endF B dch res (some p)
def bindSM (f : St → OutM) : Option St → OutM
  | some s => f s
  | none => none
def runFM (B : Rd) (ch dch : Ch) (fuel : Nat) (f : F) (args : List V) (h : H) : Option (List (V × H)) :=
  bif Nat.ble args.length f.ntmps then thenL (fun p => one1 (endFM B dch f.res p)) (bindSM (runCM B ch fuel f.code) (mkSt [] h (argsT args 0 .e))) else none

def beqO (a b : Option Nat) : Bool := match a, b with
  | none, none => true
  | some x, some y => Nat.beq x y
  | _, _ => false
def beqNs : List Nat → List Nat → Bool
  | [], [] => true
  | a :: x, b :: y => Nat.beq a b && beqNs x y
  | _, _ => false
def beqEs : List Ent → List Ent → Bool
  | [], [] => true
  | a :: x, b :: y => Nat.beq a.born b.born && (beqV a.key b.key && (beqV a.val b.val && beqEs x y))
  | _, _ => false
def beqBlk : Blk → Blk → Bool
  | .cells cs el fz st ro gz, .cells cs' el' fz' st' ro' gz' => Nat.beq el el' && (beqO fz fz' && ((st == st') && ((ro == ro') && (Nat.beq gz gz' && beqVs cs cs'))))
  | .map es c ro, .map es' c' ro' => Nat.beq c c' && ((ro == ro') && beqEs es es')
  | _, _ => false
def beqOB : Option Blk → Option Blk → Bool
  | none, none => true
  | some a, some b => beqBlk a b
  | _, _ => false
/-- Two writings made one: where they differ and the name is new, nothing is known. 'k': the name's key, 'k0': the first new one. -/
def mixV (isnew : Bool) (x y : Option (Option Blk)) : Option (Option (Option Blk)) := match x, y with
  | none, none => some none
  | some a, some b => bif beqOB a b then some (some a) else bif isnew then some (some none) else none
  | _, _ => bif isnew then some (some none) else none
def mkN {α : Type} (v : Option (Option α)) (l r : Option (T α)) : Option (T α) := match v with
  | some v => (match l with
    | some l => (match r with
      | some r => some (.n l v r)
      | none => none)
    | none => none)
  | none => none
def T.val {α : Type} : T α → Option α
  | .e => none
  | .n _ v _ => v
def T.lft {α : Type} : T α → T α
  | .e => .e
  | .n l _ _ => l
def T.rgt {α : Type} : T α → T α
  | .e => .e
  | .n _ _ r => r
def mixT (k0 : Nat) (fuel : Nat) : T (Option Blk) → T (Option Blk) → (Nat → Nat) → Option (T (Option Blk)) :=
  Nat.rec (motive := fun _ => T (Option Blk) → T (Option Blk) → (Nat → Nat) → Option (T (Option Blk))) (fun _ _ _ => none)
    (fun _ ih x y p => match x, y with
      | .e, .e => some .e
      | x, y => mkN (mixV (Nat.ble k0 (p 0)) x.val y.val) (ih x.lft y.lft fun j => p (Nat.succ (Nat.mul 2 j))) (ih x.rgt y.rgt fun j => p (Nat.add (Nat.mul 2 j) 2))) fuel
def mix2 (k0 : Nat) (a : V × H) (b : V × H) : Option (V × H) :=
  bif beqV a.1 b.1 && Nat.beq a.2.next b.2.next then (match mixT k0 40 a.2.t b.2.t fun j => j with
    | some t => some (a.1, ⟨t, a.2.next⟩)
    | none => none) else none
def mixL (k0 : Nat) (a : V × H) : List (V × H) → Option (V × H)
  | [] => some a
  | b :: l => match mix2 k0 a b with
    | some c => mixL k0 c l
    | none => none
def mixO (k0 : Nat) : Option (List (V × H)) → Option (V × H)
  | some (a :: l) => mixL k0 a l
  | _ => none
/-- What was written last ('y'), laid onto what was written before. -/
def T.over {α : Type} (y : T α) : T α → T α :=
  T.rec (motive := fun _ => T α → T α) (fun x => x) (fun _ v _ ol or x => .n (ol x.lft) (match v with | some w => some w | none => x.val) (or x.rgt)) y
def overO (h : H) : Option (V × H) → Option (V × H)
  | some (v, h') => some (v, ⟨T.over h'.t h.t, h'.next⟩)
  | none => none

abbrev Sum := Rd → List V → H → Option (V × H)
/-- A table of functions, and summaries: what a call does, plainly ('sum') or deferred ('dsum'); 'multi': whose outcomes are made one. -/
structure Tab where
  fs : FuncId → Option F
  sum : FuncId → Option Sum
  dsum : FuncId → Option Sum
  multi : FuncId → Bool

def orSum (B : Rd) (r : Option (V × H)) (args : List V) (h : H) : Option Sum → Option (V × H)
  | some g => g B args h
  | none => r
def runMul (ch : Rd → Ch) (dch : Rd → Ch) (B : Rd) (fuel : Nat) (x : F) (args : List V) (h : H) : Option (V × H) :=
  overO h (mixO (Nat.mul 2 h.next) (runFM (h.rd B) (ch (h.rd B)) (dch (h.rd B)) fuel x args ⟨.e, h.next⟩))
def orF (ch dch : Rd → Ch) (B : Rd) (fuel : Nat) (mu : Bool) (args : List V) (h : H) : Option F → Option (V × H)
  | some x => br mu (runMul ch dch B fuel x args h) (runF B (ch B) (dch B) fuel x args h)
  | none => none
def noCh : Ch := fun _ _ _ => none
def dF (B : Rd) (ch : Rd → Ch) (fuel : Nat) (args : List V) (h : H) : Option F → Option (V × H)
  | some x => runF B (ch B) noCh fuel x args h
  | none => none
/-- Deferred calls: of functions that defer none themselves. -/
def dCh (tb : Tab) (fuel : Nat) (ch : Rd → Ch) (B : Rd) : Ch := fun g args h => orSum B (dF B ch fuel args h (tb.fs g)) args h (tb.dsum g)
def run (tb : Tab) (fuel n : Nat) : Rd → Ch :=
  Nat.rec (motive := fun _ => Rd → Ch) (fun _ _ _ _ => none)
    (fun _ ih B f args h => orSum B (orF ih (dCh tb fuel ih) B fuel (tb.multi f) args h (tb.fs f)) args h (tb.sum f)) n

end

end Go.AM

/- From the model's code to the abstract machine's: every type is looked up once. -/
namespace Go.AM

def szOf (P : Program) (t : TypeId) : Option Nat := match P.info? t with | some i => some i.size | none => none
def isAggB (P : Program) (t : TypeId) : Bool := match P.underlying t with
  | some (.struct _) => true
  | some (.array _ _) => true
  | _ => false
def aggN (P : Program) (t : TypeId) : Option (Option Nat) := match P.underlying t with
  | none => none
  | some d => match P.info? t with
    | none => none
    | some i => some (match d with
      | .struct _ => some i.size
      | .array _ _ => some i.size
      | _ => none)

mutual
def absC : Value → Option V
  | .bool x => some (.b x)
  | .int k n => some (.i k n)
  | .string s => some (.s s.data.toList)
  | .pointer none => some (.p none)
  | .slice none 0 0 => some (.sl none 0 0)
  | .map none => some (.m none)
  | .nilFunc => some .nf
  | .nilIface => some .ni
  | .agg ⟨cs⟩ => match absCs cs with | some l => some (.agg l) | none => none
  | .tuple ⟨cs⟩ => match absCs cs with | some l => some (.tup l) | none => none
  | _ => none
def absCs : List Value → Option (List V)
  | [] => some []
  | v :: l => match absC v, absCs l with | some v, some l => some (v :: l) | _, _ => none
end

def cOpd : Operand → Option Opd
  | .tmp t => some (.t t)
  | .const v => match absC v with | some v => some (.c v) | none => none
  | .global g => some (.c (.p (some ⟨.old g, 0⟩)))
  | .func f => some (.c (.fn (.func f) [] []))
def cOpds : List Operand → Option (List Opd)
  | [] => some []
  | x :: l => match cOpd x, cOpds l with | some x, some l => some (x :: l) | _, _ => none
def cOpt : Option Operand → Option (Option Opd)
  | none => some none
  | some x => match cOpd x with | some x => some (some x) | none => none

def zeroOf (P : Program) (t : TypeId) : Option V := match P.info? t with
  | some i => match i.zero with | some z => absC z | none => none
  | none => none
def isConstO : Operand → Bool
  | .const _ => true
  | _ => false

/-- Types that are pointers to what has a size. -/
def ptrTys (P : Program) : List TypeId := (List.range P.types.size).filter fun t => match P.underlying t with
  | some (.pointer e) => (match szOf P e with | some n => !Nat.beq n 0 | none => false) && (match P.info? t with | some i => i.comparable | none => false)
  | _ => false

def eqK.go (P : Program) (kt : TypeId → Option EqK) : List Field → Option (List (Nat × Option Nat × EqK))
  | [] => some []
  | f :: fs => if f.name == "_" then eqK.go P kt fs else
    match aggN P f.type, kt f.type, eqK.go P kt fs with
    | some a, some k, some l => some ((f.offset, a, k) :: l)
    | _, _, _ => none
def eqK (P : Program) (ptrs : List TypeId) : Nat → TypeId → Option EqK
  | 0, _ => none
  | d + 1, t => match P.underlying t with
    | some .bool => some .bool
    | some (.int _) => some .int
    | some .string => some .str
    | some (.pointer e) => match szOf P e with | some n => if Nat.beq n 0 then none else some .ptr | none => none
    | some (.interface ms) => some (.iface (!ms.isEmpty) ptrs)
    | some (.struct fs) =>
      if P.stoodInHeld t then none else
      match eqK.go P (eqK P ptrs d) fs.toList with | some l => some (.struct l) | none => none
    | some (.array n e) => if n = 1 then (match szOf P e, aggN P e, eqK P ptrs d e with
      | some _, some a, some k => some (.struct [(0, a, k)])
      | _, _, _ => none) else none
    | some (.slice _) => some .nilS
    | some (.map _ _) => some .nilM
    | some (.func _ _ _) => some .nilF
    | _ => none

/-- Kinds whose values hold no address: what may be a key. -/
def plainK : EqK → Bool
  | .int | .str => true
  | .struct fs => all fs
  | _ => false
where all : List (Nat × Option Nat × EqK) → Bool
  | [] => true
  | (_, _, k) :: fs => (match k with | .int | .str | .bool => true | _ => false) && all fs

def keyK (P : Program) (t : TypeId) : Option EqK := match P.underlying t with
  | some (.array ..) => none
  | _ => match eqK P [] 8 t with
    | some k => bif plainK k then some k else none
    | none => none

def cParts (place : Nat → Option (Nat × Nat)) : List (Nat × Operand) → Option (List (Nat × Nat × Opd))
  | [] => some []
  | (i, x) :: l => match place i, cOpd x, cParts place l with
    | some (o, s), some x, some l => some ((o, s, x) :: l)
    | _, _, _ => none

/-- Where a struct's fields lie, and their sizes. -/
def placesOf (P : Program) : List Field → Option (List (Nat × Nat))
  | [] => some []
  | f :: fs => match szOf P f.type, placesOf P fs with
    | some s, some l => some ((f.offset, s) :: l)
    | _, _ => none

/-- The methods of a name, type by type: those that are called with the value as it lies, or with what it points to. -/
def table (P : Program) (name : String) : List (TypeId × FuncId × Option Nat) := (List.range P.types.size).filterMap fun t =>
  match P.info? t with
  | none => none
  | some i => match i.methods.find? (·.name == name) with
    | none => none
    | some m => if !m.path.isEmpty then none else
      match m.func, P.underlying t with
      | some (f, true), some (.pointer _) => some (t, f, none)
      | some (f, false), some (.pointer e) => if isAggB P e then (match szOf P e with | some n => some (t, f, some n) | none => none) else none
      | some (f, false), some _ => some (t, f, none)
      | _, _ => none

def elemT (P : Program) (t : TypeId) : Option TypeId := match P.underlying t with
  | some (.slice e) => some e
  | _ => none

def cBt (P : Program) (b : Builtin) (ts : List TypeId) : Option Bt := match b, ts with
  | .append, [t, u] => match elemT P t with
    | some e => match P.info? e, zeroOf P e with
      | some i, some z => if Nat.beq i.size 0 || (Nat.beq i.bytes 0 || !Nat.beq z.cells.length i.size) then none else (match P.underlying u with
        | some (.slice _) => some (.append i.size i.bytes e)
        | some .string => if Nat.beq i.size 1 then some (.append i.size i.bytes e) else none
        | _ => none)
      | _, _ => none
    | none => none
  | .cap, [t] => match P.underlying t with | some (.slice _) => some .cap | _ => none
  | .clear, [t] => match P.underlying t with
    | some (.slice e) => match zeroOf P e with | some z => if Nat.beq z.cells.length 0 then none else some (.clear z.cells) | none => none
    | some (.map _ _) => some .clearM
    | _ => none
  | .copy, t :: _ => match elemT P t with
    | some e => match szOf P e with | some n => some (.copy n) | none => none
    | none => none
  | .delete, t :: _ => match P.underlying t with
    | some (.map k _) => match keyK P k with | some kk => some (.delete kk) | none => none
    | _ => none
  | .len, [t] => match P.underlying t with
    | some (.array n _) => some (.lenN n)
    | some (.pointer a) => match P.underlying a with | some (.array n _) => some (.lenN n) | _ => none
    | some .string => some .lenS
    | some (.slice _) => some .lenV
    | some (.map _ _) => some .lenM
    | _ => none
  | .max, _ => some .max
  | .min, _ => some .min
  | .unsafeString, [pt, _] => match P.underlying pt with
    | some (.pointer e) => match szOf P e with | some n => if Nat.beq n 1 then some (.usString e) else none | none => none
    | _ => none
  | .unsafeSliceData, [_] => some .usSliceData
  | _, _ => none

/-- Does a method set hold all that is wanted? -/
def hasAll (want : Array (String × TypeId)) (got : Array Method) : Bool := want.toList.all fun x => got.toList.any fun m => m.name == x.1 && m.sig == x.2
def oks (P : Program) (want : Array (String × TypeId)) : List TypeId := (List.range P.types.size).filter fun t => match P.info? t with
  | some i => hasAll want i.methods
  | none => false

/-- 'ptrs', 'ok': the program's types that are pointers; which types have an interface's methods: reckoned once, handed in. -/
def cOp (P : Program) (ptrs : List TypeId) (o : Oper) : Option O := match o.op with
  | .move x => match cOpd x with | some x => some (.mov x) | none => none
  | .assign x => match cOpd x with | some x => some (.mov x) | none => none
  | .pick c a b => match cOpd c, cOpd a, cOpd b with | some c, some a, some b => some (.pick c a b) | _, _, _ => none
  | .alloc t => match zeroOf P t with | some z => if allFlat z.cells then some (.new z.cells t) else none | none => none
  | .box t x => match cOpd x with | some x => some (.box x t) | none => none
  | .build t ps => match zeroOf P t, P.underlying t with
    | some z, some (.struct fs) => match placesOf P fs.toList with
      | some pl => match cParts (fun i => pl[i]?) ps.toList with
        | some l => some (.build z.cells l)
        | none => none
      | none => none
    | some z, some (.array _ e) => match szOf P e with
      | some s => match cParts (fun i => some (i * s, s)) ps.toList with | some l => some (.build z.cells l) | none => none
      | none => none
    | _, _ => none
  | .buildSlice t n ps => match elemT P t with
    | some e => match szOf P e, zeroOf P e with
      | some s, some z => if Nat.beq s 0 || Nat.blt 16777216 (n * s) || !Nat.beq z.cells.length s || !allFlat z.cells then none else
        match cParts (fun i => some (i * s, s)) ps.toList with | some l => some (.buildS z.cells n l e) | none => none
      | _, _ => none
    | none => none
  | .insert t m k x | .mapUpdate t m k x => match P.underlying t, cOpd m, cOpd k, cOpd x with
    | some (.map kt _), some m, some k, some x => match keyK P kt with | some kk => some (.mset kk m k x) | none => none
    | _, _, _, _ => none
  | .load t a => match aggN P t, cOpd a with | some n, some a => some (.load n a) | _, _ => none
  | .store t a x => match szOf P t, cOpd a, cOpd x with | some n, some a, some x => some (.store n a x) | _, _, _ => none
  | .nilCheck x => match cOpd x with | some x => some (.nilc x) | none => none
  | .binOp op t x y _ => match cOpd x, cOpd y with
    | some a, some b => match P.underlying t with
      | some (.int _) => some (.bin op .int false a b)
      | some .string => some (.bin op .str false a b)
      | _ => bif P.eqGuardType P.depth t && isAggB P t then none else
        match eqK P ptrs 8 t with | some k => some (.bin op k (isConstO x || isConstO y) a b) | none => none
    | _, _ => none
  | .unOp op _ x => match cOpd x with | some x => some (.un op x) | none => none
  | .convert s d x => match cOpd x with
    | some x => match P.underlying s, P.underlying d with
      | some (.int _), some (.int k) => some (.conv (.int k) x)
      | some (.int _), some .string => some (.conv .runeStr x)
      | some .string, some .string => some (.conv .strStr x)
      | some .string, some (.slice e) => match P.underlying e with | some (.int .u8) => some (.conv (.strBytes e) x) | _ => none
      | some (.slice e), some .string => match P.underlying e with | some (.int .u8) => some (.conv .bytesStr x) | _ => none
      | _, _ => none
    | none => none
  | .makeInterface t x => match P.underlying t, cOpd x with
    | some (.interface _), _ => none
    | some _, some x => some (.mkI t x)
    | _, _ => none
  | .makeFunc f a b => match cOpds a.toList, cOpds b.toList with | some a, some b => some (.mkF f a b) | _, _ => none
  | .makeMap _ none => some .mkM
  | .makeMap t (some (.const (.int _ _))) => match P.underlying t with | some (.map _ _) => some .mkM | _ => none
  | .makeSlice t l c => match elemT P t with
    | some e => match P.info? e, zeroOf P e, cOpd l, cOpd c with
      | some i, some z, some l, some c => if Nat.beq i.size 0 || !Nat.beq z.cells.length i.size || !allFlat z.cells then none else some (.mkS z.cells i.bytes e l c)
      | _, _, _, _ => none
    | none => none
  | .slice t x lo hi mx => match cOpd x, cOpt lo, cOpt hi, cOpt mx with
    | some x, some lo, some hi, some mx => match P.underlying t with
      | some .string => (match mx with | none => some (.slS x lo hi) | some _ => none)
      | some (.slice e) => match szOf P e with | some s => some (.slV s x lo hi mx) | none => none
      | some (.array n e) => match szOf P e with | some s => some (.slA n s x lo hi mx) | none => none
      | _ => none
    | _, _, _, _ => none
  | .fieldAddr t x f => match P.underlying t, cOpd x with
    | some (.struct fs), some x => match fs[f]? with
      | some f => match szOf P f.type with | some (_ + 1) => some (.fa f.offset x) | _ => none
      | none => none
    | _, _ => none
  | .field t x f => match P.underlying t, cOpd x with
    | some (.struct fs), some x => match fs[f]? with
      | some f => match aggN P f.type with | some n => some (.fld f.offset n x) | none => none
      | none => none
    | _, _ => none
  | .indexAddr t x i => match cOpd x, cOpd i with
    | some x, some i => match P.underlying t with
      | some (.array n e) => match szOf P e with | some s => some (.iaA n s x i) | none => none
      | some (.slice e) => match szOf P e with | some s => some (.iaV s x i) | none => none
      | _ => none
    | _, _ => none
  | .index t x i => match cOpd x, cOpd i with
    | some x, some i => match P.underlying t with
      | some (.array n e) => match szOf P e, aggN P e with | some s, some a => some (.ixA n s a x i) | _, _ => none
      | some .string => some (.ixS x i)
      | _ => none
    | _, _ => none
  | .lookup t x i ok => match cOpd x, cOpd i, P.underlying t with
    | some x, some i, some (.map kt e) => match keyK P kt, zeroOf P e with | some kk, some z => some (.lkp kk z ok x i) | _, _ => none
    | _, _, _ => none
  | .mapEntry t m k => match cOpd m, cOpd k, P.underlying t with
    | some m, some k, some (.map kt e) => match keyK P kt, zeroOf P e with | some kk, some z => some (.ment kk z m k) | _, _ => none
    | _, _, _ => none
  | .entryStore _ m s x => match cOpd m, cOpd s, cOpd x with | some m, some s, some x => some (.mest m s x) | _, _, _ => none
  | .range t x => match cOpd x, P.underlying t with
    | some x, some .string => some (.rngS x)
    | some x, some (.map _ _) => some (.rngM x)
    | _, _ => none
  | .next x str => match cOpd x with | some x => some (if str then .nxtS x else .nxtM x) | none => none
  | .entry x => match cOpd x with | some x => some (.ent x) | none => none
  | .typeAssert x _ t ok => match cOpd x, zeroOf P t, P.underlying t with
    | some x, some z, some (.interface want) => some (.tasI (oks P want) P.types.size z ok x)
    | some x, some z, some _ => some (.tasC t z ok x)
    | _, _, _ => none
  | .extract x n => match cOpd x with | some x => some (.ext x n) | none => none
  | .call c => match c.callee, cOpds c.args.toList with
    | .value f, some args => match cOpd f with | some f => some (.call (.v f) args) | none => none
    | .invoke r name, some args => match cOpd r with | some r => some (.call (.m r (table P name)) args) | none => none
    | .builtin b, some args => match cBt P b c.argTypes.toList with | some b => some (.call (.b b) args) | none => none
    | _, none => none
  | .defer c => match c.callee, cOpds c.args.toList with
    | .value f, some args => match cOpd f with | some f => some (.dfr f args) | none => none
    | _, _ => none
  | _ => none

def cOp' (P : Program) (ptrs : List TypeId) (ops : Array Oper) (o : Oper) : Op' where
  dst := o.dst
  grd := match o.guard with
    | none => none
    | some (j, w) => match (ops[j]?).bind (·.dst) with | some d => some (d, w) | none => some (1000000, w)
  op := (cOp P ptrs o).getD .bad

/-- 'pure': no memory is asked; 'read': it is; 'make': it makes a block; 'anch': all else. -/
inductive Kd where
  | pure | read | make | anch

def kdOf : O → Kd
  | .mov _ | .pick .. | .build .. | .nilc _ | .un .. | .mkI .. | .mkF .. | .slS .. | .slA .. | .fa .. | .fld .. | .iaV .. | .iaA .. | .ixS .. | .ixA .. | .tasI .. | .tasC .. | .ext .. => .pure
  | .bin _ k _ _ _ => match k with | .bool | .int | .str => .pure | _ => .read
  | .conv c _ => match c with | .int _ | .runeStr | .strStr => .pure | .strBytes _ => .make | .bytesStr => .read
  | .load .. | .lkp .. | .slV .. => .read
  | .new .. | .box .. | .buildS .. | .mkM | .mkS .. => .make
  | .call (.b b) _ => match b with | .lenN _ | .max | .min | .cap | .usSliceData | .lenS | .lenV => .pure | .lenM => .read | _ => .anch
  | _ => .anch

/-- What must have run ahead of each operation, as bits; none: an edge that points forward. -/
def ancs : List Oper → (i : Nat) → List Nat → Option (List Nat)
  | [], _, acc => some acc
  | o :: ops, i, acc => match anc1 i acc o.after.toList with
    | some b => ancs ops (i + 1) (acc ++ [b])
    | none => none
where anc1 (i : Nat) (acc : List Nat) : List Edge → Option Nat
  | [] => some 0
  | e :: es => match anc1 i acc es with
    | none => none
    | some b => if Region.binds .any e then
        (if e.on < i then some (b ||| (acc.getD e.on 0) ||| (1 <<< e.on)) else none)
      else some b

structure It where
  i : Nat
  o : Op'
  k : Kd
  anc : Nat

def It.isAn (x : It) : Bool := match x.k with | .anch => true | _ => false
def It.isRd (x : It) : Bool := match x.k with | .read => true | _ => false
def It.isMk (x : It) : Bool := match x.k with | .make => true | _ => false

/-- None of them must run ahead of it. -/
def isFirst (l : List It) (x : It) : Bool := l.all fun y => !(x.anc.testBit y.i)
def joinO : Option (List (List It)) → Option (List (List It)) → Option (List (List It))
  | some a, some b => some (a ++ b)
  | _, _ => none
def consAll (x : It) : Option (List (List It)) → Option (List (List It))
  | some l => some (l.map (x :: ·))
  | none => none
/-- All orders of the anchored ones that the edges allow (at most so many rounds). -/
def orders : Nat → List It → Option (List (List It))
  | 0, l => match l with
    | [] => some [[]]
    | _ :: _ => none
  | n + 1, l => match l with
    | [] => some [[]]
    | _ :: _ => match l.filter (isFirst l) with
      | [] => none
      | f :: fs => (f :: fs).foldr (fun x acc => joinO (consAll x (orders n (l.filter fun y => !(y.i == x.i)))) acc) (some [])
def notCall : O → Bool
  | .call c _ => (match c with
    | .b _ => true
    | _ => false)
  | _ => true
def isOne : List (List It) → Bool
  | [_] => true
  | _ => false

/-- The floating ones whose anchored ancestors have all run. -/
def canFl (an : List It) (done : List Nat) (x : It) : Bool := an.all fun a => !(x.anc.testBit a.i) || done.contains a.i

def lays (makes : List Nat) (an : List It) : List It → List Nat → List It → List It → List DI
  | [], done, fl, _ => (fl.filter (canFl an done)).map fun x => .fl x.o (makes.idxOf x.i)
  | c :: cs, done, fl, past =>
    let now := fl.filter (canFl an done)
    let past' := past ++ now
    (now.map fun x => DI.fl x.o (makes.idxOf x.i)) ++
      (.an c.o ((past'.filter fun x => x.isRd && !(c.anc.testBit x.i)).map (·.o))) ::
      lays makes an cs (c.i :: done) (fl.filter fun x => !canFl an done x) past'

def itsOf (P : Program) (ptrs : List TypeId) (ops : Array Oper) : List Oper → Nat → List Nat → List It
  | [], _, _ => []
  | o :: l, i, as => ⟨i, cOp' P ptrs ops o, (match o.op with | .assign _ => .anch | _ => kdOf (cOp' P ptrs ops o).op), as.headD 0⟩ :: itsOf P ptrs ops l (i + 1) (as.drop 1)

def opdS : Opd → List Nat
  | .t n => [n]
  | .c _ => []
def optS : Option Opd → List Nat
  | some x => opdS x
  | none => []
def opdsS : List Opd → List Nat
  | [] => []
  | x :: l => opdS x ++ opdsS l
def partsS : List (Nat × Nat × Opd) → List Nat
  | [] => []
  | p :: l => opdS p.2.2 ++ partsS l
def calS : Cal → List Nat
  | .v f => opdS f
  | .m r _ => opdS r
  | .b _ => []
/-- The slots that an operation reads. -/
def slotsO : O → List Nat
  | .mov x | .box x _ | .load _ x | .nilc x | .un _ x | .conv _ x | .mkI _ x | .fa _ x | .fld _ _ x | .rngS x | .rngM x | .nxtS x | .nxtM x | .ent x | .tasI _ _ _ _ x | .tasC _ _ _ x | .ext x _ => opdS x
  | .pick c a b => opdS c ++ (opdS a ++ opdS b)
  | .new _ _ | .mkM | .bad => []
  | .build _ ps | .buildS _ _ ps _ => partsS ps
  | .store _ x y | .bin _ _ _ x y | .mkS _ _ _ x y | .iaV _ x y | .iaA _ _ x y | .ixS x y | .ixA _ _ _ x y | .lkp _ _ _ x y | .ment _ _ x y => opdS x ++ opdS y
  | .mkF _ a b => opdsS a ++ opdsS b
  | .slS x lo hi => opdS x ++ (optS lo ++ optS hi)
  | .slV _ x lo hi mx | .slA _ _ x lo hi mx => opdS x ++ (optS lo ++ (optS hi ++ optS mx))
  | .mset _ m k x => opdS m ++ (opdS k ++ opdS x)
  | .mest m s x => opdS m ++ (opdS s ++ opdS x)
  | .call c args => calS c ++ opdsS args
  | .dfr f args => opdS f ++ opdsS args

/-- The slots that an operation names. -/
def namesO (ops : Array Oper) (o : Oper) : List Tmp := o.dst.toList ++ o.looksAt ops
def grdS : Option (Nat × Bool) → List Nat
  | some (t, _) => [t]
  | none => []
/-- The slots that an operation of a drawn region names, in the model's text or in ours. -/
def It.names (ops : Array Oper) (y : It) : List Nat := (match ops[y.i]? with | some o => namesO ops o | none => []) ++ (slotsO y.o.op ++ grdS y.o.grd)
/-- A floating one's slot is named by none but those that come behind it; an anchored one's by none that is not in an order with it. -/
def It.asks (ops : Array Oper) (y : It) : List Nat := (match ops[y.i]? with | some o => o.looksAt ops | none => []) ++ (slotsO y.o.op ++ grdS y.o.grd)
def slotsOk (ops : Array Oper) (its : List It) : Bool := its.all fun x => match (ops[x.i]?).bind (·.dst) with
  | none => true
  | some d => (x.isAn || !((x.asks ops).contains d)) && its.all fun y => y.i == x.i || !((y.names ops).contains d) || y.anc.testBit x.i || (x.isAn && x.anc.testBit y.i)

def cDraw (P : Program) (ptrs : List TypeId) (ops : Array Oper) : C :=
  match ancs ops.toList 0 [] with
  | none => .reg [⟨none, none, .bad⟩]
  | some as =>
    let its := itsOf P ptrs ops ops.toList 0 as
    let an := its.filter (·.isAn)
    let fl := its.filter fun x => !x.isAn
    let makes := (its.filter (·.isMk)).map (·.i)
    match orders an.length an with
    | some css => if slotsOk ops its && (isOne css || an.all fun x => notCall x.o.op) then .dreg (css.map fun cs => lays makes an cs [] fl []) makes.length else .reg [⟨none, none, .bad⟩]
    | none => .reg [⟨none, none, .bad⟩]

def cReg (P : Program) (ptrs : List TypeId) (ops : Array Oper) (draw : Bool) : C :=
  if draw then cDraw P ptrs ops else .reg (ops.toList.map (cOp' P ptrs ops))

def cCode (P : Program) (ptrs : List TypeId) : Code → C
  | .skip => .skip
  | .region _ ops draw => cReg P ptrs ops draw
  | .seq a b => .seq (cCode P ptrs a) (cCode P ptrs b)
  | .cond c x y => match cOpd c with
    | some c => .cond c (cCode P ptrs x) (cCode P ptrs y)
    | none => .reg [⟨none, none, .bad⟩]
  | .block id x => .block id (cCode P ptrs x)
  | .loop x => .loop (cCode P ptrs x)
  | .exit id => .exit id
  | .ret => .ret
  | _ => .reg [⟨none, none, .bad⟩]

def cRes (P : Program) : List ResultVar → Option (List RV)
  | [] => some []
  | .tmp t :: l => match cRes P l with | some l => some (.tmp t :: l) | none => none
  | .cell t ty :: l => match aggN P ty, cRes P l with | some n, some l => some (.cell t n :: l) | _, _ => none

/-- Every slot that is written is there. -/
def okDst (N : Nat) : Option Nat → Bool
  | some d => Nat.blt d N
  | none => true
def okCode (N : Nat) : Code → Bool
  | .region _ ops _ => ops.toList.all fun o => okDst N o.dst
  | .seq a b => okCode N a && okCode N b
  | .cond _ a b => okCode N a && okCode N b
  | .block _ x => okCode N x
  | .loop x => okCode N x
  | _ => true

def cFunc (P : Program) (ptrs : List TypeId) (f : Func) : Option F := match f.body with
  | some c => if okCode f.ntmps c && Nat.ble f.ntmps 1000000 then match cRes P f.results.toList with
    | some res => some { ntmps := f.ntmps, code := cCode P ptrs c, res }
    | none => none else none
  | none => none

end Go.AM
