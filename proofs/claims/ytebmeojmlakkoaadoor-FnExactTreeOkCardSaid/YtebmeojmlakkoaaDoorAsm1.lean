import Derived.Calls
set_option linter.all false
/- The abstract machine: values, store, operations, and the evaluator of a resolved code tree. -/
namespace Go.Asm

/-- Abstract values. `p..`: immutable data, carried by value; `h..`: a block of the abstract store. -/
inductive AV where
  | undef
  | bool (b : Bool)
  | int (k : IntKind) (n : Int)
  | flt (b : Nat)
  | str (s : ByteArray)
  | nilptr
  | hptr (x off : Nat)
  | pptr (row : List AV) (off : Nat)
  | gptr (g : Nat)
  | nilslice
  | pslice (sz : Nat) (rows : List AV)
  | hslice (sz x off len : Nat)
  | nilmap
  | hmap (x : Nat)
  | pmap (ks vs : List AV)
  | func (f : Nat) (first captured : List AV)
  | nilfunc
  | iface (t : Nat) (v : AV)
  | niliface
  | agg (cs : List AV)
  | tuple (vs : List AV)
  deriving Inhabited

abbrev i64 (n : Int) : AV := .int .i64 n

inductive Blk where
  | cells (cs : List AV)
  | map (ks vs : List AV)
  deriving Inhabited

structure Store where
  next : Nat
  blk : Nat → Option Blk

def Store.empty : Store := ⟨0, fun _ => none⟩
def Store.upd (σ : Store) (x : Nat) (b : Option Blk) : Store := ⟨σ.next, fun y => if y = x then b else σ.blk y⟩
def Store.add (σ : Store) (b : Blk) : Store := ⟨σ.next + 1, fun y => if y = σ.next then some b else σ.blk y⟩

abbrev Res := Option (AV × Store)

/-- Functions of m values and a store. -/
def Cur : Nat → Type
  | 0 => Store → Res
  | n + 1 => AV → Cur n
def Cur.app : (m : Nat) → Cur m → List AV → Store → Res
  | 0, k, [], σ => k σ
  | n + 1, k, v :: l, σ => Cur.app n (k v) l σ
  | _, _, _, _ => none
def Cur.mk : (m : Nat) → (List AV → Store → Res) → Cur m
  | 0, f => fun σ => f [] σ
  | n + 1, f => fun v => Cur.mk n fun l => f (v :: l)

structure Ctx where
  call : Nat → List AV → Store → Res
  G : Nat → Option AV

/-! ### the least fixed point of a partial function -/
/-- r is among what F's least fixed point gives at a. -/
def Lfp {A B : Type} (F : (A → Option B) → A → Option B) (a : A) (r : B) : Prop :=
  ∀ S : A → B → Prop, (∀ (g : A → Option B) (a : A) (r : B), (∀ a' r', g a' = some r' → S a' r') → F g a = some r → S a r) → S a r
open Classical in
noncomputable def lfp {A B : Type} (F : (A → Option B) → A → Option B) (a : A) : Option B :=
  if h : ∃ r, Lfp F a r then some h.choose else none
/-- What the loop with this round comes to. -/
noncomputable def lpFix (m : Nat) (F : Cur m → Cur m) : Cur m :=
  Cur.mk m fun l σ => lfp (fun (g : List AV × Store → Option (AV × Store)) p => Cur.app m (F (Cur.mk m fun l σ => g (l, σ))) p.1 p.2) (l, σ)

def jn (m : Nat) (K : Cur m) (F : Cur m → Res) : Res := F K

def aCase {ρ : Type} (x : AV) (t f : Option ρ) : Option ρ :=
  match x with
  | .bool true => t
  | .bool false => f
  | _ => none

/-! ### cells -/
def AV.cells : AV → List AV
  | .agg cs => cs
  | .undef => []
  | .tuple _ => []
  | v => [v]

def setL (cs : List AV) (off : Nat) : List AV → List AV
  | [] => cs
  | v :: r => setL (cs.set off v) (off + 1) r

/-- A value of one cell. -/
def one : AV → Option AV
  | .agg _ => none
  | .tuple _ => none
  | .undef => none
  | v => some v

/-- A value of n cells. -/
def asplit (n : Nat) (v : AV) : Option (List AV) := if v.cells.length = n then some v.cells else none

def rd1 (G : Nat → Option AV) (p : AV) (σ : Store) : Option AV :=
  match p with
  | .pptr row off => row[off]?
  | .hptr x off => match σ.blk x with
    | some (.cells cs) => cs[off]?
    | _ => none
  | .gptr g => G g
  | _ => none

def rdN (n : Nat) (p : AV) (σ : Store) : Option (List AV) :=
  match p with
  | .pptr row off => if off + n ≤ row.length then some ((row.drop off).take n) else none
  | .hptr x off => match σ.blk x with
    | some (.cells cs) => if off + n ≤ cs.length then some ((cs.drop off).take n) else none
    | _ => none
  | _ => none

def wr (p : AV) (vs : List AV) (σ : Store) : Option Store :=
  match p with
  | .hptr x off => match σ.blk x with
    | some (.cells cs) => if off + vs.length ≤ cs.length then some (σ.upd x (some (.cells (setL cs off vs)))) else none
    | _ => none
  | _ => none

def fadd (p : AV) (off : Nat) : Option AV :=
  match p with
  | .pptr row o => some (.pptr row (o + off))
  | .hptr x o => some (.hptr x (o + off))
  | _ => none

def nnil : AV → Option AV
  | .nilptr => none
  | .niliface => none
  | .nilfunc => none
  | .undef => none
  | v => some v

/-! ### operators -/
def nanF : Nat := 0x7ff8000000000001
def fnum : Option Nat → AV
  | some r => .flt r
  | none => .flt nanF

def intBin (op : BinOp) (k : IntKind) (a b : Int) : Option AV :=
  match op with
  | .add => some (.int k (k.wrap (a + b)))
  | .sub => some (.int k (k.wrap (a - b)))
  | .mul => some (.int k (k.wrap (a * b)))
  | .quo => if b = 0 then none else some (.int k (k.wrap (a.tdiv b)))
  | .rem => if b = 0 then none else some (.int k (a.tmod b))
  | .and => some (.int k (k.wrap (BitVec.ofInt k.bits a &&& BitVec.ofInt k.bits b).toNat))
  | .or => some (.int k (k.wrap (BitVec.ofInt k.bits a ||| BitVec.ofInt k.bits b).toNat))
  | .xor => some (.int k (k.wrap (BitVec.ofInt k.bits a ^^^ BitVec.ofInt k.bits b).toNat))
  | .andNot => some (.int k (k.wrap (BitVec.ofInt k.bits a &&& ~~~BitVec.ofInt k.bits b).toNat))
  | .eql => some (.bool (decide (a = b)))
  | .neq => some (.bool (decide (a ≠ b)))
  | .lss => some (.bool (decide (a < b)))
  | .leq => some (.bool (decide (a ≤ b)))
  | .gtr => some (.bool (decide (a > b)))
  | .geq => some (.bool (decide (a ≥ b)))
  | _ => none

def shBin (op : BinOp) (k : IntKind) (a b : Int) : Option AV :=
  if b < 0 then none else
  match op with
  | .shl => some (.int k (k.wrap (a * 2 ^ (min b.toNat k.bits))))
  | .shr => some (.int k (a.fdiv (2 ^ (min b.toNat k.bits))))
  | _ => none

def fltOrd (a b : Nat) : Option Ordering := FloatKind.f64.format.order a b

def fltBin (op : BinOp) (a b : Nat) : Option AV :=
  match op with
  | .add => some (fnum (FloatKind.f64.format.add a b))
  | .sub => some (fnum (FloatKind.f64.format.sub a b))
  | .mul => some (fnum (FloatKind.f64.format.mul a b))
  | .quo => some (fnum (FloatKind.f64.format.div a b))
  | .eql => some (.bool (fltOrd a b == some .eq))
  | .neq => some (.bool (fltOrd a b != some .eq))
  | .lss => some (.bool (fltOrd a b == some .lt))
  | .leq => some (.bool (fltOrd a b == some .lt || fltOrd a b == some .eq))
  | .gtr => some (.bool (fltOrd a b == some .gt))
  | .geq => some (.bool (fltOrd a b == some .gt || fltOrd a b == some .eq))
  | _ => none

def strMax : Nat := 1152921504606846976

def strBin (op : BinOp) (a b : ByteArray) : Option AV :=
  match op with
  | .add => if a.size + b.size ≤ strMax then some (.str (a ++ b)) else none
  | .eql => some (.bool (decide (a.toList = b.toList)))
  | .neq => some (.bool (decide (a.toList ≠ b.toList)))
  | .lss => some (.bool (Op.bytesLess a.toList b.toList))
  | .leq => some (.bool (Op.bytesLess a.toList b.toList || decide (a.toList = b.toList)))
  | .gtr => some (.bool !(Op.bytesLess a.toList b.toList || decide (a.toList = b.toList)))
  | .geq => some (.bool !(Op.bytesLess a.toList b.toList))
  | _ => none

/-- Equality of two cells of plain kinds. -/
def ceq : AV → AV → Option Bool
  | .int k a, .int k' b => if k = k' then some (decide (a = b)) else none
  | .bool a, .bool b => some (decide (a = b))
  | .str a, .str b => some (decide (a.toList = b.toList))
  | _, _ => none

def ceqL : List AV → List AV → Option Bool
  | [], [] => some true
  | x :: xs, y :: ys => (ceq x y).bind fun b => (ceqL xs ys).bind fun c => some (b && c)
  | _, _ => none

/-- What kind of plain value a key is: it must be the map's. -/
inductive KK where
  | int (k : IntKind) | str | bool | agg (ks : List KK)
  deriving Inhabited
def KK.fits1 : KK → AV → Bool
  | .int k, .int k' _ => decide (k = k')
  | .str, .str _ => true
  | .bool, .bool _ => true
  | _, _ => false
def KK.fitsL : List KK → List AV → Bool
  | [], [] => true
  | k :: ks, v :: vs => k.fits1 v && fitsL ks vs
  | _, _ => false
def KK.fits : KK → AV → Bool
  | .agg ks, .agg vs => KK.fitsL ks vs
  | k, v => k.fits1 v

/-- Of what kind are the operands of `==` (by their type)? -/
inductive EqK where
  | num | bool | ptr | flat (ks : List KK)
  deriving Inhabited

/-- `==` on what is no number and no string. -/
def eqV (e : EqK) (x y : AV) : Option Bool :=
  match e with
  | .num => none
  | .bool => match x, y with
    | .bool a, .bool b => some (decide (a = b))
    | _, _ => none
  | .flat ks => match x, y with
    | .agg xs, .agg ys => if KK.fitsL ks xs && KK.fitsL ks ys then ceqL xs ys else none
    | _, _ => none
  | .ptr => match x, y with
    | .nilptr, .nilptr => some true
    | .hptr _ _, .nilptr => some false
    | .nilptr, .hptr _ _ => some false
    | .pptr _ _, .nilptr => some false
    | .nilptr, .pptr _ _ => some false
    | _, _ => none

def bin (op : BinOp) (e : EqK) (x y : AV) : Option AV :=
  match x, y with
  | .int k a, .int k' b =>
    match op with
    | .shl | .shr => shBin op k a b
    | _ => if k = k' then intBin op k a b else none
  | .flt a, .flt b => fltBin op a b
  | .str a, .str b => strBin op a b
  | x, y =>
    match op with
    | .eql => (eqV e x y).map .bool
    | .neq => (eqV e x y).map fun b => .bool !b
    | _ => none

def un (op : UnOp) (x : AV) : Option AV :=
  match op, x with
  | .neg, .int k n => some (.int k (k.wrap (0 - n)))
  | .xor, .int k n => some (.int k (k.wrap (BitVec.ofInt k.bits (if k.signed then -1 else k.max) ^^^ BitVec.ofInt k.bits n).toNat))
  | .neg, .flt b => some (.flt (Op.negFloat .f64 b))
  | .not, .bool b => some (.bool !b)
  | _, _ => none

/-! ### slices, strings, maps -/
/-- What a slice holds: how many elements, and its cells. -/
def rowsCells (sz : Nat) : List AV → Option (List AV)
  | [] => some []
  | .agg row :: r => if row.length = sz then (rowsCells sz r).map (row ++ ·) else none
  | _ => none

def contents (sz : Nat) (x : AV) (σ : Store) : Option (Nat × List AV) :=
  match x with
  | .nilslice => some (0, [])
  | .pslice s rows => if s = sz then (rowsCells sz rows).map (rows.length, ·) else none
  | .hslice s b off len => if s = sz then (rdN (len * sz) (.hptr b off) σ).map (len, ·) else none
  | _ => none

def maxLen' : Nat := 4294967296

def app (sz : Nat) (s x : AV) (σ : Store) : Res :=
  (contents sz x σ).bind fun (n, new) =>
  match s with
  | .nilslice => if n ≤ maxLen' ∧ 0 < n then some (.hslice sz σ.next 0 n, σ.add (.cells new)) else none
  | .hslice s' b off len =>
    if s' = sz ∧ off = 0 ∧ len + n ≤ maxLen' ∧ 0 < n then
      match σ.blk b with
      | some (.cells cs) => if len * sz ≤ cs.length then
          some (.hslice sz σ.next 0 (len + n), (σ.upd b none).add (.cells (cs.take (len * sz) ++ new))) else none
      | _ => none
    else none
  | _ => none

def idx (sz : Nat) (x i : AV) : Option AV :=
  match x, i with
  | .pslice s rows, .int _ i =>
    if s = sz ∧ 0 ≤ i then
      match rows[i.toNat]? with
      | some (.agg row) => some (.pptr row 0)
      | _ => none
    else none
  | .hslice s b off len, .int _ i => if s = sz ∧ 0 ≤ i ∧ i < len then some (.hptr b (off + i.toNat * sz)) else none
  | _, _ => none

def idxS (x i : AV) : Option AV :=
  match x, i with
  | .str s, .int _ i => if 0 ≤ i then (s[i.toNat]?).map fun b => .int .u8 b.toNat else none
  | _, _ => none

inductive LK where
  | str | sl | mp
  deriving Inhabited
def lenV (k : LK) (x : AV) (σ : Store) : Option AV :=
  match k, x with
  | .str, .str s => some (i64 s.size)
  | .sl, .nilslice => some (i64 0)
  | .sl, .pslice _ rows => some (i64 rows.length)
  | .sl, .hslice _ _ _ len => some (i64 len)
  | .mp, .nilmap => some (i64 0)
  | .mp, .pmap ks _ => some (i64 ks.length)
  | .mp, .hmap x => match σ.blk x with
    | some (.map ks _) => some (i64 ks.length)
    | _ => none
  | _, _ => none

def bound (o : Option AV) (d : Int) : Option Int :=
  match o with
  | none => some d
  | some (.int _ n) => some n
  | _ => none

def sliceS (x : AV) (lo hi : Option AV) : Option AV :=
  match x with
  | .str s => (bound lo 0).bind fun l => (bound hi s.size).bind fun h =>
    if 0 ≤ l ∧ l ≤ h ∧ h ≤ s.size then some (.str (s.extract l.toNat h.toNat)) else none
  | _ => none

def sliceV (sz : Nat) (x : AV) (lo hi : Option AV) : Option AV :=
  match x with
  | .pslice s rows => (bound lo 0).bind fun l => (bound hi rows.length).bind fun h =>
    if (s = sz ∨ rows.length = 0) ∧ 0 ≤ l ∧ l ≤ h ∧ h ≤ rows.length then some (.pslice sz ((rows.take h.toNat).drop l.toNat)) else none
  | .hslice s b off len => (bound lo 0).bind fun l => (bound hi len).bind fun h =>
    if s = sz ∧ 0 ≤ l ∧ l ≤ h ∧ h ≤ len then
      (if l = 0 then some (.hslice sz b off h.toNat) else if l = h then some (.pslice sz []) else some (.hslice sz b (off + l.toNat * sz) (h.toNat - l.toNat))) else none
  | .nilslice => (bound lo 0).bind fun l => (bound hi 0).bind fun h => if l = 0 ∧ h = 0 then some .nilslice else none
  | _ => none

/-- Equality of two keys of plain kinds. -/
def keyEq1 : AV → AV → Bool
  | .int k a, .int k' b => decide (k = k' ∧ a = b)
  | .bool a, .bool b => decide (a = b)
  | .str a, .str b => decide (a.toList = b.toList)
  | _, _ => false
def keyEqL : List AV → List AV → Bool
  | [], [] => true
  | x :: xs, y :: ys => keyEq1 x y && keyEqL xs ys
  | _, _ => false
def keyEq : AV → AV → Bool
  | .agg xs, .agg ys => keyEqL xs ys
  | x, y => keyEq1 x y

def mget (k : AV) : List AV → List AV → Option AV
  | x :: xs, v :: vs => if keyEq k x then some v else mget k xs vs
  | _, _ => none
def mput (k v : AV) : List AV → List AV → List AV × List AV
  | x :: xs, u :: us => if keyEq k x then (x :: xs, v :: us) else ((x :: (mput k v xs us).1), (u :: (mput k v xs us).2))
  | _, _ => ([k], [v])

def lookupL (kk : KK) (zero : AV) (k : AV) (ks vs : List AV) : Option (AV × Bool) :=
  if ks.all kk.fits then
    match mget k ks vs with
    | some v => some (v, true)
    | none => some (zero, false)
  else none
def lookupV (kk : KK) (zero : AV) (m k : AV) (σ : Store) : Option (AV × Bool) :=
  if kk.fits k then
    match m with
    | .nilmap => some (zero, false)
    | .pmap ks vs => lookupL kk zero k ks vs
    | .hmap x => match σ.blk x with
      | some (.map ks vs) => lookupL kk zero k ks vs
      | _ => none
    | _ => none
  else none
def lookup1 (kk : KK) (zero : AV) (m k : AV) (σ : Store) : Option AV := (lookupV kk zero m k σ).map (·.1)
def lookup2 (kk : KK) (zero : AV) (m k : AV) (σ : Store) : Option AV := (lookupV kk zero m k σ).map fun (v, b) => .tuple [v, .bool b]

def mapSet (kk : KK) (m k v : AV) (σ : Store) : Option Store :=
  if kk.fits k then
    match m with
    | .hmap x => match σ.blk x with
      | some (.map ks vs) => if ks.all kk.fits then some (σ.upd x (some (.map (mput k v ks vs).1 (mput k v ks vs).2))) else none
      | _ => none
    | _ => none
  else none

def extr (x : AV) (i : Nat) : Option AV :=
  match x with
  | .tuple vs => vs[i]?
  | _ => none

def pickV (c a b : AV) : Option AV :=
  match c with
  | .bool true => some a
  | .bool false => some b
  | _ => none

def fieldV (agg : Bool) (off n : Nat) (x : AV) : Option AV :=
  match x with
  | .agg cs => if agg then (if off + n ≤ cs.length then some (.agg ((cs.drop off).take n)) else none) else cs[off]?
  | _ => none

inductive CK where
  | int (k : IntKind)      -- int to int
  | i2f                    -- int to float64
  | f2i (k : IntKind)      -- float64 to int
  | ff                     -- float64 to float64
  | b2s                    -- bytes to string
  | ss                     -- string to string
  deriving Inhabited

def bytesOf : List AV → Option (List UInt8)
  | [] => some []
  | .int .u8 n :: r => (bytesOf r).map (UInt8.ofNat n.toNat :: ·)
  | _ => none

def conv (c : CK) (x : AV) (σ : Store) : Option AV :=
  match c, x with
  | .int k, .int _ n => some (.int k (k.wrap n))
  | .i2f, .int _ n => some (.flt (FloatKind.f64.nearest n))
  | .f2i k, .flt b => match (FloatKind.f64.decode b).toInt .zero with
    | some n => if k.min ≤ n ∧ n ≤ k.max then some (.int k n) else none
    | none => none
  | .ff, .flt b => some (.flt b)
  | .ss, .str s => some (.str s)
  | .b2s, x => (contents 1 x σ).bind fun (_, cs) => (bytesOf cs).map fun l => .str ⟨l.toArray⟩
  | _, _ => none

/-- `make([]T, n)`: the zero cells of one element, n times. -/
def mkRows (z : List AV) : Nat → List AV
  | 0 => []
  | n + 1 => z ++ mkRows z n
def mkSlice (z : List AV) (n : AV) (σ : Store) : Res :=
  match n with
  | .int _ n => if 0 ≤ n ∧ n ≤ maxLen' then some (.hslice z.length σ.next 0 n.toNat, σ.add (.cells (mkRows z n.toNat))) else none
  | _ => none

/-! ### immutable views -/
def splitRows (sz : Nat) : Nat → List AV → List (List AV)
  | 0, _ => []
  | n + 1, cs => cs.take sz :: splitRows sz n (cs.drop sz)

/-- The value as immutable data: what it leads to in the store is written out. -/
def view (σ : Store) : Nat → AV → Option AV
  | 0, _ => none
  | _ + 1, .bool b => some (.bool b)
  | _ + 1, .int k n => some (.int k n)
  | _ + 1, .flt b => some (.flt b)
  | _ + 1, .str s => some (.str s)
  | _ + 1, .nilptr => some .nilptr
  | n + 1, .pptr row off => (row.mapM (view σ n)).map (.pptr · off)
  | _ + 1, .nilslice => some (.pslice 0 [])
  | n + 1, .pslice sz rows => (rows.mapM (view σ n)).map (.pslice sz)
  | n + 1, .hslice sz x off len => (rdN (len * sz) (.hptr x off) σ).bind fun cs =>
      ((splitRows sz len cs).mapM fun (row : List AV) => (row.mapM (view σ n)).map AV.agg).map (AV.pslice sz)
  | _ + 1, .nilmap => some (.pmap [] [])
  | n + 1, .pmap ks vs => (ks.mapM (view σ n)).bind fun ks => (vs.mapM (view σ n)).map (.pmap ks)
  | n + 1, .hmap x => match σ.blk x with
    | some (.map ks vs) => (ks.mapM (view σ n)).bind fun ks => (vs.mapM (view σ n)).map (.pmap ks)
    | _ => none
  | n + 1, .agg cs => (cs.mapM (view σ n)).map .agg
  | n + 1, .tuple cs => (cs.mapM (view σ n)).map .tuple
  | _ + 1, _ => none

def scal1 : AV → Bool
  | .bool _ => true
  | .int _ _ => true
  | .flt _ => true
  | .str _ => true
  | .nilptr => true
  | _ => false
def scal : AV → Bool
  | .agg cs => cs.all scal1
  | .tuple cs => cs.all fun v => match v with
    | .agg cs => cs.all scal1
    | v => scal1 v
  | v => scal1 v

def depth : Nat := 12

/-- A call upon immutable arguments, in a store of its own. -/
def callP (D : Ctx) (f : Nat) (args : List AV) : Option AV :=
  (args.mapM (view Store.empty depth)).bind fun args => (D.call f args Store.empty).bind fun r => view r.2 depth r.1
/-- A call upon views of the arguments; its result is plain. -/
def callV (D : Ctx) (f : Nat) (args : List AV) (σ : Store) : Option AV :=
  (args.mapM (view σ depth)).bind fun args => (D.call f args Store.empty).bind fun r => if scal r.1 then some r.1 else none
/-- A call of a function value. -/
def callD (D : Ctx) (f : AV) (args : List AV) (σ : Store) : Res :=
  match f with
  | .func f first captured => D.call f (first ++ args ++ captured) σ
  | _ => none

/-! ### the resolved code -/
inductive Opd where
  | t (n : Nat)
  | c (v : AV)
  deriving Inhabited

inductive ROp where
  | mv (x : Opd)
  | pick (c a b : Opd)
  | pickv (c a b : Opd)
  | zalloc (zero : List AV)
  | halloc (zero : List AV)
  | pbox (x : Opd)
  | lbox (agg : Bool) (n : Nat) (x : Opd)
  | hbox (agg : Bool) (n : Nat) (x : Opd)
  | build (zero : List AV) (parts : List (Nat × Nat × Bool × Opd))
  | pslice (sz : Nat) (zero : List AV) (len : Nat) (parts : List (Nat × Bool × Opd))
  | hslice (sz : Nat) (zero : List AV) (len : Nat) (parts : List (Nat × Bool × Opd))
  | load (agg : Bool) (n : Nat) (a : Opd)
  | store (agg : Bool) (n : Nat) (a x : Opd)
  | nilCheck (x : Opd)
  | bin (op : BinOp) (e : EqK) (x y : Opd)
  | un (op : UnOp) (x : Opd)
  | conv (c : CK) (x : Opd)
  | mkIface (t : Nat) (x : Opd)
  | mkFunc (f : Nat) (first captured : List Opd)
  | mkMap
  | mkSlice (zero : List AV) (n : Opd)
  | sliceS (x : Opd) (lo hi : Option Opd)
  | slice (sz : Nat) (x : Opd) (lo hi : Option Opd)
  | fadd (off : Nat) (x : Opd)
  | field (agg : Bool) (off n : Nat) (x : Opd)
  | idx (sz : Nat) (x i : Opd)
  | idxS (x i : Opd)
  | look1 (kk : KK) (zero : AV) (m k : Opd)
  | look2 (kk : KK) (zero : AV) (m k : Opd)
  | mapSet (kk : KK) (m k x : Opd)
  | extr (x : Opd) (i : Nat)
  | len (k : LK) (x : Opd)
  | app (sz : Nat) (s x : Opd)
  | callP (f : Nat) (args : List Opd)
  | callV (f : Nat) (args : List Opd)
  | callS (f : Nat) (args : List Opd)
  | callD (f : Opd) (args : List Opd)
  deriving Inhabited

inductive Ent where
  | v (a : AV)
  | l (site off : Nat)
  deriving Inhabited
def Ent.at : Ent → Nat → Bool
  | .l s _, t => s.beq t
  | _, _ => false

abbrev Env := List (Nat × Ent)
abbrev Loc := List (Nat × Nat × List AV)

def Env.get : Env → Nat → Ent
  | [], _ => .v .undef
  | (k, e) :: r, t => bif k.beq t then e else Env.get r t
def Loc.get : Loc → Nat → Option (Nat × List AV)
  | [], _ => none
  | (k, e) :: r, t => bif k.beq t then some e else Loc.get r t
def Loc.set : Loc → Nat → List AV → Loc
  | [], _, _ => []
  | (k, n, cs) :: r, t, new => bif k.beq t then (k, n, new) :: r else (k, n, cs) :: Loc.set r t new

/-- Entries that point into a box are unknown from here on. -/
def Env.purgeAt : Env → Nat → Env
  | [], _ => []
  | (k, e) :: r, s => (k, bif e.at s then .v .undef else e) :: Env.purgeAt r s

def ent (env : Env) : Opd → Ent
  | .t n => env.get n
  | .c v => .v v
def val {ρ : Type} (env : Env) (o : Opd) (k : AV → Option ρ) : Option ρ :=
  match ent env o with
  | .v a => k a
  | .l .. => none
def vals {ρ : Type} (env : Env) : List Opd → (List AV → Option ρ) → Option ρ
  | [], k => k []
  | o :: r, k => val env o fun a => vals env r fun l => k (a :: l)
def valO {ρ : Type} (env : Env) (o : Option Opd) (k : Option AV → Option ρ) : Option ρ :=
  match o with
  | none => k none
  | some o => val env o fun a => k (some a)
def put (env : Env) (d : Option Nat) (e : Ent) : Env :=
  match d with
  | some d => (d, e) :: env
  | none => env

abbrev Kn := Env → Loc → Store → Res

/-- The cells of a value that is known to have n of them. -/
def cellsK {ρ : Type} (agg : Bool) (n : Nat) (v : AV) (k : List AV → Option ρ) : Option ρ :=
  bif agg then (asplit n v).bind k else (one v).bind fun v => k [v]

def buildK {ρ : Type} (env : Env) (cells : List AV) : List (Nat × Nat × Bool × Opd) → (List AV → Option ρ) → Option ρ
  | [], k => k cells
  | (off, n, agg, o) :: r, k => val env o fun v => cellsK agg n v fun vs => buildK env (setL cells off vs) r k
def zeros (zero : List AV) : Nat → List AV
  | 0 => []
  | n + 1 => .agg zero :: zeros zero n
def rowsK {ρ : Type} (env : Env) (sz : Nat) (rows : List AV) : List (Nat × Bool × Opd) → (List AV → Option ρ) → Option ρ
  | [], k => k rows
  | (i, agg, o) :: r, k => val env o fun v => cellsK agg sz v fun vs => rowsK env sz (rows.set i (.agg vs)) r k

def flatRows : List AV → List AV
  | [] => []
  | r :: rs => r.cells ++ flatRows rs

def opK {ρ : Type} (D : Ctx) (d : Option Nat) (r : ROp) (env : Env) (loc : Loc) (σ : Store) (k : Env → Loc → Store → Option ρ) : Option ρ :=
  match r with
  | .mv x => k (put env d (ent env x)) loc σ
  | .pick c a b => val env c fun c => aCase c (k (put env d (ent env a)) loc σ) (k (put env d (ent env b)) loc σ)
  | .pickv c a b => val env c fun c => val env a fun a => val env b fun b => (pickV c a b).bind fun v => k (put env d (.v v)) loc σ
  | .zalloc zero => match d with
    | some s => match loc.get s with
      | none => k ((s, .l s 0) :: env.purgeAt s) ((s, zero.length, zero) :: loc) σ
      | some _ => none
    | none => none
  | .halloc zero => k (put env d (.v (.hptr σ.next 0))) loc (σ.add (.cells zero))
  | .pbox x => val env x fun v => k (put env d (.v (.pptr v.cells 0))) loc σ
  | .lbox agg n x => match d with
    | some s => match loc.get s with
      | none => val env x fun v => cellsK agg n v fun cs => k ((s, .l s 0) :: env.purgeAt s) ((s, n, cs) :: loc) σ
      | some _ => none
    | none => none
  | .hbox agg n x => val env x fun v => cellsK agg n v fun cs => k (put env d (.v (.hptr σ.next 0))) loc (σ.add (.cells cs))
  | .build zero parts => buildK env zero parts fun cs => k (put env d (.v (.agg cs))) loc σ
  | .pslice sz zero len parts => rowsK env sz (zeros zero len) parts fun rows => k (put env d (.v (.pslice sz rows))) loc σ
  | .hslice sz zero len parts => rowsK env sz (zeros zero len) parts fun rows => k (put env d (.v (.hslice sz σ.next 0 len))) loc (σ.add (.cells (flatRows rows)))
  | .load agg n a => match ent env a with
    | .l s o => match loc.get s with
      | some (m, cs) =>
        bif agg then (bif o.beq 0 && n.beq m then k (put env d (.v (.agg cs))) loc σ else bif (o + n).ble m then k (put env d (.v (.agg ((cs.drop o).take n)))) loc σ else none)
        else (cs[o]?).bind fun v => k (put env d (.v v)) loc σ
      | none => none
    | .v p => bif agg then (rdN n p σ).bind fun cs => k (put env d (.v (.agg cs))) loc σ else (rd1 D.G p σ).bind fun v => k (put env d (.v v)) loc σ
  | .store agg n a x => val env x fun v => cellsK agg n v fun vs => match ent env a with
    | .l s o => match loc.get s with
      | some (m, cs) =>
        bif o.beq 0 && n.beq m && agg then k (put env d (.v (.tuple []))) (loc.set s vs) σ
        else bif (o + n).ble m then k (put env d (.v (.tuple []))) (loc.set s (setL cs o vs)) σ else none
      | none => none
    | .v p => (wr p vs σ).bind fun σ => k (put env d (.v (.tuple []))) loc σ
  | .nilCheck x => match ent env x with
    | .l s o => match loc.get s with
      | some _ => k (put env d (.l s o)) loc σ
      | none => none
    | .v p => (nnil p).bind fun p => k (put env d (.v p)) loc σ
  | .bin op e x y => val env x fun x => val env y fun y => (bin op e x y).bind fun v => k (put env d (.v v)) loc σ
  | .un op x => val env x fun x => (un op x).bind fun v => k (put env d (.v v)) loc σ
  | .conv c x => val env x fun x => (conv c x σ).bind fun v => k (put env d (.v v)) loc σ
  | .mkIface t x => val env x fun x => k (put env d (.v (.iface t x))) loc σ
  | .mkFunc f first captured => vals env first fun a => vals env captured fun b => k (put env d (.v (.func f a b))) loc σ
  | .mkMap => k (put env d (.v (.hmap σ.next))) loc (σ.add (.map [] []))
  | .mkSlice zero n => val env n fun n => (mkSlice zero n σ).bind fun r => k (put env d (.v r.1)) loc r.2
  | .sliceS x lo hi => val env x fun x => valO env lo fun lo => valO env hi fun hi => (sliceS x lo hi).bind fun v => k (put env d (.v v)) loc σ
  | .slice sz x lo hi => val env x fun x => valO env lo fun lo => valO env hi fun hi => (sliceV sz x lo hi).bind fun v => k (put env d (.v v)) loc σ
  | .fadd off x => match ent env x with
    | .l s o => match loc.get s with
      | some _ => k (put env d (.l s (o + off))) loc σ
      | none => none
    | .v p => (fadd p off).bind fun p => k (put env d (.v p)) loc σ
  | .field agg off n x => val env x fun x => (fieldV agg off n x).bind fun v => k (put env d (.v v)) loc σ
  | .idx sz x i => val env x fun x => val env i fun i => (idx sz x i).bind fun v => k (put env d (.v v)) loc σ
  | .idxS x i => val env x fun x => val env i fun i => (idxS x i).bind fun v => k (put env d (.v v)) loc σ
  | .look1 kk zero m x => val env m fun m => val env x fun x => (lookup1 kk zero m x σ).bind fun v => k (put env d (.v v)) loc σ
  | .look2 kk zero m x => val env m fun m => val env x fun x => (lookup2 kk zero m x σ).bind fun v => k (put env d (.v v)) loc σ
  | .mapSet kk m x y => val env m fun m => val env x fun x => val env y fun y => (mapSet kk m x y σ).bind fun σ => k (put env d (.v (.tuple []))) loc σ
  | .extr x i => val env x fun x => (extr x i).bind fun v => k (put env d (.v v)) loc σ
  | .len kd x => val env x fun x => (lenV kd x σ).bind fun v => k (put env d (.v v)) loc σ
  | .app sz s x => val env s fun s => val env x fun x => (app sz s x σ).bind fun r => k (put env d (.v r.1)) loc r.2
  | .callP f args => vals env args fun args => (callP D f args).bind fun v => k (put env d (.v v)) loc σ
  | .callV f args => vals env args fun args => (callV D f args σ).bind fun v => k (put env d (.v v)) loc σ
  | .callS f args => vals env args fun args => (D.call f args σ).bind fun r => k (put env d (.v r.1)) loc r.2
  | .callD f args => val env f fun f => vals env args fun args => (callD D f args σ).bind fun r => k (put env d (.v r.1)) loc r.2

inductive RT where
  | done
  | op (d : Option Nat) (r : ROp) (rest : RT)
  | gop (g : Nat) (w : Bool) (d : Option Nat) (r : ROp) (rest : RT)
  | freeze (s : Nat) (rest : RT)
  | dia (g : Nat) (inner : RT) (d : Nat) (c a b : Opd) (og : Option (Nat × Bool)) (rest : RT)
  deriving Inhabited

def memN (t : Nat) : List Nat → Bool
  | [] => false
  | x :: r => x.beq t || memN t r
def RT.writes : RT → List Nat
  | .done => []
  | .op d _ rest => d.toList ++ rest.writes
  | .gop _ _ d _ rest => d.toList ++ rest.writes
  | .freeze _ rest => rest.writes
  | .dia _ inner d _ _ _ _ rest => d :: (inner.writes ++ rest.writes)
def purgeE (w : List Nat) : Ent → Ent
  | .l s o => bif memN s w then .v .undef else .l s o
  | e => e
def purge (w : List Nat) : Env → Env
  | [] => []
  | (k, e) :: r => bif memN k w then purge w r else (k, purgeE w e) :: purge w r

def Loc.drop1 : Loc → Nat → Loc
  | [], _ => []
  | (k, e) :: r, t => bif k.beq t then Loc.drop1 r t else (k, e) :: Loc.drop1 r t
def freezeE (s : Nat) (cs : List AV) : Ent → Ent
  | .l s' o => bif s'.beq s then .v (.pptr cs o) else .l s' o
  | e => e
def freezeEnv (s : Nat) (cs : List AV) : Env → Env
  | [] => []
  | (k, e) :: r => (k, freezeE s cs e) :: freezeEnv s cs r
/-- Is the operation with this guard carried out? none: it can't be told. -/
def ogo (og : Option (Nat × Bool)) (env : Env) : Option Bool :=
  match og with
  | none => some true
  | some (g, w) => match env.get g with
    | .v (.bool b) => some (b == w)
    | .v (.tuple []) => some false
    | _ => none

def rtK (D : Ctx) (rt : RT) (env : Env) (loc : Loc) (σ : Store) (k : Kn) : Res :=
  match rt with
  | .done => k env loc σ
  | .op d r rest => opK D d r env loc σ fun env loc σ => rtK D rest env loc σ k
  | .gop g w d r rest => match env.get g with
    | .v (.bool b) => bif b == w then opK D d r env loc σ fun env loc σ => rtK D rest env loc σ k else rtK D rest (put env d (.v (.tuple []))) loc σ k
    | .v (.tuple []) => rtK D rest (put env d (.v (.tuple []))) loc σ k
    | _ => none
  | .freeze s rest => match loc.get s with
    | some (_, cs) => rtK D rest (freezeEnv s cs env) (loc.drop1 s) σ k
    | none => none
  | .dia g inner d c a b og rest =>
    match ogo og env with
    | none => none
    | some false => match env.get g with
      | .v (.tuple []) => rtK D rest ((d, .v (.tuple [])) :: purge (d :: inner.writes) env) loc σ k
      | _ => none
    | some true =>
      jn 1 (fun v σ => rtK D rest ((d, .v v) :: purge (d :: inner.writes) env) loc σ k) fun j =>
        val env (.t g) fun x =>
          aCase x
            (rtK D inner ((g, .v (.bool true)) :: env) loc σ fun env _ σ => val env c fun c => aCase c (val env a fun v => j v σ) (val env b fun v => j v σ))
            (rtK D inner ((g, .v (.bool false)) :: env) loc σ fun env _ σ => val env c fun c => aCase c (val env a fun v => j v σ) (val env b fun v => j v σ))

structure JH where
  vs : List Nat
  ss : List (Nat × Nat)
  deriving Inhabited
def JH.m (j : JH) : Nat := j.vs.length + j.ss.length

inductive IR where
  | skip
  | reg (rt : RT)
  | seq (a b : IR)
  | cond (c : Opd) (j : Option JH) (a b : IR)
  | block (id : Nat) (j : Option JH) (a : IR)
  | loop (j : JH) (a : IR)
  | exit (id : Nat)
  | ret
  deriving Inhabited
def IR.writes : IR → List Nat
  | .reg rt => rt.writes
  | .seq a b => a.writes ++ b.writes
  | .cond _ _ a b => a.writes ++ b.writes
  | .block _ _ a => a.writes
  | .loop _ a => a.writes
  | _ => []

def gatherV (env : Env) : List Nat → List AV
  | [] => []
  | t :: r => (match env.get t with | .v a => a | .l .. => .undef) :: gatherV env r
def gatherS (loc : Loc) : List (Nat × Nat) → Option (List AV)
  | [] => some []
  | (s, n) :: r => match loc.get s with
    | some (m, cs) => bif m.beq n then (match gatherS loc r with
      | some l => some (.agg cs :: l)
      | none => none) else none
    | none => none
def gatherK (j : JH) (k : Cur j.m) : Kn := fun env loc σ =>
  match gatherS loc j.ss with
  | some l => Cur.app j.m k (gatherV env j.vs ++ l) σ
  | none => none

def joinEnv : List Nat → List AV → Env
  | t :: r, v :: l => (t, .v v) :: joinEnv r l
  | _, _ => []
def joinLoc : List (Nat × Nat) → List AV → Loc
  | (s, n) :: r, v :: l => (s, n, v.cells) :: joinLoc r l
  | _, _ => []
def memS (t : Nat) : List (Nat × Nat) → Bool
  | [] => false
  | x :: r => x.1.beq t || memS t r
def keepE (ss : List (Nat × Nat)) : Ent → Ent
  | .l s o => bif memS s ss then .l s o else .v .undef
  | e => e
def keepEnv (w : List Nat) (ss : List (Nat × Nat)) : Env → Env
  | [] => []
  | (k, e) :: r => bif memN k w then keepEnv w ss r else (k, keepE ss e) :: keepEnv w ss r
def joinC (j : JH) (w : List Nat) (env : Env) (K : Kn) : List AV → Store → Res := fun l σ =>
  K (joinEnv j.vs l ++ keepEnv w j.ss env) (joinLoc j.ss (l.drop j.vs.length)) σ

def exitK : List (Nat × Kn) → Nat → Kn
  | [], _ => fun _ _ _ => none
  | (i, k) :: r, id => bif i.beq id then k else exitK r id

noncomputable def comp (D : Ctx) (c : IR) (K : Kn) (X : List (Nat × Kn)) (R : Kn) (env : Env) (loc : Loc) (σ : Store) : Res :=
  match c with
  | .skip => K env loc σ
  | .reg rt => rtK D rt env loc σ K
  | .seq a b => comp D a (fun env loc σ => comp D b K X R env loc σ) X R env loc σ
  | .cond c none a b => val env c fun x => aCase x (comp D a K X R env loc σ) (comp D b K X R env loc σ)
  | .cond c (some j) a b =>
    jn j.m (Cur.mk j.m (joinC j (a.writes ++ b.writes) env K)) fun k =>
      val env c fun x => aCase x (comp D a (gatherK j k) X R env loc σ) (comp D b (gatherK j k) X R env loc σ)
  | .block id none a => comp D a K ((id, K) :: X) R env loc σ
  | .block id (some j) a =>
    jn j.m (Cur.mk j.m (joinC j a.writes env K)) fun k => comp D a (gatherK j k) ((id, gatherK j k) :: X) R env loc σ
  | .loop j a =>
    gatherK j (lpFix j.m fun self => Cur.mk j.m (joinC j a.writes env fun env loc σ => comp D a (gatherK j self) X R env loc σ)) env loc σ
  | .exit id => exitK X id env loc σ
  | .ret => R env loc σ

inductive IRes where
  | tmp (t : Nat)
  | cell (a : Nat) (agg : Bool) (n : Nat)
  deriving Inhabited

def resK1 (D : Ctx) (r : IRes) (env : Env) (loc : Loc) (σ : Store) (k : AV → Res) : Res :=
  match r with
  | .tmp t => val env (.t t) k
  | .cell a agg n => opK D (some 0) (.load agg n (.t a)) env loc σ fun env _ _ => val env (.t 0) k
def resK (D : Ctx) : List IRes → Env → Loc → Store → (List AV → Res) → Res
  | [], _, _, _, k => k []
  | r :: rs, env, loc, σ, k => resK1 D r env loc σ fun v => resK D rs env loc σ fun l => k (v :: l)
def retK (D : Ctx) (rs : List IRes) : Kn := fun env loc σ =>
  resK D rs env loc σ fun l => match l with
    | [v] => some (v, σ)
    | l => some (.tuple l, σ)

structure IFn where
  res : List IRes
  body : IR
  deriving Inhabited

def argEnv : Nat → List AV → Env
  | _, [] => []
  | i, v :: l => (i, .v v) :: argEnv (i + 1) l

noncomputable def runFn (D : Ctx) (fn : IFn) (args : List AV) (σ : Store) : Res :=
  comp D fn.body (retK D fn.res) [] (retK D fn.res) (argEnv 0 args) [] σ

end Go.Asm
