/- Part 1 of 8 of a proof. -/
import Derived.Calls
import Derived.Orders
import Derived.Below
import Derived.Laws.Cells
import Derived.Laws.StructEq
import Derived.Laws.MakeOwn
import Derived.MapKept
set_option linter.all false
namespace Go.Asm
theorem Obs {α β : Type _} (a : α) (f : α → Option β) : (some a).bind f = f a := rfl
theorem Lgz {α : Type _} {a : α} {l : List α} : (a :: l)[0]? = some a := rfl
theorem Bft : (false = true) = False := Bool.false_eq_true
theorem Dte {p : Prop} [Decidable p] : (decide p = true) = p := decide_eq_true_eq
theorem Bae (a b : Bool) : ((a && b) = true) = (a = true ∧ b = true) := Bool.and_eq_true a b
theorem Boe (a b : Bool) : ((a || b) = true) = (a = true ∨ b = true) := Bool.or_eq_true a b
theorem Bff {a b : Bool} : (a && b) = false ↔ a = false ∨ b = false := Bool.and_eq_false_iff
theorem Dfn {p : Prop} {_ : Decidable p} : decide p = false ↔ ¬ p := decide_eq_false_iff_not
theorem Lge {α : Type _} {l : List α} {i : Nat} (h : i < l.length) : l[i]? = some l[i] := List.getElem?_eq_getElem h
theorem Lmg {α : Type _} {l : List α} {i : Nat} {a : α} (h : l[i]? = some a) : a ∈ l := List.mem_of_getElem? h
end Go.Asm
/- The abstract machine: values, store, operations, and the evaluator of a resolved code tree. -/
namespace Go.Asm

/-- Abstract values. `p..`: immutable data, carried by value; `h..`: a block of the abstract store. -/
inductive AV where
 | undef
 | bool (b : Bool)
 | int (k : IntKind) (n : Int)
 | flt (b : Nat)
 | str (s : ByteArray)
 | nilptr
 | hptr (x off : Nat)
 | pptr (row : List AV) (off : Nat)
 | gptr (g : Nat)
 | nilslice
 | pslice (sz : Nat) (rows : List AV)
 | hslice (sz x off len : Nat)
 | nilmap
 | hmap (x : Nat)
 | pmap (ks vs : List AV)
 | func (f : Nat) (first captured : List AV)
 | nilfunc
 | iface (t : Nat) (v : AV)
 | niliface
 | agg (cs : List AV)
 | tuple (vs : List AV)
 deriving Inhabited

abbrev i64 (n : Int) : AV := .int .i64 n

/-- What kind of plain value a key is: it must be the map's. -/
inductive KK where
 | int (k : IntKind) | str | bool | agg (ks : List KK)
 deriving Inhabited
def KK.fits1 : KK → AV → Bool
 | .int k, .int k' _ => decide (k = k')
 | .str, .str _ => true
 | .bool, .bool _ => true
 | _, _ => false
def KK.fitsL : List KK → List AV → Bool
 | [], [] => true
 | k :: ks, v :: vs => k.fits1 v && fitsL ks vs
 | _, _ => false
def KK.fits : KK → AV → Bool
 | .agg ks, .agg vs => KK.fitsL ks vs
 | k, v => k.fits1 v
def KK.same1 : KK → KK → Bool
 | .int k, .int k' => decide (k = k')
 | .str, .str => true
 | .bool, .bool => true
 | _, _ => false
def KK.sameL : List KK → List KK → Bool
 | [], [] => true
 | k :: ks, q :: qs => k.same1 q && sameL ks qs
 | _, _ => false
def KK.same : KK → KK → Bool
 | .agg ks, .agg qs => KK.sameL ks qs
 | k, q => k.same1 q

/-- Blocks. A map is the function that it stands for, whatever the order in which its keys came. A map that is ranged over
(`ranged`: st, each key's stamp; n: the next stamp) is out of reach till the loop's end; `iter`: over which map; the stamps of the keys met. -/
inductive Blk where
 | cells (cs : List AV)
 | map (kk : KK) (f : AV → Option AV)
 | ranged (kk : KK) (f : AV → Option AV) (st : AV → Nat) (n : Nat)
 | iter (m : Nat) (n : Nat) (seen : List Nat) (cur : AV)

structure Store where
 next : Nat
 blk : Nat → Option Blk

def Store.empty : Store := ⟨0, fun _ => none⟩
def Store.upd (σ : Store) (x : Nat) (b : Option Blk) : Store := ⟨σ.next, fun y => if y = x then b else σ.blk y⟩
def Store.add (σ : Store) (b : Blk) : Store := ⟨σ.next + 1, fun y => if y = σ.next then some b else σ.blk y⟩

abbrev Res := Option (AV × Store)

/-- Functions of m values and a store. -/
@[reducible] def Cur : Nat → Type
 | 0 => Store → Res
 | n + 1 => AV → Cur n
def Cur.app : (m : Nat) → Cur m → List AV → Store → Res
 | 0, k, [], σ => k σ
 | n + 1, k, v :: l, σ => Cur.app n (k v) l σ
 | _, _, _, _ => none
def Cur.mk : (m : Nat) → (List AV → Store → Res) → Cur m
 | 0, f => fun σ => f [] σ
 | n + 1, f => fun v => Cur.mk n fun l => f (v :: l)

structure Ctx where
 call : Nat → List AV → Store → Res
 G : Nat → Option AV

/-! ### the least fixed point of a partial function -/
/-- r is among what F's least fixed point gives at a. -/
def Lfp {A B : Type} (F : (A → Option B) → A → Option B) (a : A) (r : B) : Prop :=
 ∀ S : A → B → Prop, (∀ (g : A → Option B) (a : A) (r : B), (∀ a' r', g a' = some r' → S a' r') → F g a = some r → S a r) → S a r
open Classical in
noncomputable def lfp {A B : Type} (F : (A → Option B) → A → Option B) (a : A) : Option B :=
 if h : ∃ r, Lfp F a r then some h.choose else none
/-- What the loop with this round comes to. -/
noncomputable def lpFix (m : Nat) (F : Cur m → Cur m) : Cur m :=
 Cur.mk m fun l σ => lfp (fun (g : List AV × Store → Option (AV × Store)) p => Cur.app m (F (Cur.mk m fun l σ => g (l, σ))) p.1 p.2) (l, σ)

def jn (m : Nat) (K : Cur m) (F : Cur m → Res) : Res := F K

def aCase {ρ : Type} (x : AV) (t f : Option ρ) : Option ρ :=
 match x with
 | .bool true => t
 | .bool false => f
 | _ => none

/-! ### cells -/
def AV.cells : AV → List AV
 | .agg cs => cs
 | .undef => []
 | .tuple _ => []
 | v => [v]

def setL (cs : List AV) (off : Nat) : List AV → List AV
 | [] => cs
 | v :: r => setL (cs.set off v) (off + 1) r

/-- A value of one cell. -/
def one : AV → Option AV
 | .agg _ => none
 | .tuple _ => none
 | .undef => none
 | v => some v

/-- A value of n cells. -/
def asplit (n : Nat) (v : AV) : Option (List AV) := if v.cells.length = n then some v.cells else none

def rd1 (G : Nat → Option AV) (p : AV) (σ : Store) : Option AV :=
 match p with
 | .pptr row off => row[off]?
 | .hptr x off => match σ.blk x with
  | some (.cells cs) => cs[off]?
  | _ => none
 | .gptr g => G g
 | _ => none

def rdN (n : Nat) (p : AV) (σ : Store) : Option (List AV) :=
 match p with
 | .pptr row off => if off + n ≤ row.length then some ((row.drop off).take n) else none
 | .hptr x off => match σ.blk x with
  | some (.cells cs) => if off + n ≤ cs.length then some ((cs.drop off).take n) else none
  | _ => none
 | _ => none

def wr (p : AV) (vs : List AV) (σ : Store) : Option Store :=
 match p with
 | .hptr x off => match σ.blk x with
  | some (.cells cs) => if off + vs.length ≤ cs.length then some (σ.upd x (some (.cells (setL cs off vs)))) else none
  | _ => none
 | _ => none

def fadd (p : AV) (off : Nat) : Option AV :=
 match p with
 | .pptr row o => some (.pptr row (o + off))
 | .hptr x o => some (.hptr x (o + off))
 | _ => none

def nnil : AV → Option AV
 | .nilptr => none
 | .niliface => none
 | .nilfunc => none
 | .undef => none
 | v => some v

/-! ### operators -/
def nanF : Nat := 0x7ff8000000000001
def fnum : Option Nat → AV
 | some r => .flt r
 | none => .flt nanF

def intBin (op : BinOp) (k : IntKind) (a b : Int) : Option AV :=
 match op with
 | .add => some (.int k (k.wrap (a + b)))
 | .sub => some (.int k (k.wrap (a - b)))
 | .mul => some (.int k (k.wrap (a * b)))
 | .quo => if b = 0 then none else some (.int k (k.wrap (a.tdiv b)))
 | .rem => if b = 0 then none else some (.int k (a.tmod b))
 | .and => some (.int k (k.wrap (BitVec.ofInt k.bits a &&& BitVec.ofInt k.bits b).toNat))
 | .or => some (.int k (k.wrap (BitVec.ofInt k.bits a ||| BitVec.ofInt k.bits b).toNat))
 | .xor => some (.int k (k.wrap (BitVec.ofInt k.bits a ^^^ BitVec.ofInt k.bits b).toNat))
 | .andNot => some (.int k (k.wrap (BitVec.ofInt k.bits a &&& ~~~BitVec.ofInt k.bits b).toNat))
 | .eql => some (.bool (decide (a = b)))
 | .neq => some (.bool (decide (a ≠ b)))
 | .lss => some (.bool (decide (a < b)))
 | .leq => some (.bool (decide (a ≤ b)))
 | .gtr => some (.bool (decide (a > b)))
 | .geq => some (.bool (decide (a ≥ b)))
 | _ => none

def shBin (op : BinOp) (k : IntKind) (a b : Int) : Option AV :=
 if b < 0 then none else
 match op with
 | .shl => some (.int k (k.wrap (a * 2 ^ (min b.toNat k.bits))))
 | .shr => some (.int k (a.fdiv (2 ^ (min b.toNat k.bits))))
 | _ => none

def fltOrd (a b : Nat) : Option Ordering := FloatKind.f64.format.order a b

def fltBin (op : BinOp) (a b : Nat) : Option AV :=
 match op with
 | .add => some (fnum (FloatKind.f64.format.add a b))
 | .sub => some (fnum (FloatKind.f64.format.sub a b))
 | .mul => some (fnum (FloatKind.f64.format.mul a b))
 | .quo => some (fnum (FloatKind.f64.format.div a b))
 | .eql => some (.bool (fltOrd a b == some .eq))
 | .neq => some (.bool (fltOrd a b != some .eq))
 | .lss => some (.bool (fltOrd a b == some .lt))
 | .leq => some (.bool (fltOrd a b == some .lt || fltOrd a b == some .eq))
 | .gtr => some (.bool (fltOrd a b == some .gt))
 | .geq => some (.bool (fltOrd a b == some .gt || fltOrd a b == some .eq))
 | _ => none

def strMax : Nat := 1152921504606846976

def strBin (op : BinOp) (a b : ByteArray) : Option AV :=
 match op with
 | .add => if a.size + b.size ≤ strMax then some (.str (a ++ b)) else none
 | .eql => some (.bool (decide (a.toList = b.toList)))
 | .neq => some (.bool (decide (a.toList ≠ b.toList)))
 | .lss => some (.bool (Op.bytesLess a.toList b.toList))
 | .leq => some (.bool (Op.bytesLess a.toList b.toList || decide (a.toList = b.toList)))
 | .gtr => some (.bool !(Op.bytesLess a.toList b.toList || decide (a.toList = b.toList)))
 | .geq => some (.bool !(Op.bytesLess a.toList b.toList))
 | _ => none

/-- Equality of two cells of plain kinds. -/
def ceq : AV → AV → Option Bool
 | .int k a, .int k' b => if k = k' then some (decide (a = b)) else none
 | .bool a, .bool b => some (decide (a = b))
 | .str a, .str b => some (decide (a.toList = b.toList))
 | _, _ => none

def ceqL : List AV → List AV → Option Bool
 | [], [] => some true
 | x :: xs, y :: ys => (ceq x y).bind fun b => (ceqL xs ys).bind fun c => some (b && c)
 | _, _ => none

/-- Of what kind are the operands of `==` (by their type)? -/
inductive EqK where
 | num | bool | ptr | flat (ks : List KK)
 deriving Inhabited

/-- `==` on what is no number and no string. -/
def eqV (e : EqK) (x y : AV) : Option Bool :=
 match e with
 | .num => none
 | .bool => match x, y with
  | .bool a, .bool b => some (decide (a = b))
  | _, _ => none
 | .flat ks => match x, y with
  | .agg xs, .agg ys => if KK.fitsL ks xs && KK.fitsL ks ys then ceqL xs ys else none
  | _, _ => none
 | .ptr => match x, y with
  | .nilptr, .nilptr => some true
  | .hptr _ _, .nilptr => some false
  | .nilptr, .hptr _ _ => some false
  | .pptr _ _, .nilptr => some false
  | .nilptr, .pptr _ _ => some false
  | _, _ => none

def bin (op : BinOp) (e : EqK) (x y : AV) : Option AV :=
 match x, y with
 | .int k a, .int k' b =>
  match op with
  | .shl | .shr => shBin op k a b
  | _ => if k = k' then intBin op k a b else none
 | .flt a, .flt b => fltBin op a b
 | .str a, .str b => strBin op a b
 | x, y =>
  match op with
  | .eql => (eqV e x y).map .bool
  | .neq => (eqV e x y).map fun b => .bool !b
  | _ => none

def un (op : UnOp) (x : AV) : Option AV :=
 match op, x with
 | .neg, .int k n => some (.int k (k.wrap (0 - n)))
 | .xor, .int k n => some (.int k (k.wrap (BitVec.ofInt k.bits (if k.signed then -1 else k.max) ^^^ BitVec.ofInt k.bits n).toNat))
 | .neg, .flt b => some (.flt (Op.negFloat .f64 b))
 | .not, .bool b => some (.bool !b)
 | _, _ => none

/-! ### slices, strings, maps -/
/-- What a slice holds: how many elements, and its cells. -/
def rowsCells (sz : Nat) : List AV → Option (List AV)
 | [] => some []
 | .agg row :: r => if row.length = sz then (rowsCells sz r).map (row ++ ·) else none
 | _ => none

def contents (sz : Nat) (x : AV) (σ : Store) : Option (Nat × List AV) :=
 match x with
 | .nilslice => some (0, [])
 | .pslice s rows => if s = sz then (rowsCells sz rows).map (rows.length, ·) else none
 | .hslice s b off len => if s = sz then (rdN (len * sz) (.hptr b off) σ).map (len, ·) else none
 | _ => none

def maxLen' : Nat := 4294967296

def app (sz : Nat) (s x : AV) (σ : Store) : Res :=
 (contents sz x σ).bind fun (n, new) =>
 match s with
 | .nilslice => if n ≤ maxLen' ∧ 0 < n then some (.hslice sz σ.next 0 n, σ.add (.cells new)) else none
 | .hslice s' b off len =>
  if s' = sz ∧ off = 0 ∧ len + n ≤ maxLen' ∧ 0 < n then
   match σ.blk b with
   | some (.cells cs) => if len * sz ≤ cs.length then
     some (.hslice sz σ.next 0 (len + n), (σ.upd b none).add (.cells (cs.take (len * sz) ++ new))) else none
   | _ => none
  else none
 | _ => none

def idx (sz : Nat) (x i : AV) : Option AV :=
 match x, i with
 | .pslice s rows, .int _ i =>
  if s = sz ∧ 0 ≤ i then
   match rows[i.toNat]? with
   | some (.agg row) => some (.pptr row 0)
   | _ => none
  else none
 | .hslice s b off len, .int _ i => if s = sz ∧ 0 ≤ i ∧ i < len then some (.hptr b (off + i.toNat * sz)) else none
 | _, _ => none

def idxS (x i : AV) : Option AV :=
 match x, i with
 | .str s, .int _ i => if 0 ≤ i then (s[i.toNat]?).map fun b => .int .u8 b.toNat else none
 | _, _ => none

inductive LK where
 | str | sl | mp
 deriving Inhabited
def lenV (k : LK) (x : AV) (σ : Store) : Option AV :=
 match k, x with
 | .str, .str s => some (i64 s.size)
 | .sl, .nilslice => some (i64 0)
 | .sl, .pslice _ rows => some (i64 rows.length)
 | .sl, .hslice _ _ _ len => some (i64 len)
 | .mp, .nilmap => some (i64 0)
 | .mp, .pmap ks _ => some (i64 ks.length)
 | _, _ => none

def bound (o : Option AV) (d : Int) : Option Int :=
 match o with
 | none => some d
 | some (.int _ n) => some n
 | _ => none

def sliceS (x : AV) (lo hi : Option AV) : Option AV :=
 match x with
 | .str s => (bound lo 0).bind fun l => (bound hi s.size).bind fun h =>
  if 0 ≤ l ∧ l ≤ h ∧ h ≤ s.size then some (.str (s.extract l.toNat h.toNat)) else none
 | _ => none

def sliceV (sz : Nat) (x : AV) (lo hi : Option AV) : Option AV :=
 match x with
 | .pslice s rows => (bound lo 0).bind fun l => (bound hi rows.length).bind fun h =>
  if (s = sz ∨ rows.length = 0) ∧ 0 ≤ l ∧ l ≤ h ∧ h ≤ rows.length then some (.pslice sz ((rows.take h.toNat).drop l.toNat)) else none
 | .hslice s b off len => (bound lo 0).bind fun l => (bound hi len).bind fun h =>
  if s = sz ∧ 0 ≤ l ∧ l ≤ h ∧ h ≤ len then
   (if l = 0 then some (.hslice sz b off h.toNat) else if l = h then some (.pslice sz []) else some (.hslice sz b (off + l.toNat * sz) (h.toNat - l.toNat))) else none
 | .nilslice => (bound lo 0).bind fun l => (bound hi 0).bind fun h => if l = 0 ∧ h = 0 then some .nilslice else none
 | _ => none

/-- Equality of two keys of plain kinds. -/
def keyEq1 : AV → AV → Bool
 | .int k a, .int k' b => decide (k = k' ∧ a = b)
 | .bool a, .bool b => decide (a = b)
 | .str a, .str b => decide (a.toList = b.toList)
 | _, _ => false
def keyEqL : List AV → List AV → Bool
 | [], [] => true
 | x :: xs, y :: ys => keyEq1 x y && keyEqL xs ys
 | _, _ => false
def keyEq : AV → AV → Bool
 | .agg xs, .agg ys => keyEqL xs ys
 | x, y => keyEq1 x y

def mget (k : AV) : List AV → List AV → Option AV
 | x :: xs, v :: vs => if keyEq k x then some v else mget k xs vs
 | _, _ => none
open Classical in
/-- The map with one key's value turned. -/
noncomputable def mupd (f : AV → Option AV) (k v : AV) : AV → Option AV := fun q => if q = k then some v else f q

def lookupL (kk : KK) (zero : AV) (k : AV) (ks vs : List AV) : Option (AV × Bool) :=
 if ks.all kk.fits then
  match mget k ks vs with
  | some v => some (v, true)
  | none => some (zero, false)
 else none
def lookupV (kk : KK) (zero : AV) (m k : AV) (σ : Store) : Option (AV × Bool) :=
 if kk.fits k then
  match m with
  | .nilmap => some (zero, false)
  | .pmap ks vs => match kk with
   | .agg _ => none
   | _ => lookupL kk zero k ks vs
  | .hmap x => match σ.blk x with
   | some (.map kk' f) => if kk.same kk' then (match f k with
    | some v => some (v, true)
    | none => some (zero, false)) else none
   | _ => none
  | _ => none
 else none
def lookup1 (kk : KK) (zero : AV) (m k : AV) (σ : Store) : Option AV := (lookupV kk zero m k σ).map (·.1)
def lookup2 (kk : KK) (zero : AV) (m k : AV) (σ : Store) : Option AV := (lookupV kk zero m k σ).map fun (v, b) => .tuple [v, .bool b]

noncomputable def mapSet (kk : KK) (m k v : AV) (σ : Store) : Option Store :=
 if kk.fits k then
  match m with
  | .hmap x => match σ.blk x with
   | some (.map kk' f) => if kk.same kk' then some (σ.upd x (some (.map kk' (mupd f k v)))) else none
   | _ => none
  | _ => none
 else none

open Classical in
/-- What comes of it whichever choice is made, if that is one thing. -/
noncomputable def agree {ι ρ : Type} (p : ι → Prop) (K : ι → Option ρ) : Option ρ :=
 if h : ∃ r, ∀ i, p i → K i = some r then some h.choose else none
/-- Stamps of a map's keys, below n. -/
def Stamps (f : AV → Option AV) (s : (AV → Nat) × Nat) : Prop := (∀ k, f k ≠ none → s.1 k < s.2) ∧ ∀ k q, f k ≠ none → f q ≠ none → s.1 k = s.1 q → k = q
/-- `range` over a map: whatever stamps its keys have. -/
noncomputable def rangeK {ρ : Type} (m : AV) (σ : Store) (k : AV → Store → Option ρ) : Option ρ :=
 match m with
 | .hmap x => match σ.blk x with
  | some (.map kk f) => agree (Stamps f) fun s => k (.hptr σ.next 0) ((σ.upd x (some (.ranged kk f s.1 s.2))).add (.iter x s.2 [] .undef))
  | _ => none
 | _ => none
open Classical in
/-- The next key, whichever comes; at the end the map is a map again. -/
noncomputable def nextK {ρ : Type} (it : AV) (σ : Store) (k : AV → Store → Option ρ) : Option ρ :=
 match it with
 | .hptr y 0 => match σ.blk y with
  | some (.iter x n seen _) => match σ.blk x with
   | some (.ranged kk f st n') =>
    if n ≠ n' then none else
    if ∃ q, f q ≠ none ∧ st q ∉ seen then
     agree (fun p : AV × AV => f p.1 = some p.2 ∧ st p.1 ∉ seen) fun p => k (.tuple [.bool true, p.1, p.2]) (σ.upd y (some (.iter x n (seen ++ [st p.1]) p.1)))
    else k (.tuple [.bool false]) ((σ.upd x (some (.map kk f))).upd y none)
   | _ => none
  | _ => none
 | _ => none
/-- The entry at which the loop stands. -/
def entryV (it : AV) (σ : Store) : Option AV :=
 match it with
 | .hptr y 0 => match σ.blk y with
  | some (.iter x n seen q) => match σ.blk x with
   | some (.ranged kk f st n') => if n = n' ∧ kk.fits q = true ∧ seen.getLast? = some (st q) then (f q).map fun v => .tuple [q, v] else none
   | _ => none
  | _ => none
 | _ => none

def extr (x : AV) (i : Nat) : Option AV :=
 match x with
 | .tuple vs => vs[i]?
 | _ => none

def pickV (c a b : AV) : Option AV :=
 match c with
 | .bool true => some a
 | .bool false => some b
 | _ => none

def fieldV (agg : Bool) (off n : Nat) (x : AV) : Option AV :=
 match x with
 | .agg cs => if agg then (if off + n ≤ cs.length then some (.agg ((cs.drop off).take n)) else none) else cs[off]?
 | _ => none

inductive CK where
 | int (k : IntKind)      -- int to int
 | i2f                    -- int to float64
 | f2i (k : IntKind)      -- float64 to int
 | ff                     -- float64 to float64
 | b2s                    -- bytes to string
 | ss                     -- string to string
 deriving Inhabited

def bytesOf : List AV → Option (List UInt8)
 | [] => some []
 | .int .u8 n :: r => (bytesOf r).map (UInt8.ofNat n.toNat :: ·)
 | _ => none

def conv (c : CK) (x : AV) (σ : Store) : Option AV :=
 match c, x with
 | .int k, .int _ n => some (.int k (k.wrap n))
 | .i2f, .int _ n => some (.flt (FloatKind.f64.nearest n))
 | .f2i k, .flt b => match (FloatKind.f64.decode b).toInt .zero with
  | some n => if k.min ≤ n ∧ n ≤ k.max then some (.int k n) else none
  | none => none
 | .ff, .flt b => some (.flt b)
 | .ss, .str s => some (.str s)
 | .b2s, x => (contents 1 x σ).bind fun (_, cs) => (bytesOf cs).map fun l => .str ⟨l.toArray⟩
 | _, _ => none

/-- `make([]T, n)`: the zero cells of one element, n times. -/
def mkRows (z : List AV) : Nat → List AV
 | 0 => []
 | n + 1 => z ++ mkRows z n
def mkSlice (z : List AV) (n : AV) (σ : Store) : Res :=
 match n with
 | .int _ n => if 0 ≤ n ∧ n ≤ maxLen' then some (.hslice z.length σ.next 0 n.toNat, σ.add (.cells (mkRows z n.toNat))) else none
 | _ => none

/-! ### immutable views -/
def splitRows (sz : Nat) : Nat → List AV → List (List AV)
 | 0, _ => []
 | n + 1, cs => cs.take sz :: splitRows sz n (cs.drop sz)

/-- The value as immutable data: what it leads to in the store is written out. -/
def view (σ : Store) : Nat → AV → Option AV
 | 0, _ => none
 | _ + 1, .bool b => some (.bool b)
 | _ + 1, .int k n => some (.int k n)
 | _ + 1, .flt b => some (.flt b)
 | _ + 1, .str s => some (.str s)
 | _ + 1, .nilptr => some .nilptr
 | n + 1, .pptr row off => (row.mapM (view σ n)).map (.pptr · off)
 | _ + 1, .nilslice => some (.pslice 0 [])
 | n + 1, .pslice sz rows => (rows.mapM (view σ n)).map (.pslice sz)
 | n + 1, .hslice sz x off len => (rdN (len * sz) (.hptr x off) σ).bind fun cs =>
   ((splitRows sz len cs).mapM fun (row : List AV) => (row.mapM (view σ n)).map AV.agg).map (AV.pslice sz)
 | _ + 1, .nilmap => some (.pmap [] [])
 | n + 1, .pmap ks vs => (ks.mapM (view σ n)).bind fun ks => (vs.mapM (view σ n)).map (.pmap ks)
 | n + 1, .agg cs => (cs.mapM (view σ n)).map .agg
 | n + 1, .tuple cs => (cs.mapM (view σ n)).map .tuple
 | _ + 1, _ => none

def scal1 : AV → Bool
 | .bool _ => true
 | .int _ _ => true
 | .flt _ => true
 | .str _ => true
 | .nilptr => true
 | _ => false
def scal : AV → Bool
 | .agg cs => cs.all scal1
 | .tuple cs => cs.all fun v => match v with
  | .agg cs => cs.all scal1
  | v => scal1 v
 | v => scal1 v

def depth : Nat := 12

/-- A call upon immutable arguments, in a store of its own. -/
def callP (D : Ctx) (f : Nat) (args : List AV) : Option AV :=
 (args.mapM (view Store.empty depth)).bind fun args => (D.call f args Store.empty).bind fun r => view r.2 depth r.1
/-- A call upon views of the arguments; its result is plain. -/
def callV (D : Ctx) (f : Nat) (args : List AV) (σ : Store) : Option AV :=
 (args.mapM (view σ depth)).bind fun args => (D.call f args Store.empty).bind fun r => if scal r.1 then some r.1 else none
/-- A call of a function value. -/
def callD (D : Ctx) (f : AV) (args : List AV) (σ : Store) : Res :=
 match f with
 | .func f first captured => D.call f (first ++ args ++ captured) σ
 | _ => none

/-! ### the resolved code -/
inductive Opd where
 | t (n : Nat)
 | c (v : AV)
 deriving Inhabited

inductive ROp where
 | mv (x : Opd)
 | pick (c a b : Opd)
 | pickv (c a b : Opd)
 | zalloc (zero : List AV)
 | halloc (zero : List AV)
 | pbox (x : Opd)
 | lbox (agg : Bool) (n : Nat) (x : Opd)
 | hbox (agg : Bool) (n : Nat) (x : Opd)
 | build (zero : List AV) (parts : List (Nat × Nat × Bool × Opd))
 | pslice (sz : Nat) (zero : List AV) (len : Nat) (parts : List (Nat × Bool × Opd))
 | hslice (sz : Nat) (zero : List AV) (len : Nat) (parts : List (Nat × Bool × Opd))
 | load (agg : Bool) (n : Nat) (a : Opd)
 | store (agg : Bool) (n : Nat) (a x : Opd)
 | nilCheck (x : Opd)
 | bin (op : BinOp) (e : EqK) (x y : Opd)
 | un (op : UnOp) (x : Opd)
 | conv (c : CK) (x : Opd)
 | mkIface (t : Nat) (x : Opd)
 | mkFunc (f : Nat) (first captured : List Opd)
 | mkMap (kk : KK)
 | mkSlice (zero : List AV) (n : Opd)
 | sliceS (x : Opd) (lo hi : Option Opd)
 | slice (sz : Nat) (x : Opd) (lo hi : Option Opd)
 | fadd (off : Nat) (x : Opd)
 | field (agg : Bool) (off n : Nat) (x : Opd)
 | idx (sz : Nat) (x i : Opd)
 | idxS (x i : Opd)
 | look1 (kk : KK) (zero : AV) (m k : Opd)
 | look2 (kk : KK) (zero : AV) (m k : Opd)
 | mapSet (kk : KK) (m k x : Opd)
 | range (x : Opd)
 | next (x : Opd)
 | entry (x : Opd)
 | extr (x : Opd) (i : Nat)
 | len (k : LK) (x : Opd)
 | app (sz : Nat) (s x : Opd)
 | callP (f : Nat) (args : List Opd)
 | callV (f : Nat) (args : List Opd)
 | callS (f : Nat) (args : List Opd)
 | callD (f : Opd) (args : List Opd)
 deriving Inhabited

inductive Ent where
 | v (a : AV)
 | l (site off : Nat)
 deriving Inhabited
def Ent.at : Ent → Nat → Bool
 | .l s _, t => s.beq t
 | _, _ => false

abbrev Env := List (Nat × Ent)
abbrev Loc := List (Nat × Nat × List AV)

def Env.get : Env → Nat → Ent
 | [], _ => .v .undef
 | (k, e) :: r, t => bif k.beq t then e else Env.get r t
def Loc.get : Loc → Nat → Option (Nat × List AV)
 | [], _ => none
 | (k, e) :: r, t => bif k.beq t then some e else Loc.get r t
def Loc.set : Loc → Nat → List AV → Loc
 | [], _, _ => []
 | (k, n, cs) :: r, t, new => bif k.beq t then (k, n, new) :: r else (k, n, cs) :: Loc.set r t new

/-- Entries that point into a box are unknown from here on. -/
def Env.purgeAt : Env → Nat → Env
 | [], _ => []
 | (k, e) :: r, s => (k, bif e.at s then .v .undef else e) :: Env.purgeAt r s

def ent (env : Env) : Opd → Ent
 | .t n => env.get n
 | .c v => .v v
def val {ρ : Type} (env : Env) (o : Opd) (k : AV → Option ρ) : Option ρ :=
 match ent env o with
 | .v a => k a
 | .l .. => none
def vals {ρ : Type} (env : Env) : List Opd → (List AV → Option ρ) → Option ρ
 | [], k => k []
 | o :: r, k => val env o fun a => vals env r fun l => k (a :: l)
def valO {ρ : Type} (env : Env) (o : Option Opd) (k : Option AV → Option ρ) : Option ρ :=
 match o with
 | none => k none
 | some o => val env o fun a => k (some a)
def put (env : Env) (d : Option Nat) (e : Ent) : Env :=
 match d with
 | some d => (d, e) :: env
 | none => env

abbrev Kn := Env → Loc → Store → Res

/-- The cells of a value that is known to have n of them. -/
def cellsK {ρ : Type} (agg : Bool) (n : Nat) (v : AV) (k : List AV → Option ρ) : Option ρ :=
 bif agg then (asplit n v).bind k else (one v).bind fun v => k [v]

def buildK {ρ : Type} (env : Env) (cells : List AV) : List (Nat × Nat × Bool × Opd) → (List AV → Option ρ) → Option ρ
 | [], k => k cells
 | (off, n, agg, o) :: r, k => val env o fun v => cellsK agg n v fun vs => buildK env (setL cells off vs) r k
def zeros (zero : List AV) : Nat → List AV
 | 0 => []
 | n + 1 => .agg zero :: zeros zero n
def rowsK {ρ : Type} (env : Env) (sz : Nat) (rows : List AV) : List (Nat × Bool × Opd) → (List AV → Option ρ) → Option ρ
 | [], k => k rows
 | (i, agg, o) :: r, k => val env o fun v => cellsK agg sz v fun vs => rowsK env sz (rows.set i (.agg vs)) r k

def flatRows : List AV → List AV
 | [] => []
 | r :: rs => r.cells ++ flatRows rs

noncomputable def opK {ρ : Type} (D : Ctx) (d : Option Nat) (r : ROp) (env : Env) (loc : Loc) (σ : Store) (k : Env → Loc → Store → Option ρ) : Option ρ :=
 match r with
 | .mv x => k (put env d (ent env x)) loc σ
 | .pick c a b => val env c fun c => aCase c (k (put env d (ent env a)) loc σ) (k (put env d (ent env b)) loc σ)
 | .pickv c a b => val env c fun c => val env a fun a => val env b fun b => (pickV c a b).bind fun v => k (put env d (.v v)) loc σ
 | .zalloc zero => match d with
  | some s => match loc.get s with
   | none => k ((s, .l s 0) :: env.purgeAt s) ((s, zero.length, zero) :: loc) σ
   | some _ => none
  | none => none
 | .halloc zero => k (put env d (.v (.hptr σ.next 0))) loc (σ.add (.cells zero))
 | .pbox x => val env x fun v => k (put env d (.v (.pptr v.cells 0))) loc σ
 | .lbox agg n x => match d with
  | some s => match loc.get s with
   | none => val env x fun v => cellsK agg n v fun cs => k ((s, .l s 0) :: env.purgeAt s) ((s, n, cs) :: loc) σ
   | some _ => none
  | none => none
 | .hbox agg n x => val env x fun v => cellsK agg n v fun cs => k (put env d (.v (.hptr σ.next 0))) loc (σ.add (.cells cs))
 | .build zero parts => buildK env zero parts fun cs => k (put env d (.v (.agg cs))) loc σ
 | .pslice sz zero len parts => rowsK env sz (zeros zero len) parts fun rows => k (put env d (.v (.pslice sz rows))) loc σ
 | .hslice sz zero len parts => rowsK env sz (zeros zero len) parts fun rows => k (put env d (.v (.hslice sz σ.next 0 len))) loc (σ.add (.cells (flatRows rows)))
 | .load agg n a => match ent env a with
  | .l s o => match loc.get s with
   | some (m, cs) =>
    bif agg then (bif o.beq 0 && n.beq m then k (put env d (.v (.agg cs))) loc σ else bif (o + n).ble m then k (put env d (.v (.agg ((cs.drop o).take n)))) loc σ else none)
    else (cs[o]?).bind fun v => k (put env d (.v v)) loc σ
   | none => none
  | .v p => bif agg then (rdN n p σ).bind fun cs => k (put env d (.v (.agg cs))) loc σ else (rd1 D.G p σ).bind fun v => k (put env d (.v v)) loc σ
 | .store agg n a x => val env x fun v => cellsK agg n v fun vs => match ent env a with
  | .l s o => match loc.get s with
   | some (m, cs) =>
    bif o.beq 0 && n.beq m && agg then k (put env d (.v (.tuple []))) (loc.set s vs) σ
    else bif (o + n).ble m then k (put env d (.v (.tuple []))) (loc.set s (setL cs o vs)) σ else none
   | none => none
  | .v p => (wr p vs σ).bind fun σ => k (put env d (.v (.tuple []))) loc σ
 | .nilCheck x => match ent env x with
  | .l s o => match loc.get s with
   | some _ => k (put env d (.l s o)) loc σ
   | none => none
  | .v p => (nnil p).bind fun p => k (put env d (.v p)) loc σ
 | .bin op e x y => val env x fun x => val env y fun y => (bin op e x y).bind fun v => k (put env d (.v v)) loc σ
 | .un op x => val env x fun x => (un op x).bind fun v => k (put env d (.v v)) loc σ
 | .conv c x => val env x fun x => (conv c x σ).bind fun v => k (put env d (.v v)) loc σ
 | .mkIface t x => val env x fun x => k (put env d (.v (.iface t x))) loc σ
 | .mkFunc f first captured => vals env first fun a => vals env captured fun b => k (put env d (.v (.func f a b))) loc σ
 | .mkMap kk => k (put env d (.v (.hmap σ.next))) loc (σ.add (.map kk fun _ => none))
 | .mkSlice zero n => val env n fun n => (mkSlice zero n σ).bind fun r => k (put env d (.v r.1)) loc r.2
 | .sliceS x lo hi => val env x fun x => valO env lo fun lo => valO env hi fun hi => (sliceS x lo hi).bind fun v => k (put env d (.v v)) loc σ
 | .slice sz x lo hi => val env x fun x => valO env lo fun lo => valO env hi fun hi => (sliceV sz x lo hi).bind fun v => k (put env d (.v v)) loc σ
 | .fadd off x => match ent env x with
  | .l s o => match loc.get s with
   | some _ => k (put env d (.l s (o + off))) loc σ
   | none => none
  | .v p => (fadd p off).bind fun p => k (put env d (.v p)) loc σ
 | .field agg off n x => val env x fun x => (fieldV agg off n x).bind fun v => k (put env d (.v v)) loc σ
 | .idx sz x i => val env x fun x => val env i fun i => (idx sz x i).bind fun v => k (put env d (.v v)) loc σ
 | .idxS x i => val env x fun x => val env i fun i => (idxS x i).bind fun v => k (put env d (.v v)) loc σ
 | .look1 kk zero m x => val env m fun m => val env x fun x => (lookup1 kk zero m x σ).bind fun v => k (put env d (.v v)) loc σ
 | .look2 kk zero m x => val env m fun m => val env x fun x => (lookup2 kk zero m x σ).bind fun v => k (put env d (.v v)) loc σ
 | .mapSet kk m x y => val env m fun m => val env x fun x => val env y fun y => (mapSet kk m x y σ).bind fun σ => k (put env d (.v (.tuple []))) loc σ
 | .range x => val env x fun x => rangeK x σ fun v σ => k (put env d (.v v)) loc σ
 | .next x => val env x fun x => nextK x σ fun v σ => k (put env d (.v v)) loc σ
 | .entry x => val env x fun x => (entryV x σ).bind fun v => k (put env d (.v v)) loc σ
 | .extr x i => val env x fun x => (extr x i).bind fun v => k (put env d (.v v)) loc σ
 | .len kd x => val env x fun x => (lenV kd x σ).bind fun v => k (put env d (.v v)) loc σ
 | .app sz s x => val env s fun s => val env x fun x => (app sz s x σ).bind fun r => k (put env d (.v r.1)) loc r.2
 | .callP f args => vals env args fun args => (callP D f args).bind fun v => k (put env d (.v v)) loc σ
 | .callV f args => vals env args fun args => (callV D f args σ).bind fun v => k (put env d (.v v)) loc σ
 | .callS f args => vals env args fun args => (D.call f args σ).bind fun r => k (put env d (.v r.1)) loc r.2
 | .callD f args => val env f fun f => vals env args fun args => (callD D f args σ).bind fun r => k (put env d (.v r.1)) loc r.2

inductive RT where
 | done
 | op (d : Option Nat) (r : ROp) (rest : RT)
 | gop (g : Nat) (w : Bool) (d : Option Nat) (r : ROp) (rest : RT)
 | freeze (s : Nat) (rest : RT)
 | dia (g : Nat) (inner : RT) (d : Nat) (c a b : Opd) (og : Option (Nat × Bool)) (rest : RT)
 deriving Inhabited

def memN (t : Nat) : List Nat → Bool
 | [] => false
 | x :: r => x.beq t || memN t r
def RT.writes : RT → List Nat
 | .done => []
 | .op d _ rest => d.toList ++ rest.writes
 | .gop _ _ d _ rest => d.toList ++ rest.writes
 | .freeze _ rest => rest.writes
 | .dia _ inner d _ _ _ _ rest => d :: (inner.writes ++ rest.writes)
def purgeE (w : List Nat) : Ent → Ent
 | .l s o => bif memN s w then .v .undef else .l s o
 | e => e
def purge (w : List Nat) : Env → Env
 | [] => []
 | (k, e) :: r => bif memN k w then purge w r else (k, purgeE w e) :: purge w r

def Loc.drop1 : Loc → Nat → Loc
 | [], _ => []
 | (k, e) :: r, t => bif k.beq t then Loc.drop1 r t else (k, e) :: Loc.drop1 r t
def freezeE (s : Nat) (cs : List AV) : Ent → Ent
 | .l s' o => bif s'.beq s then .v (.pptr cs o) else .l s' o
 | e => e
def freezeEnv (s : Nat) (cs : List AV) : Env → Env
 | [] => []
 | (k, e) :: r => (k, freezeE s cs e) :: freezeEnv s cs r
/-- Is the operation with this guard carried out? none: it can't be told. -/
def ogo (og : Option (Nat × Bool)) (env : Env) : Option Bool :=
 match og with
 | none => some true
 | some (g, w) => match env.get g with
  | .v (.bool b) => some (b == w)
  | .v (.tuple []) => some false
  | _ => none

noncomputable def rtK (D : Ctx) (rt : RT) (env : Env) (loc : Loc) (σ : Store) (k : Kn) : Res :=
 match rt with
 | .done => k env loc σ
 | .op d r rest => opK D d r env loc σ fun env loc σ => rtK D rest env loc σ k
 | .gop g w d r rest => match env.get g with
  | .v (.bool b) => bif b == w then opK D d r env loc σ fun env loc σ => rtK D rest env loc σ k else rtK D rest (put env d (.v (.tuple []))) loc σ k
  | .v (.tuple []) => rtK D rest (put env d (.v (.tuple []))) loc σ k
  | _ => none
 | .freeze s rest => match loc.get s with
  | some (_, cs) => rtK D rest (freezeEnv s cs env) (loc.drop1 s) σ k
  | none => none
 | .dia g inner d c a b og rest =>
  match ogo og env with
  | none => none
  | some false => match env.get g with
   | .v (.tuple []) => rtK D rest ((d, .v (.tuple [])) :: purge (d :: inner.writes) env) loc σ k
   | _ => none
  | some true =>
   jn 1 (fun v σ => rtK D rest ((d, .v v) :: purge (d :: inner.writes) env) loc σ k) fun j =>
    val env (.t g) fun x =>
     aCase x
      (rtK D inner ((g, .v (.bool true)) :: env) loc σ fun env _ σ => val env c fun c => aCase c (val env a fun v => j v σ) (val env b fun v => j v σ))
      (rtK D inner ((g, .v (.bool false)) :: env) loc σ fun env _ σ => val env c fun c => aCase c (val env a fun v => j v σ) (val env b fun v => j v σ))

open Classical in
/-- On where two entries are one. -/
noncomputable def chkE {ρ : Type} (a b : Ent) (k : Option ρ) : Option ρ := if a = b then k else none

/-- A region whose order is drawn. `chk`: what was written to d is written out of the store as it is now, too. -/
inductive DT where
 | done
 | row (d : Nat) (r : ROp) (rest : DT)
 | gop (g : Nat) (w : Bool) (d : Nat) (r : ROp) (rest : DT)
 | dia (g : Nat) (inner : DT) (d : Nat) (c a b : Opd) (og : Option (Nat × Bool)) (rest : DT)
 | chk (d : Nat) (r : ROp) (rest : DT)
 deriving Inhabited
def DT.writes : DT → List Nat
 | .done => []
 | .row d _ rest => d :: rest.writes
 | .gop _ _ d _ rest => d :: rest.writes
 | .dia _ inner d _ _ _ _ rest => d :: (inner.writes ++ rest.writes)
 | .chk _ _ rest => rest.writes
noncomputable def drK (D : Ctx) (dt : DT) (env : Env) (loc : Loc) (σ : Store) (k : Kn) : Res :=
 match dt with
 | .done => k env loc σ
 | .row d r rest => opK D (some d) r env loc σ fun env loc σ => drK D rest env loc σ k
 | .gop g w d r rest => match env.get g with
  | .v (.bool b) => bif b == w then opK D (some d) r env loc σ fun env loc σ => drK D rest env loc σ k else drK D rest ((d, .v (.tuple [])) :: env) loc σ k
  | .v (.tuple []) => drK D rest ((d, .v (.tuple [])) :: env) loc σ k
  | _ => none
 | .dia g inner d c a b og rest =>
  match ogo og env with
  | none => none
  | some false => match env.get g with
   | .v (.tuple []) => drK D rest ((d, .v (.tuple [])) :: purge (d :: inner.writes) env) loc σ k
   | _ => none
  | some true =>
   jn 1 (fun v σ => drK D rest ((d, .v v) :: purge (d :: inner.writes) env) loc σ k) fun j =>
    val env (.t g) fun x =>
     aCase x
      (drK D inner ((g, .v (.bool true)) :: env) loc σ fun env _ σ => val env c fun c => aCase c (val env a fun v => j v σ) (val env b fun v => j v σ))
      (drK D inner ((g, .v (.bool false)) :: env) loc σ fun env _ σ => val env c fun c => aCase c (val env a fun v => j v σ) (val env b fun v => j v σ))
 | .chk d r rest => opK D (some d) r env loc σ fun env' _ _ => chkE (env'.get d) (env.get d) (drK D rest env loc σ k)
/-- No box is at these places. -/
def freeS : List Nat → Loc → Bool
 | [], _ => true
 | s :: r, loc => (match loc.get s with
  | none => true
  | some _ => false) && freeS r loc
def purgeL (w : List Nat) : Env → Env
 | [] => []
 | (k, e) :: r => (k, purgeE w e) :: purgeL w r
def zsE : List (Nat × List AV) → Env → Env
 | [], env => env
 | (s, _) :: r, env => zsE r ((s, .l s 0) :: env)
def zsL : List (Nat × List AV) → Loc → Loc
 | [], loc => loc
 | (s, z) :: r, loc => zsL r ((s, z.length, z) :: loc)
def zsW : List (Nat × List AV) → List Nat
 | [] => []
 | (s, _) :: r => s :: zsW r

structure JH where
 vs : List Nat
 ss : List (Nat × Nat)
 deriving Inhabited
def JH.m (j : JH) : Nat := j.vs.length + j.ss.length

inductive IR where
 | skip
 | reg (rt : RT)
 | drw (dt : DT) (ps : List Nat) (zs : List (Nat × List AV)) (last : RT)
 | seq (a b : IR)
 | cond (c : Opd) (j : Option JH) (a b : IR)
 | block (id : Nat) (j : Option JH) (a : IR)
 | loop (j : JH) (a : IR)
 | exit (id : Nat)
 | ret
 deriving Inhabited
def IR.writes : IR → List Nat
 | .reg rt => rt.writes
 | .drw dt _ zs last => dt.writes ++ (zsW zs ++ last.writes)
 | .seq a b => a.writes ++ b.writes
 | .cond _ _ a b => a.writes ++ b.writes
 | .block _ _ a => a.writes
 | .loop _ a => a.writes
 | _ => []

def gatherV (env : Env) : List Nat → List AV
 | [] => []
 | t :: r => (match env.get t with | .v a => a | .l .. => .undef) :: gatherV env r
def gatherS (loc : Loc) : List (Nat × Nat) → Option (List AV)
 | [] => some []
 | (s, n) :: r => match loc.get s with
  | some (m, cs) => bif m.beq n then (match gatherS loc r with
   | some l => some (.agg cs :: l)
   | none => none) else none
  | none => none
def gatherK (j : JH) (k : Cur j.m) : Kn := fun env loc σ =>
 match gatherS loc j.ss with
 | some l => Cur.app j.m k (gatherV env j.vs ++ l) σ
 | none => none

def joinEnv : List Nat → List AV → Env
 | t :: r, v :: l => (t, .v v) :: joinEnv r l
 | _, _ => []
def joinLoc : List (Nat × Nat) → List AV → Loc
 | (s, n) :: r, v :: l => (s, n, v.cells) :: joinLoc r l
 | _, _ => []
def memS (t : Nat) : List (Nat × Nat) → Bool
 | [] => false
 | x :: r => x.1.beq t || memS t r
def keepE (ss : List (Nat × Nat)) : Ent → Ent
 | .l s o => bif memS s ss then .l s o else .v .undef
 | e => e
def keepEnv (w : List Nat) (ss : List (Nat × Nat)) : Env → Env
 | [] => []
 | (k, e) :: r => bif memN k w then keepEnv w ss r else (k, keepE ss e) :: keepEnv w ss r
def joinC (j : JH) (w : List Nat) (env : Env) (K : Kn) : List AV → Store → Res := fun l σ =>
 K (joinEnv j.vs l ++ keepEnv w j.ss env) (joinLoc j.ss (l.drop j.vs.length)) σ

def exitK : List (Nat × Kn) → Nat → Kn
 | [], _ => fun _ _ _ => none
 | (i, k) :: r, id => bif i.beq id then k else exitK r id

noncomputable def comp (D : Ctx) (c : IR) (K : Kn) (X : List (Nat × Kn)) (R : Kn) (env : Env) (loc : Loc) (σ : Store) : Res :=
 match c with
 | .skip => K env loc σ
 | .reg rt => rtK D rt env loc σ K
 | .drw dt ps zs last => bif freeS (ps ++ zsW zs) loc then drK D dt (purgeL (dt.writes ++ zsW zs) env) loc σ fun env loc σ => rtK D last (zsE zs env) (zsL zs loc) σ K else none
 | .seq a b => comp D a (fun env loc σ => comp D b K X R env loc σ) X R env loc σ
 | .cond c none a b => val env c fun x => aCase x (comp D a K X R env loc σ) (comp D b K X R env loc σ)
 | .cond c (some j) a b =>
  jn j.m (Cur.mk j.m (joinC j (a.writes ++ b.writes) env K)) fun k =>
   val env c fun x => aCase x (comp D a (gatherK j k) X R env loc σ) (comp D b (gatherK j k) X R env loc σ)
 | .block id none a => comp D a K ((id, K) :: X) R env loc σ
 | .block id (some j) a =>
  jn j.m (Cur.mk j.m (joinC j a.writes env K)) fun k => comp D a (gatherK j k) ((id, gatherK j k) :: X) R env loc σ
 | .loop j a =>
  gatherK j (lpFix j.m fun self => Cur.mk j.m (joinC j a.writes env fun env loc σ => comp D a (gatherK j self) X R env loc σ)) env loc σ
 | .exit id => exitK X id env loc σ
 | .ret => R env loc σ

inductive IRes where
 | tmp (t : Nat)
 | cell (a : Nat) (agg : Bool) (n : Nat)
 deriving Inhabited

noncomputable def resK1 (D : Ctx) (r : IRes) (env : Env) (loc : Loc) (σ : Store) (k : AV → Res) : Res :=
 match r with
 | .tmp t => val env (.t t) k
 | .cell a agg n => opK D (some 0) (.load agg n (.t a)) env loc σ fun env _ _ => val env (.t 0) k
noncomputable def resK (D : Ctx) : List IRes → Env → Loc → Store → (List AV → Res) → Res
 | [], _, _, _, k => k []
 | r :: rs, env, loc, σ, k => resK1 D r env loc σ fun v => resK D rs env loc σ fun l => k (v :: l)
noncomputable def retK (D : Ctx) (rs : List IRes) : Kn := fun env loc σ =>
 resK D rs env loc σ fun l => match l with
  | [v] => some (v, σ)
  | l => some (.tuple l, σ)

structure IFn where
 res : List IRes
 body : IR
 deriving Inhabited

def argEnv : Nat → List AV → Env
 | _, [] => []
 | i, v :: l => (i, .v v) :: argEnv (i + 1) l

noncomputable def runFn (D : Ctx) (fn : IFn) (args : List AV) (σ : Store) : Res :=
 comp D fn.body (retK D fn.res) [] (retK D fn.res) (argEnv 0 args) [] σ

end Go.Asm
/- How abstract values and stores stand for the model's: the relation and how it is kept. -/
namespace Go.Asm

/-- Ghost: which blocks are immutable from here on; which block (and how many cells) stands for a block of the abstract store. -/
structure Gh where
 Fz : Nat → Prop
 bm : Nat → Option (Nat × Nat)

def isNan (b : Nat) : Bool := (FloatKind.f64.decode b).isNaN
def nanEq (b c : Nat) : Prop := b = c ∨ (isNan b = true ∧ isNan c = true)

def cellOf (h : Array Obj) (a : Addr) : Option Value :=
 match h[a.block]? with
 | some (.cells c _ _) => if a.spot.isSome then none else c[a.off]?
 | _ => none
theorem cell_cellOf (w : World) (a : Addr) : w.cell? a = cellOf w.heap a := rfl

def Ones (l : List Value) : Prop := ∀ c ∈ l, c.oneCell' = true
theorem Ones.get {l : List Value} (o : Ones l) {i : Nat} {c : Value} (h : l[i]? = some c) : c.oneCell' = true := o c (Lmg h)
theorem Ones.of {l : List Value} (h : ∀ (i : Nat) c, l[i]? = some c → c.oneCell' = true) : Ones l := fun c hc => by
 obtain ⟨i, hi⟩ := List.getElem?_of_mem hc; exact h i c hi
theorem Ones.take {l : List Value} (o : Ones l) (n : Nat) : Ones (l.take n) := fun c hc => o c (List.mem_of_mem_take hc)
theorem Ones.drop {l : List Value} (o : Ones l) (n : Nat) : Ones (l.drop n) := fun c hc => o c (List.mem_of_mem_drop hc)
theorem Ones.append {l m : List Value} (a : Ones l) (b : Ones m) : Ones (l ++ m) := fun c hc => by
 rcases List.mem_append.1 hc with h | h
 ·exact a c h
 ·exact b c h

inductive VRel (h : Array Obj) (G : Gh) : AV → Value → Prop
 | undef {c} : VRel h G .undef c
 | bool {b} : VRel h G (.bool b) (.bool b)
 | int {k n} : VRel h G (.int k n) (.int k n)
 | flt {b c} : nanEq b c → VRel h G (.flt b) (.float .f64 c)
 | str {s} : VRel h G (.str s) (.string s)
 | nilptr : VRel h G .nilptr (.pointer none)
 | hptr {x off g m} : G.bm x = some (g, m) → VRel h G (.hptr x off) (.pointer (some ⟨g, off, none⟩))
 | pptr {row off} (a : Addr) (cs : Nat → Value) : G.Fz a.block →
   (∀ (j : Nat) (v : AV), row[off + j]? = some v → cellOf h (a.add j) = some (cs j) ∧ (cs j).oneCell' = true) →
   (∀ j v, row[off + j]? = some v → VRel h G v (cs j)) → VRel h G (.pptr row off) (.pointer (some a))
 | gptr {g} : VRel h G (.gptr g) (.pointer (some ⟨g, 0, none⟩))
 | nilslice : VRel h G .nilslice (.slice none 0 0)
 | pnil {sz} : VRel h G (.pslice sz []) (.slice none 0 0)
 | pslice {sz rows} (a : Addr) (cap : Nat) (cs : Nat → Nat → Value) : (0 < rows.length * sz → G.Fz a.block) → rows.length ≤ cap →
   (∀ (i : Nat) (r : AV), rows[i]? = some r → ∃ row : List AV, r = AV.agg row ∧ row.length = sz) →
   (∀ (i : Nat) (row : List AV) (j : Nat) (v : AV), rows[i]? = some (AV.agg row) → row[j]? = some v → cellOf h (a.add (i * sz + j)) = some (cs i j) ∧ (cs i j).oneCell' = true) →
   (∀ (i : Nat) (row : List AV) (j : Nat) (v : AV), rows[i]? = some (AV.agg row) → row[j]? = some v → VRel h G v (cs i j)) →
   VRel h G (.pslice sz rows) (.slice (some a) rows.length cap)
 | hslice {sz x off len g m cap} : G.bm x = some (g, m) → len ≤ cap → off + cap * sz ≤ m → VRel h G (.hslice sz x off len) (.slice (some ⟨g, off, none⟩) len cap)
 | nilmap : VRel h G .nilmap (.map none)
 | pmnil : VRel h G (.pmap [] []) (.map none)
 | pmap {ks vs r es clock} : G.Fz r → h[r]? = some (.map es clock) → ks.length = es.size → vs.length = es.size →
   (∀ (i : Nat) k e, ks[i]? = some k → es[i]? = some e → VRel h G k e.key) →
   (∀ (i : Nat) v e, vs[i]? = some v → es[i]? = some e → VRel h G v e.val) → VRel h G (.pmap ks vs) (.map (some r))
 | hmap {x g m} : G.bm x = some (g, m) → VRel h G (.hmap x) (.map (some g))
 | func {f first cap} {cf cc : Array Value} : first.length = cf.size → cap.length = cc.size →
   (∀ (i : Nat) v c, first[i]? = some v → cf[i]? = some c → VRel h G v c) →
   (∀ (i : Nat) v c, cap[i]? = some v → cc[i]? = some c → VRel h G v c) → VRel h G (.func f first cap) (.func (.func f) cf cc)
 | nilfunc : VRel h G .nilfunc .nilFunc
 | iface {t v c} : VRel h G v c → VRel h G (.iface t v) (.iface t c)
 | niliface : VRel h G .niliface .nilIface
 | agg {cs : List AV} {arr : Array Value} : Ones arr.toList → cs.length = arr.size → (∀ (i : Nat) v c, cs[i]? = some v → arr[i]? = some c → VRel h G v c) → VRel h G (.agg cs) (.agg arr)
 | tuple {cs : List AV} {arr : Array Value} : cs.length = arr.size → (∀ (i : Nat) v c, cs[i]? = some v → arr[i]? = some c → VRel h G v c) → VRel h G (.tuple cs) (.tuple arr)

/-- What may happen to memory while a value goes on standing for the same. -/
structure Le (h h' : Array Obj) (G G' : Gh) : Prop where
 fz : ∀ g, G.Fz g → G'.Fz g
 bm : ∀ x p, G.bm x = some p → G'.bm x = some p
 same : ∀ g, G.Fz g → h'[g]? = h[g]?

theorem Le.refl (h : Array Obj) (G : Gh) : Le h h G G := ⟨fun _ h => h, fun _ _ h => h, fun _ _ => rfl⟩
theorem Le.trans {h₁ h₂ h₃ : Array Obj} {G₁ G₂ G₃ : Gh} (a : Le h₁ h₂ G₁ G₂) (b : Le h₂ h₃ G₂ G₃) : Le h₁ h₃ G₁ G₃ :=
 ⟨fun g h => b.fz g (a.fz g h), fun x p h => b.bm x p (a.bm x p h), fun g h => (b.same g (a.fz g h)).trans (a.same g h)⟩

theorem add_block (a : Addr) (n : Nat) : (a.add n).block = a.block := by unfold Addr.add; split <;> rfl
theorem add_add (a : Addr) (i j : Nat) : (a.add i).add j = a.add (i + j) := by
 unfold Addr.add
 by_cases hi : i = 0 <;> by_cases hj : j = 0 <;> simp [hi, hj, Nat.add_assoc]
theorem add_zero (a : Addr) : a.add 0 = a := by simp [Addr.add]
theorem add_mk (g o n : Nat) : Addr.add ⟨g, o, none⟩ n = ⟨g, o + n, none⟩ := by
 unfold Addr.add
 by_cases h : n = 0 <;> simp [h]

theorem cellOf_same {h h' : Array Obj} {a : Addr} (e : h'[a.block]? = h[a.block]?) : cellOf h' a = cellOf h a := by
 simp only [cellOf, e]

theorem VRel.mono {h h' : Array Obj} {G G' : Gh} (le : Le h h' G G') {v : AV} {c : Value} (r : VRel h G v c) : VRel h' G' v c := by
 induction r with
 | undef => exact .undef
 | bool => exact .bool
 | int => exact .int
 | flt e => exact .flt e
 | str => exact .str
 | nilptr => exact .nilptr
 | hptr e => exact .hptr (le.bm _ _ e)
 | pptr a cs hf hc _ ih =>
  exact .pptr a cs (le.fz _ hf) (fun j v hj => ⟨(cellOf_same (by rw [add_block]; exact le.same _ hf)).trans (hc j v hj).1, (hc j v hj).2⟩) ih
 | gptr => exact .gptr
 | nilslice => exact .nilslice
 | pnil => exact .pnil
 | pslice a cap cs hf hcap hrow hc _ ih =>
  refine .pslice a cap cs (fun hl => le.fz _ (hf hl)) hcap hrow (fun i row j v hi hj => ?_) ih
  obtain ⟨row', e, hlen⟩ := hrow i _ hi
  cases e
  have h1 := (List.getElem?_eq_some_iff.1 hi).1
  have h2 := (List.getElem?_eq_some_iff.1 hj).1
  exact ⟨(cellOf_same (by rw [add_block]; exact le.same _ (hf (Nat.mul_pos (by omega) (by omega))))).trans (hc i row j v hi hj).1, (hc i row j v hi hj).2⟩
 | hslice e h1 h2 => exact .hslice (le.bm _ _ e) h1 h2
 | nilmap => exact .nilmap
 | pmnil => exact .pmnil
 | pmap hf he h1 h2 _ _ ih1 ih2 => exact .pmap (le.fz _ hf) ((le.same _ hf).trans he) h1 h2 ih1 ih2
 | hmap e => exact .hmap (le.bm _ _ e)
 | func h1 h2 _ _ ih1 ih2 => exact .func h1 h2 ih1 ih2
 | nilfunc => exact .nilfunc
 | iface _ ih => exact .iface ih
 | niliface => exact .niliface
 | agg h0 h1 _ ih => exact .agg h0 h1 ih
 | tuple h1 _ ih => exact .tuple h1 ih

theorem VRel.gmono {h h' : Array Obj} {F F' : Nat → Prop} (fz : ∀ g, F g → F' g) (same : ∀ g, F g → h'[g]? = h[g]?) {v : AV} {c : Value}
  (r : VRel h ⟨F, fun _ => none⟩ v c) : VRel h' ⟨F', fun _ => none⟩ v c := VRel.mono (G := ⟨F, fun _ => none⟩) (G' := ⟨F', fun _ => none⟩) ⟨fz, fun _ _ h => h, same⟩ r

/-- Lists of values. -/
def VRels (h : Array Obj) (G : Gh) (vs : List AV) (cs : List Value) : Prop := vs.length = cs.length ∧ ∀ (i : Nat) v c, vs[i]? = some v → cs[i]? = some c → VRel h G v c
theorem VRels.mono {h h' : Array Obj} {G G' : Gh} (le : Le h h' G G') {vs cs} (r : VRels h G vs cs) : VRels h' G' vs cs :=
 ⟨r.1, fun i v c h1 h2 => (r.2 i v c h1 h2).mono le⟩
theorem VRels.nil {h G} : VRels h G [] [] := ⟨rfl, fun i v c h => by simp at h⟩
theorem VRels.cons {h G v c vs cs} (a : VRel h G v c) (b : VRels h G vs cs) : VRels h G (v :: vs) (c :: cs) := by
 refine ⟨by simp [b.1], fun i => ?_⟩
 cases i with
 | zero => intro v' c' h1 h2; simp at h1 h2; subst h1; subst h2; exact a
 | succ i => intro v' c' h1 h2; simp at h1 h2; exact b.2 i v' c' h1 h2
theorem VRels.head {h G v vs c cs} (r : VRels h G (v :: vs) (c :: cs)) : VRel h G v c := r.2 0 v c rfl rfl
theorem VRels.tail {h G v vs c cs} (r : VRels h G (v :: vs) (c :: cs)) : VRels h G vs cs :=
 ⟨by simpa using r.1, fun i v c h1 h2 => r.2 (i + 1) v c (by simpa using h1) (by simpa using h2)⟩
theorem VRels.append {h G vs cs vs' cs'} (a : VRels h G vs cs) (b : VRels h G vs' cs') : VRels h G (vs ++ vs') (cs ++ cs') := by
 induction vs generalizing cs with
 | nil => cases cs with
  | nil => simpa using b
  | cons c cs => simp [VRels] at a
 | cons v vs ih => cases cs with
  | nil => simp [VRels] at a
  | cons c cs => exact .cons a.head (ih a.tail)
theorem VRels.get {h G vs cs} (r : VRels h G vs cs) {i : Nat} {v : AV} (hv : vs[i]? = some v) : ∃ c, cs[i]? = some c ∧ VRel h G v c := by
 have hl := (List.getElem?_eq_some_iff.1 hv).1
 have hl' : i < cs.length := by rw [← r.1]; exact hl
 exact ⟨cs[i], Lge hl', r.2 i v _ hv (Lge hl')⟩
theorem VRels.of_agg {h G cs} {arr : Array Value} (r : VRel h G (.agg cs) (.agg arr)) : VRels h G cs arr.toList := by
 cases r with
 | agg _ h1 h2 => exact ⟨by simpa using h1, fun i v c a b => h2 i v c a (by simpa using b)⟩
theorem VRels.agg {h G cs} {l : List Value} (r : VRels h G cs l) (o : Ones l) : VRel h G (.agg cs) (.agg ⟨l⟩) :=
 .agg o (by simpa using r.1) fun i v c a b => r.2 i v c a (by simpa using b)
theorem VRels.of_tuple {h G cs} {arr : Array Value} (r : VRel h G (.tuple cs) (.tuple arr)) : VRels h G cs arr.toList := by
 cases r with
 | tuple h1 h2 => exact ⟨by simpa using h1, fun i v c a b => h2 i v c a (by simpa using b)⟩
theorem VRels.tuple {h G cs} {l : List Value} (r : VRels h G cs l) : VRel h G (.tuple cs) (.tuple ⟨l⟩) :=
 .tuple (by simpa using r.1) fun i v c a b => r.2 i v c a (by simpa using b)
theorem VRels.take {h G vs cs} (r : VRels h G vs cs) (n : Nat) : VRels h G (vs.take n) (cs.take n) :=
 ⟨by simp [r.1], fun i v c h1 h2 => by
  rw [List.getElem?_take] at h1 h2
  split at h1
  ·rename_i hi; rw [if_pos hi] at h2; exact r.2 i v c h1 h2
  ·simp at h1⟩
theorem VRels.drop {h G vs cs} (r : VRels h G vs cs) (n : Nat) : VRels h G (vs.drop n) (cs.drop n) :=
 ⟨by simp [r.1], fun i v c h1 h2 => by rw [List.getElem?_drop] at h1 h2; exact r.2 _ v c h1 h2⟩
theorem VRels.set {h G vs cs v c} (r : VRels h G vs cs) (a : VRel h G v c) (n : Nat) : VRels h G (vs.set n v) (cs.set n c) := by
 refine ⟨by simp [r.1], fun i v' c' h1 h2 => ?_⟩
 rw [List.getElem?_set] at h1 h2
 by_cases e : n = i
 ·rw [if_pos e] at h1 h2
  split at h1
  ·split at h2
   ·cases h1; cases h2; exact a
   ·simp at h2
  ·simp at h1
 ·rw [if_neg e] at h1 h2
  exact r.2 i v' c' h1 h2

/-- The cells of a related value. -/
theorem VRel.cells_rel {h G v c} (r : VRel h G v c) (hu : v.cells ≠ []) : VRels h G v.cells c.cells.toList ∧ Ones c.cells.toList := by
 cases r <;> first
  | exact absurd rfl hu
  | (rename_i h0 h1 h2; exact ⟨⟨by simpa [AV.cells, Value.cells] using h1, fun i v c a b => h2 i v c (by simpa [AV.cells] using a) (by simpa [Value.cells] using b)⟩, by simpa [Value.cells] using h0⟩)
  | (
   refine ⟨⟨rfl, fun i v c a b => ?_⟩, fun c hc => ?_⟩
   ·cases i with
    | zero => simp [AV.cells, Value.cells] at a b; subst a; subst b; first | assumption | (constructor <;> assumption) | constructor
    | succ i => simp [AV.cells] at a
   ·simp [Value.cells] at hc; subst hc; rfl)

/-- A plain key as the model has it. -/
def kval1 : AV → Value
 | .int k n => .int k n
 | .str s => .string s
 | .bool b => .bool b
 | _ => default
def kval : AV → Value
 | .agg cs => .agg (cs.map kval1).toArray
 | v => kval1 v
/-- The entries of a map and the function that it stands for. -/
structure MapRel (h : Array Obj) (G : Gh) (kk : KK) (f : AV → Option AV) (es : Array MapEntry) (clock : Nat) : Prop where
 ent : ∀ e ∈ es.toList, ∃ k v, kk.fits k = true ∧ e.key = kval k ∧ f k = some v ∧ VRel h G v e.val
 dom : ∀ k, f k ≠ none → kk.fits k = true ∧ ∃ e ∈ es.toList, e.key = kval k
 keys : (es.toList.map (·.key)).Nodup
 born : ∀ e ∈ es.toList, e.born < clock
 stamps : (es.toList.map (·.born)).Nodup
theorem MapRel.mono {h h' : Array Obj} {G G' : Gh} (le : Le h h' G G') {kk f es clock} (r : MapRel h G kk f es clock) : MapRel h' G' kk f es clock :=
 {r with ent := fun e he => let ⟨k, v, a, b, c, d⟩ := r.ent e he; ⟨k, v, a, b, c, d.mono le⟩ }

/-- A block of the abstract store and the model's block that stands for it. -/
def BRel (h : Array Obj) (G : Gh) (b : Blk) (g m : Nat) : Prop :=
 match b with
 | .cells cs => ∃ arr elem, h[g]? = some (.cells arr elem (0, 0)) ∧ arr.size = m ∧ cs.length ≤ m ∧ Ones arr.toList ∧ ∀ (i : Nat) (v : AV), cs[i]? = some v → ∃ c : Value, arr[i]? = some c ∧ VRel h G v c
 | .map kk f => ∃ es clock, h[g]? = some (.map es clock) ∧ MapRel h G kk f es clock
 | .ranged kk f st n => ∃ es, h[g]? = some (.map es n) ∧ MapRel h G kk f es n ∧ ∀ e ∈ es.toList, ∀ k, kk.fits k = true → e.key = kval k → e.born = st k
 | .iter x n seen _ => ∃ gm mm seenA, G.bm x = some (gm, mm) ∧ h[g]? = some (.mapIter (some gm) n seenA n) ∧ seenA.toList = seen

theorem BRel.mono {h h' : Array Obj} {G G' : Gh} (le : Le h h' G G') {b g m} (e : h'[g]? = h[g]?) (r : BRel h G b g m) : BRel h' G' b g m := by
 cases b with
 | cells cs =>
  obtain ⟨arr, elem, h1, h2, h3, h3', h4⟩ := r
  exact ⟨arr, elem, e.trans h1, h2, h3, h3', fun i v hi => let ⟨c, a, b⟩ := h4 i v hi; ⟨c, a, b.mono le⟩⟩
 | map kk f =>
  obtain ⟨es, clock, h1, h2⟩ := r
  exact ⟨es, clock, e.trans h1, h2.mono le⟩
 | ranged kk f st n =>
  obtain ⟨es, h1, h2, h3⟩ := r
  exact ⟨es, e.trans h1, h2.mono le, h3⟩
 | iter x n seen cur =>
  obtain ⟨gm, mm, sa, h1, h2, h3⟩ := r
  exact ⟨gm, mm, sa, le.bm _ _ h1, e.trans h2, h3⟩

/-- What a run began with: its memory, the blocks that it may write, the ghost, the package-level variables. -/
structure Base where
 w0 : World
 own : Nat → Prop
 G0 : Gh
 Gl : Nat → Option AV

/-- The whole relation of a store and the boxes of a frame. -/
structure HI (Z : Base) (w : World) (G : Gh) (lm : Nat → Option Nat) (loc : Loc) (σ : Store) : Prop where
 fzlt : ∀ g, G.Fz g → g < w.heap.size
 blk : ∀ x b, σ.blk x = some b → ∃ g m, G.bm x = some (g, m) ∧ ¬ G.Fz g ∧ BRel w.heap G b g m
 inj : ∀ x y, σ.blk x ≠ none → σ.blk y ≠ none → ∀ g m m', G.bm x = some (g, m) → G.bm y = some (g, m') → x = y
 next : ∀ x, σ.next ≤ x → σ.blk x = none ∧ G.bm x = none
 lrel : ∀ s n cs, loc.get s = some (n, cs) → cs.length = n ∧ ∃ g, lm s = some g ∧ ¬ G.Fz g ∧ BRel w.heap G (.cells cs) g n
 linj : ∀ s t, (loc.get s).isSome = true → (loc.get t).isSome = true → ∀ g, lm s = some g → lm t = some g → s = t
 ldis : ∀ s, (loc.get s).isSome = true → ∀ g, lm s = some g → ∀ x b, σ.blk x = some b → ∀ m, G.bm x ≠ some (g, m)
 os : w.os = Z.w0.os
 tape : w.tape = Z.w0.tape
 output : w.output = Z.w0.output
 size : Z.w0.heap.size ≤ w.heap.size
 keep : ∀ g, g < Z.w0.heap.size → ¬ Z.own g → w.heap[g]? = Z.w0.heap[g]?
 fresh : ∀ x b, σ.blk x = some b → ∀ g m, G.bm x = some (g, m) → Z.w0.heap.size ≤ g ∨ Z.own g
 lfresh : ∀ s, (loc.get s).isSome = true → ∀ g, lm s = some g → Z.w0.heap.size ≤ g
 fzfresh : ∀ g, G.Fz g → Z.G0.Fz g ∨ Z.w0.heap.size ≤ g ∨ Z.own g
 fz0 : ∀ g, Z.G0.Fz g → G.Fz g
 bm0 : ∀ x p, Z.G0.bm x = some p → G.bm x = some p
 bmlt : ∀ x g m, G.bm x = some (g, m) → g < w.heap.size
 glob : ∀ g v, Z.Gl g = some v → G.Fz g ∧ ∃ c, cellOf w.heap ⟨g, 0, none⟩ = some c ∧ VRel w.heap ⟨G.Fz, fun _ => none⟩ v c

theorem HI.draw {Z w G lm loc σ} (H : HI Z w G lm loc σ) (w' : World) (h1 : w'.heap = w.heap) (h2 : w'.os = w.os) (h3 : w'.tape = w.tape) (h4 : w'.output = w.output) : HI Z w' G lm loc σ := by
 obtain ⟨a1, a2, a3, a4, a5, a6, a7, a8, a9, a10, a11, a12, a13, a14, a15, a16, a17, a18, a19⟩ := H
 constructor <;> (try rw [h1]) <;> (try rw [h2]) <;> (try rw [h3]) <;> (try rw [h4]) <;> assumption

theorem get_push_lt {h : Array Obj} {o : Obj} {g : Nat} (hg : g < h.size) : (h.push o)[g]? = h[g]? := by
 rw [Array.getElem?_push]; rw [if_neg (by omega)]
theorem get_push_new {h : Array Obj} {o : Obj} : (h.push o)[h.size]? = some o := by simp
theorem lt_of_get {h : Array Obj} {o : Obj} {g : Nat} (e : h[g]? = some o) : g < h.size := (Array.getElem?_eq_some_iff.1 e).1

theorem BRel.lt {h G b g m} (r : BRel h G b g m) : g < h.size := by
 cases b with
 | cells cs => obtain ⟨arr, elem, h1, _⟩ := r; exact lt_of_get h1
 | map kk f => obtain ⟨es, clock, h1, _⟩ := r; exact lt_of_get h1
 | ranged kk f st n => obtain ⟨es, h1, _⟩ := r; exact lt_of_get h1
 | iter x n seen cur => obtain ⟨_, _, _, _, h1, _⟩ := r; exact lt_of_get h1

/-- A new block that nothing but immutable values lead to. -/
theorem HI.garbage {Z w G lm loc σ} (H : HI Z w G lm loc σ) (o : Obj) :
  HI Z (w.alloc o) ⟨fun g => G.Fz g ∨ g = w.heap.size, G.bm⟩ lm loc σ ∧ Le w.heap (w.alloc o).heap G ⟨fun g => G.Fz g ∨ g = w.heap.size, G.bm⟩ := by
 have hh : (w.alloc o).heap = w.heap.push o := rfl
 have le : Le w.heap (w.alloc o).heap G ⟨fun g => G.Fz g ∨ g = w.heap.size, G.bm⟩ :=
  ⟨fun g h => .inl h, fun x p h => h, fun g h => by rw [hh]; exact get_push_lt (H.fzlt g h)⟩
 refine ⟨?_, le⟩
 have hs : (w.alloc o).heap.size = w.heap.size + 1 := by simp [hh]
 exact
  {fzlt := fun g h => by rw [hs]; exact h.elim (fun h => by have := H.fzlt g h; omega) (fun h => by omega)
   blk := fun x b hb => by
    obtain ⟨g, m, h1, h2, h3⟩ := H.blk x b hb
    have hlt := h3.lt
    exact ⟨g, m, h1, fun h => h.elim h2 (fun h => by omega), h3.mono le (by rw [hh]; exact get_push_lt hlt)⟩
   inj := H.inj
   next := H.next
   lrel := fun s n cs hl => by
    obtain ⟨h0, g, h1, h2, h3⟩ := H.lrel s n cs hl
    have hlt := h3.lt
    exact ⟨h0, g, h1, fun h => h.elim h2 (fun h => by omega), h3.mono le (by rw [hh]; exact get_push_lt hlt)⟩
   linj := H.linj
   ldis := H.ldis
   os := H.os
   tape := H.tape
   output := H.output
   size := by rw [hs]; have := H.size; omega
   keep := fun g hg ho => by rw [hh, get_push_lt (by have := H.size; omega)]; exact H.keep g hg ho
   fresh := H.fresh
   lfresh := H.lfresh
   fzfresh := fun g h => by
    rcases h with h | h
    ·exact H.fzfresh g h
    ·have := H.size; right; left; omega
   fz0 := fun g h => .inl (H.fz0 g h)
   bm0 := H.bm0
   bmlt := fun x g m h => by rw [hs]; have := H.bmlt x g m h; omega
   glob := fun g v h => by
    obtain ⟨h1, c, h2, h3⟩ := H.glob g v h
    refine ⟨.inl h1, c, ?_, h3.gmono (fun g h => Or.inl h) le.same⟩
    rw [← h2]; exact cellOf_same (by rw [hh]; exact get_push_lt (H.fzlt g h1)) }

end Go.Asm
/- The steps that memory takes: each keeps the relation. -/
namespace Go.Asm

/-- One block has turned, nothing else. -/
structure Upd (w w' : World) (g : Nat) (o : Obj) : Prop where
 size : w'.heap.size = w.heap.size
 other : ∀ b, b ≠ g → w'.heap[b]? = w.heap[b]?
 at_ : w'.heap[g]? = some o
 os : w'.os = w.os
 tape : w'.tape = w.tape
 output : w'.output = w.output

theorem Upd.trans {w w' w'' g o o'} (a : Upd w w' g o) (b : Upd w' w'' g o') : Upd w w'' g o' :=
 ⟨b.size.trans a.size, fun c h => (b.other c h).trans (a.other c h), b.at_, b.os.trans a.os, b.tape.trans a.tape, b.output.trans a.output⟩
theorem Upd.refl {w : World} {g o} (h : w.heap[g]? = some o) : Upd w w g o := ⟨rfl, fun _ _ => rfl, h, rfl, rfl, rfl⟩

theorem upd_setCell {w : World} {g i : Nat} {arr : Array Value} {elem fr} (h : w.heap[g]? = some (.cells arr elem fr)) (v : Value) :
  Upd w (w.setCell ⟨g, i, none⟩ v) g (.cells (arr.setIfInBounds i v) elem fr) := by
 refine ⟨by simp [World.setCell], fun b hb => ?_, ?_, rfl, rfl, rfl⟩
 ·simp [World.setCell, Array.getElem?_modify, Ne.symm hb]
 ·simp [World.setCell, Array.getElem?_modify, h]

theorem Upd.le {w w' g o} {G : Gh} (u : Upd w w' g o) (hg : ¬ G.Fz g) : Le w.heap w'.heap G G :=
 ⟨fun _ h => h, fun _ _ h => h, fun b hb => u.other b fun e => hg (e ▸ hb)⟩

theorem beq_ne {a b : Nat} (h : a ≠ b) : a.beq b = false := by
 cases e : a.beq b
 ·rfl
 ·exact absurd (Nat.eq_of_beq_eq_true e) h
theorem beq_self (a : Nat) : a.beq a = true := by simp

section
variable {Z : Base} {w w' : World} {G : Gh} {lm : Nat → Option Nat} {loc : Loc} {σ : Store}

theorem Loc.get_set (loc : Loc) (s t : Nat) (cs : List AV) : (Loc.set loc s cs).get t = if s = t then (loc.get t).map (fun p => (p.1, cs)) else loc.get t := by
 induction loc with
 | nil => simp [Loc.set, Loc.get]
 | cons e r ih =>
  obtain ⟨k, n, c⟩ := e
  simp only [Loc.set]
  by_cases hk : k = s
  ·subst hk
   simp only [Nat.beq_refl, cond_true, Loc.get]
   by_cases ht : k = t
   ·subst ht; simp
   ·simp [ht, beq_ne ht]
  ·have hks : k.beq s = false := beq_ne hk
   simp only [hks, cond_false, Loc.get]
   by_cases ht : k = t
   ·subst ht; simp [Ne.symm hk]
   ·have : k.beq t = false := beq_ne ht
    simp only [this, cond_false]
    exact ih
theorem Loc.isSome_set (loc : Loc) (s t : Nat) (cs : List AV) : ((Loc.set loc s cs).get t).isSome = (loc.get t).isSome := by
 rw [Loc.get_set]; split <;> simp
theorem Loc.get_cons (loc : Loc) (s t n : Nat) (cs : List AV) : Loc.get ((s, n, cs) :: loc) t = if s = t then some (n, cs) else loc.get t := by
 simp only [Loc.get]
 by_cases h : s = t
 ·subst h; simp
 ·have : s.beq t = false := beq_ne h
  simp [this, h]
theorem Loc.get_drop1 (loc : Loc) (s t : Nat) (h : s ≠ t) : (Loc.drop1 loc s).get t = loc.get t := by
 induction loc with
 | nil => rfl
 | cons e r ih =>
  obtain ⟨k, n, c⟩ := e
  simp only [Loc.drop1]
  by_cases hk : k = s
  ·subst hk
   have : k.beq t = false := beq_ne h
   simp only [beq_self, cond_true, Loc.get, this, cond_false]
   exact ih
  ·have hks : k.beq s = false := beq_ne hk
   simp only [hks, cond_false, Loc.get]
   rw [ih]
theorem Loc.get_drop1_self (loc : Loc) (s : Nat) : (Loc.drop1 loc s).get s = none := by
 induction loc with
 | nil => rfl
 | cons e r ih =>
  obtain ⟨k, n, c⟩ := e
  simp only [Loc.drop1]
  by_cases hk : k = s
  ·subst hk
   simp only [beq_self, cond_true]
   exact ih
  ·have hks : k.beq s = false := beq_ne hk
   simp only [hks, cond_false, Loc.get]
   exact ih

/-- Boxes may be forgotten. -/
theorem HI.forget (H : HI Z w G lm loc σ) (loc' : Loc) (h : ∀ s e, loc'.get s = some e → loc.get s = some e) : HI Z w G lm loc' σ := by
 have hs : ∀ s, (loc'.get s).isSome = true → (loc.get s).isSome = true := fun s hs => by
  obtain ⟨e, he⟩ := Option.isSome_iff_exists.1 hs
  rw [h s e he]; rfl
 exact { H with
  lrel := fun s n cs hl => H.lrel s n cs (h s _ hl)
  linj := fun s t a b => H.linj s t (hs s a) (hs t b)
  ldis := fun s a => H.ldis s (hs s a)
  lfresh := fun s a => H.lfresh s (hs s a) }

/-- A block of the store may be forgotten. -/
theorem HI.kill (H : HI Z w G lm loc σ) (x : Nat) : HI Z w G lm loc (σ.upd x none) := by
 have hb : ∀ y b, (σ.upd x none).blk y = some b → σ.blk y = some b := fun y b h => by
  simp only [Store.upd] at h
  split at h
  ·cases h
  ·exact h
 have hn : ∀ y, (σ.upd x none).blk y ≠ none → σ.blk y ≠ none := fun y h => by
  obtain ⟨b, hb'⟩ := Option.ne_none_iff_exists'.1 h
  rw [hb y b hb']; simp
 exact { H with
  blk := fun y b h => H.blk y b (hb y b h)
  inj := fun y z a b => H.inj y z (hn y a) (hn z b)
  next := fun y h => by
   refine ⟨?_, (H.next y h).2⟩
   simp only [Store.upd]
   split
   ·rfl
   ·exact (H.next y h).1
  ldis := fun s a g hg y b h => H.ldis s a g hg y b (hb y b h)
  fresh := fun y b h => H.fresh y b (hb y b h) }

/-- A box of the frame is written. -/
theorem HI.lstore (H : HI Z w G lm loc σ) {s n g : Nat} {cs cs' : List AV} {arr' : Array Value} {elem} (hl : loc.get s = some (n, cs)) (hg : lm s = some g)
  (u : Upd w w' g (.cells arr' elem (0, 0))) (hsz : arr'.size = n) (hlen : cs'.length = n) (hone : Ones arr'.toList)
  (hr : ∀ (i : Nat) (v : AV), cs'[i]? = some v → ∃ c : Value, arr'[i]? = some c ∧ VRel w.heap G v c) :
  HI Z w' G lm (loc.set s cs') σ ∧ Le w.heap w'.heap G G := by
 obtain ⟨h0, g', hg', hfz, hb⟩ := H.lrel s n cs hl
 rw [hg] at hg'; cases hg'
 have le := u.le hfz
 have hsome : (loc.get s).isSome = true := by rw [hl]; rfl
 refine ⟨?_, le⟩
 exact
  {fzlt := fun b h => by rw [u.size]; exact H.fzlt b h
   blk := fun x b h => by
    obtain ⟨k, m, h1, h2, h3⟩ := H.blk x b h
    exact ⟨k, m, h1, h2, h3.mono le (u.other k fun e => H.ldis s hsome g hg x b h m (e ▸ h1))⟩
   inj := H.inj
   next := H.next
   lrel := fun t m ds ht => by
    rw [Loc.get_set] at ht
    by_cases e : s = t
    ·subst e
     rw [if_pos rfl, hl] at ht
     simp only [Option.map_some, Option.some.injEq, Prod.mk.injEq] at ht
     obtain ⟨rfl, rfl⟩ := ht
     exact ⟨hlen, g, hg, hfz, arr', elem, u.at_, hsz, by omega, hone, fun i v hi => let ⟨c, a, b⟩ := hr i v hi; ⟨c, a, b.mono le⟩⟩
    ·rw [if_neg e] at ht
     obtain ⟨a0, k, a1, a2, a3⟩ := H.lrel t m ds ht
     exact ⟨a0, k, a1, a2, a3.mono le (u.other k fun e' => e (H.linj s t hsome (by rw [ht]; rfl) g hg (e' ▸ a1)))⟩
   linj := fun a b ha hb => H.linj a b (by rwa [Loc.isSome_set] at ha) (by rwa [Loc.isSome_set] at hb)
   ldis := fun a ha => H.ldis a (by rwa [Loc.isSome_set] at ha)
   os := u.os.trans H.os
   tape := u.tape.trans H.tape
   output := u.output.trans H.output
   size := by rw [u.size]; exact H.size
   keep := fun b hb ho => (u.other b fun e => by have := H.lfresh s hsome g hg; omega).trans (H.keep b hb ho)
   fresh := H.fresh
   lfresh := fun a ha => H.lfresh a (by rwa [Loc.isSome_set] at ha)
   fzfresh := H.fzfresh
   fz0 := H.fz0
   bm0 := H.bm0
   bmlt := fun x b m h => by rw [u.size]; exact H.bmlt x b m h
   glob := fun b v h => by
    obtain ⟨h1, c, h2, h3⟩ := H.glob b v h
    exact ⟨h1, c, (cellOf_same (u.other b fun e => hfz (e ▸ h1))).trans h2, h3.gmono (fun _ h => h) le.same⟩ }

/-- A block of the store is written. -/
theorem HI.hstore (H : HI Z w G lm loc σ) {x g m : Nat} {b b' : Blk} {o : Obj} (hx : σ.blk x = some b) (hg : G.bm x = some (g, m))
  (u : Upd w w' g o) (hb' : Le w.heap w'.heap G G → BRel w'.heap G b' g m) :
  HI Z w' G lm loc (σ.upd x (some b')) ∧ Le w.heap w'.heap G G := by
 obtain ⟨g', m', hg', hfz, hb⟩ := H.blk x b hx
 rw [hg] at hg'; cases hg'
 have le := u.le hfz
 have hne : σ.blk x ≠ none := by rw [hx]; simp
 have hlive : ∀ y c, (σ.upd x (some b')).blk y = some c → ∃ d, σ.blk y = some d := fun y c h => by
  simp only [Store.upd] at h
  split at h
  ·rename_i e; subst e; exact ⟨b, hx⟩
  ·exact ⟨c, h⟩
 have hn : ∀ y, (σ.upd x (some b')).blk y ≠ none → σ.blk y ≠ none := fun y h => by
  obtain ⟨c, hc⟩ := Option.ne_none_iff_exists'.1 h
  obtain ⟨d, hd⟩ := hlive y c hc
  rw [hd]; simp
 refine ⟨?_, le⟩
 exact
  {fzlt := fun b h => by rw [u.size]; exact H.fzlt b h
   blk := fun y c h => by
    simp only [Store.upd] at h
    split at h
    ·rename_i e; subst e; cases h
     exact ⟨g, m, hg, hfz, hb' le⟩
    ·rename_i e
     obtain ⟨k, n, h1, h2, h3⟩ := H.blk y c h
     exact ⟨k, n, h1, h2, h3.mono le (u.other k fun e' => by subst e'; exact e (H.inj y x (by rw [h]; simp) hne _ _ _ h1 hg))⟩
   inj := fun y z a b => H.inj y z (hn y a) (hn z b)
   next := fun y h => by
    refine ⟨?_, (H.next y h).2⟩
    simp only [Store.upd]
    split
    ·rename_i e; subst e; exact absurd (H.next y h).1 hne
    ·exact (H.next y h).1
   lrel := fun t k ds ht => by
    obtain ⟨a0, q, a1, a2, a3⟩ := H.lrel t k ds ht
    exact ⟨a0, q, a1, a2, a3.mono le (u.other q fun e => by subst e; exact H.ldis t (by rw [ht]; rfl) _ a1 x b hx m hg)⟩
   linj := H.linj
   ldis := fun s a q hq y c h => by
    obtain ⟨d, hd⟩ := hlive y c h
    exact H.ldis s a q hq y d hd
   os := u.os.trans H.os
   tape := u.tape.trans H.tape
   output := u.output.trans H.output
   size := by rw [u.size]; exact H.size
   keep := fun q hq ho => (u.other q fun e => by
    subst e
    rcases H.fresh x b hx _ m hg with h | h
    ·omega
    ·exact ho h).trans (H.keep q hq ho)
   fresh := fun y c h => by obtain ⟨d, hd⟩ := hlive y c h; exact H.fresh y d hd
   lfresh := H.lfresh
   fzfresh := H.fzfresh
   fz0 := H.fz0
   bm0 := H.bm0
   bmlt := fun x b m h => by rw [u.size]; exact H.bmlt x b m h
   glob := fun q v h => by
    obtain ⟨h1, c, h2, h3⟩ := H.glob q v h
    exact ⟨h1, c, (cellOf_same (u.other q fun e => hfz (e ▸ h1))).trans h2, h3.gmono (fun _ h => h) le.same⟩ }

/-- A new box of the frame. -/
theorem HI.lalloc (H : HI Z w G lm loc σ) {s n : Nat} {cs : List AV} {arr : Array Value} {elem} (hl : loc.get s = none) (hsz : arr.size = n) (hlen : cs.length = n) (hone : Ones arr.toList)
  (hr : ∀ (i : Nat) (v : AV), cs[i]? = some v → ∃ c : Value, arr[i]? = some c ∧ VRel w.heap G v c) :
  HI Z (w.alloc (.cells arr elem)) G (fun t => if t = s then some w.heap.size else lm t) ((s, n, cs) :: loc) σ ∧ Le w.heap (w.alloc (.cells arr elem)).heap G G := by
 have hh : (w.alloc (.cells arr elem)).heap = w.heap.push (.cells arr elem) := rfl
 have hs : (w.alloc (.cells arr elem)).heap.size = w.heap.size + 1 := by simp [hh]
 have le : Le w.heap (w.alloc (.cells arr elem)).heap G G :=
  ⟨fun _ h => h, fun _ _ h => h, fun g h => by rw [hh]; exact get_push_lt (H.fzlt g h)⟩
 have old : ∀ t, (Loc.get ((s, n, cs) :: loc) t).isSome = true → t ≠ s → (loc.get t).isSome = true := fun t h e => by
  rw [Loc.get_cons, if_neg (Ne.symm e)] at h; exact h
 have hlt : ∀ t, (loc.get t).isSome = true → ∀ g, lm t = some g → g < w.heap.size := fun t ht g hg => by
  obtain ⟨⟨k, ds⟩, he⟩ := Option.isSome_iff_exists.1 ht
  obtain ⟨_, q, a1, _, a3⟩ := H.lrel t k ds he
  rw [hg] at a1; cases a1
  exact a3.lt
 refine ⟨?_, le⟩
 exact
  {fzlt := fun b h => by rw [hs]; have := H.fzlt b h; omega
   blk := fun x b h => by
    obtain ⟨k, m, h1, h2, h3⟩ := H.blk x b h
    exact ⟨k, m, h1, h2, h3.mono le (by rw [hh]; exact get_push_lt h3.lt)⟩
   inj := H.inj
   next := H.next
   lrel := fun t m ds ht => by
    rw [Loc.get_cons] at ht
    by_cases e : s = t
    ·subst e
     rw [if_pos rfl] at ht
     cases ht
     refine ⟨hlen, w.heap.size, if_pos rfl, fun h => ?_, arr, elem, by rw [hh]; exact get_push_new, hsz, by omega, hone, fun i v hi => let ⟨c, a, b⟩ := hr i v hi; ⟨c, a, b.mono le⟩⟩
     have := H.fzlt _ h; omega
    ·rw [if_neg e] at ht
     obtain ⟨a0, k, a1, a2, a3⟩ := H.lrel t m ds ht
     exact ⟨a0, k, by rw [if_neg (Ne.symm e)]; exact a1, a2, a3.mono le (by rw [hh]; exact get_push_lt a3.lt)⟩
   linj := fun a b ha hb g => by
    intro h1 h2
    by_cases ea : a = s <;> by_cases eb : b = s
    ·rw [ea, eb]
    ·rw [if_pos ea] at h1; rw [if_neg eb] at h2; cases h1
     have := hlt b (old b hb eb) _ h2; omega
    ·rw [if_neg ea] at h1; rw [if_pos eb] at h2; cases h2
     have := hlt a (old a ha ea) _ h1; omega
    ·rw [if_neg ea] at h1; rw [if_neg eb] at h2
     exact H.linj a b (old a ha ea) (old b hb eb) g h1 h2
   ldis := fun a ha g hg x b hx m hb => by
    by_cases ea : a = s
    ·rw [if_pos ea] at hg; cases hg
     have := H.bmlt x _ m hb; omega
    ·rw [if_neg ea] at hg
     exact H.ldis a (old a ha ea) g hg x b hx m hb
   os := H.os
   tape := H.tape
   output := H.output
   size := by rw [hs]; have := H.size; omega
   keep := fun g hg ho => by rw [hh, get_push_lt (by have := H.size; omega)]; exact H.keep g hg ho
   fresh := H.fresh
   lfresh := fun a ha g hg => by
    by_cases ea : a = s
    ·rw [if_pos ea] at hg; cases hg; exact H.size
    ·rw [if_neg ea] at hg; exact H.lfresh a (old a ha ea) g hg
   fzfresh := H.fzfresh
   fz0 := H.fz0
   bm0 := H.bm0
   bmlt := fun x g m h => by rw [hs]; have := H.bmlt x g m h; omega
   glob := fun g v h => by
    obtain ⟨h1, c, h2, h3⟩ := H.glob g v h
    exact ⟨h1, c, (cellOf_same (by rw [hh]; exact get_push_lt (H.fzlt g h1))).trans h2, h3.gmono (fun _ h => h) le.same⟩ }

def Gh.add (G : Gh) (x : Nat) (p : Nat × Nat) : Gh := ⟨G.Fz, fun y => if y = x then some p else G.bm y⟩

/-- A new block of the store. -/
theorem HI.halloc (H : HI Z w G lm loc σ) {o : Obj} {b : Blk} {m : Nat}
  (hb : Le w.heap (w.alloc o).heap G (G.add σ.next (w.heap.size, m)) → BRel (w.alloc o).heap (G.add σ.next (w.heap.size, m)) b w.heap.size m) :
  HI Z (w.alloc o) (G.add σ.next (w.heap.size, m)) lm loc (σ.add b) ∧ Le w.heap (w.alloc o).heap G (G.add σ.next (w.heap.size, m)) := by
 have hh : (w.alloc o).heap = w.heap.push o := rfl
 have hs : (w.alloc o).heap.size = w.heap.size + 1 := by simp [hh]
 have hnew := H.next σ.next (Nat.le_refl _)
 have bmne : ∀ x p, G.bm x = some p → x ≠ σ.next := fun x p h e => by subst e; rw [hnew.2] at h; cases h
 have blne : ∀ x c, σ.blk x = some c → x ≠ σ.next := fun x c h e => by subst e; rw [hnew.1] at h; cases h
 have le : Le w.heap (w.alloc o).heap G (G.add σ.next (w.heap.size, m)) :=
  ⟨fun _ h => h, fun x p h => by simp only [Gh.add]; rw [if_neg (bmne x p h)]; exact h, fun g h => by rw [hh]; exact get_push_lt (H.fzlt g h)⟩
 have hblk : ∀ x c, (σ.add b).blk x = some c → (x = σ.next ∧ c = b) ∨ (x ≠ σ.next ∧ σ.blk x = some c) := fun x c h => by
  simp only [Store.add] at h
  split at h
  ·rename_i e; left; cases h; exact ⟨e, rfl⟩
  ·rename_i e; right; exact ⟨e, h⟩
 have lltm : ∀ t, (loc.get t).isSome = true → ∀ g, lm t = some g → g < w.heap.size := fun t ht g hg => by
  obtain ⟨⟨k, ds⟩, he⟩ := Option.isSome_iff_exists.1 ht
  obtain ⟨_, q, a1, _, a3⟩ := H.lrel t k ds he
  rw [hg] at a1; cases a1
  exact a3.lt
 refine ⟨?_, le⟩
 exact
  {fzlt := fun b h => by rw [hs]; have := H.fzlt b h; omega
   blk := fun x c h => by
    rcases hblk x c h with ⟨e, e'⟩ | ⟨e, h⟩
    ·subst e; subst e'
     exact ⟨w.heap.size, m, by simp [Gh.add], fun h => by have := H.fzlt _ h; omega, hb le⟩
    ·obtain ⟨k, n, h1, h2, h3⟩ := H.blk x c h
     exact ⟨k, n, le.bm _ _ h1, h2, h3.mono le (by rw [hh]; exact get_push_lt h3.lt)⟩
   inj := fun x y hx hy g m₁ m₂ h1 h2 => by
    obtain ⟨c, hc⟩ := Option.ne_none_iff_exists'.1 hx
    obtain ⟨d, hd⟩ := Option.ne_none_iff_exists'.1 hy
    simp only [Gh.add] at h1 h2
    rcases hblk x c hc with ⟨e, _⟩ | ⟨e, h⟩ <;> rcases hblk y d hd with ⟨e', _⟩ | ⟨e', h'⟩
    ·rw [e, e']
    ·rw [if_pos e] at h1; rw [if_neg e'] at h2; cases h1
     have := H.bmlt y _ _ h2; omega
    ·rw [if_neg e] at h1; rw [if_pos e'] at h2; cases h2
     have := H.bmlt x _ _ h1; omega
    ·rw [if_neg e] at h1; rw [if_neg e'] at h2
     exact H.inj x y (by rw [h]; simp) (by rw [h']; simp) g m₁ m₂ h1 h2
   next := fun x h => by
    have hx : σ.next + 1 ≤ x := h
    have := H.next x (by omega)
    simp only [Store.add, Gh.add]
    rw [if_neg (by omega), if_neg (by omega)]
    exact this
   lrel := fun t k ds ht => by
    obtain ⟨a0, q, a1, a2, a3⟩ := H.lrel t k ds ht
    exact ⟨a0, q, a1, a2, a3.mono le (by rw [hh]; exact get_push_lt a3.lt)⟩
   linj := H.linj
   ldis := fun s a q hq x c h n hn => by
    simp only [Gh.add] at hn
    rcases hblk x c h with ⟨e, _⟩ | ⟨e, h⟩
    ·rw [if_pos e] at hn; cases hn
     have := lltm s a _ hq; omega
    ·rw [if_neg e] at hn
     exact H.ldis s a q hq x c h n hn
   os := H.os
   tape := H.tape
   output := H.output
   size := by rw [hs]; have := H.size; omega
   keep := fun g hg ho => by rw [hh, get_push_lt (by have := H.size; omega)]; exact H.keep g hg ho
   fresh := fun x c h g n hg => by
    simp only [Gh.add] at hg
    rcases hblk x c h with ⟨e, _⟩ | ⟨e, h⟩
    ·rw [if_pos e] at hg; cases hg; left; exact H.size
    ·rw [if_neg e] at hg; exact H.fresh x c h g n hg
   lfresh := H.lfresh
   fzfresh := H.fzfresh
   fz0 := H.fz0
   bm0 := fun x p h => le.bm x p (H.bm0 x p h)
   bmlt := fun x g n h => by
    rw [hs]
    simp only [Gh.add] at h
    split at h
    ·cases h; omega
    ·have := H.bmlt x g n h; omega
   glob := fun g v h => by
    obtain ⟨h1, c, h2, h3⟩ := H.glob g v h
    exact ⟨h1, c, (cellOf_same (by rw [hh]; exact get_push_lt (H.fzlt g h1))).trans h2, h3.gmono (fun _ h => h) le.same⟩ }

/-- A block of the store goes on under a new number. -/
theorem HI.rename (H : HI Z w G lm loc σ) {x g m : Nat} {b : Blk} (hx : σ.blk x = some b) (hg : G.bm x = some (g, m)) :
  HI Z w (G.add σ.next (g, m)) lm loc ((σ.upd x none).add b) ∧ Le w.heap w.heap G (G.add σ.next (g, m)) := by
 have hnew := H.next σ.next (Nat.le_refl _)
 have bmne : ∀ y p, G.bm y = some p → y ≠ σ.next := fun y p h e => by subst e; rw [hnew.2] at h; cases h
 have le : Le w.heap w.heap G (G.add σ.next (g, m)) :=
  ⟨fun _ h => h, fun y p h => by simp only [Gh.add]; rw [if_neg (bmne y p h)]; exact h, fun _ _ => rfl⟩
 have hblk : ∀ y c, ((σ.upd x none).add b).blk y = some c → (y = σ.next ∧ c = b) ∨ (y ≠ σ.next ∧ y ≠ x ∧ σ.blk y = some c) := fun y c h => by
  change (if y = σ.next then some b else if y = x then none else σ.blk y) = some c at h
  by_cases e : y = σ.next
  ·rw [if_pos e] at h; left; cases h; exact ⟨e, rfl⟩
  ·rw [if_neg e] at h
   by_cases e' : y = x
   ·rw [if_pos e'] at h; cases h
   ·rw [if_neg e'] at h; right; exact ⟨e, e', h⟩
 obtain ⟨g', m', h1', hfz, hbr⟩ := H.blk x b hx
 rw [hg] at h1'; cases h1'
 refine ⟨?_, le⟩
 exact
  {fzlt := H.fzlt
   blk := fun y c h => by
    rcases hblk y c h with ⟨e, e'⟩ | ⟨e, _, h⟩
    ·subst e; subst e'
     exact ⟨g, m, by simp [Gh.add], hfz, hbr.mono le rfl⟩
    ·obtain ⟨k, n, h1, h2, h3⟩ := H.blk y c h
     exact ⟨k, n, le.bm _ _ h1, h2, h3.mono le rfl⟩
   inj := fun y z hy hz k m₁ m₂ h1 h2 => by
    obtain ⟨c, hc⟩ := Option.ne_none_iff_exists'.1 hy
    obtain ⟨d, hd⟩ := Option.ne_none_iff_exists'.1 hz
    simp only [Gh.add] at h1 h2
    rcases hblk y c hc with ⟨e, _⟩ | ⟨e, ex, h⟩ <;> rcases hblk z d hd with ⟨e', _⟩ | ⟨e', ex', h'⟩
    ·rw [e, e']
    ·rw [if_pos e] at h1; rw [if_neg e'] at h2; cases h1
     exact absurd (H.inj z x (by rw [h']; simp) (by rw [hx]; simp) _ _ _ h2 hg) ex'
    ·rw [if_neg e] at h1; rw [if_pos e'] at h2; cases h2
     exact absurd (H.inj y x (by rw [h]; simp) (by rw [hx]; simp) _ _ _ h1 hg) ex
    ·rw [if_neg e] at h1; rw [if_neg e'] at h2
     exact H.inj y z (by rw [h]; simp) (by rw [h']; simp) k m₁ m₂ h1 h2
   next := fun y h => by
    have hy : σ.next + 1 ≤ y := h
    have := H.next y (by omega)
    refine ⟨?_, ?_⟩
    ·show (if y = σ.next then some b else if y = x then none else σ.blk y) = none
     rw [if_neg (by omega)]
     split
     ·rfl
     ·exact this.1
    ·simp only [Gh.add]
     rw [if_neg (by omega)]
     exact this.2
   lrel := fun t k ds ht => by
    obtain ⟨a0, q, a1, a2, a3⟩ := H.lrel t k ds ht
    exact ⟨a0, q, a1, a2, a3.mono le rfl⟩
   linj := H.linj
   ldis := fun s a q hq y c h n hn => by
    simp only [Gh.add] at hn
    rcases hblk y c h with ⟨e, _⟩ | ⟨e, _, h⟩
    ·rw [if_pos e] at hn; cases hn
     exact H.ldis s a _ hq x b hx m hg
    ·rw [if_neg e] at hn
     exact H.ldis s a q hq y c h n hn
   os := H.os
   tape := H.tape
   output := H.output
   size := H.size
   keep := H.keep
   fresh := fun y c h k n hk => by
    simp only [Gh.add] at hk
    rcases hblk y c h with ⟨e, _⟩ | ⟨e, _, h⟩
    ·rw [if_pos e] at hk; cases hk; exact H.fresh x b hx _ _ hg
    ·rw [if_neg e] at hk; exact H.fresh y c h k n hk
   lfresh := H.lfresh
   fzfresh := H.fzfresh
   fz0 := H.fz0
   bm0 := fun y p h => le.bm y p (H.bm0 y p h)
   bmlt := fun y k n h => by
    simp only [Gh.add] at h
    split at h
    ·cases h; exact H.bmlt x _ _ hg
    ·exact H.bmlt y k n h
   glob := fun q v h => by
    obtain ⟨h1, c, h2, h3⟩ := H.glob q v h
    exact ⟨h1, c, h2, h3⟩ }

/-- A box of the frame is immutable from here on. -/
theorem HI.freeze (H : HI Z w G lm loc σ) {s n g : Nat} {cs : List AV} (hl : loc.get s = some (n, cs)) (hg : lm s = some g) (loc' : Loc)
  (hlo : ∀ t e, loc'.get t = some e → t ≠ s ∧ loc.get t = some e) :
  HI Z w ⟨fun b => G.Fz b ∨ b = g, G.bm⟩ lm loc' σ ∧ Le w.heap w.heap G ⟨fun b => G.Fz b ∨ b = g, G.bm⟩ := by
 have le : Le w.heap w.heap G ⟨fun b => G.Fz b ∨ b = g, G.bm⟩ := ⟨fun _ h => .inl h, fun _ _ h => h, fun _ _ => rfl⟩
 have hsome : (loc.get s).isSome = true := by rw [hl]; rfl
 obtain ⟨h0, g', hg', hfz, hb⟩ := H.lrel s n cs hl
 rw [hg] at hg'; cases hg'
 have hs : ∀ t, (loc'.get t).isSome = true → t ≠ s ∧ (loc.get t).isSome = true := fun t ht => by
  obtain ⟨e, he⟩ := Option.isSome_iff_exists.1 ht
  obtain ⟨a, b⟩ := hlo t e he
  exact ⟨a, by rw [b]; rfl⟩
 refine ⟨?_, le⟩
 exact
  {fzlt := fun b h => by
    rcases h with h | h
    ·exact H.fzlt b h
    ·subst h; exact hb.lt
   blk := fun y c h => by
    obtain ⟨k, m, h1, h2, h3⟩ := H.blk y c h
    exact ⟨k, m, h1, fun h' => by
     rcases h' with h' | h'
     ·exact h2 h'
     ·subst h'; exact H.ldis s hsome _ hg y c h m h1, h3.mono le rfl⟩
   inj := H.inj
   next := H.next
   lrel := fun t k ds ht => by
    obtain ⟨ht1, ht2⟩ := hlo t _ ht
    obtain ⟨a0, q, a1, a2, a3⟩ := H.lrel t k ds ht2
    exact ⟨a0, q, a1, fun h' => by
     rcases h' with h' | h'
     ·exact a2 h'
     ·subst h'; exact ht1 (H.linj t s (by rw [ht2]; rfl) hsome _ a1 hg), a3.mono le rfl⟩
   linj := fun a b ha hb => H.linj a b (hs a ha).2 (hs b hb).2
   ldis := fun a ha => H.ldis a (hs a ha).2
   os := H.os
   tape := H.tape
   output := H.output
   size := H.size
   keep := H.keep
   fresh := H.fresh
   lfresh := fun a ha => H.lfresh a (hs a ha).2
   fzfresh := fun b h => by
    rcases h with h | h
    ·exact H.fzfresh b h
    ·subst h; right; left; exact H.lfresh s hsome _ hg
   fz0 := fun b h => .inl (H.fz0 b h)
   bm0 := H.bm0
   bmlt := H.bmlt
   glob := fun q v h => by
    obtain ⟨h1, c, h2, h3⟩ := H.glob q v h
    exact ⟨.inl h1, c, h2, h3.gmono (fun _ h => Or.inl h) (fun _ _ => rfl)⟩ }
end
end Go.Asm
/- The frame's relation, operands, and what one operation comes to. -/
namespace Go.Asm

def ERel (h : Array Obj) (G : Gh) (lm : Nat → Option Nat) : Ent → Value → Prop
 | .v a, c => VRel h G a c
 | .l s o, c => ∀ g, lm s = some g → c = .pointer (some ⟨g, o, none⟩)

theorem ERel.mono {h h' G G' lm lm'} (le : Le h h' G G') {e : Ent} {c : Value} (hl : ∀ s o, e = .l s o → lm' s = lm s) (r : ERel h G lm e c) : ERel h' G' lm' e c := by
 cases e with
 | v a => exact VRel.mono le r
 | l s o => intro g hg; rw [hl s o rfl] at hg; exact r g hg

theorem Env.get_nil (t : Nat) : Env.get [] t = .v .undef := rfl
theorem Env.get_cons (env : Env) (k t : Nat) (e : Ent) : Env.get ((k, e) :: env) t = if k = t then e else env.get t := by
 simp only [Env.get]
 by_cases h : k = t
 ·subst h; simp
 ·simp [beq_ne h, h]

theorem Env.get_purgeAt (env : Env) (s t : Nat) : (env.purgeAt s).get t = if (env.get t).at s = true then .v .undef else env.get t := by
 induction env with
 | nil => simp [Env.purgeAt, Env.get, Ent.at]
 | cons p r ih =>
  obtain ⟨k, e⟩ := p
  rw [Env.purgeAt, Env.get_cons, Env.get_cons, ih]
  by_cases h : k = t
  ·simp only [if_pos h]
   cases e.at s <;> simp
  ·simp only [if_neg h]

/-- What an entry of a filtered environment is: the old one, or unknown. -/
theorem Env.get_mem (env : Env) (t : Nat) : env.get t = .v .undef ∨ ∃ p ∈ env, p.1 = t ∧ p.2 = env.get t := by
 induction env with
 | nil => exact .inl rfl
 | cons p r ih =>
  obtain ⟨k, e⟩ := p
  rw [Env.get_cons]
  by_cases h : k = t
  ·right; exact ⟨(k, e), by simp, h, by simp [h]⟩
  ·rw [if_neg h]
   rcases ih with ih | ⟨p, hp, h1, h2⟩
   ·exact .inl ih
   ·exact .inr ⟨p, List.mem_cons_of_mem _ hp, h1, h2⟩

/-- The whole relation of a frame. -/
structure St (Z : Base) (N : Nat) (w : World) (G : Gh) (lm : Nat → Option Nat) (env : Env) (loc : Loc) (σ : Store) (a : Act) : Prop where
 hi : HI Z w G lm loc σ
 er : ∀ t, ERel w.heap G lm (env.get t) (a.tmps.getD t undef)
 df : a.defers = []
 nt : N ≤ a.tmps.size

theorem getD_put {a : Act} {d t : Nat} {v : Value} (hd : d < a.tmps.size) : (a.put (some d) v).tmps.getD t undef = if d = t then v else a.tmps.getD t undef := by
 simp only [Act.put, Array.getD_eq_getD_getElem?, Array.getElem?_setIfInBounds]
 by_cases h : d = t
 ·subst h; simp [hd]
 ·simp [h]
theorem put_none {a : Act} {v : Value} : a.put none v = a := rfl
theorem put_size {a : Act} {d : Option Nat} {v : Value} : (a.put d v).tmps.size = a.tmps.size := by cases d <;> simp [Act.put]
theorem put_defers {a : Act} {d : Option Nat} {v : Value} : (a.put d v).defers = a.defers := by cases d <;> rfl

/-- The rest of a frame's run, from whatever state the step leaves. -/
def Cont {ρ : Type} (Z : Base) (N : Nat) (k : Env → Loc → Store → Option ρ) (r : ρ) (G : Gh) (lm : Nat → Option Nat) (w : World) (a : Act) (W : List Nat) (K : Act → World → Prop) : Prop :=
 ∀ env' loc' σ' G' lm' w' a', k env' loc' σ' = some r → St Z N w' G' lm' env' loc' σ' a' → Le w.heap w'.heap G G' → (∀ s, s ∉ W → lm' s = lm s) →
  (∀ t, t ∉ W → a'.tmps.getD t undef = a.tmps.getD t undef) → K a' w'

section
variable {ρ : Type} {P : Program} {Z : Base} {N : Nat} {w w' : World} {G G' : Gh} {lm : Nat → Option Nat} {env : Env} {loc loc' : Loc} {σ σ' : Store} {a : Act}
 {k : Env → Loc → Store → Option ρ} {x : ρ} {K : Act → World → Prop} {Q : Exit → Act → World → Prop} {o : Oper}

theorem St.val (S : St Z N w G lm env loc σ a) {t : Nat} {v : AV} (h : env.get t = .v v) : VRel w.heap G v (a.tmps.getD t undef) := by
 have := S.er t; rw [h] at this; exact this

/-- A step that leaves a value: the frame's relation behind it. -/
theorem St.put (S : St Z N w G lm env loc σ a) (H' : HI Z w' G' lm loc' σ') (le : Le w.heap w'.heap G G') {d : Option Nat} (hd : ∀ t, d = some t → t < N) {e : Ent} {c : Value}
  (he : ERel w'.heap G' lm e c) : St Z N w' G' lm (put env d e) loc' σ' (a.put d c) := by
 refine ⟨H', fun t => ?_, by rw [put_defers]; exact S.df, by rw [put_size]; exact S.nt⟩
 cases d with
 | none => exact (S.er t).mono le (fun _ _ _ => rfl)
 | some d =>
  show ERel w'.heap G' lm (Env.get ((d, e) :: env) t) _
  rw [getD_put (Nat.lt_of_lt_of_le (hd d rfl) S.nt), Env.get_cons]
  by_cases h : d = t
  ·rw [if_pos h, if_pos h]; exact he
  ·rw [if_neg h, if_neg h]; exact (S.er t).mono le (fun _ _ _ => rfl)

theorem op_done (S : St Z N w G lm env loc σ a) (C : Cont Z N k x G lm w a o.dst.toList K) {c : Value}
  (hrun : (execOp a.eval o).run P w = .ok (.value c) w' ∨ ((execOp a.eval o).run P w = .ok .skip w' ∧ c = undef))
  (H' : HI Z w' G' lm loc' σ') (le : Le w.heap w'.heap G G') (hd : ∀ t, o.dst = some t → t < N) {e : Ent} (he : ERel w'.heap G' lm e c)
  (hk : k (put env o.dst e) loc' σ' = some x) : o.wp P a w K Q := by
 have hfin : K (a.put o.dst c) w' := by
  refine C _ _ _ _ _ _ _ hk (S.put H' le hd he) le (fun _ _ => rfl) (fun t ht => ?_)
  cases hdst : o.dst with
  | none => rfl
  | some d =>
   rw [hdst] at ht
   have hne : d ≠ t := fun e => ht (by simp [e])
   rw [getD_put (Nat.lt_of_lt_of_le (hd d hdst) S.nt), if_neg hne]
 unfold Oper.wp
 rcases hrun with h | ⟨h, hc⟩
 ·rw [h]; exact hfin
 ·rw [h]; subst hc; exact hfin
end

/-! ### constants and operands -/
def cvOk1 : Value → AV → Bool
 | .bool a, .bool b => a == b
 | .int k n, .int k' n' => decide (k = k') && decide (n = n')
 | .float .f64 b, .flt b' => b.beq b'
 | .string s, .str s' => decide (s = s')
 | .pointer none, .nilptr => true
 | .slice none 0 0, .nilslice => true
 | .map none, .nilmap => true
 | .nilFunc, .nilfunc => true
 | .nilIface, .niliface => true
 | _, _ => false
def cvOkL : List Value → List AV → Bool
 | [], [] => true
 | c :: cs, v :: vs => cvOk1 c v && cvOkL cs vs
 | _, _ => false
def cvOk : Value → AV → Bool
 | .agg cs, .agg vs => cvOkL cs.toList vs
 | .tuple cs, .tuple vs => cvOkL cs.toList vs
 | c, v => cvOk1 c v

theorem cvOk1_rel {h G} {c : Value} {v : AV} (e : cvOk1 c v = true) : VRel h G v c := by
 unfold cvOk1 at e
 split at e
 ·simp at e; subst e; exact .bool
 ·simp at e; obtain ⟨rfl, rfl⟩ := e; exact .int
 ·have e := Nat.eq_of_beq_eq_true e; subst e; exact .flt (.inl rfl)
 ·simp at e; subst e; exact .str
 ·exact .nilptr
 ·exact .nilslice
 ·exact .nilmap
 ·exact .nilfunc
 ·exact .niliface
 ·cases e
theorem cvOkL_rel {h G} {cs : List Value} {vs : List AV} (e : cvOkL cs vs = true) : VRels h G vs cs := by
 induction cs generalizing vs with
 | nil => cases vs with
  | nil => exact .nil
  | cons => simp [cvOkL] at e
 | cons c cs ih => cases vs with
  | nil => simp [cvOkL] at e
  | cons v vs => simp [cvOkL] at e; exact .cons (cvOk1_rel e.1) (ih e.2)
theorem cvOkL_ones {cs : List Value} {vs : List AV} (e : cvOkL cs vs = true) : Ones cs := by
 induction cs generalizing vs with
 | nil => intro c hc; cases hc
 | cons c cs ih => cases vs with
  | nil => simp [cvOkL] at e
  | cons v vs =>
   simp [cvOkL] at e
   intro d hd
   rcases List.mem_cons.1 hd with h | h
   ·subst h
    have e1 := e.1
    unfold cvOk1 at e1
    split at e1 <;> first | rfl | cases e1
   ·exact ih e.2 d h
theorem cvOk_rel {h G} {c : Value} {v : AV} (e : cvOk c v = true) : VRel h G v c := by
 unfold cvOk at e
 split at e
 ·exact (cvOkL_rel e).agg (cvOkL_ones e)
 ·exact (cvOkL_rel e).tuple
 ·exact cvOk1_rel e

def opdOk : Operand → Opd → Bool
 | .tmp t, .t u => t.beq u
 | .const c, .c v => cvOk c v
 | .global g, .c (.gptr g') => g.beq g'
 | .func f, .c (.func f' [] []) => f.beq f'
 | _, _ => false
def opdsOk : List Operand → List Opd → Bool
 | [], [] => true
 | o :: os, x :: xs => opdOk o x && opdsOk os xs
 | _, _ => false

section
variable {ρ : Type} {P : Program} {Z : Base} {N : Nat} {w : World} {G : Gh} {lm : Nat → Option Nat} {env : Env} {loc : Loc} {σ : Store} {a : Act}

theorem ent_rel (S : St Z N w G lm env loc σ a) {o : Operand} {x : Opd} (h : opdOk o x = true) : ERel w.heap G lm (ent env x) (a.eval o) := by
 unfold opdOk at h
 split at h
 ·have := Nat.eq_of_beq_eq_true h; subst this; exact S.er _
 ·exact cvOk_rel h
 ·have := Nat.eq_of_beq_eq_true h; subst this; exact VRel.gptr
 ·have := Nat.eq_of_beq_eq_true h; subst this
  exact VRel.func rfl rfl (fun i v c h => by simp at h) (fun i v c h => by simp at h)
 ·cases h

theorem val_some {env : Env} {x : Opd} {k : AV → Option ρ} {r : ρ} (h : val env x k = some r) : ∃ v, ent env x = .v v ∧ k v = some r := by
 unfold val at h
 cases e : ent env x with
 | v v => rw [e] at h; exact ⟨v, rfl, h⟩
 | l s o => rw [e] at h; cases h
theorem val_rel (S : St Z N w G lm env loc σ a) {o : Operand} {x : Opd} (h : opdOk o x = true) {v : AV} (e : ent env x = .v v) : VRel w.heap G v (a.eval o) := by
 have := ent_rel S h; rw [e] at this; exact this
theorem vals_some (S : St Z N w G lm env loc σ a) : ∀ {os : List Operand} {xs : List Opd} {k : List AV → Option ρ} {r : ρ}, opdsOk os xs = true → vals env xs k = some r →
  ∃ vs, VRels w.heap G vs (os.map a.eval) ∧ k vs = some r
 | [], [], k, r, _, h => ⟨[], .nil, h⟩
 | o :: os, x :: xs, k, r, ho, h => by
  simp [opdsOk] at ho
  obtain ⟨v, hv, h⟩ := val_some h
  obtain ⟨vs, hvs, h⟩ := vals_some S ho.2 h
  exact ⟨v :: vs, .cons (val_rel S ho.1 hv) hvs, h⟩
 | [], _ :: _, _, _, ho, _ => by simp [opdsOk] at ho
 | _ :: _, [], _, _, ho, _ => by simp [opdsOk] at ho
theorem bind_some {α β : Type} {x : Option α} {f : α → Option β} {r : β} (h : x.bind f = some r) : ∃ v, x = some v ∧ f v = some r := by
 cases x with
 | none => cases h
 | some v => exact ⟨v, rfl, h⟩
theorem aCase_some {x : AV} {t f : Option ρ} {r : ρ} (h : aCase x t f = some r) : (x = .bool true ∧ t = some r) ∨ (x = .bool false ∧ f = some r) := by
 unfold aCase at h
 split at h
 ·exact .inl ⟨rfl, h⟩
 ·exact .inr ⟨rfl, h⟩
 ·cases h
theorem VRel.bool_inv {h G b c} (r : VRel h G (.bool b) c) : c = .bool b := by cases r; rfl
theorem VRel.int_inv {h G k n c} (r : VRel h G (.int k n) c) : c = .int k n := by cases r; rfl
theorem VRel.str_inv {h G s c} (r : VRel h G (.str s) c) : c = .string s := by cases r; rfl
theorem VRel.flt_inv {h G b c} (r : VRel h G (.flt b) c) : ∃ b', c = .float .f64 b' ∧ nanEq b b' := by cases r; exact ⟨_, rfl, by assumption⟩
end

/-! ### types -/
def tyOk (P : Program) (t : Nat) (agg : Bool) (n : Nat) : Bool :=
 (match P.underlying t with
  | some (.struct _) | some (.array _ _) => agg
  | some _ => !agg
  | none => false) &&
 (match P.info? t with
  | some i => i.size.beq n
  | none => false) && (agg || n.beq 1)
def szOk (P : Program) (t n : Nat) : Bool :=
 match P.info? t with
 | some i => i.size.beq n
 | none => false
theorem run_sizeOf {P : Program} {t n : Nat} (h : szOk P t n = true) (w : World) : (sizeOf t).run P w = .ok n w := by
 unfold szOk at h
 split at h
 ·rename_i i hi
  have := Nat.eq_of_beq_eq_true h
  simp [sizeOf, typeInfo, hi, this]
 ·cases h
theorem tyOk_sz {P : Program} {t n : Nat} {agg : Bool} (h : tyOk P t agg n = true) : szOk P t n = true := by
 simp only [tyOk, Bae] at h; exact h.1.2
theorem tyOk_one {P : Program} {t n : Nat} (h : tyOk P t false n = true) : n = 1 := by
 simp only [tyOk, Bae, Bool.false_or] at h; exact Nat.eq_of_beq_eq_true h.2
theorem run_isAgg {P : Program} {t n : Nat} {agg : Bool} (h : tyOk P t agg n = true) (w : World) : (isAgg t).run P w = .ok agg w := by
 simp only [tyOk, Bae] at h
 have h := h.1.1
 unfold isAgg
 cases hd : P.underlying t with
 | none => simp [hd] at h
 | some d =>
  simp only [hd] at h
  cases d <;> simp_all [run_underlying hd]
end Go.Asm
/- What each operation comes to: first part. -/
namespace Go.Asm

theorem one_some {v u : AV} (h : one v = some u) : u = v ∧ v.cells = [v] ∧ v ≠ .undef := by
 unfold one at h
 split at h
 ·cases h
 ·cases h
 ·cases h
 ·rename_i h1 h2 h3
  cases h
  refine ⟨rfl, ?_, h3⟩
  cases v <;> simp_all [AV.cells]

theorem cellsK_some {ρ : Type} {agg : Bool} {n : Nat} {v : AV} {k : List AV → Option ρ} {r : ρ} (h : cellsK agg n v k = some r) (hn : agg = false → n = 1) (hpos : 0 < n) :
  ∃ cs, k cs = some r ∧ cs.length = n ∧ ∀ {hp G c}, VRel hp G v c → VRels hp G cs c.cells.toList ∧ Ones c.cells.toList := by
 unfold cellsK at h
 cases agg with
 | true =>
  obtain ⟨cs, h1, h2⟩ := bind_some h
  unfold asplit at h1
  split at h1
  ·rename_i hl
   cases h1
   refine ⟨_, h2, hl, fun r => r.cells_rel fun e => ?_⟩
   rw [e] at hl; simp at hl; omega
  ·cases h1
 | false =>
  obtain ⟨u, h1, h2⟩ := bind_some h
  obtain ⟨rfl, hc, hu⟩ := one_some h1
  refine ⟨_, h2, by rw [hn rfl]; rfl, fun r => ?_⟩
  have := r.cells_rel (by rw [hc]; simp)
  rwa [hc] at this

theorem VRels.at_ {h G vs cs} (r : VRels h G vs cs) : ∀ (i : Nat) (v : AV), vs[i]? = some v → ∃ c : Value, cs[i]? = some c ∧ VRel h G v c := fun _ _ hv => r.get hv
theorem VRels.arr {h G vs} {arr : Array Value} (r : VRels h G vs arr.toList) : ∀ (i : Nat) (v : AV), vs[i]? = some v → ∃ c : Value, arr[i]? = some c ∧ VRel h G v c := fun i v hv => by
 obtain ⟨c, a, b⟩ := r.get hv
 exact ⟨c, by simpa using a, b⟩

/-- A block of related cells. -/
theorem BRel.get {h G cs g m} (r : BRel h G (.cells cs) g m) : ∃ arr elem, h[g]? = some (.cells arr elem (0, 0)) ∧ arr.size = m ∧ cs.length ≤ m ∧ Ones arr.toList ∧ ∀ (i : Nat) (v : AV), cs[i]? = some v → ∃ c : Value, arr[i]? = some c ∧ VRel h G v c := r

theorem cellOf_mk {h : Array Obj} {g o : Nat} {arr : Array Value} {elem fr} (e : h[g]? = some (.cells arr elem fr)) : cellOf h ⟨g, o, none⟩ = arr[o]? := by
 simp [cellOf, e]

section
variable {ρ : Type} {P : Program} {Z : Base} {N : Nat} {w : World} {G : Gh} {lm : Nat → Option Nat} {env : Env} {loc : Loc} {σ : Store} {a : Act}
 {k : Env → Loc → Store → Option ρ} {x : ρ} {K : Act → World → Prop} {Q : Exit → Act → World → Prop} {o : Oper} {D : Ctx}

/-- A step that only computes. -/
theorem op_val (S : St Z N w G lm env loc σ a) (C : Cont Z N k x G lm w a o.dst.toList K) (hd : ∀ t, o.dst = some t → t < N) {c : Value} {e : Ent}
  (hrun : (execOp a.eval o).run P w = .ok (.value c) w) (he : ERel w.heap G lm e c) (hk : k (put env o.dst e) loc σ = some x) : o.wp P a w K Q :=
 op_done S C (.inl hrun) S.hi (Le.refl _ _) hd he hk
/-- The same, after answers drawn from the tape. -/
theorem op_val' (S : St Z N w G lm env loc σ a) (C : Cont Z N k x G lm w a o.dst.toList K) (hd : ∀ t, o.dst = some t → t < N) {c : Value} {e : Ent} {w' : World}
  (hrun : (execOp a.eval o).run P w = .ok (.value c) w') (hw : w'.heap = w.heap ∧ w'.os = w.os ∧ w'.tape = w.tape ∧ w'.output = w.output)
  (he : ERel w.heap G lm e c) (hk : k (put env o.dst e) loc σ = some x) : o.wp P a w K Q :=
 op_done S C (.inl hrun) (S.hi.draw w' hw.1 hw.2.1 hw.2.2.1 hw.2.2.2) (by rw [hw.1]; exact Le.refl _ _) hd (by rw [hw.1]; exact he) hk

theorem sound_mv (S : St Z N w G lm env loc σ a) (C : Cont Z N k x G lm w a o.dst.toList K) (hd : ∀ t, o.dst = some t → t < N) {y : Operand} {x0 : Opd}
  (ho : o.op = .move y ∨ o.op = .assign y) (hy : opdOk y x0 = true) (h : opK D o.dst (.mv x0) env loc σ k = some x) : o.wp P a w K Q := by
 refine op_val S C hd (c := a.eval y) ?_ (ent_rel S hy) h
 rcases ho with e | e <;> simp [execOp, e]

theorem run_pick {c y z : Operand} {b : Bool} (ho : o.op = .pick c y z) (hc : a.eval c = .bool b) : (execOp a.eval o).run P w = .ok (.value (if b then a.eval y else a.eval z)) w := by
 simp [execOp, ho, hc, asBool]

theorem sound_pick (S : St Z N w G lm env loc σ a) (C : Cont Z N k x G lm w a o.dst.toList K) (hd : ∀ t, o.dst = some t → t < N) {c y z : Operand} {c0 y0 z0 : Opd}
  (ho : o.op = .pick c y z) (hc : opdOk c c0 = true) (hy : opdOk y y0 = true) (hz : opdOk z z0 = true) (h : opK D o.dst (.pick c0 y0 z0) env loc σ k = some x) : o.wp P a w K Q := by
 obtain ⟨v, hv, h⟩ := val_some h
 have hr := val_rel S hc hv
 rcases aCase_some h with ⟨rfl, h⟩ | ⟨rfl, h⟩
 ·exact op_val S C hd (run_pick ho hr.bool_inv) (ent_rel S hy) h
 ·exact op_val S C hd (run_pick ho hr.bool_inv) (ent_rel S hz) h

theorem sound_pickv (S : St Z N w G lm env loc σ a) (C : Cont Z N k x G lm w a o.dst.toList K) (hd : ∀ t, o.dst = some t → t < N) {c y z : Operand} {c0 y0 z0 : Opd}
  (ho : o.op = .pick c y z) (hc : opdOk c c0 = true) (hy : opdOk y y0 = true) (hz : opdOk z z0 = true) (h : opK D o.dst (.pickv c0 y0 z0) env loc σ k = some x) : o.wp P a w K Q := by
 obtain ⟨v, hv, h⟩ := val_some h
 obtain ⟨v1, hv1, h⟩ := val_some h
 obtain ⟨v2, hv2, h⟩ := val_some h
 obtain ⟨u, hu, h⟩ := bind_some h
 have hr := val_rel S hc hv
 unfold pickV at hu
 split at hu
 ·cases hu; exact op_val (e := .v v1) S C hd (run_pick ho hr.bool_inv) (val_rel S hy hv1) h
 ·cases hu; exact op_val (e := .v v2) S C hd (run_pick ho hr.bool_inv) (val_rel S hz hv2) h
 ·cases hu

/-! #### new boxes -/
def zeroOk (P : Program) (t : Nat) (zero : List AV) : Bool :=
 match P.info? t with
 | some i => match i.zero with
  | some z => cvOkL z.cells.toList zero
  | none => false
 | none => false
theorem zero_run {t : Nat} {zero : List AV} (h : zeroOk P t zero = true) : ∃ z : Value, (∀ w : World, (zeroValue t).run P w = .ok z w) ∧ Ones z.cells.toList ∧ ∀ hp G, VRels hp G zero z.cells.toList := by
 unfold zeroOk at h
 cases hi : P.info? t with
 | none => simp [hi] at h
 | some i =>
  simp only [hi] at h
  cases hz : i.zero with
  | none => simp [hz] at h
  | some z =>
   simp only [hz] at h
   exact ⟨z, fun w => by simp [zeroValue, typeInfo, hi, hz], cvOkL_ones h, fun hp G => cvOkL_rel h⟩

theorem run_newVar (t : Nat) (v : Value) : (newVar t v).run P w = .ok ⟨w.heap.size, 0, none⟩ (w.alloc (.cells v.cells t)) := by
 simp only [newVar, newRow, Sem.run_bind, run_newObj, Result.andThen_ok, Sem.run_pure]
 rfl

theorem run_alloc {t : Nat} {z : Value} (ho : o.op = .alloc t) (hz : ∀ w : World, (zeroValue t).run P w = .ok z w) :
  (execOp a.eval o).run P w = .ok (.value (.pointer (some ⟨w.heap.size, 0, none⟩))) (w.alloc (.cells z.cells t)) := by
 simp [execOp, ho, Instr.alloc, hz, run_newVar]
theorem run_box {t : Nat} {y : Operand} (ho : o.op = .box t y) :
  (execOp a.eval o).run P w = .ok (.value (.pointer (some ⟨w.heap.size, 0, none⟩))) (w.alloc (.cells (a.eval y).cells t)) := by
 simp [execOp, ho, Instr.box, run_newVar]

/-- A new box of the frame's own. -/
theorem op_local (S : St Z N w G lm env loc σ a) {s : Nat} (C : Cont Z N k x G lm w a [s] K) (hds : o.dst = some s) (hs : s < N) {cs : List AV} {n : Nat} {arr : Array Value} {t : Nat}
  (hrun : (execOp a.eval o).run P w = .ok (.value (.pointer (some ⟨w.heap.size, 0, none⟩))) (w.alloc (.cells arr t)))
  (hl : loc.get s = none) (hr : VRels w.heap G cs arr.toList) (hone : Ones arr.toList) (hn : cs.length = n)
  (hk : k ((s, .l s 0) :: env.purgeAt s) ((s, n, cs) :: loc) σ = some x) : o.wp P a w K Q := by
 have hsz : arr.size = n := by have := hr.1; simp at this; omega
 obtain ⟨H', le⟩ := S.hi.lalloc (elem := t) hl hsz hn hone hr.arr
 have hfin : K (a.put (some s) (.pointer (some ⟨w.heap.size, 0, none⟩))) (w.alloc (.cells arr t)) := by
  refine C _ _ _ _ _ _ _ hk ⟨H', fun u => ?_, by rw [put_defers]; exact S.df, by rw [put_size]; exact S.nt⟩ le (fun u hu => ?_) (fun u hu => ?_)
  ·rw [getD_put (Nat.lt_of_lt_of_le hs S.nt), Env.get_cons]
   by_cases e : s = u
   ·rw [if_pos e, if_pos e]
    intro g hg; simp only [if_true] at hg; cases hg; rfl
   ·rw [if_neg e, if_neg e, Env.get_purgeAt]
    split
    ·exact VRel.undef
    ·rename_i hne
     refine (S.er u).mono le (fun s' o' he => ?_)
     show (if s' = s then _ else _) = _
     rw [if_neg]
     intro e'; subst e'; rw [he] at hne; simp [Ent.at] at hne
  ·have hu : u ≠ s := fun e => hu (by simp [e])
   show (if u = s then _ else _) = _
   rw [if_neg hu]
  ·have hu : s ≠ u := fun e => hu (by simp [e])
   rw [getD_put (Nat.lt_of_lt_of_le hs S.nt), if_neg hu]
 unfold Oper.wp
 rw [hrun]
 show K (a.put o.dst _) _
 rw [hds]; exact hfin

theorem sound_zalloc (S : St Z N w G lm env loc σ a) (C : Cont Z N k x G lm w a o.dst.toList K) (hd : ∀ t, o.dst = some t → t < N) {t : Nat} {zero : List AV}
  (ho : o.op = .alloc t) (hz : zeroOk P t zero = true) (h : opK D o.dst (.zalloc zero) env loc σ k = some x) : o.wp P a w K Q := by
 obtain ⟨z, hz1, hz3, hz2⟩ := zero_run hz
 cases hds : o.dst with
 | none => rw [hds] at h; simp [opK] at h
 | some s =>
  rw [hds] at h C
  simp only [opK] at h
  split at h
  ·rename_i hl
   exact op_local S C hds (hd s hds) (run_alloc ho hz1) hl (hz2 _ _) hz3 rfl h
  ·cases h

theorem sound_lbox (S : St Z N w G lm env loc σ a) (C : Cont Z N k x G lm w a o.dst.toList K) (hd : ∀ t, o.dst = some t → t < N) {t n : Nat} {agg : Bool} {y : Operand} {y0 : Opd}
  (ho : o.op = .box t y) (hy : opdOk y y0 = true) (hn : agg = false → n = 1) (hp : 0 < n) (h : opK D o.dst (.lbox agg n y0) env loc σ k = some x) : o.wp P a w K Q := by
 cases hds : o.dst with
 | none => rw [hds] at h; simp [opK] at h
 | some s =>
  rw [hds] at h C
  simp only [opK] at h
  split at h
  ·rename_i hl
   obtain ⟨v, hv, h⟩ := val_some h
   obtain ⟨cs, h, hlen, hr⟩ := cellsK_some h hn hp
   exact op_local S C hds (hd s hds) (run_box ho) hl (hr (val_rel S hy hv)).1 (hr (val_rel S hy hv)).2 hlen h
  ·cases h

/-- A new block of the store. -/
theorem op_heap (S : St Z N w G lm env loc σ a) (C : Cont Z N k x G lm w a o.dst.toList K) (hd : ∀ t, o.dst = some t → t < N) {cs : List AV} {arr : Array Value} {t : Nat} {c : Value} {e : AV}
  (hrun : (execOp a.eval o).run P w = .ok (.value c) (w.alloc (.cells arr t))) (hr : VRels w.heap G cs arr.toList) (hone : Ones arr.toList)
  (he : VRel (w.alloc (.cells arr t)).heap (G.add σ.next (w.heap.size, arr.size)) e c)
  (hk : k (put env o.dst (.v e)) loc (σ.add (.cells cs)) = some x) : o.wp P a w K Q := by
 have hlen : cs.length = arr.size := by have := hr.1; simpa using this
 obtain ⟨H', le⟩ := S.hi.halloc (o := .cells arr t) (b := .cells cs) (m := arr.size) (fun le => by
  refine ⟨arr, t, get_push_new, rfl, by omega, hone, fun i v hi => ?_⟩
  obtain ⟨c, h1, h2⟩ := hr.arr i v hi
  exact ⟨c, h1, h2.mono le⟩)
 exact op_done (e := .v e) S C (.inl hrun) H' le hd he hk

theorem new_hptr {arr : Array Value} {t m : Nat} : VRel (w.alloc (.cells arr t)).heap (G.add σ.next (w.heap.size, m)) (.hptr σ.next 0) (.pointer (some ⟨w.heap.size, 0, none⟩)) :=
 .hptr (m := m) (by simp [Gh.add])

theorem sound_halloc (S : St Z N w G lm env loc σ a) (C : Cont Z N k x G lm w a o.dst.toList K) (hd : ∀ t, o.dst = some t → t < N) {t : Nat} {zero : List AV}
  (ho : o.op = .alloc t) (hz : zeroOk P t zero = true) (h : opK D o.dst (.halloc zero) env loc σ k = some x) : o.wp P a w K Q := by
 obtain ⟨z, hz1, hz3, hz2⟩ := zero_run hz
 exact op_heap S C hd (run_alloc ho hz1) (hz2 _ _) hz3 new_hptr h

theorem sound_hbox (S : St Z N w G lm env loc σ a) (C : Cont Z N k x G lm w a o.dst.toList K) (hd : ∀ t, o.dst = some t → t < N) {t n : Nat} {agg : Bool} {y : Operand} {y0 : Opd}
  (ho : o.op = .box t y) (hy : opdOk y y0 = true) (hn : agg = false → n = 1) (hp : 0 < n) (h : opK D o.dst (.hbox agg n y0) env loc σ k = some x) : o.wp P a w K Q := by
 obtain ⟨v, hv, h⟩ := val_some h
 obtain ⟨cs, h, _, hr⟩ := cellsK_some h hn hp
 exact op_heap S C hd (run_box ho) (hr (val_rel S hy hv)).1 (hr (val_rel S hy hv)).2 new_hptr h

/-- The cells of a new immutable block. -/
theorem new_pptr {cs : List AV} {arr : Array Value} {t : Nat} (hr : VRels w.heap G cs arr.toList) (hone : Ones arr.toList)
  (le : Le w.heap (w.alloc (.cells arr t)).heap G ⟨fun g => G.Fz g ∨ g = w.heap.size, G.bm⟩) :
  VRel (w.alloc (.cells arr t)).heap ⟨fun g => G.Fz g ∨ g = w.heap.size, G.bm⟩ (.pptr cs 0) (.pointer (some ⟨w.heap.size, 0, none⟩)) := by
 refine .pptr _ (fun j => arr.toList.getD j undef) (.inr rfl) (fun j v hj => ?_) (fun j v hj => ?_)
 ·obtain ⟨c, h1, _⟩ := hr.get (i := j) (v := v) (by simpa using hj)
  rw [add_mk, cellOf_mk (show (w.alloc (.cells arr t)).heap[w.heap.size]? = some (.cells arr t) from get_push_new)]
  simp only [Nat.zero_add]
  rw [← Array.getElem?_toList, h1, List.getD_eq_getElem?_getD, h1]; exact ⟨rfl, hone.get h1⟩
 ·obtain ⟨c, h1, h2⟩ := hr.get (i := j) (v := v) (by simpa using hj)
  rw [List.getD_eq_getElem?_getD, h1]
  exact h2.mono le

theorem sound_pbox (S : St Z N w G lm env loc σ a) (C : Cont Z N k x G lm w a o.dst.toList K) (hd : ∀ t, o.dst = some t → t < N) {t : Nat} {y : Operand} {y0 : Opd}
  (ho : o.op = .box t y) (hy : opdOk y y0 = true) (h : opK D o.dst (.pbox y0) env loc σ k = some x) : o.wp P a w K Q := by
 obtain ⟨v, hv, h⟩ := val_some h
 have hr := val_rel S hy hv
 obtain ⟨H', le⟩ := S.hi.garbage (.cells (a.eval y).cells t)
 refine op_done S C (.inl (run_box ho)) H' le hd (e := .v (.pptr v.cells 0)) ?_ h
 by_cases hu : v.cells = []
 ·rw [hu]
  exact .pptr _ (fun _ => undef) (.inr rfl) (fun j v hj => by simp at hj) (fun j v hj => by simp at hj)
 ·exact new_pptr (hr.cells_rel hu).1 (hr.cells_rel hu).2 le

/-! #### reading -/
theorem run_load1 {t : Nat} {y : Operand} {ad : Addr} {c : Value} (ho : o.op = .load t y) (ht : tyOk P t false 1 = true) (hy : a.eval y = .pointer (some ad)) (hc : cellOf w.heap ad = some c) :
  (execOp a.eval o).run P w = .ok (.value c) w := by
 have hc' : w.cell? ad = some c := hc
 simp [execOp, ho, Instr.loadAt, Instr.sureAddr, hy, loadVar, run_isAgg ht, hc']
theorem run_loadN {t n : Nat} {y : Operand} {ad : Addr} {cs : List Value} (ho : o.op = .load t y) (ht : tyOk P t true n = true) (hy : a.eval y = .pointer (some ad)) (hn : cs.length = n)
  (hc : ∀ (j : Nat) v, cs[j]? = some v → cellOf w.heap (ad.add j) = some v) : (execOp a.eval o).run P w = .ok (.value (.agg ⟨cs⟩)) w := by
 have hl := run_loadCells_list (P := P) w ad cs hc
 rw [hn] at hl
 simp [execOp, ho, Instr.loadAt, Instr.sureAddr, hy, loadVar, run_isAgg ht, run_sizeOf (tyOk_sz ht), hl]

/-- The cells at an offset of a related block. -/
theorem block_cells {h : Array Obj} {cs : List AV} {g m : Nat} (hb : BRel h G (.cells cs) g m) {off n : Nat} (hn : off + n ≤ cs.length) :
  ∃ l : List Value, l.length = n ∧ (∀ (j : Nat) v, l[j]? = some v → cellOf h (Addr.add ⟨g, off, none⟩ j) = some v) ∧ VRels h G ((cs.drop off).take n) l ∧ Ones l := by
 obtain ⟨arr, elem, h1, h2, h3, h3', h4⟩ := hb
 have hl : ((arr.toList.drop off).take n).length = n := by simp; omega
 refine ⟨(arr.toList.drop off).take n, hl, fun j v hj => ?_, ⟨?_, fun i v c hv hc => ?_⟩, (h3'.drop _).take _⟩
 ·rw [add_mk, cellOf_mk h1]
  rw [List.getElem?_take] at hj
  split at hj
  ·rw [List.getElem?_drop] at hj; simpa using hj
  ·cases hj
 ·simp; omega
 ·rw [List.getElem?_take] at hv hc
  split at hv
  ·rename_i hi
   rw [if_pos hi] at hc
   rw [List.getElem?_drop] at hv hc
   obtain ⟨c', a1, a2⟩ := h4 _ _ hv
   simp at hc; rw [hc] at a1; cases a1; exact a2
  ·cases hv
theorem row_cells {h : Array Obj} {row : List AV} {o n : Nat} {ad : Addr} {f : Nat → Value} (hc : ∀ (j : Nat) v, row[o + j]? = some v → cellOf h (ad.add j) = some (f j) ∧ (f j).oneCell' = true)
  (hv : ∀ (j : Nat) v, row[o + j]? = some v → VRel h G v (f j)) (hn : o + n ≤ row.length) :
  ∃ l : List Value, l.length = n ∧ (∀ (j : Nat) v, l[j]? = some v → cellOf h (ad.add j) = some v) ∧ VRels h G ((row.drop o).take n) l ∧ Ones l := by
 have key : ∀ j, j < n → ∃ v, row[o + j]? = some v := fun j hj => ⟨row[o + j]'(by omega), Lge (by omega)⟩
 refine ⟨(List.range n).map f, by simp, fun j v hj => ?_, ⟨by simp; omega, fun i v c h1 h2 => ?_⟩, fun c hm => ?_⟩
 ·have hjn : j < n := by
   by_cases hjn : j < n
   ·exact hjn
   ·rw [List.getElem?_eq_none (by simp; omega)] at hj; cases hj
  simp only [List.getElem?_map, List.getElem?_range hjn, Option.map_some, Option.some.injEq] at hj
  obtain ⟨u, hu⟩ := key j hjn
  rw [(hc j u hu).1, hj]
 ·have hi : i < n := by
   by_cases hin : i < n
   ·exact hin
   ·rw [List.getElem?_eq_none (by simp; omega)] at h1; cases h1
  rw [List.getElem?_take, if_pos hi, List.getElem?_drop] at h1
  simp only [List.getElem?_map, List.getElem?_range hi, Option.map_some, Option.some.injEq] at h2
  subst h2
  exact hv i v h1
 ·obtain ⟨j, hj, rfl⟩ := List.mem_map.1 hm
  obtain ⟨u, hu⟩ := key j (by simpa using hj)
  exact (hc j u hu).2

theorem rdN_some (H : HI Z w G lm loc σ) {n : Nat} {p : AV} {cs : List AV} (hr : rdN n p σ = some cs) {c : Value} (hp : VRel w.heap G p c) :
  ∃ (ad : Addr) (l : List Value), c = .pointer (some ad) ∧ l.length = n ∧ (∀ (j : Nat) v, l[j]? = some v → cellOf w.heap (ad.add j) = some v) ∧ VRels w.heap G cs l ∧ Ones l := by
 unfold rdN at hr
 split at hr
 ·split at hr
  ·cases hr
   cases hp with
   | pptr ad f hf hc hv =>
    obtain ⟨l, h1, h2, h3⟩ := row_cells hc hv (by assumption)
    exact ⟨ad, l, rfl, h1, h2, h3⟩
  ·cases hr
 ·split at hr
  ·rename_i hx
   split at hr
   ·cases hr
    cases hp with
    | hptr e =>
     obtain ⟨g, m, h1, h2, h3⟩ := H.blk _ _ hx
     rw [e] at h1; cases h1
     obtain ⟨l, a1, a2, a3, a4⟩ := block_cells h3 (by assumption)
     exact ⟨_, l, rfl, a1, a2, a3, a4⟩
   ·cases hr
  ·cases hr
 ·cases hr

theorem rd1_some (H : HI Z w G lm loc σ) (hG : D.G = Z.Gl) {p v : AV} (hr : rd1 D.G p σ = some v) {c : Value} (hp : VRel w.heap G p c) :
  ∃ (ad : Addr) (u : Value), c = .pointer (some ad) ∧ cellOf w.heap ad = some u ∧ VRel w.heap G v u := by
 unfold rd1 at hr
 split at hr
 ·cases hp with
  | pptr ad f hf hc hv => exact ⟨ad, f 0, rfl, by simpa [add_zero] using (hc 0 v (by simpa using hr)).1, hv 0 v (by simpa using hr)⟩
 ·split at hr
  ·rename_i hx
   cases hp with
   | hptr e =>
    obtain ⟨g, m, h1, h2, h3⟩ := H.blk _ _ hx
    rw [e] at h1; cases h1
    obtain ⟨arr, elem, b1, b2, b3, b3', b4⟩ := h3
    obtain ⟨u, c1, c2⟩ := b4 _ _ hr
    exact ⟨_, u, rfl, by rw [cellOf_mk b1]; exact c1, c2⟩
  ·cases hr
 ·cases hp with
  | gptr =>
   rw [hG] at hr
   obtain ⟨h1, u, h2, h3⟩ := H.glob _ _ hr
   exact ⟨_, u, rfl, h2, VRel.mono (G := ⟨G.Fz, fun _ => none⟩) (G' := G) ⟨fun _ h => h, (fun _ _ h => (by cases h)), fun _ _ => rfl⟩ h3⟩
 ·cases hr

theorem sound_load (S : St Z N w G lm env loc σ a) (C : Cont Z N k x G lm w a o.dst.toList K) (hd : ∀ t, o.dst = some t → t < N) (hG : D.G = Z.Gl) {t n : Nat} {agg : Bool} {y : Operand} {y0 : Opd}
  (ho : o.op = .load t y) (ht : tyOk P t agg n = true) (hy : opdOk y y0 = true) (h : opK D o.dst (.load agg n y0) env loc σ k = some x) : o.wp P a w K Q := by
 have her := ent_rel S hy
 simp only [opK] at h
 split at h
 ·rename_i s off he
  rw [he] at her
  split at h
  ·rename_i m cs hl
   obtain ⟨h0, g, hg, hf, hb⟩ := S.hi.lrel s m cs hl
   have hc := her g hg
   cases agg with
   | true =>
    simp only [cond_true] at h
    cases hb1 : (off.beq 0 && n.beq m) with
    | true =>
     rw [hb1] at h
     simp only [Bae] at hb1
     have e1 := Nat.eq_of_beq_eq_true hb1.1
     have e2 := Nat.eq_of_beq_eq_true hb1.2
     subst e1; subst e2
     obtain ⟨l, a1, a2, a3, a4⟩ := block_cells hb (off := 0) (n := n) (by omega)
     rw [List.drop_zero, List.take_of_length_le (by omega)] at a3
     exact op_val (e := .v (.agg cs)) S C hd (run_loadN ho ht hc a1 a2) (a3.agg a4) h
    | false =>
     rw [hb1] at h
     simp only [cond_false] at h
     cases hb2 : (off + n).ble m with
     | true =>
      rw [hb2] at h
      have hle := Nat.le_of_ble_eq_true hb2
      obtain ⟨l, a1, a2, a3, a4⟩ := block_cells hb (off := off) (n := n) (by omega)
      exact op_val (e := .v (.agg _)) S C hd (run_loadN ho ht hc a1 a2) (a3.agg a4) h
     | false => rw [hb2] at h; cases h
   | false =>
    simp only [cond_false] at h
    obtain ⟨v, hv, h⟩ := bind_some h
    obtain ⟨arr, elem, b1, b2, b3, b3', b4⟩ := hb
    obtain ⟨u, c1, c2⟩ := b4 _ _ hv
    have := tyOk_one ht
    subst this
    exact op_val (e := .v v) S C hd (run_load1 ho ht hc (by rw [cellOf_mk b1]; exact c1)) c2 h
  ·cases h
 ·rename_i p he
  rw [he] at her
  cases agg with
  | true =>
   simp only [cond_true] at h
   obtain ⟨cs, hcs, h⟩ := bind_some h
   obtain ⟨ad, l, e1, e2, e3, e4, e5⟩ := rdN_some S.hi hcs her
   exact op_val (e := .v (.agg cs)) S C hd (run_loadN ho ht e1 e2 e3) (e4.agg e5) h
  | false =>
   simp only [cond_false] at h
   obtain ⟨v, hv, h⟩ := bind_some h
   obtain ⟨ad, u, e1, e2, e3⟩ := rd1_some S.hi hG hv her
   have := tyOk_one ht
   subst this
   exact op_val (e := .v v) S C hd (run_load1 ho ht e1 e2) e3 h
end
end Go.Asm
/- What each operation comes to: second part. -/
namespace Go.Asm

theorem VRel.one_cell {h G v c} (r : VRel h G v c) (hv : v.cells = [v]) : c.oneCell' = true ∧ c.cells = #[c] := by
 cases r <;> first | exact ⟨rfl, rfl⟩ | (simp [AV.cells] at hv; done) | (simp only [AV.cells] at hv; have := congrArg (fun l : List AV => SizeOf.sizeOf l) hv; simp at this; omega)

/-! #### stores -/
theorem setL_length (cs : List AV) (off : Nat) (vs : List AV) : (setL cs off vs).length = cs.length := by
 induction vs generalizing cs off with
 | nil => rfl
 | cons v vs ih => simp [setL, ih]

/-- The array behind a row of stores. -/
def setA (arr : Array Value) (off : Nat) : List Value → Array Value
 | [] => arr
 | v :: r => setA (arr.setIfInBounds off v) (off + 1) r
theorem setA_size (arr : Array Value) (off : Nat) (vs : List Value) : (setA arr off vs).size = arr.size := by
 induction vs generalizing arr off with
 | nil => rfl
 | cons v vs ih => simp [setA, ih]
theorem setA_ones {arr : Array Value} {off : Nat} {vs : List Value} (h1 : Ones arr.toList) (h2 : Ones vs) : Ones (setA arr off vs).toList := by
 induction vs generalizing arr off with
 | nil => exact h1
 | cons v vs ih =>
  refine ih ?_ (fun c hc => h2 c (List.mem_cons_of_mem _ hc))
  intro c hc
  simp at hc
  rcases List.mem_or_eq_of_mem_set hc with h | h
  ·exact h1 c h
  ·subst h; exact h2 c (by simp)
/-- A prefix of cells, related; written alike. -/
def PRel (h : Array Obj) (G : Gh) (cs : List AV) (arr : Array Value) : Prop := ∀ (i : Nat) (v : AV), cs[i]? = some v → ∃ c : Value, arr[i]? = some c ∧ VRel h G v c
theorem PRel.setL {h G cs} {arr : Array Value} {vs : List AV} {us : List Value} (r : PRel h G cs arr) (q : VRels h G vs us) (off : Nat) : PRel h G (setL cs off vs) (setA arr off us) := by
 induction vs generalizing cs arr us off with
 | nil => cases us with
  | nil => exact r
  | cons => exact absurd q.1 (by simp)
 | cons v vs ih => cases us with
  | nil => exact absurd q.1 (by simp)
  | cons u us =>
   refine ih (fun i w hw => ?_) q.tail (off + 1)
   rw [List.getElem?_set] at hw
   by_cases e : off = i
   ·subst e
    rw [if_pos rfl] at hw
    split at hw
    ·rename_i hlt
     cases hw
     obtain ⟨c, hc, _⟩ := r off _ (Lge hlt)
     have hsz : off < arr.size := (Array.getElem?_eq_some_iff.1 hc).1
     exact ⟨u, by simp [Array.getElem?_setIfInBounds, hsz], q.head⟩
    ·cases hw
   ·rw [if_neg e] at hw
    obtain ⟨c, h1, h2⟩ := r i w hw
    exact ⟨c, by simpa [Array.getElem?_setIfInBounds, e] using h1, h2⟩

theorem run_storeCells {P : Program} (g : Nat) (elem : TypeId) : ∀ (us : List Value) (off i : Nat) (w : World) (arr : Array Value), w.heap[g]? = some (.cells arr elem (0, 0)) → Ones us → off + i + us.length ≤ arr.size →
  ∃ w', (storeCells ⟨g, off, none⟩ us i).run P w = .ok () w' ∧ Upd w w' g (.cells (setA arr (off + i) us) elem (0, 0))
 | [], off, i, w, arr, h, _, _ => ⟨w, rfl, .refl h⟩
 | u :: us, off, i, w, arr, h, ho, hl => by
  have hcell : ∃ c, w.cell? ⟨g, off + i, none⟩ = some c := by
   rw [cell_cellOf, cellOf_mk h]
   exact ⟨_, Array.getElem?_eq_getElem (by simp at hl; omega)⟩
  obtain ⟨c, hc⟩ := hcell
  have hfr : w.frozen? ⟨g, off + i, none⟩ = false := by simp [World.frozen?, h]
  have u1 := upd_setCell (i := off + i) h u
  obtain ⟨w', r1, r2⟩ := run_storeCells g elem us off (i + 1) _ _ u1.at_ (fun d hd => ho d (List.mem_cons_of_mem _ hd)) (by simp at hl ⊢; omega)
  refine ⟨w', ?_, ?_⟩
  ·simp only [storeCells, Sem.run_bind]
   rw [add_mk, run_store P w _ u _ (ho u (by simp)), hc]
   simp only [hfr, Bft, if_false, Result.andThen_ok]
   exact r1
  ·have := u1.trans r2
   simpa [setA, Nat.add_assoc] using this

theorem run_storeOp {P : Program} {o : Oper} {a : Act} {w : World} {t n : Nat} {y z : Operand} {g off : Nat} {elem : TypeId} {arr : Array Value} (ho : o.op = .store t y z) (ht : szOk P t n = true)
  (hy : a.eval y = .pointer (some ⟨g, off, none⟩)) (hz : (a.eval z).cells.toList.length = n) (hone : Ones (a.eval z).cells.toList) (h : w.heap[g]? = some (.cells arr elem (0, 0))) (hl : off + n ≤ arr.size) :
  ∃ w', (execOp a.eval o).run P w = .ok .skip w' ∧ Upd w w' g (.cells (setA arr off (a.eval z).cells.toList) elem (0, 0)) := by
 obtain ⟨w', h1, h2⟩ := run_storeCells (P := P) g elem (a.eval z).cells.toList off 0 w arr h hone (by omega)
 refine ⟨w', ?_, by simpa using h2⟩
 have hsz : (a.eval z).cells.size = n := by simpa using hz
 simp [execOp, ho, Instr.storeAt, Instr.sureAddr, hy, storeVar, run_sizeOf ht, hsz, h1]

section
variable {ρ : Type} {P : Program} {Z : Base} {N : Nat} {w : World} {G : Gh} {lm : Nat → Option Nat} {env : Env} {loc : Loc} {σ : Store} {a : Act}
 {k : Env → Loc → Store → Option ρ} {x : ρ} {K : Act → World → Prop} {Q : Exit → Act → World → Prop} {o : Oper} {D : Ctx}

theorem undef_rel {h : Array Obj} {G : Gh} : VRel h G (.tuple []) undef := VRels.tuple .nil

theorem sound_store (S : St Z N w G lm env loc σ a) (C : Cont Z N k x G lm w a o.dst.toList K) (hd : ∀ t, o.dst = some t → t < N) {t n : Nat} {agg : Bool} {y z : Operand} {y0 z0 : Opd}
  (ho : o.op = .store t y z) (ht : szOk P t n = true) (hn : agg = false → n = 1) (hp : 0 < n) (hy : opdOk y y0 = true) (hz : opdOk z z0 = true)
  (h : opK D o.dst (.store agg n y0 z0) env loc σ k = some x) : o.wp P a w K Q := by
 simp only [opK] at h
 obtain ⟨v, hv, h⟩ := val_some h
 obtain ⟨vs, h, hlen, hr⟩ := cellsK_some h hn hp
 obtain ⟨hvs, hone⟩ := hr (val_rel S hz hv)
 have hclen : (a.eval z).cells.toList.length = n := by rw [← hvs.1, hlen]
 have her := ent_rel S hy
 split at h
 ·rename_i s off he
  rw [he] at her
  split at h
  ·rename_i m cs hl
   obtain ⟨h0, g, hg, hf, hb⟩ := S.hi.lrel s m cs hl
   obtain ⟨arr, elem, b1, b2, b3, b3', b4⟩ := hb
   have hc := her g hg
   have key : off + n ≤ m → k (put env o.dst (.v (.tuple []))) (loc.set s (setL cs off vs)) σ = some x → o.wp P a w K Q := fun hle h => by
    obtain ⟨w', r1, r2⟩ := run_storeOp ho ht hc hclen hone b1 (by omega)
    obtain ⟨H', le⟩ := S.hi.lstore (cs' := setL cs off vs) hl hg r2 (by rw [setA_size]; exact b2) (by rw [setL_length]; exact h0) (setA_ones b3' hone)
     (PRel.setL (fun i v hv => b4 i v hv) hvs off)
    exact op_done (e := .v (.tuple [])) S C (.inr ⟨r1, rfl⟩) H' le hd undef_rel h
   cases hb1 : (off.beq 0 && n.beq m && agg) with
   | true =>
    rw [hb1] at h
    simp only [Bae] at hb1
    have e1 := Nat.eq_of_beq_eq_true hb1.1.1
    have e2 := Nat.eq_of_beq_eq_true hb1.1.2
    subst e1; subst e2
    refine key (by omega) ?_
    have : setL cs 0 vs = vs := by
     clear h key hr hvs
     have gen : ∀ (vs cs pre : List AV), cs.length = vs.length → setL (pre ++ cs) pre.length vs = pre ++ vs := by
      intro vs
      induction vs with
      | nil => intro cs pre hl; have : cs = [] := List.eq_nil_of_length_eq_zero (by simpa using hl); subst this; simp [setL]
      | cons v vs ih =>
       intro cs pre hl
       cases cs with
       | nil => simp at hl
       | cons c cs =>
        simp only [setL]
        rw [List.set_append_right _ _ (Nat.le_refl _), Nat.sub_self, List.set_cons_zero]
        have := ih cs (pre ++ [v]) (by simpa using hl)
        simpa using this
     simpa using gen vs cs [] (by omega)
    rw [this]; exact h
   | false =>
    rw [hb1] at h
    simp only [cond_false] at h
    cases hb2 : (off + n).ble m with
    | true =>
     rw [hb2] at h
     exact key (Nat.le_of_ble_eq_true hb2) h
    | false => rw [hb2] at h; cases h
  ·cases h
 ·rename_i p he
  rw [he] at her
  obtain ⟨σ', hw, h⟩ := bind_some h
  unfold wr at hw
  split at hw
  ·rename_i y' off
   split at hw
   ·rename_i cs hx
    split at hw
    ·rename_i hle
     cases hw
     obtain ⟨g, m, h1, h2, h3⟩ := S.hi.blk _ _ hx
     have hpc : a.eval y = .pointer (some ⟨g, off, none⟩) := by
      generalize a.eval y = c at her
      cases her with
      | hptr e => rw [h1] at e; cases e; rfl
     obtain ⟨arr, elem, b1, b2, b3, b3', b4⟩ := h3
     obtain ⟨w', r1, r2⟩ := run_storeOp ho ht hpc hclen hone b1 (by omega)
     obtain ⟨H', le⟩ := S.hi.hstore (b' := .cells (setL cs off vs)) hx h1 r2 (fun le =>
      ⟨_, elem, r2.at_, by rw [setA_size]; exact b2, by rw [setL_length]; exact b3, setA_ones b3' hone, fun i v hi => by
       obtain ⟨c, c1, c2⟩ := PRel.setL (fun i v hv => b4 i v hv) hvs off i v hi
       exact ⟨c, c1, c2.mono le⟩⟩)
     exact op_done (e := .v (.tuple [])) S C (.inr ⟨r1, rfl⟩) H' le hd undef_rel h
    ·cases hw
   ·cases hw
  ·cases hw

/-! #### addresses, fields, elements -/
theorem nnil_some {h : Array Obj} {G : Gh} {p q : AV} (e : nnil p = some q) {c : Value} (r : VRel h G p c) :
  q = p ∧ c ≠ .pointer none ∧ c ≠ .nilIface ∧ c ≠ .nilFunc ∧ ∀ m f g, c ≠ .func (.method m) f g := by
 unfold nnil at e
 split at e
 ·cases e
 ·cases e
 ·cases e
 ·cases e
 ·rename_i h1 h2 h3 h4
  cases e
  refine ⟨rfl, ?_, ?_, ?_, ?_⟩ <;> intros <;> intro e' <;> subst e' <;> cases r <;> simp_all

theorem run_nilCheck {y : Operand} (ho : o.op = .nilCheck y) (h1 : a.eval y ≠ .pointer none) (h2 : a.eval y ≠ .nilIface) (h3 : a.eval y ≠ .nilFunc) (h4 : ∀ m f g, a.eval y ≠ .func (.method m) f g) :
  (execOp a.eval o).run P w = .ok (.value (a.eval y)) w := by
 simp only [execOp, ho]
 first | rfl | (split <;> first | contradiction | rfl | (rename_i heq; exact absurd heq (h4 _ _ _)))

theorem sound_nilCheck (S : St Z N w G lm env loc σ a) (C : Cont Z N k x G lm w a o.dst.toList K) (hd : ∀ t, o.dst = some t → t < N) {y : Operand} {y0 : Opd}
  (ho : o.op = .nilCheck y) (hy : opdOk y y0 = true)
  (h : opK D o.dst (.nilCheck y0) env loc σ k = some x) : o.wp P a w K Q := by
 have her := ent_rel S hy
 simp only [opK] at h
 split at h
 ·rename_i s off he
  rw [he] at her
  split at h
  ·rename_i q hl
   obtain ⟨m, cs⟩ := q
   obtain ⟨h0, g, hg, hf, hb⟩ := S.hi.lrel s m cs hl
   have hc := her g hg
   exact op_val S C hd (run_nilCheck ho (by rw [hc]; simp) (by rw [hc]; simp) (by rw [hc]; simp) (by rw [hc]; simp)) (e := .l s off) her h
  ·cases h
 ·rename_i p he
  rw [he] at her
  obtain ⟨q, hq, h5⟩ := bind_some h
  obtain ⟨e, h1, h2, h3, h4⟩ := nnil_some hq her
  subst e
  exact op_val (e := .v q) S C hd (run_nilCheck ho h1 h2 h3 h4) her h5

def fieldOk (P : Program) (t i off : Nat) : Bool :=
 match P.underlying t with
 | some (.struct fs) => match fs[i]? with
  | some f => f.offset.beq off && (match P.info? f.type with | some j => !(j.size.beq 0) | none => false)
  | none => false
 | _ => false
theorem run_fieldAddr {t i off : Nat} {y : Operand} {ad : Addr} (ho : o.op = .fieldAddr t y i) (ht : fieldOk P t i off = true) (hy : a.eval y = .pointer (some ad)) :
  (execOp a.eval o).run P w = .ok (.value (.pointer (some (ad.add off)))) w := by
 unfold fieldOk at ht
 cases hd : P.underlying t with
 | none => simp [hd] at ht
 | some d =>
  simp only [hd] at ht
  cases d with
  | struct fs =>
   simp only at ht
   cases hf : fs[i]? with
   | none => simp [hf] at ht
   | some f =>
    simp only [hf, Bae] at ht
    have e := Nat.eq_of_beq_eq_true ht.1
    cases hi : P.info? f.type with
    | none => simp [hi] at ht
    | some j =>
     have hj : j.size ≠ 0 := fun e0 => by have := ht.2; simp [hi, e0] at this
     simp [execOp, ho, Instr.fieldAt, run_underlying hd, hf, Instr.sureAddr, hy, fieldPlace, sizeOf, typeInfo, hi, hj, e]
  | _ => simp at ht

theorem sound_fadd (S : St Z N w G lm env loc σ a) (C : Cont Z N k x G lm w a o.dst.toList K) (hd : ∀ t, o.dst = some t → t < N) {t i off : Nat} {y : Operand} {y0 : Opd}
  (ho : o.op = .fieldAddr t y i) (ht : fieldOk P t i off = true) (hy : opdOk y y0 = true)
  (h : opK D o.dst (.fadd off y0) env loc σ k = some x) : o.wp P a w K Q := by
 have her := ent_rel S hy
 simp only [opK] at h
 split at h
 ·rename_i s o' he
  rw [he] at her
  split at h
  ·rename_i q hl
   obtain ⟨m, cs⟩ := q
   obtain ⟨h0, g, hg, hf, hb⟩ := S.hi.lrel s m cs hl
   have hc := her g hg
   refine op_val (e := .l s (o' + off)) S C hd (run_fieldAddr ho ht hc) ?_ h
   intro g' hg'; rw [hg] at hg'; cases hg'; rw [add_mk]
  ·cases h
 ·rename_i p he
  rw [he] at her
  obtain ⟨q, hq, h5⟩ := bind_some h
  generalize hc : a.eval y = c at her
  unfold fadd at hq
  split at hq
  ·cases hq
   cases her with
   | pptr ad f hf hce hv =>
    refine op_val (e := .v _) S C hd (run_fieldAddr ho ht hc) (.pptr _ (fun j => f (off + j)) (by rw [add_block]; exact hf) (fun j v hj => ?_) (fun j v hj => ?_)) h5
    ·rw [add_add]; exact hce _ v (by rw [← hj]; congr 1; omega)
    ·exact hv _ v (by rw [← hj]; congr 1; omega)
  ·cases hq
   cases her with
   | hptr e =>
    refine op_val (e := .v _) S C hd (run_fieldAddr ho ht hc) ?_ h5
    rw [add_mk]; exact .hptr e
  ·cases hq

def sliceOk (P : Program) (t sz : Nat) : Bool :=
 match P.underlying t with
 | some (.slice e) => szOk P e sz
 | _ => false
theorem sliceOk_inv {t sz : Nat} (h : sliceOk P t sz = true) : ∃ e, P.underlying t = some (.slice e) ∧ szOk P e sz = true := by
 unfold sliceOk at h
 split at h
 ·exact ⟨_, by assumption, h⟩
 ·cases h

theorem run_idx {t sz : Nat} {y z : Operand} {ad : Addr} {len cap : Nat} {kd : IntKind} {i : Int} (ho : o.op = .indexAddr t y z) (ht : sliceOk P t sz = true)
  (hy : a.eval y = .slice (some ad) len cap) (hz : a.eval z = .int kd i) (h0 : 0 ≤ i) (h1 : i < len) :
  (execOp a.eval o).run P w = .ok (.value (.pointer (some (ad.add (i.toNat * sz))))) w := by
 obtain ⟨e, h2, h3⟩ := sliceOk_inv ht
 simp [execOp, ho, Instr.indexAt, run_underlying h2, asIntOf, hy, hz, h0, h1, run_sizeOf h3]

theorem idx_some {sz : Nat} {p q u : AV} (hu : idx sz p q = some u) :
  (∃ rows kd i row, p = .pslice sz rows ∧ q = .int kd i ∧ 0 ≤ i ∧ rows[i.toNat]? = some (.agg row) ∧ u = .pptr row 0) ∨
  (∃ b off len kd i, p = .hslice sz b off len ∧ q = .int kd i ∧ 0 ≤ i ∧ i < (len : Int) ∧ u = .hptr b (off + i.toNat * sz)) := by
 unfold idx at hu
 split at hu
 ·split at hu
  ·rename_i hcond
   obtain ⟨hs, h0⟩ := hcond
   subst hs
   split at hu
   ·cases hu; exact .inl ⟨_, _, _, _, rfl, rfl, h0, by assumption, rfl⟩
   ·cases hu
  ·cases hu
 ·split at hu
  ·rename_i hcond
   obtain ⟨hs, h0, h1⟩ := hcond
   subst hs
   cases hu; exact .inr ⟨_, _, _, _, _, rfl, rfl, h0, h1, rfl⟩
  ·cases hu
 ·cases hu

theorem sound_idx (S : St Z N w G lm env loc σ a) (C : Cont Z N k x G lm w a o.dst.toList K) (hd : ∀ t, o.dst = some t → t < N) {t sz : Nat} {y z : Operand} {y0 z0 : Opd}
  (ho : o.op = .indexAddr t y z) (ht : sliceOk P t sz = true) (hsz : 0 < sz) (hy : opdOk y y0 = true) (hz : opdOk z z0 = true)
  (h : opK D o.dst (.idx sz y0 z0) env loc σ k = some x) : o.wp P a w K Q := by
 obtain ⟨v1, hv1, h⟩ := val_some h
 obtain ⟨v2, hv2, h⟩ := val_some h
 obtain ⟨u, hu, h⟩ := bind_some h
 have r1 := val_rel S hy hv1
 have r2 := val_rel S hz hv2
 rcases idx_some hu with ⟨rows, kd, i, row, rfl, rfl, h0, hrow, rfl⟩ | ⟨b, off, len, kd, i, rfl, rfl, h0, h1, rfl⟩
 ·have hz' := r2.int_inv
  generalize hc : a.eval y = c at r1
  cases r1 with
  | pnil => simp at hrow
  | pslice ad cap cs hf hcap hro hcell hval =>
   have hlt := (List.getElem?_eq_some_iff.1 hrow).1
   obtain ⟨row', e', hl'⟩ := hro _ _ hrow
   cases e'
   refine op_val (e := .v _) S C hd (run_idx ho ht hc hz' h0 (by omega)) (.pptr _ (cs i.toNat) ?_ (fun j v hj => ?_) (fun j v hj => ?_)) h
   ·rw [add_block]; exact hf (Nat.mul_pos (by omega) hsz)
   ·rw [add_add]; exact hcell _ _ _ _ hrow (by simpa using hj)
   ·exact hval _ _ _ _ hrow (by simpa using hj)
 ·have hz' := r2.int_inv
  generalize hc : a.eval y = c at r1
  cases r1 with
  | hslice e h2 h3 =>
   refine op_val (e := .v _) S C hd (run_idx ho ht hc hz' h0 h1) ?_ h
   rw [add_mk]; exact .hptr e
end
end Go.Asm
/- What each operation comes to: third part: operators. -/
namespace Go.Asm

theorem read64 (b : Nat) : Ieee.double.read b = if b % 9223372036854775808 < 4503599627370496 then .number (b / 9223372036854775808 % 2 == 1) (b % 9223372036854775808) Ieee.double.leastPlace
  else if b % 9223372036854775808 < 9218868437227405312 then .number (b / 9223372036854775808 % 2 == 1) (4503599627370496 + b % 9223372036854775808 % 4503599627370496) (Ieee.double.leastPlace + (b % 9223372036854775808 / 4503599627370496 - 1 : Nat))
  else if b % 9223372036854775808 = 9218868437227405312 then .infinity (b / 9223372036854775808 % 2 == 1) else .nan (b / 9223372036854775808 % 2 == 1) (b % 9223372036854775808 - 9218868437227405312) := rfl
theorem isNan_iff (b : Nat) : isNan b = true ↔ 9218868437227405312 < b % 9223372036854775808 := by
 rw [show isNan b = (Ieee.double.read b).isNaN from rfl, read64]
 by_cases h1 : b % 9223372036854775808 < 4503599627370496
 ·rw [if_pos h1]; simp [Ieee.Datum.isNaN]; omega
 ·rw [if_neg h1]
  by_cases h2 : b % 9223372036854775808 < 9218868437227405312
  ·rw [if_pos h2]; simp [Ieee.Datum.isNaN]; omega
  ·rw [if_neg h2]
   by_cases h3 : b % 9223372036854775808 = 9218868437227405312
   ·rw [if_pos h3]; simp [Ieee.Datum.isNaN]; omega
   ·rw [if_neg h3]; simp [Ieee.Datum.isNaN]; omega
theorem isNan_nanF : isNan nanF = true := by rw [isNan_iff]; decide
theorem read_nan {b : Nat} (h : isNan b = true) : ∃ s f, Ieee.double.read b = .nan s f := by
 have h : (Ieee.double.read b).isNaN = true := h
 cases e : Ieee.double.read b <;> simp [e, Ieee.Datum.isNaN] at h
 exact ⟨_, _, rfl⟩

theorem fmt64 : FloatKind.f64.format = Ieee.double := rfl
theorem sum_nan_l {d e : Ieee.Datum} (h : d.isNaN = true) : d.sum e = none := by cases d <;> simp_all [Ieee.Datum.isNaN, Ieee.Datum.sum]
theorem sum_nan_r {d e : Ieee.Datum} (h : e.isNaN = true) : d.sum e = none := by cases e <;> simp_all [Ieee.Datum.isNaN, Ieee.Datum.sum] <;> cases d <;> rfl
theorem product_nan_l {d e : Ieee.Datum} (h : d.isNaN = true) : d.product e = none := by cases d <;> simp_all [Ieee.Datum.isNaN, Ieee.Datum.product]
theorem product_nan_r {d e : Ieee.Datum} (h : e.isNaN = true) : d.product e = none := by cases e <;> simp_all [Ieee.Datum.isNaN, Ieee.Datum.product] <;> cases d <;> rfl
theorem quotient_nan_l {n} {d e : Ieee.Datum} (h : d.isNaN = true) : d.quotient n e = none := by cases d <;> simp_all [Ieee.Datum.isNaN, Ieee.Datum.quotient]
theorem quotient_nan_r {n} {d e : Ieee.Datum} (h : e.isNaN = true) : d.quotient n e = none := by cases e <;> simp_all [Ieee.Datum.isNaN, Ieee.Datum.quotient] <;> cases d <;> rfl
theorem order_nan_l {d e : Ieee.Datum} (h : d.isNaN = true) : d.order e = none := by cases d <;> simp_all [Ieee.Datum.isNaN, Ieee.Datum.order]
theorem order_nan_r {d e : Ieee.Datum} (h : e.isNaN = true) : d.order e = none := by cases e <;> simp_all [Ieee.Datum.isNaN, Ieee.Datum.order] <;> cases d <;> rfl
theorem opp_nan {d : Ieee.Datum} (h : d.isNaN = true) : d.opposite.isNaN = true := by cases d <;> simp_all [Ieee.Datum.isNaN, Ieee.Datum.opposite]

theorem fltOrd_eq {a b a' b' : Nat} (ha : nanEq a a') (hb : nanEq b b') : fltOrd a b = fltOrd a' b' := by
 unfold fltOrd
 rcases ha with rfl | ⟨h1, h2⟩
 ·rcases hb with rfl | ⟨h3, h4⟩
  ·rfl
  ·exact (order_nan_r h3).trans (order_nan_r h4).symm
 ·exact (order_nan_l h1).trans (order_nan_l h2).symm
/-- The four operations give one answer on words that stand for one another. -/
theorem fltOp_eq {f : Nat → Nat → Option Nat} (hl : ∀ {a b}, isNan a = true → f a b = none) (hr : ∀ {a b}, isNan b = true → f a b = none) {a b a' b' : Nat} (ha : nanEq a a') (hb : nanEq b b') : f a b = f a' b' := by
 rcases ha with rfl | ⟨h1, h2⟩
 ·rcases hb with rfl | ⟨h3, h4⟩
  ·rfl
  ·rw [hr h3, hr h4]
 ·rw [hl h1, hl h2]
theorem add_l {a b} (h : isNan a = true) : FloatKind.f64.format.add a b = none := by
 have e : (FloatKind.f64.format.read a).sum (FloatKind.f64.format.read b) = none := sum_nan_l h
 show Option.map _ ((FloatKind.f64.format.read a).sum (FloatKind.f64.format.read b)) = _
 rw [e]; rfl
theorem add_r {a b} (h : isNan b = true) : FloatKind.f64.format.add a b = none := by
 have e : (FloatKind.f64.format.read a).sum (FloatKind.f64.format.read b) = none := sum_nan_r h
 show Option.map _ ((FloatKind.f64.format.read a).sum (FloatKind.f64.format.read b)) = _
 rw [e]; rfl
theorem sub_l {a b} (h : isNan a = true) : FloatKind.f64.format.sub a b = none := by
 have e : (FloatKind.f64.format.read a).sum ((FloatKind.f64.format.read b).opposite) = none := sum_nan_l h
 show Option.map _ ((FloatKind.f64.format.read a).sum ((FloatKind.f64.format.read b).opposite)) = _
 rw [e]; rfl
theorem sub_r {a b} (h : isNan b = true) : FloatKind.f64.format.sub a b = none := by
 have e : (FloatKind.f64.format.read a).sum ((FloatKind.f64.format.read b).opposite) = none := sum_nan_r (opp_nan h)
 show Option.map _ ((FloatKind.f64.format.read a).sum ((FloatKind.f64.format.read b).opposite)) = _
 rw [e]; rfl
theorem mul_l {a b} (h : isNan a = true) : FloatKind.f64.format.mul a b = none := by
 have e : (FloatKind.f64.format.read a).product (FloatKind.f64.format.read b) = none := product_nan_l h
 show Option.map _ ((FloatKind.f64.format.read a).product (FloatKind.f64.format.read b)) = _
 rw [e]; rfl
theorem mul_r {a b} (h : isNan b = true) : FloatKind.f64.format.mul a b = none := by
 have e : (FloatKind.f64.format.read a).product (FloatKind.f64.format.read b) = none := product_nan_r h
 show Option.map _ ((FloatKind.f64.format.read a).product (FloatKind.f64.format.read b)) = _
 rw [e]; rfl
theorem div_l {a b} (h : isNan a = true) : FloatKind.f64.format.div a b = none := by
 have e : (FloatKind.f64.format.read a).quotient (FloatKind.f64.format.fractionBits + 2) (FloatKind.f64.format.read b) = none := quotient_nan_l h
 show Option.map _ ((FloatKind.f64.format.read a).quotient (FloatKind.f64.format.fractionBits + 2) (FloatKind.f64.format.read b)) = _
 rw [e]; rfl
theorem div_r {a b} (h : isNan b = true) : FloatKind.f64.format.div a b = none := by
 have e : (FloatKind.f64.format.read a).quotient (FloatKind.f64.format.fractionBits + 2) (FloatKind.f64.format.read b) = none := quotient_nan_r h
 show Option.map _ ((FloatKind.f64.format.read a).quotient (FloatKind.f64.format.fractionBits + 2) (FloatKind.f64.format.read b)) = _
 rw [e]; rfl

theorem nan_cut (x y t : Nat) : isNan (Question.cut (.nanBits .f64 x y) t) = true := by
 rw [isNan_iff]
 simp only [Question.cut]
 rcases Nat.mod_two_eq_zero_or_one t with h | h <;> rw [h] <;> omega
theorem neg_nan (b : Nat) : isNan (Op.negFloat .f64 b) = isNan b := by
 have h : Op.negFloat .f64 b % 2 ^ 63 = b % 2 ^ 63 := by
  show (b ^^^ 2 ^ 63) % 2 ^ 63 = b % 2 ^ 63
  apply Nat.eq_of_testBit_eq
  intro i
  simp only [Nat.testBit_mod_two_pow, Nat.testBit_xor, Nat.testBit_two_pow]
  by_cases h : i < 63
  ·have : ¬ 63 = i := by omega
   simp [h, this]
  ·simp [h]
 have e : isNan (Op.negFloat .f64 b) = true ↔ isNan b = true := by rw [isNan_iff, isNan_iff, h]
 cases h1 : isNan (Op.negFloat .f64 b) <;> cases h2 : isNan b <;> simp_all

section
variable {ρ : Type} {P : Program} {Z : Base} {N : Nat} {w : World} {G : Gh} {lm : Nat → Option Nat} {env : Env} {loc : Loc} {σ : Store} {a : Act}
 {k : Env → Loc → Store → Option ρ} {x : ρ} {K : Act → World → Prop} {Q : Exit → Act → World → Prop} {o : Oper} {D : Ctx}

/-- The world after some draws. -/
def Drew (w w' : World) : Prop := w'.heap = w.heap ∧ w'.os = w.os ∧ w'.tape = w.tape ∧ w'.output = w.output
theorem Drew.refl (w : World) : Drew w w := ⟨rfl, rfl, rfl, rfl⟩

theorem run_intBin {op : BinOp} {t : TypeId} {kd : IntKind} {m n : Int} {u : AV} (h : intBin op kd m n = some u) :
  ∃ c, (binOp op t (.int kd m) (.int kd n)).run P w = .ok c w ∧ VRel w.heap G u c := by
 cases op <;> simp only [intBin] at h
 case quo =>
  split at h
  ·cases h
  ·rename_i hz
   cases h
   exact ⟨.int kd (kd.wrap (m.tdiv n)), by simp [binOp, Op.intDiv, hz], .int⟩
 case rem =>
  split at h
  ·cases h
  ·rename_i hz
   cases h
   exact ⟨.int kd (m.tmod n), by simp [binOp, Op.intDiv, hz], .int⟩
 all_goals first
  | (cases h; done)
  | (cases h; exact ⟨_, rfl, .int⟩)
  | (cases h; exact ⟨_, rfl, .bool⟩)
  | (cases h; refine ⟨.bool _, ?_, .bool⟩; simp [binOp, Op.intCmp]; try rfl)
  | (cases h; refine ⟨.int kd _, ?_, .int⟩; simp [binOp, Op.intArith, Op.intBits])

theorem run_shBin {op : BinOp} {t : TypeId} {kd kd' : IntKind} {m n : Int} {u : AV} (ho : op = .shl ∨ op = .shr) (h : shBin op kd m n = some u) :
  ∃ c, (binOp op t (.int kd m) (.int kd' n)).run P w = .ok c w ∧ VRel w.heap G u c := by
 unfold shBin at h
 split at h
 ·cases h
 ·rename_i hn
  rcases ho with rfl | rfl
  ·cases h
   refine ⟨.int kd _, ?_, .int⟩
   simp [binOp, Op.shift, hn]
  ·cases h
   refine ⟨.int kd _, ?_, .int⟩
   simp [binOp, Op.shift, hn]

theorem run_farith {op : BinOp} {m n : Nat} {r : Option Nat} (h : (match op with
   | .add => some (FloatKind.f64.format.add m n)
   | .sub => some (FloatKind.f64.format.sub m n)
   | .mul => some (FloatKind.f64.format.mul m n)
   | .quo => some (FloatKind.f64.format.div m n)
   | _ => none) = some r) : ∃ c w', (Op.floatArith op .f64 m n).run P w = .ok c w' ∧ Drew w w' ∧ VRel w.heap G (fnum r) c := by
 have key : ∀ q : Option Nat, ∃ c w', (match q with
   | some r => pure (.float .f64 r)
   | none => do pure (.float .f64 (← choose (.nanBits .f64 m n))) : Sem Value).run P w = .ok c w' ∧ Drew w w' ∧ VRel w.heap G (fnum q) c := by
  intro q
  cases q with
  | some r => exact ⟨_, _, rfl, .refl w, .flt (.inl rfl)⟩
  | none =>
   refine ⟨.float .f64 (Question.cut (.nanBits .f64 m n) (w.tape w.drawn (.nanBits .f64 m n))), { w with drawn := w.drawn + 1 }, ?_, ⟨rfl, rfl, rfl, rfl⟩, .flt (.inr ⟨isNan_nanF, nan_cut _ _ _⟩)⟩
   simp [Question.forced]
 cases op <;> simp only [] at h <;> first
  | (cases h; done)
  | (
   cases h
   obtain ⟨c, w', h1, h2, h3⟩ := key _
   refine ⟨c, w', ?_, h2, h3⟩
   unfold Op.floatArith
   simp only [Sem.run_bind, Sem.run_pure, Result.andThen_ok]
   exact h1)

theorem run_fltBin {op : BinOp} {t : TypeId} {m n m' n' : Nat} {u : AV} (h : fltBin op m n = some u) (hm : nanEq m m') (hn : nanEq n n') :
  ∃ c w', (binOp op t (.float .f64 m') (.float .f64 n')).run P w = .ok c w' ∧ Drew w w' ∧ VRel w.heap G u c := by
 have ho := fltOrd_eq hm hn
 cases op <;> simp only [fltBin] at h
 case add =>
  cases h
  rw [fltOp_eq add_l add_r hm hn]
  obtain ⟨c, w', h1, h2, h3⟩ := run_farith (P := P) (w := w) (G := G) (op := .add) (m := m') (n := n') rfl
  exact ⟨c, w', by simpa [binOp] using h1, h2, h3⟩
 case sub =>
  cases h
  rw [fltOp_eq sub_l sub_r hm hn]
  obtain ⟨c, w', h1, h2, h3⟩ := run_farith (P := P) (w := w) (G := G) (op := .sub) (m := m') (n := n') rfl
  exact ⟨c, w', by simpa [binOp] using h1, h2, h3⟩
 case mul =>
  cases h
  rw [fltOp_eq mul_l mul_r hm hn]
  obtain ⟨c, w', h1, h2, h3⟩ := run_farith (P := P) (w := w) (G := G) (op := .mul) (m := m') (n := n') rfl
  exact ⟨c, w', by simpa [binOp] using h1, h2, h3⟩
 case quo =>
  cases h
  rw [fltOp_eq div_l div_r hm hn]
  obtain ⟨c, w', h1, h2, h3⟩ := run_farith (P := P) (w := w) (G := G) (op := .quo) (m := m') (n := n') rfl
  exact ⟨c, w', by simpa [binOp] using h1, h2, h3⟩
 all_goals first
  | (cases h; done)
  | (cases h; rw [ho]; refine ⟨.bool _, w, ?_, .refl w, .bool⟩; simp [binOp, Op.floatCmp, fltOrd])

theorem strEq (s t : ByteArray) : (s.toList == t.toList) = decide (s.toList = t.toList) := by
 cases h : (s.toList == t.toList)
 ·simp at h; simp [h]
 ·simp at h; simp [h]

theorem run_strBin {op : BinOp} {t : TypeId} {s r : ByteArray} {u : AV} (h : strBin op s r = some u) :
  ∃ c, (binOp op t (.string s) (.string r)).run P w = .ok c w ∧ VRel w.heap G u c := by
 cases op <;> simp only [strBin] at h
 case add =>
  split at h
  ·rename_i hl
   cases h
   refine ⟨.string (s ++ r), ?_, .str⟩
   simp [binOp, Op.stringOp]
   simp only [strMax] at hl
   omega
  ·cases h
 all_goals first
  | (cases h; done)
  | (cases h; refine ⟨.bool _, ?_, .bool⟩; simp [binOp, Op.stringOp, strEq])
end
end Go.Asm
/- What each operation comes to: fourth part. -/
namespace Go.Asm

def kindOk1 (P : Program) (t : Nat) : KK → Bool
 | .int k => match P.underlying t with
  | some (.int k') => decide (k = k')
  | _ => false
 | .str => match P.underlying t with
  | some .string => true
  | _ => false
 | .bool => match P.underlying t with
  | some .bool => true
  | _ => false
 | .agg _ => false
def flatOk (P : Program) : Nat → List Field → List KK → Bool
 | _, [], [] => true
 | i, f :: r, k :: ks => f.offset.beq i && f.name != "_" && kindOk1 P f.type k && flatOk P (i + 1) r ks
 | _, _, _ => false
def eqkOk (P : Program) (e : EqK) (t : Nat) : Bool :=
 match e with
 | .num => true
 | .bool => match P.underlying t with
  | some .bool => true
  | _ => false
 | .ptr => match P.underlying t with
  | some (.pointer _) => true
  | _ => false
 | .flat ks => (match P.underlying t with
  | some (.struct fs) => flatOk P 0 fs.toList ks
  | _ => false) && !P.stoodInHeld t && !P.eqGuardType P.depth t

section
variable {ρ : Type} {P : Program} {Z : Base} {N : Nat} {w : World} {G : Gh} {lm : Nat → Option Nat} {env : Env} {loc : Loc} {σ : Store} {a : Act}
 {k : Env → Loc → Store → Option ρ} {x : ρ} {K : Act → World → Prop} {Q : Exit → Act → World → Prop} {o : Oper} {D : Ctx}

theorem kind1_und {t : Nat} {kd : KK} (h : kindOk1 P t kd = true) : (∃ k, kd = .int k ∧ P.underlying t = some (.int k)) ∨ (kd = .str ∧ P.underlying t = some .string) ∨ (kd = .bool ∧ P.underlying t = some .bool) := by
 unfold kindOk1 at h
 split at h
 ·split at h
  ·simp at h; subst h; exact .inl ⟨_, rfl, by assumption⟩
  ·cases h
 ·split at h
  ·exact .inr (.inl ⟨rfl, by assumption⟩)
  ·cases h
 ·split at h
  ·exact .inr (.inr ⟨rfl, by assumption⟩)
  ·cases h
 ·cases h
theorem fits1_int {k : IntKind} {v : AV} (h : KK.fits1 (.int k) v = true) : ∃ n, v = .int k n := by
 unfold KK.fits1 at h
 split at h <;> simp_all
theorem fits1_str {v : AV} (h : KK.fits1 .str v = true) : ∃ s, v = .str s := by
 unfold KK.fits1 at h
 split at h <;> simp_all
theorem fits1_bool {v : AV} (h : KK.fits1 .bool v = true) : ∃ b, v = .bool b := by
 unfold KK.fits1 at h
 split at h <;> simp_all

theorem run_ceq {u v : AV} {t n : Nat} {kd : KK} (hk : kindOk1 P t kd = true) (hu : kd.fits1 u = true) (hv : kd.fits1 v = true) {b : Bool} (h : ceq u v = some b) {c d : Value}
  (hc : VRel w.heap G u c) (hd : VRel w.heap G v d) (w' : World) : (Op.equalIn (n + 1) t c d).run P w' = .ok b w' ∧ c.oneCell' = true ∧ d.oneCell' = true ∧ (isAgg t).run P w' = .ok false w' := by
 rcases kind1_und hk with ⟨kk, rfl, ht⟩ | ⟨rfl, ht⟩ | ⟨rfl, ht⟩
 ·obtain ⟨m, rfl⟩ := fits1_int hu
  obtain ⟨m', rfl⟩ := fits1_int hv
  have := hc.int_inv; have := hd.int_inv; subst_vars
  simp [ceq] at h; subst h
  refine ⟨?_, rfl, rfl, by simp [isAgg, run_underlying ht]⟩
  rw [run_equalIn_int w' n t _ _ _ _ ht]; rfl
 ·obtain ⟨m, rfl⟩ := fits1_str hu
  obtain ⟨m', rfl⟩ := fits1_str hv
  have := hc.str_inv; have := hd.str_inv; subst_vars
  simp [ceq] at h; subst h
  refine ⟨?_, rfl, rfl, by simp [isAgg, run_underlying ht]⟩
  rw [run_equalIn_string w' n t _ _ ht, strEq]
 ·obtain ⟨m, rfl⟩ := fits1_bool hu
  obtain ⟨m', rfl⟩ := fits1_bool hv
  have := hc.bool_inv; have := hd.bool_inv; subst_vars
  simp [ceq] at h; subst h
  refine ⟨?_, rfl, rfl, by simp [isAgg, run_underlying ht]⟩
  rw [run_equalIn_bool' w' n t _ _ ht]; rfl

theorem run_flat {n : Nat} {xs ys : Array Value} : ∀ (fs : List Field) (ks : List KK) (i : Nat) (us vs : List AV) (b : Bool), flatOk P i fs ks = true → KK.fitsL ks us = true → KK.fitsL ks vs = true →
  ceqL us vs = some b → (∀ (j : Nat) u, us[j]? = some u → ∃ c : Value, xs[i + j]? = some c ∧ VRel w.heap G u c) → (∀ (j : Nat) u, vs[j]? = some u → ∃ c : Value, ys[i + j]? = some c ∧ VRel w.heap G u c) →
  (Op.eqFields (n + 1) xs ys fs).run P w = .ok b w
 | [], [], i, us, vs, b, _, h1, h2, h, _, _ => by
  cases us <;> cases vs <;> simp_all [ceqL, KK.fitsL, Op.eqFields]
 | f :: fs, kd :: ks, i, [], _, b, _, h1, _, _, _, _ => by simp [KK.fitsL] at h1
 | f :: fs, kd :: ks, i, _, [], b, _, _, h1, _, _, _ => by simp [KK.fitsL] at h1
 | f :: fs, kd :: ks, i, u :: us, v :: vs, b, hf, h1, h2, h, hx, hy => by
  simp only [flatOk, Bae] at hf
  simp only [KK.fitsL, Bae] at h1 h2
  obtain ⟨b1, hb1, h⟩ := bind_some h
  obtain ⟨b2, hb2, h⟩ := bind_some h
  cases h
  obtain ⟨c, hc, rc⟩ := hx 0 u rfl
  obtain ⟨d, hd, rd⟩ := hy 0 v rfl
  have hoff := Nat.eq_of_beq_eq_true hf.1.1.1
  obtain ⟨he, o1, o2, ha⟩ := run_ceq (n := n) hf.1.2 h1.1 h2.1 hb1 rc rd w
  have hnm : f.name ≠ "_" := by simpa using hf.1.1.2
  have hp : ∀ (zs : Array Value) (z : Value), zs[i + 0]? = some z → (part f.type zs f.offset).run P w = .ok z w := by
   intro zs z hz
   rw [hoff]
   simp only [Nat.add_zero] at hz
   simp [part, ha, hz]
  simp only [Op.eqFields, if_pos hnm, Sem.run_bind, hp xs c hc, hp ys d hd, Result.andThen_ok, he]
  cases b1
  ·simp
  ·simp only [Bool.not_true, Bft, if_false, Bool.true_and]
   exact run_flat fs ks (i + 1) us vs b2 hf.2 h1.2 h2.2 hb2 (fun j u hj => by have := hx (j + 1) u (by simpa using hj); rwa [show i + 1 + j = i + (j + 1) by omega])
    (fun j u hj => by have := hy (j + 1) u (by simpa using hj); rwa [show i + 1 + j = i + (j + 1) by omega])
 | [], _ :: _, _, _, _, _, h, _, _, _, _, _ => by simp [flatOk] at h
 | _ :: _, [], _, _, _, _, h, _, _, _, _, _ => by simp [flatOk] at h

theorem run_eqV {e : EqK} {t : Nat} (he : eqkOk P e t = true) {u v : AV} {b : Bool} (h : eqV e u v = some b) {c d : Value} (hc : VRel w.heap G u c) (hd : VRel w.heap G v d) {op : BinOp} {y z : Operand} :
  (Op.equal t c d).run P w = .ok b w ∧ (eqGuard op t y z c d).run P w = .ok () w ∧ (∀ k n k' m, ¬ (c = .int k n ∧ d = .int k' m)) ∧ (∀ k n k' m, ¬ (c = .float k n ∧ d = .float k' m)) ∧
   (∀ s r, ¬ (c = .string s ∧ d = .string r)) ∧ (∀ k m n k' m' n', ¬ (c = .complex k m n ∧ d = .complex k' m' n')) := by
 have eqm : ∀ x y, Op.equal t x y = Op.equalIn (9999 + 1) t x y := fun _ _ => rfl
 cases e with
 | num => cases h
 | bool =>
  simp only [eqV] at h
  split at h
  ·cases h
   have := hc.bool_inv; have := hd.bool_inv; subst_vars
   simp only [eqkOk] at he
   split at he
   ·rename_i ht
    refine ⟨?_, by simp [eqGuard], by simp, by simp, by simp, by simp⟩
    rw [eqm, run_equalIn_bool' w 9999 t _ _ ht]; rfl
   ·cases he
  ·cases h
 | ptr =>
  simp only [eqkOk] at he
  split at he
  ·rename_i el ht
   simp only [eqV] at h
   have key : ∀ (p q : Option Addr), (p = none ∨ q = none) → (Op.equal t (.pointer p) (.pointer q)).run P w = .ok (p.isNone && q.isNone) w := by
    intro p q hpq
    rw [eqm]
    generalize 9999 = n9
    rcases hpq with rfl | rfl
    ·simp [Op.equalIn, run_underlying ht]
    ·cases p <;> simp [Op.equalIn, run_underlying ht]
   have fin : ∀ (p q : Option Addr), (p = none ∨ q = none) → c = .pointer p → d = .pointer q → b = (p.isNone && q.isNone) → _ := fun p q hpq hcp hdq hb =>
    (show (Op.equal t c d).run P w = .ok b w ∧ (eqGuard op t y z c d).run P w = .ok () w ∧ (∀ k n k' m, ¬ (c = .int k n ∧ d = .int k' m)) ∧ (∀ k n k' m, ¬ (c = .float k n ∧ d = .float k' m)) ∧
     (∀ s r, ¬ (c = .string s ∧ d = .string r)) ∧ (∀ k m n k' m' n', ¬ (c = .complex k m n ∧ d = .complex k' m' n')) from by
     subst hcp; subst hdq; subst hb
     exact ⟨key p q hpq, by simp [eqGuard], by simp, by simp, by simp, by simp⟩)
   split at h <;> cases h <;> cases hc <;> cases hd
   all_goals first
    | exact fin none none (.inl rfl) rfl rfl rfl
    | exact fin (some _) none (.inr rfl) rfl rfl rfl
    | exact fin none (some _) (.inl rfl) rfl rfl rfl
  ·cases he
 | flat ks =>
  simp only [eqkOk, Bae] at he
  simp only [eqV] at h
  split at h
  ·split at h
   ·rename_i hfit
    simp only [Bae] at hfit
    obtain ⟨⟨he1, he2⟩, he3⟩ := he
    split at he1
    ·rename_i fs ht
     have hfs : P.fieldsOf t = fs := by simp [Program.fieldsOf, ht]
     cases hc with
     | agg o1 l1 r1 => cases hd with
      | agg o2 l2 r2 =>
       refine ⟨?_, run_eqGuard_agg w op t y z _ _ (by simpa using he3), by simp, by simp, by simp, by simp⟩
       rw [eqm, run_equalIn_agg w 9999 t _ _ (by rw [hfs]; exact ht) (by simpa using he2), hfs]
       exact run_flat (n := 9998) _ ks 0 _ _ b he1 hfit.1 hfit.2 h
        (fun j u hj => by rw [Nat.zero_add]; exact VRels.arr (VRels.of_agg (.agg o1 l1 r1)) j u hj)
        (fun j u hj => by rw [Nat.zero_add]; exact VRels.arr (VRels.of_agg (.agg o2 l2 r2)) j u hj)
    ·cases he1
   ·cases h
  ·cases h

theorem run_bin {op : BinOp} {e : EqK} {t : Nat} (he : eqkOk P e t = true) {u v q : AV} (h : bin op e u v = some q) {c d : Value} (hc : VRel w.heap G u c) (hd : VRel w.heap G v d) {y z : Operand} :
  ∃ r w', (do eqGuard op t y z c d; binOp op t c d : Sem Value).run P w = .ok r w' ∧ Drew w w' ∧ VRel w.heap G q r := by
 have lift : ∀ {r w'}, (eqGuard op t y z c d).run P w = .ok () w → (binOp op t c d).run P w = .ok r w' → (do eqGuard op t y z c d; binOp op t c d : Sem Value).run P w = .ok r w' := by
  intro r w' h1 h2
  rw [Sem.run_bind, h1]
  exact h2
 unfold bin at h
 split at h
 ·-- ints
  have := hc.int_inv; have := hd.int_inv; subst_vars
  have hg : ∀ k n k' m, (eqGuard op t y z (.int k n) (.int k' m)).run P w = .ok () w := by intro k n k' m; cases op <;> simp [eqGuard]
  split at h
  ·obtain ⟨r, h1, h2⟩ := run_shBin (P := P) (w := w) (G := G) (t := t) (kd' := by assumption) (.inl rfl) h
   exact ⟨r, w, lift (hg _ _ _ _) h1, .refl w, h2⟩
  ·obtain ⟨r, h1, h2⟩ := run_shBin (P := P) (w := w) (G := G) (t := t) (kd' := by assumption) (.inr rfl) h
   exact ⟨r, w, lift (hg _ _ _ _) h1, .refl w, h2⟩
  ·split at h
   ·rename_i hk; subst hk
    obtain ⟨r, h1, h2⟩ := run_intBin (P := P) (w := w) (G := G) (t := t) h
    exact ⟨r, w, lift (hg _ _ _ _) h1, .refl w, h2⟩
   ·cases h
 ·obtain ⟨b, rfl, e1⟩ := hc.flt_inv
  obtain ⟨b', rfl, e2⟩ := hd.flt_inv
  obtain ⟨r, w', h1, h2, h3⟩ := run_fltBin (P := P) (w := w) (G := G) (t := t) h e1 e2
  exact ⟨r, w', lift (by cases op <;> simp [eqGuard]) h1, h2, h3⟩
 ·have := hc.str_inv; have := hd.str_inv; subst_vars
  obtain ⟨r, h1, h2⟩ := run_strBin (P := P) (w := w) (G := G) (t := t) h
  exact ⟨r, w, lift (by cases op <;> simp [eqGuard]) h1, .refl w, h2⟩
 ·split at h
  ·rw [Option.map_eq_some_iff] at h
   obtain ⟨b, hb, rfl⟩ := h
   obtain ⟨h1, h2, h3, h4, h5, h6⟩ := run_eqV (w := w) (op := .eql) (y := y) (z := z) he hb hc hd
   refine ⟨.bool b, w, lift h2 ?_, .refl w, .bool⟩
   have hb' : binOp .eql t c d = (do pure (.bool (← Op.equal t c d))) := by
    unfold binOp
    split <;> first
     | rfl
     | exact absurd ⟨rfl, rfl⟩ (h3 _ _ _ _)
     | exact absurd ⟨rfl, rfl⟩ (h4 _ _ _ _)
     | exact absurd ⟨rfl, rfl⟩ (h5 _ _)
     | exact absurd ⟨rfl, rfl⟩ (h6 _ _ _ _ _ _)
     | simp_all
   rw [hb', Sem.run_bind, h1]; rfl
  ·rw [Option.map_eq_some_iff] at h
   obtain ⟨b, hb, rfl⟩ := h
   obtain ⟨h1, h2, h3, h4, h5, h6⟩ := run_eqV (w := w) (op := .neq) (y := y) (z := z) he hb hc hd
   refine ⟨.bool !b, w, lift h2 ?_, .refl w, .bool⟩
   have hb' : binOp .neq t c d = (do pure (.bool (!(← Op.equal t c d)))) := by
    unfold binOp
    split <;> first
     | rfl
     | exact absurd ⟨rfl, rfl⟩ (h3 _ _ _ _)
     | exact absurd ⟨rfl, rfl⟩ (h4 _ _ _ _)
     | exact absurd ⟨rfl, rfl⟩ (h5 _ _)
     | exact absurd ⟨rfl, rfl⟩ (h6 _ _ _ _ _ _)
     | simp_all
   rw [hb', Sem.run_bind, h1]; rfl
  ·cases h

/-- A step that leaves a value after some draws. -/
theorem op_drew (S : St Z N w G lm env loc σ a) (C : Cont Z N k x G lm w a o.dst.toList K) (hd : ∀ t, o.dst = some t → t < N) {c : Value} {v : AV} {w' : World}
  (hrun : (execOp a.eval o).run P w = .ok (.value c) w') (hw : Drew w w') (he : VRel w.heap G v c) (hk : k (put env o.dst (.v v)) loc σ = some x) : o.wp P a w K Q := by
 have le : Le w.heap w'.heap G G := by rw [hw.1]; exact .refl _ _
 exact op_done S C (.inl hrun) (S.hi.draw w' hw.1 hw.2.1 hw.2.2.1 hw.2.2.2) le hd (e := .v v) (he.mono le) hk

theorem sound_bin (S : St Z N w G lm env loc σ a) (C : Cont Z N k x G lm w a o.dst.toList K) (hd : ∀ t, o.dst = some t → t < N) {op : BinOp} {t : Nat} {ty : TypeId} {y z : Operand} {y0 z0 : Opd} {e : EqK}
  (ho : o.op = .binOp op t y z ty) (hy : opdOk y y0 = true) (hz : opdOk z z0 = true) (he : eqkOk P e t = true)
  (hk : opK D o.dst (.bin op e y0 z0) env loc σ k = some x) : o.wp P a w K Q := by
 simp only [opK] at hk
 obtain ⟨u, hu, hk⟩ := val_some hk
 obtain ⟨v, hv, hk⟩ := val_some hk
 obtain ⟨q, hq, hk⟩ := bind_some hk
 obtain ⟨r, w', h1, h2, h3⟩ := run_bin (P := P) (y := y) (z := z) he hq (val_rel S hy hu) (val_rel S hz hv)
 refine op_drew S C hd (w' := w') (c := r) ?_ h2 h3 hk
 unfold execOp
 simp only [ho]
 rw [Sem.run_bind, h1]; rfl

theorem sound_un (S : St Z N w G lm env loc σ a) (C : Cont Z N k x G lm w a o.dst.toList K) (hd : ∀ t, o.dst = some t → t < N) {op : UnOp} {ty : TypeId} {y : Operand} {y0 : Opd}
  (ho : o.op = .unOp op ty y) (hy : opdOk y y0 = true)
  (hk : opK D o.dst (.un op y0) env loc σ k = some x) : o.wp P a w K Q := by
 simp only [opK] at hk
 obtain ⟨u, hu, hk⟩ := val_some hk
 obtain ⟨q, hq, hk⟩ := bind_some hk
 have hr := val_rel S hy hu
 have key : ∃ r, (Op.unary op (a.eval y)).run P w = .ok r w ∧ VRel w.heap G q r := by
  unfold un at hq
  split at hq
  ·cases hq; have e := hr.int_inv; rw [e]; exact ⟨_, by simp [Op.unary, Op.intArith], .int⟩
  ·cases hq; have e := hr.int_inv; rw [e]; exact ⟨_, by simp [Op.unary, Op.intBits], .int⟩
  ·cases hq
   obtain ⟨b, e, hn⟩ := hr.flt_inv
   rw [e]
   refine ⟨.float .f64 (Op.negFloat .f64 b), by simp [Op.unary], .flt ?_⟩
   rcases hn with rfl | ⟨h1, h2⟩
   ·exact .inl rfl
   ·exact .inr ⟨by rw [neg_nan]; exact h1, by rw [neg_nan]; exact h2⟩
  ·cases hq; have e := hr.bool_inv; rw [e]; exact ⟨_, by simp [Op.unary], .bool⟩
  ·cases hq
 obtain ⟨r, h1, h2⟩ := key
 refine op_drew S C hd (w' := w) (c := r) ?_ (.refl w) h2 hk
 unfold execOp
 simp only [ho]
 rw [Sem.run_bind, h1]; rfl
end
end Go.Asm
/- What each operation comes to: fifth part: slices. -/
namespace Go.Asm

section
variable {ρ : Type} {P : Program} {Z : Base} {N : Nat} {w : World} {G : Gh} {lm : Nat → Option Nat} {env : Env} {loc : Loc} {σ : Store} {a : Act}
 {k : Env → Loc → Store → Option ρ} {x : ρ} {K : Act → World → Prop} {Q : Exit → Act → World → Prop} {o : Oper} {D : Ctx}

def lenOk (P : Program) (t : Nat) (kd : LK) : Bool :=
 match P.underlying t, kd with
 | some .string, .str => true
 | some (.slice _), .sl => true
 | some (.map _ _), .mp => true
 | _, _ => false

theorem run_len {t : Nat} {y : Operand} (ho : o.op = .call { callee := .builtin .len, args := #[y], argTypes := #[t] }) {c : Value}
  (h : (Builtin.len_ #[t] o.type #[a.eval y]).run P w = .ok c w) : (execOp a.eval o).run P w = .ok (.value c) w := by
 unfold execOp
 simp only [ho, resolve, invoke, builtin, Sem.run_bind, Sem.run_pure, Result.andThen_ok, List.map_toArray, List.map_cons, List.map_nil, h]

theorem run_lenV {t : Nat} {kd : LK} (ht : lenOk P t kd = true) (H : HI Z w G lm loc σ) {v u : AV} (hv : lenV kd v σ = some u) {c : Value} (hc : VRel w.heap G v c) (ty : TypeId) :
  ∃ n : Int, u = i64 n ∧ (Builtin.len_ #[t] ty #[c]).run P w = .ok (.int .i64 n) w := by
 unfold lenOk at ht
 split at ht
 ·rename_i hu
  cases v <;> simp only [lenV, reduceCtorEq] at hv
  cases hv
  have := hc.str_inv; subst this
  exact ⟨_, rfl, by simp [Builtin.len_, run_underlying hu, goInt]⟩
 ·rename_i e hu
  have fin : ∀ b n cap, (Builtin.len_ #[t] ty #[.slice b n cap]).run P w = .ok (.int .i64 n) w := fun b n cap => by simp [Builtin.len_, run_underlying hu, goInt]
  cases v <;> simp only [lenV, reduceCtorEq] at hv <;> cases hv <;> cases hc <;> exact ⟨_, rfl, fin _ _ _⟩
 ·rename_i e hu
  have fin0 : (Builtin.len_ #[t] ty #[.map none]).run P w = .ok (.int .i64 0) w := by simp [Builtin.len_, run_underlying hu, goInt]
  have fin : ∀ (r : Nat) (es : Array MapEntry) (clock : Nat), w.heap[r]? = some (.map es clock) → (Builtin.len_ #[t] ty #[.map (some r)]).run P w = .ok (.int .i64 es.size) w := fun r es clock hr => by
   simp [Builtin.len_, run_underlying hu, goInt, run_getObj_map w r es clock hr]
  cases v <;> simp only [lenV, reduceCtorEq] at hv
  case nilmap => cases hv; cases hc; exact ⟨_, rfl, fin0⟩
  case pmap ks vs =>
   cases hv; cases hc
   ·exact ⟨_, rfl, fin0⟩
   ·rename_i r es clock hf he h1 h2 _ _
    exact ⟨_, rfl, by rw [fin r es clock he, h1]⟩
 ·cases ht

theorem sound_len (S : St Z N w G lm env loc σ a) (C : Cont Z N k x G lm w a o.dst.toList K) (hd : ∀ t, o.dst = some t → t < N) {t : Nat} {y : Operand} {y0 : Opd} {kd : LK}
  (ho : o.op = .call { callee := .builtin .len, args := #[y], argTypes := #[t] }) (hy : opdOk y y0 = true) (ht : lenOk P t kd = true)
  (h : opK D o.dst (.len kd y0) env loc σ k = some x) : o.wp P a w K Q := by
 obtain ⟨v, hv, h⟩ := val_some h
 obtain ⟨u, hu, h⟩ := bind_some h
 obtain ⟨n, rfl, hr⟩ := run_lenV ht S.hi hu (val_rel S hy hv) o.type
 exact op_val (e := .v (i64 n)) S C hd (run_len ho hr) .int h

/-! #### slicing -/
def opdOOk : Option Operand → Option Opd → Bool
 | none, none => true
 | some o, some x => opdOk o x
 | _, _ => false
theorem valO_some (S : St Z N w G lm env loc σ a) {lo : Option Operand} {lo0 : Option Opd} (hl : opdOOk lo lo0 = true) {k : Option AV → Option ρ} {r : ρ} (h : valO env lo0 k = some r) :
  ∃ v, k v = some r ∧ ∀ d n, bound v d = some n → (lo = none ∧ n = d) ∨ ∃ y kd, lo = some y ∧ a.eval y = .int kd n := by
 cases lo0 with
 | none => cases lo with
  | none => exact ⟨none, h, fun d n hb => .inl ⟨rfl, by simpa [bound, eq_comm] using hb⟩⟩
  | some => simp [opdOOk] at hl
 | some x => cases lo with
  | none => simp [opdOOk] at hl
  | some y =>
   obtain ⟨v, hv, h⟩ := val_some h
   refine ⟨some v, h, fun d n hb => .inr ?_⟩
   have hr := val_rel S hl hv
   cases v <;> simp only [bound, reduceCtorEq] at hb
   cases hb
   exact ⟨y, _, rfl, hr.int_inv⟩
theorem run_bounds {isS : Bool} {len cap : Nat} {lo hi : Option Operand} {l h : Int} (hlo : (lo = none ∧ l = 0) ∨ ∃ y kd, lo = some y ∧ a.eval y = .int kd l)
  (hhi : (hi = none ∧ h = len) ∨ ∃ y kd, hi = some y ∧ a.eval y = .int kd h) (h0 : 0 ≤ l) (h1 : l ≤ h) (h2 : h ≤ cap) :
  (Instr.sliceBounds isS len cap (lo.map a.eval) (hi.map a.eval) none).run P w = .ok (l.toNat, h.toNat, cap) w := by
 have hh : 0 ≤ h := by omega
 have hb : ∀ kd, (Instr.sliceBound (.int kd h) cap (if isS then .sliceAcap else .sliceAlen)).run P w = .ok h.toNat w := fun kd => by simp [Instr.sliceBound, asIntOf, hh, h2]
 have hb2 : ∀ kd code, (Instr.sliceBound (.int kd l) h.toNat code).run P w = .ok l.toNat w := fun kd code => by
  have h3 : l ≤ h.toNat := by omega
  simp only [Instr.sliceBound, asIntOf, Sem.run_bind, Sem.run_pure, Result.andThen_ok, if_pos (show 0 ≤ l ∧ l ≤ (h.toNat : Int) from ⟨h0, h3⟩)]
 unfold Instr.sliceBounds
 rcases hhi with ⟨rfl, rfl⟩ | ⟨y, kd, rfl, hy⟩
 ·have ht : ((len : Int)).toNat = len := by omega
  rw [ht] at hb2 ⊢
  rcases hlo with ⟨rfl, rfl⟩ | ⟨z, kd', rfl, hz⟩
  ·simp
  ·simp only [Option.map_some, Option.map_none, hz, Sem.run_bind, Sem.run_pure, Result.andThen_ok, hb2]
 ·rcases hlo with ⟨rfl, rfl⟩ | ⟨z, kd', rfl, hz⟩
  ·simp only [Option.map_some, Option.map_none, hy, Sem.run_bind, Sem.run_pure, Result.andThen_ok, hb]; rfl
  ·simp only [Option.map_some, Option.map_none, hy, hz, Sem.run_bind, Sem.run_pure, Result.andThen_ok, hb, hb2]

theorem run_sliceOp {t sz e : Nat} {y : Operand} {lo hi : Option Operand} {b : Option Addr} {len cap : Nat} {l h : Int} (ho : o.op = .slice t y lo hi none) (hu : P.underlying t = some (.slice e)) (hsz : szOk P e sz = true)
  (hy : a.eval y = .slice b len cap) (hlo : (lo = none ∧ l = 0) ∨ ∃ y kd, lo = some y ∧ a.eval y = .int kd l)
  (hhi : (hi = none ∧ h = len) ∨ ∃ y kd, hi = some y ∧ a.eval y = .int kd h) (h0 : 0 ≤ l) (h1 : l ≤ h) (h2 : h ≤ cap) :
  (execOp a.eval o).run P w = .ok (.value (.slice (if cap = l.toNat then b else b.map (·.add (l.toNat * sz))) (h.toNat - l.toNat) (cap - l.toNat))) w := by
 unfold execOp
 have hb := run_bounds (P := P) (w := w) (isS := true) hlo hhi h0 h1 h2
 have key : (Instr.sliceAt t (.slice b len cap) (lo.map a.eval) (hi.map a.eval) none).run P w = .ok (.slice (if cap = l.toNat then b else b.map (·.add (l.toNat * sz))) (h.toNat - l.toNat) (cap - l.toNat)) w := by
  simp only [Instr.sliceAt, Instr.slice, Sem.run_bind, run_underlying hu, Result.andThen_ok, hb, run_sizeOf hsz, Sem.run_pure]
 simp only [ho, hy, Option.map_none, Sem.run_bind, key, Result.andThen_ok, Sem.run_pure]


/-- What `s[l:h]` of a row of immutable data comes to. -/
theorem VRel.slice_p {h : Array Obj} {sz : Nat} {rows : List AV} {b : Option Addr} {n cap : Nat} (r : VRel h G (.pslice sz rows) (.slice b n cap)) {l m : Nat} (h1 : l ≤ m) (h2 : m ≤ rows.length) :
  n = rows.length ∧ m ≤ cap ∧ VRel h G (.pslice sz ((rows.take m).drop l)) (.slice (if cap = l then b else b.map (·.add (l * sz))) (m - l) (cap - l)) := by
 cases r with
 | pnil =>
  simp only [List.length_nil] at h2
  have hm : m = 0 := by omega
  subst hm
  have hl : l = 0 := by omega
  subst hl
  exact ⟨rfl, Nat.le_refl _, by simpa using VRel.pnil⟩
 | pslice ad cap cs hf hcap hrow hc hv =>
  have key : ∀ ad' : Addr, ((rows.take m).drop l).length = m - l := fun _ => by simp; omega
  refine ⟨rfl, by omega, ?_⟩
  have hn : m - l = ((rows.take m).drop l).length := by simp; omega
  have hb : (if cap = l then some ad else (some ad).map (·.add (l * sz))) = some (if cap = l then ad else ad.add (l * sz)) := by split <;> rfl
  rw [hb, hn]
  have get : ∀ (i : Nat) (q : AV), ((rows.take m).drop l)[i]? = some q → rows[l + i]? = some q ∧ l + i < m := by
   intro i q hq
   rw [List.getElem?_drop, List.getElem?_take] at hq
   split at hq
   ·exact ⟨hq, by assumption⟩
   ·cases hq
  have hne : ∀ (i : Nat) (q : AV), ((rows.take m).drop l)[i]? = some q → cap ≠ l := fun i q hq => by have := (get i q hq).2; omega
  refine .pslice _ _ (fun i j => cs (l + i) j) (fun hl => ?_) (by rw [← hn]; omega) (fun i q hq => hrow _ q (get i q hq).1) (fun i row j v hi hj => ?_) (fun i row j v hi hj => hv _ row j v (get i _ hi).1 hj)
  ·have hp : 0 < rows.length * sz := by
    rw [← hn] at hl
    rcases Nat.eq_zero_or_pos sz with e | e
    ·subst e; simp at hl
    ·rcases Nat.eq_zero_or_pos (m - l) with e' | e'
     ·rw [e'] at hl; simp at hl
     ·exact Nat.mul_pos (by omega) e
   split
   ·exact hf hp
   ·rw [add_block]; exact hf hp
  ·rw [if_neg (hne i _ hi), add_add]
   have := hc _ row j v (get i _ hi).1 hj
   rwa [Nat.add_mul, Nat.add_assoc] at this

/-- No element has any size. -/
theorem VRel.resize {h : Array Obj} {s sz : Nat} {rows : List AV} {c : Value} (r : VRel h G (.pslice s rows) c) (e : s = sz ∨ rows.length = 0) : VRel h G (.pslice sz rows) c := by
 rcases e with rfl | e
 ·exact r
 ·have : rows = [] := List.length_eq_zero_iff.1 e
  subst this
  cases r with
  | pnil => exact .pnil
  | pslice ad cap cs hf hcap hrow hc hv => exact .pslice (rows := []) ad cap cs (fun hl => by simp at hl) hcap (fun i r hi => by simp at hi) (fun i r j v hi => by simp at hi) (fun i r j v hi => by simp at hi)

theorem sound_slice (S : St Z N w G lm env loc σ a) (C : Cont Z N k x G lm w a o.dst.toList K) (hd : ∀ t, o.dst = some t → t < N) {t sz : Nat} {y : Operand} {y0 : Opd} {lo hi : Option Operand} {lo0 hi0 : Option Opd}
  (ho : o.op = .slice t y lo hi none) (hy : opdOk y y0 = true) (hlo : opdOOk lo lo0 = true) (hhi : opdOOk hi hi0 = true) (ht : sliceOk P t sz = true)
  (h : opK D o.dst (.slice sz y0 lo0 hi0) env loc σ k = some x) : o.wp P a w K Q := by
 obtain ⟨v, hv, ha⟩ := val_some h
 clear h
 obtain ⟨lo1, hb, hl1⟩ := valO_some S hlo ha
 clear ha
 obtain ⟨hi1, hc, hh1⟩ := valO_some S hhi hb
 clear hb
 obtain ⟨u, hu, h⟩ := bind_some hc
 clear hc
 obtain ⟨e, hue, hsz⟩ := sliceOk_inv ht
 have hr := val_rel S hy hv
 unfold sliceV at hu
 split at hu
 ·obtain ⟨l, hl, hu1⟩ := bind_some hu
  clear hu
  obtain ⟨m, hm, hu⟩ := bind_some hu1
  clear hu1
  split at hu
  ·rename_i hc
   obtain ⟨hsz', h0, h1, h2⟩ := hc
   cases hu
   have hr := hr.resize hsz'
   have hex : ∃ b n cap, a.eval y = .slice b n cap := by
    cases hr' : a.eval y <;> rw [hr'] at hr <;> cases hr <;> exact ⟨_, _, _, rfl⟩
   obtain ⟨b, n, cap, hyv⟩ := hex
   rw [hyv] at hr
   obtain ⟨e1, e2, e3⟩ := hr.slice_p (l := l.toNat) (m := m.toNat) (by omega) (by omega)
   subst e1
   exact op_val (e := .v _) S C hd (run_sliceOp ho hue hsz hyv (hl1 _ _ hl) (hh1 _ _ hm) h0 h1 (by omega)) e3 h
  ·cases hu
 ·rename_i s b off len
  obtain ⟨l, hl, hu1⟩ := bind_some hu
  clear hu
  obtain ⟨m, hm, hu⟩ := bind_some hu1
  clear hu1
  split at hu
  ·rename_i hc
   obtain ⟨rfl, h0, h1, h2⟩ := hc
   generalize hyv : a.eval y = c at hr
   cases hr with
   | hslice hg hlc hcap =>
    rename_i g gm cap
    have hrun := run_sliceOp ho hue hsz hyv (hl1 _ _ hl) (hh1 _ _ hm) h0 h1 (by omega) (P := P) (w := w)
    refine op_val (e := .v u) S C hd hrun ?_ h
    split at hu
    ·rename_i hl0
     cases hu
     subst hl0
     have e1 : (if cap = (0 : Int).toNat then some (⟨g, off, none⟩ : Addr) else (some (⟨g, off, none⟩ : Addr)).map (·.add ((0 : Int).toNat * s))) = some ⟨g, off, none⟩ := by
      split
      ·rfl
      ·simp [Addr.add]
     rw [e1]
     exact .hslice hg (by simp; omega) (by simpa using hcap)
    ·split at hu
     ·rename_i hl0 hlm
      cases hu
      subst hlm
      rw [Nat.sub_self]
      have e1 : (if cap = l.toNat then some (⟨g, off, none⟩ : Addr) else (some (⟨g, off, none⟩ : Addr)).map (·.add (l.toNat * s))) = some (if cap = l.toNat then ⟨g, off, none⟩ else (⟨g, off, none⟩ : Addr).add (l.toNat * s)) := by split <;> rfl
      rw [e1]
      exact .pslice (rows := []) _ _ (fun _ _ => undef) (fun hl => by simp at hl) (Nat.zero_le _) (fun i r hi => by simp at hi) (fun i r j v hi => by simp at hi) (fun i r j v hi => by simp at hi)
     ·rename_i hl0 hlm
      cases hu
      rw [if_neg (show ¬ cap = l.toNat by omega)]
      simp only [Option.map_some, add_mk]
      refine .hslice hg (by omega) ?_
      have e2 : cap * s = l.toNat * s + (cap - l.toNat) * s := by rw [← Nat.add_mul]; congr 1; omega
      omega
  ·cases hu
 ·obtain ⟨l, hl, hu1⟩ := bind_some hu
  clear hu
  obtain ⟨m, hm, hu⟩ := bind_some hu1
  clear hu1
  split at hu
  ·rename_i hc
   obtain ⟨rfl, rfl⟩ := hc
   cases hu
   generalize hyv : a.eval y = c at hr
   cases hr
   exact op_val (e := .v .nilslice) S C hd (run_sliceOp ho hue hsz hyv (hl1 _ _ hl) (hh1 _ _ hm) (by omega) (by omega) (by omega)) (show VRel w.heap G .nilslice _ from by simpa using VRel.nilslice) h
  ·cases hu
 ·cases hu
end
end Go.Asm
/- What each operation comes to: sixth part. -/
namespace Go.Asm

section
variable {ρ : Type} {P : Program} {Z : Base} {N : Nat} {w : World} {G : Gh} {lm : Nat → Option Nat} {env : Env} {loc : Loc} {σ : Store} {a : Act}
 {k : Env → Loc → Store → Option ρ} {x : ρ} {K : Act → World → Prop} {Q : Exit → Act → World → Prop} {o : Oper} {D : Ctx}

def isStr (P : Program) (t : Nat) : Bool :=
 match P.underlying t with
 | some .string => true
 | _ => false
theorem isStr_inv {t : Nat} (h : isStr P t = true) : P.underlying t = some .string := by
 unfold isStr at h
 split at h
 ·assumption
 ·cases h

theorem sound_idxS (S : St Z N w G lm env loc σ a) (C : Cont Z N k x G lm w a o.dst.toList K) (hd : ∀ t, o.dst = some t → t < N) {t : Nat} {y z : Operand} {y0 z0 : Opd}
  (ho : o.op = .index t y z) (hy : opdOk y y0 = true) (hz : opdOk z z0 = true) (ht : isStr P t = true)
  (h : opK D o.dst (.idxS y0 z0) env loc σ k = some x) : o.wp P a w K Q := by
 obtain ⟨v, hv, h⟩ := val_some h
 obtain ⟨v2, hv2, h⟩ := val_some h
 obtain ⟨u, hu, h⟩ := bind_some h
 have hr := val_rel S hy hv
 have hr2 := val_rel S hz hv2
 have hte := isStr_inv ht
 unfold idxS at hu
 split at hu
 ·rename_i s kd i
  split at hu
  ·rename_i hi
   rw [Option.map_eq_some_iff] at hu
   obtain ⟨b, hb, rfl⟩ := hu
   refine op_val (e := .v _) (c := .int .u8 b.toNat) S C hd ?_ .int h
   unfold execOp
   simp only [ho, hr.str_inv, hr2.int_inv, Instr.index, asIntOf, Sem.run_bind, Sem.run_pure, Result.andThen_ok, run_underlying hte, if_pos hi, hb]
  ·cases hu
 ·cases hu

theorem sound_sliceS (S : St Z N w G lm env loc σ a) (C : Cont Z N k x G lm w a o.dst.toList K) (hd : ∀ t, o.dst = some t → t < N) {t : Nat} {y : Operand} {y0 : Opd} {lo hi : Option Operand} {lo0 hi0 : Option Opd}
  (ho : o.op = .slice t y lo hi none) (hy : opdOk y y0 = true) (hlo : opdOOk lo lo0 = true) (hhi : opdOOk hi hi0 = true) (ht : isStr P t = true)
  (h : opK D o.dst (.sliceS y0 lo0 hi0) env loc σ k = some x) : o.wp P a w K Q := by
 obtain ⟨v, hv, ha⟩ := val_some h
 clear h
 obtain ⟨lo1, hb, hl1⟩ := valO_some S hlo ha
 clear ha
 obtain ⟨hi1, hc, hh1⟩ := valO_some S hhi hb
 clear hb
 obtain ⟨u, hu, h⟩ := bind_some hc
 clear hc
 have hte := isStr_inv ht
 have hr := val_rel S hy hv
 unfold sliceS at hu
 split at hu
 ·rename_i s
  obtain ⟨l, hl, hu1⟩ := bind_some hu
  clear hu
  obtain ⟨m, hm, hu⟩ := bind_some hu1
  clear hu1
  split at hu
  ·rename_i hc
   obtain ⟨h0, h1, h2⟩ := hc
   cases hu
   refine op_val (e := .v _) (c := .string (s.extract l.toNat m.toNat)) S C hd ?_ .str h
   have hb := run_bounds (P := P) (w := w) (isS := false) (hl1 _ _ hl) (hh1 _ _ hm) h0 h1 h2
   unfold execOp
   simp only [ho, hr.str_inv, Instr.sliceAt, Instr.slice, Sem.run_bind, Sem.run_pure, Result.andThen_ok, run_underlying hte, Option.map_none, Option.isSome_none, Bft, if_false, hb]
  ·cases hu
 ·cases hu

theorem sound_mkIface (S : St Z N w G lm env loc σ a) (C : Cont Z N k x G lm w a o.dst.toList K) (hd : ∀ t, o.dst = some t → t < N) {t : Nat} {y : Operand} {y0 : Opd}
  (ho : o.op = .makeInterface t y) (hy : opdOk y y0 = true) (ht : (match P.underlying t with
   | some (.interface _) => false
   | some _ => true
   | none => false) = true)
  (h : opK D o.dst (.mkIface t y0) env loc σ k = some x) : o.wp P a w K Q := by
 obtain ⟨v, hv, h⟩ := val_some h
 refine op_val (e := .v (.iface t v)) (c := .iface t (a.eval y)) S C hd ?_ (.iface (val_rel S hy hv)) h
 unfold execOp
 simp only [ho, Instr.makeInterface]
 cases hu : P.underlying t with
 | none => simp [hu] at ht
 | some d => cases d <;> simp_all [run_underlying hu]

theorem sound_mkFunc (S : St Z N w G lm env loc σ a) (C : Cont Z N k x G lm w a o.dst.toList K) (hd : ∀ t, o.dst = some t → t < N) {f : Nat} {first captured : Array Operand} {first0 captured0 : List Opd}
  (ho : o.op = .makeFunc (.func f) first captured) (h1 : opdsOk first.toList first0 = true) (h2 : opdsOk captured.toList captured0 = true)
  (h : opK D o.dst (.mkFunc f first0 captured0) env loc σ k = some x) : o.wp P a w K Q := by
 obtain ⟨vs, hvs, h⟩ := vals_some S h1 h
 obtain ⟨us, hus, h⟩ := vals_some S h2 h
 refine op_val (e := .v (.func f vs us)) (c := .func (.func f) (first.map a.eval) (captured.map a.eval)) S C hd ?_ ?_ h
 ·unfold execOp
  simp only [ho, Instr.makeFunc, Sem.run_bind, Sem.run_pure, Result.andThen_ok]
 ·refine .func (by have := hvs.1; simpa using this) (by have := hus.1; simpa using this) (fun i v c hv hc => hvs.2 i v c hv ?_) (fun i v c hv hc => hus.2 i v c hv ?_)
  ·rw [← Array.toList_map, Array.getElem?_toList]; exact hc
  ·rw [← Array.toList_map, Array.getElem?_toList]; exact hc

theorem sound_extr (S : St Z N w G lm env loc σ a) (C : Cont Z N k x G lm w a o.dst.toList K) (hd : ∀ t, o.dst = some t → t < N) {i : Nat} {y : Operand} {y0 : Opd}
  (ho : o.op = .extract y i) (hy : opdOk y y0 = true)
  (h : opK D o.dst (.extr y0 i) env loc σ k = some x) : o.wp P a w K Q := by
 obtain ⟨v, hv, h1⟩ := val_some h
 clear h
 obtain ⟨u, hu, h⟩ := bind_some h1
 clear h1
 have hr := val_rel S hy hv
 unfold extr at hu
 split at hu
 ·rename_i vs
  generalize hyv : a.eval y = c at hr
  cases hr with
  | tuple h1 h2 =>
   rename_i arr
   obtain ⟨c, hc, hrc⟩ := VRels.arr (VRels.of_tuple (.tuple h1 h2)) i u hu
   refine op_val (e := .v u) (c := c) S C hd ?_ hrc h
   unfold execOp
   simp only [ho, hyv, Instr.extract, hc, Sem.run_bind, Sem.run_pure, Result.andThen_ok]
 ·cases hu

/-! #### building -/
def partsOk (tot : Nat) (place : Nat → Option (Nat × Nat)) : List (Nat × Operand) → List (Nat × Nat × Bool × Opd) → Bool
 | [], [] => true
 | (i, o) :: r, (off, n, agg, p) :: r' => (match place i with
   | some (off', n') => off'.beq off && n'.beq n && (agg || n.beq 1) && !n.beq 0 && (off + n).ble tot
   | none => false) && opdOk o p && partsOk tot place r r'
 | _, _ => false

theorem foldl_setA (arr : Array Value) (off : Nat) (us : List Value) : ∀ (n : Nat), (us.zipIdx n).foldl (fun cs (c, j) => cs.setIfInBounds (off + j) c) arr = setA arr (off + n) us := by
 induction us generalizing arr with
 | nil => intro n; rfl
 | cons u us ih =>
  intro n
  simp only [List.zipIdx_cons, List.foldl_cons]
  rw [ih, setA]
  rfl
theorem zipIdx_foldl_setA (arr us : Array Value) (off : Nat) : us.zipIdx.foldl (fun cs (c, j) => cs.setIfInBounds (off + j) c) arr = setA arr off us.toList := by
 have := foldl_setA arr off us.toList 0
 rw [← Array.foldl_toList]
 simpa using this

theorem build_fill (S : St Z N w G lm env loc σ a) {place : Nat → Option (Nat × Nat)} : ∀ {ps : List (Nat × Operand)} {qs : List (Nat × Nat × Bool × Opd)} {cells : List AV} {arr : Array Value} {k : List AV → Option ρ} {r : ρ},
  partsOk arr.size place ps qs = true → VRels w.heap G cells arr.toList → Ones arr.toList → buildK env cells qs k = some r →
  ∃ arr' cells', Instr.fill place arr (ps.map fun p => (p.1, a.eval p.2)) = some arr' ∧ VRels w.heap G cells' arr'.toList ∧ Ones arr'.toList ∧ k cells' = some r
 | [], [], cells, arr, k, r, _, hr, ho, h => ⟨arr, cells, rfl, hr, ho, h⟩
 | (i, o) :: ps, (off, n, agg, p) :: qs, cells, arr, k, r, hp, hr, ho, h => by
  simp only [partsOk, Bae] at hp
  obtain ⟨⟨hpl, hop⟩, hrest⟩ := hp
  split at hpl
  ·rename_i off' n' hpi
   simp only [Bae] at hpl
   obtain ⟨⟨⟨⟨e1, e2⟩, e3⟩, e4⟩, e5⟩ := hpl
   have e1 := Nat.eq_of_beq_eq_true e1
   have e2 := Nat.eq_of_beq_eq_true e2
   subst e1; subst e2
   obtain ⟨v, hv, h⟩ := val_some h
   have hvr := val_rel S hop hv
   have hpos : 0 < n' := by
    rcases Nat.eq_zero_or_pos n' with e | e
    ·subst e; simp at e4
    ·exact e
   obtain ⟨us, hk, hlen, hcl⟩ := cellsK_some h (fun hag => by subst hag; simpa using e3) hpos
   obtain ⟨q1, q2⟩ := hcl hvr
   have hsz : (a.eval o).cells.size = n' := by have := q1.1; rw [hlen] at this; simpa using this.symm
   have hfit := Nat.le_of_ble_eq_true e5
   have hset : VRels w.heap G (setL cells off' us) (setA arr off' (a.eval o).cells.toList).toList := by
    refine ⟨by rw [setL_length]; simpa [setA_size] using hr.1, fun j u c hu hc => ?_⟩
    have hP := PRel.setL (fun j u hj => VRels.arr hr j u hj) q1 off'
    obtain ⟨c', hc', hrel⟩ := hP j u hu
    rw [Array.getElem?_toList, hc'] at hc
    cases hc
    exact hrel
   obtain ⟨arr', cells', f1, f2, f3, f4⟩ := build_fill S (arr := setA arr off' (a.eval o).cells.toList) (by rw [setA_size]; exact hrest) hset (setA_ones ho q2) hk
   refine ⟨arr', cells', ?_, f2, f3, f4⟩
   simp only [List.map_cons, Instr.fill, hpi]
   rw [if_neg (by simp [hsz]; omega), zipIdx_foldl_setA]
   exact f1
  ·cases hpl
 | [], _ :: _, _, _, _, _, hp, _, _, _ => by simp [partsOk] at hp
 | _ :: _, [], _, _, _, _, hp, _, _, _ => by simp [partsOk] at hp

/-- Where the parts of a struct or an array lie. -/
def placesL (P : Program) : List Field → Option (List (Nat × Nat))
 | [] => some []
 | f :: r => match P.info? f.type, placesL P r with
  | some i, some l => some ((f.offset, i.size) :: l)
  | _, _ => none
def buildOk (P : Program) (t : Nat) (zero : List AV) (ps : List (Nat × Operand)) (qs : List (Nat × Nat × Bool × Opd)) : Bool :=
 zeroOk P t zero &&
 match P.underlying t with
 | some (.struct fs) => match placesL P fs.toList with
  | some l => partsOk zero.length (l[·]?) ps qs
  | none => false
 | some (.array _ e) => match P.info? e with
  | some i => partsOk zero.length (fun j => some (j * i.size, i.size)) ps qs
  | none => false
 | _ => false
theorem run_places : ∀ (fs : List Field) (l : List (Nat × Nat)), placesL P fs = some l → (fs.mapM fun f => do pure (f.offset, ← sizeOf f.type) : Sem (List (Nat × Nat))).run P w = .ok l w
 | [], l, h => by cases h; simp
 | f :: fs, l, h => by
  simp only [placesL] at h
  split at h
  ·rename_i i l' h1 h2
   cases h
   have ih := run_places fs l' h2
   have hs : (sizeOf f.type).run P w = .ok i.size w := by simp [sizeOf, typeInfo, h1]
   simp only [List.mapM_cons, Sem.run_bind, hs, Result.andThen_ok, Sem.run_pure, ih]
  ·cases h

theorem sound_build (S : St Z N w G lm env loc σ a) (C : Cont Z N k x G lm w a o.dst.toList K) (hd : ∀ t, o.dst = some t → t < N) {t : Nat} {zero : List AV} {ps : Array (Nat × Operand)} {qs : List (Nat × Nat × Bool × Opd)}
  (ho : o.op = .build t ps) (hb : buildOk P t zero ps.toList qs = true) (h : opK D o.dst (.build zero qs) env loc σ k = some x) : o.wp P a w K Q := by
 simp only [buildOk, Bae] at hb
 obtain ⟨hz, hb⟩ := hb
 obtain ⟨z, hz1, hz2, hz3⟩ := zero_run hz
 have hlen : zero.length = z.cells.size := by have := (hz3 w.heap G).1; simpa using this
 simp only [opK] at h
 have fin : ∀ place, partsOk zero.length place ps.toList qs = true →
   (∀ arr, Instr.fill place z.cells (ps.toList.map fun p => (p.1, a.eval p.2)) = some arr → (execOp a.eval o).run P w = .ok (.value (.agg arr)) w) → o.wp P a w K Q := by
  intro place hp hrun
  rw [hlen] at hp
  obtain ⟨arr', cells', f1, f2, f3, f4⟩ := build_fill S hp (hz3 w.heap G) hz2 h
  exact op_val (e := .v (.agg cells')) S C hd (hrun arr' f1) (f2.agg f3) f4
 have hps : ∀ arr place, Instr.fill place z.cells (ps.toList.map fun p => (p.1, a.eval p.2)) = some arr → Instr.fill place z.cells (ps.map fun (i, y) => (i, a.eval y)).toList = some arr := by
  intro arr place h
  rw [Array.toList_map]
  exact h
 split at hb
 ·rename_i fs hu
  split at hb
  ·rename_i l hl
   refine fin _ hb (fun arr harr => ?_)
   have hm : (fs.mapM fun f => do pure (f.offset, ← sizeOf f.type) : Sem (Array (Nat × Nat))).run P w = .ok l.toArray w := by
    rw [Array.mapM_eq_mapM_toList]
    simp only [Sem.run_map, run_places fs.toList l hl]
    rfl
   have := hps arr _ harr
   unfold execOp
   simp only [ho, Instr.build, Sem.run_bind, hz1, Result.andThen_ok, run_underlying hu, hm, List.getElem?_toArray, this, Sem.run_pure]
  ·cases hb
 ·rename_i len e hu
  split at hb
  ·rename_i i hi
   refine fin _ hb (fun arr harr => ?_)
   have := hps arr _ harr
   unfold execOp
   simp only [ho, Instr.build, Sem.run_bind, hz1, Result.andThen_ok, run_underlying hu, sizeOf, typeInfo, run_program, hi, this, Sem.run_pure]
  ·cases hb
 ·cases hb

/-! #### slices of literals -/
def rpartsOk (len sz : Nat) : List (Nat × Operand) → List (Nat × Bool × Opd) → Bool
 | [], [] => true
 | (i, o) :: r, (j, agg, p) :: r' => i.beq j && (agg || sz.beq 1) && i.blt len && opdOk o p && rpartsOk len sz r r'
 | _, _ => false

/-- Rows of a slice being built, and the model's flat cells. -/
def RRel (h : Array Obj) (G : Gh) (sz : Nat) (rows : List AV) (arr : Array Value) : Prop :=
 arr.size = rows.length * sz ∧ (∀ (i : Nat) (r : AV), rows[i]? = some r → ∃ row : List AV, r = .agg row ∧ row.length = sz) ∧
 ∀ (i : Nat) (row : List AV) (j : Nat) (v : AV), rows[i]? = some (.agg row) → row[j]? = some v → ∃ c : Value, arr[i * sz + j]? = some c ∧ VRel h G v c

theorem setA_get_lt (arr : Array Value) (off : Nat) (us : List Value) (i : Nat) (h : i < off) : (setA arr off us)[i]? = arr[i]? := by
 induction us generalizing arr off with
 | nil => rfl
 | cons u us ih =>
  rw [setA, ih _ _ (by omega), Array.getElem?_setIfInBounds_ne (by omega)]
theorem setA_get_ge (arr : Array Value) (off : Nat) (us : List Value) (i : Nat) (h : off + us.length ≤ i) : (setA arr off us)[i]? = arr[i]? := by
 induction us generalizing arr off with
 | nil => rfl
 | cons u us ih =>
  simp only [List.length_cons] at h
  rw [setA, ih _ _ (by omega), Array.getElem?_setIfInBounds_ne (by omega)]
theorem setA_get_in (arr : Array Value) (off : Nat) (us : List Value) (j : Nat) (hj : j < us.length) (hfit : off + us.length ≤ arr.size) : (setA arr off us)[off + j]? = us[j]? := by
 induction us generalizing arr off j with
 | nil => simp at hj
 | cons u us ih =>
  simp only [List.length_cons] at hj hfit
  cases j with
  | zero =>
   rw [setA, setA_get_lt _ _ _ _ (by omega)]
   have : off < arr.size := by omega
   simp [this]
  | succ j =>
   rw [setA, show off + (j + 1) = (off + 1) + j by omega, ih _ _ _ (by omega) (by simp; omega)]
   simp

theorem RRel.set {h : Array Obj} {sz : Nat} {rows : List AV} {arr : Array Value} (r : RRel h G sz rows arr) {i : Nat} (hi : i < rows.length) {us : List AV} {cs : List Value} (hus : us.length = sz) (q : VRels h G us cs) :
  RRel h G sz (rows.set i (.agg us)) (setA arr (i * sz) cs) := by
 obtain ⟨h1, h2, h3⟩ := r
 have hcs : cs.length = sz := by rw [← q.1]; exact hus
 have hfit : i * sz + cs.length ≤ arr.size := by
  rw [h1, hcs]
  have : (i + 1) * sz ≤ rows.length * sz := Nat.mul_le_mul_right _ hi
  rw [Nat.add_mul] at this; omega
 refine ⟨by rw [setA_size, List.length_set]; exact h1, fun j r hj => ?_, fun j row m v hj hm => ?_⟩
 ·rw [List.getElem?_set] at hj
  by_cases e : i = j
  ·rw [if_pos e, if_pos hi] at hj
   cases hj; exact ⟨us, rfl, hus⟩
  ·rw [if_neg e] at hj; exact h2 j r hj
 ·rw [List.getElem?_set] at hj
  by_cases e : i = j
  ·subst e
   rw [if_pos rfl, if_pos hi] at hj
   cases hj
   have hml := (List.getElem?_eq_some_iff.1 hm).1
   obtain ⟨c, hc, hr⟩ := q.get hm
   exact ⟨c, by rw [setA_get_in _ _ _ _ (by omega) hfit]; exact hc, hr⟩
  ·rw [if_neg e] at hj
   obtain ⟨c, hc, hr⟩ := h3 j row m v hj hm
   obtain ⟨row', e1, e2⟩ := h2 j _ hj
   cases e1
   have hml := (List.getElem?_eq_some_iff.1 hm).1
   refine ⟨c, ?_, hr⟩
   rcases Nat.lt_or_gt_of_ne e with hlt | hgt
   ·have : (i + 1) * sz ≤ j * sz := Nat.mul_le_mul_right _ hlt
    rw [Nat.add_mul] at this
    rw [setA_get_ge _ _ _ _ (by omega)]; exact hc
   ·have : (j + 1) * sz ≤ i * sz := Nat.mul_le_mul_right _ hgt
    rw [Nat.add_mul] at this
    rw [setA_get_lt _ _ _ _ (by omega)]; exact hc

theorem rows_fill (S : St Z N w G lm env loc σ a) {sz : Nat} (hsz : 0 < sz) : ∀ {ps : List (Nat × Operand)} {qs : List (Nat × Bool × Opd)} {rows : List AV} {arr : Array Value} {k : List AV → Option ρ} {r : ρ},
  rpartsOk rows.length sz ps qs = true → RRel w.heap G sz rows arr → Ones arr.toList → rowsK env sz rows qs k = some r →
  ∃ arr' rows', Instr.fill (fun i => some (i * sz, sz)) arr (ps.map fun p => (p.1, a.eval p.2)) = some arr' ∧ RRel w.heap G sz rows' arr' ∧ Ones arr'.toList ∧ rows'.length = rows.length ∧ k rows' = some r
 | [], [], rows, arr, k, r, _, hr, ho, h => ⟨arr, rows, rfl, hr, ho, rfl, h⟩
 | (i, o) :: ps, (j, agg, p) :: qs, rows, arr, k, r, hp, hr, ho, h => by
  simp only [rpartsOk, Bae] at hp
  obtain ⟨⟨⟨⟨e1, e3⟩, e4⟩, hop⟩, hrest⟩ := hp
  have e1 := Nat.eq_of_beq_eq_true e1
  subst e1
  have e4 : i < rows.length := Nat.le_of_ble_eq_true e4
  obtain ⟨v, hv, h⟩ := val_some h
  have hvr := val_rel S hop hv
  obtain ⟨us, hk, hlen, hcl⟩ := cellsK_some h (fun hag => by subst hag; simpa using e3) hsz
  obtain ⟨q1, q2⟩ := hcl hvr
  have hcs : (a.eval o).cells.size = sz := by have := q1.1; rw [hlen] at this; simpa using this.symm
  obtain ⟨arr', rows', f1, f2, f3, f4, f5⟩ := rows_fill S hsz (rows := rows.set i (.agg us)) (by rw [List.length_set]; exact hrest) (hr.set e4 hlen q1) (setA_ones ho q2) hk
  refine ⟨arr', rows', ?_, f2, f3, by rw [f4, List.length_set], f5⟩
  simp only [List.map_cons, Instr.fill]
  have hfit : (i + 1) * sz ≤ rows.length * sz := Nat.mul_le_mul_right _ e4
  rw [Nat.add_mul] at hfit
  rw [if_neg (by simp [hcs, hr.1]; omega), zipIdx_foldl_setA]
  exact f1
 | [], _ :: _, _, _, _, _, hp, _, _, _ => by simp [rpartsOk] at hp
 | _ :: _, [], _, _, _, _, hp, _, _, _ => by simp [rpartsOk] at hp

def bsliceOk (P : Program) (t sz : Nat) (zero : List AV) (len : Nat) (ps : List (Nat × Operand)) (qs : List (Nat × Bool × Opd)) : Bool :=
 match P.underlying t with
 | some (.slice e) => szOk P e sz && !sz.beq 0 && (len * sz).ble 16777216 && (if len = 0 then true else zeroOk P e zero && zero.length.beq sz) && rpartsOk len sz ps qs
 | _ => false

theorem zeros_get (zero : List AV) : ∀ (n i : Nat), (zeros zero n)[i]? = if i < n then some (.agg zero) else none
 | 0, i => by simp [zeros]
 | n + 1, 0 => by simp [zeros]
 | n + 1, i + 1 => by simp [zeros, zeros_get zero n i]
theorem zeros_length (zero : List AV) (n : Nat) : (zeros zero n).length = n := by
 induction n with
 | zero => rfl
 | succ n ih => simp [zeros, ih]

/-- The zero cells of n elements. -/
theorem made_rel {zero : List AV} {z : Value} {sz : Nat} (hz : ∀ hp G, VRels hp G zero z.cells.toList) (ho : Ones z.cells.toList) (hzl : zero.length = sz) (hsz : 0 < sz) (n : Nat) :
  RRel w.heap G sz (zeros zero n) (madeCells z.cells (n * sz)) ∧ Ones (madeCells z.cells (n * sz)).toList := by
 have hzs : z.cells.size = sz := by have := (hz w.heap G).1; rw [hzl] at this; simpa using this.symm
 have hget : ∀ i, i < n * sz → (madeCells z.cells (n * sz))[i]? = z.cells[i % sz]? := by
  intro i hi
  have hm : i % sz < z.cells.size := by rw [hzs]; exact Nat.mod_lt _ hsz
  simp [madeCells, hi, hzs]
  rw [getElem!_pos z.cells (i % sz) hm]
  simp [hm]
 refine ⟨⟨by rw [size_madeCells, zeros_length], fun i r hi => ?_, fun i row j v hi hj => ?_⟩, Ones.of fun i c hi => ?_⟩
 ·rw [zeros_get] at hi
  split at hi
  ·cases hi; exact ⟨zero, rfl, hzl⟩
  ·cases hi
 ·rw [zeros_get] at hi
  split at hi
  ·rename_i hin
   cases hi
   have hjl := (List.getElem?_eq_some_iff.1 hj).1
   obtain ⟨c, hc, hr⟩ := VRels.arr (hz w.heap G) j v hj
   refine ⟨c, ?_, hr⟩
   have : (i + 1) * sz ≤ n * sz := Nat.mul_le_mul_right _ hin
   rw [Nat.add_mul] at this
   rw [hget _ (by omega), Nat.add_comm, Nat.add_mul_mod_self_right, Nat.mod_eq_of_lt (by omega)]
   exact hc
  ·cases hi
 ·rw [Array.getElem?_toList] at hi
  have hil := (Array.getElem?_eq_some_iff.1 hi).1
  rw [size_madeCells] at hil
  rw [hget _ hil, ← Array.getElem?_toList] at hi
  exact ho.get hi

theorem run_bslice {t e len sz : Nat} {ps : Array (Nat × Operand)} {z : Value} {zc : Array Value} {arr : Array Value} (ho : o.op = .buildSlice t len ps) (hu : P.underlying t = some (.slice e)) (hsz : szOk P e sz = true) (h24 : len * sz ≤ 16777216)
  (hzc : zc = madeCells z.cells (len * sz)) (hz : len * sz ≠ 0 → (zeroValue e).run P w = .ok z w)
  (hf : Instr.fill (fun i => some (i * sz, sz)) zc (ps.toList.map fun p => (p.1, a.eval p.2)) = some arr) :
  (execOp a.eval o).run P w = .ok (.value (.slice (some ⟨w.heap.size, 0, none⟩) len len)) (w.alloc (.cells arr e)) := by
 have h24' : ¬ (16777216 < len * sz) := by omega
 have hps : Instr.fill (fun i => some (i * sz, sz)) zc (ps.map fun (i, y) => (i, a.eval y)).toList = some arr := by rw [Array.toList_map]; exact hf
 subst hzc
 have key : (Instr.buildSlice t len (ps.map fun (i, y) => (i, a.eval y))).run P w = .ok (.slice (some ⟨w.heap.size, 0, none⟩) len len) (w.alloc (.cells arr e)) := by
  simp only [Instr.buildSlice, Sem.run_bind, run_underlying hu, Result.andThen_ok, run_sizeOf hsz]
  rw [if_neg (by simpa using h24')]
  by_cases h0 : len * sz = 0
  ·have e0 : (Array.range (len * sz)).map (fun i => (#[] : Array Value)[i % (#[] : Array Value).size]!) = madeCells z.cells (len * sz) := by simp [h0, madeCells]
   rw [if_pos h0]
   simp only [Sem.run_bind, Sem.run_pure, Result.andThen_ok, e0, hps, newRow, run_newObj]
   rfl
  ·rw [if_neg h0]
   simp only [Sem.run_bind, Sem.run_pure, Result.andThen_ok, hz h0, newRow, run_newObj]
   rw [show (Array.range (len * sz)).map (fun i => z.cells[i % z.cells.size]!) = madeCells z.cells (len * sz) from rfl, hps]
   simp only [Sem.run_bind, Sem.run_pure, Result.andThen_ok, run_newObj]
   rfl
 unfold execOp
 simp only [ho, Sem.run_bind, key, Result.andThen_ok, Sem.run_pure]

theorem bslice_parts {t sz len : Nat} {zero : List AV} {ps : Array (Nat × Operand)} {qs : List (Nat × Bool × Opd)} (S : St Z N w G lm env loc σ a) (ho : o.op = .buildSlice t len ps) (hb : bsliceOk P t sz zero len ps.toList qs = true)
  {k : List AV → Option ρ} {r : ρ} (h : rowsK env sz (zeros zero len) qs k = some r) :
  ∃ arr e rows, (execOp a.eval o).run P w = .ok (.value (.slice (some ⟨w.heap.size, 0, none⟩) len len)) (w.alloc (.cells arr e)) ∧ RRel w.heap G sz rows arr ∧ Ones arr.toList ∧ rows.length = len ∧ k rows = some r ∧ 0 < sz := by
 unfold bsliceOk at hb
 split at hb
 ·rename_i e hu
  simp only [Bae] at hb
  obtain ⟨⟨⟨⟨b1, b2⟩, b3⟩, b4⟩, b5⟩ := hb
  have hpos : 0 < sz := by
   rcases Nat.eq_zero_or_pos sz with q | q
   ·subst q; simp at b2
   ·exact q
  have h24 := Nat.le_of_ble_eq_true b3
  have hstart : ∃ z : Value, (len * sz ≠ 0 → (zeroValue e).run P w = .ok z w) ∧ RRel w.heap G sz (zeros zero len) (madeCells z.cells (len * sz)) ∧ Ones (madeCells z.cells (len * sz)).toList := by
   split at b4
   ·rename_i h0
    subst h0
    refine ⟨undef, fun h => absurd (Nat.zero_mul _) h, ⟨by simp [size_madeCells, zeros], fun i r hi => by simp [zeros] at hi, fun i row j v hi => by simp [zeros] at hi⟩, fun c hc => by simp [madeCells] at hc⟩
   ·simp only [Bae] at b4
    obtain ⟨z, z1, z2, z3⟩ := zero_run b4.1
    obtain ⟨r1, r2⟩ := made_rel (w := w) (G := G) z3 z2 (Nat.eq_of_beq_eq_true b4.2) hpos len
    exact ⟨z, fun _ => z1 w, r1, r2⟩
  obtain ⟨z, z1, z2, z3⟩ := hstart
  obtain ⟨arr, rows, f1, f2, f3, f4, f5⟩ := rows_fill S hpos (by rw [zeros_length]; exact b5) z2 z3 h
  exact ⟨arr, e, rows, run_bslice ho hu b1 h24 rfl z1 f1, f2, f3, by rw [f4, zeros_length], f5, hpos⟩
 ·cases hb

theorem sound_pslice (S : St Z N w G lm env loc σ a) (C : Cont Z N k x G lm w a o.dst.toList K) (hd : ∀ t, o.dst = some t → t < N) {t sz len : Nat} {zero : List AV} {ps : Array (Nat × Operand)} {qs : List (Nat × Bool × Opd)}
  (ho : o.op = .buildSlice t len ps) (hb : bsliceOk P t sz zero len ps.toList qs = true) (h : opK D o.dst (.pslice sz zero len qs) env loc σ k = some x) : o.wp P a w K Q := by
 obtain ⟨arr, e, rows, hrun, hr, hone, hlen, hk, hpos⟩ := bslice_parts S ho hb h
 obtain ⟨H', le⟩ := S.hi.garbage (.cells arr e)
 refine op_done S C (.inl hrun) H' le hd (e := .v (.pslice sz rows)) ?_ hk
 rw [← hlen]
 refine .pslice _ _ (fun i j => arr.toList.getD (i * sz + j) undef) (fun _ => .inr rfl) (Nat.le_refl _) hr.2.1 (fun i row j v hi hj => ?_) (fun i row j v hi hj => ?_)
 ·obtain ⟨c, hc, _⟩ := hr.2.2 i row j v hi hj
  rw [add_mk, cellOf_mk (show (w.alloc (.cells arr e)).heap[w.heap.size]? = some (.cells arr e) from get_push_new)]
  rw [← Array.getElem?_toList] at hc
  simp only [Nat.zero_add]
  rw [← Array.getElem?_toList, hc, List.getD_eq_getElem?_getD, hc]
  exact ⟨rfl, hone.get hc⟩
 ·obtain ⟨c, hc, hrc⟩ := hr.2.2 i row j v hi hj
  rw [← Array.getElem?_toList] at hc
  rw [List.getD_eq_getElem?_getD, hc]
  exact hrc.mono le

theorem flatRows_get {sz : Nat} : ∀ {rows : List AV}, (∀ (i : Nat) (r : AV), rows[i]? = some r → ∃ row : List AV, r = .agg row ∧ row.length = sz) →
  (flatRows rows).length = rows.length * sz ∧ ∀ (i : Nat) (v : AV), (flatRows rows)[i]? = some v → ∃ (q j : Nat) (row : List AV), i = q * sz + j ∧ rows[q]? = some (.agg row) ∧ row[j]? = some v
 | [], _ => ⟨by simp [flatRows], fun i v h => by simp [flatRows] at h⟩
 | r :: rows, h => by
  obtain ⟨row, rfl, hrow⟩ := h 0 r rfl
  obtain ⟨ih1, ih2⟩ := flatRows_get (rows := rows) (fun i r hi => h (i + 1) r (by simpa using hi))
  refine ⟨by simp [flatRows, AV.cells, ih1, hrow, Nat.add_mul]; omega, fun i v hi => ?_⟩
  simp only [flatRows, AV.cells] at hi
  by_cases hlt : i < row.length
  ·rw [List.getElem?_append_left hlt] at hi
   exact ⟨0, i, row, by simp, rfl, hi⟩
  ·rw [List.getElem?_append_right (by omega)] at hi
   obtain ⟨q, j, row', e1, e2, e3⟩ := ih2 _ v hi
   exact ⟨q + 1, j, row', by rw [Nat.add_mul]; omega, by simpa using e2, e3⟩

theorem sound_hslice (S : St Z N w G lm env loc σ a) (C : Cont Z N k x G lm w a o.dst.toList K) (hd : ∀ t, o.dst = some t → t < N) {t sz len : Nat} {zero : List AV} {ps : Array (Nat × Operand)} {qs : List (Nat × Bool × Opd)}
  (ho : o.op = .buildSlice t len ps) (hb : bsliceOk P t sz zero len ps.toList qs = true) (h : opK D o.dst (.hslice sz zero len qs) env loc σ k = some x) : o.wp P a w K Q := by
 obtain ⟨arr, e, rows, hrun, hr, hone, hlen, hk, hpos⟩ := bslice_parts S ho hb h
 obtain ⟨l1, l2⟩ := flatRows_get hr.2.1
 refine op_heap (cs := flatRows rows) (e := .hslice sz σ.next 0 len) S C hd hrun ⟨by rw [l1]; simpa using hr.1.symm, fun i v c hi hc => ?_⟩ hone ?_ hk
 ·obtain ⟨q, j, row, rfl, e2, e3⟩ := l2 i v hi
  obtain ⟨c', hc', hrc⟩ := hr.2.2 q row j v e2 e3
  rw [Array.getElem?_toList, hc'] at hc
  cases hc
  exact hrc
 ·exact .hslice (m := arr.size) (by simp [Gh.add]) (Nat.le_refl _) (by rw [hr.1, hlen]; simp)
end
end Go.Asm
