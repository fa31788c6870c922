import Derived.Test.YtebmeojmlakkoaaDoorAsm1
import Derived.Orders
import Derived.Below
set_option linter.all false
/- How abstract values and stores stand for the model's: the relation and how it is kept. -/
namespace Go.Asm

/-- Ghost: which blocks are immutable from here on; which block (and how many cells) stands for a block of the abstract store. -/
structure Gh where
  Fz : Nat → Prop
  bm : Nat → Option (Nat × Nat)

def isNan (b : Nat) : Bool := (FloatKind.f64.decode b).isNaN
def nanEq (b c : Nat) : Prop := b = c ∨ (isNan b = true ∧ isNan c = true)

def cellOf (h : Array Obj) (a : Addr) : Option Value :=
  match h[a.block]? with
  | some (.cells c _ _) => if a.spot.isSome then none else c[a.off]?
  | _ => none
theorem cell_cellOf (w : World) (a : Addr) : w.cell? a = cellOf w.heap a := rfl

def Ones (l : List Value) : Prop := ∀ c ∈ l, c.oneCell' = true
theorem Ones.get {l : List Value} (o : Ones l) {i : Nat} {c : Value} (h : l[i]? = some c) : c.oneCell' = true := o c (List.mem_of_getElem? h)
theorem Ones.of {l : List Value} (h : ∀ (i : Nat) c, l[i]? = some c → c.oneCell' = true) : Ones l := fun c hc => by
  obtain ⟨i, hi⟩ := List.getElem?_of_mem hc; exact h i c hi
theorem Ones.take {l : List Value} (o : Ones l) (n : Nat) : Ones (l.take n) := fun c hc => o c (List.mem_of_mem_take hc)
theorem Ones.drop {l : List Value} (o : Ones l) (n : Nat) : Ones (l.drop n) := fun c hc => o c (List.mem_of_mem_drop hc)
theorem Ones.append {l m : List Value} (a : Ones l) (b : Ones m) : Ones (l ++ m) := fun c hc => by
  rcases List.mem_append.1 hc with h | h
  · exact a c h
  · exact b c h

inductive VRel (h : Array Obj) (G : Gh) : AV → Value → Prop
  | undef {c} : VRel h G .undef c
  | bool {b} : VRel h G (.bool b) (.bool b)
  | int {k n} : VRel h G (.int k n) (.int k n)
  | flt {b c} : nanEq b c → VRel h G (.flt b) (.float .f64 c)
  | str {s} : VRel h G (.str s) (.string s)
  | nilptr : VRel h G .nilptr (.pointer none)
  | hptr {x off g m} : G.bm x = some (g, m) → VRel h G (.hptr x off) (.pointer (some ⟨g, off, none⟩))
  | pptr {row off} (a : Addr) (cs : Nat → Value) : G.Fz a.block →
      (∀ (j : Nat) (v : AV), row[off + j]? = some v → cellOf h (a.add j) = some (cs j) ∧ (cs j).oneCell' = true) →
      (∀ j v, row[off + j]? = some v → VRel h G v (cs j)) → VRel h G (.pptr row off) (.pointer (some a))
  | gptr {g} : VRel h G (.gptr g) (.pointer (some ⟨g, 0, none⟩))
  | nilslice : VRel h G .nilslice (.slice none 0 0)
  | pnil {sz} : VRel h G (.pslice sz []) (.slice none 0 0)
  | pslice {sz rows} (a : Addr) (cap : Nat) (cs : Nat → Nat → Value) : (0 < rows.length * sz → G.Fz a.block) → rows.length ≤ cap →
      (∀ (i : Nat) (r : AV), rows[i]? = some r → ∃ row : List AV, r = AV.agg row ∧ row.length = sz) →
      (∀ (i : Nat) (row : List AV) (j : Nat) (v : AV), rows[i]? = some (AV.agg row) → row[j]? = some v → cellOf h (a.add (i * sz + j)) = some (cs i j) ∧ (cs i j).oneCell' = true) →
      (∀ (i : Nat) (row : List AV) (j : Nat) (v : AV), rows[i]? = some (AV.agg row) → row[j]? = some v → VRel h G v (cs i j)) →
      VRel h G (.pslice sz rows) (.slice (some a) rows.length cap)
  | hslice {sz x off len g m cap} : G.bm x = some (g, m) → len ≤ cap → off + cap * sz ≤ m → VRel h G (.hslice sz x off len) (.slice (some ⟨g, off, none⟩) len cap)
  | nilmap : VRel h G .nilmap (.map none)
  | pmnil : VRel h G (.pmap [] []) (.map none)
  | pmap {ks vs r es clock} : G.Fz r → h[r]? = some (.map es clock) → ks.length = es.size → vs.length = es.size →
      (∀ (i : Nat) k e, ks[i]? = some k → es[i]? = some e → VRel h G k e.key) →
      (∀ (i : Nat) v e, vs[i]? = some v → es[i]? = some e → VRel h G v e.val) → VRel h G (.pmap ks vs) (.map (some r))
  | hmap {x g m} : G.bm x = some (g, m) → VRel h G (.hmap x) (.map (some g))
  | func {f first cap} {cf cc : Array Value} : first.length = cf.size → cap.length = cc.size →
      (∀ (i : Nat) v c, first[i]? = some v → cf[i]? = some c → VRel h G v c) →
      (∀ (i : Nat) v c, cap[i]? = some v → cc[i]? = some c → VRel h G v c) → VRel h G (.func f first cap) (.func (.func f) cf cc)
  | nilfunc : VRel h G .nilfunc .nilFunc
  | iface {t v c} : VRel h G v c → VRel h G (.iface t v) (.iface t c)
  | niliface : VRel h G .niliface .nilIface
  | agg {cs : List AV} {arr : Array Value} : Ones arr.toList → cs.length = arr.size → (∀ (i : Nat) v c, cs[i]? = some v → arr[i]? = some c → VRel h G v c) → VRel h G (.agg cs) (.agg arr)
  | tuple {cs : List AV} {arr : Array Value} : cs.length = arr.size → (∀ (i : Nat) v c, cs[i]? = some v → arr[i]? = some c → VRel h G v c) → VRel h G (.tuple cs) (.tuple arr)

/-- What may happen to memory while a value goes on standing for the same. -/
structure Le (h h' : Array Obj) (G G' : Gh) : Prop where
  fz : ∀ g, G.Fz g → G'.Fz g
  bm : ∀ x p, G.bm x = some p → G'.bm x = some p
  same : ∀ g, G.Fz g → h'[g]? = h[g]?

theorem Le.refl (h : Array Obj) (G : Gh) : Le h h G G := ⟨fun _ h => h, fun _ _ h => h, fun _ _ => rfl⟩
theorem Le.trans {h₁ h₂ h₃ : Array Obj} {G₁ G₂ G₃ : Gh} (a : Le h₁ h₂ G₁ G₂) (b : Le h₂ h₃ G₂ G₃) : Le h₁ h₃ G₁ G₃ :=
  ⟨fun g h => b.fz g (a.fz g h), fun x p h => b.bm x p (a.bm x p h), fun g h => (b.same g (a.fz g h)).trans (a.same g h)⟩

theorem add_block (a : Addr) (n : Nat) : (a.add n).block = a.block := by unfold Addr.add; split <;> rfl
theorem add_add (a : Addr) (i j : Nat) : (a.add i).add j = a.add (i + j) := by
  unfold Addr.add
  by_cases hi : i = 0 <;> by_cases hj : j = 0 <;> simp [hi, hj, Nat.add_assoc]
theorem add_zero (a : Addr) : a.add 0 = a := by simp [Addr.add]
theorem add_mk (g o n : Nat) : Addr.add ⟨g, o, none⟩ n = ⟨g, o + n, none⟩ := by
  unfold Addr.add
  by_cases h : n = 0 <;> simp [h]

theorem cellOf_same {h h' : Array Obj} {a : Addr} (e : h'[a.block]? = h[a.block]?) : cellOf h' a = cellOf h a := by
  simp only [cellOf, e]

theorem VRel.mono {h h' : Array Obj} {G G' : Gh} (le : Le h h' G G') {v : AV} {c : Value} (r : VRel h G v c) : VRel h' G' v c := by
  induction r with
  | undef => exact .undef
  | bool => exact .bool
  | int => exact .int
  | flt e => exact .flt e
  | str => exact .str
  | nilptr => exact .nilptr
  | hptr e => exact .hptr (le.bm _ _ e)
  | pptr a cs hf hc _ ih =>
    exact .pptr a cs (le.fz _ hf) (fun j v hj => ⟨(cellOf_same (by rw [add_block]; exact le.same _ hf)).trans (hc j v hj).1, (hc j v hj).2⟩) ih
  | gptr => exact .gptr
  | nilslice => exact .nilslice
  | pnil => exact .pnil
  | pslice a cap cs hf hcap hrow hc _ ih =>
    refine .pslice a cap cs (fun hl => le.fz _ (hf hl)) hcap hrow (fun i row j v hi hj => ?_) ih
    obtain ⟨row', e, hlen⟩ := hrow i _ hi
    cases e
    have h1 := (List.getElem?_eq_some_iff.1 hi).1
    have h2 := (List.getElem?_eq_some_iff.1 hj).1
    exact ⟨(cellOf_same (by rw [add_block]; exact le.same _ (hf (Nat.mul_pos (by omega) (by omega))))).trans (hc i row j v hi hj).1, (hc i row j v hi hj).2⟩
  | hslice e h1 h2 => exact .hslice (le.bm _ _ e) h1 h2
  | nilmap => exact .nilmap
  | pmnil => exact .pmnil
  | pmap hf he h1 h2 _ _ ih1 ih2 => exact .pmap (le.fz _ hf) ((le.same _ hf).trans he) h1 h2 ih1 ih2
  | hmap e => exact .hmap (le.bm _ _ e)
  | func h1 h2 _ _ ih1 ih2 => exact .func h1 h2 ih1 ih2
  | nilfunc => exact .nilfunc
  | iface _ ih => exact .iface ih
  | niliface => exact .niliface
  | agg h0 h1 _ ih => exact .agg h0 h1 ih
  | tuple h1 _ ih => exact .tuple h1 ih

theorem VRel.gmono {h h' : Array Obj} {F F' : Nat → Prop} (fz : ∀ g, F g → F' g) (same : ∀ g, F g → h'[g]? = h[g]?) {v : AV} {c : Value}
    (r : VRel h ⟨F, fun _ => none⟩ v c) : VRel h' ⟨F', fun _ => none⟩ v c := VRel.mono (G := ⟨F, fun _ => none⟩) (G' := ⟨F', fun _ => none⟩) ⟨fz, fun _ _ h => h, same⟩ r

/-- Lists of values. -/
def VRels (h : Array Obj) (G : Gh) (vs : List AV) (cs : List Value) : Prop := vs.length = cs.length ∧ ∀ (i : Nat) v c, vs[i]? = some v → cs[i]? = some c → VRel h G v c
theorem VRels.mono {h h' : Array Obj} {G G' : Gh} (le : Le h h' G G') {vs cs} (r : VRels h G vs cs) : VRels h' G' vs cs :=
  ⟨r.1, fun i v c h1 h2 => (r.2 i v c h1 h2).mono le⟩
theorem VRels.nil {h G} : VRels h G [] [] := ⟨rfl, fun i v c h => by simp at h⟩
theorem VRels.cons {h G v c vs cs} (a : VRel h G v c) (b : VRels h G vs cs) : VRels h G (v :: vs) (c :: cs) := by
  refine ⟨by simp [b.1], fun i => ?_⟩
  cases i with
  | zero => intro v' c' h1 h2; simp at h1 h2; subst h1; subst h2; exact a
  | succ i => intro v' c' h1 h2; simp at h1 h2; exact b.2 i v' c' h1 h2
theorem VRels.head {h G v vs c cs} (r : VRels h G (v :: vs) (c :: cs)) : VRel h G v c := r.2 0 v c rfl rfl
theorem VRels.tail {h G v vs c cs} (r : VRels h G (v :: vs) (c :: cs)) : VRels h G vs cs :=
  ⟨by simpa using r.1, fun i v c h1 h2 => r.2 (i + 1) v c (by simpa using h1) (by simpa using h2)⟩
theorem VRels.append {h G vs cs vs' cs'} (a : VRels h G vs cs) (b : VRels h G vs' cs') : VRels h G (vs ++ vs') (cs ++ cs') := by
  induction vs generalizing cs with
  | nil => cases cs with
    | nil => simpa using b
    | cons c cs => simp [VRels] at a
  | cons v vs ih => cases cs with
    | nil => simp [VRels] at a
    | cons c cs => exact .cons a.head (ih a.tail)
theorem VRels.get {h G vs cs} (r : VRels h G vs cs) {i : Nat} {v : AV} (hv : vs[i]? = some v) : ∃ c, cs[i]? = some c ∧ VRel h G v c := by
  have hl := (List.getElem?_eq_some_iff.1 hv).1
  have hl' : i < cs.length := by rw [← r.1]; exact hl
  exact ⟨cs[i], List.getElem?_eq_getElem hl', r.2 i v _ hv (List.getElem?_eq_getElem hl')⟩
theorem VRels.of_agg {h G cs} {arr : Array Value} (r : VRel h G (.agg cs) (.agg arr)) : VRels h G cs arr.toList := by
  cases r with
  | agg _ h1 h2 => exact ⟨by simpa using h1, fun i v c a b => h2 i v c a (by simpa using b)⟩
theorem VRels.agg {h G cs} {l : List Value} (r : VRels h G cs l) (o : Ones l) : VRel h G (.agg cs) (.agg ⟨l⟩) :=
  .agg o (by simpa using r.1) fun i v c a b => r.2 i v c a (by simpa using b)
theorem VRels.of_tuple {h G cs} {arr : Array Value} (r : VRel h G (.tuple cs) (.tuple arr)) : VRels h G cs arr.toList := by
  cases r with
  | tuple h1 h2 => exact ⟨by simpa using h1, fun i v c a b => h2 i v c a (by simpa using b)⟩
theorem VRels.tuple {h G cs} {l : List Value} (r : VRels h G cs l) : VRel h G (.tuple cs) (.tuple ⟨l⟩) :=
  .tuple (by simpa using r.1) fun i v c a b => r.2 i v c a (by simpa using b)
theorem VRels.take {h G vs cs} (r : VRels h G vs cs) (n : Nat) : VRels h G (vs.take n) (cs.take n) :=
  ⟨by simp [r.1], fun i v c h1 h2 => by
    rw [List.getElem?_take] at h1 h2
    split at h1
    · rename_i hi; rw [if_pos hi] at h2; exact r.2 i v c h1 h2
    · simp at h1⟩
theorem VRels.drop {h G vs cs} (r : VRels h G vs cs) (n : Nat) : VRels h G (vs.drop n) (cs.drop n) :=
  ⟨by simp [r.1], fun i v c h1 h2 => by rw [List.getElem?_drop] at h1 h2; exact r.2 _ v c h1 h2⟩
theorem VRels.set {h G vs cs v c} (r : VRels h G vs cs) (a : VRel h G v c) (n : Nat) : VRels h G (vs.set n v) (cs.set n c) := by
  refine ⟨by simp [r.1], fun i v' c' h1 h2 => ?_⟩
  rw [List.getElem?_set] at h1 h2
  by_cases e : n = i
  · rw [if_pos e] at h1 h2
    split at h1
    · split at h2
      · cases h1; cases h2; exact a
      · simp at h2
    · simp at h1
  · rw [if_neg e] at h1 h2
    exact r.2 i v' c' h1 h2

/-- The cells of a related value. -/
theorem VRel.cells_rel {h G v c} (r : VRel h G v c) (hu : v.cells ≠ []) : VRels h G v.cells c.cells.toList ∧ Ones c.cells.toList := by
  cases r <;> first
    | exact absurd rfl hu
    | (rename_i h0 h1 h2; exact ⟨⟨by simpa [AV.cells, Value.cells] using h1, fun i v c a b => h2 i v c (by simpa [AV.cells] using a) (by simpa [Value.cells] using b)⟩, by simpa [Value.cells] using h0⟩)
    | (refine ⟨⟨rfl, fun i v c a b => ?_⟩, fun c hc => ?_⟩
       · cases i with
         | zero => simp [AV.cells, Value.cells] at a b; subst a; subst b; first | assumption | (constructor <;> assumption) | constructor
         | succ i => simp [AV.cells] at a
       · simp [Value.cells] at hc; subst hc; rfl)

/-- A block of the abstract store and the model's block that stands for it. -/
def BRel (h : Array Obj) (G : Gh) (b : Blk) (g m : Nat) : Prop :=
  match b with
  | .cells cs => ∃ arr elem, h[g]? = some (.cells arr elem (0, 0)) ∧ arr.size = m ∧ cs.length ≤ m ∧ Ones arr.toList ∧ ∀ (i : Nat) (v : AV), cs[i]? = some v → ∃ c : Value, arr[i]? = some c ∧ VRel h G v c
  | .map ks vs => ∃ es clock, h[g]? = some (.map es clock) ∧ ks.length = es.size ∧ vs.length = es.size ∧
      (∀ (i : Nat) k e, ks[i]? = some k → es[i]? = some e → VRel h G k e.key) ∧ (∀ (i : Nat) v e, vs[i]? = some v → es[i]? = some e → VRel h G v e.val)

theorem BRel.mono {h h' : Array Obj} {G G' : Gh} (le : Le h h' G G') {b g m} (e : h'[g]? = h[g]?) (r : BRel h G b g m) : BRel h' G' b g m := by
  cases b with
  | cells cs =>
    obtain ⟨arr, elem, h1, h2, h3, h3', h4⟩ := r
    exact ⟨arr, elem, e.trans h1, h2, h3, h3', fun i v hi => let ⟨c, a, b⟩ := h4 i v hi; ⟨c, a, b.mono le⟩⟩
  | map ks vs =>
    obtain ⟨es, clock, h1, h2, h3, h4, h5⟩ := r
    exact ⟨es, clock, e.trans h1, h2, h3, fun i k e a b => (h4 i k e a b).mono le, fun i k e a b => (h5 i k e a b).mono le⟩

/-- What a run began with: its memory, the blocks that it may write, the ghost, the package-level variables. -/
structure Base where
  w0 : World
  own : Nat → Prop
  G0 : Gh
  Gl : Nat → Option AV

/-- The whole relation of a store and the boxes of a frame. -/
structure HI (Z : Base) (w : World) (G : Gh) (lm : Nat → Option Nat) (loc : Loc) (σ : Store) : Prop where
  fzlt : ∀ g, G.Fz g → g < w.heap.size
  blk : ∀ x b, σ.blk x = some b → ∃ g m, G.bm x = some (g, m) ∧ ¬ G.Fz g ∧ BRel w.heap G b g m
  inj : ∀ x y, σ.blk x ≠ none → σ.blk y ≠ none → ∀ g m m', G.bm x = some (g, m) → G.bm y = some (g, m') → x = y
  next : ∀ x, σ.next ≤ x → σ.blk x = none ∧ G.bm x = none
  lrel : ∀ s n cs, loc.get s = some (n, cs) → cs.length = n ∧ ∃ g, lm s = some g ∧ ¬ G.Fz g ∧ BRel w.heap G (.cells cs) g n
  linj : ∀ s t, (loc.get s).isSome = true → (loc.get t).isSome = true → ∀ g, lm s = some g → lm t = some g → s = t
  ldis : ∀ s, (loc.get s).isSome = true → ∀ g, lm s = some g → ∀ x b, σ.blk x = some b → ∀ m, G.bm x ≠ some (g, m)
  os : w.os = Z.w0.os
  tape : w.tape = Z.w0.tape
  output : w.output = Z.w0.output
  size : Z.w0.heap.size ≤ w.heap.size
  keep : ∀ g, g < Z.w0.heap.size → ¬ Z.own g → w.heap[g]? = Z.w0.heap[g]?
  fresh : ∀ x b, σ.blk x = some b → ∀ g m, G.bm x = some (g, m) → Z.w0.heap.size ≤ g ∨ Z.own g
  lfresh : ∀ s, (loc.get s).isSome = true → ∀ g, lm s = some g → Z.w0.heap.size ≤ g
  fzfresh : ∀ g, G.Fz g → Z.G0.Fz g ∨ Z.w0.heap.size ≤ g ∨ Z.own g
  fz0 : ∀ g, Z.G0.Fz g → G.Fz g
  bm0 : ∀ x p, Z.G0.bm x = some p → G.bm x = some p
  bmlt : ∀ x g m, G.bm x = some (g, m) → g < w.heap.size
  glob : ∀ g v, Z.Gl g = some v → G.Fz g ∧ ∃ c, cellOf w.heap ⟨g, 0, none⟩ = some c ∧ VRel w.heap ⟨G.Fz, fun _ => none⟩ v c

theorem HI.draw {Z w G lm loc σ} (H : HI Z w G lm loc σ) (w' : World) (h1 : w'.heap = w.heap) (h2 : w'.os = w.os) (h3 : w'.tape = w.tape) (h4 : w'.output = w.output) : HI Z w' G lm loc σ := by
  obtain ⟨a1, a2, a3, a4, a5, a6, a7, a8, a9, a10, a11, a12, a13, a14, a15, a16, a17, a18, a19⟩ := H
  constructor <;> (try rw [h1]) <;> (try rw [h2]) <;> (try rw [h3]) <;> (try rw [h4]) <;> assumption

theorem get_push_lt {h : Array Obj} {o : Obj} {g : Nat} (hg : g < h.size) : (h.push o)[g]? = h[g]? := by
  rw [Array.getElem?_push]; rw [if_neg (by omega)]
theorem get_push_new {h : Array Obj} {o : Obj} : (h.push o)[h.size]? = some o := by simp
theorem lt_of_get {h : Array Obj} {o : Obj} {g : Nat} (e : h[g]? = some o) : g < h.size := (Array.getElem?_eq_some_iff.1 e).1

theorem BRel.lt {h G b g m} (r : BRel h G b g m) : g < h.size := by
  cases b with
  | cells cs => obtain ⟨arr, elem, h1, _⟩ := r; exact lt_of_get h1
  | map ks vs => obtain ⟨es, clock, h1, _⟩ := r; exact lt_of_get h1

/-- A new block that nothing but immutable values lead to. -/
theorem HI.garbage {Z w G lm loc σ} (H : HI Z w G lm loc σ) (o : Obj) :
    HI Z (w.alloc o) ⟨fun g => G.Fz g ∨ g = w.heap.size, G.bm⟩ lm loc σ ∧ Le w.heap (w.alloc o).heap G ⟨fun g => G.Fz g ∨ g = w.heap.size, G.bm⟩ := by
  have hh : (w.alloc o).heap = w.heap.push o := rfl
  have le : Le w.heap (w.alloc o).heap G ⟨fun g => G.Fz g ∨ g = w.heap.size, G.bm⟩ :=
    ⟨fun g h => .inl h, fun x p h => h, fun g h => by rw [hh]; exact get_push_lt (H.fzlt g h)⟩
  refine ⟨?_, le⟩
  have hs : (w.alloc o).heap.size = w.heap.size + 1 := by simp [hh]
  exact
    { fzlt := fun g h => by rw [hs]; rcases h with h | h; · have := H.fzlt g h; omega
                            · omega
      blk := fun x b hb => by
        obtain ⟨g, m, h1, h2, h3⟩ := H.blk x b hb
        have hlt := h3.lt
        exact ⟨g, m, h1, fun h => by rcases h with h | h; · exact h2 h
                                     · omega, h3.mono le (by rw [hh]; exact get_push_lt hlt)⟩
      inj := H.inj
      next := H.next
      lrel := fun s n cs hl => by
        obtain ⟨h0, g, h1, h2, h3⟩ := H.lrel s n cs hl
        have hlt := h3.lt
        exact ⟨h0, g, h1, fun h => by rcases h with h | h; · exact h2 h
                                      · omega, h3.mono le (by rw [hh]; exact get_push_lt hlt)⟩
      linj := H.linj
      ldis := H.ldis
      os := H.os
      tape := H.tape
      output := H.output
      size := by rw [hs]; have := H.size; omega
      keep := fun g hg ho => by rw [hh, get_push_lt (by have := H.size; omega)]; exact H.keep g hg ho
      fresh := H.fresh
      lfresh := H.lfresh
      fzfresh := fun g h => by
        rcases h with h | h
        · exact H.fzfresh g h
        · have := H.size; right; left; omega
      fz0 := fun g h => .inl (H.fz0 g h)
      bm0 := H.bm0
      bmlt := fun x g m h => by rw [hs]; have := H.bmlt x g m h; omega
      glob := fun g v h => by
        obtain ⟨h1, c, h2, h3⟩ := H.glob g v h
        refine ⟨.inl h1, c, ?_, h3.gmono (fun g h => Or.inl h) le.same⟩
        rw [← h2]; exact cellOf_same (by rw [hh]; exact get_push_lt (H.fzlt g h1)) }

end Go.Asm
