/- Part 6 of 8 of a proof. -/
import Derived.Test.YtebmeojmlakkoaaT5
set_option linter.all false
namespace Go.Asm.UnitF
open Go Go.Asm
structure _root_.Go.Asm.LUp where
 loc : Bool
 index : Int
 deriving Inhabited
def encUp (p : LUp) : List AV := [.bool p.loc, .int .i64 p.index]
def encUps (l : List LUp) : AV := .pslice 2 (l.map fun p => .agg (encUp p))
theorem encUp_len (p : LUp) : (encUp p).length = 2 := rfl
section
variable {σ : Store} {k : IntKind} {G : Nat → Option AV}
@[simp] theorem view_Up (n : Nat) (p : LUp) : view σ (n + 2) (.agg (encUp p)) = some (.agg (encUp p)) := by
 simp only [view, encUp, List.mapM_cons, List.mapM_nil]
 simp [view]
@[simp] theorem view_Ups (n : Nat) (l : List LUp) : view σ (n + 3) (encUps l) = some (encUps l) := by
 simp only [encUps]
 rw [view, mapM_same]
 ·rfl
 ·intro x; exact view_Up n x
@[simp] theorem one_encUps (l : List LUp) : one (encUps l) = some (encUps l) := rfl
@[simp] theorem len_encUps (l : List LUp) : lenV .sl (encUps l) σ = some (.int .i64 l.length) := by simp [encUps]
theorem idx_encUps {l : List LUp} {i : Nat} {p : LUp} (h : l[i]? = some p) : idx 2 (encUps l) (.int k i) = some (.pptr (encUp p) 0) := idx_p (by simp [h])
@[simp] theorem rdN_Up (p : LUp) : rdN 2 (.pptr (encUp p) 0) σ = some (encUp p) := rdN_p rfl
@[simp] theorem up_at0 (p : LUp) : (encUp p)[0]? = some (.bool p.loc) := rfl
@[simp] theorem up_at1 (p : LUp) : (encUp p)[1]? = some (.int .i64 p.index) := rfl
end
structure _root_.Go.Asm.LNode where
 kind : Int
 line : Int
 op : Int
 num : Int
 flt : Nat
 str : ByteArray
 refs : List Int
 kids : List Int
 deriving Inhabited
def encNode (p : LNode) : List AV := [.int .i64 p.kind, .int .i64 p.line, .int .i64 p.op, .int .i64 p.num, .flt p.flt, .str p.str, encI p.refs, encI p.kids]
def encNodes (l : List LNode) : AV := .pslice 8 (l.map fun p => .agg (encNode p))
theorem encNode_len (p : LNode) : (encNode p).length = 8 := rfl
section
variable {σ : Store} {k : IntKind} {G : Nat → Option AV}
@[simp] theorem view_Node (n : Nat) (p : LNode) : view σ (n + 4) (.agg (encNode p)) = some (.agg (encNode p)) := by
 simp only [view, encNode, List.mapM_cons, List.mapM_nil]
 simp [view]
@[simp] theorem view_Nodes (n : Nat) (l : List LNode) : view σ (n + 5) (encNodes l) = some (encNodes l) := by
 simp only [encNodes]
 rw [view, mapM_same]
 ·rfl
 ·intro x; exact view_Node n x
@[simp] theorem one_encNodes (l : List LNode) : one (encNodes l) = some (encNodes l) := rfl
@[simp] theorem len_encNodes (l : List LNode) : lenV .sl (encNodes l) σ = some (.int .i64 l.length) := by simp [encNodes]
theorem idx_encNodes {l : List LNode} {i : Nat} {p : LNode} (h : l[i]? = some p) : idx 8 (encNodes l) (.int k i) = some (.pptr (encNode p) 0) := idx_p (by simp [h])
@[simp] theorem rdN_Node (p : LNode) : rdN 8 (.pptr (encNode p) 0) σ = some (encNode p) := rdN_p rfl
@[simp] theorem node_at0 (p : LNode) : (encNode p)[0]? = some (.int .i64 p.kind) := rfl
@[simp] theorem node_at1 (p : LNode) : (encNode p)[1]? = some (.int .i64 p.line) := rfl
@[simp] theorem node_at2 (p : LNode) : (encNode p)[2]? = some (.int .i64 p.op) := rfl
@[simp] theorem node_at3 (p : LNode) : (encNode p)[3]? = some (.int .i64 p.num) := rfl
@[simp] theorem node_at4 (p : LNode) : (encNode p)[4]? = some (.flt p.flt) := rfl
@[simp] theorem node_at5 (p : LNode) : (encNode p)[5]? = some (.str p.str) := rfl
@[simp] theorem node_at6 (p : LNode) : (encNode p)[6]? = some (encI p.refs) := rfl
@[simp] theorem node_at7 (p : LNode) : (encNode p)[7]? = some (encI p.kids) := rfl
end
structure _root_.Go.Asm.LNode.Fits (p : LNode) : Prop where
 str : p.str.size ≤ 9223372036854775807
 refs : p.refs.length ≤ 9223372036854775807
 kids : p.kids.length ≤ 9223372036854775807
structure _root_.Go.Asm.LNode.Small (p : LNode) : Prop where
 str : p.str.size ≤ 1048576
 refs : p.refs.length ≤ 1048576
 kids : p.kids.length ≤ 1048576
structure _root_.Go.Asm.LFn where
 name : ByteArray
 line : Int
 params : Int
 rest : Bool
 vars : List ByteArray
 ups : List LUp
 nodes : List LNode
 deriving Inhabited
def encFn (p : LFn) : List AV := [.str p.name, .int .i64 p.line, .int .i64 p.params, .bool p.rest, encS p.vars, encUps p.ups, encNodes p.nodes]
def encFns (l : List LFn) : AV := .pslice 7 (l.map fun p => .agg (encFn p))
theorem encFn_len (p : LFn) : (encFn p).length = 7 := rfl
section
variable {σ : Store} {k : IntKind} {G : Nat → Option AV}
@[simp] theorem view_Fn (n : Nat) (p : LFn) : view σ (n + 6) (.agg (encFn p)) = some (.agg (encFn p)) := by
 simp only [view, encFn, List.mapM_cons, List.mapM_nil]
 simp [view]
@[simp] theorem view_Fns (n : Nat) (l : List LFn) : view σ (n + 7) (encFns l) = some (encFns l) := by
 simp only [encFns]
 rw [view, mapM_same]
 ·rfl
 ·intro x; exact view_Fn n x
@[simp] theorem one_encFns (l : List LFn) : one (encFns l) = some (encFns l) := rfl
@[simp] theorem len_encFns (l : List LFn) : lenV .sl (encFns l) σ = some (.int .i64 l.length) := by simp [encFns]
theorem idx_encFns {l : List LFn} {i : Nat} {p : LFn} (h : l[i]? = some p) : idx 7 (encFns l) (.int k i) = some (.pptr (encFn p) 0) := idx_p (by simp [h])
@[simp] theorem rdN_Fn (p : LFn) : rdN 7 (.pptr (encFn p) 0) σ = some (encFn p) := rdN_p rfl
@[simp] theorem fn_at0 (p : LFn) : (encFn p)[0]? = some (.str p.name) := rfl
@[simp] theorem fn_at1 (p : LFn) : (encFn p)[1]? = some (.int .i64 p.line) := rfl
@[simp] theorem fn_at2 (p : LFn) : (encFn p)[2]? = some (.int .i64 p.params) := rfl
@[simp] theorem fn_at3 (p : LFn) : (encFn p)[3]? = some (.bool p.rest) := rfl
@[simp] theorem fn_at4 (p : LFn) : (encFn p)[4]? = some (encS p.vars) := rfl
@[simp] theorem fn_at5 (p : LFn) : (encFn p)[5]? = some (encUps p.ups) := rfl
@[simp] theorem fn_at6 (p : LFn) : (encFn p)[6]? = some (encNodes p.nodes) := rfl
end
structure _root_.Go.Asm.LFn.Fits (p : LFn) : Prop where
 name : p.name.size ≤ 9223372036854775807
 vars : p.vars.length ≤ 9223372036854775807
 vars' : ∀ s ∈ p.vars, s.size ≤ 9223372036854775807
 ups : p.ups.length ≤ 9223372036854775807
 nodes : p.nodes.length ≤ 9223372036854775807
 nodes' : ∀ q ∈ p.nodes, q.Fits
structure _root_.Go.Asm.LFn.Small (p : LFn) : Prop where
 name : p.name.size ≤ 1048576
 vars : p.vars.length ≤ 1048576
 vars' : ∀ s ∈ p.vars, s.size ≤ 1048576
 ups : p.ups.length ≤ 1048576
 nodes : p.nodes.length ≤ 1048576
 nodes' : ∀ q ∈ p.nodes, q.Small
section
variable {D : Ctx}
theorem szStringS_loop (l : List ByteArray) (hl : ∀ s ∈ l, s.size ≤ 9223372036854775807) (k : Cur 1) (σ : Store) (h2 : l.length ≤ 1048576) : ∀ (n i : Nat) (left : Int), n = l.length - i → i ≤ l.length → 0 ≤ left → left ≤ 1048576 →
  lpFix 2 (lp_q28_1 D (encS l) k) (.int .i64 left) (.int .i64 i) σ = some (.int .i64 (-1), σ) ∨
   ∃ r : Int, 0 ≤ r ∧ r ≤ left ∧ (∀ (j : Nat) s, i ≤ j → l[j]? = some s → s.size ≤ 1048576) ∧ lpFix 2 (lp_q28_1 D (encS l) k) (.int .i64 left) (.int .i64 i) σ = k (.int .i64 r) σ := by
 intro n
 induction n with
 | zero =>
  intro i left hn hi h0 h1
  right
  refine ⟨left, h0, Int.le_refl _, fun j s hj hs => by have := (List.getElem?_eq_some_iff.1 hs).1; omega, ?_⟩
  rw [lpFix_eq (lp_q28_1_mono _ _ _)]
  have : ¬ ((i : Int) < l.length) := by omega
  simp [lp_q28_1, this]
 | succ n ih =>
  intro i left hn hi h0 h1
  have hil : i < l.length := by omega
  have hs : l[i]? = some l[i] := Lge hil
  have hsm := hl _ (List.getElem_mem hil)
  rw [lpFix_eq (lp_q28_1_mono _ _ _)]
  by_cases hneg : left - l[i].size < 0
  ·left
   simp [lp_q28_1, hil, idx_encS hs, bin_sub (a := left) (b := l[i].size) (by omega) (by omega), hneg]
  ·rcases ih (i + 1) (left - l[i].size) (by omega) (by omega) (by omega) (by omega) with h | ⟨r, r0, r1, hsm, h⟩
   ·left
    simp [lp_q28_1, hil, idx_encS hs, bin_sub (a := left) (b := l[i].size) (by omega) (by omega), hneg, bin_add (a := i) (b := 1) (by omega) (by omega)]
    exact h
   ·right
    refine ⟨r, r0, by omega, fun j s hj hs' => ?_, ?_⟩
    ·by_cases e : j = i
     ·subst e; rw [hs] at hs'; cases hs'; omega
     ·exact hsm j s (by omega) hs'
    simp [lp_q28_1, hil, idx_encS hs, bin_sub (a := left) (b := l[i].size) (by omega) (by omega), hneg, bin_add (a := i) (b := 1) (by omega) (by omega)]
    exact h
theorem szStringS (H : Door D) (l : List ByteArray) (hl : ∀ s ∈ l, s.size ≤ 9223372036854775807) (hn : l.length ≤ 9223372036854775807) (left : Int) (h0 : 0 ≤ left) (h1 : left ≤ 1048576) (σ : Store) :
  ∃ r : Int, D.call 38 [encS l, .int .i64 left] σ = some (.int .i64 r, σ) ∧ r ≤ left ∧ (0 ≤ r → l.length ≤ 1048576 ∧ ∀ s ∈ l, s.size ≤ 1048576) := by
 rw [H.f38]
 unfold sh_q28
 by_cases hneg : left - l.length < 0
 ·exact ⟨-1, by simp [bin_sub (a := left) (b := l.length) (by omega) (by omega), hneg], by omega, by omega⟩
 ·rcases szStringS_loop (D := D) l hl (fun left s => some (left, s)) σ (by omega) l.length 0 (left - l.length) (by omega) (by omega) (by omega) (by omega) with h | ⟨r, r0, r1, hsm, h⟩
  ·refine ⟨-1, ?_, by omega, by omega⟩
   simp [bin_sub (a := left) (b := l.length) (by omega) (by omega), hneg]
   exact h
  ·refine ⟨r, ?_, by omega, fun _ => ⟨by omega, fun s hs => by obtain ⟨j, hj⟩ := List.getElem?_of_mem hs; exact hsm j s (by omega) hj⟩⟩
   simp [bin_sub (a := left) (b := l.length) (by omega) (by omega), hneg]
   exact h
theorem szIntS (H : Door D) (l : List Int) (hn : l.length ≤ 9223372036854775807) (left : Int) (h0 : 0 ≤ left) (h1 : left ≤ 1048576) (σ : Store) :
  ∃ r : Int, D.call 64 [encI l, .int .i64 left] σ = some (.int .i64 r, σ) ∧ r ≤ left ∧ (0 ≤ r → l.length ≤ 1048576) := by
 rw [H.f64]
 unfold sh_q54
 by_cases hneg : left - l.length < 0
 ·exact ⟨-1, by simp [bin_sub (a := left) (b := l.length) (by omega) (by omega), hneg], by omega, by omega⟩
 ·exact ⟨left - l.length, by simp [bin_sub (a := left) (b := l.length) (by omega) (by omega), hneg], by omega, by omega⟩
theorem szUpS (H : Door D) (l : List LUp) (hn : l.length ≤ 9223372036854775807) (left : Int) (h0 : 0 ≤ left) (h1 : left ≤ 1048576) (σ : Store) :
  ∃ r : Int, D.call 39 [encUps l, .int .i64 left] σ = some (.int .i64 r, σ) ∧ r ≤ left ∧ (0 ≤ r → l.length ≤ 1048576) := by
 rw [H.f39]
 unfold sh_q29
 by_cases hneg : left - l.length < 0
 ·exact ⟨-1, by simp [bin_sub (a := left) (b := l.length) (by omega) (by omega), hneg], by omega, by omega⟩
 ·exact ⟨left - l.length, by simp [bin_sub (a := left) (b := l.length) (by omega) (by omega), hneg], by omega, by omega⟩
theorem szNode (H : Door D) (p : LNode) (hp : p.Fits) (left : Int) (h0 : 0 ≤ left) (h1 : left ≤ 1048576) (σ : Store) :
  ∃ r : Int, D.call 52 [.agg (encNode p), .int .i64 left] σ = some (.int .i64 r, σ) ∧ r ≤ left ∧ (0 ≤ r → p.Small) := by
 have htstr := hp.str
 rw [H.f52]
 unfold sh_q42
 by_cases hn0 : left - p.str.size < 0
 ·exact ⟨-1, by simp [encNode, bin_sub (a := left) (b := p.str.size) (by omega) (by omega), hn0], by omega, by omega⟩
 ·skip
  obtain ⟨r1, c1, l1, q1⟩ := szIntS H p.refs hp.refs (left - p.str.size) (by omega) (by omega) Store.empty
  have v1 : callV D 64 [encI p.refs, .int .i64 (left - p.str.size)] σ = some (.int .i64 r1) := callV_eq (by simp [depth]) c1 rfl
  by_cases hn1 : r1 < 0
  ·exact ⟨-1, by simp [encNode, bin_sub (a := left) (b := p.str.size) (by omega) (by omega), hn0, v1, hn1], by omega, by omega⟩
  ·skip
   obtain ⟨r2, c2, l2, q2⟩ := szIntS H p.kids hp.kids r1 (by omega) (by omega) Store.empty
   have v2 : callV D 64 [encI p.kids, .int .i64 r1] σ = some (.int .i64 r2) := callV_eq (by simp [depth]) c2 rfl
   by_cases hn2 : r2 < 0
   ·exact ⟨-1, by simp [encNode, bin_sub (a := left) (b := p.str.size) (by omega) (by omega), hn0, v1, hn1, v2, hn2], by omega, by omega⟩
   ·skip
    exact ⟨r2, by simp [encNode, bin_sub (a := left) (b := p.str.size) (by omega) (by omega), hn0, v1, hn1, v2, hn2], by omega, fun _ => ⟨by omega, q1 (by omega), q2 (by omega)⟩⟩
theorem szNodeS_loop (H : Door D) (l : List LNode) (hl : ∀ p ∈ l, p.Fits) (k : Cur 1) (σ : Store) (h2 : l.length ≤ 1048576) : ∀ (n i : Nat) (left : Int), n = l.length - i → i ≤ l.length → 0 ≤ left → left ≤ 1048576 →
  lpFix 2 (lp_q30_1 D (encNodes l) k) (.int .i64 left) (.int .i64 i) σ = some (.int .i64 (-1), σ) ∨
   ∃ r : Int, 0 ≤ r ∧ r ≤ left ∧ (∀ (j : Nat) p, i ≤ j → l[j]? = some p → p.Small) ∧ lpFix 2 (lp_q30_1 D (encNodes l) k) (.int .i64 left) (.int .i64 i) σ = k (.int .i64 r) σ := by
 intro n
 induction n with
 | zero =>
  intro i left hn hi h0 h1
  right
  refine ⟨left, h0, Int.le_refl _, fun j p hj hp => ?_, ?_⟩
  ·have := (List.getElem?_eq_some_iff.1 hp).1; omega
  ·rw [lpFix_eq (lp_q30_1_mono _ _ _)]
   have : ¬ (i < l.length) := by omega
   simp [lp_q30_1, this]
 | succ n ih =>
  intro i left hn hi h0 h1
  have hil : i < l.length := by omega
  have hs : l[i]? = some l[i] := Lge hil
  obtain ⟨r1, c1, l1, q1⟩ := szNode H l[i] (hl _ (List.getElem_mem hil)) left h0 h1 Store.empty
  have v1 : callV D 52 [.agg (encNode l[i]), .int .i64 left] σ = some (.int .i64 r1) := callV_eq (by simp [depth]) c1 rfl
  rw [lpFix_eq (lp_q30_1_mono _ _ _)]
  by_cases hneg : r1 < 0
  ·left
   simp [lp_q30_1, hil, idx_encNodes hs, v1, hneg]
  ·rcases ih (i + 1) r1 (by omega) (by omega) (by omega) (by omega) with h | ⟨r, r0, r2, hsm, h⟩
   ·left
    simp [lp_q30_1, hil, idx_encNodes hs, v1, hneg, bin_add (a := i) (b := 1) (by omega) (by omega)]
    exact h
   ·right
    refine ⟨r, r0, by omega, fun j p hj hp => ?_, ?_⟩
    ·by_cases e : j = i
     ·subst e; rw [hs] at hp; cases hp; exact q1 (by omega)
     ·exact hsm j p (by omega) hp
    ·simp [lp_q30_1, hil, idx_encNodes hs, v1, hneg, bin_add (a := i) (b := 1) (by omega) (by omega)]
     exact h
theorem szNodeS (H : Door D) (l : List LNode) (hl : ∀ p ∈ l, p.Fits) (hn : l.length ≤ 9223372036854775807) (left : Int) (h0 : 0 ≤ left) (h1 : left ≤ 1048576) (σ : Store) :
  ∃ r : Int, D.call 40 [encNodes l, .int .i64 left] σ = some (.int .i64 r, σ) ∧ r ≤ left ∧ (0 ≤ r → l.length ≤ 1048576 ∧ ∀ p ∈ l, p.Small) := by
 rw [H.f40]
 unfold sh_q30
 by_cases hneg : left - l.length < 0
 ·exact ⟨-1, by simp [bin_sub (a := left) (b := l.length) (by omega) (by omega), hneg], by omega, by omega⟩
 ·rcases szNodeS_loop H l hl (fun left s => some (left, s)) σ (by omega) l.length 0 (left - l.length) (by omega) (by omega) (by omega) (by omega) with h | ⟨r, r0, r1, hsm, h⟩
  ·refine ⟨-1, ?_, by omega, by omega⟩
   simp [bin_sub (a := left) (b := l.length) (by omega) (by omega), hneg]
   exact h
  ·refine ⟨r, ?_, by omega, fun _ => ⟨by omega, fun s hs => by obtain ⟨j, hj⟩ := List.getElem?_of_mem hs; exact hsm j s (by omega) hj⟩⟩
   simp [bin_sub (a := left) (b := l.length) (by omega) (by omega), hneg]
   exact h
theorem szFn (H : Door D) (p : LFn) (hp : p.Fits) (left : Int) (h0 : 0 ≤ left) (h1 : left ≤ 1048576) (σ : Store) :
  ∃ r : Int, D.call 21 [.agg (encFn p), .int .i64 left] σ = some (.int .i64 r, σ) ∧ r ≤ left ∧ (0 ≤ r → p.Small) := by
 have htname := hp.name
 rw [H.f21]
 unfold sh_q16
 by_cases hn0 : left - p.name.size < 0
 ·exact ⟨-1, by simp [encFn, bin_sub (a := left) (b := p.name.size) (by omega) (by omega), hn0], by omega, by omega⟩
 ·skip
  obtain ⟨r1, c1, l1, q1⟩ := szStringS H p.vars hp.vars' hp.vars (left - p.name.size) (by omega) (by omega) Store.empty
  have v1 : callV D 38 [encS p.vars, .int .i64 (left - p.name.size)] σ = some (.int .i64 r1) := callV_eq (by simp [depth]) c1 rfl
  by_cases hn1 : r1 < 0
  ·exact ⟨-1, by simp [encFn, bin_sub (a := left) (b := p.name.size) (by omega) (by omega), hn0, v1, hn1], by omega, by omega⟩
  ·skip
   obtain ⟨r2, c2, l2, q2⟩ := szUpS H p.ups hp.ups r1 (by omega) (by omega) Store.empty
   have v2 : callV D 39 [encUps p.ups, .int .i64 r1] σ = some (.int .i64 r2) := callV_eq (by simp [depth]) c2 rfl
   by_cases hn2 : r2 < 0
   ·exact ⟨-1, by simp [encFn, bin_sub (a := left) (b := p.name.size) (by omega) (by omega), hn0, v1, hn1, v2, hn2], by omega, by omega⟩
   ·skip
    obtain ⟨r3, c3, l3, q3⟩ := szNodeS H p.nodes hp.nodes' hp.nodes r2 (by omega) (by omega) Store.empty
    have v3 : callV D 40 [encNodes p.nodes, .int .i64 r2] σ = some (.int .i64 r3) := callV_eq (by simp [depth]) c3 rfl
    by_cases hn3 : r3 < 0
    ·exact ⟨-1, by simp [encFn, bin_sub (a := left) (b := p.name.size) (by omega) (by omega), hn0, v1, hn1, v2, hn2, v3, hn3], by omega, by omega⟩
    ·skip
     exact ⟨r3, by simp [encFn, bin_sub (a := left) (b := p.name.size) (by omega) (by omega), hn0, v1, hn1, v2, hn2, v3, hn3], by omega, fun _ => ⟨by omega, (q1 (by omega)).1, (q1 (by omega)).2, q2 (by omega), (q3 (by omega)).1, (q3 (by omega)).2⟩⟩
theorem szFnS_loop (H : Door D) (l : List LFn) (hl : ∀ p ∈ l, p.Fits) (k : Cur 1) (σ : Store) (h2 : l.length ≤ 1048576) : ∀ (n i : Nat) (left : Int), n = l.length - i → i ≤ l.length → 0 ≤ left → left ≤ 1048576 →
  lpFix 2 (lp_q7_1 D (encFns l) k) (.int .i64 left) (.int .i64 i) σ = some (.int .i64 (-1), σ) ∨
   ∃ r : Int, 0 ≤ r ∧ r ≤ left ∧ (∀ (j : Nat) p, i ≤ j → l[j]? = some p → p.Small) ∧ lpFix 2 (lp_q7_1 D (encFns l) k) (.int .i64 left) (.int .i64 i) σ = k (.int .i64 r) σ := by
 intro n
 induction n with
 | zero =>
  intro i left hn hi h0 h1
  right
  refine ⟨left, h0, Int.le_refl _, fun j p hj hp => ?_, ?_⟩
  ·have := (List.getElem?_eq_some_iff.1 hp).1; omega
  ·rw [lpFix_eq (lp_q7_1_mono _ _ _)]
   have : ¬ (i < l.length) := by omega
   simp [lp_q7_1, this]
 | succ n ih =>
  intro i left hn hi h0 h1
  have hil : i < l.length := by omega
  have hs : l[i]? = some l[i] := Lge hil
  obtain ⟨r1, c1, l1, q1⟩ := szFn H l[i] (hl _ (List.getElem_mem hil)) left h0 h1 Store.empty
  have v1 : callV D 21 [.agg (encFn l[i]), .int .i64 left] σ = some (.int .i64 r1) := callV_eq (by simp [depth]) c1 rfl
  rw [lpFix_eq (lp_q7_1_mono _ _ _)]
  by_cases hneg : r1 < 0
  ·left
   simp [lp_q7_1, hil, idx_encFns hs, v1, hneg]
  ·rcases ih (i + 1) r1 (by omega) (by omega) (by omega) (by omega) with h | ⟨r, r0, r2, hsm, h⟩
   ·left
    simp [lp_q7_1, hil, idx_encFns hs, v1, hneg, bin_add (a := i) (b := 1) (by omega) (by omega)]
    exact h
   ·right
    refine ⟨r, r0, by omega, fun j p hj hp => ?_, ?_⟩
    ·by_cases e : j = i
     ·subst e; rw [hs] at hp; cases hp; exact q1 (by omega)
     ·exact hsm j p (by omega) hp
    ·simp [lp_q7_1, hil, idx_encFns hs, v1, hneg, bin_add (a := i) (b := 1) (by omega) (by omega)]
     exact h
theorem szFnS (H : Door D) (l : List LFn) (hl : ∀ p ∈ l, p.Fits) (hn : l.length ≤ 9223372036854775807) (left : Int) (h0 : 0 ≤ left) (h1 : left ≤ 1048576) (σ : Store) :
  ∃ r : Int, D.call 11 [encFns l, .int .i64 left] σ = some (.int .i64 r, σ) ∧ r ≤ left ∧ (0 ≤ r → l.length ≤ 1048576 ∧ ∀ p ∈ l, p.Small) := by
 rw [H.f11]
 unfold sh_q7
 by_cases hneg : left - l.length < 0
 ·exact ⟨-1, by simp [bin_sub (a := left) (b := l.length) (by omega) (by omega), hneg], by omega, by omega⟩
 ·rcases szFnS_loop H l hl (fun left s => some (left, s)) σ (by omega) l.length 0 (left - l.length) (by omega) (by omega) (by omega) (by omega) with h | ⟨r, r0, r1, hsm, h⟩
  ·refine ⟨-1, ?_, by omega, by omega⟩
   simp [bin_sub (a := left) (b := l.length) (by omega) (by omega), hneg]
   exact h
  ·refine ⟨r, ?_, by omega, fun _ => ⟨by omega, fun s hs => by obtain ⟨j, hj⟩ := List.getElem?_of_mem hs; exact hsm j s (by omega) hj⟩⟩
   simp [bin_sub (a := left) (b := l.length) (by omega) (by omega), hneg]
   exact h
theorem toStringS_loop (l : List ByteArray) (k : Cur 0) (t : Store) (hn : l.length ≤ 1048576) : ∀ (n i : Nat) (σ : Store) (rows : List (List AV)), n = l.length - i → i ≤ l.length → rows.length = l.length → (∀ r ∈ rows, r.length = 1) →
  σ.blk 0 = some (.cells rows.flatten) →
  ∃ σ', lpFix 1 (lp_q36_1 D (encS l) (.hslice 1 0 0 l.length, t) k) (.int .i64 i) σ = k σ' ∧ σ'.blk 0 = some (.cells (rows.take i ++ (l.drop i).map fun s => [AV.str s]).flatten) := by
 intro n
 induction n with
 | zero =>
  intro i σ rows hi h1 h2 h3 hb
  have e : i = l.length := by omega
  refine ⟨σ, ?_, ?_⟩
  ·rw [lpFix_eq (lp_q36_1_mono _ _ _ _)]
   have : ¬ (i < l.length) := by omega
   simp [lp_q36_1, this]
  ·subst e
   rw [hb, List.take_of_length_le (by omega), List.drop_length]; simp
 | succ n ih =>
  intro i σ rows hi h1 h2 h3 hb
  have hil : i < l.length := by omega
  have hs : l[i]? = some l[i] := Lge hil
  have hw := wr_rows (row := [.str l[i]]) hb h3 rfl (show i < rows.length by omega)
  obtain ⟨σ', h4, h5⟩ := ih (i + 1) (σ.upd 0 (some (.cells (rows.set i [.str l[i]]).flatten))) (rows.set i [.str l[i]]) (by omega) (by omega) (by simpa using h2)
   (fun r hr => by
    rcases List.mem_or_eq_of_mem_set hr with h | h
    ·exact h3 r h
    ·subst h; rfl) upd_blk
  refine ⟨σ', ?_, ?_⟩
  ·rw [lpFix_eq (lp_q36_1_mono _ _ _ _)]
   simp [lp_q36_1, hil, idx_encS hs, idx_h hil]
   rw [Nat.mul_one] at hw
   simp [hw, bin_add (a := i) (b := 1) (by omega) (by omega)]
   exact h4
  ·rw [h5, take_set (by omega), List.drop_eq_getElem_cons hil, List.map_cons, List.append_assoc, List.singleton_append]
theorem toStringS (H : Door D) (l : List ByteArray) (hn : l.length ≤ 1048576) : callP D 46 [encS l] = some (encS l) := by
 obtain ⟨σ', h1, h2⟩ := toStringS_loop (D := D) l (fun s => some (.hslice 1 0 0 l.length, s)) (Store.empty.add (.cells (List.replicate l.length [AV.str ⟨#[]⟩]).flatten)) hn l.length 0
  (Store.empty.add (.cells (List.replicate l.length [AV.str ⟨#[]⟩]).flatten)) (List.replicate l.length [.str ⟨#[]⟩]) (by omega) (by omega) (by simp) (fun r hr => by rw [(List.mem_replicate.1 hr).2]; rfl) rfl
 have hc : D.call 46 [encS l] Store.empty = some (.hslice 1 0 0 l.length, σ') := by
  rw [H.f46]
  unfold sh_q36
  simp only [len_encS, Obs, mkSlice_new (show l.length ≤ 4294967296 by omega)]
  exact h1
 refine callP_eq (by simp [depth]) hc ?_
 have := view_h (d := 11) (sz := 1) (rows := l.map fun s => [AV.str s]) (by simpa using h2) (fun r hr => by obtain ⟨s, _, rfl⟩ := List.mem_map.1 hr; rfl) (fun r hr v hv => by
  obtain ⟨s, _, rfl⟩ := List.mem_map.1 hr
  simp at hv; subst hv; rfl)
 simp at this
 rw [show depth = 11 + 1 from rfl, this, encS]
 rfl
theorem toIntS_loop (l : List Int) (k : Cur 0) (t : Store) (hn : l.length ≤ 1048576) : ∀ (n i : Nat) (σ : Store) (rows : List (List AV)), n = l.length - i → i ≤ l.length → rows.length = l.length → (∀ r ∈ rows, r.length = 1) →
  σ.blk 0 = some (.cells rows.flatten) →
  ∃ σ', lpFix 1 (lp_q56_1 D (encI l) (.hslice 1 0 0 l.length, t) k) (.int .i64 i) σ = k σ' ∧ σ'.blk 0 = some (.cells (rows.take i ++ (l.drop i).map fun s => [AV.int .i64 s]).flatten) := by
 intro n
 induction n with
 | zero =>
  intro i σ rows hi h1 h2 h3 hb
  have e : i = l.length := by omega
  refine ⟨σ, ?_, ?_⟩
  ·rw [lpFix_eq (lp_q56_1_mono _ _ _ _)]
   have : ¬ (i < l.length) := by omega
   simp [lp_q56_1, this]
  ·subst e
   rw [hb, List.take_of_length_le (by omega), List.drop_length]; simp
 | succ n ih =>
  intro i σ rows hi h1 h2 h3 hb
  have hil : i < l.length := by omega
  have hs : l[i]? = some l[i] := Lge hil
  have hw := wr_rows (row := [.int .i64 l[i]]) hb h3 rfl (show i < rows.length by omega)
  obtain ⟨σ', h4, h5⟩ := ih (i + 1) (σ.upd 0 (some (.cells (rows.set i [.int .i64 l[i]]).flatten))) (rows.set i [.int .i64 l[i]]) (by omega) (by omega) (by simpa using h2)
   (fun r hr => by
    rcases List.mem_or_eq_of_mem_set hr with h | h
    ·exact h3 r h
    ·subst h; rfl) upd_blk
  refine ⟨σ', ?_, ?_⟩
  ·rw [lpFix_eq (lp_q56_1_mono _ _ _ _)]
   simp [lp_q56_1, hil, idx_encI hs, idx_h hil]
   rw [Nat.mul_one] at hw
   simp [hw, bin_add (a := i) (b := 1) (by omega) (by omega)]
   exact h4
  ·rw [h5, take_set (by omega), List.drop_eq_getElem_cons hil, List.map_cons, List.append_assoc, List.singleton_append]
theorem toIntS (H : Door D) (l : List Int) (hn : l.length ≤ 1048576) : callP D 66 [encI l] = some (encI l) := by
 obtain ⟨σ', h1, h2⟩ := toIntS_loop (D := D) l (fun s => some (.hslice 1 0 0 l.length, s)) (Store.empty.add (.cells (List.replicate l.length [AV.int .i64 0]).flatten)) hn l.length 0
  (Store.empty.add (.cells (List.replicate l.length [AV.int .i64 0]).flatten)) (List.replicate l.length [.int .i64 0]) (by omega) (by omega) (by simp) (fun r hr => by rw [(List.mem_replicate.1 hr).2]; rfl) rfl
 have hc : D.call 66 [encI l] Store.empty = some (.hslice 1 0 0 l.length, σ') := by
  rw [H.f66]
  unfold sh_q56
  simp only [len_encI, Obs, mkSlice_new (show l.length ≤ 4294967296 by omega)]
  exact h1
 refine callP_eq (by simp [depth]) hc ?_
 have := view_h (d := 11) (sz := 1) (rows := l.map fun s => [AV.int .i64 s]) (by simpa using h2) (fun r hr => by obtain ⟨s, _, rfl⟩ := List.mem_map.1 hr; rfl) (fun r hr v hv => by
  obtain ⟨s, _, rfl⟩ := List.mem_map.1 hr
  simp at hv; subst hv; rfl)
 simp at this
 rw [show depth = 11 + 1 from rfl, this, encI]
 rfl
theorem toUp (H : Door D) (p : LUp) (σ : Store) : callV D 60 [.agg (encUp p)] σ = some (.agg (encUp p)) := by
 refine callV_eq (σ' := Store.empty) (v := .agg (encUp p)) (by simp [depth]) ?_ rfl
 rw [H.f60]
 unfold sh_q50
 simp [encUp]
theorem toUpS_loop (H : Door D) (l : List LUp) (k : Cur 0) (t : Store) (hn : l.length ≤ 1048576) : ∀ (n i : Nat) (σ : Store) (rows : List (List AV)), n = l.length - i → i ≤ l.length → rows.length = l.length → (∀ r ∈ rows, r.length = 2) →
  σ.blk 0 = some (.cells rows.flatten) →
  ∃ σ', lpFix 1 (lp_q37_1 D (encUps l) (.hslice 2 0 0 l.length, t) k) (.int .i64 i) σ = k σ' ∧ σ'.blk 0 = some (.cells (rows.take i ++ (l.drop i).map encUp).flatten) := by
 intro n
 induction n with
 | zero =>
  intro i σ rows hi h1 h2 h3 hb
  have e : i = l.length := by omega
  refine ⟨σ, ?_, ?_⟩
  ·rw [lpFix_eq (lp_q37_1_mono _ _ _ _)]
   have : ¬ (i < l.length) := by omega
   simp [lp_q37_1, this]
  ·subst e
   rw [hb, List.take_of_length_le (by omega), List.drop_length]; simp
 | succ n ih =>
  intro i σ rows hi h1 h2 h3 hb
  have hil : i < l.length := by omega
  have hs' : l[i]? = some l[i] := Lge hil
  have hw := wr_rows (row := encUp l[i]) hb h3 rfl (show i < rows.length by omega)
  obtain ⟨σ', h4, h5⟩ := ih (i + 1) (σ.upd 0 (some (.cells (rows.set i (encUp l[i])).flatten))) (rows.set i (encUp l[i])) (by omega) (by omega) (by simpa using h2)
   (fun r hr => by
    rcases List.mem_or_eq_of_mem_set hr with h | h
    ·exact h3 r h
    ·subst h; rfl) upd_blk
  refine ⟨σ', ?_, ?_⟩
  ·rw [lpFix_eq (lp_q37_1_mono _ _ _ _)]
   have ha : asplit 2 (.agg (encUp l[i])) = some (encUp l[i]) := rfl
   simp [lp_q37_1, hil, idx_encUps hs', idx_h hil, toUp H l[i], ha, hw, bin_add (a := i) (b := 1) (by omega) (by omega)]
   exact h4
  ·rw [h5, take_set (by omega), List.drop_eq_getElem_cons hil, List.map_cons, List.append_assoc, List.singleton_append]
theorem toUpS (H : Door D) (l : List LUp) (hn : l.length ≤ 1048576) : callP D 47 [encUps l] = some (encUps l) := by
 let z : List AV := [.bool false, .int .i64 0]
 obtain ⟨σ', h1, h2⟩ := toUpS_loop H l (fun s => some (.hslice 2 0 0 l.length, s)) (Store.empty.add (.cells (List.replicate l.length z).flatten)) hn l.length 0
  (Store.empty.add (.cells (List.replicate l.length z).flatten)) (List.replicate l.length z) (by omega) (by omega) (by simp) (fun r hr => by rw [(List.mem_replicate.1 hr).2]; rfl) rfl
 have hc : D.call 47 [encUps l] Store.empty = some (.hslice 2 0 0 l.length, σ') := by
  rw [H.f47]
  unfold sh_q37
  simp only [len_encUps, Obs, mkSlice_new (show l.length ≤ 4294967296 by omega)]
  exact h1
 refine callP_eq (by simp [depth]) hc ?_
 have := view_h (d := 11) (sz := 2) (rows := l.map encUp) (by simpa using h2) (fun r hr => by obtain ⟨s, _, rfl⟩ := List.mem_map.1 hr; rfl) (fun r hr v hv => by
  obtain ⟨p, _, rfl⟩ := List.mem_map.1 hr
  simp only [encUp, List.mem_cons, List.not_mem_nil, or_false] at hv
  rcases hv with rfl | rfl <;> simp)
 rw [List.length_map] at this
 rw [show depth = 11 + 1 from rfl, this, encUps, List.map_map]
 rfl
theorem toNode (H : Door D) (p : LNode) (hp : p.Small) : callP D 61 [.agg (encNode p)] = some (.agg (encNode p)) := by
 refine callP_eq (σ' := Store.empty) (v := .agg (encNode p)) (by simp [depth]) ?_ (by simp [depth])
 rw [H.f61]
 unfold sh_q51
 simp [encNode, toIntS H p.refs hp.refs, toIntS H p.kids hp.kids]
theorem toNodeS_loop (H : Door D) (l : List LNode) (hs : ∀ p ∈ l, p.Small) (k : Cur 0) (t : Store) (hn : l.length ≤ 1048576) : ∀ (n i : Nat) (σ : Store) (rows : List (List AV)), n = l.length - i → i ≤ l.length → rows.length = l.length → (∀ r ∈ rows, r.length = 8) →
  σ.blk 0 = some (.cells rows.flatten) →
  ∃ σ', lpFix 1 (lp_q38_1 D (encNodes l) (.hslice 8 0 0 l.length, t) k) (.int .i64 i) σ = k σ' ∧ σ'.blk 0 = some (.cells (rows.take i ++ (l.drop i).map encNode).flatten) := by
 intro n
 induction n with
 | zero =>
  intro i σ rows hi h1 h2 h3 hb
  have e : i = l.length := by omega
  refine ⟨σ, ?_, ?_⟩
  ·rw [lpFix_eq (lp_q38_1_mono _ _ _ _)]
   have : ¬ (i < l.length) := by omega
   simp [lp_q38_1, this]
  ·subst e
   rw [hb, List.take_of_length_le (by omega), List.drop_length]; simp
 | succ n ih =>
  intro i σ rows hi h1 h2 h3 hb
  have hil : i < l.length := by omega
  have hs' : l[i]? = some l[i] := Lge hil
  have hw := wr_rows (row := encNode l[i]) hb h3 rfl (show i < rows.length by omega)
  obtain ⟨σ', h4, h5⟩ := ih (i + 1) (σ.upd 0 (some (.cells (rows.set i (encNode l[i])).flatten))) (rows.set i (encNode l[i])) (by omega) (by omega) (by simpa using h2)
   (fun r hr => by
    rcases List.mem_or_eq_of_mem_set hr with h | h
    ·exact h3 r h
    ·subst h; rfl) upd_blk
  refine ⟨σ', ?_, ?_⟩
  ·rw [lpFix_eq (lp_q38_1_mono _ _ _ _)]
   have ha : asplit 8 (.agg (encNode l[i])) = some (encNode l[i]) := rfl
   simp [lp_q38_1, hil, idx_encNodes hs', idx_h hil, toNode H l[i] (hs _ (List.getElem_mem hil)), ha, hw, bin_add (a := i) (b := 1) (by omega) (by omega)]
   exact h4
  ·rw [h5, take_set (by omega), List.drop_eq_getElem_cons hil, List.map_cons, List.append_assoc, List.singleton_append]
theorem toNodeS (H : Door D) (l : List LNode) (hn : l.length ≤ 1048576) (hs : ∀ p ∈ l, p.Small) : callP D 48 [encNodes l] = some (encNodes l) := by
 let z : List AV := [.int .i64 0, .int .i64 0, .int .i64 0, .int .i64 0, .flt 0, .str ⟨#[]⟩, .nilslice, .nilslice]
 obtain ⟨σ', h1, h2⟩ := toNodeS_loop H l hs (fun s => some (.hslice 8 0 0 l.length, s)) (Store.empty.add (.cells (List.replicate l.length z).flatten)) hn l.length 0
  (Store.empty.add (.cells (List.replicate l.length z).flatten)) (List.replicate l.length z) (by omega) (by omega) (by simp) (fun r hr => by rw [(List.mem_replicate.1 hr).2]; rfl) rfl
 have hc : D.call 48 [encNodes l] Store.empty = some (.hslice 8 0 0 l.length, σ') := by
  rw [H.f48]
  unfold sh_q38
  simp only [len_encNodes, Obs, mkSlice_new (show l.length ≤ 4294967296 by omega)]
  exact h1
 refine callP_eq (by simp [depth]) hc ?_
 have := view_h (d := 11) (sz := 8) (rows := l.map encNode) (by simpa using h2) (fun r hr => by obtain ⟨s, _, rfl⟩ := List.mem_map.1 hr; rfl) (fun r hr v hv => by
  obtain ⟨p, _, rfl⟩ := List.mem_map.1 hr
  simp only [encNode, List.mem_cons, List.not_mem_nil, or_false] at hv
  rcases hv with rfl | rfl | rfl | rfl | rfl | rfl | rfl | rfl <;> simp)
 rw [List.length_map] at this
 rw [show depth = 11 + 1 from rfl, this, encNodes, List.map_map]
 rfl
theorem toFn (H : Door D) (p : LFn) (hp : p.Small) : callP D 29 [.agg (encFn p)] = some (.agg (encFn p)) := by
 refine callP_eq (σ' := Store.empty) (v := .agg (encFn p)) (by simp [depth]) ?_ (by simp [depth])
 rw [H.f29]
 unfold sh_q24
 simp [encFn, toStringS H p.vars hp.vars, toUpS H p.ups hp.ups, toNodeS H p.nodes hp.nodes hp.nodes']
theorem toFnS_loop (H : Door D) (l : List LFn) (hs : ∀ p ∈ l, p.Small) (k : Cur 0) (t : Store) (hn : l.length ≤ 1048576) : ∀ (n i : Nat) (σ : Store) (rows : List (List AV)), n = l.length - i → i ≤ l.length → rows.length = l.length → (∀ r ∈ rows, r.length = 7) →
  σ.blk 0 = some (.cells rows.flatten) →
  ∃ σ', lpFix 1 (lp_q11_1 D (encFns l) (.hslice 7 0 0 l.length, t) k) (.int .i64 i) σ = k σ' ∧ σ'.blk 0 = some (.cells (rows.take i ++ (l.drop i).map encFn).flatten) := by
 intro n
 induction n with
 | zero =>
  intro i σ rows hi h1 h2 h3 hb
  have e : i = l.length := by omega
  refine ⟨σ, ?_, ?_⟩
  ·rw [lpFix_eq (lp_q11_1_mono _ _ _ _)]
   have : ¬ (i < l.length) := by omega
   simp [lp_q11_1, this]
  ·subst e
   rw [hb, List.take_of_length_le (by omega), List.drop_length]; simp
 | succ n ih =>
  intro i σ rows hi h1 h2 h3 hb
  have hil : i < l.length := by omega
  have hs' : l[i]? = some l[i] := Lge hil
  have hw := wr_rows (row := encFn l[i]) hb h3 rfl (show i < rows.length by omega)
  obtain ⟨σ', h4, h5⟩ := ih (i + 1) (σ.upd 0 (some (.cells (rows.set i (encFn l[i])).flatten))) (rows.set i (encFn l[i])) (by omega) (by omega) (by simpa using h2)
   (fun r hr => by
    rcases List.mem_or_eq_of_mem_set hr with h | h
    ·exact h3 r h
    ·subst h; rfl) upd_blk
  refine ⟨σ', ?_, ?_⟩
  ·rw [lpFix_eq (lp_q11_1_mono _ _ _ _)]
   have ha : asplit 7 (.agg (encFn l[i])) = some (encFn l[i]) := rfl
   simp [lp_q11_1, hil, idx_encFns hs', idx_h hil, toFn H l[i] (hs _ (List.getElem_mem hil)), ha, hw, bin_add (a := i) (b := 1) (by omega) (by omega)]
   exact h4
  ·rw [h5, take_set (by omega), List.drop_eq_getElem_cons hil, List.map_cons, List.append_assoc, List.singleton_append]
theorem toFnS (H : Door D) (l : List LFn) (hn : l.length ≤ 1048576) (hs : ∀ p ∈ l, p.Small) : callP D 15 [encFns l] = some (encFns l) := by
 let z : List AV := [.str ⟨#[]⟩, .int .i64 0, .int .i64 0, .bool false, .nilslice, .nilslice, .nilslice]
 obtain ⟨σ', h1, h2⟩ := toFnS_loop H l hs (fun s => some (.hslice 7 0 0 l.length, s)) (Store.empty.add (.cells (List.replicate l.length z).flatten)) hn l.length 0
  (Store.empty.add (.cells (List.replicate l.length z).flatten)) (List.replicate l.length z) (by omega) (by omega) (by simp) (fun r hr => by rw [(List.mem_replicate.1 hr).2]; rfl) rfl
 have hc : D.call 15 [encFns l] Store.empty = some (.hslice 7 0 0 l.length, σ') := by
  rw [H.f15]
  unfold sh_q11
  simp only [len_encFns, Obs, mkSlice_new (show l.length ≤ 4294967296 by omega)]
  exact h1
 refine callP_eq (by simp [depth]) hc ?_
 have := view_h (d := 11) (sz := 7) (rows := l.map encFn) (by simpa using h2) (fun r hr => by obtain ⟨s, _, rfl⟩ := List.mem_map.1 hr; rfl) (fun r hr v hv => by
  obtain ⟨p, _, rfl⟩ := List.mem_map.1 hr
  simp only [encFn, List.mem_cons, List.not_mem_nil, or_false] at hv
  rcases hv with rfl | rfl | rfl | rfl | rfl | rfl | rfl <;> simp)
 rw [List.length_map] at this
 rw [show depth = 11 + 1 from rfl, this, encFns, List.map_map]
 rfl
theorem sameFloat (H : Door D) (a : Nat) (σ : Store) : D.call 67 [.flt a, .flt a] σ = some (.bool true, σ) := by
 rw [H.f67]
 unfold sh_q57 jn
 have e1 : bin .neq .num (.flt a) (.flt a) = some (.bool (fltOrd a a != some .eq)) := rfl
 have e2 : bin .eql .num (.flt a) (.flt a) = some (.bool (fltOrd a a == some .eq)) := rfl
 have e3 : bin .eql .num (.flt a) (.flt 0) = some (.bool (fltOrd a 0 == some .eq)) := rfl
 have e4 : ∀ o : Option Nat, ∃ b, bin .gtr .num (fnum o) (.flt 0) = some (.bool b) := fun o => by cases o <;> exact ⟨_, rfl⟩
 have e5 : bin .quo .num (.flt 4607182418800017408) (.flt a) = some (fnum (FloatKind.f64.format.div 4607182418800017408 a)) := rfl
 have e6 : ∀ b : Bool, bin .eql .bool (.bool b) (.bool b) = some (.bool true) := fun b => by simp [bin, eqV]
 obtain ⟨b, hb⟩ := e4 (FloatKind.f64.format.div 4607182418800017408 a)
 cases h : (fltOrd a a == some .eq)
 ·have h' : (fltOrd a a != some .eq) = true := by simp [bne, h]
  simp [e1, h']
 ·have h' : (fltOrd a a != some .eq) = false := by simp [bne, h]
  cases h3 : (fltOrd a 0 == some .eq)
  ·simp [e1, e2, e3, h, h', h3]
  ·simp [e1, e3, h', h3, e5, hb, e6]
theorem eqStringS_loop (l : List ByteArray) (k : Cur 0) (σ : Store) (hn : l.length ≤ 1048576) : ∀ (n i : Nat), n = l.length - i → i ≤ l.length →
  lpFix 1 (lp_q39_1 D (encS l) (encS l) k) (.int .i64 i) σ = k σ := by
 intro n
 induction n with
 | zero =>
  intro i hi h1
  rw [lpFix_eq (lp_q39_1_mono _ _ _ _)]
  have : ¬ (i < l.length) := by omega
  simp [lp_q39_1, this]
 | succ n ih =>
  intro i hi h1
  have hil : i < l.length := by omega
  have hs : l[i]? = some l[i] := Lge hil
  rw [lpFix_eq (lp_q39_1_mono _ _ _ _)]
  simp [lp_q39_1, hil, idx_encS hs, bin_add (a := i) (b := 1) (by omega) (by omega)]
  exact ih (i + 1) (by omega) (by omega)
theorem eqStringS (H : Door D) (l : List ByteArray) (hn : l.length ≤ 1048576) (σ : Store) : D.call 49 [encS l, encS l] σ = some (.bool true, σ) := by
 rw [H.f49]
 unfold sh_q39 jn
 simp
 exact eqStringS_loop l _ σ hn l.length 0 (by omega) (by omega)
theorem eqIntS_loop (l : List Int) (k : Cur 0) (σ : Store) (hn : l.length ≤ 1048576) : ∀ (n i : Nat), n = l.length - i → i ≤ l.length →
  lpFix 1 (lp_q58_1 D (encI l) (encI l) k) (.int .i64 i) σ = k σ := by
 intro n
 induction n with
 | zero =>
  intro i hi h1
  rw [lpFix_eq (lp_q58_1_mono _ _ _ _)]
  have : ¬ (i < l.length) := by omega
  simp [lp_q58_1, this]
 | succ n ih =>
  intro i hi h1
  have hil : i < l.length := by omega
  have hs : l[i]? = some l[i] := Lge hil
  rw [lpFix_eq (lp_q58_1_mono _ _ _ _)]
  simp [lp_q58_1, hil, idx_encI hs, bin_add (a := i) (b := 1) (by omega) (by omega)]
  exact ih (i + 1) (by omega) (by omega)
theorem eqIntS (H : Door D) (l : List Int) (hn : l.length ≤ 1048576) (σ : Store) : D.call 68 [encI l, encI l] σ = some (.bool true, σ) := by
 rw [H.f68]
 unfold sh_q58 jn
 simp
 exact eqIntS_loop l _ σ hn l.length 0 (by omega) (by omega)
theorem eqUp (H : Door D) (p : LUp) (σ : Store) : D.call 62 [.agg (encUp p), .agg (encUp p)] σ = some (.bool true, σ) := by
 rw [H.f62]
 unfold sh_q52
 skip
 have eb : ∀ b : Bool, bin .neq .bool (.bool b) (.bool b) = some (.bool false) := fun b => by simp [bin, eqV]
 simp [encUp, eb]
theorem eqUpS_loop (H : Door D) (l : List LUp) (k : Cur 0) (σ : Store) (hn : l.length ≤ 1048576) : ∀ (n i : Nat), n = l.length - i → i ≤ l.length →
  lpFix 1 (lp_q40_1 D (encUps l) (encUps l) k) (.int .i64 i) σ = k σ := by
 intro n
 induction n with
 | zero =>
  intro i hi h1
  rw [lpFix_eq (lp_q40_1_mono _ _ _ _)]
  have : ¬ (i < l.length) := by omega
  simp [lp_q40_1, this]
 | succ n ih =>
  intro i hi h1
  have hil : i < l.length := by omega
  have hs' : l[i]? = some l[i] := Lge hil
  have v1 : callV D 62 [.agg (encUp l[i]), .agg (encUp l[i])] σ = some (.bool true) := callV_eq (by simp [depth]) (eqUp H l[i] Store.empty) rfl
  rw [lpFix_eq (lp_q40_1_mono _ _ _ _)]
  simp [lp_q40_1, hil, idx_encUps hs', v1, bin_add (a := i) (b := 1) (by omega) (by omega)]
  exact ih (i + 1) (by omega) (by omega)
theorem eqUpS (H : Door D) (l : List LUp) (hn : l.length ≤ 1048576) (σ : Store) : D.call 50 [encUps l, encUps l] σ = some (.bool true, σ) := by
 rw [H.f50]
 unfold sh_q40 jn
 simp
 exact eqUpS_loop H l _ σ hn l.length 0 (by omega) (by omega)
theorem eqNode (H : Door D) (p : LNode) (hp : p.Small) (σ : Store) : D.call 63 [.agg (encNode p), .agg (encNode p)] σ = some (.bool true, σ) := by
 rw [H.f63]
 unfold sh_q53
 have v4 : callV D 67 [.flt p.flt, .flt p.flt] σ = some (.bool true) := callV_eq (by simp [depth]) (sameFloat H p.flt Store.empty) rfl
 have v6 : callV D 68 [encI p.refs, encI p.refs] σ = some (.bool true) := callV_eq (by simp [depth]) (eqIntS H p.refs hp.refs Store.empty) rfl
 have v7 : callV D 68 [encI p.kids, encI p.kids] σ = some (.bool true) := callV_eq (by simp [depth]) (eqIntS H p.kids hp.kids Store.empty) rfl
 have eb : ∀ b : Bool, bin .neq .bool (.bool b) (.bool b) = some (.bool false) := fun b => by simp [bin, eqV]
 simp [encNode, eb, v4, v6, v7]
theorem eqNodeS_loop (H : Door D) (l : List LNode) (hs : ∀ p ∈ l, p.Small) (k : Cur 0) (σ : Store) (hn : l.length ≤ 1048576) : ∀ (n i : Nat), n = l.length - i → i ≤ l.length →
  lpFix 1 (lp_q41_1 D (encNodes l) (encNodes l) k) (.int .i64 i) σ = k σ := by
 intro n
 induction n with
 | zero =>
  intro i hi h1
  rw [lpFix_eq (lp_q41_1_mono _ _ _ _)]
  have : ¬ (i < l.length) := by omega
  simp [lp_q41_1, this]
 | succ n ih =>
  intro i hi h1
  have hil : i < l.length := by omega
  have hs' : l[i]? = some l[i] := Lge hil
  have v1 : callV D 63 [.agg (encNode l[i]), .agg (encNode l[i])] σ = some (.bool true) := callV_eq (by simp [depth]) (eqNode H l[i] (hs _ (List.getElem_mem hil)) Store.empty) rfl
  rw [lpFix_eq (lp_q41_1_mono _ _ _ _)]
  simp [lp_q41_1, hil, idx_encNodes hs', v1, bin_add (a := i) (b := 1) (by omega) (by omega)]
  exact ih (i + 1) (by omega) (by omega)
theorem eqNodeS (H : Door D) (l : List LNode) (hn : l.length ≤ 1048576) (hs : ∀ p ∈ l, p.Small) (σ : Store) : D.call 51 [encNodes l, encNodes l] σ = some (.bool true, σ) := by
 rw [H.f51]
 unfold sh_q41 jn
 simp
 exact eqNodeS_loop H l hs _ σ hn l.length 0 (by omega) (by omega)
theorem eqFn (H : Door D) (p : LFn) (hp : p.Small) (σ : Store) : D.call 37 [.agg (encFn p), .agg (encFn p)] σ = some (.bool true, σ) := by
 rw [H.f37]
 unfold sh_q27
 have v4 : callV D 49 [encS p.vars, encS p.vars] σ = some (.bool true) := callV_eq (by simp [depth]) (eqStringS H p.vars hp.vars Store.empty) rfl
 have v5 : callV D 50 [encUps p.ups, encUps p.ups] σ = some (.bool true) := callV_eq (by simp [depth]) (eqUpS H p.ups hp.ups Store.empty) rfl
 have v6 : callV D 51 [encNodes p.nodes, encNodes p.nodes] σ = some (.bool true) := callV_eq (by simp [depth]) (eqNodeS H p.nodes hp.nodes hp.nodes' Store.empty) rfl
 have eb : ∀ b : Bool, bin .neq .bool (.bool b) (.bool b) = some (.bool false) := fun b => by simp [bin, eqV]
 simp [encFn, eb, v4, v5, v6]
theorem eqFnS_loop (H : Door D) (l : List LFn) (hs : ∀ p ∈ l, p.Small) (k : Cur 0) (σ : Store) (hn : l.length ≤ 1048576) : ∀ (n i : Nat), n = l.length - i → i ≤ l.length →
  lpFix 1 (lp_q15_1 D (encFns l) (encFns l) k) (.int .i64 i) σ = k σ := by
 intro n
 induction n with
 | zero =>
  intro i hi h1
  rw [lpFix_eq (lp_q15_1_mono _ _ _ _)]
  have : ¬ (i < l.length) := by omega
  simp [lp_q15_1, this]
 | succ n ih =>
  intro i hi h1
  have hil : i < l.length := by omega
  have hs' : l[i]? = some l[i] := Lge hil
  have v1 : callV D 37 [.agg (encFn l[i]), .agg (encFn l[i])] σ = some (.bool true) := callV_eq (by simp [depth]) (eqFn H l[i] (hs _ (List.getElem_mem hil)) Store.empty) rfl
  rw [lpFix_eq (lp_q15_1_mono _ _ _ _)]
  simp [lp_q15_1, hil, idx_encFns hs', v1, bin_add (a := i) (b := 1) (by omega) (by omega)]
  exact ih (i + 1) (by omega) (by omega)
theorem eqFnS (H : Door D) (l : List LFn) (hn : l.length ≤ 1048576) (hs : ∀ p ∈ l, p.Small) (σ : Store) : D.call 20 [encFns l, encFns l] σ = some (.bool true, σ) := by
 rw [H.f20]
 unfold sh_q15 jn
 simp
 exact eqFnS_loop H l hs _ σ hn l.length 0 (by omega) (by omega)
def encUnit (l : List LFn) : AV := .agg [encFns l]
/-- What szUnit lets through. -/
structure _root_.Go.Asm.SmallUnit (l : List LFn) : Prop where
 len : l.length ≤ 1048576
 part : ∀ p ∈ l, p.Small
theorem view_Unit {σ : Store} (l : List LFn) : view σ 12 (encUnit l) = some (encUnit l) := by
 simp only [encUnit]
 rw [view]
 simp
theorem szUnit (H : Door D) (l : List LFn) (hl : ∀ p ∈ l, p.Fits) (hn : l.length ≤ 9223372036854775807) (σ : Store) :
  ∃ r : Int, D.call 5 [encUnit l, .int .i64 1048576] σ = some (.int .i64 r, σ) ∧ (0 ≤ r → SmallUnit l) := by
 obtain ⟨r, c, _, q⟩ := szFnS H l hl hn 1048576 (by omega) (by omega) Store.empty
 have v1 : callV D 11 [encFns l, .int .i64 1048576] σ = some (.int .i64 r) := callV_eq (by simp [depth]) c rfl
 rw [H.f5]
 unfold sh_q1
 by_cases hr : r < 0
 ·exact ⟨-1, by simp [encUnit, v1, hr], by omega⟩
 ·exact ⟨r, by simp [encUnit, v1, hr], fun _ => ⟨(q (by omega)).1, (q (by omega)).2⟩⟩
theorem toUnit (H : Door D) (l : List LFn) (hl : SmallUnit l) : callP D 7 [encUnit l] = some (encUnit l) := by
 refine callP_eq (σ' := Store.empty) (v := encUnit l) (by simp [depth, view_Unit]) ?_ (view_Unit l)
 rw [H.f7]
 unfold sh_q3
 simp [encUnit, toFnS H l hl.len hl.part]
theorem eqUnit (H : Door D) (l : List LFn) (hl : SmallUnit l) (σ : Store) : D.call 10 [encUnit l, encUnit l] σ = some (.bool true, σ) := by
 rw [H.f10]
 unfold sh_q6
 have v1 : callV D 20 [encFns l, encFns l] σ = some (.bool true) := callV_eq (by simp [depth]) (eqFnS H l hl.len hl.part Store.empty) rfl
 simp [encUnit, v1]
end
end Go.Asm.UnitF
namespace Go.Asm.UnitF
open Go Go.Asm
def isExpr (k : Int) : Bool := decide (20 ≤ k) && decide (k ≤ 38)
def isStat (k : Int) : Bool := decide (1 ≤ k) && decide (k ≤ 14)
def isTarget (k : Int) : Bool := decide (k = 26) || decide (k = 27) || decide (k = 33)
def isMany (k : Int) : Bool := decide (k = 34) || decide (k = 37)
def flt0 (b : Nat) : Bool := fltOrd b 0 == some .eq
def fltSame (b : Nat) : Bool := fltOrd b b == some .eq
def bare (p : LNode) (op num flt str : Bool) (refs : Int) : Bool :=
 (op || decide (p.op = 0)) && (num || decide (p.num = 0)) && (flt || flt0 p.flt) && (str || decide (p.str.toList = [])) && decide ((p.refs.length : Int) = refs)
/-- The kinds of a node's kids, 0 where a kid is not ahead of it. -/
def kinds (l : List LNode) (p : LNode) (n : Int) : List Int := p.kids.map fun c => if 0 ≤ c ∧ c < n then ((l[c.toNat]?).map (·.kind)).getD 0 else 0
def kd (ks : List Int) (i : Int) : Int := ks.getD i.toNat 0
/-- From a up to below b all are expressions (0 beyond the end). -/
def exprs (ks : List Int) (a : Int) : Nat → Bool
 | 0 => true
 | n + 1 => isExpr (kd ks a) && exprs ks (a + 1) n
theorem kinds_len (l : List LNode) (p : LNode) (n : Int) : (kinds l p n).length = p.kids.length := by simp [kinds]
theorem fadd_p {row : List AV} {o off : Nat} : fadd (.pptr row o) off = some (.pptr row (o + off)) := rfl
theorem idx_nodes {l : List LNode} {c : Int} {q : LNode} (h0 : 0 ≤ c) (h : l[c.toNat]? = some q) : idx 8 (encNodes l) (.int .i64 c) = some (.pptr (encNode q) 0) := by
 have e : c = ((c.toNat : Nat) : Int) := by omega
 rw [e]; exact idx_encNodes (by simpa using h)
theorem cells_agg' (cs : List AV) : AV.cells (.agg cs) = cs := rfl
section
variable {D : Ctx}
theorem l3expr (H : Door D) (k : Int) (σ : Store) : D.call 65 [.int .i64 k] σ = some (.bool (isExpr k), σ) := by
 rw [H.f65]
 unfold sh_q55 jn isExpr
 by_cases h : 20 ≤ k <;> simp [h]
theorem l3stat (H : Door D) (k : Int) (σ : Store) : D.call 42 [.int .i64 k] σ = some (.bool (isStat k), σ) := by
 rw [H.f42]
 unfold sh_q32 jn isStat
 by_cases h : 1 ≤ k <;> simp [h]
theorem isExpr_ (H : Door D) (k : Int) (σ : Store) : D.call 33 [.int .i64 k] σ = some (.bool (isExpr k), σ) := by
 rw [H.f33]
 unfold sh_q26 jn isExpr
 by_cases h : 20 ≤ k <;> simp [h]
theorem isStmt_ (H : Door D) (k : Int) (σ : Store) : D.call 32 [.int .i64 k] σ = some (.bool (isStat k), σ) := by
 rw [H.f32]
 unfold sh_q25 jn isStat
 by_cases h : 1 ≤ k <;> simp [h]
theorem l3target (H : Door D) (k : Int) (σ : Store) : D.call 56 [.int .i64 k] σ = some (.bool (isTarget k), σ) := by
 rw [H.f56]
 unfold sh_q46 jn isTarget
 by_cases h : k = 26
 ·simp [h]
 ·by_cases h2 : k = 27
  ·simp [h2]
  ·simp [h, h2]
theorem l3many (H : Door D) (k : Int) (σ : Store) : D.call 57 [.int .i64 k] σ = some (.bool (isMany k), σ) := by
 rw [H.f57]
 unfold sh_q47 jn isMany
 by_cases h : k = 34 <;> simp [h]
theorem l3bare (H : Door D) (p : LNode) (op num flt str : Bool) (refs : Int) (σ : Store) : D.call 54 [.agg (encNode p), .bool op, .bool num, .bool flt, .bool str, .int .i64 refs] σ = some (.bool (bare p op num flt str refs), σ) := by
 rw [H.f54]
 unfold sh_q44 jn bare flt0
 have e : bin .eql .num (.flt p.flt) (.flt 0) = some (.bool (fltOrd p.flt 0 == some .eq)) := rfl
 have e2 : bin .eql .num (.str p.str) (.str ⟨#[]⟩) = some (.bool (decide (p.str.toList = []))) := by
  have e0 : (⟨#[]⟩ : ByteArray).toList = [] := by rw [ByteArray.toList_eq]
  rw [bin_seq, e0]
 simp only [cells_agg, rd1_p, node_at2, node_at3, node_at4, node_at5, node_at6, Obs, bin_eql, aCase_bool, e, e2, len_encI]
 cases op <;> cases num <;> cases flt <;> cases str <;> by_cases h1 : p.op = 0 <;> by_cases h2 : p.num = 0 <;> cases h3 : (fltOrd p.flt 0 == some .eq) <;> by_cases h4 : p.str.toList = [] <;> simp [h1, h2, h4]
theorem l3kid (H : Door D) {l : List LNode} {p : LNode} {n : Nat} (hp : l[n]? = some p) (i : Int) (h0 : 0 ≤ i) (σ : Store) : D.call 53 [encNodes l, .int .i64 n, .int .i64 i] σ = some (.int .i64 (kd (kinds l p n) i), σ) := by
 have hn := (List.getElem?_eq_some_iff.1 hp).1
 rw [H.f53]
 unfold sh_q43 jn
 simp only [idx_encNodes hp, Obs, fadd_p, Nat.zero_add, rd1_p, node_at7, len_encI, bin_geq, aCase_bool]
 by_cases hi : (p.kids.length : Int) ≤ i
 ·have : kd (kinds l p n) i = 0 := by
   unfold kd
   rw [List.getD_eq_getElem?_getD, List.getElem?_eq_none (by rw [kinds_len]; omega)]
   rfl
  rw [if_pos (by rw [Dte]; exact hi), this]
 rw [if_neg (by rw [Dte]; exact hi)]
 have hil : i.toNat < p.kids.length := by omega
 have hse : p.kids[i.toNat]? = some p.kids[i.toNat] := Lge hil
 have hidx : idx 1 (encI p.kids) (.int .i64 i) = some (.pptr [.int .i64 p.kids[i.toNat]] 0) := by
  have := idx_encI (k := .i64) hse
  rwa [show ((i.toNat : Nat) : Int) = i by omega] at this
 have hk : kd (kinds l p n) i = if 0 ≤ p.kids[i.toNat] ∧ p.kids[i.toNat] < n then ((l[p.kids[i.toNat].toNat]?).map (·.kind)).getD 0 else 0 := by
  simp [kd, kinds, hse]
 rw [hk]
 simp only [hidx, rd1_p, Lgz, Obs, bin_lss, bin_geq, aCase_bool]
 by_cases c0 : p.kids[i.toNat] < 0
 ·rw [if_pos (by rw [Dte]; exact c0), if_pos trivial, if_neg (by omega)]
 rw [if_neg (by rw [Dte]; exact c0)]
 by_cases c1 : (n : Int) ≤ p.kids[i.toNat]
 ·rw [if_pos (by rw [Dte]; exact c1), if_neg (by omega)]
 rw [if_neg (by rw [Dte]; exact c1), if_pos (by omega)]
 have hcl : p.kids[i.toNat].toNat < l.length := by omega
 have hq : l[p.kids[i.toNat].toNat]? = some l[p.kids[i.toNat].toNat] := Lge hcl
 simp only [idx_nodes (show 0 ≤ p.kids[i.toNat] by omega) hq, hq, Obs, fadd_p, Nat.zero_add, rd1_p, node_at0]
 rfl
theorem kid_v (H : Door D) {l : List LNode} {p : LNode} {n : Nat} (hp : l[n]? = some p) (i : Int) (h0 : 0 ≤ i) (σ : Store) : callV D 53 [encNodes l, .int .i64 n, .int .i64 i] σ = some (.int .i64 (kd (kinds l p n) i)) :=
 callV_eq (by simp [depth]) (l3kid H hp i h0 Store.empty) rfl
theorem l3exprs (H : Door D) {l : List LNode} {p : LNode} {n : Nat} (hp : l[n]? = some p) (b : Int) (hb : b ≤ 1048576) (σ : Store) : ∀ (m : Nat) (a : Int), 0 ≤ a → m = (b - a).toNat → D.call 55 [encNodes l, .int .i64 n, .int .i64 a, .int .i64 b] σ = some (.bool (exprs (kinds l p n) a m), σ) := by
 intro m a h0 hm
 rw [H.f55]
 unfold sh_q45 jn
 have key : ∀ (m : Nat) (a : Int), 0 ≤ a → m = (b - a).toNat → ∀ k : Cur 0, lpFix 1 (lp_q45_1 D (.int .i64 b) (encNodes l) (.int .i64 n) k) (.int .i64 a) σ = if exprs (kinds l p n) a m = true then k σ else some (.bool false, σ) := by
  intro m
  induction m with
  | zero =>
   intro a h0 hm k
   rw [lpFix_eq (lp_q45_1_mono _ _ _ _ _)]
   unfold lp_q45_1 exprs
   simp only [bin_lss, Obs, aCase_bool]
   rw [if_neg (by rw [Dte]; omega), if_pos trivial]
  | succ m ih =>
   intro a h0 hm k
   rw [lpFix_eq (lp_q45_1_mono _ _ _ _ _)]
   have v2 : callV D 65 [.int .i64 (kd (kinds l p n) a)] σ = some (.bool (isExpr (kd (kinds l p n) a))) := callV_eq (by simp [depth]) (l3expr H _ Store.empty) rfl
   have ih' := ih (a + 1) (by omega) (by omega) k
   generalize lpFix 1 (lp_q45_1 D (.int .i64 b) (encNodes l) (.int .i64 n) k) = R at ih' ⊢
   unfold lp_q45_1 exprs
   simp only [bin_lss, Obs, aCase_bool, kid_v H hp a h0, v2, un_not, bin_add (a := a) (b := 1) (by omega) (by omega), ih']
   rw [if_pos (by rw [Dte]; omega)]
   cases isExpr (kd (kinds l p n) a) <;> simp
 refine (key m a h0 hm (fun s => some (.bool true, s))).trans ?_
 cases exprs (kinds l p n) a m <;> simp
/-- The calls that a check of a node makes. -/
structure Looks (D : Ctx) (l : List LNode) (p : LNode) (n : Nat) : Prop where
 at_ : l[n]? = some p
 kids : p.kids.length ≤ 1048576
 v53 : ∀ (i : Int) σ, 0 ≤ i → callV D 53 [encNodes l, .int .i64 n, .int .i64 i] σ = some (.int .i64 (kd (kinds l p n) i))
 v54 : ∀ a b c d r σ, callV D 54 [.agg (encNode p), .bool a, .bool b, .bool c, .bool d, .int .i64 r] σ = some (.bool (bare p a b c d r))
 v55 : ∀ (a b : Int) σ, 0 ≤ a → b ≤ 1048576 → callV D 55 [encNodes l, .int .i64 n, .int .i64 a, .int .i64 b] σ = some (.bool (exprs (kinds l p n) a (b - a).toNat))
 v42 : ∀ (k : Int) σ, callV D 42 [.int .i64 k] σ = some (.bool (isStat k))
 v56 : ∀ (k : Int) σ, callV D 56 [.int .i64 k] σ = some (.bool (isTarget k))
 v57 : ∀ (k : Int) σ, callV D 57 [.int .i64 k] σ = some (.bool (isMany k))
theorem looks (H : Door D) {l : List LNode} {p : LNode} {n : Nat} (hp : l[n]? = some p) (hk : p.kids.length ≤ 1048576) : Looks D l p n where
 at_ := hp
 kids := hk
 v53 := fun i σ h0 => kid_v H hp i h0 σ
 v54 := fun a b c d r σ => callV_eq (by simp [depth]) (l3bare H p a b c d r Store.empty) rfl
 v55 := fun a b σ h0 h1 => callV_eq (by simp [depth]) (l3exprs H hp b h1 Store.empty _ a h0 rfl) rfl
 v42 := fun k σ => callV_eq (by simp [depth]) (l3stat H k Store.empty) rfl
 v56 := fun k σ => callV_eq (by simp [depth]) (l3target H k Store.empty) rfl
 v57 := fun k σ => callV_eq (by simp [depth]) (l3many H k Store.empty) rfl
end
end Go.Asm.UnitF
namespace Go.Asm.UnitF
open Go Go.Asm
section
variable {D : Ctx} {l : List LNode} {p : LNode} {n : Nat}
theorem drop_kinds {i : Nat} (hil : i < p.kids.length) : (kinds l p n).drop i = kd (kinds l p n) i :: (kinds l p n).drop (i + 1) := by
 have hkl : i < (kinds l p n).length := by simpa [kinds] using hil
 rw [List.drop_eq_getElem_cons hkl]
 simp [kd, hkl]
theorem blk_loop (L : Looks D l p n) (k : Cur 0) (σ : Store) : ∀ (m i : Nat), m = p.kids.length - i → i ≤ p.kids.length →
  lpFix 1 (lp_q33_2 D (.int .i64 p.kids.length) (encNodes l) (.int .i64 n) k) (.int .i64 i) σ = if ((kinds l p n).drop i).all isStat = true then k σ else some (.bool false, σ) := by
 intro m
 have hn := L.kids
 induction m with
 | zero =>
  intro i hi h1
  rw [lpFix_eq (lp_q33_2_mono _ _ _ _ _)]
  have e : (kinds l p n).drop i = [] := List.drop_eq_nil_of_le (by simp [kinds]; omega)
  unfold lp_q33_2
  simp only [bin_lss, Obs, aCase_bool, e]
  rw [if_neg (by rw [Dte]; omega)]
  rfl
 | succ m ih =>
  intro i hi h1
  have hil : i < p.kids.length := by omega
  have ih' := ih (i + 1) (by omega) (by omega)
  rw [lpFix_eq (lp_q33_2_mono _ _ _ _ _)]
  generalize lpFix 1 (lp_q33_2 D (.int .i64 p.kids.length) (encNodes l) (.int .i64 n) k) = R at ih' ⊢
  rw [drop_kinds hil]
  have e1 : ((i : Int) + 1) = ((i + 1 : Nat) : Int) := by omega
  unfold lp_q33_2
  simp only [bin_lss, Obs, aCase_bool, L.v53 i σ (by omega), L.v42, un_not, bin_add (a := i) (b := 1) (by omega) (by omega), e1, ih', List.all_cons]
  rw [if_pos (by rw [Dte]; omega)]
  by_cases hc : isStat (kd (kinds l p n) i) = true <;> simp [hc]
theorem tgt_loop (L : Looks D l p n) (h0 : 0 ≤ p.num) (hnum : p.num ≤ p.kids.length) (k : Cur 0) (σ : Store) : ∀ (m i : Nat), m = p.num.toNat - i → i ≤ p.num.toNat →
  lpFix 1 (lp_q33_1 D (encNode p) (encNodes l) (.int .i64 n) k) (.int .i64 i) σ = if (((kinds l p n).take p.num.toNat).drop i).all isTarget = true then k σ else some (.bool false, σ) := by
 intro m
 have hn := L.kids
 induction m with
 | zero =>
  intro i hi h1
  rw [lpFix_eq (lp_q33_1_mono _ _ _ _ _)]
  have e : ((kinds l p n).take p.num.toNat).drop i = [] := List.drop_eq_nil_of_le (by simp; omega)
  unfold lp_q33_1
  simp only [rd1_p, node_at3, bin_lss, Obs, aCase_bool, e]
  rw [if_neg (by rw [Dte]; omega)]
  rfl
 | succ m ih =>
  intro i hi h1
  have hil : i < p.kids.length := by omega
  have ih' := ih (i + 1) (by omega) (by omega)
  rw [lpFix_eq (lp_q33_1_mono _ _ _ _ _)]
  generalize lpFix 1 (lp_q33_1 D (encNode p) (encNodes l) (.int .i64 n) k) = R at ih' ⊢
  have hkl : i < ((kinds l p n).take p.num.toNat).length := by simp [kinds]; omega
  have hkv : ((kinds l p n).take p.num.toNat)[i] = kd (kinds l p n) i := by
   have : i < (kinds l p n).length := by simpa [kinds] using hil
   simp [kd, this]
  rw [List.drop_eq_getElem_cons hkl, hkv]
  have e1 : ((i : Int) + 1) = ((i + 1 : Nat) : Int) := by omega
  unfold lp_q33_1
  simp only [rd1_p, node_at3, bin_lss, Obs, aCase_bool, L.v53 i σ (by omega), L.v56, un_not, bin_add (a := i) (b := 1) (by omega) (by omega), e1, ih', List.all_cons]
  rw [if_pos (by rw [Dte]; omega)]
  by_cases hc : isTarget (kd (kinds l p n) i) = true <;> simp [hc]
def blkOf (ks : List Int) : Bool := decide (0 < (ks.length : Int)) && decide (kd ks ((ks.length : Int) - 1) = 1)
/-- What the specification wants of a statement. -/
def stmt3 (p : LNode) (ks : List Int) : Bool :=
 if p.kind = 1 then ks.all isStat && bare p false false false false 0
 else if p.kind = 2 then decide (0 < (p.refs.length : Int)) && bare p false false false false p.refs.length && exprs ks 0 ks.length
 else if p.kind = 3 then decide (1 ≤ p.num) && decide (p.num < (ks.length : Int)) && (ks.take p.num.toNat).all isTarget && bare p false true false false 0 && exprs ks p.num ((ks.length : Int) - p.num).toNat
 else if p.kind = 4 ∨ p.kind = 14 then decide ((ks.length : Int) = 1) && decide (kd ks 0 = 34) && bare p false false false false 0
 else if p.kind = 5 then (decide ((ks.length : Int) = 2) || decide ((ks.length : Int) = 3) && (decide (kd ks 2 = 1) || decide (kd ks 2 = 5))) && exprs ks 0 1 && decide (kd ks 1 = 1) && bare p false false false false 0
 else if p.kind = 6 then decide ((ks.length : Int) = 2) && exprs ks 0 1 && blkOf ks && bare p false false false false 0
 else if p.kind = 7 then decide ((ks.length : Int) = 4) && exprs ks 0 3 && blkOf ks && bare p false false false false 1
 else if p.kind = 8 then decide ((ks.length : Int) = 2) && decide (1 ≤ (p.refs.length : Int)) && decide ((p.refs.length : Int) ≤ 4) && exprs ks 0 1 && blkOf ks && bare p false false false false p.refs.length
 else if p.kind = 9 ∨ p.kind = 10 then decide ((ks.length : Int) = 0) && bare p false false false false 0
 else if p.kind = 11 then exprs ks 0 ks.length && bare p false false false false 0
 else if p.kind = 12 then decide ((ks.length : Int) = 2) && decide (kd ks 0 = 1) && blkOf ks && bare p false false false false 2
 else if p.kind = 13 then decide ((ks.length : Int) = 1) && exprs ks 0 1 && bare p false false false false 0
 else false
theorem st_join (L : Looks D l p n) (σ : Store) (K : Cur 1) :
  (jn 1 K fun j_9 => aCase (.bool (decide (0 < (p.kids.length : Int)))) ((bin .sub .num (.int .i64 p.kids.length) (.int .i64 1)).bind fun t_208 => (callV D 53 [encNodes l, .int .i64 n, t_208] σ).bind fun t_209 => (bin .eql .num t_209 (.int .i64 1)).bind fun t_210 => j_9 t_210 σ) (j_9 (.bool false) σ)) =
   K (.bool (blkOf (kinds l p n))) σ := by
 have hn := L.kids
 rw [jn_eq, aCase_bool]
 unfold blkOf
 rw [kinds_len]
 by_cases h : 0 < (p.kids.length : Int)
 ·rw [if_pos (by rw [Dte]; exact h), decide_eq_true h]
  simp only [bin_sub (a := p.kids.length) (b := 1) (by omega) (by omega), Obs, L.v53 ((p.kids.length : Int) - 1) σ (by omega), bin_eql, Bool.true_and]
 ·rw [if_neg (by rw [Dte]; exact h), decide_eq_false h]
  rfl
theorem l3statement_sh (L : Looks D l p n) (σ : Store) : sh_q33 D (encNodes l) (.int .i64 n) σ = some (.bool (stmt3 p (kinds l p n)), σ) := by
 have hn := L.kids
 have hkl : (kinds l p n).length = p.kids.length := kinds_len l p n
 have ha : asplit 8 (.agg (encNode p)) = some (encNode p) := rfl
 unfold sh_q33
 simp only [idx_encNodes L.at_, rdN_Node, ha, Obs, rd1_p, node_at7, len_encI, bin_gtr]
 refine (st_join L σ _).trans ?_
 simp only [jn_eq]
 generalize hbk : blkOf (kinds l p n) = b
 unfold stmt3
 rw [hbk]
 rw [hkl]
 simp only [rdN_Node, Obs, rd1_p, node_at0, bin_eql, aCase_bool]
 have hm : (p.kids.length : Int) ≤ 1048576 := by omega
 by_cases h1 : p.kind = 1
 ·simp only [h1, Int.reduceEq, decide_true, decide_false, Bft, if_true, if_false, or_false, false_or, or_true, true_or, or_self]
  have hl := blk_loop L (fun s_14 => (rdN 8 (.pptr (encNode p) 0) s_14).bind fun t_16 => (callV D 54 [.agg t_16, .bool false, .bool false, .bool false, .bool false, .int .i64 0] s_14).bind fun t_17 => some (t_17, s_14)) σ p.kids.length 0 (by omega) (by omega)
  rw [List.drop_zero] at hl
  refine Eq.trans hl ?_
  simp only [rdN_Node, Obs, L.v54]
  cases (kinds l p n).all isStat <;> simp
 by_cases h2 : p.kind = 2
 ·simp only [h2, Int.reduceEq, decide_true, decide_false, Bft, if_true, if_false, or_false, false_or, or_true, true_or, or_self]
  simp [node_at6, len_encI, L.v53, L.v54, L.v55, hm, hkl]
  try all_goals ((repeat' split) <;> simp_all)
 by_cases h3 : p.kind = 3
 ·simp only [h3, Int.reduceEq, decide_true, decide_false, Bft, if_true, if_false, or_false, false_or, or_true, true_or, or_self]
  simp only [node_at3, bin_lss, bin_geq, Obs, aCase_bool]
  by_cases n1 : p.num < 1
  ·have : ¬ 1 ≤ p.num := by omega
   rw [if_pos (by rw [Dte]; exact n1), decide_eq_false this]
   rfl
  rw [if_neg (by rw [Dte]; exact n1)]
  by_cases n2 : (p.kids.length : Int) ≤ p.num
  ·have : ¬ p.num < p.kids.length := by omega
   rw [if_pos (by rw [Dte]; exact n2), decide_eq_false this]
   simp
  rw [if_neg (by rw [Dte]; exact n2), decide_eq_true (show 1 ≤ p.num by omega), decide_eq_true (show p.num < p.kids.length by omega)]
  have hl := fun k => tgt_loop L (show 0 ≤ p.num by omega) (show p.num ≤ p.kids.length by omega) k σ p.num.toNat 0 (by omega) (by omega)
  rw [List.drop_zero] at hl
  refine Eq.trans (hl _) ?_
  simp only [rdN_Node, rd1_p, node_at3, Obs, L.v54, aCase_bool, L.v55 p.num p.kids.length σ (by omega) hm]
  cases ((kinds l p n).take p.num.toNat).all isTarget <;> cases bare p false true false false 0 <;> simp
 by_cases h4 : p.kind = 4
 ·simp only [h4, Int.reduceEq, decide_true, decide_false, Bft, if_true, if_false, or_false, false_or, or_true, true_or, or_self]
  simp [node_at6, len_encI, L.v53, L.v54, L.v55, hm, hkl]
  try all_goals ((repeat' split) <;> simp_all)
 by_cases h5 : p.kind = 5
 ·simp only [h5, Int.reduceEq, decide_true, decide_false, Bft, if_true, if_false, or_false, false_or, or_true, true_or, or_self]
  simp [node_at6, len_encI, L.v53, L.v54, L.v55, hm, hkl]
  try all_goals ((repeat' split) <;> simp_all)
 by_cases h6 : p.kind = 6
 ·simp only [h6, Int.reduceEq, decide_true, decide_false, Bft, if_true, if_false, or_false, false_or, or_true, true_or, or_self]
  simp [node_at6, len_encI, L.v53, L.v54, L.v55, hm, hkl]
  try all_goals ((repeat' split) <;> simp_all)
 by_cases h7 : p.kind = 7
 ·simp only [h7, Int.reduceEq, decide_true, decide_false, Bft, if_true, if_false, or_false, false_or, or_true, true_or, or_self]
  simp [node_at6, len_encI, L.v53, L.v54, L.v55, hm, hkl]
  try all_goals ((repeat' split) <;> simp_all)
 by_cases h8 : p.kind = 8
 ·simp only [h8, Int.reduceEq, decide_true, decide_false, Bft, if_true, if_false, or_false, false_or, or_true, true_or, or_self]
  simp [node_at6, len_encI, L.v53, L.v54, L.v55, hm, hkl]
  try all_goals ((repeat' split) <;> simp_all)
  all_goals (intros; omega)
 by_cases h9 : p.kind = 9
 ·simp only [h9, Int.reduceEq, decide_true, decide_false, Bft, if_true, if_false, or_false, false_or, or_true, true_or, or_self]
  simp [node_at6, len_encI, L.v53, L.v54, L.v55, hm, hkl]
  try all_goals ((repeat' split) <;> simp_all)
 by_cases h10 : p.kind = 10
 ·simp only [h10, Int.reduceEq, decide_true, decide_false, Bft, if_true, if_false, or_false, false_or, or_true, true_or, or_self]
  simp [node_at6, len_encI, L.v53, L.v54, L.v55, hm, hkl]
  try all_goals ((repeat' split) <;> simp_all)
 by_cases h11 : p.kind = 11
 ·simp only [h11, Int.reduceEq, decide_true, decide_false, Bft, if_true, if_false, or_false, false_or, or_true, true_or, or_self]
  simp [node_at6, len_encI, L.v53, L.v54, L.v55, hm, hkl]
  try all_goals ((repeat' split) <;> simp_all)
 by_cases h12 : p.kind = 12
 ·simp only [h12, Int.reduceEq, decide_true, decide_false, Bft, if_true, if_false, or_false, false_or, or_true, true_or, or_self]
  simp [node_at6, len_encI, L.v53, L.v54, L.v55, hm, hkl]
  try all_goals ((repeat' split) <;> simp_all)
 by_cases h13 : p.kind = 13
 ·simp only [h13, Int.reduceEq, decide_true, decide_false, Bft, if_true, if_false, or_false, false_or, or_true, true_or, or_self]
  simp [node_at6, len_encI, L.v53, L.v54, L.v55, hm, hkl]
  try all_goals ((repeat' split) <;> simp_all)
 by_cases h14 : p.kind = 14
 ·simp only [h14, Int.reduceEq, decide_true, decide_false, Bft, if_true, if_false, or_false, false_or, or_true, true_or, or_self]
  simp [node_at6, len_encI, L.v53, L.v54, L.v55, hm, hkl]
  try all_goals ((repeat' split) <;> simp_all)
 simp only [h1, h2, h3, h4, h5, h6, h7, h8, h9, h10, h11, h12, h13, h14, decide_false, Bft, if_false, or_self]
theorem l3statement (H : Door D) (L : Looks D l p n) (σ : Store) : D.call 43 [encNodes l, .int .i64 n] σ = some (.bool (stmt3 p (kinds l p n)), σ) := by
 rw [H.f43]
 exact l3statement_sh L σ
end
end Go.Asm.UnitF
namespace Go.Asm.UnitF
open Go Go.Asm
theorem bin_rem2 {a : Int} : bin .rem .num (.int .i64 a) (.int .i64 2) = some (.int .i64 (a.tmod 2)) := by simp [bin, intBin]
theorem bin_feq (a b : Nat) : bin .eql .num (.flt a) (.flt b) = some (.bool (fltOrd a b == some .eq)) := rfl
/-- What the specification wants of an expression. -/
def expr3 (p : LNode) (ks : List Int) : Bool :=
 if p.kind = 20 ∨ p.kind = 21 ∨ p.kind = 22 ∨ p.kind = 37 then decide ((ks.length : Int) = 0) && bare p false false false false 0
 else if p.kind = 23 then decide ((ks.length : Int) = 0) && bare p false true false false 0
 else if p.kind = 24 then decide ((ks.length : Int) = 0) && fltSame p.flt && bare p false false true false 0
 else if p.kind = 25 then decide ((ks.length : Int) = 0) && decide ((p.str.size : Int) ≤ 4000) && bare p false false false true 0
 else if p.kind = 26 ∨ p.kind = 27 ∨ p.kind = 36 then decide ((ks.length : Int) = 0) && bare p false false false false 1
 else if p.kind = 28 then decide ((ks.length : Int) = 0) && decide (0 ≤ p.num) && decide (p.num < 15) && bare p false true false false 0
 else if p.kind = 29 ∨ p.kind = 30 ∨ p.kind = 33 then decide ((ks.length : Int) = 2) && exprs ks 0 ks.length && bare p false false false false 0
 else if p.kind = 31 then decide ((ks.length : Int) = 1) && exprs ks 0 ks.length && decide (19 ≤ p.op) && decide (p.op ≤ 22) && bare p true false false false 0
 else if p.kind = 32 then decide ((ks.length : Int) = 2) && exprs ks 0 ks.length && decide (1 ≤ p.op) && decide (p.op ≤ 18) && bare p true false false false 0
 else if p.kind = 34 then decide (1 ≤ (ks.length : Int)) && exprs ks 0 ks.length && bare p false false false false 0
 else if p.kind = 35 then decide ((ks.length : Int).tmod 2 = 0) && exprs ks 0 ks.length && (decide (p.op = 0) || (decide (p.op = 1) && decide (2 ≤ (ks.length : Int)) && decide (kd ks ((ks.length : Int) - 2) = 23) && isMany (kd ks ((ks.length : Int) - 1)))) && bare p true false false false 0
 else if p.kind = 38 then decide ((ks.length : Int) = 1) && isMany (kd ks 0) && bare p false false false false 0
 else false
section
variable {D : Ctx} {l : List LNode} {p : LNode} {n : Nat}
theorem l3expression_sh (L : Looks D l p n) (σ : Store) : sh_q34 D (encNodes l) (.int .i64 n) σ = some (.bool (expr3 p (kinds l p n)), σ) := by
 have hn := L.kids
 have hkl : (kinds l p n).length = p.kids.length := kinds_len l p n
 have ha : asplit 8 (.agg (encNode p)) = some (encNode p) := rfl
 have hm : (p.kids.length : Int) ≤ 1048576 := by omega
 have v55 := L.v55 0 p.kids.length σ (by omega) hm
 rw [show ((p.kids.length : Int) - 0).toNat = p.kids.length by omega] at v55
 unfold sh_q34 expr3
 rw [hkl]
 generalize hall : exprs (kinds l p n) 0 p.kids.length = all at v55 ⊢
 clear hall
 simp only [idx_encNodes L.at_, rdN_Node, ha, Obs, rd1_p, node_at7, node_at0, len_encI, v55, bin_eql, aCase_bool, jn_eq]
 by_cases h20 : p.kind = 20
 ·simp only [h20, Int.reduceEq, decide_true, decide_false, Bft, if_true, if_false, or_false, false_or, or_true, true_or, or_self]
  simp [node_at2, node_at3, node_at4, node_at5, L.v53, L.v54, L.v57, hkl, bin_feq, fltSame]
  try all_goals ((repeat' split) <;> simp_all)
 by_cases h21 : p.kind = 21
 ·simp only [h21, Int.reduceEq, decide_true, decide_false, Bft, if_true, if_false, or_false, false_or, or_true, true_or, or_self]
  simp [node_at2, node_at3, node_at4, node_at5, L.v53, L.v54, L.v57, hkl, bin_feq, fltSame]
  try all_goals ((repeat' split) <;> simp_all)
 by_cases h22 : p.kind = 22
 ·simp only [h22, Int.reduceEq, decide_true, decide_false, Bft, if_true, if_false, or_false, false_or, or_true, true_or, or_self]
  simp [node_at2, node_at3, node_at4, node_at5, L.v53, L.v54, L.v57, hkl, bin_feq, fltSame]
  try all_goals ((repeat' split) <;> simp_all)
 by_cases h23 : p.kind = 23
 ·simp only [h23, Int.reduceEq, decide_true, decide_false, Bft, if_true, if_false, or_false, false_or, or_true, true_or, or_self]
  simp [node_at2, node_at3, node_at4, node_at5, L.v53, L.v54, L.v57, hkl, bin_feq, fltSame]
  try all_goals ((repeat' split) <;> simp_all)
 by_cases h24 : p.kind = 24
 ·simp only [h24, Int.reduceEq, decide_true, decide_false, Bft, if_true, if_false, or_false, false_or, or_true, true_or, or_self]
  simp [node_at2, node_at3, node_at4, node_at5, L.v53, L.v54, L.v57, hkl, bin_feq, fltSame]
  try all_goals ((repeat' split) <;> simp_all)
 by_cases h25 : p.kind = 25
 ·simp only [h25, Int.reduceEq, decide_true, decide_false, Bft, if_true, if_false, or_false, false_or, or_true, true_or, or_self]
  simp [node_at2, node_at3, node_at4, node_at5, L.v53, L.v54, L.v57, hkl, bin_feq, fltSame]
  try all_goals ((repeat' split) <;> simp_all)
  all_goals (intros; omega)
 by_cases h26 : p.kind = 26
 ·simp only [h26, Int.reduceEq, decide_true, decide_false, Bft, if_true, if_false, or_false, false_or, or_true, true_or, or_self]
  simp [node_at2, node_at3, node_at4, node_at5, L.v53, L.v54, L.v57, hkl, bin_feq, fltSame]
  try all_goals ((repeat' split) <;> simp_all)
 by_cases h27 : p.kind = 27
 ·simp only [h27, Int.reduceEq, decide_true, decide_false, Bft, if_true, if_false, or_false, false_or, or_true, true_or, or_self]
  simp [node_at2, node_at3, node_at4, node_at5, L.v53, L.v54, L.v57, hkl, bin_feq, fltSame]
  try all_goals ((repeat' split) <;> simp_all)
 by_cases h28 : p.kind = 28
 ·simp only [h28, Int.reduceEq, decide_true, decide_false, Bft, if_true, if_false, or_false, false_or, or_true, true_or, or_self]
  simp [node_at2, node_at3, node_at4, node_at5, L.v53, L.v54, L.v57, hkl, bin_feq, fltSame]
  try all_goals ((repeat' split) <;> simp_all)
  all_goals (intros; omega)
 by_cases h29 : p.kind = 29
 ·simp only [h29, Int.reduceEq, decide_true, decide_false, Bft, if_true, if_false, or_false, false_or, or_true, true_or, or_self]
  simp [node_at2, node_at3, node_at4, node_at5, L.v53, L.v54, L.v57, hkl, bin_feq, fltSame]
  try all_goals ((repeat' split) <;> simp_all)
 by_cases h30 : p.kind = 30
 ·simp only [h30, Int.reduceEq, decide_true, decide_false, Bft, if_true, if_false, or_false, false_or, or_true, true_or, or_self]
  simp [node_at2, node_at3, node_at4, node_at5, L.v53, L.v54, L.v57, hkl, bin_feq, fltSame]
  try all_goals ((repeat' split) <;> simp_all)
 by_cases h31 : p.kind = 31
 ·simp only [h31, Int.reduceEq, decide_true, decide_false, Bft, if_true, if_false, or_false, false_or, or_true, true_or, or_self]
  simp [node_at2, node_at3, node_at4, node_at5, L.v53, L.v54, L.v57, hkl, bin_feq, fltSame]
  try all_goals ((repeat' split) <;> simp_all)
  all_goals (intros; omega)
 by_cases h32 : p.kind = 32
 ·simp only [h32, Int.reduceEq, decide_true, decide_false, Bft, if_true, if_false, or_false, false_or, or_true, true_or, or_self]
  simp [node_at2, node_at3, node_at4, node_at5, L.v53, L.v54, L.v57, hkl, bin_feq, fltSame]
  try all_goals ((repeat' split) <;> simp_all)
  all_goals (intros; omega)
 by_cases h33 : p.kind = 33
 ·simp only [h33, Int.reduceEq, decide_true, decide_false, Bft, if_true, if_false, or_false, false_or, or_true, true_or, or_self]
  simp [node_at2, node_at3, node_at4, node_at5, L.v53, L.v54, L.v57, hkl, bin_feq, fltSame]
  try all_goals ((repeat' split) <;> simp_all)
 by_cases h34 : p.kind = 34
 ·simp only [h34, Int.reduceEq, decide_true, decide_false, Bft, if_true, if_false, or_false, false_or, or_true, true_or, or_self]
  simp [node_at2, node_at3, node_at4, node_at5, L.v53, L.v54, L.v57, hkl, bin_feq, fltSame]
  try all_goals ((repeat' split) <;> simp_all)
  all_goals (intros; omega)
 by_cases h35 : p.kind = 35
 ·simp only [h35, Int.reduceEq, decide_true, decide_false, Bft, if_true, if_false, or_false, false_or, or_true, true_or, or_self]
  by_cases q1 : p.op = 0
  ·simp [q1, node_at2, bin_rem2, L.v54]
   try all_goals ((repeat' split) <;> simp_all)
  by_cases q2 : p.op = 1
  ·by_cases q3 : 2 ≤ (p.kids.length : Int)
   ·have w1 := L.v53 ((p.kids.length : Int) - 2) σ (by omega)
    have w2 := L.v53 ((p.kids.length : Int) - 1) σ (by omega)
    simp [q1, q2, q3, node_at2, bin_rem2, L.v54, L.v57, w1, w2, bin_sub (a := p.kids.length) (b := 1) (by omega) (by omega), bin_sub (a := p.kids.length) (b := 2) (by omega) (by omega)]
    try all_goals ((repeat' split) <;> simp_all)
   ·simp [q1, q2, q3, node_at2, bin_rem2, L.v54]
    try all_goals ((repeat' split) <;> simp_all)
  ·simp [q1, q2, node_at2, bin_rem2, L.v54]
   try all_goals ((repeat' split) <;> simp_all)
 by_cases h36 : p.kind = 36
 ·simp only [h36, Int.reduceEq, decide_true, decide_false, Bft, if_true, if_false, or_false, false_or, or_true, true_or, or_self]
  simp [node_at2, node_at3, node_at4, node_at5, L.v53, L.v54, L.v57, hkl, bin_feq, fltSame]
  try all_goals ((repeat' split) <;> simp_all)
 by_cases h37 : p.kind = 37
 ·simp only [h37, Int.reduceEq, decide_true, decide_false, Bft, if_true, if_false, or_false, false_or, or_true, true_or, or_self]
  simp [node_at2, node_at3, node_at4, node_at5, L.v53, L.v54, L.v57, hkl, bin_feq, fltSame]
  try all_goals ((repeat' split) <;> simp_all)
 by_cases h38 : p.kind = 38
 ·simp only [h38, Int.reduceEq, decide_true, decide_false, Bft, if_true, if_false, or_false, false_or, or_true, true_or, or_self]
  simp [node_at2, node_at3, node_at4, node_at5, L.v53, L.v54, L.v57, hkl, bin_feq, fltSame]
  try all_goals ((repeat' split) <;> simp_all)
 simp only [h20, h21, h22, h23, h24, h25, h26, h27, h28, h29, h30, h31, h32, h33, h34, h35, h36, h37, h38, decide_false, Bft, if_false, or_self]
theorem l3expression (H : Door D) (L : Looks D l p n) (σ : Store) : D.call 44 [encNodes l, .int .i64 n] σ = some (.bool (expr3 p (kinds l p n)), σ) := by
 rw [H.f44]
 exact l3expression_sh L σ
end
end Go.Asm.UnitF
namespace Go.Asm.UnitF
open Go Go.Asm
def kidsIn (p : LNode) (n : Int) : Bool := p.kids.all fun c => decide (0 ≤ c) && decide (c < n)
/-- What the specification wants of a node at place n. -/
def shape3 (l : List LNode) (p : LNode) (n : Int) : Bool :=
 decide ((p.kids.length : Int) ≤ 200) && kidsIn p n && (if isStat p.kind = true then decide (1 ≤ p.line) && decide (p.line ≤ 100000) && stmt3 p (kinds l p n) else decide (p.line = 0) && expr3 p (kinds l p n))
section
variable {D : Ctx} {l : List LNode} {p : LNode} {n : Nat}
theorem shape_kids (hn : p.kids.length ≤ 1048576) (k : Cur 0) (σ : Store) : ∀ i, i ≤ p.kids.length →
  lpFix 1 (lp_q19_1 D (.int .i64 p.kids.length) (encI p.kids) (.int .i64 n) k) (.int .i64 i) σ = if (p.kids.drop i).all (fun c => decide (0 ≤ c) && decide (c < (n : Int))) = true then k σ else some (.bool false, σ) := by
 intro i hi
 have := lp_upE (lp_q19_1_mono D (.int .i64 p.kids.length) (encI p.kids) (.int .i64 n) k) p.kids.length (fun i σ => if (p.kids.drop i).all (fun c => decide (0 ≤ c) && decide (c < (n : Int))) = true then k σ else some (.bool false, σ)) ?_ ?_ i hi σ
 ·exact this
 ·intro R σ
  unfold lp_q19_1
  simp only [bin_lss, Obs, aCase_bool]
  rw [if_neg (by simp)]
  simp
 ·intro i hi R σ hR
  have hse : p.kids[i]? = some p.kids[i] := Lge hi
  have hd : ((p.kids.drop i).all fun c => decide (0 ≤ c) && decide (c < (n : Int))) = (decide (0 ≤ p.kids[i]) && decide (p.kids[i] < (n : Int)) && (p.kids.drop (i + 1)).all fun c => decide (0 ≤ c) && decide (c < (n : Int))) := by rw [List.drop_eq_getElem_cons hi, List.all_cons]
  generalize ((p.kids.drop (i + 1)).all fun c => decide (0 ≤ c) && decide (c < (n : Int))) = B at hd hR
  generalize ((p.kids.drop i).all fun c => decide (0 ≤ c) && decide (c < (n : Int))) = A at hd ⊢
  subst hd
  unfold lp_q19_1
  simp only [bin_lss, bin_geq, Obs, aCase_bool, jn_eq, idx_encI hse, rd1_p, Lgz, bin_add (a := i) (b := 1) (by omega) (by omega), hR]
  rw [if_pos (by rw [Dte]; omega)]
  by_cases c0 : p.kids[i] < 0
  ·rw [if_pos (by rw [Dte]; exact c0), if_pos trivial]
   simp [show ¬ 0 ≤ p.kids[i] by omega]
  rw [if_neg (by rw [Dte]; exact c0)]
  by_cases c1 : (n : Int) ≤ p.kids[i]
  ·rw [if_pos (by rw [Dte]; exact c1)]
   simp [show ¬ p.kids[i] < (n : Int) by omega]
  ·rw [if_neg (by rw [Dte]; exact c1)]
   simp [show p.kids[i] < (n : Int) by omega, show 0 ≤ p.kids[i] by omega]
theorem l3shape (H : Door D) (hp : l[n]? = some p) (hk : p.kids.length ≤ 1048576) (σ : Store) : D.call 24 [encNodes l, .int .i64 n] σ = some (.bool (shape3 l p n), σ) := by
 have L := looks H hp hk
 have ha : asplit 8 (.agg (encNode p)) = some (encNode p) := rfl
 have v43 : ∀ σ, callV D 43 [encNodes l, .int .i64 n] σ = some (.bool (stmt3 p (kinds l p n))) := fun σ => callV_eq (by simp [depth]) (l3statement H L Store.empty) rfl
 have v44 : ∀ σ, callV D 44 [encNodes l, .int .i64 n] σ = some (.bool (expr3 p (kinds l p n))) := fun σ => callV_eq (by simp [depth]) (l3expression H L Store.empty) rfl
 rw [H.f24]
 unfold sh_q19 shape3
 simp only [idx_encNodes hp, rdN_Node, ha, Obs, rd1_p, node_at7, node_at0, node_at1, len_encI, bin_gtr, bin_geq, bin_leq, bin_eql, aCase_bool, jn_eq, L.v42, v43, v44]
 by_cases h1 : (200 : Int) < p.kids.length
 ·rw [if_pos (by rw [Dte]; exact h1), decide_eq_false (show ¬ (p.kids.length : Int) ≤ 200 by omega)]
  simp
 rw [if_neg (by rw [Dte]; exact h1), decide_eq_true (show (p.kids.length : Int) ≤ 200 by omega)]
 refine (shape_kids hk _ σ 0 (by omega)).trans ?_
 rw [List.drop_zero]
 show (if kidsIn p n = true then _ else _) = _
 by_cases h2 : kidsIn p n = true
 ·rw [if_pos h2, h2]
  by_cases h3 : isStat p.kind = true
  ·rw [if_pos h3, if_pos h3]
   by_cases h4 : 1 ≤ p.line
   ·by_cases h5 : p.line ≤ 100000 <;> simp [h4, h5]
   ·simp [h4]
  ·rw [if_neg h3, if_neg h3]
   by_cases h4 : p.line = 0 <;> simp [h4]
 ·rw [if_neg h2]
  have : kidsIn p n = false := by simpa using h2
  rw [this]
  simp
end
end Go.Asm.UnitF
namespace Go.Asm.UnitF
open Go Go.Asm
theorem slice_encI (ks : List Int) (a b : Nat) (h1 : a ≤ b) (h2 : b ≤ ks.length) : sliceV 1 (encI ks) (some (.int .i64 a)) (some (.int .i64 b)) = some (encI ((ks.take b).drop a)) := by
 have h : (0 : Int) ≤ a ∧ (a : Int) ≤ b ∧ (b : Int) ≤ ks.length := ⟨by omega, by omega, by omega⟩
 simp [sliceV, encI, bound, h1, h2, List.map_take, List.map_drop]
section
variable {D : Ctx} (H : Door D)
theorem all_loop (g : Nat) (Q : Int → Bool) (hg : ∀ x σ, D.call g [.int .i64 x] σ = some (.bool (Q x), σ)) (ks : List Int) (hn : ks.length ≤ 1048576) (k : Cur 0) (σ : Store) : ∀ (n i : Nat), n = ks.length - i → i ≤ ks.length →
  lpFix 1 (lp_q12_1_1 D (.int .i64 ks.length) (encI ks) (.func g [] []) k) (.int .i64 i) σ = if (ks.drop i).all Q then k σ else some (.bool false, σ) := by
 intro n
 induction n with
 | zero =>
  intro i hi h1
  rw [lpFix_eq (lp_q12_1_1_mono _ _ _ _ _)]
  have : ¬ (i < ks.length) := by omega
  have e : ks.drop i = [] := List.drop_eq_nil_of_le (by omega)
  simp [lp_q12_1_1, this, e]
 | succ n ih =>
  intro i hi h1
  have hil : i < ks.length := by omega
  have hse : ks[i]? = some ks[i] := Lge hil
  have ih' := ih (i + 1) (by omega) (by omega)
  rw [lpFix_eq (lp_q12_1_1_mono _ _ _ _ _)]
  generalize lpFix 1 (lp_q12_1_1 D (.int .i64 ks.length) (encI ks) (.func g [] []) k) = R at ih' ⊢
  rw [List.drop_eq_getElem_cons hil]
  have e1 : ((i : Int) + 1) = ((i + 1 : Nat) : Int) := by omega
  have hc : callD D (.func g [] []) [.int .i64 ks[i]] σ = some (.bool (Q ks[i]), σ) := hg _ _
  simp only [lp_q12_1_1, bin_lss, Obs, aCase_bool, idx_encI hse, rd1_p, Lgz, hc, un_not, bin_add (a := i) (b := 1) (by omega) (by omega), e1, ih', List.all_cons]
  rw [if_pos (by simpa using hil)]
  by_cases hq : Q ks[i] = true <;> simp [hq]
theorem is_loop (ks js : List Int) (i : Nat) (x : Int) (hx : ks[i]? = some x) (hn : js.length ≤ 1048576) (k : Cur 0) (σ : Store) : ∀ (n j : Nat), n = js.length - j → j ≤ js.length →
  lpFix 1 (lp_q12_2_1 D (.int .i64 js.length) (encI js) (.pptr [encI ks] 0) (.int .i64 i) k) (.int .i64 j) σ = if (js.drop j).any (fun y => decide (x = y)) then some (.bool true, σ) else k σ := by
 intro n
 induction n with
 | zero =>
  intro j hi h1
  rw [lpFix_eq (lp_q12_2_1_mono _ _ _ _ _ _)]
  have : ¬ (j < js.length) := by omega
  have e : js.drop j = [] := List.drop_eq_nil_of_le (by omega)
  simp [lp_q12_2_1, this, e]
 | succ n ih =>
  intro j hi h1
  have hil : j < js.length := by omega
  have hse : js[j]? = some js[j] := Lge hil
  have ih' := ih (j + 1) (by omega) (by omega)
  rw [lpFix_eq (lp_q12_2_1_mono _ _ _ _ _ _)]
  generalize lpFix 1 (lp_q12_2_1 D (.int .i64 js.length) (encI js) (.pptr [encI ks] 0) (.int .i64 i) k) = R at ih' ⊢
  rw [List.drop_eq_getElem_cons hil]
  have e1 : ((j : Int) + 1) = ((j + 1 : Nat) : Int) := by omega
  simp only [lp_q12_2_1, bin_lss, bin_eql, Obs, aCase_bool, idx_encI hse, idx_encI hx, rd1_p, Lgz, bin_add (a := j) (b := 1) (by omega) (by omega), e1, ih', List.any_cons]
  rw [if_pos (by simpa using hil)]
  by_cases hq : x = js[j] <;> simp [hq]
theorem all_g (H : Door D) (g : Nat) (Q : Int → Bool) (hg : ∀ x σ, D.call g [.int .i64 x] σ = some (.bool (Q x), σ)) (a1 : AV) (ks : List Int) (hn : ks.length ≤ 1048576) (a b : Nat) (h1 : a ≤ b) (h2 : b ≤ ks.length)
  (hsl : sliceV 1 a1 (some (.int .i64 a)) (some (.int .i64 b)) = some (encI ((ks.take b).drop a))) (σ : Store) :
  D.call 30 [.func g [] [], .int .i64 a, .int .i64 b, .pptr [a1] 0] σ = some (.bool (((ks.take b).drop a).all Q), σ) := by
 rw [H.f30]
 unfold sh_q12_1 jn
 simp only [rd1_p, Lgz, Obs, hsl, len_encI]
 have := all_loop g Q hg ((ks.take b).drop a) (by simp; omega) (fun s_4 => some (.bool true, s_4)) σ ((ks.take b).drop a).length 0 (by omega) (by omega)
 rw [List.drop_zero] at this
 refine Eq.trans this ?_
 cases ((ks.take b).drop a).all Q <;> simp
theorem all_ (H : Door D) (g : Nat) (Q : Int → Bool) (hg : ∀ x σ, D.call g [.int .i64 x] σ = some (.bool (Q x), σ)) (ks : List Int) (hn : ks.length ≤ 1048576) (a b : Nat) (h1 : a ≤ b) (h2 : b ≤ ks.length) (σ : Store) :
  D.call 30 [.func g [] [], .int .i64 a, .int .i64 b, .pptr [encI ks] 0] σ = some (.bool (((ks.take b).drop a).all Q), σ) := all_g H g Q hg (encI ks) ks hn a b h1 h2 (slice_encI ks a b h1 h2) σ
theorem is_ (H : Door D) (ks js : List Int) (i : Nat) (x : Int) (hx : ks[i]? = some x) (hn : js.length ≤ 1048576) (σ : Store) :
  D.call 31 [.int .i64 i, encI js, .pptr [encI ks] 0] σ = some (.bool (js.any fun y => decide (x = y)), σ) := by
 rw [H.f31]
 unfold sh_q12_2 jn
 simp only [Obs, len_encI]
 have := is_loop (D := D) ks js i x hx hn (fun s_2 => some (.bool false, s_2)) σ js.length 0 (by omega) (by omega)
 rw [List.drop_zero] at this
 refine Eq.trans this ?_
 by_cases h : (js.any fun y => decide (x = y)) = true
 ·rw [if_pos h, h]
 ·have h' : (js.any fun y => decide (x = y)) = false := by simpa only [Bool.not_eq_true] using h
  rw [if_neg h, h']
theorem target_ (H : Door D) (k : Int) (σ : Store) : D.call 34 [.int .i64 k] σ = some (.bool (isTarget k), σ) := by
 rw [H.f34]
 unfold sh_q12_3 jn isTarget
 by_cases h : k = 26
 ·simp [h]
 ·by_cases h2 : k = 27
  ·simp [h2]
  ·simp [h, h2]
end
def alls (Q : Int → Bool) (ks : List Int) (a b : Int) : Bool := ((ks.take b.toNat).drop a.toNat).all Q
/-- How nodeShape judges a node: its findings put together. -/
def shapeEnd (p : LNode) (num flt str op ok : Bool) (minR maxR : Int) : Bool :=
 ok && decide (minR ≤ p.refs.length) && decide ((p.refs.length : Int) ≤ maxR) &&
  (if isStat p.kind = true then decide (1 ≤ p.line) && decide (p.line ≤ 100000) else decide (p.line = 0)) &&
  ((num || decide (p.num = 0)) && (flt || flt0 p.flt) && (str || decide (p.str.toList = [])) && (op || decide (p.op = 0)))
section
variable {D : Ctx}
theorem shape_end (H : Door D) (p : LNode) (num flt txt op ok : Bool) (minN maxN : Int) (σ : Store) :
  jk_q12_19 D (.agg (encNode p)) (.int .i64 p.refs.length) (.bool num) (.bool flt) (.bool txt) (.bool op) (.bool ok) (.int .i64 minN) (.int .i64 maxN) σ = some (.bool (shapeEnd p num flt txt op ok minN maxN), σ) := by
 unfold jk_q12_19 jn
 have v : ∀ σ, callV D 32 [.int .i64 p.kind] σ = some (.bool (isStat p.kind)) := fun σ => callV_eq (by simp [depth]) (isStmt_ H p.kind Store.empty) rfl
 have e : bin .eql .num (.flt p.flt) (.flt 0) = some (.bool (flt0 p.flt)) := rfl
 have e2 : bin .eql .num (.str p.str) (.str ⟨#[]⟩) = some (.bool (decide (p.str.toList = []))) := by
  have e0 : (⟨#[]⟩ : ByteArray).toList = [] := by rw [ByteArray.toList_eq]
  rw [bin_seq, e0]
 simp only [un_not, Obs, cells_agg, rd1_p, node_at0, node_at1, node_at2, node_at3, node_at4, node_at5, bin_lss, bin_gtr, bin_eql, bin_neq, aCase_bool, v, e, e2]
 cases ok with
 | false => simp [shapeEnd]
 | true =>
  by_cases h1 : (p.refs.length : Int) < minN
  ·have : ¬ minN ≤ p.refs.length := by omega
   simp [shapeEnd, h1, this]
  by_cases h2 : maxN < p.refs.length
  ·have : ¬ (p.refs.length : Int) ≤ maxN := by omega
   simp [shapeEnd, h1, h2, this]
  have t1 : minN ≤ p.refs.length := by omega
  have t2 : (p.refs.length : Int) ≤ maxN := by omega
  have c3 : (1 ≤ p.line) = ¬ (p.line < 1) := propext ⟨fun h => by omega, fun h => by omega⟩
  have c4 : (p.line ≤ 100000) = ¬ (100000 < p.line) := propext ⟨fun h => by omega, fun h => by omega⟩
  unfold shapeEnd
  simp only [h1, h2, t1, t2, c3, c4, decide_true, decide_false, decide_not, Bool.true_and, Bool.not_true, Bft, if_false]
  cases hk : isStat p.kind <;> simp only [Bft, if_false, if_true]
  ·by_cases b3 : p.line = 0
   ·cases num <;> cases flt <;> cases txt <;> cases op <;> by_cases g1 : p.num = 0 <;> cases g2 : flt0 p.flt <;> by_cases g3 : p.str.toList = [] <;> simp [b3, g1, g3]
   ·simp [b3]
  ·by_cases b3 : p.line < 1
   ·simp [b3]
   by_cases b4 : 100000 < p.line
   ·simp [b3, b4]
   cases num <;> cases flt <;> cases txt <;> cases op <;> by_cases g1 : p.num = 0 <;> cases g2 : flt0 p.flt <;> by_cases g3 : p.str.toList = [] <;> simp [b3, b4, g1, g3]
end
end Go.Asm.UnitF
namespace Go.Asm.UnitF
open Go Go.Asm
/-- What nodeShape makes of a node, its kids' number in bounds. -/
def shapeMid (p : LNode) (ks : List Int) : Bool :=
 if p.kind = 1 then shapeEnd p false false false false (alls isStat ks 0 ks.length) 0 0
 else if p.kind = 2 then shapeEnd p false false false false (alls isExpr ks 0 ks.length) 1 9223372036854775807
 else if p.kind = 3 then decide (1 ≤ p.num) && decide (p.num < (ks.length : Int)) && shapeEnd p true false false false (alls isTarget ks 0 p.num && alls isExpr ks p.num ks.length) 0 0
 else if p.kind = 4 then shapeEnd p false false false false ((decide ((ks.length : Int) = 1) && decide (kd ks 0 = 34))) 0 0
 else if p.kind = 5 then shapeEnd p false false false false (((decide ((ks.length : Int) = 2) || decide ((ks.length : Int) = 3)) && isExpr (kd ks 0) && decide (kd ks 1 = 1) && (decide ((ks.length : Int) = 2) || (decide (kd ks 2 = 1) || decide (kd ks 2 = 5))))) 0 0
 else if p.kind = 6 then shapeEnd p false false false false ((decide ((ks.length : Int) = 2) && isExpr (kd ks 0) && decide (kd ks 1 = 1))) 0 0
 else if p.kind = 7 then shapeEnd p false false false false ((decide ((ks.length : Int) = 4) && alls isExpr ks 0 3 && decide (kd ks 3 = 1))) 1 1
 else if p.kind = 8 then shapeEnd p false false false false ((decide ((ks.length : Int) = 2) && isExpr (kd ks 0) && decide (kd ks 1 = 1))) 1 4
 else if p.kind = 9 then shapeEnd p false false false false (decide ((ks.length : Int) = 0)) 0 0
 else if p.kind = 10 then shapeEnd p false false false false (decide ((ks.length : Int) = 0)) 0 0
 else if p.kind = 11 then shapeEnd p false false false false (alls isExpr ks 0 ks.length) 0 0
 else if p.kind = 12 then shapeEnd p false false false false ((decide ((ks.length : Int) = 2) && decide (kd ks 0 = 1) && decide (kd ks 1 = 1))) 2 2
 else if p.kind = 13 then shapeEnd p false false false false ((decide ((ks.length : Int) = 1) && isExpr (kd ks 0))) 0 0
 else if p.kind = 14 then shapeEnd p false false false false ((decide ((ks.length : Int) = 1) && decide (kd ks 0 = 34))) 0 0
 else if p.kind = 20 then shapeEnd p false false false false (decide ((ks.length : Int) = 0)) 0 0
 else if p.kind = 21 then shapeEnd p false false false false (decide ((ks.length : Int) = 0)) 0 0
 else if p.kind = 22 then shapeEnd p false false false false (decide ((ks.length : Int) = 0)) 0 0
 else if p.kind = 23 then shapeEnd p true false false false (decide ((ks.length : Int) = 0)) 0 0
 else if p.kind = 24 then shapeEnd p false true false false ((decide ((ks.length : Int) = 0) && fltSame p.flt)) 0 0
 else if p.kind = 25 then shapeEnd p false false true false ((decide ((ks.length : Int) = 0) && decide ((p.str.size : Int) ≤ 4000))) 0 0
 else if p.kind = 26 then shapeEnd p false false false false (decide ((ks.length : Int) = 0)) 1 1
 else if p.kind = 27 then shapeEnd p false false false false (decide ((ks.length : Int) = 0)) 1 1
 else if p.kind = 28 then shapeEnd p true false false false ((decide ((ks.length : Int) = 0) && decide (0 ≤ p.num) && decide (p.num < 15))) 0 0
 else if p.kind = 29 then shapeEnd p false false false false ((decide ((ks.length : Int) = 2) && alls isExpr ks 0 2)) 0 0
 else if p.kind = 30 then shapeEnd p false false false false ((decide ((ks.length : Int) = 2) && alls isExpr ks 0 2)) 0 0
 else if p.kind = 31 then shapeEnd p false false false true ((decide ((ks.length : Int) = 1) && isExpr (kd ks 0) && decide (19 ≤ p.op) && decide (p.op ≤ 22))) 0 0
 else if p.kind = 32 then shapeEnd p false false false true ((decide ((ks.length : Int) = 2) && alls isExpr ks 0 2 && decide (1 ≤ p.op) && decide (p.op ≤ 18))) 0 0
 else if p.kind = 33 then shapeEnd p false false false false ((decide ((ks.length : Int) = 2) && alls isExpr ks 0 2)) 0 0
 else if p.kind = 34 then shapeEnd p false false false false ((decide (1 ≤ (ks.length : Int)) && alls isExpr ks 0 ks.length)) 0 0
 else if p.kind = 35 then shapeEnd p false false false true (((decide (p.op = 0) || decide (p.op = 1)) && decide ((ks.length : Int).tmod 2 = 0) && alls isExpr ks 0 ks.length && (!decide (p.op = 1) || (decide (2 ≤ (ks.length : Int)) && decide (kd ks (ks.length - 2) = 23) && (decide (kd ks (ks.length - 1) = 34) || decide (kd ks (ks.length - 1) = 37)))))) 0 0
 else if p.kind = 36 then shapeEnd p false false false false (decide ((ks.length : Int) = 0)) 1 1
 else if p.kind = 37 then shapeEnd p false false false false (decide ((ks.length : Int) = 0)) 0 0
 else if p.kind = 38 then shapeEnd p false false false false ((decide ((ks.length : Int) = 1) && (decide (kd ks 0 = 34) || decide (kd ks 0 = 37)))) 0 0
 else shapeEnd p false false false false false 0 0
/-- What nodeShape calls. -/
structure PSub (D : Ctx) (p : LNode) (ks : List Int) (a1 : AV) : Prop where
 len : ks.length ≤ 1048576
 cells : AV.cells a1 = [a1]
 lenV : ∀ σ, lenV .sl a1 σ = some (.int .i64 ks.length)
 all33 : ∀ (a b : Int) σ, 0 ≤ a → a ≤ b → b ≤ ks.length → callD D (.func 30 [] [.pptr [a1] 0]) [.func 33 [] [], .int .i64 a, .int .i64 b] σ = some (.bool (alls isExpr ks a b), σ)
 all32 : ∀ (a b : Int) σ, 0 ≤ a → a ≤ b → b ≤ ks.length → callD D (.func 30 [] [.pptr [a1] 0]) [.func 32 [] [], .int .i64 a, .int .i64 b] σ = some (.bool (alls isStat ks a b), σ)
 all34 : ∀ (a b : Int) σ, 0 ≤ a → a ≤ b → b ≤ ks.length → callD D (.func 30 [] [.pptr [a1] 0]) [.func 34 [] [], .int .i64 a, .int .i64 b] σ = some (.bool (alls isTarget ks a b), σ)
 is1 : ∀ (i a : Int) σ, 0 ≤ i → i < ks.length → callD D (.func 31 [] [.pptr [a1] 0]) [.int .i64 i, .pslice 1 [.agg [.int .i64 a]]] σ = some (.bool (decide (kd ks i = a)), σ)
 is2 : ∀ (i a b : Int) σ, 0 ≤ i → i < ks.length → callD D (.func 31 [] [.pptr [a1] 0]) [.int .i64 i, .pslice 1 [.agg [.int .i64 a], .agg [.int .i64 b]]] σ = some (.bool (decide (kd ks i = a) || decide (kd ks i = b)), σ)
 v33 : ∀ (k : Int) σ, callV D 33 [.int .i64 k] σ = some (.bool (isExpr k))
 at_ : ∀ (i : Int), 0 ≤ i → i < ks.length → idx 1 a1 (.int .i64 i) = some (.pptr [.int .i64 (kd ks i)] 0)
 fin : ∀ num flt txt op ok a b σ, jk_q12_19 D (.agg (encNode p)) (.int .i64 p.refs.length) (.bool num) (.bool flt) (.bool txt) (.bool op) (.bool ok) (.int .i64 a) (.int .i64 b) σ = some (.bool (shapeEnd p num flt txt op ok a b), σ)
theorem kd_at {ks : List Int} {i : Int} (h0 : 0 ≤ i) (h1 : i < ks.length) : ks[i.toNat]? = some (kd ks i) := by
 have : i.toNat < ks.length := by omega
 simp [kd, this]
section
variable {D : Ctx}
theorem psub (H : Door D) (p : LNode) (ks : List Int) (hn : ks.length ≤ 1048576) : PSub D p ks (encI ks) where
 len := hn
 cells := rfl
 lenV := fun σ => len_encI ks
 all33 := fun a b σ h1 h2 h3 => by
  have := all_ H 33 isExpr (fun x σ => isExpr_ H x σ) ks hn a.toNat b.toNat (by omega) (by omega) σ
  rw [show ((a.toNat : Nat) : Int) = a by omega, show ((b.toNat : Nat) : Int) = b by omega] at this
  exact this
 all32 := fun a b σ h1 h2 h3 => by
  have := all_ H 32 isStat (fun x σ => isStmt_ H x σ) ks hn a.toNat b.toNat (by omega) (by omega) σ
  rw [show ((a.toNat : Nat) : Int) = a by omega, show ((b.toNat : Nat) : Int) = b by omega] at this
  exact this
 all34 := fun a b σ h1 h2 h3 => by
  have := all_ H 34 isTarget (fun x σ => target_ H x σ) ks hn a.toNat b.toNat (by omega) (by omega) σ
  rw [show ((a.toNat : Nat) : Int) = a by omega, show ((b.toNat : Nat) : Int) = b by omega] at this
  exact this
 is1 := fun i a σ h0 h1 => by
  have := is_ H ks [a] i.toNat (kd ks i) (kd_at h0 h1) (by simp) σ
  rw [show ((i.toNat : Nat) : Int) = i by omega] at this
  refine Eq.trans this ?_
  simp
 is2 := fun i a b σ h0 h1 => by
  have := is_ H ks [a, b] i.toNat (kd ks i) (kd_at h0 h1) (by simp) σ
  rw [show ((i.toNat : Nat) : Int) = i by omega] at this
  refine Eq.trans this ?_
  simp
 v33 := fun k σ => callV_eq (by simp [depth]) (isExpr_ H k Store.empty) rfl
 at_ := fun i h0 h1 => by
  have := idx_encI (k := .i64) (kd_at h0 h1)
  rw [show ((i.toNat : Nat) : Int) = i by omega] at this
  exact this
 fin := fun num flt txt op ok a b σ => shape_end H p num flt txt op ok a b σ
theorem psub0 (H : Door D) (p : LNode) : PSub D p [] (.pslice 0 []) where
 len := by simp
 cells := rfl
 lenV := fun σ => rfl
 all33 := fun a b σ h1 h2 h3 => by
  obtain rfl : b = 0 := by simp at h3; omega
  obtain rfl : a = 0 := by omega
  exact all_g H 33 isExpr (fun x σ => isExpr_ H x σ) (.pslice 0 []) [] (by simp) 0 0 (by simp) (by simp) rfl σ
 all32 := fun a b σ h1 h2 h3 => by
  obtain rfl : b = 0 := by simp at h3; omega
  obtain rfl : a = 0 := by omega
  exact all_g H 32 isStat (fun x σ => isStmt_ H x σ) (.pslice 0 []) [] (by simp) 0 0 (by simp) (by simp) rfl σ
 all34 := fun a b σ h1 h2 h3 => by
  obtain rfl : b = 0 := by simp at h3; omega
  obtain rfl : a = 0 := by omega
  exact all_g H 34 isTarget (fun x σ => target_ H x σ) (.pslice 0 []) [] (by simp) 0 0 (by simp) (by simp) rfl σ
 is1 := fun i a σ h0 h1 => by simp at h1; omega
 is2 := fun i a b σ h0 h1 => by simp at h1; omega
 v33 := fun k σ => callV_eq (by simp [depth]) (isExpr_ H k Store.empty) rfl
 at_ := fun i h0 h1 => by simp at h1; omega
 fin := fun num flt txt op ok a b σ => shape_end H p num flt txt op ok a b σ
theorem ns_1 {p : LNode} {ks : List Int} {a1 : AV} (S : PSub D p ks a1) (n1 : ¬ (200 : Int) < ks.length) (hk : p.kind = 1) (σ : Store) :
  sh_q12 D (.agg (encNode p)) a1 σ = some (.bool (shapeEnd p false false false false (alls isStat ks 0 ks.length) 0 0), σ) := by
 unfold sh_q12
 simp only [jn_eq, cells_agg, S.cells, rd1_p, Lgz, node_at0, node_at6, S.lenV, len_encI, Obs, bin_gtr, bin_eql, aCase_bool, n1, hk, Int.reduceEq, decide_false, decide_true, Bft, if_false, if_true]
 simp [jn_eq, jb_q12_6, jb_q12_1, jk_q12_1, jk_q12_2, jk_q12_3, jk_q12_4, jk_q12_5, jk_q12_6, jk_q12_7, jk_q12_8, jk_q12_9, jk_q12_10, jk_q12_11, jk_q12_12, jk_q12_13, jk_q12_14, jk_q12_15, jk_q12_16, jk_q12_17, jk_q12_18, S.cells, cells_agg, rd1_p, Lgz, S.all33, S.all32, S.all34, S.is1, S.is2, S.v33, S.at_, S.fin, bin_geq, bin_leq, bin_lss, bin_eql, lenV_str, node_at2, node_at3, node_at4, node_at5, bin_feq, fltSame]
 try all_goals ((repeat' split) <;> simp_all)
theorem ns_2 {p : LNode} {ks : List Int} {a1 : AV} (S : PSub D p ks a1) (n1 : ¬ (200 : Int) < ks.length) (hk : p.kind = 2) (σ : Store) :
  sh_q12 D (.agg (encNode p)) a1 σ = some (.bool (shapeEnd p false false false false (alls isExpr ks 0 ks.length) 1 9223372036854775807), σ) := by
 unfold sh_q12
 simp only [jn_eq, cells_agg, S.cells, rd1_p, Lgz, node_at0, node_at6, S.lenV, len_encI, Obs, bin_gtr, bin_eql, aCase_bool, n1, hk, Int.reduceEq, decide_false, decide_true, Bft, if_false, if_true]
 simp [jn_eq, jb_q12_6, jb_q12_1, jk_q12_1, jk_q12_2, jk_q12_3, jk_q12_4, jk_q12_5, jk_q12_6, jk_q12_7, jk_q12_8, jk_q12_9, jk_q12_10, jk_q12_11, jk_q12_12, jk_q12_13, jk_q12_14, jk_q12_15, jk_q12_16, jk_q12_17, jk_q12_18, S.cells, cells_agg, rd1_p, Lgz, S.all33, S.all32, S.all34, S.is1, S.is2, S.v33, S.at_, S.fin, bin_geq, bin_leq, bin_lss, bin_eql, lenV_str, node_at2, node_at3, node_at4, node_at5, bin_feq, fltSame]
 try all_goals ((repeat' split) <;> simp_all)
theorem ns_4 {p : LNode} {ks : List Int} {a1 : AV} (S : PSub D p ks a1) (n1 : ¬ (200 : Int) < ks.length) (hk : p.kind = 4) (σ : Store) :
  sh_q12 D (.agg (encNode p)) a1 σ = some (.bool (shapeEnd p false false false false ((decide ((ks.length : Int) = 1) && decide (kd ks 0 = 34))) 0 0), σ) := by
 unfold sh_q12
 simp only [jb_q12_7, jn_eq, cells_agg, S.cells, rd1_p, Lgz, node_at0, node_at6, S.lenV, len_encI, Obs, bin_gtr, bin_eql, aCase_bool, n1, hk, Int.reduceEq, decide_false, decide_true, Bft, if_false, if_true]
 by_cases c1 : (ks.length : Int) = 1
 ·skip
  simp [jn_eq, jb_q12_6, jb_q12_1, jk_q12_1, jk_q12_2, jk_q12_3, jk_q12_4, jk_q12_5, jk_q12_6, jk_q12_7, jk_q12_8, jk_q12_9, jk_q12_10, jk_q12_11, jk_q12_12, jk_q12_13, jk_q12_14, jk_q12_15, jk_q12_16, jk_q12_17, jk_q12_18, S.cells, cells_agg, rd1_p, Lgz, S.all33, S.all32, S.all34, S.is1, S.is2, S.v33, S.at_, S.fin, bin_geq, bin_leq, bin_lss, bin_eql, lenV_str, node_at2, node_at3, node_at4, node_at5, bin_feq, fltSame, c1]
  try all_goals ((repeat' split) <;> simp_all)
 ·skip
  simp [jn_eq, jb_q12_6, jb_q12_1, jk_q12_1, jk_q12_2, jk_q12_3, jk_q12_4, jk_q12_5, jk_q12_6, jk_q12_7, jk_q12_8, jk_q12_9, jk_q12_10, jk_q12_11, jk_q12_12, jk_q12_13, jk_q12_14, jk_q12_15, jk_q12_16, jk_q12_17, jk_q12_18, S.cells, cells_agg, rd1_p, Lgz, S.all33, S.all32, S.all34, S.is1, S.is2, S.v33, S.at_, S.fin, bin_geq, bin_leq, bin_lss, bin_eql, lenV_str, node_at2, node_at3, node_at4, node_at5, bin_feq, fltSame, c1]
  try all_goals ((repeat' split) <;> simp_all)
theorem ns_5 {p : LNode} {ks : List Int} {a1 : AV} (S : PSub D p ks a1) (n1 : ¬ (200 : Int) < ks.length) (hk : p.kind = 5) (σ : Store) :
  sh_q12 D (.agg (encNode p)) a1 σ = some (.bool (shapeEnd p false false false false (((decide ((ks.length : Int) = 2) || decide ((ks.length : Int) = 3)) && isExpr (kd ks 0) && decide (kd ks 1 = 1) && (decide ((ks.length : Int) = 2) || (decide (kd ks 2 = 1) || decide (kd ks 2 = 5))))) 0 0), σ) := by
 unfold sh_q12
 simp only [jb_q12_7, jn_eq, cells_agg, S.cells, rd1_p, Lgz, node_at0, node_at6, S.lenV, len_encI, Obs, bin_gtr, bin_eql, aCase_bool, n1, hk, Int.reduceEq, decide_false, decide_true, Bft, if_false, if_true]
 by_cases c2 : (ks.length : Int) = 2
 ·skip
  simp [jn_eq, jb_q12_6, jb_q12_1, jk_q12_1, jk_q12_2, jk_q12_3, jk_q12_4, jk_q12_5, jk_q12_6, jk_q12_7, jk_q12_8, jk_q12_9, jk_q12_10, jk_q12_11, jk_q12_12, jk_q12_13, jk_q12_14, jk_q12_15, jk_q12_16, jk_q12_17, jk_q12_18, S.cells, cells_agg, rd1_p, Lgz, S.all33, S.all32, S.all34, S.is1, S.is2, S.v33, S.at_, S.fin, bin_geq, bin_leq, bin_lss, bin_eql, lenV_str, node_at2, node_at3, node_at4, node_at5, bin_feq, fltSame, c2]
  try all_goals ((repeat' split) <;> simp_all)
 ·skip
  by_cases c3 : (ks.length : Int) = 3
  ·skip
   simp [jn_eq, jb_q12_6, jb_q12_1, jk_q12_1, jk_q12_2, jk_q12_3, jk_q12_4, jk_q12_5, jk_q12_6, jk_q12_7, jk_q12_8, jk_q12_9, jk_q12_10, jk_q12_11, jk_q12_12, jk_q12_13, jk_q12_14, jk_q12_15, jk_q12_16, jk_q12_17, jk_q12_18, S.cells, cells_agg, rd1_p, Lgz, S.all33, S.all32, S.all34, S.is1, S.is2, S.v33, S.at_, S.fin, bin_geq, bin_leq, bin_lss, bin_eql, lenV_str, node_at2, node_at3, node_at4, node_at5, bin_feq, fltSame, c2, c3]
   try all_goals ((repeat' split) <;> simp_all)
  ·skip
   simp [jn_eq, jb_q12_6, jb_q12_1, jk_q12_1, jk_q12_2, jk_q12_3, jk_q12_4, jk_q12_5, jk_q12_6, jk_q12_7, jk_q12_8, jk_q12_9, jk_q12_10, jk_q12_11, jk_q12_12, jk_q12_13, jk_q12_14, jk_q12_15, jk_q12_16, jk_q12_17, jk_q12_18, S.cells, cells_agg, rd1_p, Lgz, S.all33, S.all32, S.all34, S.is1, S.is2, S.v33, S.at_, S.fin, bin_geq, bin_leq, bin_lss, bin_eql, lenV_str, node_at2, node_at3, node_at4, node_at5, bin_feq, fltSame, c2, c3]
   try all_goals ((repeat' split) <;> simp_all)
theorem ns_6 {p : LNode} {ks : List Int} {a1 : AV} (S : PSub D p ks a1) (n1 : ¬ (200 : Int) < ks.length) (hk : p.kind = 6) (σ : Store) :
  sh_q12 D (.agg (encNode p)) a1 σ = some (.bool (shapeEnd p false false false false ((decide ((ks.length : Int) = 2) && isExpr (kd ks 0) && decide (kd ks 1 = 1))) 0 0), σ) := by
 unfold sh_q12
 simp only [jb_q12_7, jn_eq, cells_agg, S.cells, rd1_p, Lgz, node_at0, node_at6, S.lenV, len_encI, Obs, bin_gtr, bin_eql, aCase_bool, n1, hk, Int.reduceEq, decide_false, decide_true, Bft, if_false, if_true]
 by_cases c2 : (ks.length : Int) = 2
 ·skip
  simp [jn_eq, jb_q12_6, jb_q12_1, jk_q12_1, jk_q12_2, jk_q12_3, jk_q12_4, jk_q12_5, jk_q12_6, jk_q12_7, jk_q12_8, jk_q12_9, jk_q12_10, jk_q12_11, jk_q12_12, jk_q12_13, jk_q12_14, jk_q12_15, jk_q12_16, jk_q12_17, jk_q12_18, S.cells, cells_agg, rd1_p, Lgz, S.all33, S.all32, S.all34, S.is1, S.is2, S.v33, S.at_, S.fin, bin_geq, bin_leq, bin_lss, bin_eql, lenV_str, node_at2, node_at3, node_at4, node_at5, bin_feq, fltSame, c2]
  try all_goals ((repeat' split) <;> simp_all)
 ·skip
  simp [jn_eq, jb_q12_6, jb_q12_1, jk_q12_1, jk_q12_2, jk_q12_3, jk_q12_4, jk_q12_5, jk_q12_6, jk_q12_7, jk_q12_8, jk_q12_9, jk_q12_10, jk_q12_11, jk_q12_12, jk_q12_13, jk_q12_14, jk_q12_15, jk_q12_16, jk_q12_17, jk_q12_18, S.cells, cells_agg, rd1_p, Lgz, S.all33, S.all32, S.all34, S.is1, S.is2, S.v33, S.at_, S.fin, bin_geq, bin_leq, bin_lss, bin_eql, lenV_str, node_at2, node_at3, node_at4, node_at5, bin_feq, fltSame, c2]
  try all_goals ((repeat' split) <;> simp_all)
theorem ns_7 {p : LNode} {ks : List Int} {a1 : AV} (S : PSub D p ks a1) (n1 : ¬ (200 : Int) < ks.length) (hk : p.kind = 7) (σ : Store) :
  sh_q12 D (.agg (encNode p)) a1 σ = some (.bool (shapeEnd p false false false false ((decide ((ks.length : Int) = 4) && alls isExpr ks 0 3 && decide (kd ks 3 = 1))) 1 1), σ) := by
 unfold sh_q12
 simp only [jb_q12_7, jn_eq, cells_agg, S.cells, rd1_p, Lgz, node_at0, node_at6, S.lenV, len_encI, Obs, bin_gtr, bin_eql, aCase_bool, n1, hk, Int.reduceEq, decide_false, decide_true, Bft, if_false, if_true]
 by_cases c4 : (ks.length : Int) = 4
 ·skip
  simp [jn_eq, jb_q12_6, jb_q12_1, jk_q12_1, jk_q12_2, jk_q12_3, jk_q12_4, jk_q12_5, jk_q12_6, jk_q12_7, jk_q12_8, jk_q12_9, jk_q12_10, jk_q12_11, jk_q12_12, jk_q12_13, jk_q12_14, jk_q12_15, jk_q12_16, jk_q12_17, jk_q12_18, S.cells, cells_agg, rd1_p, Lgz, S.all33, S.all32, S.all34, S.is1, S.is2, S.v33, S.at_, S.fin, bin_geq, bin_leq, bin_lss, bin_eql, lenV_str, node_at2, node_at3, node_at4, node_at5, bin_feq, fltSame, c4]
  try all_goals ((repeat' split) <;> simp_all)
 ·skip
  simp [jn_eq, jb_q12_6, jb_q12_1, jk_q12_1, jk_q12_2, jk_q12_3, jk_q12_4, jk_q12_5, jk_q12_6, jk_q12_7, jk_q12_8, jk_q12_9, jk_q12_10, jk_q12_11, jk_q12_12, jk_q12_13, jk_q12_14, jk_q12_15, jk_q12_16, jk_q12_17, jk_q12_18, S.cells, cells_agg, rd1_p, Lgz, S.all33, S.all32, S.all34, S.is1, S.is2, S.v33, S.at_, S.fin, bin_geq, bin_leq, bin_lss, bin_eql, lenV_str, node_at2, node_at3, node_at4, node_at5, bin_feq, fltSame, c4]
  try all_goals ((repeat' split) <;> simp_all)
theorem ns_8 {p : LNode} {ks : List Int} {a1 : AV} (S : PSub D p ks a1) (n1 : ¬ (200 : Int) < ks.length) (hk : p.kind = 8) (σ : Store) :
  sh_q12 D (.agg (encNode p)) a1 σ = some (.bool (shapeEnd p false false false false ((decide ((ks.length : Int) = 2) && isExpr (kd ks 0) && decide (kd ks 1 = 1))) 1 4), σ) := by
 unfold sh_q12
 simp only [jb_q12_7, jn_eq, cells_agg, S.cells, rd1_p, Lgz, node_at0, node_at6, S.lenV, len_encI, Obs, bin_gtr, bin_eql, aCase_bool, n1, hk, Int.reduceEq, decide_false, decide_true, Bft, if_false, if_true]
 by_cases c2 : (ks.length : Int) = 2
 ·skip
  simp [jn_eq, jb_q12_6, jb_q12_1, jk_q12_1, jk_q12_2, jk_q12_3, jk_q12_4, jk_q12_5, jk_q12_6, jk_q12_7, jk_q12_8, jk_q12_9, jk_q12_10, jk_q12_11, jk_q12_12, jk_q12_13, jk_q12_14, jk_q12_15, jk_q12_16, jk_q12_17, jk_q12_18, S.cells, cells_agg, rd1_p, Lgz, S.all33, S.all32, S.all34, S.is1, S.is2, S.v33, S.at_, S.fin, bin_geq, bin_leq, bin_lss, bin_eql, lenV_str, node_at2, node_at3, node_at4, node_at5, bin_feq, fltSame, c2]
  try all_goals ((repeat' split) <;> simp_all)
 ·skip
  simp [jn_eq, jb_q12_6, jb_q12_1, jk_q12_1, jk_q12_2, jk_q12_3, jk_q12_4, jk_q12_5, jk_q12_6, jk_q12_7, jk_q12_8, jk_q12_9, jk_q12_10, jk_q12_11, jk_q12_12, jk_q12_13, jk_q12_14, jk_q12_15, jk_q12_16, jk_q12_17, jk_q12_18, S.cells, cells_agg, rd1_p, Lgz, S.all33, S.all32, S.all34, S.is1, S.is2, S.v33, S.at_, S.fin, bin_geq, bin_leq, bin_lss, bin_eql, lenV_str, node_at2, node_at3, node_at4, node_at5, bin_feq, fltSame, c2]
  try all_goals ((repeat' split) <;> simp_all)
theorem ns_9 {p : LNode} {ks : List Int} {a1 : AV} (S : PSub D p ks a1) (n1 : ¬ (200 : Int) < ks.length) (hk : p.kind = 9) (σ : Store) :
  sh_q12 D (.agg (encNode p)) a1 σ = some (.bool (shapeEnd p false false false false (decide ((ks.length : Int) = 0)) 0 0), σ) := by
 unfold sh_q12
 simp only [jb_q12_7, jb_q12_5, jn_eq, cells_agg, S.cells, rd1_p, Lgz, node_at0, node_at6, S.lenV, len_encI, Obs, bin_gtr, bin_eql, aCase_bool, n1, hk, Int.reduceEq, decide_false, decide_true, Bft, if_false, if_true]
 simp [jn_eq, jb_q12_6, jb_q12_1, jk_q12_1, jk_q12_2, jk_q12_3, jk_q12_4, jk_q12_5, jk_q12_6, jk_q12_7, jk_q12_8, jk_q12_9, jk_q12_10, jk_q12_11, jk_q12_12, jk_q12_13, jk_q12_14, jk_q12_15, jk_q12_16, jk_q12_17, jk_q12_18, S.cells, cells_agg, rd1_p, Lgz, S.all33, S.all32, S.all34, S.is1, S.is2, S.v33, S.at_, S.fin, bin_geq, bin_leq, bin_lss, bin_eql, lenV_str, node_at2, node_at3, node_at4, node_at5, bin_feq, fltSame]
 try all_goals ((repeat' split) <;> simp_all)
theorem ns_10 {p : LNode} {ks : List Int} {a1 : AV} (S : PSub D p ks a1) (n1 : ¬ (200 : Int) < ks.length) (hk : p.kind = 10) (σ : Store) :
  sh_q12 D (.agg (encNode p)) a1 σ = some (.bool (shapeEnd p false false false false (decide ((ks.length : Int) = 0)) 0 0), σ) := by
 unfold sh_q12
 simp only [jb_q12_7, jb_q12_5, jn_eq, cells_agg, S.cells, rd1_p, Lgz, node_at0, node_at6, S.lenV, len_encI, Obs, bin_gtr, bin_eql, aCase_bool, n1, hk, Int.reduceEq, decide_false, decide_true, Bft, if_false, if_true]
 simp [jn_eq, jb_q12_6, jb_q12_1, jk_q12_1, jk_q12_2, jk_q12_3, jk_q12_4, jk_q12_5, jk_q12_6, jk_q12_7, jk_q12_8, jk_q12_9, jk_q12_10, jk_q12_11, jk_q12_12, jk_q12_13, jk_q12_14, jk_q12_15, jk_q12_16, jk_q12_17, jk_q12_18, S.cells, cells_agg, rd1_p, Lgz, S.all33, S.all32, S.all34, S.is1, S.is2, S.v33, S.at_, S.fin, bin_geq, bin_leq, bin_lss, bin_eql, lenV_str, node_at2, node_at3, node_at4, node_at5, bin_feq, fltSame]
 try all_goals ((repeat' split) <;> simp_all)
theorem ns_11 {p : LNode} {ks : List Int} {a1 : AV} (S : PSub D p ks a1) (n1 : ¬ (200 : Int) < ks.length) (hk : p.kind = 11) (σ : Store) :
  sh_q12 D (.agg (encNode p)) a1 σ = some (.bool (shapeEnd p false false false false (alls isExpr ks 0 ks.length) 0 0), σ) := by
 unfold sh_q12
 simp only [jb_q12_7, jb_q12_5, jn_eq, cells_agg, S.cells, rd1_p, Lgz, node_at0, node_at6, S.lenV, len_encI, Obs, bin_gtr, bin_eql, aCase_bool, n1, hk, Int.reduceEq, decide_false, decide_true, Bft, if_false, if_true]
 simp [jn_eq, jb_q12_6, jb_q12_1, jk_q12_1, jk_q12_2, jk_q12_3, jk_q12_4, jk_q12_5, jk_q12_6, jk_q12_7, jk_q12_8, jk_q12_9, jk_q12_10, jk_q12_11, jk_q12_12, jk_q12_13, jk_q12_14, jk_q12_15, jk_q12_16, jk_q12_17, jk_q12_18, S.cells, cells_agg, rd1_p, Lgz, S.all33, S.all32, S.all34, S.is1, S.is2, S.v33, S.at_, S.fin, bin_geq, bin_leq, bin_lss, bin_eql, lenV_str, node_at2, node_at3, node_at4, node_at5, bin_feq, fltSame]
 try all_goals ((repeat' split) <;> simp_all)
theorem ns_12 {p : LNode} {ks : List Int} {a1 : AV} (S : PSub D p ks a1) (n1 : ¬ (200 : Int) < ks.length) (hk : p.kind = 12) (σ : Store) :
  sh_q12 D (.agg (encNode p)) a1 σ = some (.bool (shapeEnd p false false false false ((decide ((ks.length : Int) = 2) && decide (kd ks 0 = 1) && decide (kd ks 1 = 1))) 2 2), σ) := by
 unfold sh_q12
 simp only [jb_q12_7, jb_q12_5, jn_eq, cells_agg, S.cells, rd1_p, Lgz, node_at0, node_at6, S.lenV, len_encI, Obs, bin_gtr, bin_eql, aCase_bool, n1, hk, Int.reduceEq, decide_false, decide_true, Bft, if_false, if_true]
 by_cases c2 : (ks.length : Int) = 2
 ·skip
  simp [jn_eq, jb_q12_6, jb_q12_1, jk_q12_1, jk_q12_2, jk_q12_3, jk_q12_4, jk_q12_5, jk_q12_6, jk_q12_7, jk_q12_8, jk_q12_9, jk_q12_10, jk_q12_11, jk_q12_12, jk_q12_13, jk_q12_14, jk_q12_15, jk_q12_16, jk_q12_17, jk_q12_18, S.cells, cells_agg, rd1_p, Lgz, S.all33, S.all32, S.all34, S.is1, S.is2, S.v33, S.at_, S.fin, bin_geq, bin_leq, bin_lss, bin_eql, lenV_str, node_at2, node_at3, node_at4, node_at5, bin_feq, fltSame, c2]
  try all_goals ((repeat' split) <;> simp_all)
 ·skip
  simp [jn_eq, jb_q12_6, jb_q12_1, jk_q12_1, jk_q12_2, jk_q12_3, jk_q12_4, jk_q12_5, jk_q12_6, jk_q12_7, jk_q12_8, jk_q12_9, jk_q12_10, jk_q12_11, jk_q12_12, jk_q12_13, jk_q12_14, jk_q12_15, jk_q12_16, jk_q12_17, jk_q12_18, S.cells, cells_agg, rd1_p, Lgz, S.all33, S.all32, S.all34, S.is1, S.is2, S.v33, S.at_, S.fin, bin_geq, bin_leq, bin_lss, bin_eql, lenV_str, node_at2, node_at3, node_at4, node_at5, bin_feq, fltSame, c2]
  try all_goals ((repeat' split) <;> simp_all)
theorem ns_13 {p : LNode} {ks : List Int} {a1 : AV} (S : PSub D p ks a1) (n1 : ¬ (200 : Int) < ks.length) (hk : p.kind = 13) (σ : Store) :
  sh_q12 D (.agg (encNode p)) a1 σ = some (.bool (shapeEnd p false false false false ((decide ((ks.length : Int) = 1) && isExpr (kd ks 0))) 0 0), σ) := by
 unfold sh_q12
 simp only [jb_q12_7, jb_q12_5, jn_eq, cells_agg, S.cells, rd1_p, Lgz, node_at0, node_at6, S.lenV, len_encI, Obs, bin_gtr, bin_eql, aCase_bool, n1, hk, Int.reduceEq, decide_false, decide_true, Bft, if_false, if_true]
 by_cases c1 : (ks.length : Int) = 1
 ·skip
  simp [jn_eq, jb_q12_6, jb_q12_1, jk_q12_1, jk_q12_2, jk_q12_3, jk_q12_4, jk_q12_5, jk_q12_6, jk_q12_7, jk_q12_8, jk_q12_9, jk_q12_10, jk_q12_11, jk_q12_12, jk_q12_13, jk_q12_14, jk_q12_15, jk_q12_16, jk_q12_17, jk_q12_18, S.cells, cells_agg, rd1_p, Lgz, S.all33, S.all32, S.all34, S.is1, S.is2, S.v33, S.at_, S.fin, bin_geq, bin_leq, bin_lss, bin_eql, lenV_str, node_at2, node_at3, node_at4, node_at5, bin_feq, fltSame, c1]
  try all_goals ((repeat' split) <;> simp_all)
 ·skip
  simp [jn_eq, jb_q12_6, jb_q12_1, jk_q12_1, jk_q12_2, jk_q12_3, jk_q12_4, jk_q12_5, jk_q12_6, jk_q12_7, jk_q12_8, jk_q12_9, jk_q12_10, jk_q12_11, jk_q12_12, jk_q12_13, jk_q12_14, jk_q12_15, jk_q12_16, jk_q12_17, jk_q12_18, S.cells, cells_agg, rd1_p, Lgz, S.all33, S.all32, S.all34, S.is1, S.is2, S.v33, S.at_, S.fin, bin_geq, bin_leq, bin_lss, bin_eql, lenV_str, node_at2, node_at3, node_at4, node_at5, bin_feq, fltSame, c1]
  try all_goals ((repeat' split) <;> simp_all)
theorem ns_14 {p : LNode} {ks : List Int} {a1 : AV} (S : PSub D p ks a1) (n1 : ¬ (200 : Int) < ks.length) (hk : p.kind = 14) (σ : Store) :
  sh_q12 D (.agg (encNode p)) a1 σ = some (.bool (shapeEnd p false false false false ((decide ((ks.length : Int) = 1) && decide (kd ks 0 = 34))) 0 0), σ) := by
 unfold sh_q12
 simp only [jb_q12_7, jn_eq, cells_agg, S.cells, rd1_p, Lgz, node_at0, node_at6, S.lenV, len_encI, Obs, bin_gtr, bin_eql, aCase_bool, n1, hk, Int.reduceEq, decide_false, decide_true, Bft, if_false, if_true]
 by_cases c1 : (ks.length : Int) = 1
 ·skip
  simp [jn_eq, jb_q12_6, jb_q12_1, jk_q12_1, jk_q12_2, jk_q12_3, jk_q12_4, jk_q12_5, jk_q12_6, jk_q12_7, jk_q12_8, jk_q12_9, jk_q12_10, jk_q12_11, jk_q12_12, jk_q12_13, jk_q12_14, jk_q12_15, jk_q12_16, jk_q12_17, jk_q12_18, S.cells, cells_agg, rd1_p, Lgz, S.all33, S.all32, S.all34, S.is1, S.is2, S.v33, S.at_, S.fin, bin_geq, bin_leq, bin_lss, bin_eql, lenV_str, node_at2, node_at3, node_at4, node_at5, bin_feq, fltSame, c1]
  try all_goals ((repeat' split) <;> simp_all)
 ·skip
  simp [jn_eq, jb_q12_6, jb_q12_1, jk_q12_1, jk_q12_2, jk_q12_3, jk_q12_4, jk_q12_5, jk_q12_6, jk_q12_7, jk_q12_8, jk_q12_9, jk_q12_10, jk_q12_11, jk_q12_12, jk_q12_13, jk_q12_14, jk_q12_15, jk_q12_16, jk_q12_17, jk_q12_18, S.cells, cells_agg, rd1_p, Lgz, S.all33, S.all32, S.all34, S.is1, S.is2, S.v33, S.at_, S.fin, bin_geq, bin_leq, bin_lss, bin_eql, lenV_str, node_at2, node_at3, node_at4, node_at5, bin_feq, fltSame, c1]
  try all_goals ((repeat' split) <;> simp_all)
theorem ns_20 {p : LNode} {ks : List Int} {a1 : AV} (S : PSub D p ks a1) (n1 : ¬ (200 : Int) < ks.length) (hk : p.kind = 20) (σ : Store) :
  sh_q12 D (.agg (encNode p)) a1 σ = some (.bool (shapeEnd p false false false false (decide ((ks.length : Int) = 0)) 0 0), σ) := by
 unfold sh_q12
 simp only [jb_q12_7, jb_q12_5, jb_q12_4, jn_eq, cells_agg, S.cells, rd1_p, Lgz, node_at0, node_at6, S.lenV, len_encI, Obs, bin_gtr, bin_eql, aCase_bool, n1, hk, Int.reduceEq, decide_false, decide_true, Bft, if_false, if_true]
 simp [jn_eq, jb_q12_6, jb_q12_1, jk_q12_1, jk_q12_2, jk_q12_3, jk_q12_4, jk_q12_5, jk_q12_6, jk_q12_7, jk_q12_8, jk_q12_9, jk_q12_10, jk_q12_11, jk_q12_12, jk_q12_13, jk_q12_14, jk_q12_15, jk_q12_16, jk_q12_17, jk_q12_18, S.cells, cells_agg, rd1_p, Lgz, S.all33, S.all32, S.all34, S.is1, S.is2, S.v33, S.at_, S.fin, bin_geq, bin_leq, bin_lss, bin_eql, lenV_str, node_at2, node_at3, node_at4, node_at5, bin_feq, fltSame]
 try all_goals ((repeat' split) <;> simp_all)
theorem ns_21 {p : LNode} {ks : List Int} {a1 : AV} (S : PSub D p ks a1) (n1 : ¬ (200 : Int) < ks.length) (hk : p.kind = 21) (σ : Store) :
  sh_q12 D (.agg (encNode p)) a1 σ = some (.bool (shapeEnd p false false false false (decide ((ks.length : Int) = 0)) 0 0), σ) := by
 unfold sh_q12
 simp only [jb_q12_7, jb_q12_5, jb_q12_4, jn_eq, cells_agg, S.cells, rd1_p, Lgz, node_at0, node_at6, S.lenV, len_encI, Obs, bin_gtr, bin_eql, aCase_bool, n1, hk, Int.reduceEq, decide_false, decide_true, Bft, if_false, if_true]
 simp [jn_eq, jb_q12_6, jb_q12_1, jk_q12_1, jk_q12_2, jk_q12_3, jk_q12_4, jk_q12_5, jk_q12_6, jk_q12_7, jk_q12_8, jk_q12_9, jk_q12_10, jk_q12_11, jk_q12_12, jk_q12_13, jk_q12_14, jk_q12_15, jk_q12_16, jk_q12_17, jk_q12_18, S.cells, cells_agg, rd1_p, Lgz, S.all33, S.all32, S.all34, S.is1, S.is2, S.v33, S.at_, S.fin, bin_geq, bin_leq, bin_lss, bin_eql, lenV_str, node_at2, node_at3, node_at4, node_at5, bin_feq, fltSame]
 try all_goals ((repeat' split) <;> simp_all)
theorem ns_22 {p : LNode} {ks : List Int} {a1 : AV} (S : PSub D p ks a1) (n1 : ¬ (200 : Int) < ks.length) (hk : p.kind = 22) (σ : Store) :
  sh_q12 D (.agg (encNode p)) a1 σ = some (.bool (shapeEnd p false false false false (decide ((ks.length : Int) = 0)) 0 0), σ) := by
 unfold sh_q12
 simp only [jb_q12_7, jb_q12_5, jb_q12_4, jn_eq, cells_agg, S.cells, rd1_p, Lgz, node_at0, node_at6, S.lenV, len_encI, Obs, bin_gtr, bin_eql, aCase_bool, n1, hk, Int.reduceEq, decide_false, decide_true, Bft, if_false, if_true]
 simp [jn_eq, jb_q12_6, jb_q12_1, jk_q12_1, jk_q12_2, jk_q12_3, jk_q12_4, jk_q12_5, jk_q12_6, jk_q12_7, jk_q12_8, jk_q12_9, jk_q12_10, jk_q12_11, jk_q12_12, jk_q12_13, jk_q12_14, jk_q12_15, jk_q12_16, jk_q12_17, jk_q12_18, S.cells, cells_agg, rd1_p, Lgz, S.all33, S.all32, S.all34, S.is1, S.is2, S.v33, S.at_, S.fin, bin_geq, bin_leq, bin_lss, bin_eql, lenV_str, node_at2, node_at3, node_at4, node_at5, bin_feq, fltSame]
 try all_goals ((repeat' split) <;> simp_all)
theorem ns_23 {p : LNode} {ks : List Int} {a1 : AV} (S : PSub D p ks a1) (n1 : ¬ (200 : Int) < ks.length) (hk : p.kind = 23) (σ : Store) :
  sh_q12 D (.agg (encNode p)) a1 σ = some (.bool (shapeEnd p true false false false (decide ((ks.length : Int) = 0)) 0 0), σ) := by
 unfold sh_q12
 simp only [jb_q12_7, jb_q12_5, jb_q12_4, jn_eq, cells_agg, S.cells, rd1_p, Lgz, node_at0, node_at6, S.lenV, len_encI, Obs, bin_gtr, bin_eql, aCase_bool, n1, hk, Int.reduceEq, decide_false, decide_true, Bft, if_false, if_true]
 simp [jn_eq, jb_q12_6, jb_q12_1, jk_q12_1, jk_q12_2, jk_q12_3, jk_q12_4, jk_q12_5, jk_q12_6, jk_q12_7, jk_q12_8, jk_q12_9, jk_q12_10, jk_q12_11, jk_q12_12, jk_q12_13, jk_q12_14, jk_q12_15, jk_q12_16, jk_q12_17, jk_q12_18, S.cells, cells_agg, rd1_p, Lgz, S.all33, S.all32, S.all34, S.is1, S.is2, S.v33, S.at_, S.fin, bin_geq, bin_leq, bin_lss, bin_eql, lenV_str, node_at2, node_at3, node_at4, node_at5, bin_feq, fltSame]
 try all_goals ((repeat' split) <;> simp_all)
theorem ns_24 {p : LNode} {ks : List Int} {a1 : AV} (S : PSub D p ks a1) (n1 : ¬ (200 : Int) < ks.length) (hk : p.kind = 24) (σ : Store) :
  sh_q12 D (.agg (encNode p)) a1 σ = some (.bool (shapeEnd p false true false false ((decide ((ks.length : Int) = 0) && fltSame p.flt)) 0 0), σ) := by
 unfold sh_q12
 simp only [jb_q12_7, jb_q12_5, jb_q12_4, jn_eq, cells_agg, S.cells, rd1_p, Lgz, node_at0, node_at6, S.lenV, len_encI, Obs, bin_gtr, bin_eql, aCase_bool, n1, hk, Int.reduceEq, decide_false, decide_true, Bft, if_false, if_true]
 by_cases c0 : (ks.length : Int) = 0
 ·skip
  simp [jn_eq, jb_q12_6, jb_q12_1, jk_q12_1, jk_q12_2, jk_q12_3, jk_q12_4, jk_q12_5, jk_q12_6, jk_q12_7, jk_q12_8, jk_q12_9, jk_q12_10, jk_q12_11, jk_q12_12, jk_q12_13, jk_q12_14, jk_q12_15, jk_q12_16, jk_q12_17, jk_q12_18, S.cells, cells_agg, rd1_p, Lgz, S.all33, S.all32, S.all34, S.is1, S.is2, S.v33, S.at_, S.fin, bin_geq, bin_leq, bin_lss, bin_eql, lenV_str, node_at2, node_at3, node_at4, node_at5, bin_feq, fltSame, c0]
  try all_goals ((repeat' split) <;> simp_all)
 ·skip
  simp [jn_eq, jb_q12_6, jb_q12_1, jk_q12_1, jk_q12_2, jk_q12_3, jk_q12_4, jk_q12_5, jk_q12_6, jk_q12_7, jk_q12_8, jk_q12_9, jk_q12_10, jk_q12_11, jk_q12_12, jk_q12_13, jk_q12_14, jk_q12_15, jk_q12_16, jk_q12_17, jk_q12_18, S.cells, cells_agg, rd1_p, Lgz, S.all33, S.all32, S.all34, S.is1, S.is2, S.v33, S.at_, S.fin, bin_geq, bin_leq, bin_lss, bin_eql, lenV_str, node_at2, node_at3, node_at4, node_at5, bin_feq, fltSame, c0]
  try all_goals ((repeat' split) <;> simp_all)
theorem ns_25 {p : LNode} {ks : List Int} {a1 : AV} (S : PSub D p ks a1) (n1 : ¬ (200 : Int) < ks.length) (hk : p.kind = 25) (σ : Store) :
  sh_q12 D (.agg (encNode p)) a1 σ = some (.bool (shapeEnd p false false true false ((decide ((ks.length : Int) = 0) && decide ((p.str.size : Int) ≤ 4000))) 0 0), σ) := by
 unfold sh_q12
 simp only [jb_q12_7, jb_q12_5, jb_q12_4, jn_eq, cells_agg, S.cells, rd1_p, Lgz, node_at0, node_at6, S.lenV, len_encI, Obs, bin_gtr, bin_eql, aCase_bool, n1, hk, Int.reduceEq, decide_false, decide_true, Bft, if_false, if_true]
 by_cases c0 : (ks.length : Int) = 0
 ·skip
  simp [jn_eq, jb_q12_6, jb_q12_1, jk_q12_1, jk_q12_2, jk_q12_3, jk_q12_4, jk_q12_5, jk_q12_6, jk_q12_7, jk_q12_8, jk_q12_9, jk_q12_10, jk_q12_11, jk_q12_12, jk_q12_13, jk_q12_14, jk_q12_15, jk_q12_16, jk_q12_17, jk_q12_18, S.cells, cells_agg, rd1_p, Lgz, S.all33, S.all32, S.all34, S.is1, S.is2, S.v33, S.at_, S.fin, bin_geq, bin_leq, bin_lss, bin_eql, lenV_str, node_at2, node_at3, node_at4, node_at5, bin_feq, fltSame, c0]
  try all_goals ((repeat' split) <;> simp_all)
 ·skip
  simp [jn_eq, jb_q12_6, jb_q12_1, jk_q12_1, jk_q12_2, jk_q12_3, jk_q12_4, jk_q12_5, jk_q12_6, jk_q12_7, jk_q12_8, jk_q12_9, jk_q12_10, jk_q12_11, jk_q12_12, jk_q12_13, jk_q12_14, jk_q12_15, jk_q12_16, jk_q12_17, jk_q12_18, S.cells, cells_agg, rd1_p, Lgz, S.all33, S.all32, S.all34, S.is1, S.is2, S.v33, S.at_, S.fin, bin_geq, bin_leq, bin_lss, bin_eql, lenV_str, node_at2, node_at3, node_at4, node_at5, bin_feq, fltSame, c0]
  try all_goals ((repeat' split) <;> simp_all)
theorem ns_26 {p : LNode} {ks : List Int} {a1 : AV} (S : PSub D p ks a1) (n1 : ¬ (200 : Int) < ks.length) (hk : p.kind = 26) (σ : Store) :
  sh_q12 D (.agg (encNode p)) a1 σ = some (.bool (shapeEnd p false false false false (decide ((ks.length : Int) = 0)) 1 1), σ) := by
 unfold sh_q12
 simp only [jb_q12_7, jb_q12_5, jb_q12_4, jb_q12_3, jn_eq, cells_agg, S.cells, rd1_p, Lgz, node_at0, node_at6, S.lenV, len_encI, Obs, bin_gtr, bin_eql, aCase_bool, n1, hk, Int.reduceEq, decide_false, decide_true, Bft, if_false, if_true]
 simp [jn_eq, jb_q12_6, jb_q12_1, jk_q12_1, jk_q12_2, jk_q12_3, jk_q12_4, jk_q12_5, jk_q12_6, jk_q12_7, jk_q12_8, jk_q12_9, jk_q12_10, jk_q12_11, jk_q12_12, jk_q12_13, jk_q12_14, jk_q12_15, jk_q12_16, jk_q12_17, jk_q12_18, S.cells, cells_agg, rd1_p, Lgz, S.all33, S.all32, S.all34, S.is1, S.is2, S.v33, S.at_, S.fin, bin_geq, bin_leq, bin_lss, bin_eql, lenV_str, node_at2, node_at3, node_at4, node_at5, bin_feq, fltSame]
 try all_goals ((repeat' split) <;> simp_all)
theorem ns_27 {p : LNode} {ks : List Int} {a1 : AV} (S : PSub D p ks a1) (n1 : ¬ (200 : Int) < ks.length) (hk : p.kind = 27) (σ : Store) :
  sh_q12 D (.agg (encNode p)) a1 σ = some (.bool (shapeEnd p false false false false (decide ((ks.length : Int) = 0)) 1 1), σ) := by
 unfold sh_q12
 simp only [jb_q12_7, jb_q12_5, jb_q12_4, jb_q12_3, jn_eq, cells_agg, S.cells, rd1_p, Lgz, node_at0, node_at6, S.lenV, len_encI, Obs, bin_gtr, bin_eql, aCase_bool, n1, hk, Int.reduceEq, decide_false, decide_true, Bft, if_false, if_true]
 simp [jn_eq, jb_q12_6, jb_q12_1, jk_q12_1, jk_q12_2, jk_q12_3, jk_q12_4, jk_q12_5, jk_q12_6, jk_q12_7, jk_q12_8, jk_q12_9, jk_q12_10, jk_q12_11, jk_q12_12, jk_q12_13, jk_q12_14, jk_q12_15, jk_q12_16, jk_q12_17, jk_q12_18, S.cells, cells_agg, rd1_p, Lgz, S.all33, S.all32, S.all34, S.is1, S.is2, S.v33, S.at_, S.fin, bin_geq, bin_leq, bin_lss, bin_eql, lenV_str, node_at2, node_at3, node_at4, node_at5, bin_feq, fltSame]
 try all_goals ((repeat' split) <;> simp_all)
theorem ns_28 {p : LNode} {ks : List Int} {a1 : AV} (S : PSub D p ks a1) (n1 : ¬ (200 : Int) < ks.length) (hk : p.kind = 28) (σ : Store) :
  sh_q12 D (.agg (encNode p)) a1 σ = some (.bool (shapeEnd p true false false false ((decide ((ks.length : Int) = 0) && decide (0 ≤ p.num) && decide (p.num < 15))) 0 0), σ) := by
 unfold sh_q12
 simp only [jb_q12_7, jb_q12_5, jb_q12_4, jb_q12_3, jn_eq, cells_agg, S.cells, rd1_p, Lgz, node_at0, node_at6, S.lenV, len_encI, Obs, bin_gtr, bin_eql, aCase_bool, n1, hk, Int.reduceEq, decide_false, decide_true, Bft, if_false, if_true]
 by_cases c0 : (ks.length : Int) = 0
 ·skip
  simp [jn_eq, jb_q12_6, jb_q12_1, jk_q12_1, jk_q12_2, jk_q12_3, jk_q12_4, jk_q12_5, jk_q12_6, jk_q12_7, jk_q12_8, jk_q12_9, jk_q12_10, jk_q12_11, jk_q12_12, jk_q12_13, jk_q12_14, jk_q12_15, jk_q12_16, jk_q12_17, jk_q12_18, S.cells, cells_agg, rd1_p, Lgz, S.all33, S.all32, S.all34, S.is1, S.is2, S.v33, S.at_, S.fin, bin_geq, bin_leq, bin_lss, bin_eql, lenV_str, node_at2, node_at3, node_at4, node_at5, bin_feq, fltSame, c0]
  try all_goals ((repeat' split) <;> simp_all)
  try (rw [show decide (0 ≤ p.num) = false by simp; omega]; rfl)
 ·skip
  simp [jn_eq, jb_q12_6, jb_q12_1, jk_q12_1, jk_q12_2, jk_q12_3, jk_q12_4, jk_q12_5, jk_q12_6, jk_q12_7, jk_q12_8, jk_q12_9, jk_q12_10, jk_q12_11, jk_q12_12, jk_q12_13, jk_q12_14, jk_q12_15, jk_q12_16, jk_q12_17, jk_q12_18, S.cells, cells_agg, rd1_p, Lgz, S.all33, S.all32, S.all34, S.is1, S.is2, S.v33, S.at_, S.fin, bin_geq, bin_leq, bin_lss, bin_eql, lenV_str, node_at2, node_at3, node_at4, node_at5, bin_feq, fltSame, c0]
  try all_goals ((repeat' split) <;> simp_all)
  try (rw [show decide (0 ≤ p.num) = false by simp; omega]; rfl)
theorem ns_29 {p : LNode} {ks : List Int} {a1 : AV} (S : PSub D p ks a1) (n1 : ¬ (200 : Int) < ks.length) (hk : p.kind = 29) (σ : Store) :
  sh_q12 D (.agg (encNode p)) a1 σ = some (.bool (shapeEnd p false false false false ((decide ((ks.length : Int) = 2) && alls isExpr ks 0 2)) 0 0), σ) := by
 unfold sh_q12
 simp only [jn_eq, cells_agg, S.cells, rd1_p, Lgz, node_at0, node_at6, S.lenV, len_encI, Obs, bin_gtr, bin_eql, aCase_bool, n1, hk, Int.reduceEq, decide_false, decide_true, Bft, if_false, if_true]
 unfold jb_q12_7
 simp only [jn_eq, cells_agg, S.cells, rd1_p, Lgz, node_at0, node_at6, S.lenV, len_encI, Obs, bin_gtr, bin_eql, aCase_bool, n1, hk, Int.reduceEq, decide_false, decide_true, Bft, if_false, if_true]
 unfold jb_q12_5
 simp only [jn_eq, cells_agg, S.cells, rd1_p, Lgz, node_at0, node_at6, S.lenV, len_encI, Obs, bin_gtr, bin_eql, aCase_bool, n1, hk, Int.reduceEq, decide_false, decide_true, Bft, if_false, if_true]
 unfold jb_q12_4
 simp only [jn_eq, cells_agg, S.cells, rd1_p, Lgz, node_at0, node_at6, S.lenV, len_encI, Obs, bin_gtr, bin_eql, aCase_bool, n1, hk, Int.reduceEq, decide_false, decide_true, Bft, if_false, if_true]
 unfold jb_q12_3
 simp only [jn_eq, cells_agg, S.cells, rd1_p, Lgz, node_at0, node_at6, S.lenV, len_encI, Obs, bin_gtr, bin_eql, aCase_bool, n1, hk, Int.reduceEq, decide_false, decide_true, Bft, if_false, if_true]
 unfold jb_q12_2
 simp only [jn_eq, cells_agg, S.cells, rd1_p, Lgz, node_at0, node_at6, S.lenV, len_encI, Obs, bin_gtr, bin_eql, aCase_bool, n1, hk, Int.reduceEq, decide_false, decide_true, Bft, if_false, if_true]
 by_cases c2 : (ks.length : Int) = 2
 ·skip
  simp [jn_eq, jb_q12_6, jb_q12_1, jk_q12_1, jk_q12_2, jk_q12_3, jk_q12_4, jk_q12_5, jk_q12_6, jk_q12_7, jk_q12_8, jk_q12_9, jk_q12_10, jk_q12_11, jk_q12_12, jk_q12_13, jk_q12_14, jk_q12_15, jk_q12_16, jk_q12_17, jk_q12_18, S.cells, cells_agg, rd1_p, Lgz, S.all33, S.all32, S.all34, S.is1, S.is2, S.v33, S.at_, S.fin, bin_geq, bin_leq, bin_lss, bin_eql, lenV_str, node_at2, node_at3, node_at4, node_at5, bin_feq, fltSame, c2]
  try all_goals ((repeat' split) <;> simp_all)
 ·skip
  simp [jn_eq, jb_q12_6, jb_q12_1, jk_q12_1, jk_q12_2, jk_q12_3, jk_q12_4, jk_q12_5, jk_q12_6, jk_q12_7, jk_q12_8, jk_q12_9, jk_q12_10, jk_q12_11, jk_q12_12, jk_q12_13, jk_q12_14, jk_q12_15, jk_q12_16, jk_q12_17, jk_q12_18, S.cells, cells_agg, rd1_p, Lgz, S.all33, S.all32, S.all34, S.is1, S.is2, S.v33, S.at_, S.fin, bin_geq, bin_leq, bin_lss, bin_eql, lenV_str, node_at2, node_at3, node_at4, node_at5, bin_feq, fltSame, c2]
  try all_goals ((repeat' split) <;> simp_all)
theorem ns_30 {p : LNode} {ks : List Int} {a1 : AV} (S : PSub D p ks a1) (n1 : ¬ (200 : Int) < ks.length) (hk : p.kind = 30) (σ : Store) :
  sh_q12 D (.agg (encNode p)) a1 σ = some (.bool (shapeEnd p false false false false ((decide ((ks.length : Int) = 2) && alls isExpr ks 0 2)) 0 0), σ) := by
 unfold sh_q12
 simp only [jn_eq, cells_agg, S.cells, rd1_p, Lgz, node_at0, node_at6, S.lenV, len_encI, Obs, bin_gtr, bin_eql, aCase_bool, n1, hk, Int.reduceEq, decide_false, decide_true, Bft, if_false, if_true]
 unfold jb_q12_7
 simp only [jn_eq, cells_agg, S.cells, rd1_p, Lgz, node_at0, node_at6, S.lenV, len_encI, Obs, bin_gtr, bin_eql, aCase_bool, n1, hk, Int.reduceEq, decide_false, decide_true, Bft, if_false, if_true]
 unfold jb_q12_5
 simp only [jn_eq, cells_agg, S.cells, rd1_p, Lgz, node_at0, node_at6, S.lenV, len_encI, Obs, bin_gtr, bin_eql, aCase_bool, n1, hk, Int.reduceEq, decide_false, decide_true, Bft, if_false, if_true]
 unfold jb_q12_4
 simp only [jn_eq, cells_agg, S.cells, rd1_p, Lgz, node_at0, node_at6, S.lenV, len_encI, Obs, bin_gtr, bin_eql, aCase_bool, n1, hk, Int.reduceEq, decide_false, decide_true, Bft, if_false, if_true]
 unfold jb_q12_3
 simp only [jn_eq, cells_agg, S.cells, rd1_p, Lgz, node_at0, node_at6, S.lenV, len_encI, Obs, bin_gtr, bin_eql, aCase_bool, n1, hk, Int.reduceEq, decide_false, decide_true, Bft, if_false, if_true]
 unfold jb_q12_2
 simp only [jn_eq, cells_agg, S.cells, rd1_p, Lgz, node_at0, node_at6, S.lenV, len_encI, Obs, bin_gtr, bin_eql, aCase_bool, n1, hk, Int.reduceEq, decide_false, decide_true, Bft, if_false, if_true]
 by_cases c2 : (ks.length : Int) = 2
 ·skip
  simp [jn_eq, jb_q12_6, jb_q12_1, jk_q12_1, jk_q12_2, jk_q12_3, jk_q12_4, jk_q12_5, jk_q12_6, jk_q12_7, jk_q12_8, jk_q12_9, jk_q12_10, jk_q12_11, jk_q12_12, jk_q12_13, jk_q12_14, jk_q12_15, jk_q12_16, jk_q12_17, jk_q12_18, S.cells, cells_agg, rd1_p, Lgz, S.all33, S.all32, S.all34, S.is1, S.is2, S.v33, S.at_, S.fin, bin_geq, bin_leq, bin_lss, bin_eql, lenV_str, node_at2, node_at3, node_at4, node_at5, bin_feq, fltSame, c2]
  try all_goals ((repeat' split) <;> simp_all)
 ·skip
  simp [jn_eq, jb_q12_6, jb_q12_1, jk_q12_1, jk_q12_2, jk_q12_3, jk_q12_4, jk_q12_5, jk_q12_6, jk_q12_7, jk_q12_8, jk_q12_9, jk_q12_10, jk_q12_11, jk_q12_12, jk_q12_13, jk_q12_14, jk_q12_15, jk_q12_16, jk_q12_17, jk_q12_18, S.cells, cells_agg, rd1_p, Lgz, S.all33, S.all32, S.all34, S.is1, S.is2, S.v33, S.at_, S.fin, bin_geq, bin_leq, bin_lss, bin_eql, lenV_str, node_at2, node_at3, node_at4, node_at5, bin_feq, fltSame, c2]
  try all_goals ((repeat' split) <;> simp_all)
theorem ns_31 {p : LNode} {ks : List Int} {a1 : AV} (S : PSub D p ks a1) (n1 : ¬ (200 : Int) < ks.length) (hk : p.kind = 31) (σ : Store) :
  sh_q12 D (.agg (encNode p)) a1 σ = some (.bool (shapeEnd p false false false true ((decide ((ks.length : Int) = 1) && isExpr (kd ks 0) && decide (19 ≤ p.op) && decide (p.op ≤ 22))) 0 0), σ) := by
 unfold sh_q12
 simp only [jn_eq, cells_agg, S.cells, rd1_p, Lgz, node_at0, node_at6, S.lenV, len_encI, Obs, bin_gtr, bin_eql, aCase_bool, n1, hk, Int.reduceEq, decide_false, decide_true, Bft, if_false, if_true]
 unfold jb_q12_7
 simp only [jn_eq, cells_agg, S.cells, rd1_p, Lgz, node_at0, node_at6, S.lenV, len_encI, Obs, bin_gtr, bin_eql, aCase_bool, n1, hk, Int.reduceEq, decide_false, decide_true, Bft, if_false, if_true]
 unfold jb_q12_5
 simp only [jn_eq, cells_agg, S.cells, rd1_p, Lgz, node_at0, node_at6, S.lenV, len_encI, Obs, bin_gtr, bin_eql, aCase_bool, n1, hk, Int.reduceEq, decide_false, decide_true, Bft, if_false, if_true]
 unfold jb_q12_4
 simp only [jn_eq, cells_agg, S.cells, rd1_p, Lgz, node_at0, node_at6, S.lenV, len_encI, Obs, bin_gtr, bin_eql, aCase_bool, n1, hk, Int.reduceEq, decide_false, decide_true, Bft, if_false, if_true]
 unfold jb_q12_3
 simp only [jn_eq, cells_agg, S.cells, rd1_p, Lgz, node_at0, node_at6, S.lenV, len_encI, Obs, bin_gtr, bin_eql, aCase_bool, n1, hk, Int.reduceEq, decide_false, decide_true, Bft, if_false, if_true]
 unfold jb_q12_2
 simp only [jn_eq, cells_agg, S.cells, rd1_p, Lgz, node_at0, node_at6, S.lenV, len_encI, Obs, bin_gtr, bin_eql, aCase_bool, n1, hk, Int.reduceEq, decide_false, decide_true, Bft, if_false, if_true]
 by_cases c1 : (ks.length : Int) = 1
 ·skip
  simp [jn_eq, jb_q12_6, jb_q12_1, jk_q12_1, jk_q12_2, jk_q12_3, jk_q12_4, jk_q12_5, jk_q12_6, jk_q12_7, jk_q12_8, jk_q12_9, jk_q12_10, jk_q12_11, jk_q12_12, jk_q12_13, jk_q12_14, jk_q12_15, jk_q12_16, jk_q12_17, jk_q12_18, S.cells, cells_agg, rd1_p, Lgz, S.all33, S.all32, S.all34, S.is1, S.is2, S.v33, S.at_, S.fin, bin_geq, bin_leq, bin_lss, bin_eql, lenV_str, node_at2, node_at3, node_at4, node_at5, bin_feq, fltSame, c1]
  try all_goals ((repeat' split) <;> simp_all)
  try (rw [show decide (19 ≤ p.op) = false by simp; omega]; rfl)
 ·skip
  simp [jn_eq, jb_q12_6, jb_q12_1, jk_q12_1, jk_q12_2, jk_q12_3, jk_q12_4, jk_q12_5, jk_q12_6, jk_q12_7, jk_q12_8, jk_q12_9, jk_q12_10, jk_q12_11, jk_q12_12, jk_q12_13, jk_q12_14, jk_q12_15, jk_q12_16, jk_q12_17, jk_q12_18, S.cells, cells_agg, rd1_p, Lgz, S.all33, S.all32, S.all34, S.is1, S.is2, S.v33, S.at_, S.fin, bin_geq, bin_leq, bin_lss, bin_eql, lenV_str, node_at2, node_at3, node_at4, node_at5, bin_feq, fltSame, c1]
  try all_goals ((repeat' split) <;> simp_all)
  try (rw [show decide (19 ≤ p.op) = false by simp; omega]; rfl)
theorem ns_32 {p : LNode} {ks : List Int} {a1 : AV} (S : PSub D p ks a1) (n1 : ¬ (200 : Int) < ks.length) (hk : p.kind = 32) (σ : Store) :
  sh_q12 D (.agg (encNode p)) a1 σ = some (.bool (shapeEnd p false false false true ((decide ((ks.length : Int) = 2) && alls isExpr ks 0 2 && decide (1 ≤ p.op) && decide (p.op ≤ 18))) 0 0), σ) := by
 unfold sh_q12
 simp only [jn_eq, cells_agg, S.cells, rd1_p, Lgz, node_at0, node_at6, S.lenV, len_encI, Obs, bin_gtr, bin_eql, aCase_bool, n1, hk, Int.reduceEq, decide_false, decide_true, Bft, if_false, if_true]
 unfold jb_q12_7
 simp only [jn_eq, cells_agg, S.cells, rd1_p, Lgz, node_at0, node_at6, S.lenV, len_encI, Obs, bin_gtr, bin_eql, aCase_bool, n1, hk, Int.reduceEq, decide_false, decide_true, Bft, if_false, if_true]
 unfold jb_q12_5
 simp only [jn_eq, cells_agg, S.cells, rd1_p, Lgz, node_at0, node_at6, S.lenV, len_encI, Obs, bin_gtr, bin_eql, aCase_bool, n1, hk, Int.reduceEq, decide_false, decide_true, Bft, if_false, if_true]
 unfold jb_q12_4
 simp only [jn_eq, cells_agg, S.cells, rd1_p, Lgz, node_at0, node_at6, S.lenV, len_encI, Obs, bin_gtr, bin_eql, aCase_bool, n1, hk, Int.reduceEq, decide_false, decide_true, Bft, if_false, if_true]
 unfold jb_q12_3
 simp only [jn_eq, cells_agg, S.cells, rd1_p, Lgz, node_at0, node_at6, S.lenV, len_encI, Obs, bin_gtr, bin_eql, aCase_bool, n1, hk, Int.reduceEq, decide_false, decide_true, Bft, if_false, if_true]
 unfold jb_q12_2
 simp only [jn_eq, cells_agg, S.cells, rd1_p, Lgz, node_at0, node_at6, S.lenV, len_encI, Obs, bin_gtr, bin_eql, aCase_bool, n1, hk, Int.reduceEq, decide_false, decide_true, Bft, if_false, if_true]
 by_cases c2 : (ks.length : Int) = 2
 ·skip
  simp [jn_eq, jb_q12_6, jb_q12_1, jk_q12_1, jk_q12_2, jk_q12_3, jk_q12_4, jk_q12_5, jk_q12_6, jk_q12_7, jk_q12_8, jk_q12_9, jk_q12_10, jk_q12_11, jk_q12_12, jk_q12_13, jk_q12_14, jk_q12_15, jk_q12_16, jk_q12_17, jk_q12_18, S.cells, cells_agg, rd1_p, Lgz, S.all33, S.all32, S.all34, S.is1, S.is2, S.v33, S.at_, S.fin, bin_geq, bin_leq, bin_lss, bin_eql, lenV_str, node_at2, node_at3, node_at4, node_at5, bin_feq, fltSame, c2]
  try all_goals ((repeat' split) <;> simp_all)
  try (rw [show decide (1 ≤ p.op) = false by simp; omega]; rfl)
 ·skip
  simp [jn_eq, jb_q12_6, jb_q12_1, jk_q12_1, jk_q12_2, jk_q12_3, jk_q12_4, jk_q12_5, jk_q12_6, jk_q12_7, jk_q12_8, jk_q12_9, jk_q12_10, jk_q12_11, jk_q12_12, jk_q12_13, jk_q12_14, jk_q12_15, jk_q12_16, jk_q12_17, jk_q12_18, S.cells, cells_agg, rd1_p, Lgz, S.all33, S.all32, S.all34, S.is1, S.is2, S.v33, S.at_, S.fin, bin_geq, bin_leq, bin_lss, bin_eql, lenV_str, node_at2, node_at3, node_at4, node_at5, bin_feq, fltSame, c2]
  try all_goals ((repeat' split) <;> simp_all)
  try (rw [show decide (1 ≤ p.op) = false by simp; omega]; rfl)
theorem ns_33 {p : LNode} {ks : List Int} {a1 : AV} (S : PSub D p ks a1) (n1 : ¬ (200 : Int) < ks.length) (hk : p.kind = 33) (σ : Store) :
  sh_q12 D (.agg (encNode p)) a1 σ = some (.bool (shapeEnd p false false false false ((decide ((ks.length : Int) = 2) && alls isExpr ks 0 2)) 0 0), σ) := by
 unfold sh_q12
 simp only [jn_eq, cells_agg, S.cells, rd1_p, Lgz, node_at0, node_at6, S.lenV, len_encI, Obs, bin_gtr, bin_eql, aCase_bool, n1, hk, Int.reduceEq, decide_false, decide_true, Bft, if_false, if_true]
 unfold jb_q12_7
 simp only [jn_eq, cells_agg, S.cells, rd1_p, Lgz, node_at0, node_at6, S.lenV, len_encI, Obs, bin_gtr, bin_eql, aCase_bool, n1, hk, Int.reduceEq, decide_false, decide_true, Bft, if_false, if_true]
 unfold jb_q12_5
 simp only [jn_eq, cells_agg, S.cells, rd1_p, Lgz, node_at0, node_at6, S.lenV, len_encI, Obs, bin_gtr, bin_eql, aCase_bool, n1, hk, Int.reduceEq, decide_false, decide_true, Bft, if_false, if_true]
 unfold jb_q12_4
 simp only [jn_eq, cells_agg, S.cells, rd1_p, Lgz, node_at0, node_at6, S.lenV, len_encI, Obs, bin_gtr, bin_eql, aCase_bool, n1, hk, Int.reduceEq, decide_false, decide_true, Bft, if_false, if_true]
 unfold jb_q12_3
 simp only [jn_eq, cells_agg, S.cells, rd1_p, Lgz, node_at0, node_at6, S.lenV, len_encI, Obs, bin_gtr, bin_eql, aCase_bool, n1, hk, Int.reduceEq, decide_false, decide_true, Bft, if_false, if_true]
 unfold jb_q12_2
 simp only [jn_eq, cells_agg, S.cells, rd1_p, Lgz, node_at0, node_at6, S.lenV, len_encI, Obs, bin_gtr, bin_eql, aCase_bool, n1, hk, Int.reduceEq, decide_false, decide_true, Bft, if_false, if_true]
 by_cases c2 : (ks.length : Int) = 2
 ·skip
  simp [jn_eq, jb_q12_6, jb_q12_1, jk_q12_1, jk_q12_2, jk_q12_3, jk_q12_4, jk_q12_5, jk_q12_6, jk_q12_7, jk_q12_8, jk_q12_9, jk_q12_10, jk_q12_11, jk_q12_12, jk_q12_13, jk_q12_14, jk_q12_15, jk_q12_16, jk_q12_17, jk_q12_18, S.cells, cells_agg, rd1_p, Lgz, S.all33, S.all32, S.all34, S.is1, S.is2, S.v33, S.at_, S.fin, bin_geq, bin_leq, bin_lss, bin_eql, lenV_str, node_at2, node_at3, node_at4, node_at5, bin_feq, fltSame, c2]
  try all_goals ((repeat' split) <;> simp_all)
 ·skip
  simp [jn_eq, jb_q12_6, jb_q12_1, jk_q12_1, jk_q12_2, jk_q12_3, jk_q12_4, jk_q12_5, jk_q12_6, jk_q12_7, jk_q12_8, jk_q12_9, jk_q12_10, jk_q12_11, jk_q12_12, jk_q12_13, jk_q12_14, jk_q12_15, jk_q12_16, jk_q12_17, jk_q12_18, S.cells, cells_agg, rd1_p, Lgz, S.all33, S.all32, S.all34, S.is1, S.is2, S.v33, S.at_, S.fin, bin_geq, bin_leq, bin_lss, bin_eql, lenV_str, node_at2, node_at3, node_at4, node_at5, bin_feq, fltSame, c2]
  try all_goals ((repeat' split) <;> simp_all)
theorem ns_34 {p : LNode} {ks : List Int} {a1 : AV} (S : PSub D p ks a1) (n1 : ¬ (200 : Int) < ks.length) (hk : p.kind = 34) (σ : Store) :
  sh_q12 D (.agg (encNode p)) a1 σ = some (.bool (shapeEnd p false false false false ((decide (1 ≤ (ks.length : Int)) && alls isExpr ks 0 ks.length)) 0 0), σ) := by
 unfold sh_q12
 simp only [jn_eq, cells_agg, S.cells, rd1_p, Lgz, node_at0, node_at6, S.lenV, len_encI, Obs, bin_gtr, bin_eql, aCase_bool, n1, hk, Int.reduceEq, decide_false, decide_true, Bft, if_false, if_true]
 unfold jb_q12_7
 simp only [jn_eq, cells_agg, S.cells, rd1_p, Lgz, node_at0, node_at6, S.lenV, len_encI, Obs, bin_gtr, bin_eql, aCase_bool, n1, hk, Int.reduceEq, decide_false, decide_true, Bft, if_false, if_true]
 unfold jb_q12_5
 simp only [jn_eq, cells_agg, S.cells, rd1_p, Lgz, node_at0, node_at6, S.lenV, len_encI, Obs, bin_gtr, bin_eql, aCase_bool, n1, hk, Int.reduceEq, decide_false, decide_true, Bft, if_false, if_true]
 unfold jb_q12_4
 simp only [jn_eq, cells_agg, S.cells, rd1_p, Lgz, node_at0, node_at6, S.lenV, len_encI, Obs, bin_gtr, bin_eql, aCase_bool, n1, hk, Int.reduceEq, decide_false, decide_true, Bft, if_false, if_true]
 unfold jb_q12_3
 simp only [jn_eq, cells_agg, S.cells, rd1_p, Lgz, node_at0, node_at6, S.lenV, len_encI, Obs, bin_gtr, bin_eql, aCase_bool, n1, hk, Int.reduceEq, decide_false, decide_true, Bft, if_false, if_true]
 unfold jb_q12_2
 simp only [jn_eq, cells_agg, S.cells, rd1_p, Lgz, node_at0, node_at6, S.lenV, len_encI, Obs, bin_gtr, bin_eql, aCase_bool, n1, hk, Int.reduceEq, decide_false, decide_true, Bft, if_false, if_true]
 by_cases c1 : (1 : Int) ≤ ks.length
 ·have c2 : (0 : Int) ≤ ks.length := by omega
  simp [jn_eq, jb_q12_6, jb_q12_1, jk_q12_1, jk_q12_2, jk_q12_3, jk_q12_4, jk_q12_5, jk_q12_6, jk_q12_7, jk_q12_8, jk_q12_9, jk_q12_10, jk_q12_11, jk_q12_12, jk_q12_13, jk_q12_14, jk_q12_15, jk_q12_16, jk_q12_17, jk_q12_18, S.cells, cells_agg, rd1_p, Lgz, S.all33, S.all32, S.all34, S.is1, S.is2, S.v33, S.at_, S.fin, bin_geq, bin_leq, bin_lss, bin_eql, lenV_str, node_at2, node_at3, node_at4, node_at5, bin_feq, fltSame, c1, c2]
  try all_goals ((repeat' split) <;> simp_all)
 ·skip
  simp [jn_eq, jb_q12_6, jb_q12_1, jk_q12_1, jk_q12_2, jk_q12_3, jk_q12_4, jk_q12_5, jk_q12_6, jk_q12_7, jk_q12_8, jk_q12_9, jk_q12_10, jk_q12_11, jk_q12_12, jk_q12_13, jk_q12_14, jk_q12_15, jk_q12_16, jk_q12_17, jk_q12_18, S.cells, cells_agg, rd1_p, Lgz, S.all33, S.all32, S.all34, S.is1, S.is2, S.v33, S.at_, S.fin, bin_geq, bin_leq, bin_lss, bin_eql, lenV_str, node_at2, node_at3, node_at4, node_at5, bin_feq, fltSame, c1]
  try all_goals ((repeat' split) <;> simp_all)
theorem ns_36 {p : LNode} {ks : List Int} {a1 : AV} (S : PSub D p ks a1) (n1 : ¬ (200 : Int) < ks.length) (hk : p.kind = 36) (σ : Store) :
  sh_q12 D (.agg (encNode p)) a1 σ = some (.bool (shapeEnd p false false false false (decide ((ks.length : Int) = 0)) 1 1), σ) := by
 unfold sh_q12
 simp only [jb_q12_7, jb_q12_5, jb_q12_4, jb_q12_3, jn_eq, cells_agg, S.cells, rd1_p, Lgz, node_at0, node_at6, S.lenV, len_encI, Obs, bin_gtr, bin_eql, aCase_bool, n1, hk, Int.reduceEq, decide_false, decide_true, Bft, if_false, if_true]
 simp [jn_eq, jb_q12_6, jb_q12_1, jk_q12_1, jk_q12_2, jk_q12_3, jk_q12_4, jk_q12_5, jk_q12_6, jk_q12_7, jk_q12_8, jk_q12_9, jk_q12_10, jk_q12_11, jk_q12_12, jk_q12_13, jk_q12_14, jk_q12_15, jk_q12_16, jk_q12_17, jk_q12_18, S.cells, cells_agg, rd1_p, Lgz, S.all33, S.all32, S.all34, S.is1, S.is2, S.v33, S.at_, S.fin, bin_geq, bin_leq, bin_lss, bin_eql, lenV_str, node_at2, node_at3, node_at4, node_at5, bin_feq, fltSame]
 try all_goals ((repeat' split) <;> simp_all)
theorem ns_37 {p : LNode} {ks : List Int} {a1 : AV} (S : PSub D p ks a1) (n1 : ¬ (200 : Int) < ks.length) (hk : p.kind = 37) (σ : Store) :
  sh_q12 D (.agg (encNode p)) a1 σ = some (.bool (shapeEnd p false false false false (decide ((ks.length : Int) = 0)) 0 0), σ) := by
 unfold sh_q12
 simp only [jb_q12_7, jb_q12_5, jb_q12_4, jn_eq, cells_agg, S.cells, rd1_p, Lgz, node_at0, node_at6, S.lenV, len_encI, Obs, bin_gtr, bin_eql, aCase_bool, n1, hk, Int.reduceEq, decide_false, decide_true, Bft, if_false, if_true]
 simp [jn_eq, jb_q12_6, jb_q12_1, jk_q12_1, jk_q12_2, jk_q12_3, jk_q12_4, jk_q12_5, jk_q12_6, jk_q12_7, jk_q12_8, jk_q12_9, jk_q12_10, jk_q12_11, jk_q12_12, jk_q12_13, jk_q12_14, jk_q12_15, jk_q12_16, jk_q12_17, jk_q12_18, S.cells, cells_agg, rd1_p, Lgz, S.all33, S.all32, S.all34, S.is1, S.is2, S.v33, S.at_, S.fin, bin_geq, bin_leq, bin_lss, bin_eql, lenV_str, node_at2, node_at3, node_at4, node_at5, bin_feq, fltSame]
 try all_goals ((repeat' split) <;> simp_all)
theorem ns_38 {p : LNode} {ks : List Int} {a1 : AV} (S : PSub D p ks a1) (n1 : ¬ (200 : Int) < ks.length) (hk : p.kind = 38) (σ : Store) :
  sh_q12 D (.agg (encNode p)) a1 σ = some (.bool (shapeEnd p false false false false ((decide ((ks.length : Int) = 1) && (decide (kd ks 0 = 34) || decide (kd ks 0 = 37)))) 0 0), σ) := by
 unfold sh_q12
 simp only [jn_eq, cells_agg, S.cells, rd1_p, Lgz, node_at0, node_at6, S.lenV, len_encI, Obs, bin_gtr, bin_eql, aCase_bool, n1, hk, Int.reduceEq, decide_false, decide_true, Bft, if_false, if_true]
 unfold jb_q12_7
 simp only [jn_eq, cells_agg, S.cells, rd1_p, Lgz, node_at0, node_at6, S.lenV, len_encI, Obs, bin_gtr, bin_eql, aCase_bool, n1, hk, Int.reduceEq, decide_false, decide_true, Bft, if_false, if_true]
 unfold jb_q12_5
 simp only [jn_eq, cells_agg, S.cells, rd1_p, Lgz, node_at0, node_at6, S.lenV, len_encI, Obs, bin_gtr, bin_eql, aCase_bool, n1, hk, Int.reduceEq, decide_false, decide_true, Bft, if_false, if_true]
 unfold jb_q12_4
 simp only [jn_eq, cells_agg, S.cells, rd1_p, Lgz, node_at0, node_at6, S.lenV, len_encI, Obs, bin_gtr, bin_eql, aCase_bool, n1, hk, Int.reduceEq, decide_false, decide_true, Bft, if_false, if_true]
 unfold jb_q12_3
 simp only [jn_eq, cells_agg, S.cells, rd1_p, Lgz, node_at0, node_at6, S.lenV, len_encI, Obs, bin_gtr, bin_eql, aCase_bool, n1, hk, Int.reduceEq, decide_false, decide_true, Bft, if_false, if_true]
 unfold jb_q12_2
 simp only [jn_eq, cells_agg, S.cells, rd1_p, Lgz, node_at0, node_at6, S.lenV, len_encI, Obs, bin_gtr, bin_eql, aCase_bool, n1, hk, Int.reduceEq, decide_false, decide_true, Bft, if_false, if_true]
 by_cases c1 : (ks.length : Int) = 1
 ·skip
  simp [jn_eq, jb_q12_6, jb_q12_1, jk_q12_1, jk_q12_2, jk_q12_3, jk_q12_4, jk_q12_5, jk_q12_6, jk_q12_7, jk_q12_8, jk_q12_9, jk_q12_10, jk_q12_11, jk_q12_12, jk_q12_13, jk_q12_14, jk_q12_15, jk_q12_16, jk_q12_17, jk_q12_18, S.cells, cells_agg, rd1_p, Lgz, S.all33, S.all32, S.all34, S.is1, S.is2, S.v33, S.at_, S.fin, bin_geq, bin_leq, bin_lss, bin_eql, lenV_str, node_at2, node_at3, node_at4, node_at5, bin_feq, fltSame, c1]
  try all_goals ((repeat' split) <;> simp_all)
 ·skip
  simp [jn_eq, jb_q12_6, jb_q12_1, jk_q12_1, jk_q12_2, jk_q12_3, jk_q12_4, jk_q12_5, jk_q12_6, jk_q12_7, jk_q12_8, jk_q12_9, jk_q12_10, jk_q12_11, jk_q12_12, jk_q12_13, jk_q12_14, jk_q12_15, jk_q12_16, jk_q12_17, jk_q12_18, S.cells, cells_agg, rd1_p, Lgz, S.all33, S.all32, S.all34, S.is1, S.is2, S.v33, S.at_, S.fin, bin_geq, bin_leq, bin_lss, bin_eql, lenV_str, node_at2, node_at3, node_at4, node_at5, bin_feq, fltSame, c1]
  try all_goals ((repeat' split) <;> simp_all)
theorem ns_3 {p : LNode} {ks : List Int} {a1 : AV} (S : PSub D p ks a1) (n1 : ¬ (200 : Int) < ks.length) (hk : p.kind = 3) (σ : Store) :
  sh_q12 D (.agg (encNode p)) a1 σ = some (.bool (decide (1 ≤ p.num) && decide (p.num < (ks.length : Int)) && shapeEnd p true false false false (alls isTarget ks 0 p.num && alls isExpr ks p.num ks.length) 0 0), σ) := by
 unfold sh_q12
 simp only [jn_eq, cells_agg, S.cells, rd1_p, Lgz, node_at0, node_at6, S.lenV, len_encI, Obs, bin_gtr, bin_eql, aCase_bool, n1, hk, Int.reduceEq, decide_false, decide_true, Bft, if_false, if_true, node_at3, bin_lss, bin_geq]
 by_cases h1 : p.num < 1
 ·have : ¬ 1 ≤ p.num := by omega
  simp [h1, this]
 ·by_cases h2 : (ks.length : Int) ≤ p.num
  ·have : ¬ p.num < ks.length := by omega
   simp [h1, h2, this]
  ·have g1 : 1 ≤ p.num := by omega
   have g2 : p.num < ks.length := by omega
   have a1 := S.all34 0 p.num σ (by omega) (by omega) (by omega)
   have a2 := S.all33 p.num ks.length σ (by omega) (by omega) (by omega)
   simp only [h1, h2, g1, g2, decide_false, decide_true, Bft, if_false, if_true, a1, a2, Obs, aCase_bool, S.fin, Bool.true_and, jn_eq, jb_q12_6, jb_q12_1, jk_q12_1, jk_q12_2, jk_q12_3, jk_q12_4, jk_q12_5, jk_q12_6, jk_q12_7, jk_q12_8, jk_q12_9, jk_q12_10, jk_q12_11, jk_q12_12, jk_q12_13, jk_q12_14, jk_q12_15, jk_q12_16, jk_q12_17, jk_q12_18]
   cases alls isTarget ks 0 p.num <;> simp [S.fin]
theorem ns_35 {p : LNode} {ks : List Int} {a1 : AV} (S : PSub D p ks a1) (n1 : ¬ (200 : Int) < ks.length) (hk : p.kind = 35) (σ : Store) :
  sh_q12 D (.agg (encNode p)) a1 σ = some (.bool (shapeEnd p false false false true (((decide (p.op = 0) || decide (p.op = 1)) && decide ((ks.length : Int).tmod 2 = 0) && alls isExpr ks 0 ks.length && (!decide (p.op = 1) || (decide (2 ≤ (ks.length : Int)) && decide (kd ks (ks.length - 2) = 23) && (decide (kd ks (ks.length - 1) = 34) || decide (kd ks (ks.length - 1) = 37)))))) 0 0), σ) := by
 unfold sh_q12
 simp only [jn_eq, cells_agg, S.cells, rd1_p, Lgz, node_at0, node_at6, S.lenV, len_encI, Obs, bin_gtr, bin_eql, aCase_bool, n1, hk, Int.reduceEq, decide_false, decide_true, Bft, if_false, if_true]
 unfold jb_q12_7
 simp only [jn_eq, cells_agg, S.cells, rd1_p, Lgz, node_at0, node_at6, S.lenV, len_encI, Obs, bin_gtr, bin_eql, aCase_bool, n1, hk, Int.reduceEq, decide_false, decide_true, Bft, if_false, if_true]
 unfold jb_q12_5
 simp only [jn_eq, cells_agg, S.cells, rd1_p, Lgz, node_at0, node_at6, S.lenV, len_encI, Obs, bin_gtr, bin_eql, aCase_bool, n1, hk, Int.reduceEq, decide_false, decide_true, Bft, if_false, if_true]
 unfold jb_q12_4
 simp only [jn_eq, cells_agg, S.cells, rd1_p, Lgz, node_at0, node_at6, S.lenV, len_encI, Obs, bin_gtr, bin_eql, aCase_bool, n1, hk, Int.reduceEq, decide_false, decide_true, Bft, if_false, if_true]
 unfold jb_q12_3
 simp only [jn_eq, cells_agg, S.cells, rd1_p, Lgz, node_at0, node_at6, S.lenV, len_encI, Obs, bin_gtr, bin_eql, aCase_bool, n1, hk, Int.reduceEq, decide_false, decide_true, Bft, if_false, if_true]
 unfold jb_q12_2
 simp only [jn_eq, cells_agg, S.cells, rd1_p, Lgz, node_at0, node_at6, S.lenV, len_encI, Obs, bin_gtr, bin_eql, aCase_bool, n1, hk, Int.reduceEq, decide_false, decide_true, Bft, if_false, if_true]
 unfold jb_q12_1
 have r : bin .rem .num (.int .i64 ks.length) (.int .i64 2) = some (.int .i64 ((ks.length : Int).tmod 2)) := bin_rem2
 have s1 : 2 ≤ (ks.length : Int) → bin .sub .num (.int .i64 ks.length) (.int .i64 1) = some (.int .i64 ((ks.length : Int) - 1)) := fun _ => bin_sub (by have := S.len; omega) (by have := S.len; omega)
 have s2 : 2 ≤ (ks.length : Int) → bin .sub .num (.int .i64 ks.length) (.int .i64 2) = some (.int .i64 ((ks.length : Int) - 2)) := fun _ => bin_sub (by have := S.len; omega) (by have := S.len; omega)
 have a1 := S.all33 0 ks.length σ (by omega) (by omega) (by omega)
 have i1 := fun h : 2 ≤ (ks.length : Int) => S.is1 ((ks.length : Int) - 2) 23 σ (by omega) (by omega)
 have i2 := fun h : 2 ≤ (ks.length : Int) => S.is2 ((ks.length : Int) - 1) 34 37 σ (by omega) (by omega)
 simp only [jn_eq, jb_q12_6, jb_q12_1, jk_q12_1, jk_q12_2, jk_q12_3, jk_q12_4, jk_q12_5, jk_q12_6, jk_q12_7, jk_q12_8, jk_q12_9, jk_q12_10, jk_q12_11, jk_q12_12, jk_q12_13, jk_q12_14, jk_q12_15, jk_q12_16, jk_q12_17, jk_q12_18, S.cells, cells_agg, rd1_p, node_at2, r, a1, bin_eql, bin_geq, Obs, aCase_bool]
 cases h3 : alls isExpr ks 0 ks.length <;> by_cases h2 : (ks.length : Int).tmod 2 = 0 <;> by_cases h4 : 2 ≤ (ks.length : Int) <;> by_cases h0 : p.op = 0 <;> by_cases h1 : p.op = 1 <;> simp only [h0, h1, h2, h3, h4, decide_true, decide_false, Bft, if_false, if_true, S.fin, Obs, aCase_bool, Bool.true_and, Bool.and_true, Bool.or_true, Bool.true_or, Bool.or_false, Bool.false_or, Bool.false_and, Bool.and_false, Bool.not_true, Bool.not_false, true_implies, s1, s2, i1, i2]
 all_goals (generalize decide (kd ks ((ks.length : Int) - 2) = 23) = b; cases b <;> simp)
theorem ns_none {p : LNode} {ks : List Int} {a1 : AV} (S : PSub D p ks a1) (n1 : ¬ (200 : Int) < ks.length) (hk : ¬ (1 ≤ p.kind ∧ p.kind ≤ 14)) (hk2 : ¬ (20 ≤ p.kind ∧ p.kind ≤ 38)) (σ : Store) :
  sh_q12 D (.agg (encNode p)) a1 σ = some (.bool (shapeEnd p false false false false false 0 0), σ) := by
 have E1 : (p.kind = 1) = False := eq_false (by omega)
 have E2 : (p.kind = 2) = False := eq_false (by omega)
 have E3 : (p.kind = 3) = False := eq_false (by omega)
 have E4 : (p.kind = 4) = False := eq_false (by omega)
 have E5 : (p.kind = 5) = False := eq_false (by omega)
 have E6 : (p.kind = 6) = False := eq_false (by omega)
 have E7 : (p.kind = 7) = False := eq_false (by omega)
 have E8 : (p.kind = 8) = False := eq_false (by omega)
 have E9 : (p.kind = 9) = False := eq_false (by omega)
 have E10 : (p.kind = 10) = False := eq_false (by omega)
 have E11 : (p.kind = 11) = False := eq_false (by omega)
 have E12 : (p.kind = 12) = False := eq_false (by omega)
 have E13 : (p.kind = 13) = False := eq_false (by omega)
 have E14 : (p.kind = 14) = False := eq_false (by omega)
 have E20 : (p.kind = 20) = False := eq_false (by omega)
 have E21 : (p.kind = 21) = False := eq_false (by omega)
 have E22 : (p.kind = 22) = False := eq_false (by omega)
 have E23 : (p.kind = 23) = False := eq_false (by omega)
 have E24 : (p.kind = 24) = False := eq_false (by omega)
 have E25 : (p.kind = 25) = False := eq_false (by omega)
 have E26 : (p.kind = 26) = False := eq_false (by omega)
 have E27 : (p.kind = 27) = False := eq_false (by omega)
 have E28 : (p.kind = 28) = False := eq_false (by omega)
 have E29 : (p.kind = 29) = False := eq_false (by omega)
 have E30 : (p.kind = 30) = False := eq_false (by omega)
 have E31 : (p.kind = 31) = False := eq_false (by omega)
 have E32 : (p.kind = 32) = False := eq_false (by omega)
 have E33 : (p.kind = 33) = False := eq_false (by omega)
 have E34 : (p.kind = 34) = False := eq_false (by omega)
 have E35 : (p.kind = 35) = False := eq_false (by omega)
 have E36 : (p.kind = 36) = False := eq_false (by omega)
 have E37 : (p.kind = 37) = False := eq_false (by omega)
 have E38 : (p.kind = 38) = False := eq_false (by omega)
 unfold sh_q12
 simp only [jn_eq, cells_agg, S.cells, rd1_p, Lgz, node_at0, node_at6, S.lenV, len_encI, Obs, bin_gtr, bin_eql, aCase_bool, n1, E1, E2, E3, E4, E5, E6, E7, E8, E9, E10, E11, E12, E13, E14, E20, E21, E22, E23, E24, E25, E26, E27, E28, E29, E30, E31, E32, E33, E34, E35, E36, E37, E38, decide_false, decide_true, Bft, if_false, if_true]
 unfold jb_q12_7
 simp only [jn_eq, cells_agg, S.cells, rd1_p, Lgz, node_at0, node_at6, S.lenV, len_encI, Obs, bin_gtr, bin_eql, aCase_bool, n1, E1, E2, E3, E4, E5, E6, E7, E8, E9, E10, E11, E12, E13, E14, E20, E21, E22, E23, E24, E25, E26, E27, E28, E29, E30, E31, E32, E33, E34, E35, E36, E37, E38, decide_false, decide_true, Bft, if_false, if_true]
 unfold jb_q12_5
 simp only [jn_eq, cells_agg, S.cells, rd1_p, Lgz, node_at0, node_at6, S.lenV, len_encI, Obs, bin_gtr, bin_eql, aCase_bool, n1, E1, E2, E3, E4, E5, E6, E7, E8, E9, E10, E11, E12, E13, E14, E20, E21, E22, E23, E24, E25, E26, E27, E28, E29, E30, E31, E32, E33, E34, E35, E36, E37, E38, decide_false, decide_true, Bft, if_false, if_true]
 unfold jb_q12_4
 simp only [jn_eq, cells_agg, S.cells, rd1_p, Lgz, node_at0, node_at6, S.lenV, len_encI, Obs, bin_gtr, bin_eql, aCase_bool, n1, E1, E2, E3, E4, E5, E6, E7, E8, E9, E10, E11, E12, E13, E14, E20, E21, E22, E23, E24, E25, E26, E27, E28, E29, E30, E31, E32, E33, E34, E35, E36, E37, E38, decide_false, decide_true, Bft, if_false, if_true]
 unfold jb_q12_3
 simp only [jn_eq, cells_agg, S.cells, rd1_p, Lgz, node_at0, node_at6, S.lenV, len_encI, Obs, bin_gtr, bin_eql, aCase_bool, n1, E1, E2, E3, E4, E5, E6, E7, E8, E9, E10, E11, E12, E13, E14, E20, E21, E22, E23, E24, E25, E26, E27, E28, E29, E30, E31, E32, E33, E34, E35, E36, E37, E38, decide_false, decide_true, Bft, if_false, if_true]
 unfold jb_q12_2
 simp only [jn_eq, cells_agg, S.cells, rd1_p, Lgz, node_at0, node_at6, S.lenV, len_encI, Obs, bin_gtr, bin_eql, aCase_bool, n1, E1, E2, E3, E4, E5, E6, E7, E8, E9, E10, E11, E12, E13, E14, E20, E21, E22, E23, E24, E25, E26, E27, E28, E29, E30, E31, E32, E33, E34, E35, E36, E37, E38, decide_false, decide_true, Bft, if_false, if_true]
 simp only [jn_eq, jb_q12_6, jb_q12_1, jk_q12_1, jk_q12_2, jk_q12_3, jk_q12_4, jk_q12_5, jk_q12_6, jk_q12_7, jk_q12_8, jk_q12_9, jk_q12_10, jk_q12_11, jk_q12_12, jk_q12_13, jk_q12_14, jk_q12_15, jk_q12_16, jk_q12_17, jk_q12_18, S.fin]
/-- How nodeShape judges a node by its kids' kinds. -/
def shapeOk (p : LNode) (ks : List Int) : Bool := decide ((ks.length : Int) ≤ 200) && shapeMid p ks
theorem nodeShape_2 {p : LNode} {ks : List Int} {a1 : AV} (S : PSub D p ks a1) (n1 : ¬ (200 : Int) < ks.length) (σ : Store) : sh_q12 D (.agg (encNode p)) a1 σ = some (.bool (shapeMid p ks), σ) := by
 unfold shapeMid
 by_cases h1 : p.kind = 1
 ·rw [if_pos h1]; exact ns_1 S n1 h1 σ
 rw [if_neg h1]
 by_cases h2 : p.kind = 2
 ·rw [if_pos h2]; exact ns_2 S n1 h2 σ
 rw [if_neg h2]
 by_cases h3 : p.kind = 3
 ·rw [if_pos h3]; exact ns_3 S n1 h3 σ
 rw [if_neg h3]
 by_cases h4 : p.kind = 4
 ·rw [if_pos h4]; exact ns_4 S n1 h4 σ
 rw [if_neg h4]
 by_cases h5 : p.kind = 5
 ·rw [if_pos h5]; exact ns_5 S n1 h5 σ
 rw [if_neg h5]
 by_cases h6 : p.kind = 6
 ·rw [if_pos h6]; exact ns_6 S n1 h6 σ
 rw [if_neg h6]
 by_cases h7 : p.kind = 7
 ·rw [if_pos h7]; exact ns_7 S n1 h7 σ
 rw [if_neg h7]
 by_cases h8 : p.kind = 8
 ·rw [if_pos h8]; exact ns_8 S n1 h8 σ
 rw [if_neg h8]
 by_cases h9 : p.kind = 9
 ·rw [if_pos h9]; exact ns_9 S n1 h9 σ
 rw [if_neg h9]
 by_cases h10 : p.kind = 10
 ·rw [if_pos h10]; exact ns_10 S n1 h10 σ
 rw [if_neg h10]
 by_cases h11 : p.kind = 11
 ·rw [if_pos h11]; exact ns_11 S n1 h11 σ
 rw [if_neg h11]
 by_cases h12 : p.kind = 12
 ·rw [if_pos h12]; exact ns_12 S n1 h12 σ
 rw [if_neg h12]
 by_cases h13 : p.kind = 13
 ·rw [if_pos h13]; exact ns_13 S n1 h13 σ
 rw [if_neg h13]
 by_cases h14 : p.kind = 14
 ·rw [if_pos h14]; exact ns_14 S n1 h14 σ
 rw [if_neg h14]
 by_cases h20 : p.kind = 20
 ·rw [if_pos h20]; exact ns_20 S n1 h20 σ
 rw [if_neg h20]
 by_cases h21 : p.kind = 21
 ·rw [if_pos h21]; exact ns_21 S n1 h21 σ
 rw [if_neg h21]
 by_cases h22 : p.kind = 22
 ·rw [if_pos h22]; exact ns_22 S n1 h22 σ
 rw [if_neg h22]
 by_cases h23 : p.kind = 23
 ·rw [if_pos h23]; exact ns_23 S n1 h23 σ
 rw [if_neg h23]
 by_cases h24 : p.kind = 24
 ·rw [if_pos h24]; exact ns_24 S n1 h24 σ
 rw [if_neg h24]
 by_cases h25 : p.kind = 25
 ·rw [if_pos h25]; exact ns_25 S n1 h25 σ
 rw [if_neg h25]
 by_cases h26 : p.kind = 26
 ·rw [if_pos h26]; exact ns_26 S n1 h26 σ
 rw [if_neg h26]
 by_cases h27 : p.kind = 27
 ·rw [if_pos h27]; exact ns_27 S n1 h27 σ
 rw [if_neg h27]
 by_cases h28 : p.kind = 28
 ·rw [if_pos h28]; exact ns_28 S n1 h28 σ
 rw [if_neg h28]
 by_cases h29 : p.kind = 29
 ·rw [if_pos h29]; exact ns_29 S n1 h29 σ
 rw [if_neg h29]
 by_cases h30 : p.kind = 30
 ·rw [if_pos h30]; exact ns_30 S n1 h30 σ
 rw [if_neg h30]
 by_cases h31 : p.kind = 31
 ·rw [if_pos h31]; exact ns_31 S n1 h31 σ
 rw [if_neg h31]
 by_cases h32 : p.kind = 32
 ·rw [if_pos h32]; exact ns_32 S n1 h32 σ
 rw [if_neg h32]
 by_cases h33 : p.kind = 33
 ·rw [if_pos h33]; exact ns_33 S n1 h33 σ
 rw [if_neg h33]
 by_cases h34 : p.kind = 34
 ·rw [if_pos h34]; exact ns_34 S n1 h34 σ
 rw [if_neg h34]
 by_cases h35 : p.kind = 35
 ·rw [if_pos h35]; exact ns_35 S n1 h35 σ
 rw [if_neg h35]
 by_cases h36 : p.kind = 36
 ·rw [if_pos h36]; exact ns_36 S n1 h36 σ
 rw [if_neg h36]
 by_cases h37 : p.kind = 37
 ·rw [if_pos h37]; exact ns_37 S n1 h37 σ
 rw [if_neg h37]
 by_cases h38 : p.kind = 38
 ·rw [if_pos h38]; exact ns_38 S n1 h38 σ
 rw [if_neg h38]
 rw [ns_none S n1 (by omega) (by omega)]
theorem nodeShape_sh {p : LNode} {ks : List Int} {a1 : AV} (S : PSub D p ks a1) (σ : Store) : sh_q12 D (.agg (encNode p)) a1 σ = some (.bool (shapeOk p ks), σ) := by
 by_cases n1 : (200 : Int) < ks.length
 ·have m1 : ¬ (ks.length : Int) ≤ 200 := by omega
  unfold sh_q12
  simp only [S.cells, rd1_p, Lgz, S.lenV, Obs, bin_gtr, aCase_bool]
  rw [if_pos (by simpa using n1)]
  simp only [shapeOk, m1, decide_false, Bool.false_and]
 have m1 : (ks.length : Int) ≤ 200 := by omega
 rw [nodeShape_2 S n1]
 simp only [shapeOk, m1, decide_true, Bool.true_and]
theorem nodeShape (H : Door D) (p : LNode) (ks : List Int) (hn : ks.length ≤ 1048576) (σ : Store) : D.call 16 [.agg (encNode p), encI ks] σ = some (.bool (shapeOk p ks), σ) := by
 rw [H.f16]
 exact nodeShape_sh (psub H p ks hn) σ
theorem nodeShape0 (H : Door D) (p : LNode) (σ : Store) : D.call 16 [.agg (encNode p), .pslice 0 []] σ = some (.bool (shapeOk p []), σ) := by
 rw [H.f16]
 exact nodeShape_sh (psub0 H p) σ
end
end Go.Asm.UnitF
namespace Go.Asm.UnitF
open Go Go.Asm
theorem exprs_all' {ks : List Int} : ∀ (m : Nat) (a : Int), 0 ≤ a → a.toNat + m ≤ ks.length → exprs ks a m = ((ks.drop a.toNat).take m).all isExpr := by
 intro m
 induction m with
 | zero => intro a _ _; simp [exprs]
 | succ m ih =>
  intro a h0 h
  have hl : a.toNat < ks.length := by omega
  rw [exprs, ih (a + 1) (by omega) (by omega), List.drop_eq_getElem_cons hl, List.take_succ_cons, List.all_cons, show (a + 1).toNat = a.toNat + 1 by omega]
  congr 2
  have := kd_at h0 (show a < (ks.length : Int) by omega)
  rw [Lge hl] at this
  exact (Option.some.inj this).symm
theorem alls_exprs {ks : List Int} {a b : Int} (h0 : 0 ≤ a) (h1 : a ≤ b) (h2 : b ≤ ks.length) : alls isExpr ks a b = exprs ks a (b - a).toNat := by
 rw [exprs_all' _ _ h0 (by omega), alls, List.drop_take, show b.toNat - a.toNat = (b - a).toNat by omega]
theorem alls_0 {ks : List Int} : alls isExpr ks 0 ks.length = exprs ks 0 ks.length := by
 rw [alls_exprs (by omega) (by omega) (by omega), show ((ks.length : Int) - 0).toNat = ks.length by omega]
theorem alls_1 {ks : List Int} (h : (ks.length : Int) = 1) : isExpr (kd ks 0) = exprs ks 0 ks.length := by
 rw [show ks.length = 1 by omega]; simp [exprs]
theorem alls_2 {ks : List Int} (h : (ks.length : Int) = 2) : alls isExpr ks 0 2 = exprs ks 0 ks.length := by
 rw [show ks.length = 2 by omega]; exact alls_exprs (by omega) (by omega) (by omega)
theorem alls_3 {ks : List Int} (h : (ks.length : Int) = 4) : alls isExpr ks 0 3 = exprs ks 0 3 := alls_exprs (by omega) (by omega) (by omega)
theorem alls_n {ks : List Int} {n : Int} (h : 1 ≤ n) (h2 : n < (ks.length : Int)) : alls isExpr ks n ks.length = exprs ks n ((ks.length : Int) - n).toNat := alls_exprs (by omega) (by omega) (by omega)
theorem exprs_1 {ks : List Int} : exprs ks 0 1 = isExpr (kd ks 0) := by simp [exprs]
theorem alls_all {Q : Int → Bool} {ks : List Int} : alls Q ks 0 ks.length = ks.all Q := by simp [alls]
theorem alls_take {Q : Int → Bool} {ks : List Int} {n : Int} : alls Q ks 0 n = (ks.take n.toNat).all Q := by simp [alls]
theorem kd_len {ks : List Int} {n : Int} (h : (ks.length : Int) = n) : kd ks ((ks.length : Int) - 1) = kd ks (n - 1) := by rw [h]
def NodeEq (p : LNode) (ks : List Int) : Prop := (decide ((ks.length : Int) ≤ 200) && (if isStat p.kind = true then decide (1 ≤ p.line) && decide (p.line ≤ 100000) && stmt3 p ks else decide (p.line = 0) && expr3 p ks)) = shapeOk p ks
theorem ne_1 {p : LNode} {ks : List Int} (hr : (p.refs.length : Int) ≤ 9223372036854775807) (hk : p.kind = 1) : NodeEq p ks := by
 have s1 : isStat p.kind = true := by simp [isStat, hk]
 unfold NodeEq
 simp only [s1, if_true, if_false, Bft]
 unfold shapeOk shapeMid stmt3
 simp only [hk, Int.reduceEq, or_false, false_or, or_true, true_or, or_self, if_true, if_false, decide_true, decide_false, Bool.false_and, Bool.true_and]
 have h0 := @alls_0 ks
 have h1 := @alls_1 ks
 have h2 := @alls_2 ks
 have h3 := @alls_3 ks
 have h4 := @alls_n ks p.num
 have h5 := @exprs_1 ks
 have g2 := @kd_len ks 2
 have g4 := @kd_len ks 4
 simp only [shapeEnd, bare, blkOf, isMany, s1, alls_all, decide_true, decide_false]
 rw [Bool.eq_iff_iff]
 simp only [Bae, Boe, Dte, Bool.not_eq_true', Bff, Dfn, Bool.true_or, Bool.false_or, if_true, if_false, Bft]
 grind
theorem ne_2 {p : LNode} {ks : List Int} (hr : (p.refs.length : Int) ≤ 9223372036854775807) (hk : p.kind = 2) : NodeEq p ks := by
 have s1 : isStat p.kind = true := by simp [isStat, hk]
 unfold NodeEq
 simp only [s1, if_true, if_false, Bft]
 unfold shapeOk shapeMid stmt3
 simp only [hk, Int.reduceEq, or_false, false_or, or_true, true_or, or_self, if_true, if_false, decide_true, decide_false, Bool.false_and, Bool.true_and]
 have h0 := @alls_0 ks
 have h1 := @alls_1 ks
 have h2 := @alls_2 ks
 have h3 := @alls_3 ks
 have h4 := @alls_n ks p.num
 have h5 := @exprs_1 ks
 have g2 := @kd_len ks 2
 have g4 := @kd_len ks 4
 simp only [shapeEnd, bare, blkOf, isMany, s1, h0, decide_true, decide_false]
 rw [Bool.eq_iff_iff]
 simp only [Bae, Boe, Dte, Bool.not_eq_true', Bff, Dfn, Bool.true_or, Bool.false_or, if_true, if_false, Bft]
 grind
theorem ne_3 {p : LNode} {ks : List Int} (hr : (p.refs.length : Int) ≤ 9223372036854775807) (hk : p.kind = 3) : NodeEq p ks := by
 have s1 : isStat p.kind = true := by simp [isStat, hk]
 unfold NodeEq
 simp only [s1, if_true, if_false, Bft]
 unfold shapeOk shapeMid stmt3
 simp only [hk, Int.reduceEq, or_false, false_or, or_true, true_or, or_self, if_true, if_false, decide_true, decide_false, Bool.false_and, Bool.true_and]
 have h0 := @alls_0 ks
 have h1 := @alls_1 ks
 have h2 := @alls_2 ks
 have h3 := @alls_3 ks
 have h4 := @alls_n ks p.num
 have h5 := @exprs_1 ks
 have g2 := @kd_len ks 2
 have g4 := @kd_len ks 4
 simp only [shapeEnd, bare, blkOf, isMany, s1, alls_take, alls_all, decide_true, decide_false]
 rw [Bool.eq_iff_iff]
 simp only [Bae, Boe, Dte, Bool.not_eq_true', Bff, Dfn, Bool.true_or, Bool.false_or, if_true, if_false, Bft]
 grind
theorem ne_4 {p : LNode} {ks : List Int} (hr : (p.refs.length : Int) ≤ 9223372036854775807) (hk : p.kind = 4) : NodeEq p ks := by
 have s1 : isStat p.kind = true := by simp [isStat, hk]
 unfold NodeEq
 simp only [s1, if_true, if_false, Bft]
 unfold shapeOk shapeMid stmt3
 simp only [hk, Int.reduceEq, or_false, false_or, or_true, true_or, or_self, if_true, if_false, decide_true, decide_false, Bool.false_and, Bool.true_and]
 have h0 := @alls_0 ks
 have h1 := @alls_1 ks
 have h2 := @alls_2 ks
 have h3 := @alls_3 ks
 have h4 := @alls_n ks p.num
 have h5 := @exprs_1 ks
 have g2 := @kd_len ks 2
 have g4 := @kd_len ks 4
 simp only [shapeEnd, bare, blkOf, isMany, s1, h0, decide_true, decide_false]
 rw [Bool.eq_iff_iff]
 simp only [Bae, Boe, Dte, Bool.not_eq_true', Bff, Dfn, Bool.true_or, Bool.false_or, if_true, if_false, Bft]
 grind
theorem ne_5 {p : LNode} {ks : List Int} (hr : (p.refs.length : Int) ≤ 9223372036854775807) (hk : p.kind = 5) : NodeEq p ks := by
 have s1 : isStat p.kind = true := by simp [isStat, hk]
 unfold NodeEq
 simp only [s1, if_true, if_false, Bft]
 unfold shapeOk shapeMid stmt3
 simp only [hk, Int.reduceEq, or_false, false_or, or_true, true_or, or_self, if_true, if_false, decide_true, decide_false, Bool.false_and, Bool.true_and]
 have h0 := @alls_0 ks
 have h1 := @alls_1 ks
 have h2 := @alls_2 ks
 have h3 := @alls_3 ks
 have h4 := @alls_n ks p.num
 have h5 := @exprs_1 ks
 have g2 := @kd_len ks 2
 have g4 := @kd_len ks 4
 simp only [shapeEnd, bare, blkOf, isMany, s1, h0, decide_true, decide_false]
 rw [Bool.eq_iff_iff]
 simp only [Bae, Boe, Dte, Bool.not_eq_true', Bff, Dfn, Bool.true_or, Bool.false_or, if_true, if_false, Bft]
 grind
theorem ne_6 {p : LNode} {ks : List Int} (hr : (p.refs.length : Int) ≤ 9223372036854775807) (hk : p.kind = 6) : NodeEq p ks := by
 have s1 : isStat p.kind = true := by simp [isStat, hk]
 unfold NodeEq
 simp only [s1, if_true, if_false, Bft]
 unfold shapeOk shapeMid stmt3
 simp only [hk, Int.reduceEq, or_false, false_or, or_true, true_or, or_self, if_true, if_false, decide_true, decide_false, Bool.false_and, Bool.true_and]
 have h0 := @alls_0 ks
 have h1 := @alls_1 ks
 have h2 := @alls_2 ks
 have h3 := @alls_3 ks
 have h4 := @alls_n ks p.num
 have h5 := @exprs_1 ks
 have g2 := @kd_len ks 2
 have g4 := @kd_len ks 4
 simp only [shapeEnd, bare, blkOf, isMany, s1, h0, decide_true, decide_false]
 rw [Bool.eq_iff_iff]
 simp only [Bae, Boe, Dte, Bool.not_eq_true', Bff, Dfn, Bool.true_or, Bool.false_or, if_true, if_false, Bft]
 grind
theorem ne_7 {p : LNode} {ks : List Int} (hr : (p.refs.length : Int) ≤ 9223372036854775807) (hk : p.kind = 7) : NodeEq p ks := by
 have s1 : isStat p.kind = true := by simp [isStat, hk]
 unfold NodeEq
 simp only [s1, if_true, if_false, Bft]
 unfold shapeOk shapeMid stmt3
 simp only [hk, Int.reduceEq, or_false, false_or, or_true, true_or, or_self, if_true, if_false, decide_true, decide_false, Bool.false_and, Bool.true_and]
 have h0 := @alls_0 ks
 have h1 := @alls_1 ks
 have h2 := @alls_2 ks
 have h3 := @alls_3 ks
 have h4 := @alls_n ks p.num
 have h5 := @exprs_1 ks
 have g2 := @kd_len ks 2
 have g4 := @kd_len ks 4
 simp only [shapeEnd, bare, blkOf, isMany, s1, h0, decide_true, decide_false]
 rw [Bool.eq_iff_iff]
 simp only [Bae, Boe, Dte, Bool.not_eq_true', Bff, Dfn, Bool.true_or, Bool.false_or, if_true, if_false, Bft]
 grind
theorem ne_8 {p : LNode} {ks : List Int} (hr : (p.refs.length : Int) ≤ 9223372036854775807) (hk : p.kind = 8) : NodeEq p ks := by
 have s1 : isStat p.kind = true := by simp [isStat, hk]
 unfold NodeEq
 simp only [s1, if_true, if_false, Bft]
 unfold shapeOk shapeMid stmt3
 simp only [hk, Int.reduceEq, or_false, false_or, or_true, true_or, or_self, if_true, if_false, decide_true, decide_false, Bool.false_and, Bool.true_and]
 have h0 := @alls_0 ks
 have h1 := @alls_1 ks
 have h2 := @alls_2 ks
 have h3 := @alls_3 ks
 have h4 := @alls_n ks p.num
 have h5 := @exprs_1 ks
 have g2 := @kd_len ks 2
 have g4 := @kd_len ks 4
 simp only [shapeEnd, bare, blkOf, isMany, s1, h0, decide_true, decide_false]
 rw [Bool.eq_iff_iff]
 simp only [Bae, Boe, Dte, Bool.not_eq_true', Bff, Dfn, Bool.true_or, Bool.false_or, if_true, if_false, Bft]
 grind
theorem ne_9 {p : LNode} {ks : List Int} (hr : (p.refs.length : Int) ≤ 9223372036854775807) (hk : p.kind = 9) : NodeEq p ks := by
 have s1 : isStat p.kind = true := by simp [isStat, hk]
 unfold NodeEq
 simp only [s1, if_true, if_false, Bft]
 unfold shapeOk shapeMid stmt3
 simp only [hk, Int.reduceEq, or_false, false_or, or_true, true_or, or_self, if_true, if_false, decide_true, decide_false, Bool.false_and, Bool.true_and]
 have h0 := @alls_0 ks
 have h1 := @alls_1 ks
 have h2 := @alls_2 ks
 have h3 := @alls_3 ks
 have h4 := @alls_n ks p.num
 have h5 := @exprs_1 ks
 have g2 := @kd_len ks 2
 have g4 := @kd_len ks 4
 simp only [shapeEnd, bare, blkOf, isMany, s1, h0, decide_true, decide_false]
 rw [Bool.eq_iff_iff]
 simp only [Bae, Boe, Dte, Bool.not_eq_true', Bff, Dfn, Bool.true_or, Bool.false_or, if_true, if_false, Bft]
 grind
theorem ne_10 {p : LNode} {ks : List Int} (hr : (p.refs.length : Int) ≤ 9223372036854775807) (hk : p.kind = 10) : NodeEq p ks := by
 have s1 : isStat p.kind = true := by simp [isStat, hk]
 unfold NodeEq
 simp only [s1, if_true, if_false, Bft]
 unfold shapeOk shapeMid stmt3
 simp only [hk, Int.reduceEq, or_false, false_or, or_true, true_or, or_self, if_true, if_false, decide_true, decide_false, Bool.false_and, Bool.true_and]
 have h0 := @alls_0 ks
 have h1 := @alls_1 ks
 have h2 := @alls_2 ks
 have h3 := @alls_3 ks
 have h4 := @alls_n ks p.num
 have h5 := @exprs_1 ks
 have g2 := @kd_len ks 2
 have g4 := @kd_len ks 4
 simp only [shapeEnd, bare, blkOf, isMany, s1, h0, decide_true, decide_false]
 rw [Bool.eq_iff_iff]
 simp only [Bae, Boe, Dte, Bool.not_eq_true', Bff, Dfn, Bool.true_or, Bool.false_or, if_true, if_false, Bft]
 grind
theorem ne_11 {p : LNode} {ks : List Int} (hr : (p.refs.length : Int) ≤ 9223372036854775807) (hk : p.kind = 11) : NodeEq p ks := by
 have s1 : isStat p.kind = true := by simp [isStat, hk]
 unfold NodeEq
 simp only [s1, if_true, if_false, Bft]
 unfold shapeOk shapeMid stmt3
 simp only [hk, Int.reduceEq, or_false, false_or, or_true, true_or, or_self, if_true, if_false, decide_true, decide_false, Bool.false_and, Bool.true_and]
 have h0 := @alls_0 ks
 have h1 := @alls_1 ks
 have h2 := @alls_2 ks
 have h3 := @alls_3 ks
 have h4 := @alls_n ks p.num
 have h5 := @exprs_1 ks
 have g2 := @kd_len ks 2
 have g4 := @kd_len ks 4
 simp only [shapeEnd, bare, blkOf, isMany, s1, h0, decide_true, decide_false]
 rw [Bool.eq_iff_iff]
 simp only [Bae, Boe, Dte, Bool.not_eq_true', Bff, Dfn, Bool.true_or, Bool.false_or, if_true, if_false, Bft]
 grind
theorem ne_12 {p : LNode} {ks : List Int} (hr : (p.refs.length : Int) ≤ 9223372036854775807) (hk : p.kind = 12) : NodeEq p ks := by
 have s1 : isStat p.kind = true := by simp [isStat, hk]
 unfold NodeEq
 simp only [s1, if_true, if_false, Bft]
 unfold shapeOk shapeMid stmt3
 simp only [hk, Int.reduceEq, or_false, false_or, or_true, true_or, or_self, if_true, if_false, decide_true, decide_false, Bool.false_and, Bool.true_and]
 have h0 := @alls_0 ks
 have h1 := @alls_1 ks
 have h2 := @alls_2 ks
 have h3 := @alls_3 ks
 have h4 := @alls_n ks p.num
 have h5 := @exprs_1 ks
 have g2 := @kd_len ks 2
 have g4 := @kd_len ks 4
 simp only [shapeEnd, bare, blkOf, isMany, s1, h0, decide_true, decide_false]
 rw [Bool.eq_iff_iff]
 simp only [Bae, Boe, Dte, Bool.not_eq_true', Bff, Dfn, Bool.true_or, Bool.false_or, if_true, if_false, Bft]
 grind
theorem ne_13 {p : LNode} {ks : List Int} (hr : (p.refs.length : Int) ≤ 9223372036854775807) (hk : p.kind = 13) : NodeEq p ks := by
 have s1 : isStat p.kind = true := by simp [isStat, hk]
 unfold NodeEq
 simp only [s1, if_true, if_false, Bft]
 unfold shapeOk shapeMid stmt3
 simp only [hk, Int.reduceEq, or_false, false_or, or_true, true_or, or_self, if_true, if_false, decide_true, decide_false, Bool.false_and, Bool.true_and]
 have h0 := @alls_0 ks
 have h1 := @alls_1 ks
 have h2 := @alls_2 ks
 have h3 := @alls_3 ks
 have h4 := @alls_n ks p.num
 have h5 := @exprs_1 ks
 have g2 := @kd_len ks 2
 have g4 := @kd_len ks 4
 simp only [shapeEnd, bare, blkOf, isMany, s1, h0, decide_true, decide_false]
 rw [Bool.eq_iff_iff]
 simp only [Bae, Boe, Dte, Bool.not_eq_true', Bff, Dfn, Bool.true_or, Bool.false_or, if_true, if_false, Bft]
 grind
theorem ne_14 {p : LNode} {ks : List Int} (hr : (p.refs.length : Int) ≤ 9223372036854775807) (hk : p.kind = 14) : NodeEq p ks := by
 have s1 : isStat p.kind = true := by simp [isStat, hk]
 unfold NodeEq
 simp only [s1, if_true, if_false, Bft]
 unfold shapeOk shapeMid stmt3
 simp only [hk, Int.reduceEq, or_false, false_or, or_true, true_or, or_self, if_true, if_false, decide_true, decide_false, Bool.false_and, Bool.true_and]
 have h0 := @alls_0 ks
 have h1 := @alls_1 ks
 have h2 := @alls_2 ks
 have h3 := @alls_3 ks
 have h4 := @alls_n ks p.num
 have h5 := @exprs_1 ks
 have g2 := @kd_len ks 2
 have g4 := @kd_len ks 4
 simp only [shapeEnd, bare, blkOf, isMany, s1, h0, decide_true, decide_false]
 rw [Bool.eq_iff_iff]
 simp only [Bae, Boe, Dte, Bool.not_eq_true', Bff, Dfn, Bool.true_or, Bool.false_or, if_true, if_false, Bft]
 grind
theorem ne_20 {p : LNode} {ks : List Int} (hr : (p.refs.length : Int) ≤ 9223372036854775807) (hk : p.kind = 20) : NodeEq p ks := by
 have s1 : isStat p.kind = false := by simp [isStat, hk]
 unfold NodeEq
 simp only [s1, if_true, if_false, Bft]
 unfold shapeOk shapeMid expr3
 simp only [hk, Int.reduceEq, or_false, false_or, or_true, true_or, or_self, if_true, if_false, decide_true, decide_false, Bool.false_and, Bool.true_and]
 have h0 := @alls_0 ks
 have h1 := @alls_1 ks
 have h2 := @alls_2 ks
 have h3 := @alls_3 ks
 have h4 := @alls_n ks p.num
 have h5 := @exprs_1 ks
 have g2 := @kd_len ks 2
 have g4 := @kd_len ks 4
 simp only [shapeEnd, bare, blkOf, isMany, s1, h0, decide_true, decide_false]
 rw [Bool.eq_iff_iff]
 simp only [Bae, Boe, Dte, Bool.not_eq_true', Bff, Dfn, Bool.true_or, Bool.false_or, if_true, if_false, Bft]
 grind
theorem ne_21 {p : LNode} {ks : List Int} (hr : (p.refs.length : Int) ≤ 9223372036854775807) (hk : p.kind = 21) : NodeEq p ks := by
 have s1 : isStat p.kind = false := by simp [isStat, hk]
 unfold NodeEq
 simp only [s1, if_true, if_false, Bft]
 unfold shapeOk shapeMid expr3
 simp only [hk, Int.reduceEq, or_false, false_or, or_true, true_or, or_self, if_true, if_false, decide_true, decide_false, Bool.false_and, Bool.true_and]
 have h0 := @alls_0 ks
 have h1 := @alls_1 ks
 have h2 := @alls_2 ks
 have h3 := @alls_3 ks
 have h4 := @alls_n ks p.num
 have h5 := @exprs_1 ks
 have g2 := @kd_len ks 2
 have g4 := @kd_len ks 4
 simp only [shapeEnd, bare, blkOf, isMany, s1, h0, decide_true, decide_false]
 rw [Bool.eq_iff_iff]
 simp only [Bae, Boe, Dte, Bool.not_eq_true', Bff, Dfn, Bool.true_or, Bool.false_or, if_true, if_false, Bft]
 grind
theorem ne_22 {p : LNode} {ks : List Int} (hr : (p.refs.length : Int) ≤ 9223372036854775807) (hk : p.kind = 22) : NodeEq p ks := by
 have s1 : isStat p.kind = false := by simp [isStat, hk]
 unfold NodeEq
 simp only [s1, if_true, if_false, Bft]
 unfold shapeOk shapeMid expr3
 simp only [hk, Int.reduceEq, or_false, false_or, or_true, true_or, or_self, if_true, if_false, decide_true, decide_false, Bool.false_and, Bool.true_and]
 have h0 := @alls_0 ks
 have h1 := @alls_1 ks
 have h2 := @alls_2 ks
 have h3 := @alls_3 ks
 have h4 := @alls_n ks p.num
 have h5 := @exprs_1 ks
 have g2 := @kd_len ks 2
 have g4 := @kd_len ks 4
 simp only [shapeEnd, bare, blkOf, isMany, s1, h0, decide_true, decide_false]
 rw [Bool.eq_iff_iff]
 simp only [Bae, Boe, Dte, Bool.not_eq_true', Bff, Dfn, Bool.true_or, Bool.false_or, if_true, if_false, Bft]
 grind
theorem ne_23 {p : LNode} {ks : List Int} (hr : (p.refs.length : Int) ≤ 9223372036854775807) (hk : p.kind = 23) : NodeEq p ks := by
 have s1 : isStat p.kind = false := by simp [isStat, hk]
 unfold NodeEq
 simp only [s1, if_true, if_false, Bft]
 unfold shapeOk shapeMid expr3
 simp only [hk, Int.reduceEq, or_false, false_or, or_true, true_or, or_self, if_true, if_false, decide_true, decide_false, Bool.false_and, Bool.true_and]
 have h0 := @alls_0 ks
 have h1 := @alls_1 ks
 have h2 := @alls_2 ks
 have h3 := @alls_3 ks
 have h4 := @alls_n ks p.num
 have h5 := @exprs_1 ks
 have g2 := @kd_len ks 2
 have g4 := @kd_len ks 4
 simp only [shapeEnd, bare, blkOf, isMany, s1, h0, decide_true, decide_false]
 rw [Bool.eq_iff_iff]
 simp only [Bae, Boe, Dte, Bool.not_eq_true', Bff, Dfn, Bool.true_or, Bool.false_or, if_true, if_false, Bft]
 grind
theorem ne_24 {p : LNode} {ks : List Int} (hr : (p.refs.length : Int) ≤ 9223372036854775807) (hk : p.kind = 24) : NodeEq p ks := by
 have s1 : isStat p.kind = false := by simp [isStat, hk]
 unfold NodeEq
 simp only [s1, if_true, if_false, Bft]
 unfold shapeOk shapeMid expr3
 simp only [hk, Int.reduceEq, or_false, false_or, or_true, true_or, or_self, if_true, if_false, decide_true, decide_false, Bool.false_and, Bool.true_and]
 have h0 := @alls_0 ks
 have h1 := @alls_1 ks
 have h2 := @alls_2 ks
 have h3 := @alls_3 ks
 have h4 := @alls_n ks p.num
 have h5 := @exprs_1 ks
 have g2 := @kd_len ks 2
 have g4 := @kd_len ks 4
 simp only [shapeEnd, bare, blkOf, isMany, s1, h0, decide_true, decide_false]
 rw [Bool.eq_iff_iff]
 simp only [Bae, Boe, Dte, Bool.not_eq_true', Bff, Dfn, Bool.true_or, Bool.false_or, if_true, if_false, Bft]
 grind
theorem ne_25 {p : LNode} {ks : List Int} (hr : (p.refs.length : Int) ≤ 9223372036854775807) (hk : p.kind = 25) : NodeEq p ks := by
 have s1 : isStat p.kind = false := by simp [isStat, hk]
 unfold NodeEq
 simp only [s1, if_true, if_false, Bft]
 unfold shapeOk shapeMid expr3
 simp only [hk, Int.reduceEq, or_false, false_or, or_true, true_or, or_self, if_true, if_false, decide_true, decide_false, Bool.false_and, Bool.true_and]
 have h0 := @alls_0 ks
 have h1 := @alls_1 ks
 have h2 := @alls_2 ks
 have h3 := @alls_3 ks
 have h4 := @alls_n ks p.num
 have h5 := @exprs_1 ks
 have g2 := @kd_len ks 2
 have g4 := @kd_len ks 4
 simp only [shapeEnd, bare, blkOf, isMany, s1, h0, decide_true, decide_false]
 rw [Bool.eq_iff_iff]
 simp only [Bae, Boe, Dte, Bool.not_eq_true', Bff, Dfn, Bool.true_or, Bool.false_or, if_true, if_false, Bft]
 grind
theorem ne_26 {p : LNode} {ks : List Int} (hr : (p.refs.length : Int) ≤ 9223372036854775807) (hk : p.kind = 26) : NodeEq p ks := by
 have s1 : isStat p.kind = false := by simp [isStat, hk]
 unfold NodeEq
 simp only [s1, if_true, if_false, Bft]
 unfold shapeOk shapeMid expr3
 simp only [hk, Int.reduceEq, or_false, false_or, or_true, true_or, or_self, if_true, if_false, decide_true, decide_false, Bool.false_and, Bool.true_and]
 have h0 := @alls_0 ks
 have h1 := @alls_1 ks
 have h2 := @alls_2 ks
 have h3 := @alls_3 ks
 have h4 := @alls_n ks p.num
 have h5 := @exprs_1 ks
 have g2 := @kd_len ks 2
 have g4 := @kd_len ks 4
 simp only [shapeEnd, bare, blkOf, isMany, s1, h0, decide_true, decide_false]
 rw [Bool.eq_iff_iff]
 simp only [Bae, Boe, Dte, Bool.not_eq_true', Bff, Dfn, Bool.true_or, Bool.false_or, if_true, if_false, Bft]
 grind
theorem ne_27 {p : LNode} {ks : List Int} (hr : (p.refs.length : Int) ≤ 9223372036854775807) (hk : p.kind = 27) : NodeEq p ks := by
 have s1 : isStat p.kind = false := by simp [isStat, hk]
 unfold NodeEq
 simp only [s1, if_true, if_false, Bft]
 unfold shapeOk shapeMid expr3
 simp only [hk, Int.reduceEq, or_false, false_or, or_true, true_or, or_self, if_true, if_false, decide_true, decide_false, Bool.false_and, Bool.true_and]
 have h0 := @alls_0 ks
 have h1 := @alls_1 ks
 have h2 := @alls_2 ks
 have h3 := @alls_3 ks
 have h4 := @alls_n ks p.num
 have h5 := @exprs_1 ks
 have g2 := @kd_len ks 2
 have g4 := @kd_len ks 4
 simp only [shapeEnd, bare, blkOf, isMany, s1, h0, decide_true, decide_false]
 rw [Bool.eq_iff_iff]
 simp only [Bae, Boe, Dte, Bool.not_eq_true', Bff, Dfn, Bool.true_or, Bool.false_or, if_true, if_false, Bft]
 grind
theorem ne_28 {p : LNode} {ks : List Int} (hr : (p.refs.length : Int) ≤ 9223372036854775807) (hk : p.kind = 28) : NodeEq p ks := by
 have s1 : isStat p.kind = false := by simp [isStat, hk]
 unfold NodeEq
 simp only [s1, if_true, if_false, Bft]
 unfold shapeOk shapeMid expr3
 simp only [hk, Int.reduceEq, or_false, false_or, or_true, true_or, or_self, if_true, if_false, decide_true, decide_false, Bool.false_and, Bool.true_and]
 have h0 := @alls_0 ks
 have h1 := @alls_1 ks
 have h2 := @alls_2 ks
 have h3 := @alls_3 ks
 have h4 := @alls_n ks p.num
 have h5 := @exprs_1 ks
 have g2 := @kd_len ks 2
 have g4 := @kd_len ks 4
 simp only [shapeEnd, bare, blkOf, isMany, s1, h0, decide_true, decide_false]
 rw [Bool.eq_iff_iff]
 simp only [Bae, Boe, Dte, Bool.not_eq_true', Bff, Dfn, Bool.true_or, Bool.false_or, if_true, if_false, Bft]
 grind
theorem ne_29 {p : LNode} {ks : List Int} (hr : (p.refs.length : Int) ≤ 9223372036854775807) (hk : p.kind = 29) : NodeEq p ks := by
 have s1 : isStat p.kind = false := by simp [isStat, hk]
 unfold NodeEq
 simp only [s1, if_true, if_false, Bft]
 unfold shapeOk shapeMid expr3
 simp only [hk, Int.reduceEq, or_false, false_or, or_true, true_or, or_self, if_true, if_false, decide_true, decide_false, Bool.false_and, Bool.true_and]
 have h0 := @alls_0 ks
 have h1 := @alls_1 ks
 have h2 := @alls_2 ks
 have h3 := @alls_3 ks
 have h4 := @alls_n ks p.num
 have h5 := @exprs_1 ks
 have g2 := @kd_len ks 2
 have g4 := @kd_len ks 4
 simp only [shapeEnd, bare, blkOf, isMany, s1, h0, decide_true, decide_false]
 rw [Bool.eq_iff_iff]
 simp only [Bae, Boe, Dte, Bool.not_eq_true', Bff, Dfn, Bool.true_or, Bool.false_or, if_true, if_false, Bft]
 grind
theorem ne_30 {p : LNode} {ks : List Int} (hr : (p.refs.length : Int) ≤ 9223372036854775807) (hk : p.kind = 30) : NodeEq p ks := by
 have s1 : isStat p.kind = false := by simp [isStat, hk]
 unfold NodeEq
 simp only [s1, if_true, if_false, Bft]
 unfold shapeOk shapeMid expr3
 simp only [hk, Int.reduceEq, or_false, false_or, or_true, true_or, or_self, if_true, if_false, decide_true, decide_false, Bool.false_and, Bool.true_and]
 have h0 := @alls_0 ks
 have h1 := @alls_1 ks
 have h2 := @alls_2 ks
 have h3 := @alls_3 ks
 have h4 := @alls_n ks p.num
 have h5 := @exprs_1 ks
 have g2 := @kd_len ks 2
 have g4 := @kd_len ks 4
 simp only [shapeEnd, bare, blkOf, isMany, s1, h0, decide_true, decide_false]
 rw [Bool.eq_iff_iff]
 simp only [Bae, Boe, Dte, Bool.not_eq_true', Bff, Dfn, Bool.true_or, Bool.false_or, if_true, if_false, Bft]
 grind
theorem ne_31 {p : LNode} {ks : List Int} (hr : (p.refs.length : Int) ≤ 9223372036854775807) (hk : p.kind = 31) : NodeEq p ks := by
 have s1 : isStat p.kind = false := by simp [isStat, hk]
 unfold NodeEq
 simp only [s1, if_true, if_false, Bft]
 unfold shapeOk shapeMid expr3
 simp only [hk, Int.reduceEq, or_false, false_or, or_true, true_or, or_self, if_true, if_false, decide_true, decide_false, Bool.false_and, Bool.true_and]
 have h0 := @alls_0 ks
 have h1 := @alls_1 ks
 have h2 := @alls_2 ks
 have h3 := @alls_3 ks
 have h4 := @alls_n ks p.num
 have h5 := @exprs_1 ks
 have g2 := @kd_len ks 2
 have g4 := @kd_len ks 4
 simp only [shapeEnd, bare, blkOf, isMany, s1, h0, decide_true, decide_false]
 rw [Bool.eq_iff_iff]
 simp only [Bae, Boe, Dte, Bool.not_eq_true', Bff, Dfn, Bool.true_or, Bool.false_or, if_true, if_false, Bft]
 grind
theorem ne_32 {p : LNode} {ks : List Int} (hr : (p.refs.length : Int) ≤ 9223372036854775807) (hk : p.kind = 32) : NodeEq p ks := by
 have s1 : isStat p.kind = false := by simp [isStat, hk]
 unfold NodeEq
 simp only [s1, if_true, if_false, Bft]
 unfold shapeOk shapeMid expr3
 simp only [hk, Int.reduceEq, or_false, false_or, or_true, true_or, or_self, if_true, if_false, decide_true, decide_false, Bool.false_and, Bool.true_and]
 have h0 := @alls_0 ks
 have h1 := @alls_1 ks
 have h2 := @alls_2 ks
 have h3 := @alls_3 ks
 have h4 := @alls_n ks p.num
 have h5 := @exprs_1 ks
 have g2 := @kd_len ks 2
 have g4 := @kd_len ks 4
 simp only [shapeEnd, bare, blkOf, isMany, s1, h0, decide_true, decide_false]
 rw [Bool.eq_iff_iff]
 simp only [Bae, Boe, Dte, Bool.not_eq_true', Bff, Dfn, Bool.true_or, Bool.false_or, if_true, if_false, Bft]
 grind
theorem ne_33 {p : LNode} {ks : List Int} (hr : (p.refs.length : Int) ≤ 9223372036854775807) (hk : p.kind = 33) : NodeEq p ks := by
 have s1 : isStat p.kind = false := by simp [isStat, hk]
 unfold NodeEq
 simp only [s1, if_true, if_false, Bft]
 unfold shapeOk shapeMid expr3
 simp only [hk, Int.reduceEq, or_false, false_or, or_true, true_or, or_self, if_true, if_false, decide_true, decide_false, Bool.false_and, Bool.true_and]
 have h0 := @alls_0 ks
 have h1 := @alls_1 ks
 have h2 := @alls_2 ks
 have h3 := @alls_3 ks
 have h4 := @alls_n ks p.num
 have h5 := @exprs_1 ks
 have g2 := @kd_len ks 2
 have g4 := @kd_len ks 4
 simp only [shapeEnd, bare, blkOf, isMany, s1, h0, decide_true, decide_false]
 rw [Bool.eq_iff_iff]
 simp only [Bae, Boe, Dte, Bool.not_eq_true', Bff, Dfn, Bool.true_or, Bool.false_or, if_true, if_false, Bft]
 grind
theorem ne_34 {p : LNode} {ks : List Int} (hr : (p.refs.length : Int) ≤ 9223372036854775807) (hk : p.kind = 34) : NodeEq p ks := by
 have s1 : isStat p.kind = false := by simp [isStat, hk]
 unfold NodeEq
 simp only [s1, if_true, if_false, Bft]
 unfold shapeOk shapeMid expr3
 simp only [hk, Int.reduceEq, or_false, false_or, or_true, true_or, or_self, if_true, if_false, decide_true, decide_false, Bool.false_and, Bool.true_and]
 have h0 := @alls_0 ks
 have h1 := @alls_1 ks
 have h2 := @alls_2 ks
 have h3 := @alls_3 ks
 have h4 := @alls_n ks p.num
 have h5 := @exprs_1 ks
 have g2 := @kd_len ks 2
 have g4 := @kd_len ks 4
 simp only [shapeEnd, bare, blkOf, isMany, s1, h0, decide_true, decide_false]
 rw [Bool.eq_iff_iff]
 simp only [Bae, Boe, Dte, Bool.not_eq_true', Bff, Dfn, Bool.true_or, Bool.false_or, if_true, if_false, Bft]
 grind
theorem ne_35 {p : LNode} {ks : List Int} (hr : (p.refs.length : Int) ≤ 9223372036854775807) (hk : p.kind = 35) : NodeEq p ks := by
 have s1 : isStat p.kind = false := by simp [isStat, hk]
 unfold NodeEq
 simp only [s1, if_true, if_false, Bft]
 unfold shapeOk shapeMid expr3
 simp only [hk, Int.reduceEq, or_false, false_or, or_true, true_or, or_self, if_true, if_false, decide_true, decide_false, Bool.false_and, Bool.true_and]
 have h0 := @alls_0 ks
 have h1 := @alls_1 ks
 have h2 := @alls_2 ks
 have h3 := @alls_3 ks
 have h4 := @alls_n ks p.num
 have h5 := @exprs_1 ks
 have g2 := @kd_len ks 2
 have g4 := @kd_len ks 4
 simp only [shapeEnd, bare, blkOf, isMany, s1, h0, decide_true, decide_false]
 rw [Bool.eq_iff_iff]
 simp only [Bae, Boe, Dte, Bool.not_eq_true', Bff, Dfn, Bool.true_or, Bool.false_or, if_true, if_false, Bft]
 grind
theorem ne_36 {p : LNode} {ks : List Int} (hr : (p.refs.length : Int) ≤ 9223372036854775807) (hk : p.kind = 36) : NodeEq p ks := by
 have s1 : isStat p.kind = false := by simp [isStat, hk]
 unfold NodeEq
 simp only [s1, if_true, if_false, Bft]
 unfold shapeOk shapeMid expr3
 simp only [hk, Int.reduceEq, or_false, false_or, or_true, true_or, or_self, if_true, if_false, decide_true, decide_false, Bool.false_and, Bool.true_and]
 have h0 := @alls_0 ks
 have h1 := @alls_1 ks
 have h2 := @alls_2 ks
 have h3 := @alls_3 ks
 have h4 := @alls_n ks p.num
 have h5 := @exprs_1 ks
 have g2 := @kd_len ks 2
 have g4 := @kd_len ks 4
 simp only [shapeEnd, bare, blkOf, isMany, s1, h0, decide_true, decide_false]
 rw [Bool.eq_iff_iff]
 simp only [Bae, Boe, Dte, Bool.not_eq_true', Bff, Dfn, Bool.true_or, Bool.false_or, if_true, if_false, Bft]
 grind
theorem ne_37 {p : LNode} {ks : List Int} (hr : (p.refs.length : Int) ≤ 9223372036854775807) (hk : p.kind = 37) : NodeEq p ks := by
 have s1 : isStat p.kind = false := by simp [isStat, hk]
 unfold NodeEq
 simp only [s1, if_true, if_false, Bft]
 unfold shapeOk shapeMid expr3
 simp only [hk, Int.reduceEq, or_false, false_or, or_true, true_or, or_self, if_true, if_false, decide_true, decide_false, Bool.false_and, Bool.true_and]
 have h0 := @alls_0 ks
 have h1 := @alls_1 ks
 have h2 := @alls_2 ks
 have h3 := @alls_3 ks
 have h4 := @alls_n ks p.num
 have h5 := @exprs_1 ks
 have g2 := @kd_len ks 2
 have g4 := @kd_len ks 4
 simp only [shapeEnd, bare, blkOf, isMany, s1, h0, decide_true, decide_false]
 rw [Bool.eq_iff_iff]
 simp only [Bae, Boe, Dte, Bool.not_eq_true', Bff, Dfn, Bool.true_or, Bool.false_or, if_true, if_false, Bft]
 grind
theorem ne_38 {p : LNode} {ks : List Int} (hr : (p.refs.length : Int) ≤ 9223372036854775807) (hk : p.kind = 38) : NodeEq p ks := by
 have s1 : isStat p.kind = false := by simp [isStat, hk]
 unfold NodeEq
 simp only [s1, if_true, if_false, Bft]
 unfold shapeOk shapeMid expr3
 simp only [hk, Int.reduceEq, or_false, false_or, or_true, true_or, or_self, if_true, if_false, decide_true, decide_false, Bool.false_and, Bool.true_and]
 have h0 := @alls_0 ks
 have h1 := @alls_1 ks
 have h2 := @alls_2 ks
 have h3 := @alls_3 ks
 have h4 := @alls_n ks p.num
 have h5 := @exprs_1 ks
 have g2 := @kd_len ks 2
 have g4 := @kd_len ks 4
 simp only [shapeEnd, bare, blkOf, isMany, s1, h0, decide_true, decide_false]
 rw [Bool.eq_iff_iff]
 simp only [Bae, Boe, Dte, Bool.not_eq_true', Bff, Dfn, Bool.true_or, Bool.false_or, if_true, if_false, Bft]
 grind
theorem ne_none {p : LNode} {ks : List Int} (hk : ¬ (1 ≤ p.kind ∧ p.kind ≤ 14)) (hk2 : ¬ (20 ≤ p.kind ∧ p.kind ≤ 38)) : NodeEq p ks := by
 have s1 : isStat p.kind = false := by unfold isStat; rw [Bff]; simp; omega
 unfold NodeEq shapeOk shapeMid expr3
 simp only [s1, Bft, if_false]
 rw [if_neg (by omega : ¬ p.kind = 1)]; rw [if_neg (by omega : ¬ p.kind = 2)]; rw [if_neg (by omega : ¬ p.kind = 3)]; rw [if_neg (by omega : ¬ p.kind = 4)]; rw [if_neg (by omega : ¬ p.kind = 5)]; rw [if_neg (by omega : ¬ p.kind = 6)]; rw [if_neg (by omega : ¬ p.kind = 7)]; rw [if_neg (by omega : ¬ p.kind = 8)]; rw [if_neg (by omega : ¬ p.kind = 9)]; rw [if_neg (by omega : ¬ p.kind = 10)]; rw [if_neg (by omega : ¬ p.kind = 11)]; rw [if_neg (by omega : ¬ p.kind = 12)]; rw [if_neg (by omega : ¬ p.kind = 13)]; rw [if_neg (by omega : ¬ p.kind = 14)]; rw [if_neg (by omega : ¬ p.kind = 20)]; rw [if_neg (by omega : ¬ p.kind = 21)]; rw [if_neg (by omega : ¬ p.kind = 22)]; rw [if_neg (by omega : ¬ p.kind = 23)]; rw [if_neg (by omega : ¬ p.kind = 24)]; rw [if_neg (by omega : ¬ p.kind = 25)]; rw [if_neg (by omega : ¬ p.kind = 26)]; rw [if_neg (by omega : ¬ p.kind = 27)]; rw [if_neg (by omega : ¬ p.kind = 28)]; rw [if_neg (by omega : ¬ p.kind = 29)]; rw [if_neg (by omega : ¬ p.kind = 30)]; rw [if_neg (by omega : ¬ p.kind = 31)]; rw [if_neg (by omega : ¬ p.kind = 32)]; rw [if_neg (by omega : ¬ p.kind = 33)]; rw [if_neg (by omega : ¬ p.kind = 34)]; rw [if_neg (by omega : ¬ p.kind = 35)]; rw [if_neg (by omega : ¬ p.kind = 36)]; rw [if_neg (by omega : ¬ p.kind = 37)]; rw [if_neg (by omega : ¬ p.kind = 38)]
 repeat rw [if_neg (by omega)]
 simp [shapeEnd]
theorem nodeEq (p : LNode) (ks : List Int) (hr : (p.refs.length : Int) ≤ 9223372036854775807) : NodeEq p ks := by
 by_cases h1 : p.kind = 1
 ·exact ne_1 hr h1
 by_cases h2 : p.kind = 2
 ·exact ne_2 hr h2
 by_cases h3 : p.kind = 3
 ·exact ne_3 hr h3
 by_cases h4 : p.kind = 4
 ·exact ne_4 hr h4
 by_cases h5 : p.kind = 5
 ·exact ne_5 hr h5
 by_cases h6 : p.kind = 6
 ·exact ne_6 hr h6
 by_cases h7 : p.kind = 7
 ·exact ne_7 hr h7
 by_cases h8 : p.kind = 8
 ·exact ne_8 hr h8
 by_cases h9 : p.kind = 9
 ·exact ne_9 hr h9
 by_cases h10 : p.kind = 10
 ·exact ne_10 hr h10
 by_cases h11 : p.kind = 11
 ·exact ne_11 hr h11
 by_cases h12 : p.kind = 12
 ·exact ne_12 hr h12
 by_cases h13 : p.kind = 13
 ·exact ne_13 hr h13
 by_cases h14 : p.kind = 14
 ·exact ne_14 hr h14
 by_cases h20 : p.kind = 20
 ·exact ne_20 hr h20
 by_cases h21 : p.kind = 21
 ·exact ne_21 hr h21
 by_cases h22 : p.kind = 22
 ·exact ne_22 hr h22
 by_cases h23 : p.kind = 23
 ·exact ne_23 hr h23
 by_cases h24 : p.kind = 24
 ·exact ne_24 hr h24
 by_cases h25 : p.kind = 25
 ·exact ne_25 hr h25
 by_cases h26 : p.kind = 26
 ·exact ne_26 hr h26
 by_cases h27 : p.kind = 27
 ·exact ne_27 hr h27
 by_cases h28 : p.kind = 28
 ·exact ne_28 hr h28
 by_cases h29 : p.kind = 29
 ·exact ne_29 hr h29
 by_cases h30 : p.kind = 30
 ·exact ne_30 hr h30
 by_cases h31 : p.kind = 31
 ·exact ne_31 hr h31
 by_cases h32 : p.kind = 32
 ·exact ne_32 hr h32
 by_cases h33 : p.kind = 33
 ·exact ne_33 hr h33
 by_cases h34 : p.kind = 34
 ·exact ne_34 hr h34
 by_cases h35 : p.kind = 35
 ·exact ne_35 hr h35
 by_cases h36 : p.kind = 36
 ·exact ne_36 hr h36
 by_cases h37 : p.kind = 37
 ·exact ne_37 hr h37
 by_cases h38 : p.kind = 38
 ·exact ne_38 hr h38
 exact ne_none (by omega) (by omega)
theorem shape3_eq (l : List LNode) (p : LNode) (n : Int) (hr : (p.refs.length : Int) ≤ 9223372036854775807) : shape3 l p n = (kidsIn p n && shapeOk p (kinds l p n)) := by
 have := nodeEq p (kinds l p n) hr
 unfold NodeEq at this
 rw [← this, kinds_len]
 unfold shape3
 cases kidsIn p n <;> simp [Bool.and_assoc]
end Go.Asm.UnitF
namespace Go.Asm.UnitF
open Go Go.Asm
def name3 (s : ByteArray) (least : Int) : Bool := decide (least ≤ (s.size : Int)) && decide ((s.size : Int) ≤ 40)
/-- A function's head: what code 2 asks. -/
def head3 (x : LFn) (f : Int) : Bool :=
 !(decide ((x.nodes.length : Int) = 0) || decide (200 < (x.vars.length : Int)) || decide (200 < (x.ups.length : Int)) || decide (x.params < 0) || decide ((x.vars.length : Int) < x.params)) &&
  !(decide (x.line < 0) || decide (100000 < x.line) || !name3 x.name 0 || (decide (f = 0) && (decide (0 < x.params) || decide (0 < (x.ups.length : Int))))) &&
  x.vars.all fun v => name3 v 1
/-- The place of a number in a list, -1 if it is not there. -/
def place3 (ks : List Int) (a : Int) : Int := match ks.findIdx? (fun x => decide (x = a)) with
 | some i => (i : Int)
 | none => -1
def isDecl (k : Int) : Bool := decide (k = 2) || decide (k = 7) || decide (k = 8) || decide (k = 12)
def declares3 (p : LNode) (v : Int) : Bool := isDecl p.kind && decide (v ∈ p.refs)
section
variable {D : Ctx}
theorem l3name (H : Door D) (s : ByteArray) (least : Int) (σ : Store) : D.call 41 [.str s, .int .i64 least] σ = some (.bool (name3 s least), σ) := by
 rw [H.f41]
 unfold sh_q31 name3
 simp only [lenV_str, Obs, bin_geq, bin_leq, aCase_bool, jn_eq]
 by_cases h : least ≤ (s.size : Int) <;> simp [h]
theorem l3name_v (H : Door D) (s : ByteArray) (least : Int) (σ : Store) : callV D 41 [.str s, .int .i64 least] σ = some (.bool (name3 s least)) := callV_eq (by simp [depth]) (l3name H s least Store.empty) rfl
theorem head_loop (H : Door D) {vs : List ByteArray} (hn : vs.length ≤ 1048576) (k : Cur 0) (σ : Store) : ∀ i, i ≤ vs.length →
  lpFix 1 (lp_q18_1 D (.int .i64 vs.length) (encS vs) k) (.int .i64 i) σ = if (vs.drop i).all (fun v => name3 v 1) = true then k σ else some (.bool false, σ) := by
 intro i hi
 have := lp_upE (lp_q18_1_mono D (.int .i64 vs.length) (encS vs) k) vs.length (fun i σ => if (vs.drop i).all (fun v => name3 v 1) = true then k σ else some (.bool false, σ)) ?_ ?_ i hi σ
 ·exact this
 ·intro R σ
  unfold lp_q18_1
  simp only [bin_lss, Obs, aCase_bool]
  rw [if_neg (by simp)]
  simp
 ·intro i hi R σ hR
  have hse : vs[i]? = some vs[i] := Lge hi
  have hd : ((vs.drop i).all fun v => name3 v 1) = (name3 vs[i] 1 && (vs.drop (i + 1)).all fun v => name3 v 1) := by rw [List.drop_eq_getElem_cons hi, List.all_cons]
  generalize ((vs.drop (i + 1)).all fun v => name3 v 1) = B at hd hR
  generalize ((vs.drop i).all fun v => name3 v 1) = A at hd ⊢
  subst hd
  unfold lp_q18_1
  simp only [bin_lss, Obs, aCase_bool, jn_eq, idx_encS hse, rd1_p, Lgz, l3name_v H, un_not, bin_add (a := i) (b := 1) (by omega) (by omega), hR]
  rw [if_pos (by rw [Dte]; omega)]
  cases name3 vs[i] 1 <;> simp
theorem l3head (H : Door D) {u : List LFn} {x : LFn} {f : Nat} (hx : u[f]? = some x) (hn : x.vars.length ≤ 1048576) (σ : Store) : D.call 23 [.agg [encFns u], .int .i64 f] σ = some (.bool (head3 x f), σ) := by
 have ha : asplit 7 (.agg (encFn x)) = some (encFn x) := rfl
 rw [H.f23]
 unfold sh_q18 head3
 simp only [cells_agg, rd1_p, Lgz, Obs, idx_encFns hx, rdN_Fn, ha, fn_at0, fn_at1, fn_at2, fn_at4, fn_at5, fn_at6, len_encNodes, len_encS, len_encUps, bin_eql, bin_gtr, bin_lss, aCase_bool, jn_eq, l3name_v H, un_not]
 have hl : ∀ k σ, lpFix 1 (lp_q18_1 D (.int .i64 x.vars.length) (encS x.vars) k) (.int .i64 0) σ = if (x.vars.all fun v => name3 v 1) = true then k σ else some (.bool false, σ) := fun k σ => by
  have := head_loop H hn k σ 0 (by omega)
  rwa [List.drop_zero] at this
 simp only [hl]
 generalize (x.vars.all fun v => name3 v 1) = A
 generalize name3 x.name 0 = B
 generalize decide ((x.nodes.length : Int) = 0) = c1
 generalize decide (200 < (x.vars.length : Int)) = c2
 generalize decide (200 < (x.ups.length : Int)) = c3
 generalize decide (x.params < 0) = c4
 generalize decide ((x.vars.length : Int) < x.params) = c5
 generalize decide (x.line < 0) = c6
 generalize decide (100000 < x.line) = c7
 generalize decide ((f : Int) = 0) = c8
 generalize decide (0 < x.params) = c9
 generalize decide (0 < (x.ups.length : Int)) = c10
 cases c1 <;> simp
 cases c2 <;> simp
 cases c3 <;> simp
 cases c4 <;> simp
 cases c5 <;> simp
 cases c6 <;> simp
 cases c7 <;> simp
 cases B <;> cases A <;> cases c8 <;> cases c9 <;> cases c10 <;> simp
theorem place_loop {ks : List Int} (hn : ks.length ≤ 1048576) (a : Int) (k : Cur 0) (σ : Store) : ∀ i, i ≤ ks.length →
  lpFix 1 (lp_q48_1 D (.int .i64 ks.length) (encI ks) (.int .i64 a) k) (.int .i64 i) σ = match (ks.drop i).findIdx? (fun x => decide (x = a)) with
   | some j => some (.int .i64 ((i + j : Nat) : Int), σ)
   | none => k σ := by
 intro i hi
 have := lp_upE (lp_q48_1_mono D (.int .i64 ks.length) (encI ks) (.int .i64 a) k) ks.length (fun i σ => match (ks.drop i).findIdx? (fun x => decide (x = a)) with
   | some j => some (.int .i64 ((i + j : Nat) : Int), σ)
   | none => k σ) ?_ ?_ i hi σ
 ·exact this
 ·intro R σ
  unfold lp_q48_1
  simp only [bin_lss, Obs, aCase_bool]
  rw [if_neg (by simp)]
  simp
 ·intro i hi R σ hR
  have hse : ks[i]? = some ks[i] := Lge hi
  unfold lp_q48_1
  simp only [bin_lss, bin_eql, Obs, aCase_bool, jn_eq, idx_encI hse, rd1_p, Lgz, bin_add (a := i) (b := 1) (by omega) (by omega), hR]
  rw [if_pos (by rw [Dte]; omega), List.drop_eq_getElem_cons hi, List.findIdx?_cons]
  by_cases hc : ks[i] = a
  ·simp [hc]
  ·simp only [hc, decide_false, Bft, if_false]
   cases (ks.drop (i + 1)).findIdx? (fun x => decide (x = a)) with
   | none => rfl
   | some j => simp only [Option.map_some]; congr 4; omega
theorem l3place (H : Door D) {ks : List Int} (hn : ks.length ≤ 1048576) (a : Int) (σ : Store) : D.call 58 [encI ks, .int .i64 a] σ = some (.int .i64 (place3 ks a), σ) := by
 rw [H.f58]
 unfold sh_q48 place3
 simp only [len_encI, Obs, jn_eq]
 refine (place_loop hn a _ σ 0 (by omega)).trans ?_
 rw [List.drop_zero]
 cases ks.findIdx? (fun x => decide (x = a)) <;> simp
theorem l3place_v (H : Door D) {ks : List Int} (hn : ks.length ≤ 1048576) (a : Int) (σ : Store) : callV D 58 [encI ks, .int .i64 a] σ = some (.int .i64 (place3 ks a)) := callV_eq (by simp [depth]) (l3place H hn a Store.empty) rfl
theorem place3_mem (ks : List Int) (a : Int) : decide (0 ≤ place3 ks a) = decide (a ∈ ks) := by
 unfold place3
 cases h : ks.findIdx? (fun x => decide (x = a)) with
 | none =>
  have : a ∉ ks := fun hm => by simpa using List.findIdx?_eq_none_iff.1 h a hm
  simp [this]
 | some i =>
  have := List.of_findIdx?_eq_some h
  have hm : a ∈ ks := by
   cases hg : ks[i]? with
   | none => simp [hg] at this
   | some x =>
    simp [hg] at this
    exact this ▸ Lmg hg
  simp [hm]
theorem l3declares (H : Door D) {p : LNode} (hn : p.refs.length ≤ 1048576) (v : Int) (σ : Store) : D.call 59 [.agg (encNode p), .int .i64 v] σ = some (.bool (declares3 p v), σ) := by
 rw [H.f59]
 unfold sh_q49 declares3 isDecl
 simp only [cells_agg, rd1_p, node_at0, node_at6, Obs, bin_neq, bin_geq, aCase_bool, jn_eq, l3place_v H hn, place3_mem]
 by_cases h1 : p.kind = 2
 ·simp [h1]
 by_cases h2 : p.kind = 7
 ·simp [h2]
 by_cases h3 : p.kind = 8
 ·simp [h3]
 by_cases h4 : p.kind = 12
 ·simp [h4]
 simp [h1, h2, h3, h4]
theorem declares_ (H : Door D) (k : Int) (σ : Store) : D.call 19 [.int .i64 k] σ = some (.bool (isDecl k), σ) := by
 rw [H.f19]
 unfold sh_q14 isDecl
 simp only [bin_eql, Obs, aCase_bool, jn_eq]
 by_cases h1 : k = 2
 ·simp [h1]
 by_cases h2 : k = 7
 ·simp [h2]
 by_cases h3 : k = 8
 ·simp [h3]
 simp [h1, h2, h3]
theorem l3fault (H : Door D) (a b c : Int) (σ : Store) : D.call 22 [.int .i64 a, .int .i64 b, .int .i64 c] σ = some (.agg [.int .i64 a, .int .i64 b, .int .i64 c], σ) := by
 rw [H.f22]
 rfl
end
end Go.Asm.UnitF
namespace Go.Asm.UnitF
open Go Go.Asm
/-- The first of c places from i on at which g finds something. -/
def scan {α : Type} (g : Nat → Option α) : Nat → Nat → Option α
 | 0, _ => none
 | c + 1, i => match g i with
  | some v => some v
  | none => scan g c (i + 1)
/-- A loop that looks for the first finding. -/
theorem lp_scan {F : Cur 2 → Cur 2} (hF : Mono F) (n : Nat) (W : AV) (g : Nat → Option AV) (k : Store → Res)
  (hend : ∀ R σ, F R (.int .i64 n) W σ = k σ)
  (hstep : ∀ i, i < n → ∀ R σ, F R (.int .i64 i) W σ = match g i with
   | some v => some (v, σ)
   | none => R (.int .i64 ((i : Int) + 1)) W σ) (σ : Store) :
  lpFix 2 F (.int .i64 0) W σ = match scan g n 0 with
   | some v => some (v, σ)
   | none => k σ := by
 have key : ∀ c i σ, c = n - i → i ≤ n → lpFix 2 F (.int .i64 i) W σ = match scan g c i with
   | some v => some (v, σ)
   | none => k σ := by
  intro c
  induction c with
  | zero =>
   intro i σ hc hi
   obtain rfl : i = n := by omega
   rw [lpFix_eq hF, hend]
   rfl
  | succ c ih =>
   intro i σ hc hi
   rw [lpFix_eq hF, hstep i (by omega), scan]
   cases g i with
   | some v => rfl
   | none => exact ih (i + 1) σ (by omega) (by omega)
 exact key n 0 σ (by omega) (by omega)
/-- A fault. -/
def encFault (c f n : Int) : AV := .agg [.int .i64 c, .int .i64 f, .int .i64 n]
def total3 (u : List LFn) : Int := u.foldl (fun a x => a + x.nodes.length) 0
def bad1 (u : List LFn) : Bool := decide ((u.length : Int) = 0) || decide (300 < (u.length : Int)) || decide (3000 < total3 u)
def scanF (u : List LFn) (g : Nat → LFn → Option AV) : Option AV := scan (fun f => (u[f]?).bind (g f)) u.length 0
def bad2 (u : List LFn) : Option AV := scanF u fun f x => if head3 x f = true then none else some (encFault 2 f 0)
def bad3in (x : LFn) (f : Nat) : Option AV := scan (fun n => (x.nodes[n]?).bind fun p => if shape3 x.nodes p n = true then none else some (encFault 3 f n)) x.nodes.length 0
def bad3 (u : List LFn) : Option AV := scanF u fun f x => bad3in x f
/-- What l3first finds: the codes 1 to 3. -/
def first3 (u : List LFn) : AV := if bad1 u = true then encFault 1 0 0 else (bad2 u).getD ((bad3 u).getD (encFault 0 0 0))
section
variable {D : Ctx}
theorem total_loop (u : List LFn) (hu : SmallUnit u) (k : Cur 2) (σ : Store) : ∀ (m i : Nat) (t : Int), m = u.length - i → i ≤ u.length → 0 ≤ t → t ≤ i * 1048576 →
  lpFix 3 (lp_q8_1 D (.int .i64 u.length) (encFns u) k) (.int .i64 t) (.int .i64 i) (encFault 0 0 0) σ = k (.int .i64 ((u.drop i).foldl (fun a x => a + x.nodes.length) t)) (encFault 0 0 0) σ := by
 have hul := hu.len
 intro m
 induction m with
 | zero =>
  intro i t hm hi h0 h1
  rw [lpFix_eq (lp_q8_1_mono _ _ _ _), List.drop_eq_nil_of_le (by omega)]
  unfold lp_q8_1
  simp only [bin_lss, Obs, aCase_bool]
  rw [if_neg (by rw [Dte]; omega)]
  rfl
 | succ m ih =>
  intro i t hm hi h0 h1
  have hil : i < u.length := by omega
  have hse : u[i]? = some u[i] := Lge hil
  have hx := (hu.part _ (List.getElem_mem hil)).nodes
  have ih' := ih (i + 1) (t + u[i].nodes.length) (by omega) (by omega) (by omega) (by omega)
  have ha : asplit 7 (.agg (encFn u[i])) = some (encFn u[i]) := rfl
  rw [lpFix_eq (lp_q8_1_mono _ _ _ _), List.drop_eq_getElem_cons hil, List.foldl_cons]
  generalize lpFix 3 (lp_q8_1 D (.int .i64 u.length) (encFns u) k) = R at ih' ⊢
  have e1 : ((i : Int) + 1) = ((i + 1 : Nat) : Int) := by omega
  have hb : t + (u[i].nodes.length : Int) ≤ 9223372036854775807 := by
   have : (i : Int) * 1048576 ≤ 1048576 * 1048576 := by omega
   omega
  unfold lp_q8_1
  simp only [bin_lss, Obs, aCase_bool, idx_encFns hse, rdN_Fn, ha, rd1_p, fn_at6, len_encNodes, bin_add (a := t) (b := u[i].nodes.length) (by omega) hb, bin_add (a := i) (b := 1) (by omega) (by omega), e1]
  rw [if_pos (by rw [Dte]; omega)]
  exact ih'
theorem head_scan (H : Door D) (u : List LFn) (hu : SmallUnit u) (k : Cur 1) (σ : Store) :
  lpFix 2 (lp_q8_2 D (.int .i64 u.length) (encUnit u) k) (.int .i64 0) (encFault 0 0 0) σ = match bad2 u with
   | some v => some (v, σ)
   | none => k (encFault 0 0 0) σ := by
 refine lp_scan (lp_q8_2_mono _ _ _ _) u.length (encFault 0 0 0) _ (k (encFault 0 0 0)) ?_ ?_ σ
 ·intro R σ
  unfold lp_q8_2
  simp only [bin_lss, Obs, aCase_bool]
  rw [if_neg (by simp)]
  rfl
 ·intro i hi R σ
  have hse : u[i]? = some u[i] := Lge hi
  have hx := hu.part _ (List.getElem_mem hi)
  have hul := hu.len
  have r : rdN 1 (.pptr (AV.cells (encUnit u)) 0) σ = some [encFns u] := rdN_p rfl
  have v : callV D 23 [.agg [encFns u], .int .i64 i] σ = some (.bool (head3 u[i] i)) := callV_eq (by simp [depth, show AV.agg [encFns u] = encUnit u from rfl, view_Unit]) (l3head H hse hx.vars Store.empty) rfl
  have v2 : callV D 22 [.int .i64 2, .int .i64 i, .int .i64 0] σ = some (encFault 2 i 0) := callV_eq (by simp [depth]) (l3fault H 2 i 0 Store.empty) rfl
  have ha : asplit 3 (encFault 2 i 0) = some [.int .i64 2, .int .i64 i, .int .i64 0] := rfl
  unfold lp_q8_2
  simp only [bin_lss, Obs, aCase_bool, r, v, v2, ha, un_not, hse, bin_add (a := i) (b := 1) (by omega) (by omega)]
  rw [if_pos (by rw [Dte]; omega)]
  cases head3 u[i] i <;> rfl
theorem shape_scan1 (H : Door D) (u : List LFn) (hu : SmallUnit u) {f : Nat} {x : LFn} (hf : u[f]? = some x) (k : Cur 1) (σ : Store) :
  lpFix 2 (lp_q8_3 D (.int .i64 x.nodes.length) (encUnit u) (.int .i64 f) k) (.int .i64 0) (encFault 0 0 0) σ = match bad3in x f with
   | some v => some (v, σ)
   | none => k (encFault 0 0 0) σ := by
 refine lp_scan (lp_q8_3_mono _ _ _ _ _) x.nodes.length (encFault 0 0 0) _ (k (encFault 0 0 0)) ?_ ?_ σ
 ·intro R σ
  unfold lp_q8_3
  simp only [bin_lss, Obs, aCase_bool]
  rw [if_neg (by simp)]
  rfl
 ·intro i hi R σ
  have hx := hu.part _ (Lmg hf)
  have hse : x.nodes[i]? = some x.nodes[i] := Lge hi
  have hp := hx.nodes' _ (List.getElem_mem hi)
  have hxl := hx.nodes
  have r : rd1 D.G (.pptr (AV.cells (encUnit u)) 0) σ = some (encFns u) := rfl
  have v : callV D 24 [encNodes x.nodes, .int .i64 i] σ = some (.bool (shape3 x.nodes x.nodes[i] i)) := callV_eq (by simp [depth]) (l3shape H hse hp.kids Store.empty) rfl
  have v2 : callV D 22 [.int .i64 3, .int .i64 f, .int .i64 i] σ = some (encFault 3 f i) := callV_eq (by simp [depth]) (l3fault H 3 f i Store.empty) rfl
  have ha : asplit 3 (encFault 3 f i) = some [.int .i64 3, .int .i64 f, .int .i64 i] := rfl
  unfold lp_q8_3
  simp only [bin_lss, Obs, aCase_bool, r, idx_encFns hf, fadd_p, Nat.zero_add, rd1_p, fn_at6, v, v2, ha, un_not, hse, bin_add (a := i) (b := 1) (by omega) (by omega)]
  rw [if_pos (by rw [Dte]; omega)]
  cases shape3 x.nodes x.nodes[i] i <;> rfl
theorem shape_scan (H : Door D) (u : List LFn) (hu : SmallUnit u) (k : Cur 1) (σ : Store) :
  lpFix 2 (lp_q8_4 D (.int .i64 u.length) (encUnit u) k) (.int .i64 0) (encFault 0 0 0) σ = match bad3 u with
   | some v => some (v, σ)
   | none => k (encFault 0 0 0) σ := by
 refine lp_scan (lp_q8_4_mono _ _ _ _) u.length (encFault 0 0 0) _ (k (encFault 0 0 0)) ?_ ?_ σ
 ·intro R σ
  unfold lp_q8_4
  simp only [bin_lss, Obs, aCase_bool]
  rw [if_neg (by simp)]
  rfl
 ·intro i hi R σ
  have hse : u[i]? = some u[i] := Lge hi
  have hul := hu.len
  have r : rd1 D.G (.pptr (AV.cells (encUnit u)) 0) σ = some (encFns u) := rfl
  unfold lp_q8_4
  simp only [bin_lss, Obs, aCase_bool, r, idx_encFns hse, fadd_p, Nat.zero_add, rd1_p, fn_at6, len_encNodes, jn_eq, hse, bin_add (a := i) (b := 1) (by omega) (by omega)]
  rw [if_pos (by rw [Dte]; omega)]
  exact shape_scan1 H u hu hse _ σ
theorem l3first (H : Door D) (u : List LFn) (hu : SmallUnit u) (σ : Store) : D.call 12 [encUnit u] σ = some (first3 u, σ) := by
 have hul := hu.len
 have r : ∀ σ, rd1 D.G (.pptr (AV.cells (encUnit u)) 0) σ = some (encFns u) := fun _ => rfl
 have v2 : ∀ σ, callV D 22 [.int .i64 1, .int .i64 0, .int .i64 0] σ = some (encFault 1 0 0) := fun σ => callV_eq (by simp [depth]) (l3fault H 1 0 0 Store.empty) rfl
 have ha : asplit 3 (encFault 1 0 0) = some [.int .i64 1, .int .i64 0, .int .i64 0] := rfl
 rw [H.f12]
 unfold sh_q8 first3 bad1
 simp only [r, len_encFns, Obs, jn_eq]
 refine (total_loop u hu _ σ u.length 0 0 (by omega) (by omega) (by omega) (by omega)).trans ?_
 rw [List.drop_zero]
 show _ = some (if (decide ((u.length : Int) = 0) || decide (300 < (u.length : Int)) || decide (3000 < total3 u)) = true then _ else _, σ)
 change Eq ((bin .eql .num (.int .i64 u.length) (.int .i64 0)).bind _) _
 have ht : (u.foldl (fun (a : Int) x => a + x.nodes.length) 0) = total3 u := rfl
 have hW : AV.agg (AV.cells (encFault 0 0 0)) = encFault 0 0 0 := rfl
 simp only [ht, bin_eql, bin_gtr, Obs, aCase_bool, v2, ha, hW, head_scan H u hu, shape_scan H u hu]
 have e1 : AV.agg [.int .i64 1, .int .i64 0, .int .i64 0] = encFault 1 0 0 := rfl
 have e0 : AV.agg [.int .i64 0, .int .i64 0, .int .i64 0] = encFault 0 0 0 := rfl
 rw [e1, e0]
 generalize decide ((u.length : Int) = 0) = c1
 generalize decide (300 < (u.length : Int)) = c2
 generalize decide (3000 < total3 u) = c3
 generalize bad2 u = b2
 generalize bad3 u = b3
 cases c1 <;> cases c2 <;> cases c3 <;> cases b2 <;> cases b3 <;> simp
end
end Go.Asm.UnitF
