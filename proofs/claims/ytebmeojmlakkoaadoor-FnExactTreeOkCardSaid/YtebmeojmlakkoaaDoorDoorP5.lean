import Derived.Test.YtebmeojmlakkoaaDoorDoorP4
set_option linter.all false
namespace Go.Asm.DoorF
open Go Go.Asm
section
variable {D : Ctx} (H : Door D)
def isExpr (k : Int) : Bool := decide (20 ≤ k) && decide (k ≤ 37)
def isStat (k : Int) : Bool := decide (1 ≤ k) && decide (k ≤ 16)
def isTarget (k : Int) : Bool := decide (k = 26) || decide (k = 32) || decide (k = 33)
def flt0 (b : Nat) : Bool := fltOrd b 0 == some .eq
def bare (p : LPart) (op num text names : Bool) : Bool :=
  (op || decide (p.op = 0)) && (num || decide (p.num = 0)) && flt0 p.flt && (text || decide (p.text.toList = [])) && (names || decide (p.names.length = 0))
def named (p : LPart) (least most : Int) : Bool := decide (least ≤ p.names.length) && decide (p.names.length ≤ most) && p.names.all nameOk
/-- The kinds of a part's kids. -/
def kinds (l : List LPart) (p : LPart) : List Int := p.kids.map fun c => ((l[c.toNat]?).map (·.kind)).getD 0
structure KidsOk (l : List LPart) (p : LPart) : Prop where
  lo : ∀ c ∈ p.kids, 0 ≤ c
  hi : ∀ c ∈ p.kids, c.toNat < l.length
theorem if_and (a b : Bool) {α : Type} (x y : α) : (if a = true then (if b = true then x else y) else y) = if (a && b) = true then x else y := by cases a <;> cases b <;> rfl
theorem idx_parts {l : List LPart} {c : Int} {q : LPart} (h0 : 0 ≤ c) (h : l[c.toNat]? = some q) : idx 10 (encParts l) (.int .i64 c) = some (.pptr (encPart q) 0) := by
  have e : c = ((c.toNat : Nat) : Int) := by omega
  rw [e]; exact idx_encParts (by simpa using h)
theorem l6expr (H : Door D) (k : Int) (σ : Store) : D.call 43 [.int .i64 k] σ = some (.bool (isExpr k), σ) := by
  rw [H.f43]
  unfold sh_spec_l6expr jn isExpr
  by_cases h : 20 ≤ k <;> simp [h]
theorem partExpr (H : Door D) (k : Int) (σ : Store) : D.call 24 [.int .i64 k] σ = some (.bool (isExpr k), σ) := by
  rw [H.f24]
  unfold sh_impl_partExpr jn isExpr
  by_cases h : 20 ≤ k <;> simp [h]
theorem l6stat (H : Door D) (k : Int) (σ : Store) : D.call 17 [.int .i64 k] σ = some (.bool (isStat k), σ) := by
  rw [H.f17]
  unfold sh_spec_l6stat jn isStat
  by_cases h : 1 ≤ k <;> simp [h]
theorem partStmt (H : Door D) (k : Int) (σ : Store) : D.call 25 [.int .i64 k] σ = some (.bool (isStat k), σ) := by
  rw [H.f25]
  unfold sh_impl_partStmt jn isStat
  by_cases h : 1 ≤ k <;> simp [h]
theorem l6target (H : Door D) (k : Int) (σ : Store) : D.call 36 [.int .i64 k] σ = some (.bool (isTarget k), σ) := by
  rw [H.f36]
  unfold sh_spec_l6target jn isTarget
  by_cases h : k = 26
  · simp [h]
  · by_cases h2 : k = 32
    · simp [h2]
    · simp [h, h2]
theorem l6bare (H : Door D) (p : LPart) (op num text names : Bool) (σ : Store) : D.call 33 [.agg (encPart p), .bool op, .bool num, .bool text, .bool names] σ = some (.bool (bare p op num text names), σ) := by
  rw [H.f33]
  unfold sh_spec_l6bare jn bare flt0
  have e : bin .eql .num (.flt p.flt) (.flt 0) = some (.bool (fltOrd p.flt 0 == some .eq)) := rfl
  have e2 : bin .eql .num (.str p.text) (.str ⟨#[]⟩) = some (.bool (decide (p.text.toList = []))) := by
    have e0 : (⟨#[]⟩ : ByteArray).toList = [] := by rw [ByteArray.toList_eq]
    rw [bin_seq, e0]
  simp only [encPart, cells_agg, rd1_p, List.getElem?_cons_zero, List.getElem?_cons_succ, Option.bind_some, bin_eql, aCase_bool, e, e2, len_encS]
  cases op <;> cases num <;> cases text <;> cases names <;> by_cases h1 : p.op = 0 <;> by_cases h2 : p.num = 0 <;> cases h3 : (fltOrd p.flt 0 == some .eq) <;> by_cases h4 : p.text.toList = [] <;> simp [h1, h2, h4]
theorem l6kid (H : Door D) (l : List LPart) (p q : LPart) (i : Nat) (c : Int) (h1 : p.kids[i]? = some c) (h2 : 0 ≤ c) (h3 : l[c.toNat]? = some q) (σ : Store) :
    D.call 32 [encTree l, .agg (encPart p), .int .i64 i] σ = some (.int .i64 q.kind, σ) := by
  rw [H.f32]
  unfold sh_spec_l6kid
  have e : c = ((c.toNat : Nat) : Int) := by omega
  have e2 : idx 10 (encParts l) (.int .i64 c) = some (.pptr (encPart q) 0) := by rw [e]; exact idx_encParts (by simpa using h3)
  have e3 : idx 1 (encI p.kids) (.int .i64 i) = some (.pptr [.int .i64 c] 0) := idx_encI h1
  simp only [encTree, cells_agg, rd1_p, List.getElem?_cons_zero, Option.bind_some]
  rw [show (encPart p)[9]? = some (encI p.kids) from rfl]
  simp only [Option.bind_some, e3, rd1_p, List.getElem?_cons_zero, e2, fadd]
  rfl
/-- Names that a part bears are no longer than what came in. -/
theorem l6named_loop (H : Door D) (p : LPart) (hn : p.names.length ≤ 1048576) (hs : ∀ s ∈ p.names, s.size ≤ 1048576) (k : Cur 0) (σ : Store) : ∀ (n i : Nat), n = p.names.length - i → i ≤ p.names.length →
    lpFix 1 (lp_spec_l6named_1 D (.int .i64 p.names.length) (encS p.names) k) (.int .i64 i) σ = if (p.names.drop i).all nameOk then k σ else some (.bool false, σ) := by
  intro n
  induction n with
  | zero =>
    intro i hi h1
    rw [lpFix_eq (lp_spec_l6named_1_mono _ _ _ _)]
    have : ¬ (i < p.names.length) := by omega
    have e : p.names.drop i = [] := List.drop_eq_nil_of_le (by omega)
    simp [lp_spec_l6named_1, this, e]
  | succ n ih =>
    intro i hi h1
    have hil : i < p.names.length := by omega
    have hse : p.names[i]? = some p.names[i] := List.getElem?_eq_getElem hil
    have v1 : callV D 37 [.str p.names[i]] σ = some (.bool (nameOk p.names[i])) := callV_eq (by simp [depth]) (l6nameok H _ (hs _ (List.getElem_mem hil)) Store.empty) rfl
    have ih' := ih (i + 1) (by omega) (by omega)
    rw [lpFix_eq (lp_spec_l6named_1_mono _ _ _ _)]
    generalize lpFix 1 (lp_spec_l6named_1 D (.int .i64 p.names.length) (encS p.names) k) = R at ih' ⊢
    rw [List.drop_eq_getElem_cons hil]
    have e1 : ((i : Int) + 1) = ((i + 1 : Nat) : Int) := by omega
    simp only [lp_spec_l6named_1, bin_lss, Option.bind_some, aCase_bool, idx_encS hse, rd1_p, List.getElem?_cons_zero, v1, un_not, bin_add (a := i) (b := 1) (by omega) (by omega), e1, ih', List.all_cons]
    rw [if_pos (by simpa using hil)]
    by_cases hc : nameOk p.names[i] = true <;> simp [hc]
theorem l6named (H : Door D) (p : LPart) (hn : p.names.length ≤ 1048576) (hs : ∀ s ∈ p.names, s.size ≤ 1048576) (a b : Int) (σ : Store) : D.call 34 [.agg (encPart p), .int .i64 a, .int .i64 b] σ = some (.bool (named p a b), σ) := by
  rw [H.f34]
  unfold sh_spec_l6named jn named
  have e8 : (encPart p)[8]? = some (encS p.names) := rfl
  simp only [cells_agg, rd1_p, e8, Option.bind_some, len_encS, bin_lss, bin_gtr, aCase_bool]
  by_cases h1 : (p.names.length : Int) < a
  · have : ¬ a ≤ p.names.length := by omega
    simp [h1, this]
  · by_cases h2 : b < p.names.length
    · have : ¬ (p.names.length : Int) ≤ b := by omega
      simp [h1, h2, this]
    · have t1 : a ≤ p.names.length := by omega
      have t2 : (p.names.length : Int) ≤ b := by omega
      simp only [h1, h2, t1, t2, decide_false, decide_true, Bool.false_eq_true, if_false, Bool.true_and]
      have := l6named_loop H p hn hs (fun s_9 => some (.bool true, s_9)) σ p.names.length 0 (by omega) (by omega)
      rw [List.drop_zero] at this
      refine Eq.trans this ?_
      cases p.names.all nameOk <;> simp
theorem l6exprs_loop (H : Door D) (l : List LPart) (p : LPart) (hk : KidsOk l p) (hn : p.kids.length ≤ 1048576) (b : Nat) (hb : b ≤ p.kids.length) (k : Cur 0) (σ : Store) : ∀ (n i : Nat), n = b - i →
    lpFix 1 (lp_spec_l6exprs_1 D (.int .i64 b) (encTree l) (.agg (encPart p)) k) (.int .i64 i) σ = if (((kinds l p).take b).drop i).all isExpr then k σ else some (.bool false, σ) := by
  intro n
  induction n with
  | zero =>
    intro i hi
    rw [lpFix_eq (lp_spec_l6exprs_1_mono _ _ _ _ _)]
    have : ¬ (i < b) := by omega
    have e : ((kinds l p).take b).drop i = [] := List.drop_eq_nil_of_le (by simp; omega)
    simp [lp_spec_l6exprs_1, this, e]
  | succ n ih =>
    intro i hi
    have hib : i < b := by omega
    have hil : i < p.kids.length := by omega
    have hse : p.kids[i]? = some p.kids[i] := List.getElem?_eq_getElem hil
    have hlo := hk.lo _ (List.getElem_mem hil)
    have hhi := hk.hi _ (List.getElem_mem hil)
    have hq : l[p.kids[i].toNat]? = some l[p.kids[i].toNat] := List.getElem?_eq_getElem hhi
    have e2 : idx 10 (encParts l) (.int .i64 p.kids[i]) = some (.pptr (encPart l[p.kids[i].toNat]) 0) := idx_parts hlo hq
    have v1 : callV D 43 [.int .i64 l[p.kids[i].toNat].kind] σ = some (.bool (isExpr l[p.kids[i].toNat].kind)) := callV_eq (by simp [depth]) (l6expr H _ Store.empty) rfl
    have ih' := ih (i + 1) (by omega)
    rw [lpFix_eq (lp_spec_l6exprs_1_mono _ _ _ _ _)]
    generalize lpFix 1 (lp_spec_l6exprs_1 D (.int .i64 b) (encTree l) (.agg (encPart p)) k) = R at ih' ⊢
    have hkl : i < ((kinds l p).take b).length := by simp [kinds]; omega
    have hkv : ((kinds l p).take b)[i] = l[p.kids[i].toNat].kind := by simp [kinds, hq]
    rw [List.drop_eq_getElem_cons hkl, hkv]
    have e1 : ((i : Int) + 1) = ((i + 1 : Nat) : Int) := by omega
    have e9 : (encPart p)[9]? = some (encI p.kids) := rfl
    have ek : rd1 D.G (.pptr (encPart l[p.kids[i].toNat]) 0) σ = some (.int .i64 l[p.kids[i].toNat].kind) := rfl
    have ef : fadd (.pptr (encPart l[p.kids[i].toNat]) 0) 0 = some (.pptr (encPart l[p.kids[i].toNat]) 0) := rfl
    have er : rd1 D.G (.pptr (encPart p) 9) σ = some (encI p.kids) := rfl
    have et : rd1 D.G (.pptr (AV.cells (encTree l)) 0) σ = some (encParts l) := rfl
    have ei : rd1 D.G (.pptr [.int .i64 p.kids[i]] 0) σ = some (.int .i64 p.kids[i]) := rfl
    simp only [lp_spec_l6exprs_1, bin_lss, Option.bind_some, aCase_bool, cells_agg, et, er, idx_encI hse, ei, e2, ef, ek, v1, un_not, bin_add (a := i) (b := 1) (by omega) (by omega), e1, ih', List.all_cons]
    rw [if_pos (by simpa using hib)]
    by_cases hc : isExpr l[p.kids[i].toNat].kind = true <;> simp [hc]
theorem l6exprs (H : Door D) (l : List LPart) (p : LPart) (hk : KidsOk l p) (hn : p.kids.length ≤ 1048576) (i b : Nat) (hb : b ≤ p.kids.length) (σ : Store) :
    D.call 35 [encTree l, .agg (encPart p), .int .i64 i, .int .i64 b] σ = some (.bool ((((kinds l p).take b).drop i).all isExpr), σ) := by
  rw [H.f35]
  unfold sh_spec_l6exprs jn
  refine Eq.trans (l6exprs_loop H l p hk hn b hb (fun s_1 => some (.bool true, s_1)) σ (b - i) i rfl) ?_
  cases (((kinds l p).take b).drop i).all isExpr <;> simp
end
end Go.Asm.DoorF
