import Derived.Test.YtebmeojmlakkoaaDoorAsm3
import Derived.Laws.Cells
set_option linter.all false
/- The frame's relation, operands, and what one operation comes to. -/
namespace Go.Asm

def ERel (h : Array Obj) (G : Gh) (lm : Nat → Option Nat) : Ent → Value → Prop
  | .v a, c => VRel h G a c
  | .l s o, c => ∀ g, lm s = some g → c = .pointer (some ⟨g, o, none⟩)

theorem ERel.mono {h h' G G' lm lm'} (le : Le h h' G G') {e : Ent} {c : Value} (hl : ∀ s o, e = .l s o → lm' s = lm s) (r : ERel h G lm e c) : ERel h' G' lm' e c := by
  cases e with
  | v a => exact VRel.mono le r
  | l s o => intro g hg; rw [hl s o rfl] at hg; exact r g hg

theorem Env.get_nil (t : Nat) : Env.get [] t = .v .undef := rfl
theorem Env.get_cons (env : Env) (k t : Nat) (e : Ent) : Env.get ((k, e) :: env) t = if k = t then e else env.get t := by
  simp only [Env.get]
  by_cases h : k = t
  · subst h; simp
  · simp [beq_ne h, h]

theorem Env.get_purgeAt (env : Env) (s t : Nat) : (env.purgeAt s).get t = if (env.get t).at s = true then .v .undef else env.get t := by
  induction env with
  | nil => simp [Env.purgeAt, Env.get, Ent.at]
  | cons p r ih =>
    obtain ⟨k, e⟩ := p
    rw [Env.purgeAt, Env.get_cons, Env.get_cons, ih]
    by_cases h : k = t
    · simp only [if_pos h]
      cases e.at s <;> simp
    · simp only [if_neg h]

/-- What an entry of a filtered environment is: the old one, or unknown. -/
theorem Env.get_mem (env : Env) (t : Nat) : env.get t = .v .undef ∨ ∃ p ∈ env, p.1 = t ∧ p.2 = env.get t := by
  induction env with
  | nil => exact .inl rfl
  | cons p r ih =>
    obtain ⟨k, e⟩ := p
    rw [Env.get_cons]
    by_cases h : k = t
    · right; exact ⟨(k, e), by simp, h, by simp [h]⟩
    · rw [if_neg h]
      rcases ih with ih | ⟨p, hp, h1, h2⟩
      · exact .inl ih
      · exact .inr ⟨p, List.mem_cons_of_mem _ hp, h1, h2⟩

/-- The whole relation of a frame. -/
structure St (Z : Base) (N : Nat) (w : World) (G : Gh) (lm : Nat → Option Nat) (env : Env) (loc : Loc) (σ : Store) (a : Act) : Prop where
  hi : HI Z w G lm loc σ
  er : ∀ t, ERel w.heap G lm (env.get t) (a.tmps.getD t undef)
  df : a.defers = []
  nt : N ≤ a.tmps.size

theorem getD_put {a : Act} {d t : Nat} {v : Value} (hd : d < a.tmps.size) : (a.put (some d) v).tmps.getD t undef = if d = t then v else a.tmps.getD t undef := by
  simp only [Act.put, Array.getD_eq_getD_getElem?, Array.getElem?_setIfInBounds]
  by_cases h : d = t
  · subst h; simp [hd]
  · simp [h]
theorem put_none {a : Act} {v : Value} : a.put none v = a := rfl
theorem put_size {a : Act} {d : Option Nat} {v : Value} : (a.put d v).tmps.size = a.tmps.size := by cases d <;> simp [Act.put]
theorem put_defers {a : Act} {d : Option Nat} {v : Value} : (a.put d v).defers = a.defers := by cases d <;> rfl

/-- The rest of a frame's run, from whatever state the step leaves. -/
def Cont {ρ : Type} (Z : Base) (N : Nat) (k : Env → Loc → Store → Option ρ) (r : ρ) (G : Gh) (lm : Nat → Option Nat) (w : World) (a : Act) (W : List Nat) (K : Act → World → Prop) : Prop :=
  ∀ env' loc' σ' G' lm' w' a', k env' loc' σ' = some r → St Z N w' G' lm' env' loc' σ' a' → Le w.heap w'.heap G G' → (∀ s, s ∉ W → lm' s = lm s) →
    (∀ t, t ∉ W → a'.tmps.getD t undef = a.tmps.getD t undef) → K a' w'

section
variable {ρ : Type} {P : Program} {Z : Base} {N : Nat} {w w' : World} {G G' : Gh} {lm : Nat → Option Nat} {env : Env} {loc loc' : Loc} {σ σ' : Store} {a : Act}
  {k : Env → Loc → Store → Option ρ} {x : ρ} {K : Act → World → Prop} {Q : Exit → Act → World → Prop} {o : Oper}

theorem St.val (S : St Z N w G lm env loc σ a) {t : Nat} {v : AV} (h : env.get t = .v v) : VRel w.heap G v (a.tmps.getD t undef) := by
  have := S.er t; rw [h] at this; exact this

/-- A step that leaves a value: the frame's relation behind it. -/
theorem St.put (S : St Z N w G lm env loc σ a) (H' : HI Z w' G' lm loc' σ') (le : Le w.heap w'.heap G G') {d : Option Nat} (hd : ∀ t, d = some t → t < N) {e : Ent} {c : Value}
    (he : ERel w'.heap G' lm e c) : St Z N w' G' lm (put env d e) loc' σ' (a.put d c) := by
  refine ⟨H', fun t => ?_, by rw [put_defers]; exact S.df, by rw [put_size]; exact S.nt⟩
  cases d with
  | none => exact (S.er t).mono le (fun _ _ _ => rfl)
  | some d =>
    show ERel w'.heap G' lm (Env.get ((d, e) :: env) t) _
    rw [getD_put (Nat.lt_of_lt_of_le (hd d rfl) S.nt), Env.get_cons]
    by_cases h : d = t
    · rw [if_pos h, if_pos h]; exact he
    · rw [if_neg h, if_neg h]; exact (S.er t).mono le (fun _ _ _ => rfl)

theorem op_done (S : St Z N w G lm env loc σ a) (C : Cont Z N k x G lm w a o.dst.toList K) {c : Value}
    (hrun : (execOp a.eval o).run P w = .ok (.value c) w' ∨ ((execOp a.eval o).run P w = .ok .skip w' ∧ c = undef))
    (H' : HI Z w' G' lm loc' σ') (le : Le w.heap w'.heap G G') (hd : ∀ t, o.dst = some t → t < N) {e : Ent} (he : ERel w'.heap G' lm e c)
    (hk : k (put env o.dst e) loc' σ' = some x) : o.wp P a w K Q := by
  have hfin : K (a.put o.dst c) w' := by
    refine C _ _ _ _ _ _ _ hk (S.put H' le hd he) le (fun _ _ => rfl) (fun t ht => ?_)
    cases hdst : o.dst with
    | none => rfl
    | some d =>
      rw [hdst] at ht
      have hne : d ≠ t := fun e => ht (by simp [e])
      rw [getD_put (Nat.lt_of_lt_of_le (hd d hdst) S.nt), if_neg hne]
  unfold Oper.wp
  rcases hrun with h | ⟨h, hc⟩
  · rw [h]; exact hfin
  · rw [h]; subst hc; exact hfin
end

/-! ### constants and operands -/
def cvOk1 : Value → AV → Bool
  | .bool a, .bool b => a == b
  | .int k n, .int k' n' => decide (k = k') && decide (n = n')
  | .float .f64 b, .flt b' => b.beq b'
  | .string s, .str s' => decide (s = s')
  | .pointer none, .nilptr => true
  | .slice none 0 0, .nilslice => true
  | .map none, .nilmap => true
  | .nilFunc, .nilfunc => true
  | .nilIface, .niliface => true
  | _, _ => false
def cvOkL : List Value → List AV → Bool
  | [], [] => true
  | c :: cs, v :: vs => cvOk1 c v && cvOkL cs vs
  | _, _ => false
def cvOk : Value → AV → Bool
  | .agg cs, .agg vs => cvOkL cs.toList vs
  | .tuple cs, .tuple vs => cvOkL cs.toList vs
  | c, v => cvOk1 c v

theorem cvOk1_rel {h G} {c : Value} {v : AV} (e : cvOk1 c v = true) : VRel h G v c := by
  unfold cvOk1 at e
  split at e
  · simp at e; subst e; exact .bool
  · simp at e; obtain ⟨rfl, rfl⟩ := e; exact .int
  · have e := Nat.eq_of_beq_eq_true e; subst e; exact .flt (.inl rfl)
  · simp at e; subst e; exact .str
  · exact .nilptr
  · exact .nilslice
  · exact .nilmap
  · exact .nilfunc
  · exact .niliface
  · cases e
theorem cvOkL_rel {h G} {cs : List Value} {vs : List AV} (e : cvOkL cs vs = true) : VRels h G vs cs := by
  induction cs generalizing vs with
  | nil => cases vs with
    | nil => exact .nil
    | cons => simp [cvOkL] at e
  | cons c cs ih => cases vs with
    | nil => simp [cvOkL] at e
    | cons v vs => simp [cvOkL] at e; exact .cons (cvOk1_rel e.1) (ih e.2)
theorem cvOkL_ones {cs : List Value} {vs : List AV} (e : cvOkL cs vs = true) : Ones cs := by
  induction cs generalizing vs with
  | nil => intro c hc; cases hc
  | cons c cs ih => cases vs with
    | nil => simp [cvOkL] at e
    | cons v vs =>
      simp [cvOkL] at e
      intro d hd
      rcases List.mem_cons.1 hd with h | h
      · subst h
        have e1 := e.1
        unfold cvOk1 at e1
        split at e1 <;> first | rfl | cases e1
      · exact ih e.2 d h
theorem cvOk_rel {h G} {c : Value} {v : AV} (e : cvOk c v = true) : VRel h G v c := by
  unfold cvOk at e
  split at e
  · exact (cvOkL_rel e).agg (cvOkL_ones e)
  · exact (cvOkL_rel e).tuple
  · exact cvOk1_rel e

def opdOk : Operand → Opd → Bool
  | .tmp t, .t u => t.beq u
  | .const c, .c v => cvOk c v
  | .global g, .c (.gptr g') => g.beq g'
  | .func f, .c (.func f' [] []) => f.beq f'
  | _, _ => false
def opdsOk : List Operand → List Opd → Bool
  | [], [] => true
  | o :: os, x :: xs => opdOk o x && opdsOk os xs
  | _, _ => false

section
variable {ρ : Type} {P : Program} {Z : Base} {N : Nat} {w : World} {G : Gh} {lm : Nat → Option Nat} {env : Env} {loc : Loc} {σ : Store} {a : Act}

theorem ent_rel (S : St Z N w G lm env loc σ a) {o : Operand} {x : Opd} (h : opdOk o x = true) : ERel w.heap G lm (ent env x) (a.eval o) := by
  unfold opdOk at h
  split at h
  · have := Nat.eq_of_beq_eq_true h; subst this; exact S.er _
  · exact cvOk_rel h
  · have := Nat.eq_of_beq_eq_true h; subst this; exact VRel.gptr
  · have := Nat.eq_of_beq_eq_true h; subst this
    exact VRel.func rfl rfl (fun i v c h => by simp at h) (fun i v c h => by simp at h)
  · cases h

theorem val_some {env : Env} {x : Opd} {k : AV → Option ρ} {r : ρ} (h : val env x k = some r) : ∃ v, ent env x = .v v ∧ k v = some r := by
  unfold val at h
  cases e : ent env x with
  | v v => rw [e] at h; exact ⟨v, rfl, h⟩
  | l s o => rw [e] at h; cases h
theorem val_rel (S : St Z N w G lm env loc σ a) {o : Operand} {x : Opd} (h : opdOk o x = true) {v : AV} (e : ent env x = .v v) : VRel w.heap G v (a.eval o) := by
  have := ent_rel S h; rw [e] at this; exact this
theorem vals_some (S : St Z N w G lm env loc σ a) : ∀ {os : List Operand} {xs : List Opd} {k : List AV → Option ρ} {r : ρ}, opdsOk os xs = true → vals env xs k = some r →
    ∃ vs, VRels w.heap G vs (os.map a.eval) ∧ k vs = some r
  | [], [], k, r, _, h => ⟨[], .nil, h⟩
  | o :: os, x :: xs, k, r, ho, h => by
    simp [opdsOk] at ho
    obtain ⟨v, hv, h⟩ := val_some h
    obtain ⟨vs, hvs, h⟩ := vals_some S ho.2 h
    exact ⟨v :: vs, .cons (val_rel S ho.1 hv) hvs, h⟩
  | [], _ :: _, _, _, ho, _ => by simp [opdsOk] at ho
  | _ :: _, [], _, _, ho, _ => by simp [opdsOk] at ho
theorem bind_some {α β : Type} {x : Option α} {f : α → Option β} {r : β} (h : x.bind f = some r) : ∃ v, x = some v ∧ f v = some r := by
  cases x with
  | none => cases h
  | some v => exact ⟨v, rfl, h⟩
theorem aCase_some {x : AV} {t f : Option ρ} {r : ρ} (h : aCase x t f = some r) : (x = .bool true ∧ t = some r) ∨ (x = .bool false ∧ f = some r) := by
  unfold aCase at h
  split at h
  · exact .inl ⟨rfl, h⟩
  · exact .inr ⟨rfl, h⟩
  · cases h
theorem VRel.bool_inv {h G b c} (r : VRel h G (.bool b) c) : c = .bool b := by cases r; rfl
theorem VRel.int_inv {h G k n c} (r : VRel h G (.int k n) c) : c = .int k n := by cases r; rfl
theorem VRel.str_inv {h G s c} (r : VRel h G (.str s) c) : c = .string s := by cases r; rfl
theorem VRel.flt_inv {h G b c} (r : VRel h G (.flt b) c) : ∃ b', c = .float .f64 b' ∧ nanEq b b' := by cases r; exact ⟨_, rfl, by assumption⟩
end

/-! ### types -/
def tyOk (P : Program) (t : Nat) (agg : Bool) (n : Nat) : Bool :=
  (match P.underlying t with
    | some (.struct _) | some (.array _ _) => agg
    | some _ => !agg
    | none => false) &&
  (match P.info? t with
    | some i => i.size.beq n
    | none => false) && (agg || n.beq 1)
def szOk (P : Program) (t n : Nat) : Bool :=
  match P.info? t with
  | some i => i.size.beq n
  | none => false
theorem run_sizeOf {P : Program} {t n : Nat} (h : szOk P t n = true) (w : World) : (sizeOf t).run P w = .ok n w := by
  unfold szOk at h
  split at h
  · rename_i i hi
    have := Nat.eq_of_beq_eq_true h
    simp [sizeOf, typeInfo, hi, this]
  · cases h
theorem tyOk_sz {P : Program} {t n : Nat} {agg : Bool} (h : tyOk P t agg n = true) : szOk P t n = true := by
  simp only [tyOk, Bool.and_eq_true] at h; exact h.1.2
theorem tyOk_one {P : Program} {t n : Nat} (h : tyOk P t false n = true) : n = 1 := by
  simp only [tyOk, Bool.and_eq_true, Bool.false_or] at h; exact Nat.eq_of_beq_eq_true h.2
theorem run_isAgg {P : Program} {t n : Nat} {agg : Bool} (h : tyOk P t agg n = true) (w : World) : (isAgg t).run P w = .ok agg w := by
  simp only [tyOk, Bool.and_eq_true] at h
  have h := h.1.1
  unfold isAgg
  cases hd : P.underlying t with
  | none => simp [hd] at h
  | some d =>
    simp only [hd] at h
    cases d <;> simp_all [run_underlying hd]
end Go.Asm
