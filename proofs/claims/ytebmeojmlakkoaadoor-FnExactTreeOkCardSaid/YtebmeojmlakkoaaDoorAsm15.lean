import Derived.Test.YtebmeojmlakkoaaDoorAsm14
set_option linter.all false
/- One operation of a region by its resolved form: the check, and that it is sound. -/
namespace Go.Asm

/-- A constant's abstract value, for what is plain. -/
def avOf : Value → AV
  | .bool b => .bool b
  | .int k n => .int k n
  | .float .f64 b => .flt b
  | .string s => .str s
  | .pointer none => .nilptr
  | .slice none 0 0 => .nilslice
  | .map none => .nilmap
  | .nilFunc => .nilfunc
  | .nilIface => .niliface
  | _ => .undef
def zeroOf (P : Program) (t : Nat) : List AV :=
  match P.underlying t with
  | some (.slice e) => (match P.info? e with
    | some i => (match i.zero with
      | some z => z.cells.toList.map avOf
      | none => [])
    | none => [])
  | _ => []
def fieldIx (P : Program) (t off : Nat) (i : Nat) : Bool := fieldOk P t i off

def opOk (P : Program) (o : Oper) (r : ROp) : Bool :=
  match r with
  | .mv x => (match o.op with
    | .move y => opdOk y x
    | .assign y => opdOk y x
    | _ => false)
  | .pick c a b => (match o.op with
    | .pick c' a' b' => opdOk c' c && opdOk a' a && opdOk b' b
    | _ => false)
  | .pickv c a b => (match o.op with
    | .pick c' a' b' => opdOk c' c && opdOk a' a && opdOk b' b
    | _ => false)
  | .zalloc zero => (match o.op with
    | .alloc t => zeroOk P t zero
    | _ => false)
  | .halloc zero => (match o.op with
    | .alloc t => zeroOk P t zero
    | _ => false)
  | .pbox x => (match o.op with
    | .box _ y => opdOk y x
    | _ => false)
  | .lbox agg n x => (match o.op with
    | .box _ y => opdOk y x && (agg || n.beq 1) && !n.beq 0
    | _ => false)
  | .hbox agg n x => (match o.op with
    | .box _ y => opdOk y x && (agg || n.beq 1) && !n.beq 0
    | _ => false)
  | .build zero parts => (match o.op with
    | .build t ps => buildOk P t zero ps.toList parts
    | _ => false)
  | .pslice sz zero len parts => (match o.op with
    | .buildSlice t len' ps => len'.beq len && bsliceOk P t sz zero len ps.toList parts
    | _ => false)
  | .hslice sz zero len parts => (match o.op with
    | .buildSlice t len' ps => len'.beq len && bsliceOk P t sz zero len ps.toList parts
    | _ => false)
  | .load agg n a => (match o.op with
    | .load t y => tyOk P t agg n && opdOk y a
    | _ => false)
  | .store agg n a x => (match o.op with
    | .store t y z => szOk P t n && (agg || n.beq 1) && !n.beq 0 && opdOk y a && opdOk z x
    | _ => false)
  | .nilCheck x => (match o.op with
    | .nilCheck y => opdOk y x
    | _ => false)
  | .bin op e x y => (match o.op with
    | .binOp op' t x' y' _ => (op' == op) && opdOk x' x && opdOk y' y && eqkOk P e t
    | _ => false)
  | .un op x => (match o.op with
    | .unOp op' _ y => (op' == op) && opdOk y x
    | _ => false)
  | .mkIface t x => (match o.op with
    | .makeInterface t' y => t'.beq t && opdOk y x && (match P.underlying t with
      | some (.interface _) => false
      | some _ => true
      | none => false)
    | _ => false)
  | .mkFunc f first captured => (match o.op with
    | .makeFunc (.func f') a b => f'.beq f && opdsOk a.toList first && opdsOk b.toList captured
    | _ => false)
  | .mkMap => (match o.op with
    | .makeMap _ none => true
    | _ => false)
  | .mkSlice zero n => (match o.op with
    | .makeSlice t y z => opdOk y n && opdOk z n && elemOk P t zero
    | _ => false)
  | .sliceS x lo hi => (match o.op with
    | .slice t y l h none => opdOk y x && opdOOk l lo && opdOOk h hi && isStr P t
    | _ => false)
  | .slice sz x lo hi => (match o.op with
    | .slice t y l h none => opdOk y x && opdOOk l lo && opdOOk h hi && sliceOk P t sz
    | _ => false)
  | .fadd off x => (match o.op with
    | .fieldAddr t y i => fieldOk P t i off && opdOk y x
    | _ => false)
  | .idx sz x i => (match o.op with
    | .indexAddr t y z => sliceOk P t sz && !sz.beq 0 && opdOk y x && opdOk z i
    | _ => false)
  | .idxS x i => (match o.op with
    | .index t y z => opdOk y x && opdOk z i && isStr P t
    | _ => false)
  | .look1 kk zero m k => (match o.op with
    | .lookup t y z false => opdOk y m && opdOk z k && lookOk P t kk zero
    | _ => false)
  | .look2 kk zero m k => (match o.op with
    | .lookup t y z true => opdOk y m && opdOk z k && lookOk P t kk zero
    | _ => false)
  | .mapSet kk m k x => (match o.op with
    | .mapUpdate t y z u => opdOk y m && opdOk z k && opdOk u x && mapOk P t kk
    | .insert t y z u => opdOk y m && opdOk z k && opdOk u x && mapOk P t kk
    | _ => false)
  | .extr x i => (match o.op with
    | .extract y j => opdOk y x && j.beq i
    | _ => false)
  | .len kd x => (match o.op with
    | .call { callee := .builtin .len, args := ⟨[y]⟩, argTypes := ⟨[t]⟩ } => opdOk y x && lenOk P t kd
    | _ => false)
  | .app sz s x => (match o.op with
    | .call { callee := .builtin .append, args := ⟨[y, z]⟩, argTypes := ⟨[t, t']⟩ } => t'.beq t && opdOk y s && opdOk z x && elemOk P t (zeroOf P t) && (zeroOf P t).length.beq sz
    | _ => false)
  | .callP f args => (match o.op with
    | .call { callee := .value (.func f'), args := as, argTypes := _ } => f'.beq f && opdsOk as.toList args
    | _ => false)
  | .callV f args => (match o.op with
    | .call { callee := .value (.func f'), args := as, argTypes := _ } => f'.beq f && opdsOk as.toList args
    | _ => false)
  | .callS f args => (match o.op with
    | .call { callee := .value (.func f'), args := as, argTypes := _ } => f'.beq f && opdsOk as.toList args
    | _ => false)
  | .callD f args => (match o.op with
    | .call { callee := .value y, args := as, argTypes := _ } => opdOk y f && opdsOk as.toList args
    | _ => false)
  | .conv _ _ => false
  | .field _ _ _ _ => false

section
variable {ρ : Type} {P : Program} {Z : Base} {N : Nat} {w w' : World} {G G' : Gh} {lm : Nat → Option Nat} {env : Env} {loc : Loc} {σ σ' : Store} {a : Act}
  {k : Env → Loc → Store → Option ρ} {x : ρ} {K : Act → World → Prop} {Q : Exit → Act → World → Prop} {o : Oper} {D : Ctx}

theorem pos_of_nb {n : Nat} (h : (!n.beq 0) = true) : 0 < n := by
  rcases Nat.eq_zero_or_pos n with q | q
  · subst q; simp at h
  · exact q
theorem one_of {agg : Bool} {n : Nat} (h : (agg || n.beq 1) = true) : agg = false → n = 1 := fun e => by subst e; simpa using h

theorem op_sound (hcall : CallOK P Z.Gl D.call) (hG : D.G = Z.Gl) {r : ROp} (hr : opOk P o r = true) (S : St Z N w G lm env loc σ a) (C : Cont Z N k x G lm w a o.dst.toList K) (hd : ∀ t, o.dst = some t → t < N)
    (h : opK D o.dst r env loc σ k = some x) : o.wp P a w K Q := by
  cases r with
  | mv x0 =>
    simp only [opOk] at hr
    split at hr
    · exact sound_mv S C hd (.inl (by assumption)) hr h
    · exact sound_mv S C hd (.inr (by assumption)) hr h
    · cases hr
  | pick c y z =>
    simp only [opOk] at hr
    split at hr
    · simp only [Bool.and_eq_true] at hr
      exact sound_pick S C hd (by assumption) hr.1.1 hr.1.2 hr.2 h
    · cases hr
  | pickv c y z =>
    simp only [opOk] at hr
    split at hr
    · simp only [Bool.and_eq_true] at hr
      exact sound_pickv S C hd (by assumption) hr.1.1 hr.1.2 hr.2 h
    · cases hr
  | zalloc zero =>
    simp only [opOk] at hr
    split at hr
    · exact sound_zalloc S C hd (by assumption) hr h
    · cases hr
  | halloc zero =>
    simp only [opOk] at hr
    split at hr
    · exact sound_halloc S C hd (by assumption) hr h
    · cases hr
  | pbox x0 =>
    simp only [opOk] at hr
    split at hr
    · exact sound_pbox S C hd (by assumption) hr h
    · cases hr
  | lbox agg n x0 =>
    simp only [opOk] at hr
    split at hr
    · simp only [Bool.and_eq_true] at hr
      exact sound_lbox S C hd (by assumption) hr.1.1 (one_of hr.1.2) (pos_of_nb hr.2) h
    · cases hr
  | hbox agg n x0 =>
    simp only [opOk] at hr
    split at hr
    · simp only [Bool.and_eq_true] at hr
      exact sound_hbox S C hd (by assumption) hr.1.1 (one_of hr.1.2) (pos_of_nb hr.2) h
    · cases hr
  | build zero parts =>
    simp only [opOk] at hr
    split at hr
    · exact sound_build S C hd (by assumption) hr h
    · cases hr
  | pslice sz zero len parts =>
    simp only [opOk] at hr
    split at hr
    · simp only [Bool.and_eq_true] at hr
      have e := Nat.eq_of_beq_eq_true hr.1
      subst e
      exact sound_pslice S C hd (by assumption) hr.2 h
    · cases hr
  | hslice sz zero len parts =>
    simp only [opOk] at hr
    split at hr
    · simp only [Bool.and_eq_true] at hr
      have e := Nat.eq_of_beq_eq_true hr.1
      subst e
      exact sound_hslice S C hd (by assumption) hr.2 h
    · cases hr
  | load agg n a0 =>
    simp only [opOk] at hr
    split at hr
    · simp only [Bool.and_eq_true] at hr
      exact sound_load S C hd hG (by assumption) hr.1 hr.2 h
    · cases hr
  | store agg n a0 x0 =>
    simp only [opOk] at hr
    split at hr
    · simp only [Bool.and_eq_true] at hr
      exact sound_store S C hd (by assumption) hr.1.1.1.1 (one_of hr.1.1.1.2) (pos_of_nb hr.1.1.2) hr.1.2 hr.2 h
    · cases hr
  | nilCheck x0 =>
    simp only [opOk] at hr
    split at hr
    · exact sound_nilCheck S C hd (by assumption) hr h
    · cases hr
  | bin op e x0 y0 =>
    simp only [opOk] at hr
    split at hr
    · simp only [Bool.and_eq_true] at hr
      rename_i op' _ _ _ _ _
      have e1 : op' = op := by simpa using hr.1.1.1
      subst e1
      exact sound_bin S C hd (by assumption) hr.1.1.2 hr.1.2 hr.2 h
    · cases hr
  | un op x0 =>
    simp only [opOk] at hr
    split at hr
    · simp only [Bool.and_eq_true] at hr
      rename_i op' _ _ _
      have e1 : op' = op := by simpa using hr.1
      subst e1
      exact sound_un S C hd (by assumption) hr.2 h
    · cases hr
  | mkIface t x0 =>
    simp only [opOk] at hr
    split at hr
    · simp only [Bool.and_eq_true] at hr
      have e := Nat.eq_of_beq_eq_true hr.1.1
      subst e
      exact sound_mkIface S C hd (by assumption) hr.1.2 hr.2 h
    · cases hr
  | mkFunc f first captured =>
    simp only [opOk] at hr
    split at hr
    · simp only [Bool.and_eq_true] at hr
      have e := Nat.eq_of_beq_eq_true hr.1.1
      subst e
      exact sound_mkFunc S C hd (by assumption) hr.1.2 hr.2 h
    · cases hr
  | mkMap =>
    simp only [opOk] at hr
    split at hr
    · exact sound_mkMap S C hd (by assumption) h
    · cases hr
  | mkSlice zero n =>
    simp only [opOk] at hr
    split at hr
    · simp only [Bool.and_eq_true] at hr
      exact sound_mkSlice S C hd (by assumption) hr.1.1 hr.1.2 hr.2 h
    · cases hr
  | sliceS x0 lo hi =>
    simp only [opOk] at hr
    split at hr
    · simp only [Bool.and_eq_true] at hr
      exact sound_sliceS S C hd (by assumption) hr.1.1.1 hr.1.1.2 hr.1.2 hr.2 h
    · cases hr
  | slice sz x0 lo hi =>
    simp only [opOk] at hr
    split at hr
    · simp only [Bool.and_eq_true] at hr
      exact sound_slice S C hd (by assumption) hr.1.1.1 hr.1.1.2 hr.1.2 hr.2 h
    · cases hr
  | fadd off x0 =>
    simp only [opOk] at hr
    split at hr
    · simp only [Bool.and_eq_true] at hr
      exact sound_fadd S C hd (by assumption) hr.1 hr.2 h
    · cases hr
  | idx sz x0 i =>
    simp only [opOk] at hr
    split at hr
    · simp only [Bool.and_eq_true] at hr
      exact sound_idx S C hd (by assumption) hr.1.1.1 (pos_of_nb hr.1.1.2) hr.1.2 hr.2 h
    · cases hr
  | idxS x0 i =>
    simp only [opOk] at hr
    split at hr
    · simp only [Bool.and_eq_true] at hr
      exact sound_idxS S C hd (by assumption) hr.1.1 hr.1.2 hr.2 h
    · cases hr
  | look1 kk zero m q =>
    simp only [opOk] at hr
    split at hr
    · simp only [Bool.and_eq_true] at hr
      exact sound_look1 S C hd (by assumption) hr.1.1 hr.1.2 hr.2 h
    · cases hr
  | look2 kk zero m q =>
    simp only [opOk] at hr
    split at hr
    · simp only [Bool.and_eq_true] at hr
      exact sound_look2 S C hd (by assumption) hr.1.1 hr.1.2 hr.2 h
    · cases hr
  | mapSet kk m q x0 =>
    simp only [opOk] at hr
    split at hr
    · simp only [Bool.and_eq_true] at hr
      exact sound_mapSet S C hd (.inl (by assumption)) hr.1.1.1 hr.1.1.2 hr.1.2 hr.2 h
    · simp only [Bool.and_eq_true] at hr
      exact sound_mapSet S C hd (.inr (by assumption)) hr.1.1.1 hr.1.1.2 hr.1.2 hr.2 h
    · cases hr
  | extr x0 i =>
    simp only [opOk] at hr
    split at hr
    · simp only [Bool.and_eq_true] at hr
      have e := Nat.eq_of_beq_eq_true hr.2
      subst e
      exact sound_extr S C hd (by assumption) hr.1 h
    · cases hr
  | len kd x0 =>
    simp only [opOk] at hr
    split at hr
    · simp only [Bool.and_eq_true] at hr
      exact sound_len S C hd (by assumption) hr.1 hr.2 h
    · cases hr
  | app sz s x0 =>
    simp only [opOk] at hr
    split at hr
    · simp only [Bool.and_eq_true] at hr
      have e := Nat.eq_of_beq_eq_true hr.1.1.1.1
      subst e
      have e2 := Nat.eq_of_beq_eq_true hr.2
      subst e2
      exact sound_app S C hd (by assumption) hr.1.1.1.2 hr.1.1.2 hr.1.2 h
    · cases hr
  | callP f args =>
    simp only [opOk] at hr
    split at hr
    · simp only [Bool.and_eq_true] at hr
      have e := Nat.eq_of_beq_eq_true hr.1
      subst e
      exact sound_callP hcall S C hd (by assumption) hr.2 h
    · cases hr
  | callV f args =>
    simp only [opOk] at hr
    split at hr
    · simp only [Bool.and_eq_true] at hr
      have e := Nat.eq_of_beq_eq_true hr.1
      subst e
      exact sound_callV hcall S C hd (by assumption) hr.2 h
    · cases hr
  | callS f args =>
    simp only [opOk] at hr
    split at hr
    · simp only [Bool.and_eq_true] at hr
      have e := Nat.eq_of_beq_eq_true hr.1
      subst e
      exact sound_callS hcall S C hd (by assumption) hr.2 h
    · cases hr
  | callD f args =>
    simp only [opOk] at hr
    split at hr
    · simp only [Bool.and_eq_true] at hr
      exact sound_callD hcall S C hd (by assumption) hr.1 hr.2 h
    · cases hr
  | conv c x0 => cases hr
  | field b i n x0 => cases hr
end
end Go.Asm
