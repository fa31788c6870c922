import Derived.Test.YtebmeojmlakkoaaDoorAsm6
import Derived.Laws.StructEq
set_option linter.all false
/- What each operation comes to: third part: operators. -/
namespace Go.Asm

theorem read64 (b : Nat) : Ieee.double.read b = if b % 9223372036854775808 < 4503599627370496 then .number (b / 9223372036854775808 % 2 == 1) (b % 9223372036854775808) Ieee.double.leastPlace
    else if b % 9223372036854775808 < 9218868437227405312 then .number (b / 9223372036854775808 % 2 == 1) (4503599627370496 + b % 9223372036854775808 % 4503599627370496) (Ieee.double.leastPlace + (b % 9223372036854775808 / 4503599627370496 - 1 : Nat))
    else if b % 9223372036854775808 = 9218868437227405312 then .infinity (b / 9223372036854775808 % 2 == 1) else .nan (b / 9223372036854775808 % 2 == 1) (b % 9223372036854775808 - 9218868437227405312) := rfl
theorem isNan_iff (b : Nat) : isNan b = true ↔ 9218868437227405312 < b % 9223372036854775808 := by
  rw [show isNan b = (Ieee.double.read b).isNaN from rfl, read64]
  by_cases h1 : b % 9223372036854775808 < 4503599627370496
  · rw [if_pos h1]; simp [Ieee.Datum.isNaN]; omega
  · rw [if_neg h1]
    by_cases h2 : b % 9223372036854775808 < 9218868437227405312
    · rw [if_pos h2]; simp [Ieee.Datum.isNaN]; omega
    · rw [if_neg h2]
      by_cases h3 : b % 9223372036854775808 = 9218868437227405312
      · rw [if_pos h3]; simp [Ieee.Datum.isNaN]; omega
      · rw [if_neg h3]; simp [Ieee.Datum.isNaN]; omega
theorem isNan_nanF : isNan nanF = true := by rw [isNan_iff]; decide
theorem read_nan {b : Nat} (h : isNan b = true) : ∃ s f, Ieee.double.read b = .nan s f := by
  have h : (Ieee.double.read b).isNaN = true := h
  cases e : Ieee.double.read b <;> simp [e, Ieee.Datum.isNaN] at h
  exact ⟨_, _, rfl⟩

theorem fmt64 : FloatKind.f64.format = Ieee.double := rfl
theorem sum_nan_l {d e : Ieee.Datum} (h : d.isNaN = true) : d.sum e = none := by cases d <;> simp_all [Ieee.Datum.isNaN, Ieee.Datum.sum]
theorem sum_nan_r {d e : Ieee.Datum} (h : e.isNaN = true) : d.sum e = none := by cases e <;> simp_all [Ieee.Datum.isNaN, Ieee.Datum.sum] <;> cases d <;> rfl
theorem product_nan_l {d e : Ieee.Datum} (h : d.isNaN = true) : d.product e = none := by cases d <;> simp_all [Ieee.Datum.isNaN, Ieee.Datum.product]
theorem product_nan_r {d e : Ieee.Datum} (h : e.isNaN = true) : d.product e = none := by cases e <;> simp_all [Ieee.Datum.isNaN, Ieee.Datum.product] <;> cases d <;> rfl
theorem quotient_nan_l {n} {d e : Ieee.Datum} (h : d.isNaN = true) : d.quotient n e = none := by cases d <;> simp_all [Ieee.Datum.isNaN, Ieee.Datum.quotient]
theorem quotient_nan_r {n} {d e : Ieee.Datum} (h : e.isNaN = true) : d.quotient n e = none := by cases e <;> simp_all [Ieee.Datum.isNaN, Ieee.Datum.quotient] <;> cases d <;> rfl
theorem order_nan_l {d e : Ieee.Datum} (h : d.isNaN = true) : d.order e = none := by cases d <;> simp_all [Ieee.Datum.isNaN, Ieee.Datum.order]
theorem order_nan_r {d e : Ieee.Datum} (h : e.isNaN = true) : d.order e = none := by cases e <;> simp_all [Ieee.Datum.isNaN, Ieee.Datum.order] <;> cases d <;> rfl
theorem opp_nan {d : Ieee.Datum} (h : d.isNaN = true) : d.opposite.isNaN = true := by cases d <;> simp_all [Ieee.Datum.isNaN, Ieee.Datum.opposite]

theorem fltOrd_eq {a b a' b' : Nat} (ha : nanEq a a') (hb : nanEq b b') : fltOrd a b = fltOrd a' b' := by
  unfold fltOrd
  rcases ha with rfl | ⟨h1, h2⟩
  · rcases hb with rfl | ⟨h3, h4⟩
    · rfl
    · exact (order_nan_r h3).trans (order_nan_r h4).symm
  · exact (order_nan_l h1).trans (order_nan_l h2).symm
/-- The four operations give one answer on words that stand for one another. -/
theorem fltOp_eq {f : Nat → Nat → Option Nat} (hl : ∀ {a b}, isNan a = true → f a b = none) (hr : ∀ {a b}, isNan b = true → f a b = none) {a b a' b' : Nat} (ha : nanEq a a') (hb : nanEq b b') : f a b = f a' b' := by
  rcases ha with rfl | ⟨h1, h2⟩
  · rcases hb with rfl | ⟨h3, h4⟩
    · rfl
    · rw [hr h3, hr h4]
  · rw [hl h1, hl h2]
theorem add_l {a b} (h : isNan a = true) : FloatKind.f64.format.add a b = none := by
  have e : (FloatKind.f64.format.read a).sum (FloatKind.f64.format.read b) = none := sum_nan_l h
  show Option.map _ ((FloatKind.f64.format.read a).sum (FloatKind.f64.format.read b)) = _
  rw [e]; rfl
theorem add_r {a b} (h : isNan b = true) : FloatKind.f64.format.add a b = none := by
  have e : (FloatKind.f64.format.read a).sum (FloatKind.f64.format.read b) = none := sum_nan_r h
  show Option.map _ ((FloatKind.f64.format.read a).sum (FloatKind.f64.format.read b)) = _
  rw [e]; rfl
theorem sub_l {a b} (h : isNan a = true) : FloatKind.f64.format.sub a b = none := by
  have e : (FloatKind.f64.format.read a).sum ((FloatKind.f64.format.read b).opposite) = none := sum_nan_l h
  show Option.map _ ((FloatKind.f64.format.read a).sum ((FloatKind.f64.format.read b).opposite)) = _
  rw [e]; rfl
theorem sub_r {a b} (h : isNan b = true) : FloatKind.f64.format.sub a b = none := by
  have e : (FloatKind.f64.format.read a).sum ((FloatKind.f64.format.read b).opposite) = none := sum_nan_r (opp_nan h)
  show Option.map _ ((FloatKind.f64.format.read a).sum ((FloatKind.f64.format.read b).opposite)) = _
  rw [e]; rfl
theorem mul_l {a b} (h : isNan a = true) : FloatKind.f64.format.mul a b = none := by
  have e : (FloatKind.f64.format.read a).product (FloatKind.f64.format.read b) = none := product_nan_l h
  show Option.map _ ((FloatKind.f64.format.read a).product (FloatKind.f64.format.read b)) = _
  rw [e]; rfl
theorem mul_r {a b} (h : isNan b = true) : FloatKind.f64.format.mul a b = none := by
  have e : (FloatKind.f64.format.read a).product (FloatKind.f64.format.read b) = none := product_nan_r h
  show Option.map _ ((FloatKind.f64.format.read a).product (FloatKind.f64.format.read b)) = _
  rw [e]; rfl
theorem div_l {a b} (h : isNan a = true) : FloatKind.f64.format.div a b = none := by
  have e : (FloatKind.f64.format.read a).quotient (FloatKind.f64.format.fractionBits + 2) (FloatKind.f64.format.read b) = none := quotient_nan_l h
  show Option.map _ ((FloatKind.f64.format.read a).quotient (FloatKind.f64.format.fractionBits + 2) (FloatKind.f64.format.read b)) = _
  rw [e]; rfl
theorem div_r {a b} (h : isNan b = true) : FloatKind.f64.format.div a b = none := by
  have e : (FloatKind.f64.format.read a).quotient (FloatKind.f64.format.fractionBits + 2) (FloatKind.f64.format.read b) = none := quotient_nan_r h
  show Option.map _ ((FloatKind.f64.format.read a).quotient (FloatKind.f64.format.fractionBits + 2) (FloatKind.f64.format.read b)) = _
  rw [e]; rfl

theorem nan_cut (x y t : Nat) : isNan (Question.cut (.nanBits .f64 x y) t) = true := by
  rw [isNan_iff]
  simp only [Question.cut]
  rcases Nat.mod_two_eq_zero_or_one t with h | h <;> rw [h] <;> omega
theorem neg_nan (b : Nat) : isNan (Op.negFloat .f64 b) = isNan b := by
  have h : Op.negFloat .f64 b % 2 ^ 63 = b % 2 ^ 63 := by
    show (b ^^^ 2 ^ 63) % 2 ^ 63 = b % 2 ^ 63
    apply Nat.eq_of_testBit_eq
    intro i
    simp only [Nat.testBit_mod_two_pow, Nat.testBit_xor, Nat.testBit_two_pow]
    by_cases h : i < 63
    · have : ¬ 63 = i := by omega
      simp [h, this]
    · simp [h]
  have e : isNan (Op.negFloat .f64 b) = true ↔ isNan b = true := by rw [isNan_iff, isNan_iff, h]
  cases h1 : isNan (Op.negFloat .f64 b) <;> cases h2 : isNan b <;> simp_all

section
variable {ρ : Type} {P : Program} {Z : Base} {N : Nat} {w : World} {G : Gh} {lm : Nat → Option Nat} {env : Env} {loc : Loc} {σ : Store} {a : Act}
  {k : Env → Loc → Store → Option ρ} {x : ρ} {K : Act → World → Prop} {Q : Exit → Act → World → Prop} {o : Oper} {D : Ctx}

/-- The world after some draws. -/
def Drew (w w' : World) : Prop := w'.heap = w.heap ∧ w'.os = w.os ∧ w'.tape = w.tape ∧ w'.output = w.output
theorem Drew.refl (w : World) : Drew w w := ⟨rfl, rfl, rfl, rfl⟩

theorem run_intBin {op : BinOp} {t : TypeId} {kd : IntKind} {m n : Int} {u : AV} (h : intBin op kd m n = some u) :
    ∃ c, (binOp op t (.int kd m) (.int kd n)).run P w = .ok c w ∧ VRel w.heap G u c := by
  cases op <;> simp only [intBin] at h
  case quo =>
    split at h
    · cases h
    · rename_i hz
      cases h
      exact ⟨.int kd (kd.wrap (m.tdiv n)), by simp [binOp, Op.intDiv, hz], .int⟩
  case rem =>
    split at h
    · cases h
    · rename_i hz
      cases h
      exact ⟨.int kd (m.tmod n), by simp [binOp, Op.intDiv, hz], .int⟩
  all_goals first
    | (cases h; done)
    | (cases h; exact ⟨_, rfl, .int⟩)
    | (cases h; exact ⟨_, rfl, .bool⟩)
    | (cases h; refine ⟨.bool _, ?_, .bool⟩; simp [binOp, Op.intCmp]; try rfl)
    | (cases h; refine ⟨.int kd _, ?_, .int⟩; simp [binOp, Op.intArith, Op.intBits])

theorem run_shBin {op : BinOp} {t : TypeId} {kd kd' : IntKind} {m n : Int} {u : AV} (ho : op = .shl ∨ op = .shr) (h : shBin op kd m n = some u) :
    ∃ c, (binOp op t (.int kd m) (.int kd' n)).run P w = .ok c w ∧ VRel w.heap G u c := by
  unfold shBin at h
  split at h
  · cases h
  · rename_i hn
    rcases ho with rfl | rfl
    · cases h
      refine ⟨.int kd _, ?_, .int⟩
      simp [binOp, Op.shift, hn]
    · cases h
      refine ⟨.int kd _, ?_, .int⟩
      simp [binOp, Op.shift, hn]

theorem run_farith {op : BinOp} {m n : Nat} {r : Option Nat} (h : (match op with
      | .add => some (FloatKind.f64.format.add m n)
      | .sub => some (FloatKind.f64.format.sub m n)
      | .mul => some (FloatKind.f64.format.mul m n)
      | .quo => some (FloatKind.f64.format.div m n)
      | _ => none) = some r) : ∃ c w', (Op.floatArith op .f64 m n).run P w = .ok c w' ∧ Drew w w' ∧ VRel w.heap G (fnum r) c := by
  have key : ∀ q : Option Nat, ∃ c w', (match q with
      | some r => pure (.float .f64 r)
      | none => do pure (.float .f64 (← choose (.nanBits .f64 m n))) : Sem Value).run P w = .ok c w' ∧ Drew w w' ∧ VRel w.heap G (fnum q) c := by
    intro q
    cases q with
    | some r => exact ⟨_, _, rfl, .refl w, .flt (.inl rfl)⟩
    | none =>
      refine ⟨.float .f64 (Question.cut (.nanBits .f64 m n) (w.tape w.drawn (.nanBits .f64 m n))), { w with drawn := w.drawn + 1 }, ?_, ⟨rfl, rfl, rfl, rfl⟩, .flt (.inr ⟨isNan_nanF, nan_cut _ _ _⟩)⟩
      simp [Question.forced]
  cases op <;> simp only [] at h <;> first
    | (cases h; done)
    | (cases h
       obtain ⟨c, w', h1, h2, h3⟩ := key _
       refine ⟨c, w', ?_, h2, h3⟩
       unfold Op.floatArith
       simp only [Sem.run_bind, Sem.run_pure, Result.andThen_ok]
       exact h1)

theorem run_fltBin {op : BinOp} {t : TypeId} {m n m' n' : Nat} {u : AV} (h : fltBin op m n = some u) (hm : nanEq m m') (hn : nanEq n n') :
    ∃ c w', (binOp op t (.float .f64 m') (.float .f64 n')).run P w = .ok c w' ∧ Drew w w' ∧ VRel w.heap G u c := by
  have ho := fltOrd_eq hm hn
  cases op <;> simp only [fltBin] at h
  case add =>
    cases h
    rw [fltOp_eq add_l add_r hm hn]
    obtain ⟨c, w', h1, h2, h3⟩ := run_farith (P := P) (w := w) (G := G) (op := .add) (m := m') (n := n') rfl
    exact ⟨c, w', by simpa [binOp] using h1, h2, h3⟩
  case sub =>
    cases h
    rw [fltOp_eq sub_l sub_r hm hn]
    obtain ⟨c, w', h1, h2, h3⟩ := run_farith (P := P) (w := w) (G := G) (op := .sub) (m := m') (n := n') rfl
    exact ⟨c, w', by simpa [binOp] using h1, h2, h3⟩
  case mul =>
    cases h
    rw [fltOp_eq mul_l mul_r hm hn]
    obtain ⟨c, w', h1, h2, h3⟩ := run_farith (P := P) (w := w) (G := G) (op := .mul) (m := m') (n := n') rfl
    exact ⟨c, w', by simpa [binOp] using h1, h2, h3⟩
  case quo =>
    cases h
    rw [fltOp_eq div_l div_r hm hn]
    obtain ⟨c, w', h1, h2, h3⟩ := run_farith (P := P) (w := w) (G := G) (op := .quo) (m := m') (n := n') rfl
    exact ⟨c, w', by simpa [binOp] using h1, h2, h3⟩
  all_goals first
    | (cases h; done)
    | (cases h; rw [ho]; refine ⟨.bool _, w, ?_, .refl w, .bool⟩; simp [binOp, Op.floatCmp, fltOrd])

theorem strEq (s t : ByteArray) : (s.toList == t.toList) = decide (s.toList = t.toList) := by
  cases h : (s.toList == t.toList)
  · simp at h; simp [h]
  · simp at h; simp [h]

theorem run_strBin {op : BinOp} {t : TypeId} {s r : ByteArray} {u : AV} (h : strBin op s r = some u) :
    ∃ c, (binOp op t (.string s) (.string r)).run P w = .ok c w ∧ VRel w.heap G u c := by
  cases op <;> simp only [strBin] at h
  case add =>
    split at h
    · rename_i hl
      cases h
      refine ⟨.string (s ++ r), ?_, .str⟩
      simp [binOp, Op.stringOp]
      simp only [strMax] at hl
      omega
    · cases h
  all_goals first
    | (cases h; done)
    | (cases h; refine ⟨.bool _, ?_, .bool⟩; simp [binOp, Op.stringOp, strEq])
end
end Go.Asm
