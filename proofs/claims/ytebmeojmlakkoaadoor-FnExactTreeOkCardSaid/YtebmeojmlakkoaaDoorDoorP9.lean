import Derived.Test.YtebmeojmlakkoaaDoorDoorP8
set_option linter.all false
namespace Go.Asm.DoorF
open Go Go.Asm
def fltSame (b : Nat) : Bool := fltOrd b b == some .eq
/-- What the specification wants of an expression, or of an entry of a table. -/
def exprOk (p : LPart) (ks : List Int) : Bool :=
  let k : Int := ks.length
  if p.kind = 20 ∨ p.kind = 21 ∨ p.kind = 22 ∨ p.kind = 27 then decide (k = 0) && bare p false false false false
  else if p.kind = 23 then decide (k = 0) && bare p false true false false
  else if p.kind = 24 then decide (k = 0) && bare { p with flt := 0 } false false false false && fltSame p.flt
  else if p.kind = 25 then decide (k = 0) && bare p false false true false && decide ((p.text.size : Int) ≤ 4000)
  else if p.kind = 26 then decide (k = 0) && bare p false false true false && nameOk p.text
  else if p.kind = 28 ∨ p.kind = 29 then decide (k = 2) && exprs ks 0 2 && bare p false false false false
  else if p.kind = 32 then decide (k = 2) && exprs ks 0 2 && decide (kd ks 0 ≠ 27) && bare p false false false false
  else if p.kind = 30 then decide (k = 1) && exprs ks 0 1 && bare p true false false false && decide (19 ≤ p.op) && decide (p.op ≤ 22)
  else if p.kind = 31 then decide (k = 2) && exprs ks 0 2 && bare p true false false false && decide (1 ≤ p.op) && decide (p.op ≤ 18)
  else if p.kind = 33 then decide (k = 1) && exprs ks 0 1 && decide (kd ks 0 ≠ 27) && bare p false false true false && nameOk p.text
  else if p.kind = 34 then decide (1 ≤ k) && exprs ks 0 k && decide (kd ks 0 ≠ 27) && bare p false false false false
  else if p.kind = 35 then ks.all (fun x => decide (40 ≤ x) && decide (x ≤ 42)) && bare p false false false false
  else if p.kind = 36 then decide (k = 1) && decide (kd ks 0 = 1) && bare p true false false true && named p 0 200 && (decide (p.op = 0) || decide (p.op = 1))
  else if p.kind = 37 then decide (k = 1) && (decide (kd ks 0 = 34) || decide (kd ks 0 = 27)) && bare p false false false false
  else if p.kind = 40 then decide (k = 1) && exprs ks 0 1 && bare p false false false false
  else if p.kind = 41 then decide (k = 2) && exprs ks 0 2 && bare p false false false false
  else decide (p.kind = 42) && decide (k = 1) && exprs ks 0 1 && bare p false false true false && nameOk p.text
section
variable {D : Ctx} (H : Door D) {l : List LPart} {p : LPart}
theorem tab_loop (L : Looks D l p) (hn : p.kids.length ≤ 1048576) (k : Cur 0) (σ : Store) : ∀ (n i : Nat), n = p.kids.length - i → i ≤ p.kids.length →
    lpFix 1 (lp_spec_l6expression_1 D (.int .i64 p.kids.length) (encTree l) (.agg (encPart p)) k) (.int .i64 i) σ = if ((kinds l p).drop i).all (fun x => decide (40 ≤ x) && decide (x ≤ 42)) then k σ else some (.bool false, σ) := by
  intro n
  induction n with
  | zero =>
    intro i hi h1
    rw [lpFix_eq (lp_spec_l6expression_1_mono _ _ _ _ _)]
    have : ¬ (i < p.kids.length) := by omega
    have e : (kinds l p).drop i = [] := List.drop_eq_nil_of_le (by simp [kinds]; omega)
    simp [lp_spec_l6expression_1, this, e]
  | succ n ih =>
    intro i hi h1
    have hil : i < p.kids.length := by omega
    have v32 := L.v32 i σ (by omega) (by omega)
    have ih' := ih (i + 1) (by omega) (by omega)
    rw [lpFix_eq (lp_spec_l6expression_1_mono _ _ _ _ _)]
    generalize lpFix 1 (lp_spec_l6expression_1 D (.int .i64 p.kids.length) (encTree l) (.agg (encPart p)) k) = R at ih' ⊢
    rw [drop_kinds hil]
    have e1 : ((i : Int) + 1) = ((i + 1 : Nat) : Int) := by omega
    unfold lp_spec_l6expression_1 jn
    simp only [bin_lss, bin_gtr, Option.bind_some, aCase_bool, tree_rdN, cells_agg, rdN_part, v32, bin_add (a := i) (b := 1) (by omega) (by omega), e1, ih', List.all_cons]
    rw [if_pos (by simpa using hil)]
    by_cases a1 : kd (kinds l p) i < 40
    · have : ¬ 40 ≤ kd (kinds l p) i := by omega
      simp [a1, this]
    · by_cases a2 : 42 < kd (kinds l p) i
      · have : ¬ kd (kinds l p) i ≤ 42 := by omega
        simp [a1, a2, this]
      · have t1 : 40 ≤ kd (kinds l p) i := by omega
        have t2 : kd (kinds l p) i ≤ 42 := by omega
        simp [a1, a2, t1, t2]
theorem l6expression (H : Door D) (L : Looks D l p) (hn : p.kids.length ≤ 1048576) (σ : Store) : D.call 19 [encTree l, .agg (encPart p)] σ = some (.bool (exprOk p (kinds l p)), σ) := by
  have hkl : (kinds l p).length = p.kids.length := kinds_len l p
  rw [H.f19]
  unfold sh_spec_l6expression
  simp only [cells_agg, part_rd9, part_rd0, part_rd5, part_rd4, part_rd7, part_rd6, Option.bind_some, len_encI, bin_eql, aCase_bool, tree_rdN, rdN_part]
  by_cases h20 : p.kind = 20
  · unfold jn
    by_cases c0 : p.kids.length = 0
    · have d0 : (p.kids.length : Int) = 0 := by omega
      simp [h20, L.v33, L.v34, L.v37, exprOk, hkl, c0, d0]
      all_goals ((repeat' split) <;> simp_all)
    have d0 : ¬ (p.kids.length : Int) = 0 := by omega
    simp [h20, L.v33, L.v34, L.v37, exprOk, hkl, c0, d0]
    all_goals ((repeat' split) <;> simp_all)
  by_cases h21 : p.kind = 21
  · unfold jn
    by_cases c0 : p.kids.length = 0
    · have d0 : (p.kids.length : Int) = 0 := by omega
      simp [h21, L.v33, L.v34, L.v37, exprOk, hkl, c0, d0]
      all_goals ((repeat' split) <;> simp_all)
    have d0 : ¬ (p.kids.length : Int) = 0 := by omega
    simp [h21, L.v33, L.v34, L.v37, exprOk, hkl, c0, d0]
    all_goals ((repeat' split) <;> simp_all)
  by_cases h22 : p.kind = 22
  · unfold jn
    by_cases c0 : p.kids.length = 0
    · have d0 : (p.kids.length : Int) = 0 := by omega
      simp [h22, L.v33, L.v34, L.v37, exprOk, hkl, c0, d0]
      all_goals ((repeat' split) <;> simp_all)
    have d0 : ¬ (p.kids.length : Int) = 0 := by omega
    simp [h22, L.v33, L.v34, L.v37, exprOk, hkl, c0, d0]
    all_goals ((repeat' split) <;> simp_all)
  by_cases h27 : p.kind = 27
  · unfold jn
    by_cases c0 : p.kids.length = 0
    · have d0 : (p.kids.length : Int) = 0 := by omega
      simp [h27, L.v33, L.v34, L.v37, exprOk, hkl, c0, d0]
      all_goals ((repeat' split) <;> simp_all)
    have d0 : ¬ (p.kids.length : Int) = 0 := by omega
    simp [h27, L.v33, L.v34, L.v37, exprOk, hkl, c0, d0]
    all_goals ((repeat' split) <;> simp_all)
  by_cases h23 : p.kind = 23
  · unfold jn
    by_cases c0 : p.kids.length = 0
    · have d0 : (p.kids.length : Int) = 0 := by omega
      simp [h23, L.v33, L.v34, L.v37, exprOk, hkl, c0, d0]
      all_goals ((repeat' split) <;> simp_all)
    have d0 : ¬ (p.kids.length : Int) = 0 := by omega
    simp [h23, L.v33, L.v34, L.v37, exprOk, hkl, c0, d0]
    all_goals ((repeat' split) <;> simp_all)
  by_cases h24 : p.kind = 24
  · unfold jn
    have e1 : setL (encPart p) 6 [.flt 0] = encPart { p with flt := 0 } := rfl
    have e2 : asplit 10 (.agg (encPart p)) = some (encPart p) := rfl
    have e3 : bin .eql .num (.flt p.flt) (.flt p.flt) = some (.bool (fltOrd p.flt p.flt == some .eq)) := rfl
    have e4 : ∀ σ, callV D 33 [.agg (encPart { p with flt := 0 }), .bool false, .bool false, .bool false, .bool false] σ = some (.bool (bare { p with flt := 0 } false false false false)) := fun σ => callV_eq (by simp [depth]) (l6bare H { p with flt := 0 } false false false false Store.empty) rfl
    by_cases c0 : p.kids.length = 0
    · have d0 : (p.kids.length : Int) = 0 := by omega
      have e5 : exprOk p (kinds l p) = (bare { p with flt := 0 } false false false false && (fltOrd p.flt p.flt == some .eq)) := by simp [exprOk, h24, fltSame, hkl, c0]
      rw [e5]
      generalize bare { p with flt := 0 } false false false false = z at e4 ⊢
      generalize encPart { p with flt := 0 } = X at e1 e4
      simp only [h24, Int.reduceEq, decide_false, Bool.false_eq_true, if_false, decide_true, if_true, e1, e2, e3, e4, d0, Option.bind_some, aCase_bool]
      cases z <;> cases (fltOrd p.flt p.flt == some .eq) <;> simp
    have d0 : ¬ (p.kids.length : Int) = 0 := by omega
    simp [h24, exprOk, hkl, c0, d0, e2]
    all_goals ((repeat' split) <;> simp_all)
  by_cases h25 : p.kind = 25
  · unfold jn
    by_cases c0 : p.kids.length = 0
    · have d0 : (p.kids.length : Int) = 0 := by omega
      simp [h25, L.v33, L.v34, L.v37, exprOk, hkl, c0, d0]
      all_goals ((repeat' split) <;> simp_all)
    have d0 : ¬ (p.kids.length : Int) = 0 := by omega
    simp [h25, L.v33, L.v34, L.v37, exprOk, hkl, c0, d0]
    all_goals ((repeat' split) <;> simp_all)
  by_cases h26 : p.kind = 26
  · unfold jn
    by_cases c0 : p.kids.length = 0
    · have d0 : (p.kids.length : Int) = 0 := by omega
      simp [h26, L.v33, L.v34, L.v37, exprOk, hkl, c0, d0]
      all_goals ((repeat' split) <;> simp_all)
    have d0 : ¬ (p.kids.length : Int) = 0 := by omega
    simp [h26, L.v33, L.v34, L.v37, exprOk, hkl, c0, d0]
    all_goals ((repeat' split) <;> simp_all)
  by_cases h28 : p.kind = 28
  · unfold jn
    by_cases c2 : p.kids.length = 2
    · have d2 : (p.kids.length : Int) = 2 := by omega
      have w0 := L.v35 0 2 σ (by omega) (by omega) (by omega)
      simp [h28, L.v33, L.v34, L.v37, exprOk, hkl, c2, d2, w0]
      all_goals ((repeat' split) <;> simp_all)
    have d2 : ¬ (p.kids.length : Int) = 2 := by omega
    simp [h28, L.v33, L.v34, L.v37, exprOk, hkl, c2, d2]
    all_goals ((repeat' split) <;> simp_all)
  by_cases h29 : p.kind = 29
  · unfold jn
    by_cases c2 : p.kids.length = 2
    · have d2 : (p.kids.length : Int) = 2 := by omega
      have w0 := L.v35 0 2 σ (by omega) (by omega) (by omega)
      simp [h29, L.v33, L.v34, L.v37, exprOk, hkl, c2, d2, w0]
      all_goals ((repeat' split) <;> simp_all)
    have d2 : ¬ (p.kids.length : Int) = 2 := by omega
    simp [h29, L.v33, L.v34, L.v37, exprOk, hkl, c2, d2]
    all_goals ((repeat' split) <;> simp_all)
  by_cases h32 : p.kind = 32
  · unfold jn
    by_cases c2 : p.kids.length = 2
    · have d2 : (p.kids.length : Int) = 2 := by omega
      have w0 := L.v35 0 2 σ (by omega) (by omega) (by omega)
      have w1 := L.v32 0 σ (by omega) (by omega)
      simp [h32, L.v33, L.v34, L.v37, exprOk, hkl, c2, d2, w0, w1]
      all_goals ((repeat' split) <;> simp_all)
    have d2 : ¬ (p.kids.length : Int) = 2 := by omega
    simp [h32, L.v33, L.v34, L.v37, exprOk, hkl, c2, d2]
    all_goals ((repeat' split) <;> simp_all)
  by_cases h30 : p.kind = 30
  · unfold jn
    by_cases c1 : p.kids.length = 1
    · have d1 : (p.kids.length : Int) = 1 := by omega
      have w0 := L.v35 0 1 σ (by omega) (by omega) (by omega)
      simp [h30, L.v33, L.v34, L.v37, exprOk, hkl, c1, d1, w0]
      all_goals ((repeat' split) <;> simp_all <;> omega)
    have d1 : ¬ (p.kids.length : Int) = 1 := by omega
    simp [h30, L.v33, L.v34, L.v37, exprOk, hkl, c1, d1]
    all_goals ((repeat' split) <;> simp_all <;> omega)
  by_cases h31 : p.kind = 31
  · unfold jn
    by_cases c2 : p.kids.length = 2
    · have d2 : (p.kids.length : Int) = 2 := by omega
      have w0 := L.v35 0 2 σ (by omega) (by omega) (by omega)
      simp [h31, L.v33, L.v34, L.v37, exprOk, hkl, c2, d2, w0]
      all_goals ((repeat' split) <;> simp_all <;> omega)
    have d2 : ¬ (p.kids.length : Int) = 2 := by omega
    simp [h31, L.v33, L.v34, L.v37, exprOk, hkl, c2, d2]
    all_goals ((repeat' split) <;> simp_all <;> omega)
  by_cases h33 : p.kind = 33
  · unfold jn
    by_cases c1 : p.kids.length = 1
    · have d1 : (p.kids.length : Int) = 1 := by omega
      have w0 := L.v35 0 1 σ (by omega) (by omega) (by omega)
      have w1 := L.v32 0 σ (by omega) (by omega)
      simp [h33, L.v33, L.v34, L.v37, exprOk, hkl, c1, d1, w0, w1]
      all_goals ((repeat' split) <;> simp_all)
    have d1 : ¬ (p.kids.length : Int) = 1 := by omega
    simp [h33, L.v33, L.v34, L.v37, exprOk, hkl, c1, d1]
    all_goals ((repeat' split) <;> simp_all)
  by_cases h34 : p.kind = 34
  · unfold jn
    have w0 := L.v35 0 p.kids.length σ (by omega) (by omega) (by omega)
    by_cases c0 : p.kids.length = 0
    · have d0 : ¬ (1 : Int) ≤ p.kids.length := by omega
      simp [h34, L.v33, L.v34, L.v37, exprOk, hkl, c0, d0]
      all_goals ((repeat' split) <;> simp_all)
    have d0 : (1 : Int) ≤ p.kids.length := by omega
    have w1 := L.v32 0 σ (by omega) (by omega)
    simp [h34, L.v33, L.v34, L.v37, exprOk, hkl, c0, d0, w0, w1]
    all_goals ((repeat' split) <;> simp_all)
  by_cases h35 : p.kind = 35
  · have hl := tab_loop L hn (fun s_190 => (rdN 10 (.pptr (encPart p) 0) s_190).bind fun t_192 => (callV D 33 [(.agg t_192), (.bool false), (.bool false), (.bool false), (.bool false)] s_190).bind fun t_193 => some (t_193, s_190)) σ p.kids.length 0 (by omega) (by omega)
    rw [List.drop_zero] at hl
    unfold jn
    simp only [h35, Int.reduceEq, decide_false, Bool.false_eq_true, if_false, decide_true, if_true]
    refine Eq.trans hl ?_
    simp only [exprOk, h35, rdN_part, Option.bind_some, L.v33]
    by_cases hc : (kinds l p).all (fun x => decide (40 ≤ x) && decide (x ≤ 42)) = true <;> simp [hc]
  by_cases h36 : p.kind = 36
  · unfold jn
    by_cases c1 : p.kids.length = 1
    · have d1 : (p.kids.length : Int) = 1 := by omega
      have w0 := L.v32 0 σ (by omega) (by omega)
      simp [h36, L.v33, L.v34, L.v37, exprOk, hkl, c1, d1, w0]
      all_goals ((repeat' split) <;> simp_all)
    have d1 : ¬ (p.kids.length : Int) = 1 := by omega
    simp [h36, L.v33, L.v34, L.v37, exprOk, hkl, c1, d1]
    all_goals ((repeat' split) <;> simp_all)
  by_cases h37 : p.kind = 37
  · unfold jn
    by_cases c1 : p.kids.length = 1
    · have d1 : (p.kids.length : Int) = 1 := by omega
      have w0 := L.v32 0 σ (by omega) (by omega)
      simp [h37, L.v33, L.v34, L.v37, exprOk, hkl, c1, d1, w0]
      all_goals ((repeat' split) <;> simp_all)
    have d1 : ¬ (p.kids.length : Int) = 1 := by omega
    simp [h37, L.v33, L.v34, L.v37, exprOk, hkl, c1, d1]
    all_goals ((repeat' split) <;> simp_all)
  by_cases h40 : p.kind = 40
  · unfold jn
    by_cases c1 : p.kids.length = 1
    · have d1 : (p.kids.length : Int) = 1 := by omega
      have w0 := L.v35 0 1 σ (by omega) (by omega) (by omega)
      simp [h40, L.v33, L.v34, L.v37, exprOk, hkl, c1, d1, w0]
      all_goals ((repeat' split) <;> simp_all)
    have d1 : ¬ (p.kids.length : Int) = 1 := by omega
    simp [h40, L.v33, L.v34, L.v37, exprOk, hkl, c1, d1]
    all_goals ((repeat' split) <;> simp_all)
  by_cases h41 : p.kind = 41
  · unfold jn
    by_cases c2 : p.kids.length = 2
    · have d2 : (p.kids.length : Int) = 2 := by omega
      have w0 := L.v35 0 2 σ (by omega) (by omega) (by omega)
      simp [h41, L.v33, L.v34, L.v37, exprOk, hkl, c2, d2, w0]
      all_goals ((repeat' split) <;> simp_all)
    have d2 : ¬ (p.kids.length : Int) = 2 := by omega
    simp [h41, L.v33, L.v34, L.v37, exprOk, hkl, c2, d2]
    all_goals ((repeat' split) <;> simp_all)
  by_cases h42 : p.kind = 42
  · unfold jn
    by_cases c1 : p.kids.length = 1
    · have d1 : (p.kids.length : Int) = 1 := by omega
      have w0 := L.v35 0 1 σ (by omega) (by omega) (by omega)
      simp [h42, L.v33, L.v34, L.v37, exprOk, hkl, c1, d1, w0]
      all_goals ((repeat' split) <;> simp_all)
    have d1 : ¬ (p.kids.length : Int) = 1 := by omega
    simp [h42, L.v33, L.v34, L.v37, exprOk, hkl, c1, d1]
    all_goals ((repeat' split) <;> simp_all)
  unfold jn
  simp [h20, h21, h22, h23, h24, h25, h26, h27, h28, h29, h30, h31, h32, h33, h34, h35, h36, h37, h40, h41, h42, exprOk]
end
end Go.Asm.DoorF
