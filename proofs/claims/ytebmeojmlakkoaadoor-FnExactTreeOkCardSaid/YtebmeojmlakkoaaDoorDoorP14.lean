import Derived.Test.YtebmeojmlakkoaaDoorDoorP13
set_option linter.all false
namespace Go.Asm.DoorF
open Go Go.Asm
theorem exprs_01 {ks : List Int} (h : (ks.length : Int) = 1) : exprs ks 0 1 = isExpr (kd ks 0) := by
  match ks, h with
  | [a], _ => simp [exprs, kd]
theorem exprs_1 {ks : List Int} (h : 0 < (ks.length : Int)) : exprs ks 0 1 = isExpr (kd ks 0) := by
  match ks, h with
  | a :: l, _ => simp [exprs, kd]
theorem exprs_2 {ks : List Int} (h : (ks.length : Int) = 2) : exprs ks 0 2 = (isExpr (kd ks 0) && isExpr (kd ks 1)) := by
  match ks, h with
  | [a, b], _ => simp [exprs, kd]
theorem exprs_k {ks : List Int} (h : 1 ≤ (ks.length : Int)) : exprs ks 0 ks.length = (isExpr (kd ks 0) && exprs ks 1 ks.length) := by
  match ks, h with
  | a :: l, _ => simp [exprs, kd]
theorem alls_all {Q : Int → Bool} {ks : List Int} : alls Q ks 0 ks.length = ks.all Q := by simp [alls]
theorem exprs_all {ks : List Int} : exprs ks 0 ks.length = ks.all isExpr := by simp [exprs]
theorem alls_take {Q : Int → Bool} {ks : List Int} {n : Int} : alls Q ks 0 n = (ks.take n.toNat).all Q := by simp [alls]
theorem alls_exprs {ks : List Int} {a b : Int} : alls isExpr ks a b = exprs ks a b := rfl
theorem base_eq (k : Int) : isBase k = (isExpr k && decide (k ≠ 27)) := rfl
theorem entry_fun : isEntry = fun x => decide (40 ≤ x) && decide (x ≤ 42) := rfl
theorem flt0_0 : flt0 0 = true := by decide +kernel
theorem fltSame_zero (p : LPart) : bare { p with flt := 0 } false false false false = (decide (p.op = 0) && decide (p.num = 0) && decide (p.text.toList = []) && decide (p.names.length = 0)) := by
  have : flt0 0 = true := by decide +kernel
  simp [bare, this]
theorem names_nil {p : LPart} (h : p.names.length = 0) : p.names.all nameOk = true := by
  rw [List.length_eq_zero_iff.1 h]; rfl
def NodeEq (p : LPart) (ks : List Int) : Prop := (headOk p && (if isStat p.kind = true then stmtOk p ks else exprOk p ks)) = shapeOk p ks

theorem ne_1 {p : LPart} {ks : List Int} (hl : (ks.length : Int) = p.kids.length) (hk : p.kind = 1) : NodeEq p ks := by
  have s1 : isStat p.kind = true := by simp [isStat, hk]
  have E1 : (p.kind = 1) = True := eq_true (by omega)
  have E2 : (p.kind = 2) = False := eq_false (by omega)
  have E3 : (p.kind = 3) = False := eq_false (by omega)
  have E4 : (p.kind = 4) = False := eq_false (by omega)
  have E5 : (p.kind = 5) = False := eq_false (by omega)
  have E6 : (p.kind = 6) = False := eq_false (by omega)
  have E7 : (p.kind = 7) = False := eq_false (by omega)
  have E8 : (p.kind = 8) = False := eq_false (by omega)
  have E9 : (p.kind = 9) = False := eq_false (by omega)
  have E10 : (p.kind = 10) = False := eq_false (by omega)
  have E11 : (p.kind = 11) = False := eq_false (by omega)
  have E12 : (p.kind = 12) = False := eq_false (by omega)
  have E13 : (p.kind = 13) = False := eq_false (by omega)
  have E14 : (p.kind = 14) = False := eq_false (by omega)
  have E15 : (p.kind = 15) = False := eq_false (by omega)
  have E16 : (p.kind = 16) = False := eq_false (by omega)
  have E20 : (p.kind = 20) = False := eq_false (by omega)
  have E21 : (p.kind = 21) = False := eq_false (by omega)
  have E22 : (p.kind = 22) = False := eq_false (by omega)
  have E23 : (p.kind = 23) = False := eq_false (by omega)
  have E24 : (p.kind = 24) = False := eq_false (by omega)
  have E25 : (p.kind = 25) = False := eq_false (by omega)
  have E26 : (p.kind = 26) = False := eq_false (by omega)
  have E27 : (p.kind = 27) = False := eq_false (by omega)
  have E28 : (p.kind = 28) = False := eq_false (by omega)
  have E29 : (p.kind = 29) = False := eq_false (by omega)
  have E30 : (p.kind = 30) = False := eq_false (by omega)
  have E31 : (p.kind = 31) = False := eq_false (by omega)
  have E32 : (p.kind = 32) = False := eq_false (by omega)
  have E33 : (p.kind = 33) = False := eq_false (by omega)
  have E34 : (p.kind = 34) = False := eq_false (by omega)
  have E35 : (p.kind = 35) = False := eq_false (by omega)
  have E36 : (p.kind = 36) = False := eq_false (by omega)
  have E37 : (p.kind = 37) = False := eq_false (by omega)
  have E40 : (p.kind = 40) = False := eq_false (by omega)
  have E41 : (p.kind = 41) = False := eq_false (by omega)
  have E42 : (p.kind = 42) = False := eq_false (by omega)
  unfold NodeEq
  simp only [s1, if_true, if_false, Bool.false_eq_true]
  unfold shapeOk shapeMid stmtOk
  simp only [E1, E2, E3, E4, E5, E6, E7, E8, E9, E10, E11, E12, E13, E14, E15, E16, E20, E21, E22, E23, E24, E25, E26, E27, E28, E29, E30, E31, E32, E33, E34, E35, E36, E37, E40, E41, E42, or_false, false_or, or_true, true_or, or_self, if_true, if_false, decide_true, decide_false, Bool.false_and, Bool.true_and]
  have h1 := @exprs_1 ks
  have h2 := @exprs_2 ks
  have h3 := @exprs_k ks
  have h4 := @names_nil p
  have h5 : flt0 0 = true := flt0_0
  simp only [shapeEnd, headOk, bare, named, s1, alls_exprs, base_eq, alls_all, fltSame_zero, entry_fun, decide_true, decide_false]
  rw [Bool.eq_iff_iff]
  simp only [Bool.and_eq_true, Bool.or_eq_true, decide_eq_true_eq, Bool.not_eq_true', Bool.and_eq_false_iff, decide_eq_false_iff_not, Bool.true_or, Bool.false_or, if_true, if_false, Bool.false_eq_true]
  grind
theorem ne_2 {p : LPart} {ks : List Int} (hl : (ks.length : Int) = p.kids.length) (hk : p.kind = 2) : NodeEq p ks := by
  have s1 : isStat p.kind = true := by simp [isStat, hk]
  have E1 : (p.kind = 1) = False := eq_false (by omega)
  have E2 : (p.kind = 2) = True := eq_true (by omega)
  have E3 : (p.kind = 3) = False := eq_false (by omega)
  have E4 : (p.kind = 4) = False := eq_false (by omega)
  have E5 : (p.kind = 5) = False := eq_false (by omega)
  have E6 : (p.kind = 6) = False := eq_false (by omega)
  have E7 : (p.kind = 7) = False := eq_false (by omega)
  have E8 : (p.kind = 8) = False := eq_false (by omega)
  have E9 : (p.kind = 9) = False := eq_false (by omega)
  have E10 : (p.kind = 10) = False := eq_false (by omega)
  have E11 : (p.kind = 11) = False := eq_false (by omega)
  have E12 : (p.kind = 12) = False := eq_false (by omega)
  have E13 : (p.kind = 13) = False := eq_false (by omega)
  have E14 : (p.kind = 14) = False := eq_false (by omega)
  have E15 : (p.kind = 15) = False := eq_false (by omega)
  have E16 : (p.kind = 16) = False := eq_false (by omega)
  have E20 : (p.kind = 20) = False := eq_false (by omega)
  have E21 : (p.kind = 21) = False := eq_false (by omega)
  have E22 : (p.kind = 22) = False := eq_false (by omega)
  have E23 : (p.kind = 23) = False := eq_false (by omega)
  have E24 : (p.kind = 24) = False := eq_false (by omega)
  have E25 : (p.kind = 25) = False := eq_false (by omega)
  have E26 : (p.kind = 26) = False := eq_false (by omega)
  have E27 : (p.kind = 27) = False := eq_false (by omega)
  have E28 : (p.kind = 28) = False := eq_false (by omega)
  have E29 : (p.kind = 29) = False := eq_false (by omega)
  have E30 : (p.kind = 30) = False := eq_false (by omega)
  have E31 : (p.kind = 31) = False := eq_false (by omega)
  have E32 : (p.kind = 32) = False := eq_false (by omega)
  have E33 : (p.kind = 33) = False := eq_false (by omega)
  have E34 : (p.kind = 34) = False := eq_false (by omega)
  have E35 : (p.kind = 35) = False := eq_false (by omega)
  have E36 : (p.kind = 36) = False := eq_false (by omega)
  have E37 : (p.kind = 37) = False := eq_false (by omega)
  have E40 : (p.kind = 40) = False := eq_false (by omega)
  have E41 : (p.kind = 41) = False := eq_false (by omega)
  have E42 : (p.kind = 42) = False := eq_false (by omega)
  unfold NodeEq
  simp only [s1, if_true, if_false, Bool.false_eq_true]
  unfold shapeOk shapeMid stmtOk
  simp only [E1, E2, E3, E4, E5, E6, E7, E8, E9, E10, E11, E12, E13, E14, E15, E16, E20, E21, E22, E23, E24, E25, E26, E27, E28, E29, E30, E31, E32, E33, E34, E35, E36, E37, E40, E41, E42, or_false, false_or, or_true, true_or, or_self, if_true, if_false, decide_true, decide_false, Bool.false_and, Bool.true_and]
  have h1 := @exprs_1 ks
  have h2 := @exprs_2 ks
  have h3 := @exprs_k ks
  have h4 := @names_nil p
  have h5 : flt0 0 = true := flt0_0
  simp only [shapeEnd, headOk, bare, named, s1, alls_exprs, base_eq, alls_all, exprs_all, fltSame_zero, entry_fun, decide_true, decide_false]
  rw [Bool.eq_iff_iff]
  simp only [Bool.and_eq_true, Bool.or_eq_true, decide_eq_true_eq, Bool.not_eq_true', Bool.and_eq_false_iff, decide_eq_false_iff_not, Bool.true_or, Bool.false_or, if_true, if_false, Bool.false_eq_true]
  grind
theorem ne_3 {p : LPart} {ks : List Int} (hl : (ks.length : Int) = p.kids.length) (hk : p.kind = 3) : NodeEq p ks := by
  have s1 : isStat p.kind = true := by simp [isStat, hk]
  have E1 : (p.kind = 1) = False := eq_false (by omega)
  have E2 : (p.kind = 2) = False := eq_false (by omega)
  have E3 : (p.kind = 3) = True := eq_true (by omega)
  have E4 : (p.kind = 4) = False := eq_false (by omega)
  have E5 : (p.kind = 5) = False := eq_false (by omega)
  have E6 : (p.kind = 6) = False := eq_false (by omega)
  have E7 : (p.kind = 7) = False := eq_false (by omega)
  have E8 : (p.kind = 8) = False := eq_false (by omega)
  have E9 : (p.kind = 9) = False := eq_false (by omega)
  have E10 : (p.kind = 10) = False := eq_false (by omega)
  have E11 : (p.kind = 11) = False := eq_false (by omega)
  have E12 : (p.kind = 12) = False := eq_false (by omega)
  have E13 : (p.kind = 13) = False := eq_false (by omega)
  have E14 : (p.kind = 14) = False := eq_false (by omega)
  have E15 : (p.kind = 15) = False := eq_false (by omega)
  have E16 : (p.kind = 16) = False := eq_false (by omega)
  have E20 : (p.kind = 20) = False := eq_false (by omega)
  have E21 : (p.kind = 21) = False := eq_false (by omega)
  have E22 : (p.kind = 22) = False := eq_false (by omega)
  have E23 : (p.kind = 23) = False := eq_false (by omega)
  have E24 : (p.kind = 24) = False := eq_false (by omega)
  have E25 : (p.kind = 25) = False := eq_false (by omega)
  have E26 : (p.kind = 26) = False := eq_false (by omega)
  have E27 : (p.kind = 27) = False := eq_false (by omega)
  have E28 : (p.kind = 28) = False := eq_false (by omega)
  have E29 : (p.kind = 29) = False := eq_false (by omega)
  have E30 : (p.kind = 30) = False := eq_false (by omega)
  have E31 : (p.kind = 31) = False := eq_false (by omega)
  have E32 : (p.kind = 32) = False := eq_false (by omega)
  have E33 : (p.kind = 33) = False := eq_false (by omega)
  have E34 : (p.kind = 34) = False := eq_false (by omega)
  have E35 : (p.kind = 35) = False := eq_false (by omega)
  have E36 : (p.kind = 36) = False := eq_false (by omega)
  have E37 : (p.kind = 37) = False := eq_false (by omega)
  have E40 : (p.kind = 40) = False := eq_false (by omega)
  have E41 : (p.kind = 41) = False := eq_false (by omega)
  have E42 : (p.kind = 42) = False := eq_false (by omega)
  unfold NodeEq
  simp only [s1, if_true, if_false, Bool.false_eq_true]
  unfold shapeOk shapeMid stmtOk
  simp only [E1, E2, E3, E4, E5, E6, E7, E8, E9, E10, E11, E12, E13, E14, E15, E16, E20, E21, E22, E23, E24, E25, E26, E27, E28, E29, E30, E31, E32, E33, E34, E35, E36, E37, E40, E41, E42, or_false, false_or, or_true, true_or, or_self, if_true, if_false, decide_true, decide_false, Bool.false_and, Bool.true_and]
  have h1 := @exprs_1 ks
  have h2 := @exprs_2 ks
  have h3 := @exprs_k ks
  have h4 := @names_nil p
  have h5 : flt0 0 = true := flt0_0
  simp only [shapeEnd, headOk, bare, named, s1, alls_exprs, base_eq, alls_all, fltSame_zero, entry_fun, decide_true, decide_false]
  rw [Bool.eq_iff_iff]
  simp only [Bool.and_eq_true, Bool.or_eq_true, decide_eq_true_eq, Bool.not_eq_true', Bool.and_eq_false_iff, decide_eq_false_iff_not, Bool.true_or, Bool.false_or, if_true, if_false, Bool.false_eq_true]
  grind
theorem ne_4 {p : LPart} {ks : List Int} (hl : (ks.length : Int) = p.kids.length) (hk : p.kind = 4) : NodeEq p ks := by
  have s1 : isStat p.kind = true := by simp [isStat, hk]
  have E1 : (p.kind = 1) = False := eq_false (by omega)
  have E2 : (p.kind = 2) = False := eq_false (by omega)
  have E3 : (p.kind = 3) = False := eq_false (by omega)
  have E4 : (p.kind = 4) = True := eq_true (by omega)
  have E5 : (p.kind = 5) = False := eq_false (by omega)
  have E6 : (p.kind = 6) = False := eq_false (by omega)
  have E7 : (p.kind = 7) = False := eq_false (by omega)
  have E8 : (p.kind = 8) = False := eq_false (by omega)
  have E9 : (p.kind = 9) = False := eq_false (by omega)
  have E10 : (p.kind = 10) = False := eq_false (by omega)
  have E11 : (p.kind = 11) = False := eq_false (by omega)
  have E12 : (p.kind = 12) = False := eq_false (by omega)
  have E13 : (p.kind = 13) = False := eq_false (by omega)
  have E14 : (p.kind = 14) = False := eq_false (by omega)
  have E15 : (p.kind = 15) = False := eq_false (by omega)
  have E16 : (p.kind = 16) = False := eq_false (by omega)
  have E20 : (p.kind = 20) = False := eq_false (by omega)
  have E21 : (p.kind = 21) = False := eq_false (by omega)
  have E22 : (p.kind = 22) = False := eq_false (by omega)
  have E23 : (p.kind = 23) = False := eq_false (by omega)
  have E24 : (p.kind = 24) = False := eq_false (by omega)
  have E25 : (p.kind = 25) = False := eq_false (by omega)
  have E26 : (p.kind = 26) = False := eq_false (by omega)
  have E27 : (p.kind = 27) = False := eq_false (by omega)
  have E28 : (p.kind = 28) = False := eq_false (by omega)
  have E29 : (p.kind = 29) = False := eq_false (by omega)
  have E30 : (p.kind = 30) = False := eq_false (by omega)
  have E31 : (p.kind = 31) = False := eq_false (by omega)
  have E32 : (p.kind = 32) = False := eq_false (by omega)
  have E33 : (p.kind = 33) = False := eq_false (by omega)
  have E34 : (p.kind = 34) = False := eq_false (by omega)
  have E35 : (p.kind = 35) = False := eq_false (by omega)
  have E36 : (p.kind = 36) = False := eq_false (by omega)
  have E37 : (p.kind = 37) = False := eq_false (by omega)
  have E40 : (p.kind = 40) = False := eq_false (by omega)
  have E41 : (p.kind = 41) = False := eq_false (by omega)
  have E42 : (p.kind = 42) = False := eq_false (by omega)
  unfold NodeEq
  simp only [s1, if_true, if_false, Bool.false_eq_true]
  unfold shapeOk shapeMid stmtOk
  simp only [E1, E2, E3, E4, E5, E6, E7, E8, E9, E10, E11, E12, E13, E14, E15, E16, E20, E21, E22, E23, E24, E25, E26, E27, E28, E29, E30, E31, E32, E33, E34, E35, E36, E37, E40, E41, E42, or_false, false_or, or_true, true_or, or_self, if_true, if_false, decide_true, decide_false, Bool.false_and, Bool.true_and]
  have h1 := @exprs_1 ks
  have h2 := @exprs_2 ks
  have h3 := @exprs_k ks
  have h4 := @names_nil p
  have h5 : flt0 0 = true := flt0_0
  simp only [shapeEnd, headOk, bare, named, s1, alls_exprs, base_eq, alls_all, fltSame_zero, entry_fun, decide_true, decide_false]
  rw [Bool.eq_iff_iff]
  simp only [Bool.and_eq_true, Bool.or_eq_true, decide_eq_true_eq, Bool.not_eq_true', Bool.and_eq_false_iff, decide_eq_false_iff_not, Bool.true_or, Bool.false_or, if_true, if_false, Bool.false_eq_true]
  grind
theorem ne_5 {p : LPart} {ks : List Int} (hl : (ks.length : Int) = p.kids.length) (hk : p.kind = 5) : NodeEq p ks := by
  have s1 : isStat p.kind = true := by simp [isStat, hk]
  have E1 : (p.kind = 1) = False := eq_false (by omega)
  have E2 : (p.kind = 2) = False := eq_false (by omega)
  have E3 : (p.kind = 3) = False := eq_false (by omega)
  have E4 : (p.kind = 4) = False := eq_false (by omega)
  have E5 : (p.kind = 5) = True := eq_true (by omega)
  have E6 : (p.kind = 6) = False := eq_false (by omega)
  have E7 : (p.kind = 7) = False := eq_false (by omega)
  have E8 : (p.kind = 8) = False := eq_false (by omega)
  have E9 : (p.kind = 9) = False := eq_false (by omega)
  have E10 : (p.kind = 10) = False := eq_false (by omega)
  have E11 : (p.kind = 11) = False := eq_false (by omega)
  have E12 : (p.kind = 12) = False := eq_false (by omega)
  have E13 : (p.kind = 13) = False := eq_false (by omega)
  have E14 : (p.kind = 14) = False := eq_false (by omega)
  have E15 : (p.kind = 15) = False := eq_false (by omega)
  have E16 : (p.kind = 16) = False := eq_false (by omega)
  have E20 : (p.kind = 20) = False := eq_false (by omega)
  have E21 : (p.kind = 21) = False := eq_false (by omega)
  have E22 : (p.kind = 22) = False := eq_false (by omega)
  have E23 : (p.kind = 23) = False := eq_false (by omega)
  have E24 : (p.kind = 24) = False := eq_false (by omega)
  have E25 : (p.kind = 25) = False := eq_false (by omega)
  have E26 : (p.kind = 26) = False := eq_false (by omega)
  have E27 : (p.kind = 27) = False := eq_false (by omega)
  have E28 : (p.kind = 28) = False := eq_false (by omega)
  have E29 : (p.kind = 29) = False := eq_false (by omega)
  have E30 : (p.kind = 30) = False := eq_false (by omega)
  have E31 : (p.kind = 31) = False := eq_false (by omega)
  have E32 : (p.kind = 32) = False := eq_false (by omega)
  have E33 : (p.kind = 33) = False := eq_false (by omega)
  have E34 : (p.kind = 34) = False := eq_false (by omega)
  have E35 : (p.kind = 35) = False := eq_false (by omega)
  have E36 : (p.kind = 36) = False := eq_false (by omega)
  have E37 : (p.kind = 37) = False := eq_false (by omega)
  have E40 : (p.kind = 40) = False := eq_false (by omega)
  have E41 : (p.kind = 41) = False := eq_false (by omega)
  have E42 : (p.kind = 42) = False := eq_false (by omega)
  unfold NodeEq
  simp only [s1, if_true, if_false, Bool.false_eq_true]
  unfold shapeOk shapeMid stmtOk
  simp only [E1, E2, E3, E4, E5, E6, E7, E8, E9, E10, E11, E12, E13, E14, E15, E16, E20, E21, E22, E23, E24, E25, E26, E27, E28, E29, E30, E31, E32, E33, E34, E35, E36, E37, E40, E41, E42, or_false, false_or, or_true, true_or, or_self, if_true, if_false, decide_true, decide_false, Bool.false_and, Bool.true_and]
  have h1 := @exprs_1 ks
  have h2 := @exprs_2 ks
  have h3 := @exprs_k ks
  have h4 := @names_nil p
  have h5 : flt0 0 = true := flt0_0
  simp only [shapeEnd, headOk, bare, named, s1, alls_exprs, base_eq, alls_take, fltSame_zero, entry_fun, decide_true, decide_false]
  rw [Bool.eq_iff_iff]
  simp only [Bool.and_eq_true, Bool.or_eq_true, decide_eq_true_eq, Bool.not_eq_true', Bool.and_eq_false_iff, decide_eq_false_iff_not, Bool.true_or, Bool.false_or, if_true, if_false, Bool.false_eq_true]
  grind
theorem ne_6 {p : LPart} {ks : List Int} (hl : (ks.length : Int) = p.kids.length) (hk : p.kind = 6) : NodeEq p ks := by
  have s1 : isStat p.kind = true := by simp [isStat, hk]
  have E1 : (p.kind = 1) = False := eq_false (by omega)
  have E2 : (p.kind = 2) = False := eq_false (by omega)
  have E3 : (p.kind = 3) = False := eq_false (by omega)
  have E4 : (p.kind = 4) = False := eq_false (by omega)
  have E5 : (p.kind = 5) = False := eq_false (by omega)
  have E6 : (p.kind = 6) = True := eq_true (by omega)
  have E7 : (p.kind = 7) = False := eq_false (by omega)
  have E8 : (p.kind = 8) = False := eq_false (by omega)
  have E9 : (p.kind = 9) = False := eq_false (by omega)
  have E10 : (p.kind = 10) = False := eq_false (by omega)
  have E11 : (p.kind = 11) = False := eq_false (by omega)
  have E12 : (p.kind = 12) = False := eq_false (by omega)
  have E13 : (p.kind = 13) = False := eq_false (by omega)
  have E14 : (p.kind = 14) = False := eq_false (by omega)
  have E15 : (p.kind = 15) = False := eq_false (by omega)
  have E16 : (p.kind = 16) = False := eq_false (by omega)
  have E20 : (p.kind = 20) = False := eq_false (by omega)
  have E21 : (p.kind = 21) = False := eq_false (by omega)
  have E22 : (p.kind = 22) = False := eq_false (by omega)
  have E23 : (p.kind = 23) = False := eq_false (by omega)
  have E24 : (p.kind = 24) = False := eq_false (by omega)
  have E25 : (p.kind = 25) = False := eq_false (by omega)
  have E26 : (p.kind = 26) = False := eq_false (by omega)
  have E27 : (p.kind = 27) = False := eq_false (by omega)
  have E28 : (p.kind = 28) = False := eq_false (by omega)
  have E29 : (p.kind = 29) = False := eq_false (by omega)
  have E30 : (p.kind = 30) = False := eq_false (by omega)
  have E31 : (p.kind = 31) = False := eq_false (by omega)
  have E32 : (p.kind = 32) = False := eq_false (by omega)
  have E33 : (p.kind = 33) = False := eq_false (by omega)
  have E34 : (p.kind = 34) = False := eq_false (by omega)
  have E35 : (p.kind = 35) = False := eq_false (by omega)
  have E36 : (p.kind = 36) = False := eq_false (by omega)
  have E37 : (p.kind = 37) = False := eq_false (by omega)
  have E40 : (p.kind = 40) = False := eq_false (by omega)
  have E41 : (p.kind = 41) = False := eq_false (by omega)
  have E42 : (p.kind = 42) = False := eq_false (by omega)
  unfold NodeEq
  simp only [s1, if_true, if_false, Bool.false_eq_true]
  unfold shapeOk shapeMid stmtOk
  simp only [E1, E2, E3, E4, E5, E6, E7, E8, E9, E10, E11, E12, E13, E14, E15, E16, E20, E21, E22, E23, E24, E25, E26, E27, E28, E29, E30, E31, E32, E33, E34, E35, E36, E37, E40, E41, E42, or_false, false_or, or_true, true_or, or_self, if_true, if_false, decide_true, decide_false, Bool.false_and, Bool.true_and]
  have h1 := @exprs_1 ks
  have h2 := @exprs_2 ks
  have h3 := @exprs_k ks
  have h4 := @names_nil p
  have h5 : flt0 0 = true := flt0_0
  simp only [shapeEnd, headOk, bare, named, s1, alls_exprs, base_eq, alls_all, fltSame_zero, entry_fun, decide_true, decide_false]
  rw [Bool.eq_iff_iff]
  simp only [Bool.and_eq_true, Bool.or_eq_true, decide_eq_true_eq, Bool.not_eq_true', Bool.and_eq_false_iff, decide_eq_false_iff_not, Bool.true_or, Bool.false_or, if_true, if_false, Bool.false_eq_true]
  grind
theorem ne_7 {p : LPart} {ks : List Int} (hl : (ks.length : Int) = p.kids.length) (hk : p.kind = 7) : NodeEq p ks := by
  have s1 : isStat p.kind = true := by simp [isStat, hk]
  have E1 : (p.kind = 1) = False := eq_false (by omega)
  have E2 : (p.kind = 2) = False := eq_false (by omega)
  have E3 : (p.kind = 3) = False := eq_false (by omega)
  have E4 : (p.kind = 4) = False := eq_false (by omega)
  have E5 : (p.kind = 5) = False := eq_false (by omega)
  have E6 : (p.kind = 6) = False := eq_false (by omega)
  have E7 : (p.kind = 7) = True := eq_true (by omega)
  have E8 : (p.kind = 8) = False := eq_false (by omega)
  have E9 : (p.kind = 9) = False := eq_false (by omega)
  have E10 : (p.kind = 10) = False := eq_false (by omega)
  have E11 : (p.kind = 11) = False := eq_false (by omega)
  have E12 : (p.kind = 12) = False := eq_false (by omega)
  have E13 : (p.kind = 13) = False := eq_false (by omega)
  have E14 : (p.kind = 14) = False := eq_false (by omega)
  have E15 : (p.kind = 15) = False := eq_false (by omega)
  have E16 : (p.kind = 16) = False := eq_false (by omega)
  have E20 : (p.kind = 20) = False := eq_false (by omega)
  have E21 : (p.kind = 21) = False := eq_false (by omega)
  have E22 : (p.kind = 22) = False := eq_false (by omega)
  have E23 : (p.kind = 23) = False := eq_false (by omega)
  have E24 : (p.kind = 24) = False := eq_false (by omega)
  have E25 : (p.kind = 25) = False := eq_false (by omega)
  have E26 : (p.kind = 26) = False := eq_false (by omega)
  have E27 : (p.kind = 27) = False := eq_false (by omega)
  have E28 : (p.kind = 28) = False := eq_false (by omega)
  have E29 : (p.kind = 29) = False := eq_false (by omega)
  have E30 : (p.kind = 30) = False := eq_false (by omega)
  have E31 : (p.kind = 31) = False := eq_false (by omega)
  have E32 : (p.kind = 32) = False := eq_false (by omega)
  have E33 : (p.kind = 33) = False := eq_false (by omega)
  have E34 : (p.kind = 34) = False := eq_false (by omega)
  have E35 : (p.kind = 35) = False := eq_false (by omega)
  have E36 : (p.kind = 36) = False := eq_false (by omega)
  have E37 : (p.kind = 37) = False := eq_false (by omega)
  have E40 : (p.kind = 40) = False := eq_false (by omega)
  have E41 : (p.kind = 41) = False := eq_false (by omega)
  have E42 : (p.kind = 42) = False := eq_false (by omega)
  unfold NodeEq
  simp only [s1, if_true, if_false, Bool.false_eq_true]
  unfold shapeOk shapeMid stmtOk
  simp only [E1, E2, E3, E4, E5, E6, E7, E8, E9, E10, E11, E12, E13, E14, E15, E16, E20, E21, E22, E23, E24, E25, E26, E27, E28, E29, E30, E31, E32, E33, E34, E35, E36, E37, E40, E41, E42, or_false, false_or, or_true, true_or, or_self, if_true, if_false, decide_true, decide_false, Bool.false_and, Bool.true_and]
  have h1 := @exprs_1 ks
  have h2 := @exprs_2 ks
  have h3 := @exprs_k ks
  have h4 := @names_nil p
  have h5 : flt0 0 = true := flt0_0
  simp only [shapeEnd, headOk, bare, named, s1, alls_exprs, base_eq, alls_all, fltSame_zero, entry_fun, decide_true, decide_false]
  rw [Bool.eq_iff_iff]
  simp only [Bool.and_eq_true, Bool.or_eq_true, decide_eq_true_eq, Bool.not_eq_true', Bool.and_eq_false_iff, decide_eq_false_iff_not, Bool.true_or, Bool.false_or, if_true, if_false, Bool.false_eq_true]
  grind
theorem ne_8 {p : LPart} {ks : List Int} (hl : (ks.length : Int) = p.kids.length) (hk : p.kind = 8) : NodeEq p ks := by
  have s1 : isStat p.kind = true := by simp [isStat, hk]
  have E1 : (p.kind = 1) = False := eq_false (by omega)
  have E2 : (p.kind = 2) = False := eq_false (by omega)
  have E3 : (p.kind = 3) = False := eq_false (by omega)
  have E4 : (p.kind = 4) = False := eq_false (by omega)
  have E5 : (p.kind = 5) = False := eq_false (by omega)
  have E6 : (p.kind = 6) = False := eq_false (by omega)
  have E7 : (p.kind = 7) = False := eq_false (by omega)
  have E8 : (p.kind = 8) = True := eq_true (by omega)
  have E9 : (p.kind = 9) = False := eq_false (by omega)
  have E10 : (p.kind = 10) = False := eq_false (by omega)
  have E11 : (p.kind = 11) = False := eq_false (by omega)
  have E12 : (p.kind = 12) = False := eq_false (by omega)
  have E13 : (p.kind = 13) = False := eq_false (by omega)
  have E14 : (p.kind = 14) = False := eq_false (by omega)
  have E15 : (p.kind = 15) = False := eq_false (by omega)
  have E16 : (p.kind = 16) = False := eq_false (by omega)
  have E20 : (p.kind = 20) = False := eq_false (by omega)
  have E21 : (p.kind = 21) = False := eq_false (by omega)
  have E22 : (p.kind = 22) = False := eq_false (by omega)
  have E23 : (p.kind = 23) = False := eq_false (by omega)
  have E24 : (p.kind = 24) = False := eq_false (by omega)
  have E25 : (p.kind = 25) = False := eq_false (by omega)
  have E26 : (p.kind = 26) = False := eq_false (by omega)
  have E27 : (p.kind = 27) = False := eq_false (by omega)
  have E28 : (p.kind = 28) = False := eq_false (by omega)
  have E29 : (p.kind = 29) = False := eq_false (by omega)
  have E30 : (p.kind = 30) = False := eq_false (by omega)
  have E31 : (p.kind = 31) = False := eq_false (by omega)
  have E32 : (p.kind = 32) = False := eq_false (by omega)
  have E33 : (p.kind = 33) = False := eq_false (by omega)
  have E34 : (p.kind = 34) = False := eq_false (by omega)
  have E35 : (p.kind = 35) = False := eq_false (by omega)
  have E36 : (p.kind = 36) = False := eq_false (by omega)
  have E37 : (p.kind = 37) = False := eq_false (by omega)
  have E40 : (p.kind = 40) = False := eq_false (by omega)
  have E41 : (p.kind = 41) = False := eq_false (by omega)
  have E42 : (p.kind = 42) = False := eq_false (by omega)
  unfold NodeEq
  simp only [s1, if_true, if_false, Bool.false_eq_true]
  unfold shapeOk shapeMid stmtOk
  simp only [E1, E2, E3, E4, E5, E6, E7, E8, E9, E10, E11, E12, E13, E14, E15, E16, E20, E21, E22, E23, E24, E25, E26, E27, E28, E29, E30, E31, E32, E33, E34, E35, E36, E37, E40, E41, E42, or_false, false_or, or_true, true_or, or_self, if_true, if_false, decide_true, decide_false, Bool.false_and, Bool.true_and]
  have h1 := @exprs_1 ks
  have h2 := @exprs_2 ks
  have h3 := @exprs_k ks
  have h4 := @names_nil p
  have h5 : flt0 0 = true := flt0_0
  simp only [shapeEnd, headOk, bare, named, s1, alls_exprs, base_eq, alls_all, fltSame_zero, entry_fun, decide_true, decide_false]
  rw [Bool.eq_iff_iff]
  simp only [Bool.and_eq_true, Bool.or_eq_true, decide_eq_true_eq, Bool.not_eq_true', Bool.and_eq_false_iff, decide_eq_false_iff_not, Bool.true_or, Bool.false_or, if_true, if_false, Bool.false_eq_true]
  grind
theorem ne_9 {p : LPart} {ks : List Int} (hl : (ks.length : Int) = p.kids.length) (hk : p.kind = 9) : NodeEq p ks := by
  have s1 : isStat p.kind = true := by simp [isStat, hk]
  have E1 : (p.kind = 1) = False := eq_false (by omega)
  have E2 : (p.kind = 2) = False := eq_false (by omega)
  have E3 : (p.kind = 3) = False := eq_false (by omega)
  have E4 : (p.kind = 4) = False := eq_false (by omega)
  have E5 : (p.kind = 5) = False := eq_false (by omega)
  have E6 : (p.kind = 6) = False := eq_false (by omega)
  have E7 : (p.kind = 7) = False := eq_false (by omega)
  have E8 : (p.kind = 8) = False := eq_false (by omega)
  have E9 : (p.kind = 9) = True := eq_true (by omega)
  have E10 : (p.kind = 10) = False := eq_false (by omega)
  have E11 : (p.kind = 11) = False := eq_false (by omega)
  have E12 : (p.kind = 12) = False := eq_false (by omega)
  have E13 : (p.kind = 13) = False := eq_false (by omega)
  have E14 : (p.kind = 14) = False := eq_false (by omega)
  have E15 : (p.kind = 15) = False := eq_false (by omega)
  have E16 : (p.kind = 16) = False := eq_false (by omega)
  have E20 : (p.kind = 20) = False := eq_false (by omega)
  have E21 : (p.kind = 21) = False := eq_false (by omega)
  have E22 : (p.kind = 22) = False := eq_false (by omega)
  have E23 : (p.kind = 23) = False := eq_false (by omega)
  have E24 : (p.kind = 24) = False := eq_false (by omega)
  have E25 : (p.kind = 25) = False := eq_false (by omega)
  have E26 : (p.kind = 26) = False := eq_false (by omega)
  have E27 : (p.kind = 27) = False := eq_false (by omega)
  have E28 : (p.kind = 28) = False := eq_false (by omega)
  have E29 : (p.kind = 29) = False := eq_false (by omega)
  have E30 : (p.kind = 30) = False := eq_false (by omega)
  have E31 : (p.kind = 31) = False := eq_false (by omega)
  have E32 : (p.kind = 32) = False := eq_false (by omega)
  have E33 : (p.kind = 33) = False := eq_false (by omega)
  have E34 : (p.kind = 34) = False := eq_false (by omega)
  have E35 : (p.kind = 35) = False := eq_false (by omega)
  have E36 : (p.kind = 36) = False := eq_false (by omega)
  have E37 : (p.kind = 37) = False := eq_false (by omega)
  have E40 : (p.kind = 40) = False := eq_false (by omega)
  have E41 : (p.kind = 41) = False := eq_false (by omega)
  have E42 : (p.kind = 42) = False := eq_false (by omega)
  unfold NodeEq
  simp only [s1, if_true, if_false, Bool.false_eq_true]
  unfold shapeOk shapeMid stmtOk
  simp only [E1, E2, E3, E4, E5, E6, E7, E8, E9, E10, E11, E12, E13, E14, E15, E16, E20, E21, E22, E23, E24, E25, E26, E27, E28, E29, E30, E31, E32, E33, E34, E35, E36, E37, E40, E41, E42, or_false, false_or, or_true, true_or, or_self, if_true, if_false, decide_true, decide_false, Bool.false_and, Bool.true_and]
  have h1 := @exprs_1 ks
  have h2 := @exprs_2 ks
  have h3 := @exprs_k ks
  have h4 := @names_nil p
  have h5 : flt0 0 = true := flt0_0
  simp only [shapeEnd, headOk, bare, named, s1, alls_exprs, base_eq, alls_all, fltSame_zero, entry_fun, decide_true, decide_false]
  rw [Bool.eq_iff_iff]
  simp only [Bool.and_eq_true, Bool.or_eq_true, decide_eq_true_eq, Bool.not_eq_true', Bool.and_eq_false_iff, decide_eq_false_iff_not, Bool.true_or, Bool.false_or, if_true, if_false, Bool.false_eq_true]
  grind
theorem ne_10 {p : LPart} {ks : List Int} (hl : (ks.length : Int) = p.kids.length) (hk : p.kind = 10) : NodeEq p ks := by
  have s1 : isStat p.kind = true := by simp [isStat, hk]
  have E1 : (p.kind = 1) = False := eq_false (by omega)
  have E2 : (p.kind = 2) = False := eq_false (by omega)
  have E3 : (p.kind = 3) = False := eq_false (by omega)
  have E4 : (p.kind = 4) = False := eq_false (by omega)
  have E5 : (p.kind = 5) = False := eq_false (by omega)
  have E6 : (p.kind = 6) = False := eq_false (by omega)
  have E7 : (p.kind = 7) = False := eq_false (by omega)
  have E8 : (p.kind = 8) = False := eq_false (by omega)
  have E9 : (p.kind = 9) = False := eq_false (by omega)
  have E10 : (p.kind = 10) = True := eq_true (by omega)
  have E11 : (p.kind = 11) = False := eq_false (by omega)
  have E12 : (p.kind = 12) = False := eq_false (by omega)
  have E13 : (p.kind = 13) = False := eq_false (by omega)
  have E14 : (p.kind = 14) = False := eq_false (by omega)
  have E15 : (p.kind = 15) = False := eq_false (by omega)
  have E16 : (p.kind = 16) = False := eq_false (by omega)
  have E20 : (p.kind = 20) = False := eq_false (by omega)
  have E21 : (p.kind = 21) = False := eq_false (by omega)
  have E22 : (p.kind = 22) = False := eq_false (by omega)
  have E23 : (p.kind = 23) = False := eq_false (by omega)
  have E24 : (p.kind = 24) = False := eq_false (by omega)
  have E25 : (p.kind = 25) = False := eq_false (by omega)
  have E26 : (p.kind = 26) = False := eq_false (by omega)
  have E27 : (p.kind = 27) = False := eq_false (by omega)
  have E28 : (p.kind = 28) = False := eq_false (by omega)
  have E29 : (p.kind = 29) = False := eq_false (by omega)
  have E30 : (p.kind = 30) = False := eq_false (by omega)
  have E31 : (p.kind = 31) = False := eq_false (by omega)
  have E32 : (p.kind = 32) = False := eq_false (by omega)
  have E33 : (p.kind = 33) = False := eq_false (by omega)
  have E34 : (p.kind = 34) = False := eq_false (by omega)
  have E35 : (p.kind = 35) = False := eq_false (by omega)
  have E36 : (p.kind = 36) = False := eq_false (by omega)
  have E37 : (p.kind = 37) = False := eq_false (by omega)
  have E40 : (p.kind = 40) = False := eq_false (by omega)
  have E41 : (p.kind = 41) = False := eq_false (by omega)
  have E42 : (p.kind = 42) = False := eq_false (by omega)
  unfold NodeEq
  simp only [s1, if_true, if_false, Bool.false_eq_true]
  unfold shapeOk shapeMid stmtOk
  simp only [E1, E2, E3, E4, E5, E6, E7, E8, E9, E10, E11, E12, E13, E14, E15, E16, E20, E21, E22, E23, E24, E25, E26, E27, E28, E29, E30, E31, E32, E33, E34, E35, E36, E37, E40, E41, E42, or_false, false_or, or_true, true_or, or_self, if_true, if_false, decide_true, decide_false, Bool.false_and, Bool.true_and]
  have h1 := @exprs_1 ks
  have h2 := @exprs_2 ks
  have h3 := @exprs_k ks
  have h4 := @names_nil p
  have h5 : flt0 0 = true := flt0_0
  simp only [shapeEnd, headOk, bare, named, s1, alls_exprs, base_eq, alls_all, fltSame_zero, entry_fun, decide_true, decide_false]
  rw [Bool.eq_iff_iff]
  simp only [Bool.and_eq_true, Bool.or_eq_true, decide_eq_true_eq, Bool.not_eq_true', Bool.and_eq_false_iff, decide_eq_false_iff_not, Bool.true_or, Bool.false_or, if_true, if_false, Bool.false_eq_true]
  grind
theorem ne_11 {p : LPart} {ks : List Int} (hl : (ks.length : Int) = p.kids.length) (hk : p.kind = 11) : NodeEq p ks := by
  have s1 : isStat p.kind = true := by simp [isStat, hk]
  have E1 : (p.kind = 1) = False := eq_false (by omega)
  have E2 : (p.kind = 2) = False := eq_false (by omega)
  have E3 : (p.kind = 3) = False := eq_false (by omega)
  have E4 : (p.kind = 4) = False := eq_false (by omega)
  have E5 : (p.kind = 5) = False := eq_false (by omega)
  have E6 : (p.kind = 6) = False := eq_false (by omega)
  have E7 : (p.kind = 7) = False := eq_false (by omega)
  have E8 : (p.kind = 8) = False := eq_false (by omega)
  have E9 : (p.kind = 9) = False := eq_false (by omega)
  have E10 : (p.kind = 10) = False := eq_false (by omega)
  have E11 : (p.kind = 11) = True := eq_true (by omega)
  have E12 : (p.kind = 12) = False := eq_false (by omega)
  have E13 : (p.kind = 13) = False := eq_false (by omega)
  have E14 : (p.kind = 14) = False := eq_false (by omega)
  have E15 : (p.kind = 15) = False := eq_false (by omega)
  have E16 : (p.kind = 16) = False := eq_false (by omega)
  have E20 : (p.kind = 20) = False := eq_false (by omega)
  have E21 : (p.kind = 21) = False := eq_false (by omega)
  have E22 : (p.kind = 22) = False := eq_false (by omega)
  have E23 : (p.kind = 23) = False := eq_false (by omega)
  have E24 : (p.kind = 24) = False := eq_false (by omega)
  have E25 : (p.kind = 25) = False := eq_false (by omega)
  have E26 : (p.kind = 26) = False := eq_false (by omega)
  have E27 : (p.kind = 27) = False := eq_false (by omega)
  have E28 : (p.kind = 28) = False := eq_false (by omega)
  have E29 : (p.kind = 29) = False := eq_false (by omega)
  have E30 : (p.kind = 30) = False := eq_false (by omega)
  have E31 : (p.kind = 31) = False := eq_false (by omega)
  have E32 : (p.kind = 32) = False := eq_false (by omega)
  have E33 : (p.kind = 33) = False := eq_false (by omega)
  have E34 : (p.kind = 34) = False := eq_false (by omega)
  have E35 : (p.kind = 35) = False := eq_false (by omega)
  have E36 : (p.kind = 36) = False := eq_false (by omega)
  have E37 : (p.kind = 37) = False := eq_false (by omega)
  have E40 : (p.kind = 40) = False := eq_false (by omega)
  have E41 : (p.kind = 41) = False := eq_false (by omega)
  have E42 : (p.kind = 42) = False := eq_false (by omega)
  unfold NodeEq
  simp only [s1, if_true, if_false, Bool.false_eq_true]
  unfold shapeOk shapeMid stmtOk
  simp only [E1, E2, E3, E4, E5, E6, E7, E8, E9, E10, E11, E12, E13, E14, E15, E16, E20, E21, E22, E23, E24, E25, E26, E27, E28, E29, E30, E31, E32, E33, E34, E35, E36, E37, E40, E41, E42, or_false, false_or, or_true, true_or, or_self, if_true, if_false, decide_true, decide_false, Bool.false_and, Bool.true_and]
  have h1 := @exprs_1 ks
  have h2 := @exprs_2 ks
  have h3 := @exprs_k ks
  have h4 := @names_nil p
  have h5 : flt0 0 = true := flt0_0
  simp only [shapeEnd, headOk, bare, named, s1, alls_exprs, base_eq, alls_all, fltSame_zero, entry_fun, decide_true, decide_false]
  rw [Bool.eq_iff_iff]
  simp only [Bool.and_eq_true, Bool.or_eq_true, decide_eq_true_eq, Bool.not_eq_true', Bool.and_eq_false_iff, decide_eq_false_iff_not, Bool.true_or, Bool.false_or, if_true, if_false, Bool.false_eq_true]
  grind
theorem ne_12 {p : LPart} {ks : List Int} (hl : (ks.length : Int) = p.kids.length) (hk : p.kind = 12) : NodeEq p ks := by
  have s1 : isStat p.kind = true := by simp [isStat, hk]
  have E1 : (p.kind = 1) = False := eq_false (by omega)
  have E2 : (p.kind = 2) = False := eq_false (by omega)
  have E3 : (p.kind = 3) = False := eq_false (by omega)
  have E4 : (p.kind = 4) = False := eq_false (by omega)
  have E5 : (p.kind = 5) = False := eq_false (by omega)
  have E6 : (p.kind = 6) = False := eq_false (by omega)
  have E7 : (p.kind = 7) = False := eq_false (by omega)
  have E8 : (p.kind = 8) = False := eq_false (by omega)
  have E9 : (p.kind = 9) = False := eq_false (by omega)
  have E10 : (p.kind = 10) = False := eq_false (by omega)
  have E11 : (p.kind = 11) = False := eq_false (by omega)
  have E12 : (p.kind = 12) = True := eq_true (by omega)
  have E13 : (p.kind = 13) = False := eq_false (by omega)
  have E14 : (p.kind = 14) = False := eq_false (by omega)
  have E15 : (p.kind = 15) = False := eq_false (by omega)
  have E16 : (p.kind = 16) = False := eq_false (by omega)
  have E20 : (p.kind = 20) = False := eq_false (by omega)
  have E21 : (p.kind = 21) = False := eq_false (by omega)
  have E22 : (p.kind = 22) = False := eq_false (by omega)
  have E23 : (p.kind = 23) = False := eq_false (by omega)
  have E24 : (p.kind = 24) = False := eq_false (by omega)
  have E25 : (p.kind = 25) = False := eq_false (by omega)
  have E26 : (p.kind = 26) = False := eq_false (by omega)
  have E27 : (p.kind = 27) = False := eq_false (by omega)
  have E28 : (p.kind = 28) = False := eq_false (by omega)
  have E29 : (p.kind = 29) = False := eq_false (by omega)
  have E30 : (p.kind = 30) = False := eq_false (by omega)
  have E31 : (p.kind = 31) = False := eq_false (by omega)
  have E32 : (p.kind = 32) = False := eq_false (by omega)
  have E33 : (p.kind = 33) = False := eq_false (by omega)
  have E34 : (p.kind = 34) = False := eq_false (by omega)
  have E35 : (p.kind = 35) = False := eq_false (by omega)
  have E36 : (p.kind = 36) = False := eq_false (by omega)
  have E37 : (p.kind = 37) = False := eq_false (by omega)
  have E40 : (p.kind = 40) = False := eq_false (by omega)
  have E41 : (p.kind = 41) = False := eq_false (by omega)
  have E42 : (p.kind = 42) = False := eq_false (by omega)
  unfold NodeEq
  simp only [s1, if_true, if_false, Bool.false_eq_true]
  unfold shapeOk shapeMid stmtOk
  simp only [E1, E2, E3, E4, E5, E6, E7, E8, E9, E10, E11, E12, E13, E14, E15, E16, E20, E21, E22, E23, E24, E25, E26, E27, E28, E29, E30, E31, E32, E33, E34, E35, E36, E37, E40, E41, E42, or_false, false_or, or_true, true_or, or_self, if_true, if_false, decide_true, decide_false, Bool.false_and, Bool.true_and]
  have h1 := @exprs_1 ks
  have h2 := @exprs_2 ks
  have h3 := @exprs_k ks
  have h4 := @names_nil p
  have h5 : flt0 0 = true := flt0_0
  simp only [shapeEnd, headOk, bare, named, s1, alls_exprs, base_eq, alls_all, fltSame_zero, entry_fun, decide_true, decide_false]
  rw [Bool.eq_iff_iff]
  simp only [Bool.and_eq_true, Bool.or_eq_true, decide_eq_true_eq, Bool.not_eq_true', Bool.and_eq_false_iff, decide_eq_false_iff_not, Bool.true_or, Bool.false_or, if_true, if_false, Bool.false_eq_true]
  grind
theorem ne_13 {p : LPart} {ks : List Int} (hl : (ks.length : Int) = p.kids.length) (hk : p.kind = 13) : NodeEq p ks := by
  have s1 : isStat p.kind = true := by simp [isStat, hk]
  have E1 : (p.kind = 1) = False := eq_false (by omega)
  have E2 : (p.kind = 2) = False := eq_false (by omega)
  have E3 : (p.kind = 3) = False := eq_false (by omega)
  have E4 : (p.kind = 4) = False := eq_false (by omega)
  have E5 : (p.kind = 5) = False := eq_false (by omega)
  have E6 : (p.kind = 6) = False := eq_false (by omega)
  have E7 : (p.kind = 7) = False := eq_false (by omega)
  have E8 : (p.kind = 8) = False := eq_false (by omega)
  have E9 : (p.kind = 9) = False := eq_false (by omega)
  have E10 : (p.kind = 10) = False := eq_false (by omega)
  have E11 : (p.kind = 11) = False := eq_false (by omega)
  have E12 : (p.kind = 12) = False := eq_false (by omega)
  have E13 : (p.kind = 13) = True := eq_true (by omega)
  have E14 : (p.kind = 14) = False := eq_false (by omega)
  have E15 : (p.kind = 15) = False := eq_false (by omega)
  have E16 : (p.kind = 16) = False := eq_false (by omega)
  have E20 : (p.kind = 20) = False := eq_false (by omega)
  have E21 : (p.kind = 21) = False := eq_false (by omega)
  have E22 : (p.kind = 22) = False := eq_false (by omega)
  have E23 : (p.kind = 23) = False := eq_false (by omega)
  have E24 : (p.kind = 24) = False := eq_false (by omega)
  have E25 : (p.kind = 25) = False := eq_false (by omega)
  have E26 : (p.kind = 26) = False := eq_false (by omega)
  have E27 : (p.kind = 27) = False := eq_false (by omega)
  have E28 : (p.kind = 28) = False := eq_false (by omega)
  have E29 : (p.kind = 29) = False := eq_false (by omega)
  have E30 : (p.kind = 30) = False := eq_false (by omega)
  have E31 : (p.kind = 31) = False := eq_false (by omega)
  have E32 : (p.kind = 32) = False := eq_false (by omega)
  have E33 : (p.kind = 33) = False := eq_false (by omega)
  have E34 : (p.kind = 34) = False := eq_false (by omega)
  have E35 : (p.kind = 35) = False := eq_false (by omega)
  have E36 : (p.kind = 36) = False := eq_false (by omega)
  have E37 : (p.kind = 37) = False := eq_false (by omega)
  have E40 : (p.kind = 40) = False := eq_false (by omega)
  have E41 : (p.kind = 41) = False := eq_false (by omega)
  have E42 : (p.kind = 42) = False := eq_false (by omega)
  unfold NodeEq
  simp only [s1, if_true, if_false, Bool.false_eq_true]
  unfold shapeOk shapeMid stmtOk
  simp only [E1, E2, E3, E4, E5, E6, E7, E8, E9, E10, E11, E12, E13, E14, E15, E16, E20, E21, E22, E23, E24, E25, E26, E27, E28, E29, E30, E31, E32, E33, E34, E35, E36, E37, E40, E41, E42, or_false, false_or, or_true, true_or, or_self, if_true, if_false, decide_true, decide_false, Bool.false_and, Bool.true_and]
  have h1 := @exprs_1 ks
  have h2 := @exprs_2 ks
  have h3 := @exprs_k ks
  have h4 := @names_nil p
  have h5 : flt0 0 = true := flt0_0
  simp only [shapeEnd, headOk, bare, named, s1, alls_exprs, base_eq, alls_all, exprs_all, fltSame_zero, entry_fun, decide_true, decide_false]
  rw [Bool.eq_iff_iff]
  simp only [Bool.and_eq_true, Bool.or_eq_true, decide_eq_true_eq, Bool.not_eq_true', Bool.and_eq_false_iff, decide_eq_false_iff_not, Bool.true_or, Bool.false_or, if_true, if_false, Bool.false_eq_true]
  grind
theorem ne_14 {p : LPart} {ks : List Int} (hl : (ks.length : Int) = p.kids.length) (hk : p.kind = 14) : NodeEq p ks := by
  have s1 : isStat p.kind = true := by simp [isStat, hk]
  have E1 : (p.kind = 1) = False := eq_false (by omega)
  have E2 : (p.kind = 2) = False := eq_false (by omega)
  have E3 : (p.kind = 3) = False := eq_false (by omega)
  have E4 : (p.kind = 4) = False := eq_false (by omega)
  have E5 : (p.kind = 5) = False := eq_false (by omega)
  have E6 : (p.kind = 6) = False := eq_false (by omega)
  have E7 : (p.kind = 7) = False := eq_false (by omega)
  have E8 : (p.kind = 8) = False := eq_false (by omega)
  have E9 : (p.kind = 9) = False := eq_false (by omega)
  have E10 : (p.kind = 10) = False := eq_false (by omega)
  have E11 : (p.kind = 11) = False := eq_false (by omega)
  have E12 : (p.kind = 12) = False := eq_false (by omega)
  have E13 : (p.kind = 13) = False := eq_false (by omega)
  have E14 : (p.kind = 14) = True := eq_true (by omega)
  have E15 : (p.kind = 15) = False := eq_false (by omega)
  have E16 : (p.kind = 16) = False := eq_false (by omega)
  have E20 : (p.kind = 20) = False := eq_false (by omega)
  have E21 : (p.kind = 21) = False := eq_false (by omega)
  have E22 : (p.kind = 22) = False := eq_false (by omega)
  have E23 : (p.kind = 23) = False := eq_false (by omega)
  have E24 : (p.kind = 24) = False := eq_false (by omega)
  have E25 : (p.kind = 25) = False := eq_false (by omega)
  have E26 : (p.kind = 26) = False := eq_false (by omega)
  have E27 : (p.kind = 27) = False := eq_false (by omega)
  have E28 : (p.kind = 28) = False := eq_false (by omega)
  have E29 : (p.kind = 29) = False := eq_false (by omega)
  have E30 : (p.kind = 30) = False := eq_false (by omega)
  have E31 : (p.kind = 31) = False := eq_false (by omega)
  have E32 : (p.kind = 32) = False := eq_false (by omega)
  have E33 : (p.kind = 33) = False := eq_false (by omega)
  have E34 : (p.kind = 34) = False := eq_false (by omega)
  have E35 : (p.kind = 35) = False := eq_false (by omega)
  have E36 : (p.kind = 36) = False := eq_false (by omega)
  have E37 : (p.kind = 37) = False := eq_false (by omega)
  have E40 : (p.kind = 40) = False := eq_false (by omega)
  have E41 : (p.kind = 41) = False := eq_false (by omega)
  have E42 : (p.kind = 42) = False := eq_false (by omega)
  unfold NodeEq
  simp only [s1, if_true, if_false, Bool.false_eq_true]
  unfold shapeOk shapeMid stmtOk
  simp only [E1, E2, E3, E4, E5, E6, E7, E8, E9, E10, E11, E12, E13, E14, E15, E16, E20, E21, E22, E23, E24, E25, E26, E27, E28, E29, E30, E31, E32, E33, E34, E35, E36, E37, E40, E41, E42, or_false, false_or, or_true, true_or, or_self, if_true, if_false, decide_true, decide_false, Bool.false_and, Bool.true_and]
  have h1 := @exprs_1 ks
  have h2 := @exprs_2 ks
  have h3 := @exprs_k ks
  have h4 := @names_nil p
  have h5 : flt0 0 = true := flt0_0
  simp only [shapeEnd, headOk, bare, named, s1, alls_exprs, base_eq, alls_all, fltSame_zero, entry_fun, decide_true, decide_false]
  rw [Bool.eq_iff_iff]
  simp only [Bool.and_eq_true, Bool.or_eq_true, decide_eq_true_eq, Bool.not_eq_true', Bool.and_eq_false_iff, decide_eq_false_iff_not, Bool.true_or, Bool.false_or, if_true, if_false, Bool.false_eq_true]
  grind
theorem ne_15 {p : LPart} {ks : List Int} (hl : (ks.length : Int) = p.kids.length) (hk : p.kind = 15) : NodeEq p ks := by
  have s1 : isStat p.kind = true := by simp [isStat, hk]
  have E1 : (p.kind = 1) = False := eq_false (by omega)
  have E2 : (p.kind = 2) = False := eq_false (by omega)
  have E3 : (p.kind = 3) = False := eq_false (by omega)
  have E4 : (p.kind = 4) = False := eq_false (by omega)
  have E5 : (p.kind = 5) = False := eq_false (by omega)
  have E6 : (p.kind = 6) = False := eq_false (by omega)
  have E7 : (p.kind = 7) = False := eq_false (by omega)
  have E8 : (p.kind = 8) = False := eq_false (by omega)
  have E9 : (p.kind = 9) = False := eq_false (by omega)
  have E10 : (p.kind = 10) = False := eq_false (by omega)
  have E11 : (p.kind = 11) = False := eq_false (by omega)
  have E12 : (p.kind = 12) = False := eq_false (by omega)
  have E13 : (p.kind = 13) = False := eq_false (by omega)
  have E14 : (p.kind = 14) = False := eq_false (by omega)
  have E15 : (p.kind = 15) = True := eq_true (by omega)
  have E16 : (p.kind = 16) = False := eq_false (by omega)
  have E20 : (p.kind = 20) = False := eq_false (by omega)
  have E21 : (p.kind = 21) = False := eq_false (by omega)
  have E22 : (p.kind = 22) = False := eq_false (by omega)
  have E23 : (p.kind = 23) = False := eq_false (by omega)
  have E24 : (p.kind = 24) = False := eq_false (by omega)
  have E25 : (p.kind = 25) = False := eq_false (by omega)
  have E26 : (p.kind = 26) = False := eq_false (by omega)
  have E27 : (p.kind = 27) = False := eq_false (by omega)
  have E28 : (p.kind = 28) = False := eq_false (by omega)
  have E29 : (p.kind = 29) = False := eq_false (by omega)
  have E30 : (p.kind = 30) = False := eq_false (by omega)
  have E31 : (p.kind = 31) = False := eq_false (by omega)
  have E32 : (p.kind = 32) = False := eq_false (by omega)
  have E33 : (p.kind = 33) = False := eq_false (by omega)
  have E34 : (p.kind = 34) = False := eq_false (by omega)
  have E35 : (p.kind = 35) = False := eq_false (by omega)
  have E36 : (p.kind = 36) = False := eq_false (by omega)
  have E37 : (p.kind = 37) = False := eq_false (by omega)
  have E40 : (p.kind = 40) = False := eq_false (by omega)
  have E41 : (p.kind = 41) = False := eq_false (by omega)
  have E42 : (p.kind = 42) = False := eq_false (by omega)
  unfold NodeEq
  simp only [s1, if_true, if_false, Bool.false_eq_true]
  unfold shapeOk shapeMid stmtOk
  simp only [E1, E2, E3, E4, E5, E6, E7, E8, E9, E10, E11, E12, E13, E14, E15, E16, E20, E21, E22, E23, E24, E25, E26, E27, E28, E29, E30, E31, E32, E33, E34, E35, E36, E37, E40, E41, E42, or_false, false_or, or_true, true_or, or_self, if_true, if_false, decide_true, decide_false, Bool.false_and, Bool.true_and]
  have h1 := @exprs_1 ks
  have h2 := @exprs_2 ks
  have h3 := @exprs_k ks
  have h4 := @names_nil p
  have h5 : flt0 0 = true := flt0_0
  simp only [shapeEnd, headOk, bare, named, s1, alls_exprs, base_eq, alls_all, fltSame_zero, entry_fun, decide_true, decide_false]
  rw [Bool.eq_iff_iff]
  simp only [Bool.and_eq_true, Bool.or_eq_true, decide_eq_true_eq, Bool.not_eq_true', Bool.and_eq_false_iff, decide_eq_false_iff_not, Bool.true_or, Bool.false_or, if_true, if_false, Bool.false_eq_true]
  grind
theorem ne_16 {p : LPart} {ks : List Int} (hl : (ks.length : Int) = p.kids.length) (hk : p.kind = 16) : NodeEq p ks := by
  have s1 : isStat p.kind = true := by simp [isStat, hk]
  have E1 : (p.kind = 1) = False := eq_false (by omega)
  have E2 : (p.kind = 2) = False := eq_false (by omega)
  have E3 : (p.kind = 3) = False := eq_false (by omega)
  have E4 : (p.kind = 4) = False := eq_false (by omega)
  have E5 : (p.kind = 5) = False := eq_false (by omega)
  have E6 : (p.kind = 6) = False := eq_false (by omega)
  have E7 : (p.kind = 7) = False := eq_false (by omega)
  have E8 : (p.kind = 8) = False := eq_false (by omega)
  have E9 : (p.kind = 9) = False := eq_false (by omega)
  have E10 : (p.kind = 10) = False := eq_false (by omega)
  have E11 : (p.kind = 11) = False := eq_false (by omega)
  have E12 : (p.kind = 12) = False := eq_false (by omega)
  have E13 : (p.kind = 13) = False := eq_false (by omega)
  have E14 : (p.kind = 14) = False := eq_false (by omega)
  have E15 : (p.kind = 15) = False := eq_false (by omega)
  have E16 : (p.kind = 16) = True := eq_true (by omega)
  have E20 : (p.kind = 20) = False := eq_false (by omega)
  have E21 : (p.kind = 21) = False := eq_false (by omega)
  have E22 : (p.kind = 22) = False := eq_false (by omega)
  have E23 : (p.kind = 23) = False := eq_false (by omega)
  have E24 : (p.kind = 24) = False := eq_false (by omega)
  have E25 : (p.kind = 25) = False := eq_false (by omega)
  have E26 : (p.kind = 26) = False := eq_false (by omega)
  have E27 : (p.kind = 27) = False := eq_false (by omega)
  have E28 : (p.kind = 28) = False := eq_false (by omega)
  have E29 : (p.kind = 29) = False := eq_false (by omega)
  have E30 : (p.kind = 30) = False := eq_false (by omega)
  have E31 : (p.kind = 31) = False := eq_false (by omega)
  have E32 : (p.kind = 32) = False := eq_false (by omega)
  have E33 : (p.kind = 33) = False := eq_false (by omega)
  have E34 : (p.kind = 34) = False := eq_false (by omega)
  have E35 : (p.kind = 35) = False := eq_false (by omega)
  have E36 : (p.kind = 36) = False := eq_false (by omega)
  have E37 : (p.kind = 37) = False := eq_false (by omega)
  have E40 : (p.kind = 40) = False := eq_false (by omega)
  have E41 : (p.kind = 41) = False := eq_false (by omega)
  have E42 : (p.kind = 42) = False := eq_false (by omega)
  unfold NodeEq
  simp only [s1, if_true, if_false, Bool.false_eq_true]
  unfold shapeOk shapeMid stmtOk
  simp only [E1, E2, E3, E4, E5, E6, E7, E8, E9, E10, E11, E12, E13, E14, E15, E16, E20, E21, E22, E23, E24, E25, E26, E27, E28, E29, E30, E31, E32, E33, E34, E35, E36, E37, E40, E41, E42, or_false, false_or, or_true, true_or, or_self, if_true, if_false, decide_true, decide_false, Bool.false_and, Bool.true_and]
  have h1 := @exprs_1 ks
  have h2 := @exprs_2 ks
  have h3 := @exprs_k ks
  have h4 := @names_nil p
  have h5 : flt0 0 = true := flt0_0
  simp only [shapeEnd, headOk, bare, named, s1, alls_exprs, base_eq, alls_all, fltSame_zero, entry_fun, decide_true, decide_false]
  rw [Bool.eq_iff_iff]
  simp only [Bool.and_eq_true, Bool.or_eq_true, decide_eq_true_eq, Bool.not_eq_true', Bool.and_eq_false_iff, decide_eq_false_iff_not, Bool.true_or, Bool.false_or, if_true, if_false, Bool.false_eq_true]
  grind
theorem ne_20 {p : LPart} {ks : List Int} (hl : (ks.length : Int) = p.kids.length) (hk : p.kind = 20) : NodeEq p ks := by
  have s1 : isStat p.kind = false := by simp [isStat, hk]
  have E1 : (p.kind = 1) = False := eq_false (by omega)
  have E2 : (p.kind = 2) = False := eq_false (by omega)
  have E3 : (p.kind = 3) = False := eq_false (by omega)
  have E4 : (p.kind = 4) = False := eq_false (by omega)
  have E5 : (p.kind = 5) = False := eq_false (by omega)
  have E6 : (p.kind = 6) = False := eq_false (by omega)
  have E7 : (p.kind = 7) = False := eq_false (by omega)
  have E8 : (p.kind = 8) = False := eq_false (by omega)
  have E9 : (p.kind = 9) = False := eq_false (by omega)
  have E10 : (p.kind = 10) = False := eq_false (by omega)
  have E11 : (p.kind = 11) = False := eq_false (by omega)
  have E12 : (p.kind = 12) = False := eq_false (by omega)
  have E13 : (p.kind = 13) = False := eq_false (by omega)
  have E14 : (p.kind = 14) = False := eq_false (by omega)
  have E15 : (p.kind = 15) = False := eq_false (by omega)
  have E16 : (p.kind = 16) = False := eq_false (by omega)
  have E20 : (p.kind = 20) = True := eq_true (by omega)
  have E21 : (p.kind = 21) = False := eq_false (by omega)
  have E22 : (p.kind = 22) = False := eq_false (by omega)
  have E23 : (p.kind = 23) = False := eq_false (by omega)
  have E24 : (p.kind = 24) = False := eq_false (by omega)
  have E25 : (p.kind = 25) = False := eq_false (by omega)
  have E26 : (p.kind = 26) = False := eq_false (by omega)
  have E27 : (p.kind = 27) = False := eq_false (by omega)
  have E28 : (p.kind = 28) = False := eq_false (by omega)
  have E29 : (p.kind = 29) = False := eq_false (by omega)
  have E30 : (p.kind = 30) = False := eq_false (by omega)
  have E31 : (p.kind = 31) = False := eq_false (by omega)
  have E32 : (p.kind = 32) = False := eq_false (by omega)
  have E33 : (p.kind = 33) = False := eq_false (by omega)
  have E34 : (p.kind = 34) = False := eq_false (by omega)
  have E35 : (p.kind = 35) = False := eq_false (by omega)
  have E36 : (p.kind = 36) = False := eq_false (by omega)
  have E37 : (p.kind = 37) = False := eq_false (by omega)
  have E40 : (p.kind = 40) = False := eq_false (by omega)
  have E41 : (p.kind = 41) = False := eq_false (by omega)
  have E42 : (p.kind = 42) = False := eq_false (by omega)
  unfold NodeEq
  simp only [s1, if_true, if_false, Bool.false_eq_true]
  unfold shapeOk shapeMid exprOk
  simp only [E1, E2, E3, E4, E5, E6, E7, E8, E9, E10, E11, E12, E13, E14, E15, E16, E20, E21, E22, E23, E24, E25, E26, E27, E28, E29, E30, E31, E32, E33, E34, E35, E36, E37, E40, E41, E42, or_false, false_or, or_true, true_or, or_self, if_true, if_false, decide_true, decide_false, Bool.false_and, Bool.true_and]
  have h1 := @exprs_1 ks
  have h2 := @exprs_2 ks
  have h3 := @exprs_k ks
  have h4 := @names_nil p
  have h5 : flt0 0 = true := flt0_0
  simp only [shapeEnd, headOk, bare, named, s1, alls_exprs, base_eq, alls_all, fltSame_zero, entry_fun, decide_true, decide_false]
  rw [Bool.eq_iff_iff]
  simp only [Bool.and_eq_true, Bool.or_eq_true, decide_eq_true_eq, Bool.not_eq_true', Bool.and_eq_false_iff, decide_eq_false_iff_not, Bool.true_or, Bool.false_or, if_true, if_false, Bool.false_eq_true]
  grind
theorem ne_21 {p : LPart} {ks : List Int} (hl : (ks.length : Int) = p.kids.length) (hk : p.kind = 21) : NodeEq p ks := by
  have s1 : isStat p.kind = false := by simp [isStat, hk]
  have E1 : (p.kind = 1) = False := eq_false (by omega)
  have E2 : (p.kind = 2) = False := eq_false (by omega)
  have E3 : (p.kind = 3) = False := eq_false (by omega)
  have E4 : (p.kind = 4) = False := eq_false (by omega)
  have E5 : (p.kind = 5) = False := eq_false (by omega)
  have E6 : (p.kind = 6) = False := eq_false (by omega)
  have E7 : (p.kind = 7) = False := eq_false (by omega)
  have E8 : (p.kind = 8) = False := eq_false (by omega)
  have E9 : (p.kind = 9) = False := eq_false (by omega)
  have E10 : (p.kind = 10) = False := eq_false (by omega)
  have E11 : (p.kind = 11) = False := eq_false (by omega)
  have E12 : (p.kind = 12) = False := eq_false (by omega)
  have E13 : (p.kind = 13) = False := eq_false (by omega)
  have E14 : (p.kind = 14) = False := eq_false (by omega)
  have E15 : (p.kind = 15) = False := eq_false (by omega)
  have E16 : (p.kind = 16) = False := eq_false (by omega)
  have E20 : (p.kind = 20) = False := eq_false (by omega)
  have E21 : (p.kind = 21) = True := eq_true (by omega)
  have E22 : (p.kind = 22) = False := eq_false (by omega)
  have E23 : (p.kind = 23) = False := eq_false (by omega)
  have E24 : (p.kind = 24) = False := eq_false (by omega)
  have E25 : (p.kind = 25) = False := eq_false (by omega)
  have E26 : (p.kind = 26) = False := eq_false (by omega)
  have E27 : (p.kind = 27) = False := eq_false (by omega)
  have E28 : (p.kind = 28) = False := eq_false (by omega)
  have E29 : (p.kind = 29) = False := eq_false (by omega)
  have E30 : (p.kind = 30) = False := eq_false (by omega)
  have E31 : (p.kind = 31) = False := eq_false (by omega)
  have E32 : (p.kind = 32) = False := eq_false (by omega)
  have E33 : (p.kind = 33) = False := eq_false (by omega)
  have E34 : (p.kind = 34) = False := eq_false (by omega)
  have E35 : (p.kind = 35) = False := eq_false (by omega)
  have E36 : (p.kind = 36) = False := eq_false (by omega)
  have E37 : (p.kind = 37) = False := eq_false (by omega)
  have E40 : (p.kind = 40) = False := eq_false (by omega)
  have E41 : (p.kind = 41) = False := eq_false (by omega)
  have E42 : (p.kind = 42) = False := eq_false (by omega)
  unfold NodeEq
  simp only [s1, if_true, if_false, Bool.false_eq_true]
  unfold shapeOk shapeMid exprOk
  simp only [E1, E2, E3, E4, E5, E6, E7, E8, E9, E10, E11, E12, E13, E14, E15, E16, E20, E21, E22, E23, E24, E25, E26, E27, E28, E29, E30, E31, E32, E33, E34, E35, E36, E37, E40, E41, E42, or_false, false_or, or_true, true_or, or_self, if_true, if_false, decide_true, decide_false, Bool.false_and, Bool.true_and]
  have h1 := @exprs_1 ks
  have h2 := @exprs_2 ks
  have h3 := @exprs_k ks
  have h4 := @names_nil p
  have h5 : flt0 0 = true := flt0_0
  simp only [shapeEnd, headOk, bare, named, s1, alls_exprs, base_eq, alls_all, fltSame_zero, entry_fun, decide_true, decide_false]
  rw [Bool.eq_iff_iff]
  simp only [Bool.and_eq_true, Bool.or_eq_true, decide_eq_true_eq, Bool.not_eq_true', Bool.and_eq_false_iff, decide_eq_false_iff_not, Bool.true_or, Bool.false_or, if_true, if_false, Bool.false_eq_true]
  grind
theorem ne_22 {p : LPart} {ks : List Int} (hl : (ks.length : Int) = p.kids.length) (hk : p.kind = 22) : NodeEq p ks := by
  have s1 : isStat p.kind = false := by simp [isStat, hk]
  have E1 : (p.kind = 1) = False := eq_false (by omega)
  have E2 : (p.kind = 2) = False := eq_false (by omega)
  have E3 : (p.kind = 3) = False := eq_false (by omega)
  have E4 : (p.kind = 4) = False := eq_false (by omega)
  have E5 : (p.kind = 5) = False := eq_false (by omega)
  have E6 : (p.kind = 6) = False := eq_false (by omega)
  have E7 : (p.kind = 7) = False := eq_false (by omega)
  have E8 : (p.kind = 8) = False := eq_false (by omega)
  have E9 : (p.kind = 9) = False := eq_false (by omega)
  have E10 : (p.kind = 10) = False := eq_false (by omega)
  have E11 : (p.kind = 11) = False := eq_false (by omega)
  have E12 : (p.kind = 12) = False := eq_false (by omega)
  have E13 : (p.kind = 13) = False := eq_false (by omega)
  have E14 : (p.kind = 14) = False := eq_false (by omega)
  have E15 : (p.kind = 15) = False := eq_false (by omega)
  have E16 : (p.kind = 16) = False := eq_false (by omega)
  have E20 : (p.kind = 20) = False := eq_false (by omega)
  have E21 : (p.kind = 21) = False := eq_false (by omega)
  have E22 : (p.kind = 22) = True := eq_true (by omega)
  have E23 : (p.kind = 23) = False := eq_false (by omega)
  have E24 : (p.kind = 24) = False := eq_false (by omega)
  have E25 : (p.kind = 25) = False := eq_false (by omega)
  have E26 : (p.kind = 26) = False := eq_false (by omega)
  have E27 : (p.kind = 27) = False := eq_false (by omega)
  have E28 : (p.kind = 28) = False := eq_false (by omega)
  have E29 : (p.kind = 29) = False := eq_false (by omega)
  have E30 : (p.kind = 30) = False := eq_false (by omega)
  have E31 : (p.kind = 31) = False := eq_false (by omega)
  have E32 : (p.kind = 32) = False := eq_false (by omega)
  have E33 : (p.kind = 33) = False := eq_false (by omega)
  have E34 : (p.kind = 34) = False := eq_false (by omega)
  have E35 : (p.kind = 35) = False := eq_false (by omega)
  have E36 : (p.kind = 36) = False := eq_false (by omega)
  have E37 : (p.kind = 37) = False := eq_false (by omega)
  have E40 : (p.kind = 40) = False := eq_false (by omega)
  have E41 : (p.kind = 41) = False := eq_false (by omega)
  have E42 : (p.kind = 42) = False := eq_false (by omega)
  unfold NodeEq
  simp only [s1, if_true, if_false, Bool.false_eq_true]
  unfold shapeOk shapeMid exprOk
  simp only [E1, E2, E3, E4, E5, E6, E7, E8, E9, E10, E11, E12, E13, E14, E15, E16, E20, E21, E22, E23, E24, E25, E26, E27, E28, E29, E30, E31, E32, E33, E34, E35, E36, E37, E40, E41, E42, or_false, false_or, or_true, true_or, or_self, if_true, if_false, decide_true, decide_false, Bool.false_and, Bool.true_and]
  have h1 := @exprs_1 ks
  have h2 := @exprs_2 ks
  have h3 := @exprs_k ks
  have h4 := @names_nil p
  have h5 : flt0 0 = true := flt0_0
  simp only [shapeEnd, headOk, bare, named, s1, alls_exprs, base_eq, alls_all, fltSame_zero, entry_fun, decide_true, decide_false]
  rw [Bool.eq_iff_iff]
  simp only [Bool.and_eq_true, Bool.or_eq_true, decide_eq_true_eq, Bool.not_eq_true', Bool.and_eq_false_iff, decide_eq_false_iff_not, Bool.true_or, Bool.false_or, if_true, if_false, Bool.false_eq_true]
  grind
theorem ne_23 {p : LPart} {ks : List Int} (hl : (ks.length : Int) = p.kids.length) (hk : p.kind = 23) : NodeEq p ks := by
  have s1 : isStat p.kind = false := by simp [isStat, hk]
  have E1 : (p.kind = 1) = False := eq_false (by omega)
  have E2 : (p.kind = 2) = False := eq_false (by omega)
  have E3 : (p.kind = 3) = False := eq_false (by omega)
  have E4 : (p.kind = 4) = False := eq_false (by omega)
  have E5 : (p.kind = 5) = False := eq_false (by omega)
  have E6 : (p.kind = 6) = False := eq_false (by omega)
  have E7 : (p.kind = 7) = False := eq_false (by omega)
  have E8 : (p.kind = 8) = False := eq_false (by omega)
  have E9 : (p.kind = 9) = False := eq_false (by omega)
  have E10 : (p.kind = 10) = False := eq_false (by omega)
  have E11 : (p.kind = 11) = False := eq_false (by omega)
  have E12 : (p.kind = 12) = False := eq_false (by omega)
  have E13 : (p.kind = 13) = False := eq_false (by omega)
  have E14 : (p.kind = 14) = False := eq_false (by omega)
  have E15 : (p.kind = 15) = False := eq_false (by omega)
  have E16 : (p.kind = 16) = False := eq_false (by omega)
  have E20 : (p.kind = 20) = False := eq_false (by omega)
  have E21 : (p.kind = 21) = False := eq_false (by omega)
  have E22 : (p.kind = 22) = False := eq_false (by omega)
  have E23 : (p.kind = 23) = True := eq_true (by omega)
  have E24 : (p.kind = 24) = False := eq_false (by omega)
  have E25 : (p.kind = 25) = False := eq_false (by omega)
  have E26 : (p.kind = 26) = False := eq_false (by omega)
  have E27 : (p.kind = 27) = False := eq_false (by omega)
  have E28 : (p.kind = 28) = False := eq_false (by omega)
  have E29 : (p.kind = 29) = False := eq_false (by omega)
  have E30 : (p.kind = 30) = False := eq_false (by omega)
  have E31 : (p.kind = 31) = False := eq_false (by omega)
  have E32 : (p.kind = 32) = False := eq_false (by omega)
  have E33 : (p.kind = 33) = False := eq_false (by omega)
  have E34 : (p.kind = 34) = False := eq_false (by omega)
  have E35 : (p.kind = 35) = False := eq_false (by omega)
  have E36 : (p.kind = 36) = False := eq_false (by omega)
  have E37 : (p.kind = 37) = False := eq_false (by omega)
  have E40 : (p.kind = 40) = False := eq_false (by omega)
  have E41 : (p.kind = 41) = False := eq_false (by omega)
  have E42 : (p.kind = 42) = False := eq_false (by omega)
  unfold NodeEq
  simp only [s1, if_true, if_false, Bool.false_eq_true]
  unfold shapeOk shapeMid exprOk
  simp only [E1, E2, E3, E4, E5, E6, E7, E8, E9, E10, E11, E12, E13, E14, E15, E16, E20, E21, E22, E23, E24, E25, E26, E27, E28, E29, E30, E31, E32, E33, E34, E35, E36, E37, E40, E41, E42, or_false, false_or, or_true, true_or, or_self, if_true, if_false, decide_true, decide_false, Bool.false_and, Bool.true_and]
  have h1 := @exprs_1 ks
  have h2 := @exprs_2 ks
  have h3 := @exprs_k ks
  have h4 := @names_nil p
  have h5 : flt0 0 = true := flt0_0
  simp only [shapeEnd, headOk, bare, named, s1, alls_exprs, base_eq, alls_all, fltSame_zero, entry_fun, decide_true, decide_false]
  rw [Bool.eq_iff_iff]
  simp only [Bool.and_eq_true, Bool.or_eq_true, decide_eq_true_eq, Bool.not_eq_true', Bool.and_eq_false_iff, decide_eq_false_iff_not, Bool.true_or, Bool.false_or, if_true, if_false, Bool.false_eq_true]
  grind
theorem ne_24 {p : LPart} {ks : List Int} (hl : (ks.length : Int) = p.kids.length) (hk : p.kind = 24) : NodeEq p ks := by
  have s1 : isStat p.kind = false := by simp [isStat, hk]
  have E1 : (p.kind = 1) = False := eq_false (by omega)
  have E2 : (p.kind = 2) = False := eq_false (by omega)
  have E3 : (p.kind = 3) = False := eq_false (by omega)
  have E4 : (p.kind = 4) = False := eq_false (by omega)
  have E5 : (p.kind = 5) = False := eq_false (by omega)
  have E6 : (p.kind = 6) = False := eq_false (by omega)
  have E7 : (p.kind = 7) = False := eq_false (by omega)
  have E8 : (p.kind = 8) = False := eq_false (by omega)
  have E9 : (p.kind = 9) = False := eq_false (by omega)
  have E10 : (p.kind = 10) = False := eq_false (by omega)
  have E11 : (p.kind = 11) = False := eq_false (by omega)
  have E12 : (p.kind = 12) = False := eq_false (by omega)
  have E13 : (p.kind = 13) = False := eq_false (by omega)
  have E14 : (p.kind = 14) = False := eq_false (by omega)
  have E15 : (p.kind = 15) = False := eq_false (by omega)
  have E16 : (p.kind = 16) = False := eq_false (by omega)
  have E20 : (p.kind = 20) = False := eq_false (by omega)
  have E21 : (p.kind = 21) = False := eq_false (by omega)
  have E22 : (p.kind = 22) = False := eq_false (by omega)
  have E23 : (p.kind = 23) = False := eq_false (by omega)
  have E24 : (p.kind = 24) = True := eq_true (by omega)
  have E25 : (p.kind = 25) = False := eq_false (by omega)
  have E26 : (p.kind = 26) = False := eq_false (by omega)
  have E27 : (p.kind = 27) = False := eq_false (by omega)
  have E28 : (p.kind = 28) = False := eq_false (by omega)
  have E29 : (p.kind = 29) = False := eq_false (by omega)
  have E30 : (p.kind = 30) = False := eq_false (by omega)
  have E31 : (p.kind = 31) = False := eq_false (by omega)
  have E32 : (p.kind = 32) = False := eq_false (by omega)
  have E33 : (p.kind = 33) = False := eq_false (by omega)
  have E34 : (p.kind = 34) = False := eq_false (by omega)
  have E35 : (p.kind = 35) = False := eq_false (by omega)
  have E36 : (p.kind = 36) = False := eq_false (by omega)
  have E37 : (p.kind = 37) = False := eq_false (by omega)
  have E40 : (p.kind = 40) = False := eq_false (by omega)
  have E41 : (p.kind = 41) = False := eq_false (by omega)
  have E42 : (p.kind = 42) = False := eq_false (by omega)
  unfold NodeEq
  simp only [s1, if_true, if_false, Bool.false_eq_true]
  unfold shapeOk shapeMid exprOk
  simp only [E1, E2, E3, E4, E5, E6, E7, E8, E9, E10, E11, E12, E13, E14, E15, E16, E20, E21, E22, E23, E24, E25, E26, E27, E28, E29, E30, E31, E32, E33, E34, E35, E36, E37, E40, E41, E42, or_false, false_or, or_true, true_or, or_self, if_true, if_false, decide_true, decide_false, Bool.false_and, Bool.true_and]
  have h1 := @exprs_1 ks
  have h2 := @exprs_2 ks
  have h3 := @exprs_k ks
  have h4 := @names_nil p
  have h5 : flt0 0 = true := flt0_0
  simp only [shapeEnd, headOk, bare, named, s1, alls_exprs, base_eq, alls_all, fltSame_zero, entry_fun, decide_true, decide_false]
  rw [Bool.eq_iff_iff]
  simp only [Bool.and_eq_true, Bool.or_eq_true, decide_eq_true_eq, Bool.not_eq_true', Bool.and_eq_false_iff, decide_eq_false_iff_not, Bool.true_or, Bool.false_or, if_true, if_false, Bool.false_eq_true]
  grind
theorem ne_25 {p : LPart} {ks : List Int} (hl : (ks.length : Int) = p.kids.length) (hk : p.kind = 25) : NodeEq p ks := by
  have s1 : isStat p.kind = false := by simp [isStat, hk]
  have E1 : (p.kind = 1) = False := eq_false (by omega)
  have E2 : (p.kind = 2) = False := eq_false (by omega)
  have E3 : (p.kind = 3) = False := eq_false (by omega)
  have E4 : (p.kind = 4) = False := eq_false (by omega)
  have E5 : (p.kind = 5) = False := eq_false (by omega)
  have E6 : (p.kind = 6) = False := eq_false (by omega)
  have E7 : (p.kind = 7) = False := eq_false (by omega)
  have E8 : (p.kind = 8) = False := eq_false (by omega)
  have E9 : (p.kind = 9) = False := eq_false (by omega)
  have E10 : (p.kind = 10) = False := eq_false (by omega)
  have E11 : (p.kind = 11) = False := eq_false (by omega)
  have E12 : (p.kind = 12) = False := eq_false (by omega)
  have E13 : (p.kind = 13) = False := eq_false (by omega)
  have E14 : (p.kind = 14) = False := eq_false (by omega)
  have E15 : (p.kind = 15) = False := eq_false (by omega)
  have E16 : (p.kind = 16) = False := eq_false (by omega)
  have E20 : (p.kind = 20) = False := eq_false (by omega)
  have E21 : (p.kind = 21) = False := eq_false (by omega)
  have E22 : (p.kind = 22) = False := eq_false (by omega)
  have E23 : (p.kind = 23) = False := eq_false (by omega)
  have E24 : (p.kind = 24) = False := eq_false (by omega)
  have E25 : (p.kind = 25) = True := eq_true (by omega)
  have E26 : (p.kind = 26) = False := eq_false (by omega)
  have E27 : (p.kind = 27) = False := eq_false (by omega)
  have E28 : (p.kind = 28) = False := eq_false (by omega)
  have E29 : (p.kind = 29) = False := eq_false (by omega)
  have E30 : (p.kind = 30) = False := eq_false (by omega)
  have E31 : (p.kind = 31) = False := eq_false (by omega)
  have E32 : (p.kind = 32) = False := eq_false (by omega)
  have E33 : (p.kind = 33) = False := eq_false (by omega)
  have E34 : (p.kind = 34) = False := eq_false (by omega)
  have E35 : (p.kind = 35) = False := eq_false (by omega)
  have E36 : (p.kind = 36) = False := eq_false (by omega)
  have E37 : (p.kind = 37) = False := eq_false (by omega)
  have E40 : (p.kind = 40) = False := eq_false (by omega)
  have E41 : (p.kind = 41) = False := eq_false (by omega)
  have E42 : (p.kind = 42) = False := eq_false (by omega)
  unfold NodeEq
  simp only [s1, if_true, if_false, Bool.false_eq_true]
  unfold shapeOk shapeMid exprOk
  simp only [E1, E2, E3, E4, E5, E6, E7, E8, E9, E10, E11, E12, E13, E14, E15, E16, E20, E21, E22, E23, E24, E25, E26, E27, E28, E29, E30, E31, E32, E33, E34, E35, E36, E37, E40, E41, E42, or_false, false_or, or_true, true_or, or_self, if_true, if_false, decide_true, decide_false, Bool.false_and, Bool.true_and]
  have h1 := @exprs_1 ks
  have h2 := @exprs_2 ks
  have h3 := @exprs_k ks
  have h4 := @names_nil p
  have h5 : flt0 0 = true := flt0_0
  simp only [shapeEnd, headOk, bare, named, s1, alls_exprs, base_eq, alls_all, fltSame_zero, entry_fun, decide_true, decide_false]
  rw [Bool.eq_iff_iff]
  simp only [Bool.and_eq_true, Bool.or_eq_true, decide_eq_true_eq, Bool.not_eq_true', Bool.and_eq_false_iff, decide_eq_false_iff_not, Bool.true_or, Bool.false_or, if_true, if_false, Bool.false_eq_true]
  grind
theorem ne_26 {p : LPart} {ks : List Int} (hl : (ks.length : Int) = p.kids.length) (hk : p.kind = 26) : NodeEq p ks := by
  have s1 : isStat p.kind = false := by simp [isStat, hk]
  have E1 : (p.kind = 1) = False := eq_false (by omega)
  have E2 : (p.kind = 2) = False := eq_false (by omega)
  have E3 : (p.kind = 3) = False := eq_false (by omega)
  have E4 : (p.kind = 4) = False := eq_false (by omega)
  have E5 : (p.kind = 5) = False := eq_false (by omega)
  have E6 : (p.kind = 6) = False := eq_false (by omega)
  have E7 : (p.kind = 7) = False := eq_false (by omega)
  have E8 : (p.kind = 8) = False := eq_false (by omega)
  have E9 : (p.kind = 9) = False := eq_false (by omega)
  have E10 : (p.kind = 10) = False := eq_false (by omega)
  have E11 : (p.kind = 11) = False := eq_false (by omega)
  have E12 : (p.kind = 12) = False := eq_false (by omega)
  have E13 : (p.kind = 13) = False := eq_false (by omega)
  have E14 : (p.kind = 14) = False := eq_false (by omega)
  have E15 : (p.kind = 15) = False := eq_false (by omega)
  have E16 : (p.kind = 16) = False := eq_false (by omega)
  have E20 : (p.kind = 20) = False := eq_false (by omega)
  have E21 : (p.kind = 21) = False := eq_false (by omega)
  have E22 : (p.kind = 22) = False := eq_false (by omega)
  have E23 : (p.kind = 23) = False := eq_false (by omega)
  have E24 : (p.kind = 24) = False := eq_false (by omega)
  have E25 : (p.kind = 25) = False := eq_false (by omega)
  have E26 : (p.kind = 26) = True := eq_true (by omega)
  have E27 : (p.kind = 27) = False := eq_false (by omega)
  have E28 : (p.kind = 28) = False := eq_false (by omega)
  have E29 : (p.kind = 29) = False := eq_false (by omega)
  have E30 : (p.kind = 30) = False := eq_false (by omega)
  have E31 : (p.kind = 31) = False := eq_false (by omega)
  have E32 : (p.kind = 32) = False := eq_false (by omega)
  have E33 : (p.kind = 33) = False := eq_false (by omega)
  have E34 : (p.kind = 34) = False := eq_false (by omega)
  have E35 : (p.kind = 35) = False := eq_false (by omega)
  have E36 : (p.kind = 36) = False := eq_false (by omega)
  have E37 : (p.kind = 37) = False := eq_false (by omega)
  have E40 : (p.kind = 40) = False := eq_false (by omega)
  have E41 : (p.kind = 41) = False := eq_false (by omega)
  have E42 : (p.kind = 42) = False := eq_false (by omega)
  unfold NodeEq
  simp only [s1, if_true, if_false, Bool.false_eq_true]
  unfold shapeOk shapeMid exprOk
  simp only [E1, E2, E3, E4, E5, E6, E7, E8, E9, E10, E11, E12, E13, E14, E15, E16, E20, E21, E22, E23, E24, E25, E26, E27, E28, E29, E30, E31, E32, E33, E34, E35, E36, E37, E40, E41, E42, or_false, false_or, or_true, true_or, or_self, if_true, if_false, decide_true, decide_false, Bool.false_and, Bool.true_and]
  have h1 := @exprs_1 ks
  have h2 := @exprs_2 ks
  have h3 := @exprs_k ks
  have h4 := @names_nil p
  have h5 : flt0 0 = true := flt0_0
  simp only [shapeEnd, headOk, bare, named, s1, alls_exprs, base_eq, alls_all, fltSame_zero, entry_fun, decide_true, decide_false]
  rw [Bool.eq_iff_iff]
  simp only [Bool.and_eq_true, Bool.or_eq_true, decide_eq_true_eq, Bool.not_eq_true', Bool.and_eq_false_iff, decide_eq_false_iff_not, Bool.true_or, Bool.false_or, if_true, if_false, Bool.false_eq_true]
  grind
theorem ne_27 {p : LPart} {ks : List Int} (hl : (ks.length : Int) = p.kids.length) (hk : p.kind = 27) : NodeEq p ks := by
  have s1 : isStat p.kind = false := by simp [isStat, hk]
  have E1 : (p.kind = 1) = False := eq_false (by omega)
  have E2 : (p.kind = 2) = False := eq_false (by omega)
  have E3 : (p.kind = 3) = False := eq_false (by omega)
  have E4 : (p.kind = 4) = False := eq_false (by omega)
  have E5 : (p.kind = 5) = False := eq_false (by omega)
  have E6 : (p.kind = 6) = False := eq_false (by omega)
  have E7 : (p.kind = 7) = False := eq_false (by omega)
  have E8 : (p.kind = 8) = False := eq_false (by omega)
  have E9 : (p.kind = 9) = False := eq_false (by omega)
  have E10 : (p.kind = 10) = False := eq_false (by omega)
  have E11 : (p.kind = 11) = False := eq_false (by omega)
  have E12 : (p.kind = 12) = False := eq_false (by omega)
  have E13 : (p.kind = 13) = False := eq_false (by omega)
  have E14 : (p.kind = 14) = False := eq_false (by omega)
  have E15 : (p.kind = 15) = False := eq_false (by omega)
  have E16 : (p.kind = 16) = False := eq_false (by omega)
  have E20 : (p.kind = 20) = False := eq_false (by omega)
  have E21 : (p.kind = 21) = False := eq_false (by omega)
  have E22 : (p.kind = 22) = False := eq_false (by omega)
  have E23 : (p.kind = 23) = False := eq_false (by omega)
  have E24 : (p.kind = 24) = False := eq_false (by omega)
  have E25 : (p.kind = 25) = False := eq_false (by omega)
  have E26 : (p.kind = 26) = False := eq_false (by omega)
  have E27 : (p.kind = 27) = True := eq_true (by omega)
  have E28 : (p.kind = 28) = False := eq_false (by omega)
  have E29 : (p.kind = 29) = False := eq_false (by omega)
  have E30 : (p.kind = 30) = False := eq_false (by omega)
  have E31 : (p.kind = 31) = False := eq_false (by omega)
  have E32 : (p.kind = 32) = False := eq_false (by omega)
  have E33 : (p.kind = 33) = False := eq_false (by omega)
  have E34 : (p.kind = 34) = False := eq_false (by omega)
  have E35 : (p.kind = 35) = False := eq_false (by omega)
  have E36 : (p.kind = 36) = False := eq_false (by omega)
  have E37 : (p.kind = 37) = False := eq_false (by omega)
  have E40 : (p.kind = 40) = False := eq_false (by omega)
  have E41 : (p.kind = 41) = False := eq_false (by omega)
  have E42 : (p.kind = 42) = False := eq_false (by omega)
  unfold NodeEq
  simp only [s1, if_true, if_false, Bool.false_eq_true]
  unfold shapeOk shapeMid exprOk
  simp only [E1, E2, E3, E4, E5, E6, E7, E8, E9, E10, E11, E12, E13, E14, E15, E16, E20, E21, E22, E23, E24, E25, E26, E27, E28, E29, E30, E31, E32, E33, E34, E35, E36, E37, E40, E41, E42, or_false, false_or, or_true, true_or, or_self, if_true, if_false, decide_true, decide_false, Bool.false_and, Bool.true_and]
  have h1 := @exprs_1 ks
  have h2 := @exprs_2 ks
  have h3 := @exprs_k ks
  have h4 := @names_nil p
  have h5 : flt0 0 = true := flt0_0
  simp only [shapeEnd, headOk, bare, named, s1, alls_exprs, base_eq, alls_all, fltSame_zero, entry_fun, decide_true, decide_false]
  rw [Bool.eq_iff_iff]
  simp only [Bool.and_eq_true, Bool.or_eq_true, decide_eq_true_eq, Bool.not_eq_true', Bool.and_eq_false_iff, decide_eq_false_iff_not, Bool.true_or, Bool.false_or, if_true, if_false, Bool.false_eq_true]
  grind
theorem ne_28 {p : LPart} {ks : List Int} (hl : (ks.length : Int) = p.kids.length) (hk : p.kind = 28) : NodeEq p ks := by
  have s1 : isStat p.kind = false := by simp [isStat, hk]
  have E1 : (p.kind = 1) = False := eq_false (by omega)
  have E2 : (p.kind = 2) = False := eq_false (by omega)
  have E3 : (p.kind = 3) = False := eq_false (by omega)
  have E4 : (p.kind = 4) = False := eq_false (by omega)
  have E5 : (p.kind = 5) = False := eq_false (by omega)
  have E6 : (p.kind = 6) = False := eq_false (by omega)
  have E7 : (p.kind = 7) = False := eq_false (by omega)
  have E8 : (p.kind = 8) = False := eq_false (by omega)
  have E9 : (p.kind = 9) = False := eq_false (by omega)
  have E10 : (p.kind = 10) = False := eq_false (by omega)
  have E11 : (p.kind = 11) = False := eq_false (by omega)
  have E12 : (p.kind = 12) = False := eq_false (by omega)
  have E13 : (p.kind = 13) = False := eq_false (by omega)
  have E14 : (p.kind = 14) = False := eq_false (by omega)
  have E15 : (p.kind = 15) = False := eq_false (by omega)
  have E16 : (p.kind = 16) = False := eq_false (by omega)
  have E20 : (p.kind = 20) = False := eq_false (by omega)
  have E21 : (p.kind = 21) = False := eq_false (by omega)
  have E22 : (p.kind = 22) = False := eq_false (by omega)
  have E23 : (p.kind = 23) = False := eq_false (by omega)
  have E24 : (p.kind = 24) = False := eq_false (by omega)
  have E25 : (p.kind = 25) = False := eq_false (by omega)
  have E26 : (p.kind = 26) = False := eq_false (by omega)
  have E27 : (p.kind = 27) = False := eq_false (by omega)
  have E28 : (p.kind = 28) = True := eq_true (by omega)
  have E29 : (p.kind = 29) = False := eq_false (by omega)
  have E30 : (p.kind = 30) = False := eq_false (by omega)
  have E31 : (p.kind = 31) = False := eq_false (by omega)
  have E32 : (p.kind = 32) = False := eq_false (by omega)
  have E33 : (p.kind = 33) = False := eq_false (by omega)
  have E34 : (p.kind = 34) = False := eq_false (by omega)
  have E35 : (p.kind = 35) = False := eq_false (by omega)
  have E36 : (p.kind = 36) = False := eq_false (by omega)
  have E37 : (p.kind = 37) = False := eq_false (by omega)
  have E40 : (p.kind = 40) = False := eq_false (by omega)
  have E41 : (p.kind = 41) = False := eq_false (by omega)
  have E42 : (p.kind = 42) = False := eq_false (by omega)
  unfold NodeEq
  simp only [s1, if_true, if_false, Bool.false_eq_true]
  unfold shapeOk shapeMid exprOk
  simp only [E1, E2, E3, E4, E5, E6, E7, E8, E9, E10, E11, E12, E13, E14, E15, E16, E20, E21, E22, E23, E24, E25, E26, E27, E28, E29, E30, E31, E32, E33, E34, E35, E36, E37, E40, E41, E42, or_false, false_or, or_true, true_or, or_self, if_true, if_false, decide_true, decide_false, Bool.false_and, Bool.true_and]
  have h1 := @exprs_1 ks
  have h2 := @exprs_2 ks
  have h3 := @exprs_k ks
  have h4 := @names_nil p
  have h5 : flt0 0 = true := flt0_0
  simp only [shapeEnd, headOk, bare, named, s1, alls_exprs, base_eq, alls_all, fltSame_zero, entry_fun, decide_true, decide_false]
  rw [Bool.eq_iff_iff]
  simp only [Bool.and_eq_true, Bool.or_eq_true, decide_eq_true_eq, Bool.not_eq_true', Bool.and_eq_false_iff, decide_eq_false_iff_not, Bool.true_or, Bool.false_or, if_true, if_false, Bool.false_eq_true]
  grind
theorem ne_29 {p : LPart} {ks : List Int} (hl : (ks.length : Int) = p.kids.length) (hk : p.kind = 29) : NodeEq p ks := by
  have s1 : isStat p.kind = false := by simp [isStat, hk]
  have E1 : (p.kind = 1) = False := eq_false (by omega)
  have E2 : (p.kind = 2) = False := eq_false (by omega)
  have E3 : (p.kind = 3) = False := eq_false (by omega)
  have E4 : (p.kind = 4) = False := eq_false (by omega)
  have E5 : (p.kind = 5) = False := eq_false (by omega)
  have E6 : (p.kind = 6) = False := eq_false (by omega)
  have E7 : (p.kind = 7) = False := eq_false (by omega)
  have E8 : (p.kind = 8) = False := eq_false (by omega)
  have E9 : (p.kind = 9) = False := eq_false (by omega)
  have E10 : (p.kind = 10) = False := eq_false (by omega)
  have E11 : (p.kind = 11) = False := eq_false (by omega)
  have E12 : (p.kind = 12) = False := eq_false (by omega)
  have E13 : (p.kind = 13) = False := eq_false (by omega)
  have E14 : (p.kind = 14) = False := eq_false (by omega)
  have E15 : (p.kind = 15) = False := eq_false (by omega)
  have E16 : (p.kind = 16) = False := eq_false (by omega)
  have E20 : (p.kind = 20) = False := eq_false (by omega)
  have E21 : (p.kind = 21) = False := eq_false (by omega)
  have E22 : (p.kind = 22) = False := eq_false (by omega)
  have E23 : (p.kind = 23) = False := eq_false (by omega)
  have E24 : (p.kind = 24) = False := eq_false (by omega)
  have E25 : (p.kind = 25) = False := eq_false (by omega)
  have E26 : (p.kind = 26) = False := eq_false (by omega)
  have E27 : (p.kind = 27) = False := eq_false (by omega)
  have E28 : (p.kind = 28) = False := eq_false (by omega)
  have E29 : (p.kind = 29) = True := eq_true (by omega)
  have E30 : (p.kind = 30) = False := eq_false (by omega)
  have E31 : (p.kind = 31) = False := eq_false (by omega)
  have E32 : (p.kind = 32) = False := eq_false (by omega)
  have E33 : (p.kind = 33) = False := eq_false (by omega)
  have E34 : (p.kind = 34) = False := eq_false (by omega)
  have E35 : (p.kind = 35) = False := eq_false (by omega)
  have E36 : (p.kind = 36) = False := eq_false (by omega)
  have E37 : (p.kind = 37) = False := eq_false (by omega)
  have E40 : (p.kind = 40) = False := eq_false (by omega)
  have E41 : (p.kind = 41) = False := eq_false (by omega)
  have E42 : (p.kind = 42) = False := eq_false (by omega)
  unfold NodeEq
  simp only [s1, if_true, if_false, Bool.false_eq_true]
  unfold shapeOk shapeMid exprOk
  simp only [E1, E2, E3, E4, E5, E6, E7, E8, E9, E10, E11, E12, E13, E14, E15, E16, E20, E21, E22, E23, E24, E25, E26, E27, E28, E29, E30, E31, E32, E33, E34, E35, E36, E37, E40, E41, E42, or_false, false_or, or_true, true_or, or_self, if_true, if_false, decide_true, decide_false, Bool.false_and, Bool.true_and]
  have h1 := @exprs_1 ks
  have h2 := @exprs_2 ks
  have h3 := @exprs_k ks
  have h4 := @names_nil p
  have h5 : flt0 0 = true := flt0_0
  simp only [shapeEnd, headOk, bare, named, s1, alls_exprs, base_eq, alls_all, fltSame_zero, entry_fun, decide_true, decide_false]
  rw [Bool.eq_iff_iff]
  simp only [Bool.and_eq_true, Bool.or_eq_true, decide_eq_true_eq, Bool.not_eq_true', Bool.and_eq_false_iff, decide_eq_false_iff_not, Bool.true_or, Bool.false_or, if_true, if_false, Bool.false_eq_true]
  grind
theorem ne_30 {p : LPart} {ks : List Int} (hl : (ks.length : Int) = p.kids.length) (hk : p.kind = 30) : NodeEq p ks := by
  have s1 : isStat p.kind = false := by simp [isStat, hk]
  have E1 : (p.kind = 1) = False := eq_false (by omega)
  have E2 : (p.kind = 2) = False := eq_false (by omega)
  have E3 : (p.kind = 3) = False := eq_false (by omega)
  have E4 : (p.kind = 4) = False := eq_false (by omega)
  have E5 : (p.kind = 5) = False := eq_false (by omega)
  have E6 : (p.kind = 6) = False := eq_false (by omega)
  have E7 : (p.kind = 7) = False := eq_false (by omega)
  have E8 : (p.kind = 8) = False := eq_false (by omega)
  have E9 : (p.kind = 9) = False := eq_false (by omega)
  have E10 : (p.kind = 10) = False := eq_false (by omega)
  have E11 : (p.kind = 11) = False := eq_false (by omega)
  have E12 : (p.kind = 12) = False := eq_false (by omega)
  have E13 : (p.kind = 13) = False := eq_false (by omega)
  have E14 : (p.kind = 14) = False := eq_false (by omega)
  have E15 : (p.kind = 15) = False := eq_false (by omega)
  have E16 : (p.kind = 16) = False := eq_false (by omega)
  have E20 : (p.kind = 20) = False := eq_false (by omega)
  have E21 : (p.kind = 21) = False := eq_false (by omega)
  have E22 : (p.kind = 22) = False := eq_false (by omega)
  have E23 : (p.kind = 23) = False := eq_false (by omega)
  have E24 : (p.kind = 24) = False := eq_false (by omega)
  have E25 : (p.kind = 25) = False := eq_false (by omega)
  have E26 : (p.kind = 26) = False := eq_false (by omega)
  have E27 : (p.kind = 27) = False := eq_false (by omega)
  have E28 : (p.kind = 28) = False := eq_false (by omega)
  have E29 : (p.kind = 29) = False := eq_false (by omega)
  have E30 : (p.kind = 30) = True := eq_true (by omega)
  have E31 : (p.kind = 31) = False := eq_false (by omega)
  have E32 : (p.kind = 32) = False := eq_false (by omega)
  have E33 : (p.kind = 33) = False := eq_false (by omega)
  have E34 : (p.kind = 34) = False := eq_false (by omega)
  have E35 : (p.kind = 35) = False := eq_false (by omega)
  have E36 : (p.kind = 36) = False := eq_false (by omega)
  have E37 : (p.kind = 37) = False := eq_false (by omega)
  have E40 : (p.kind = 40) = False := eq_false (by omega)
  have E41 : (p.kind = 41) = False := eq_false (by omega)
  have E42 : (p.kind = 42) = False := eq_false (by omega)
  unfold NodeEq
  simp only [s1, if_true, if_false, Bool.false_eq_true]
  unfold shapeOk shapeMid exprOk
  simp only [E1, E2, E3, E4, E5, E6, E7, E8, E9, E10, E11, E12, E13, E14, E15, E16, E20, E21, E22, E23, E24, E25, E26, E27, E28, E29, E30, E31, E32, E33, E34, E35, E36, E37, E40, E41, E42, or_false, false_or, or_true, true_or, or_self, if_true, if_false, decide_true, decide_false, Bool.false_and, Bool.true_and]
  have h1 := @exprs_1 ks
  have h2 := @exprs_2 ks
  have h3 := @exprs_k ks
  have h4 := @names_nil p
  have h5 : flt0 0 = true := flt0_0
  simp only [shapeEnd, headOk, bare, named, s1, alls_exprs, base_eq, alls_all, fltSame_zero, entry_fun, decide_true, decide_false]
  rw [Bool.eq_iff_iff]
  simp only [Bool.and_eq_true, Bool.or_eq_true, decide_eq_true_eq, Bool.not_eq_true', Bool.and_eq_false_iff, decide_eq_false_iff_not, Bool.true_or, Bool.false_or, if_true, if_false, Bool.false_eq_true]
  grind
theorem ne_31 {p : LPart} {ks : List Int} (hl : (ks.length : Int) = p.kids.length) (hk : p.kind = 31) : NodeEq p ks := by
  have s1 : isStat p.kind = false := by simp [isStat, hk]
  have E1 : (p.kind = 1) = False := eq_false (by omega)
  have E2 : (p.kind = 2) = False := eq_false (by omega)
  have E3 : (p.kind = 3) = False := eq_false (by omega)
  have E4 : (p.kind = 4) = False := eq_false (by omega)
  have E5 : (p.kind = 5) = False := eq_false (by omega)
  have E6 : (p.kind = 6) = False := eq_false (by omega)
  have E7 : (p.kind = 7) = False := eq_false (by omega)
  have E8 : (p.kind = 8) = False := eq_false (by omega)
  have E9 : (p.kind = 9) = False := eq_false (by omega)
  have E10 : (p.kind = 10) = False := eq_false (by omega)
  have E11 : (p.kind = 11) = False := eq_false (by omega)
  have E12 : (p.kind = 12) = False := eq_false (by omega)
  have E13 : (p.kind = 13) = False := eq_false (by omega)
  have E14 : (p.kind = 14) = False := eq_false (by omega)
  have E15 : (p.kind = 15) = False := eq_false (by omega)
  have E16 : (p.kind = 16) = False := eq_false (by omega)
  have E20 : (p.kind = 20) = False := eq_false (by omega)
  have E21 : (p.kind = 21) = False := eq_false (by omega)
  have E22 : (p.kind = 22) = False := eq_false (by omega)
  have E23 : (p.kind = 23) = False := eq_false (by omega)
  have E24 : (p.kind = 24) = False := eq_false (by omega)
  have E25 : (p.kind = 25) = False := eq_false (by omega)
  have E26 : (p.kind = 26) = False := eq_false (by omega)
  have E27 : (p.kind = 27) = False := eq_false (by omega)
  have E28 : (p.kind = 28) = False := eq_false (by omega)
  have E29 : (p.kind = 29) = False := eq_false (by omega)
  have E30 : (p.kind = 30) = False := eq_false (by omega)
  have E31 : (p.kind = 31) = True := eq_true (by omega)
  have E32 : (p.kind = 32) = False := eq_false (by omega)
  have E33 : (p.kind = 33) = False := eq_false (by omega)
  have E34 : (p.kind = 34) = False := eq_false (by omega)
  have E35 : (p.kind = 35) = False := eq_false (by omega)
  have E36 : (p.kind = 36) = False := eq_false (by omega)
  have E37 : (p.kind = 37) = False := eq_false (by omega)
  have E40 : (p.kind = 40) = False := eq_false (by omega)
  have E41 : (p.kind = 41) = False := eq_false (by omega)
  have E42 : (p.kind = 42) = False := eq_false (by omega)
  unfold NodeEq
  simp only [s1, if_true, if_false, Bool.false_eq_true]
  unfold shapeOk shapeMid exprOk
  simp only [E1, E2, E3, E4, E5, E6, E7, E8, E9, E10, E11, E12, E13, E14, E15, E16, E20, E21, E22, E23, E24, E25, E26, E27, E28, E29, E30, E31, E32, E33, E34, E35, E36, E37, E40, E41, E42, or_false, false_or, or_true, true_or, or_self, if_true, if_false, decide_true, decide_false, Bool.false_and, Bool.true_and]
  have h1 := @exprs_1 ks
  have h2 := @exprs_2 ks
  have h3 := @exprs_k ks
  have h4 := @names_nil p
  have h5 : flt0 0 = true := flt0_0
  simp only [shapeEnd, headOk, bare, named, s1, alls_exprs, base_eq, alls_all, fltSame_zero, entry_fun, decide_true, decide_false]
  rw [Bool.eq_iff_iff]
  simp only [Bool.and_eq_true, Bool.or_eq_true, decide_eq_true_eq, Bool.not_eq_true', Bool.and_eq_false_iff, decide_eq_false_iff_not, Bool.true_or, Bool.false_or, if_true, if_false, Bool.false_eq_true]
  grind
theorem ne_32 {p : LPart} {ks : List Int} (hl : (ks.length : Int) = p.kids.length) (hk : p.kind = 32) : NodeEq p ks := by
  have s1 : isStat p.kind = false := by simp [isStat, hk]
  have E1 : (p.kind = 1) = False := eq_false (by omega)
  have E2 : (p.kind = 2) = False := eq_false (by omega)
  have E3 : (p.kind = 3) = False := eq_false (by omega)
  have E4 : (p.kind = 4) = False := eq_false (by omega)
  have E5 : (p.kind = 5) = False := eq_false (by omega)
  have E6 : (p.kind = 6) = False := eq_false (by omega)
  have E7 : (p.kind = 7) = False := eq_false (by omega)
  have E8 : (p.kind = 8) = False := eq_false (by omega)
  have E9 : (p.kind = 9) = False := eq_false (by omega)
  have E10 : (p.kind = 10) = False := eq_false (by omega)
  have E11 : (p.kind = 11) = False := eq_false (by omega)
  have E12 : (p.kind = 12) = False := eq_false (by omega)
  have E13 : (p.kind = 13) = False := eq_false (by omega)
  have E14 : (p.kind = 14) = False := eq_false (by omega)
  have E15 : (p.kind = 15) = False := eq_false (by omega)
  have E16 : (p.kind = 16) = False := eq_false (by omega)
  have E20 : (p.kind = 20) = False := eq_false (by omega)
  have E21 : (p.kind = 21) = False := eq_false (by omega)
  have E22 : (p.kind = 22) = False := eq_false (by omega)
  have E23 : (p.kind = 23) = False := eq_false (by omega)
  have E24 : (p.kind = 24) = False := eq_false (by omega)
  have E25 : (p.kind = 25) = False := eq_false (by omega)
  have E26 : (p.kind = 26) = False := eq_false (by omega)
  have E27 : (p.kind = 27) = False := eq_false (by omega)
  have E28 : (p.kind = 28) = False := eq_false (by omega)
  have E29 : (p.kind = 29) = False := eq_false (by omega)
  have E30 : (p.kind = 30) = False := eq_false (by omega)
  have E31 : (p.kind = 31) = False := eq_false (by omega)
  have E32 : (p.kind = 32) = True := eq_true (by omega)
  have E33 : (p.kind = 33) = False := eq_false (by omega)
  have E34 : (p.kind = 34) = False := eq_false (by omega)
  have E35 : (p.kind = 35) = False := eq_false (by omega)
  have E36 : (p.kind = 36) = False := eq_false (by omega)
  have E37 : (p.kind = 37) = False := eq_false (by omega)
  have E40 : (p.kind = 40) = False := eq_false (by omega)
  have E41 : (p.kind = 41) = False := eq_false (by omega)
  have E42 : (p.kind = 42) = False := eq_false (by omega)
  unfold NodeEq
  simp only [s1, if_true, if_false, Bool.false_eq_true]
  unfold shapeOk shapeMid exprOk
  simp only [E1, E2, E3, E4, E5, E6, E7, E8, E9, E10, E11, E12, E13, E14, E15, E16, E20, E21, E22, E23, E24, E25, E26, E27, E28, E29, E30, E31, E32, E33, E34, E35, E36, E37, E40, E41, E42, or_false, false_or, or_true, true_or, or_self, if_true, if_false, decide_true, decide_false, Bool.false_and, Bool.true_and]
  have h1 := @exprs_1 ks
  have h2 := @exprs_2 ks
  have h3 := @exprs_k ks
  have h4 := @names_nil p
  have h5 : flt0 0 = true := flt0_0
  simp only [shapeEnd, headOk, bare, named, s1, alls_exprs, base_eq, alls_all, fltSame_zero, entry_fun, decide_true, decide_false]
  rw [Bool.eq_iff_iff]
  simp only [Bool.and_eq_true, Bool.or_eq_true, decide_eq_true_eq, Bool.not_eq_true', Bool.and_eq_false_iff, decide_eq_false_iff_not, Bool.true_or, Bool.false_or, if_true, if_false, Bool.false_eq_true]
  grind
theorem ne_33 {p : LPart} {ks : List Int} (hl : (ks.length : Int) = p.kids.length) (hk : p.kind = 33) : NodeEq p ks := by
  have s1 : isStat p.kind = false := by simp [isStat, hk]
  have E1 : (p.kind = 1) = False := eq_false (by omega)
  have E2 : (p.kind = 2) = False := eq_false (by omega)
  have E3 : (p.kind = 3) = False := eq_false (by omega)
  have E4 : (p.kind = 4) = False := eq_false (by omega)
  have E5 : (p.kind = 5) = False := eq_false (by omega)
  have E6 : (p.kind = 6) = False := eq_false (by omega)
  have E7 : (p.kind = 7) = False := eq_false (by omega)
  have E8 : (p.kind = 8) = False := eq_false (by omega)
  have E9 : (p.kind = 9) = False := eq_false (by omega)
  have E10 : (p.kind = 10) = False := eq_false (by omega)
  have E11 : (p.kind = 11) = False := eq_false (by omega)
  have E12 : (p.kind = 12) = False := eq_false (by omega)
  have E13 : (p.kind = 13) = False := eq_false (by omega)
  have E14 : (p.kind = 14) = False := eq_false (by omega)
  have E15 : (p.kind = 15) = False := eq_false (by omega)
  have E16 : (p.kind = 16) = False := eq_false (by omega)
  have E20 : (p.kind = 20) = False := eq_false (by omega)
  have E21 : (p.kind = 21) = False := eq_false (by omega)
  have E22 : (p.kind = 22) = False := eq_false (by omega)
  have E23 : (p.kind = 23) = False := eq_false (by omega)
  have E24 : (p.kind = 24) = False := eq_false (by omega)
  have E25 : (p.kind = 25) = False := eq_false (by omega)
  have E26 : (p.kind = 26) = False := eq_false (by omega)
  have E27 : (p.kind = 27) = False := eq_false (by omega)
  have E28 : (p.kind = 28) = False := eq_false (by omega)
  have E29 : (p.kind = 29) = False := eq_false (by omega)
  have E30 : (p.kind = 30) = False := eq_false (by omega)
  have E31 : (p.kind = 31) = False := eq_false (by omega)
  have E32 : (p.kind = 32) = False := eq_false (by omega)
  have E33 : (p.kind = 33) = True := eq_true (by omega)
  have E34 : (p.kind = 34) = False := eq_false (by omega)
  have E35 : (p.kind = 35) = False := eq_false (by omega)
  have E36 : (p.kind = 36) = False := eq_false (by omega)
  have E37 : (p.kind = 37) = False := eq_false (by omega)
  have E40 : (p.kind = 40) = False := eq_false (by omega)
  have E41 : (p.kind = 41) = False := eq_false (by omega)
  have E42 : (p.kind = 42) = False := eq_false (by omega)
  unfold NodeEq
  simp only [s1, if_true, if_false, Bool.false_eq_true]
  unfold shapeOk shapeMid exprOk
  simp only [E1, E2, E3, E4, E5, E6, E7, E8, E9, E10, E11, E12, E13, E14, E15, E16, E20, E21, E22, E23, E24, E25, E26, E27, E28, E29, E30, E31, E32, E33, E34, E35, E36, E37, E40, E41, E42, or_false, false_or, or_true, true_or, or_self, if_true, if_false, decide_true, decide_false, Bool.false_and, Bool.true_and]
  have h1 := @exprs_1 ks
  have h2 := @exprs_2 ks
  have h3 := @exprs_k ks
  have h4 := @names_nil p
  have h5 : flt0 0 = true := flt0_0
  simp only [shapeEnd, headOk, bare, named, s1, alls_exprs, base_eq, alls_all, fltSame_zero, entry_fun, decide_true, decide_false]
  rw [Bool.eq_iff_iff]
  simp only [Bool.and_eq_true, Bool.or_eq_true, decide_eq_true_eq, Bool.not_eq_true', Bool.and_eq_false_iff, decide_eq_false_iff_not, Bool.true_or, Bool.false_or, if_true, if_false, Bool.false_eq_true]
  grind
theorem ne_34 {p : LPart} {ks : List Int} (hl : (ks.length : Int) = p.kids.length) (hk : p.kind = 34) : NodeEq p ks := by
  have s1 : isStat p.kind = false := by simp [isStat, hk]
  have E1 : (p.kind = 1) = False := eq_false (by omega)
  have E2 : (p.kind = 2) = False := eq_false (by omega)
  have E3 : (p.kind = 3) = False := eq_false (by omega)
  have E4 : (p.kind = 4) = False := eq_false (by omega)
  have E5 : (p.kind = 5) = False := eq_false (by omega)
  have E6 : (p.kind = 6) = False := eq_false (by omega)
  have E7 : (p.kind = 7) = False := eq_false (by omega)
  have E8 : (p.kind = 8) = False := eq_false (by omega)
  have E9 : (p.kind = 9) = False := eq_false (by omega)
  have E10 : (p.kind = 10) = False := eq_false (by omega)
  have E11 : (p.kind = 11) = False := eq_false (by omega)
  have E12 : (p.kind = 12) = False := eq_false (by omega)
  have E13 : (p.kind = 13) = False := eq_false (by omega)
  have E14 : (p.kind = 14) = False := eq_false (by omega)
  have E15 : (p.kind = 15) = False := eq_false (by omega)
  have E16 : (p.kind = 16) = False := eq_false (by omega)
  have E20 : (p.kind = 20) = False := eq_false (by omega)
  have E21 : (p.kind = 21) = False := eq_false (by omega)
  have E22 : (p.kind = 22) = False := eq_false (by omega)
  have E23 : (p.kind = 23) = False := eq_false (by omega)
  have E24 : (p.kind = 24) = False := eq_false (by omega)
  have E25 : (p.kind = 25) = False := eq_false (by omega)
  have E26 : (p.kind = 26) = False := eq_false (by omega)
  have E27 : (p.kind = 27) = False := eq_false (by omega)
  have E28 : (p.kind = 28) = False := eq_false (by omega)
  have E29 : (p.kind = 29) = False := eq_false (by omega)
  have E30 : (p.kind = 30) = False := eq_false (by omega)
  have E31 : (p.kind = 31) = False := eq_false (by omega)
  have E32 : (p.kind = 32) = False := eq_false (by omega)
  have E33 : (p.kind = 33) = False := eq_false (by omega)
  have E34 : (p.kind = 34) = True := eq_true (by omega)
  have E35 : (p.kind = 35) = False := eq_false (by omega)
  have E36 : (p.kind = 36) = False := eq_false (by omega)
  have E37 : (p.kind = 37) = False := eq_false (by omega)
  have E40 : (p.kind = 40) = False := eq_false (by omega)
  have E41 : (p.kind = 41) = False := eq_false (by omega)
  have E42 : (p.kind = 42) = False := eq_false (by omega)
  unfold NodeEq
  simp only [s1, if_true, if_false, Bool.false_eq_true]
  unfold shapeOk shapeMid exprOk
  simp only [E1, E2, E3, E4, E5, E6, E7, E8, E9, E10, E11, E12, E13, E14, E15, E16, E20, E21, E22, E23, E24, E25, E26, E27, E28, E29, E30, E31, E32, E33, E34, E35, E36, E37, E40, E41, E42, or_false, false_or, or_true, true_or, or_self, if_true, if_false, decide_true, decide_false, Bool.false_and, Bool.true_and]
  have h1 := @exprs_1 ks
  have h2 := @exprs_2 ks
  have h3 := @exprs_k ks
  have h4 := @names_nil p
  have h5 : flt0 0 = true := flt0_0
  simp only [shapeEnd, headOk, bare, named, s1, alls_exprs, base_eq, alls_all, fltSame_zero, entry_fun, decide_true, decide_false]
  rw [Bool.eq_iff_iff]
  simp only [Bool.and_eq_true, Bool.or_eq_true, decide_eq_true_eq, Bool.not_eq_true', Bool.and_eq_false_iff, decide_eq_false_iff_not, Bool.true_or, Bool.false_or, if_true, if_false, Bool.false_eq_true]
  grind
theorem ne_35 {p : LPart} {ks : List Int} (hl : (ks.length : Int) = p.kids.length) (hk : p.kind = 35) : NodeEq p ks := by
  have s1 : isStat p.kind = false := by simp [isStat, hk]
  have E1 : (p.kind = 1) = False := eq_false (by omega)
  have E2 : (p.kind = 2) = False := eq_false (by omega)
  have E3 : (p.kind = 3) = False := eq_false (by omega)
  have E4 : (p.kind = 4) = False := eq_false (by omega)
  have E5 : (p.kind = 5) = False := eq_false (by omega)
  have E6 : (p.kind = 6) = False := eq_false (by omega)
  have E7 : (p.kind = 7) = False := eq_false (by omega)
  have E8 : (p.kind = 8) = False := eq_false (by omega)
  have E9 : (p.kind = 9) = False := eq_false (by omega)
  have E10 : (p.kind = 10) = False := eq_false (by omega)
  have E11 : (p.kind = 11) = False := eq_false (by omega)
  have E12 : (p.kind = 12) = False := eq_false (by omega)
  have E13 : (p.kind = 13) = False := eq_false (by omega)
  have E14 : (p.kind = 14) = False := eq_false (by omega)
  have E15 : (p.kind = 15) = False := eq_false (by omega)
  have E16 : (p.kind = 16) = False := eq_false (by omega)
  have E20 : (p.kind = 20) = False := eq_false (by omega)
  have E21 : (p.kind = 21) = False := eq_false (by omega)
  have E22 : (p.kind = 22) = False := eq_false (by omega)
  have E23 : (p.kind = 23) = False := eq_false (by omega)
  have E24 : (p.kind = 24) = False := eq_false (by omega)
  have E25 : (p.kind = 25) = False := eq_false (by omega)
  have E26 : (p.kind = 26) = False := eq_false (by omega)
  have E27 : (p.kind = 27) = False := eq_false (by omega)
  have E28 : (p.kind = 28) = False := eq_false (by omega)
  have E29 : (p.kind = 29) = False := eq_false (by omega)
  have E30 : (p.kind = 30) = False := eq_false (by omega)
  have E31 : (p.kind = 31) = False := eq_false (by omega)
  have E32 : (p.kind = 32) = False := eq_false (by omega)
  have E33 : (p.kind = 33) = False := eq_false (by omega)
  have E34 : (p.kind = 34) = False := eq_false (by omega)
  have E35 : (p.kind = 35) = True := eq_true (by omega)
  have E36 : (p.kind = 36) = False := eq_false (by omega)
  have E37 : (p.kind = 37) = False := eq_false (by omega)
  have E40 : (p.kind = 40) = False := eq_false (by omega)
  have E41 : (p.kind = 41) = False := eq_false (by omega)
  have E42 : (p.kind = 42) = False := eq_false (by omega)
  unfold NodeEq
  simp only [s1, if_true, if_false, Bool.false_eq_true]
  unfold shapeOk shapeMid exprOk
  simp only [E1, E2, E3, E4, E5, E6, E7, E8, E9, E10, E11, E12, E13, E14, E15, E16, E20, E21, E22, E23, E24, E25, E26, E27, E28, E29, E30, E31, E32, E33, E34, E35, E36, E37, E40, E41, E42, or_false, false_or, or_true, true_or, or_self, if_true, if_false, decide_true, decide_false, Bool.false_and, Bool.true_and]
  have h1 := @exprs_1 ks
  have h2 := @exprs_2 ks
  have h3 := @exprs_k ks
  have h4 := @names_nil p
  have h5 : flt0 0 = true := flt0_0
  simp only [shapeEnd, headOk, bare, named, s1, alls_exprs, base_eq, alls_all, fltSame_zero, entry_fun, decide_true, decide_false]
  rw [Bool.eq_iff_iff]
  simp only [Bool.and_eq_true, Bool.or_eq_true, decide_eq_true_eq, Bool.not_eq_true', Bool.and_eq_false_iff, decide_eq_false_iff_not, Bool.true_or, Bool.false_or, if_true, if_false, Bool.false_eq_true]
  grind
theorem ne_36 {p : LPart} {ks : List Int} (hl : (ks.length : Int) = p.kids.length) (hk : p.kind = 36) : NodeEq p ks := by
  have s1 : isStat p.kind = false := by simp [isStat, hk]
  have E1 : (p.kind = 1) = False := eq_false (by omega)
  have E2 : (p.kind = 2) = False := eq_false (by omega)
  have E3 : (p.kind = 3) = False := eq_false (by omega)
  have E4 : (p.kind = 4) = False := eq_false (by omega)
  have E5 : (p.kind = 5) = False := eq_false (by omega)
  have E6 : (p.kind = 6) = False := eq_false (by omega)
  have E7 : (p.kind = 7) = False := eq_false (by omega)
  have E8 : (p.kind = 8) = False := eq_false (by omega)
  have E9 : (p.kind = 9) = False := eq_false (by omega)
  have E10 : (p.kind = 10) = False := eq_false (by omega)
  have E11 : (p.kind = 11) = False := eq_false (by omega)
  have E12 : (p.kind = 12) = False := eq_false (by omega)
  have E13 : (p.kind = 13) = False := eq_false (by omega)
  have E14 : (p.kind = 14) = False := eq_false (by omega)
  have E15 : (p.kind = 15) = False := eq_false (by omega)
  have E16 : (p.kind = 16) = False := eq_false (by omega)
  have E20 : (p.kind = 20) = False := eq_false (by omega)
  have E21 : (p.kind = 21) = False := eq_false (by omega)
  have E22 : (p.kind = 22) = False := eq_false (by omega)
  have E23 : (p.kind = 23) = False := eq_false (by omega)
  have E24 : (p.kind = 24) = False := eq_false (by omega)
  have E25 : (p.kind = 25) = False := eq_false (by omega)
  have E26 : (p.kind = 26) = False := eq_false (by omega)
  have E27 : (p.kind = 27) = False := eq_false (by omega)
  have E28 : (p.kind = 28) = False := eq_false (by omega)
  have E29 : (p.kind = 29) = False := eq_false (by omega)
  have E30 : (p.kind = 30) = False := eq_false (by omega)
  have E31 : (p.kind = 31) = False := eq_false (by omega)
  have E32 : (p.kind = 32) = False := eq_false (by omega)
  have E33 : (p.kind = 33) = False := eq_false (by omega)
  have E34 : (p.kind = 34) = False := eq_false (by omega)
  have E35 : (p.kind = 35) = False := eq_false (by omega)
  have E36 : (p.kind = 36) = True := eq_true (by omega)
  have E37 : (p.kind = 37) = False := eq_false (by omega)
  have E40 : (p.kind = 40) = False := eq_false (by omega)
  have E41 : (p.kind = 41) = False := eq_false (by omega)
  have E42 : (p.kind = 42) = False := eq_false (by omega)
  unfold NodeEq
  simp only [s1, if_true, if_false, Bool.false_eq_true]
  unfold shapeOk shapeMid exprOk
  simp only [E1, E2, E3, E4, E5, E6, E7, E8, E9, E10, E11, E12, E13, E14, E15, E16, E20, E21, E22, E23, E24, E25, E26, E27, E28, E29, E30, E31, E32, E33, E34, E35, E36, E37, E40, E41, E42, or_false, false_or, or_true, true_or, or_self, if_true, if_false, decide_true, decide_false, Bool.false_and, Bool.true_and]
  have h1 := @exprs_1 ks
  have h2 := @exprs_2 ks
  have h3 := @exprs_k ks
  have h4 := @names_nil p
  have h5 : flt0 0 = true := flt0_0
  simp only [shapeEnd, headOk, bare, named, s1, alls_exprs, base_eq, alls_all, fltSame_zero, entry_fun, decide_true, decide_false]
  rw [Bool.eq_iff_iff]
  simp only [Bool.and_eq_true, Bool.or_eq_true, decide_eq_true_eq, Bool.not_eq_true', Bool.and_eq_false_iff, decide_eq_false_iff_not, Bool.true_or, Bool.false_or, if_true, if_false, Bool.false_eq_true]
  grind
theorem ne_37 {p : LPart} {ks : List Int} (hl : (ks.length : Int) = p.kids.length) (hk : p.kind = 37) : NodeEq p ks := by
  have s1 : isStat p.kind = false := by simp [isStat, hk]
  have E1 : (p.kind = 1) = False := eq_false (by omega)
  have E2 : (p.kind = 2) = False := eq_false (by omega)
  have E3 : (p.kind = 3) = False := eq_false (by omega)
  have E4 : (p.kind = 4) = False := eq_false (by omega)
  have E5 : (p.kind = 5) = False := eq_false (by omega)
  have E6 : (p.kind = 6) = False := eq_false (by omega)
  have E7 : (p.kind = 7) = False := eq_false (by omega)
  have E8 : (p.kind = 8) = False := eq_false (by omega)
  have E9 : (p.kind = 9) = False := eq_false (by omega)
  have E10 : (p.kind = 10) = False := eq_false (by omega)
  have E11 : (p.kind = 11) = False := eq_false (by omega)
  have E12 : (p.kind = 12) = False := eq_false (by omega)
  have E13 : (p.kind = 13) = False := eq_false (by omega)
  have E14 : (p.kind = 14) = False := eq_false (by omega)
  have E15 : (p.kind = 15) = False := eq_false (by omega)
  have E16 : (p.kind = 16) = False := eq_false (by omega)
  have E20 : (p.kind = 20) = False := eq_false (by omega)
  have E21 : (p.kind = 21) = False := eq_false (by omega)
  have E22 : (p.kind = 22) = False := eq_false (by omega)
  have E23 : (p.kind = 23) = False := eq_false (by omega)
  have E24 : (p.kind = 24) = False := eq_false (by omega)
  have E25 : (p.kind = 25) = False := eq_false (by omega)
  have E26 : (p.kind = 26) = False := eq_false (by omega)
  have E27 : (p.kind = 27) = False := eq_false (by omega)
  have E28 : (p.kind = 28) = False := eq_false (by omega)
  have E29 : (p.kind = 29) = False := eq_false (by omega)
  have E30 : (p.kind = 30) = False := eq_false (by omega)
  have E31 : (p.kind = 31) = False := eq_false (by omega)
  have E32 : (p.kind = 32) = False := eq_false (by omega)
  have E33 : (p.kind = 33) = False := eq_false (by omega)
  have E34 : (p.kind = 34) = False := eq_false (by omega)
  have E35 : (p.kind = 35) = False := eq_false (by omega)
  have E36 : (p.kind = 36) = False := eq_false (by omega)
  have E37 : (p.kind = 37) = True := eq_true (by omega)
  have E40 : (p.kind = 40) = False := eq_false (by omega)
  have E41 : (p.kind = 41) = False := eq_false (by omega)
  have E42 : (p.kind = 42) = False := eq_false (by omega)
  unfold NodeEq
  simp only [s1, if_true, if_false, Bool.false_eq_true]
  unfold shapeOk shapeMid exprOk
  simp only [E1, E2, E3, E4, E5, E6, E7, E8, E9, E10, E11, E12, E13, E14, E15, E16, E20, E21, E22, E23, E24, E25, E26, E27, E28, E29, E30, E31, E32, E33, E34, E35, E36, E37, E40, E41, E42, or_false, false_or, or_true, true_or, or_self, if_true, if_false, decide_true, decide_false, Bool.false_and, Bool.true_and]
  have h1 := @exprs_1 ks
  have h2 := @exprs_2 ks
  have h3 := @exprs_k ks
  have h4 := @names_nil p
  have h5 : flt0 0 = true := flt0_0
  simp only [shapeEnd, headOk, bare, named, s1, alls_exprs, base_eq, alls_all, fltSame_zero, entry_fun, decide_true, decide_false]
  rw [Bool.eq_iff_iff]
  simp only [Bool.and_eq_true, Bool.or_eq_true, decide_eq_true_eq, Bool.not_eq_true', Bool.and_eq_false_iff, decide_eq_false_iff_not, Bool.true_or, Bool.false_or, if_true, if_false, Bool.false_eq_true]
  grind
theorem ne_40 {p : LPart} {ks : List Int} (hl : (ks.length : Int) = p.kids.length) (hk : p.kind = 40) : NodeEq p ks := by
  have s1 : isStat p.kind = false := by simp [isStat, hk]
  have E1 : (p.kind = 1) = False := eq_false (by omega)
  have E2 : (p.kind = 2) = False := eq_false (by omega)
  have E3 : (p.kind = 3) = False := eq_false (by omega)
  have E4 : (p.kind = 4) = False := eq_false (by omega)
  have E5 : (p.kind = 5) = False := eq_false (by omega)
  have E6 : (p.kind = 6) = False := eq_false (by omega)
  have E7 : (p.kind = 7) = False := eq_false (by omega)
  have E8 : (p.kind = 8) = False := eq_false (by omega)
  have E9 : (p.kind = 9) = False := eq_false (by omega)
  have E10 : (p.kind = 10) = False := eq_false (by omega)
  have E11 : (p.kind = 11) = False := eq_false (by omega)
  have E12 : (p.kind = 12) = False := eq_false (by omega)
  have E13 : (p.kind = 13) = False := eq_false (by omega)
  have E14 : (p.kind = 14) = False := eq_false (by omega)
  have E15 : (p.kind = 15) = False := eq_false (by omega)
  have E16 : (p.kind = 16) = False := eq_false (by omega)
  have E20 : (p.kind = 20) = False := eq_false (by omega)
  have E21 : (p.kind = 21) = False := eq_false (by omega)
  have E22 : (p.kind = 22) = False := eq_false (by omega)
  have E23 : (p.kind = 23) = False := eq_false (by omega)
  have E24 : (p.kind = 24) = False := eq_false (by omega)
  have E25 : (p.kind = 25) = False := eq_false (by omega)
  have E26 : (p.kind = 26) = False := eq_false (by omega)
  have E27 : (p.kind = 27) = False := eq_false (by omega)
  have E28 : (p.kind = 28) = False := eq_false (by omega)
  have E29 : (p.kind = 29) = False := eq_false (by omega)
  have E30 : (p.kind = 30) = False := eq_false (by omega)
  have E31 : (p.kind = 31) = False := eq_false (by omega)
  have E32 : (p.kind = 32) = False := eq_false (by omega)
  have E33 : (p.kind = 33) = False := eq_false (by omega)
  have E34 : (p.kind = 34) = False := eq_false (by omega)
  have E35 : (p.kind = 35) = False := eq_false (by omega)
  have E36 : (p.kind = 36) = False := eq_false (by omega)
  have E37 : (p.kind = 37) = False := eq_false (by omega)
  have E40 : (p.kind = 40) = True := eq_true (by omega)
  have E41 : (p.kind = 41) = False := eq_false (by omega)
  have E42 : (p.kind = 42) = False := eq_false (by omega)
  unfold NodeEq
  simp only [s1, if_true, if_false, Bool.false_eq_true]
  unfold shapeOk shapeMid exprOk
  simp only [E1, E2, E3, E4, E5, E6, E7, E8, E9, E10, E11, E12, E13, E14, E15, E16, E20, E21, E22, E23, E24, E25, E26, E27, E28, E29, E30, E31, E32, E33, E34, E35, E36, E37, E40, E41, E42, or_false, false_or, or_true, true_or, or_self, if_true, if_false, decide_true, decide_false, Bool.false_and, Bool.true_and]
  have h1 := @exprs_1 ks
  have h2 := @exprs_2 ks
  have h3 := @exprs_k ks
  have h4 := @names_nil p
  have h5 : flt0 0 = true := flt0_0
  simp only [shapeEnd, headOk, bare, named, s1, alls_exprs, base_eq, alls_all, fltSame_zero, entry_fun, decide_true, decide_false]
  rw [Bool.eq_iff_iff]
  simp only [Bool.and_eq_true, Bool.or_eq_true, decide_eq_true_eq, Bool.not_eq_true', Bool.and_eq_false_iff, decide_eq_false_iff_not, Bool.true_or, Bool.false_or, if_true, if_false, Bool.false_eq_true]
  grind
theorem ne_41 {p : LPart} {ks : List Int} (hl : (ks.length : Int) = p.kids.length) (hk : p.kind = 41) : NodeEq p ks := by
  have s1 : isStat p.kind = false := by simp [isStat, hk]
  have E1 : (p.kind = 1) = False := eq_false (by omega)
  have E2 : (p.kind = 2) = False := eq_false (by omega)
  have E3 : (p.kind = 3) = False := eq_false (by omega)
  have E4 : (p.kind = 4) = False := eq_false (by omega)
  have E5 : (p.kind = 5) = False := eq_false (by omega)
  have E6 : (p.kind = 6) = False := eq_false (by omega)
  have E7 : (p.kind = 7) = False := eq_false (by omega)
  have E8 : (p.kind = 8) = False := eq_false (by omega)
  have E9 : (p.kind = 9) = False := eq_false (by omega)
  have E10 : (p.kind = 10) = False := eq_false (by omega)
  have E11 : (p.kind = 11) = False := eq_false (by omega)
  have E12 : (p.kind = 12) = False := eq_false (by omega)
  have E13 : (p.kind = 13) = False := eq_false (by omega)
  have E14 : (p.kind = 14) = False := eq_false (by omega)
  have E15 : (p.kind = 15) = False := eq_false (by omega)
  have E16 : (p.kind = 16) = False := eq_false (by omega)
  have E20 : (p.kind = 20) = False := eq_false (by omega)
  have E21 : (p.kind = 21) = False := eq_false (by omega)
  have E22 : (p.kind = 22) = False := eq_false (by omega)
  have E23 : (p.kind = 23) = False := eq_false (by omega)
  have E24 : (p.kind = 24) = False := eq_false (by omega)
  have E25 : (p.kind = 25) = False := eq_false (by omega)
  have E26 : (p.kind = 26) = False := eq_false (by omega)
  have E27 : (p.kind = 27) = False := eq_false (by omega)
  have E28 : (p.kind = 28) = False := eq_false (by omega)
  have E29 : (p.kind = 29) = False := eq_false (by omega)
  have E30 : (p.kind = 30) = False := eq_false (by omega)
  have E31 : (p.kind = 31) = False := eq_false (by omega)
  have E32 : (p.kind = 32) = False := eq_false (by omega)
  have E33 : (p.kind = 33) = False := eq_false (by omega)
  have E34 : (p.kind = 34) = False := eq_false (by omega)
  have E35 : (p.kind = 35) = False := eq_false (by omega)
  have E36 : (p.kind = 36) = False := eq_false (by omega)
  have E37 : (p.kind = 37) = False := eq_false (by omega)
  have E40 : (p.kind = 40) = False := eq_false (by omega)
  have E41 : (p.kind = 41) = True := eq_true (by omega)
  have E42 : (p.kind = 42) = False := eq_false (by omega)
  unfold NodeEq
  simp only [s1, if_true, if_false, Bool.false_eq_true]
  unfold shapeOk shapeMid exprOk
  simp only [E1, E2, E3, E4, E5, E6, E7, E8, E9, E10, E11, E12, E13, E14, E15, E16, E20, E21, E22, E23, E24, E25, E26, E27, E28, E29, E30, E31, E32, E33, E34, E35, E36, E37, E40, E41, E42, or_false, false_or, or_true, true_or, or_self, if_true, if_false, decide_true, decide_false, Bool.false_and, Bool.true_and]
  have h1 := @exprs_1 ks
  have h2 := @exprs_2 ks
  have h3 := @exprs_k ks
  have h4 := @names_nil p
  have h5 : flt0 0 = true := flt0_0
  simp only [shapeEnd, headOk, bare, named, s1, alls_exprs, base_eq, alls_all, fltSame_zero, entry_fun, decide_true, decide_false]
  rw [Bool.eq_iff_iff]
  simp only [Bool.and_eq_true, Bool.or_eq_true, decide_eq_true_eq, Bool.not_eq_true', Bool.and_eq_false_iff, decide_eq_false_iff_not, Bool.true_or, Bool.false_or, if_true, if_false, Bool.false_eq_true]
  grind
theorem ne_42 {p : LPart} {ks : List Int} (hl : (ks.length : Int) = p.kids.length) (hk : p.kind = 42) : NodeEq p ks := by
  have s1 : isStat p.kind = false := by simp [isStat, hk]
  have E1 : (p.kind = 1) = False := eq_false (by omega)
  have E2 : (p.kind = 2) = False := eq_false (by omega)
  have E3 : (p.kind = 3) = False := eq_false (by omega)
  have E4 : (p.kind = 4) = False := eq_false (by omega)
  have E5 : (p.kind = 5) = False := eq_false (by omega)
  have E6 : (p.kind = 6) = False := eq_false (by omega)
  have E7 : (p.kind = 7) = False := eq_false (by omega)
  have E8 : (p.kind = 8) = False := eq_false (by omega)
  have E9 : (p.kind = 9) = False := eq_false (by omega)
  have E10 : (p.kind = 10) = False := eq_false (by omega)
  have E11 : (p.kind = 11) = False := eq_false (by omega)
  have E12 : (p.kind = 12) = False := eq_false (by omega)
  have E13 : (p.kind = 13) = False := eq_false (by omega)
  have E14 : (p.kind = 14) = False := eq_false (by omega)
  have E15 : (p.kind = 15) = False := eq_false (by omega)
  have E16 : (p.kind = 16) = False := eq_false (by omega)
  have E20 : (p.kind = 20) = False := eq_false (by omega)
  have E21 : (p.kind = 21) = False := eq_false (by omega)
  have E22 : (p.kind = 22) = False := eq_false (by omega)
  have E23 : (p.kind = 23) = False := eq_false (by omega)
  have E24 : (p.kind = 24) = False := eq_false (by omega)
  have E25 : (p.kind = 25) = False := eq_false (by omega)
  have E26 : (p.kind = 26) = False := eq_false (by omega)
  have E27 : (p.kind = 27) = False := eq_false (by omega)
  have E28 : (p.kind = 28) = False := eq_false (by omega)
  have E29 : (p.kind = 29) = False := eq_false (by omega)
  have E30 : (p.kind = 30) = False := eq_false (by omega)
  have E31 : (p.kind = 31) = False := eq_false (by omega)
  have E32 : (p.kind = 32) = False := eq_false (by omega)
  have E33 : (p.kind = 33) = False := eq_false (by omega)
  have E34 : (p.kind = 34) = False := eq_false (by omega)
  have E35 : (p.kind = 35) = False := eq_false (by omega)
  have E36 : (p.kind = 36) = False := eq_false (by omega)
  have E37 : (p.kind = 37) = False := eq_false (by omega)
  have E40 : (p.kind = 40) = False := eq_false (by omega)
  have E41 : (p.kind = 41) = False := eq_false (by omega)
  have E42 : (p.kind = 42) = True := eq_true (by omega)
  unfold NodeEq
  simp only [s1, if_true, if_false, Bool.false_eq_true]
  unfold shapeOk shapeMid exprOk
  simp only [E1, E2, E3, E4, E5, E6, E7, E8, E9, E10, E11, E12, E13, E14, E15, E16, E20, E21, E22, E23, E24, E25, E26, E27, E28, E29, E30, E31, E32, E33, E34, E35, E36, E37, E40, E41, E42, or_false, false_or, or_true, true_or, or_self, if_true, if_false, decide_true, decide_false, Bool.false_and, Bool.true_and]
  have h1 := @exprs_1 ks
  have h2 := @exprs_2 ks
  have h3 := @exprs_k ks
  have h4 := @names_nil p
  have h5 : flt0 0 = true := flt0_0
  simp only [shapeEnd, headOk, bare, named, s1, alls_exprs, base_eq, alls_all, fltSame_zero, entry_fun, decide_true, decide_false]
  rw [Bool.eq_iff_iff]
  simp only [Bool.and_eq_true, Bool.or_eq_true, decide_eq_true_eq, Bool.not_eq_true', Bool.and_eq_false_iff, decide_eq_false_iff_not, Bool.true_or, Bool.false_or, if_true, if_false, Bool.false_eq_true]
  grind
theorem ne_none {p : LPart} {ks : List Int} (hk : ¬ (1 ≤ p.kind ∧ p.kind ≤ 16)) (hk2 : ¬ (20 ≤ p.kind ∧ p.kind ≤ 37)) (hk3 : ¬ (40 ≤ p.kind ∧ p.kind ≤ 42)) : NodeEq p ks := by
  have s1 : isStat p.kind = false := by unfold isStat; rw [Bool.and_eq_false_iff]; simp; omega
  unfold NodeEq shapeOk shapeMid exprOk
  simp only [s1, Bool.false_eq_true, if_false]
  rw [if_neg (by omega : ¬ p.kind = 1)]; rw [if_neg (by omega : ¬ p.kind = 2)]; rw [if_neg (by omega : ¬ p.kind = 3)]; rw [if_neg (by omega : ¬ p.kind = 4)]; rw [if_neg (by omega : ¬ p.kind = 5)]; rw [if_neg (by omega : ¬ p.kind = 6)]; rw [if_neg (by omega : ¬ p.kind = 7)]; rw [if_neg (by omega : ¬ p.kind = 8)]; rw [if_neg (by omega : ¬ p.kind = 9)]; rw [if_neg (by omega : ¬ p.kind = 10)]; rw [if_neg (by omega : ¬ p.kind = 11)]; rw [if_neg (by omega : ¬ p.kind = 12)]; rw [if_neg (by omega : ¬ p.kind = 13)]; rw [if_neg (by omega : ¬ p.kind = 14)]; rw [if_neg (by omega : ¬ p.kind = 15)]; rw [if_neg (by omega : ¬ p.kind = 16)]; rw [if_neg (by omega : ¬ p.kind = 20)]; rw [if_neg (by omega : ¬ p.kind = 21)]; rw [if_neg (by omega : ¬ p.kind = 22)]; rw [if_neg (by omega : ¬ p.kind = 23)]; rw [if_neg (by omega : ¬ p.kind = 24)]; rw [if_neg (by omega : ¬ p.kind = 25)]; rw [if_neg (by omega : ¬ p.kind = 26)]; rw [if_neg (by omega : ¬ p.kind = 27)]; rw [if_neg (by omega : ¬ p.kind = 28)]; rw [if_neg (by omega : ¬ p.kind = 29)]; rw [if_neg (by omega : ¬ p.kind = 30)]; rw [if_neg (by omega : ¬ p.kind = 31)]; rw [if_neg (by omega : ¬ p.kind = 32)]; rw [if_neg (by omega : ¬ p.kind = 33)]; rw [if_neg (by omega : ¬ p.kind = 34)]; rw [if_neg (by omega : ¬ p.kind = 35)]; rw [if_neg (by omega : ¬ p.kind = 36)]; rw [if_neg (by omega : ¬ p.kind = 37)]; rw [if_neg (by omega : ¬ p.kind = 40)]; rw [if_neg (by omega : ¬ p.kind = 41)]; rw [if_neg (by omega : ¬ p.kind = 42)]
  repeat rw [if_neg (by omega)]
  have : decide (p.kind = 42) = false := by simp; omega
  simp [this, shapeEnd]
theorem nodeEq (l : List LPart) (p : LPart) : NodeEq p (kinds l p) := by
  have hl : ((kinds l p).length : Int) = p.kids.length := by rw [kinds_len]
  by_cases h1 : p.kind = 1
  · exact ne_1 hl h1
  by_cases h2 : p.kind = 2
  · exact ne_2 hl h2
  by_cases h3 : p.kind = 3
  · exact ne_3 hl h3
  by_cases h4 : p.kind = 4
  · exact ne_4 hl h4
  by_cases h5 : p.kind = 5
  · exact ne_5 hl h5
  by_cases h6 : p.kind = 6
  · exact ne_6 hl h6
  by_cases h7 : p.kind = 7
  · exact ne_7 hl h7
  by_cases h8 : p.kind = 8
  · exact ne_8 hl h8
  by_cases h9 : p.kind = 9
  · exact ne_9 hl h9
  by_cases h10 : p.kind = 10
  · exact ne_10 hl h10
  by_cases h11 : p.kind = 11
  · exact ne_11 hl h11
  by_cases h12 : p.kind = 12
  · exact ne_12 hl h12
  by_cases h13 : p.kind = 13
  · exact ne_13 hl h13
  by_cases h14 : p.kind = 14
  · exact ne_14 hl h14
  by_cases h15 : p.kind = 15
  · exact ne_15 hl h15
  by_cases h16 : p.kind = 16
  · exact ne_16 hl h16
  by_cases h20 : p.kind = 20
  · exact ne_20 hl h20
  by_cases h21 : p.kind = 21
  · exact ne_21 hl h21
  by_cases h22 : p.kind = 22
  · exact ne_22 hl h22
  by_cases h23 : p.kind = 23
  · exact ne_23 hl h23
  by_cases h24 : p.kind = 24
  · exact ne_24 hl h24
  by_cases h25 : p.kind = 25
  · exact ne_25 hl h25
  by_cases h26 : p.kind = 26
  · exact ne_26 hl h26
  by_cases h27 : p.kind = 27
  · exact ne_27 hl h27
  by_cases h28 : p.kind = 28
  · exact ne_28 hl h28
  by_cases h29 : p.kind = 29
  · exact ne_29 hl h29
  by_cases h30 : p.kind = 30
  · exact ne_30 hl h30
  by_cases h31 : p.kind = 31
  · exact ne_31 hl h31
  by_cases h32 : p.kind = 32
  · exact ne_32 hl h32
  by_cases h33 : p.kind = 33
  · exact ne_33 hl h33
  by_cases h34 : p.kind = 34
  · exact ne_34 hl h34
  by_cases h35 : p.kind = 35
  · exact ne_35 hl h35
  by_cases h36 : p.kind = 36
  · exact ne_36 hl h36
  by_cases h37 : p.kind = 37
  · exact ne_37 hl h37
  by_cases h40 : p.kind = 40
  · exact ne_40 hl h40
  by_cases h41 : p.kind = 41
  · exact ne_41 hl h41
  by_cases h42 : p.kind = 42
  · exact ne_42 hl h42
  exact ne_none (by omega) (by omega) (by omega)
theorem nodeOk_eq (l : List LPart) (p : LPart) (i : Int) : nodeOk l p i = (kidsIn p i && shapeOk p (kinds l p)) := by
  have := nodeEq l p
  unfold NodeEq at this
  rw [← this]
  unfold nodeOk
  cases headOk p <;> cases kidsIn p i <;> simp
end Go.Asm.DoorF