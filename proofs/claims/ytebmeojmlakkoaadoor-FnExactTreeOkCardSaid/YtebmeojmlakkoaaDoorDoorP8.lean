import Derived.Test.YtebmeojmlakkoaaDoorDoorP7
set_option linter.all false
namespace Go.Asm.DoorF
open Go Go.Asm
section
variable {D : Ctx} (H : Door D) {l : List LPart} {p : LPart}
theorem l6statement (H : Door D) (L : Looks D l p) (hn : p.kids.length ≤ 1048576) (σ : Store) : D.call 18 [encTree l, .agg (encPart p)] σ = some (.bool (stmtOk p (kinds l p)), σ) := by
  have hkl : (kinds l p).length = p.kids.length := kinds_len l p
  have e0 : ((0 : Nat) : Int) = 0 := rfl
  rw [H.f18]
  unfold sh_spec_l6statement
  simp only [cells_agg, part_rd9, part_rd0, part_rd5, Option.bind_some, len_encI, bin_eql, aCase_bool, tree_rdN, rdN_part]
  by_cases h1 : p.kind = 1
  · have hl := stat2_loop L hn (fun s_7 => (rdN 10 (.pptr (encPart p) 0) s_7).bind fun t_9 => (callV D 33 [(.agg t_9), (.bool false), (.bool false), (.bool false), (.bool false)] s_7).bind fun t_10 => some (t_10, s_7)) σ p.kids.length 0 (by omega) (by omega)
    rw [List.drop_zero] at hl
    simp only [h1, decide_true, if_true]
    refine Eq.trans hl ?_
    simp only [stmtOk, h1, if_true, rdN_part, Option.bind_some, L.v33]
    by_cases hc : (kinds l p).all isStat = true <;> simp [hc]
  by_cases h2 : p.kind = 2
  · unfold jn
    have w0 := L.v35 0 p.kids.length σ (by omega) (by omega) (by omega)
    simp [h2, L.v33, L.v34, stmtOk, hkl, w0]
    all_goals ((repeat' split) <;> simp_all)
  by_cases h3 : p.kind = 3
  · unfold jn
    by_cases c1 : p.kids.length = 1
    · have d1 : (p.kids.length : Int) = 1 := by omega
      have w0 := L.v35 0 1 σ (by omega) (by omega) (by omega)
      simp [h3, L.v33, L.v34, stmtOk, hkl, c1, d1, w0]
      all_goals ((repeat' split) <;> simp_all)
    have d1 : ¬ (p.kids.length : Int) = 1 := by omega
    simp [h3, L.v33, L.v34, stmtOk, hkl, c1, d1]
    all_goals ((repeat' split) <;> simp_all)
  by_cases h4 : p.kind = 4
  · unfold jn
    by_cases c1 : p.kids.length = 1
    · have d1 : (p.kids.length : Int) = 1 := by omega
      have w0 := L.v32 0 σ (by omega) (by omega)
      simp [h4, L.v33, L.v34, stmtOk, hkl, c1, d1, w0]
      all_goals ((repeat' split) <;> simp_all)
    have d1 : ¬ (p.kids.length : Int) = 1 := by omega
    simp [h4, L.v33, L.v34, stmtOk, hkl, c1, d1]
    all_goals ((repeat' split) <;> simp_all)
  by_cases h5 : p.kind = 5
  · have ht : ¬ ((1 : Int) ≤ p.num ∧ p.num < p.kids.length) ∨ ((1 : Int) ≤ p.num ∧ p.num < p.kids.length) := by omega
    unfold jn
    simp only [h5, Int.reduceEq, decide_false, Bool.false_eq_true, if_false, decide_true, if_true, L.v33, Option.bind_some, un_not, aCase_bool, bin_lss, bin_geq, stmtOk, hkl]
    by_cases hb : bare p false true false false = true
    · simp only [hb, Bool.not_true, Bool.false_eq_true, if_false, Bool.true_and]
      by_cases n1 : p.num < 1
      · have : ¬ 1 ≤ p.num := by omega
        simp [n1, this]
      · by_cases n2 : (p.kids.length : Int) ≤ p.num
        · have : ¬ p.num < p.kids.length := by omega
          simp [n1, n2, this]
        · have m1 : 1 ≤ p.num := by omega
          have m2 : p.num < p.kids.length := by omega
          simp only [n1, n2, m1, m2, decide_false, decide_true, Bool.false_eq_true, if_false, Bool.true_and]
          have w0 := L.v35 p.num p.kids.length σ (by omega) (by omega) (by omega)
          have hl := stat1_loop L hn (by omega) (by omega) (fun s_82 => (callV D 35 [.agg [encParts l], .agg (encPart p), .int .i64 p.num, .int .i64 p.kids.length] s_82).bind fun t_87 => some (t_87, s_82)) σ p.num.toNat 0 (by omega) (by omega)
          rw [List.drop_zero] at hl
          refine Eq.trans hl ?_
          simp only [w0, Option.bind_some]
          by_cases hc : ((kinds l p).take p.num.toNat).all isTarget = true <;> simp [hc]
    · simp [hb]
  by_cases h6 : p.kind = 6
  · unfold jn
    by_cases c1 : p.kids.length = 1
    · have d1 : (p.kids.length : Int) = 1 := by omega
      have w0 := L.v32 0 σ (by omega) (by omega)
      simp [h6, L.v33, L.v34, stmtOk, hkl, c1, d1, w0]
      all_goals ((repeat' split) <;> simp_all)
    have d1 : ¬ (p.kids.length : Int) = 1 := by omega
    simp [h6, L.v33, L.v34, stmtOk, hkl, c1, d1]
    all_goals ((repeat' split) <;> simp_all)
  by_cases h16 : p.kind = 16
  · unfold jn
    by_cases c1 : p.kids.length = 1
    · have d1 : (p.kids.length : Int) = 1 := by omega
      have w0 := L.v32 0 σ (by omega) (by omega)
      simp [h16, L.v33, L.v34, stmtOk, hkl, c1, d1, w0]
      all_goals ((repeat' split) <;> simp_all)
    have d1 : ¬ (p.kids.length : Int) = 1 := by omega
    simp [h16, L.v33, L.v34, stmtOk, hkl, c1, d1]
    all_goals ((repeat' split) <;> simp_all)
  by_cases h7 : p.kind = 7
  · unfold jn
    by_cases c2 : p.kids.length = 2
    · have d2 : (p.kids.length : Int) = 2 := by omega
      have w0 := L.v35 0 1 σ (by omega) (by omega) (by omega)
      have w1 := L.v32 1 σ (by omega) (by omega)
      simp [h7, L.v33, L.v34, stmtOk, hkl, c2, d2, w0, w1]
      all_goals ((repeat' split) <;> simp_all)
    by_cases c3 : p.kids.length = 3
    · have d3 : (p.kids.length : Int) = 3 := by omega
      have w0 := L.v35 0 1 σ (by omega) (by omega) (by omega)
      have w1 := L.v32 1 σ (by omega) (by omega)
      have w2 := L.v32 2 σ (by omega) (by omega)
      simp [h7, L.v33, L.v34, stmtOk, hkl, c3, d3, w0, w1, w2]
      all_goals ((repeat' split) <;> simp_all)
    have d2 : ¬ (p.kids.length : Int) = 2 := by omega
    have d3 : ¬ (p.kids.length : Int) = 3 := by omega
    rcases (show (p.kids.length : Int) < 2 ∨ 3 < (p.kids.length : Int) by omega) with q | q
    · have q2 : ¬ (2 ≤ (p.kids.length : Int)) := by omega
      simp [h7, L.v33, L.v34, stmtOk, hkl, q, q2]
      all_goals ((repeat' split) <;> simp_all)
    · have q2 : ¬ ((p.kids.length : Int) ≤ 3) := by omega
      have q3 : ¬ ((p.kids.length : Int) < 2) := by omega
      simp [h7, L.v33, L.v34, stmtOk, hkl, q, q2, q3]
      all_goals ((repeat' split) <;> simp_all)
  by_cases h8 : p.kind = 8
  · unfold jn
    by_cases c2 : p.kids.length = 2
    · have d2 : (p.kids.length : Int) = 2 := by omega
      have w0 := L.v35 0 1 σ (by omega) (by omega) (by omega)
      have w1 := L.v32 1 σ (by omega) (by omega)
      simp [h8, L.v33, L.v34, stmtOk, hkl, c2, d2, w0, w1]
      all_goals ((repeat' split) <;> simp_all)
    have d2 : ¬ (p.kids.length : Int) = 2 := by omega
    simp [h8, L.v33, L.v34, stmtOk, hkl, c2, d2]
    all_goals ((repeat' split) <;> simp_all)
  by_cases h9 : p.kind = 9
  · unfold jn
    by_cases c3 : p.kids.length = 3
    · have d3 : (p.kids.length : Int) = 3 := by omega
      have s0 : bin .sub .num (.int .i64 3) (.int .i64 1) = some (.int .i64 2) := bin_sub (by omega) (by omega)
      have w0 := L.v35 0 2 σ (by omega) (by omega) (by omega)
      have w1 := L.v32 2 σ (by omega) (by omega)
      simp [h9, L.v33, L.v34, stmtOk, hkl, c3, d3, w0, w1, s0]
      all_goals ((repeat' split) <;> simp_all)
    by_cases c4 : p.kids.length = 4
    · have d4 : (p.kids.length : Int) = 4 := by omega
      have s0 : bin .sub .num (.int .i64 4) (.int .i64 1) = some (.int .i64 3) := bin_sub (by omega) (by omega)
      have w0 := L.v35 0 3 σ (by omega) (by omega) (by omega)
      have w1 := L.v32 3 σ (by omega) (by omega)
      simp [h9, L.v33, L.v34, stmtOk, hkl, c4, d4, w0, w1, s0]
      all_goals ((repeat' split) <;> simp_all)
    have d3 : ¬ (p.kids.length : Int) = 3 := by omega
    have d4 : ¬ (p.kids.length : Int) = 4 := by omega
    simp [h9, L.v33, L.v34, stmtOk, hkl, c3, c4, d3, d4]
    all_goals ((repeat' split) <;> simp_all)
  by_cases h10 : p.kind = 10
  · unfold jn
    by_cases c2 : p.kids.length = 2
    · have d2 : (p.kids.length : Int) = 2 := by omega
      have w0 := L.v35 0 1 σ (by omega) (by omega) (by omega)
      have w1 := L.v32 1 σ (by omega) (by omega)
      simp [h10, L.v33, L.v34, stmtOk, hkl, c2, d2, w0, w1]
      all_goals ((repeat' split) <;> simp_all)
    have d2 : ¬ (p.kids.length : Int) = 2 := by omega
    simp [h10, L.v33, L.v34, stmtOk, hkl, c2, d2]
    all_goals ((repeat' split) <;> simp_all)
  by_cases h11 : p.kind = 11
  · unfold jn
    simp [h11, L.v33, L.v34, stmtOk, hkl]
    all_goals ((repeat' split) <;> simp_all)
  by_cases h12 : p.kind = 12
  · unfold jn
    simp [h12, L.v33, L.v34, stmtOk, hkl]
    all_goals ((repeat' split) <;> simp_all)
  by_cases h13 : p.kind = 13
  · unfold jn
    have w0 := L.v35 0 p.kids.length σ (by omega) (by omega) (by omega)
    simp [h13, L.v33, L.v34, stmtOk, hkl, w0]
    all_goals ((repeat' split) <;> simp_all)
  by_cases h14 : p.kind = 14
  · unfold jn
    by_cases c2 : p.kids.length = 2
    · have d2 : (p.kids.length : Int) = 2 := by omega
      have w0 := L.v32 0 σ (by omega) (by omega)
      have w1 := L.v32 1 σ (by omega) (by omega)
      simp [h14, L.v33, L.v34, stmtOk, hkl, c2, d2, w0, w1]
      all_goals ((repeat' split) <;> simp_all)
    have d2 : ¬ (p.kids.length : Int) = 2 := by omega
    simp [h14, L.v33, L.v34, stmtOk, hkl, c2, d2]
    all_goals ((repeat' split) <;> simp_all)
  by_cases h15 : p.kind = 15
  · unfold jn
    by_cases c1 : p.kids.length = 1
    · have d1 : (p.kids.length : Int) = 1 := by omega
      have w0 := L.v35 0 1 σ (by omega) (by omega) (by omega)
      simp [h15, L.v33, L.v34, stmtOk, hkl, c1, d1, w0]
      all_goals ((repeat' split) <;> simp_all)
    have d1 : ¬ (p.kids.length : Int) = 1 := by omega
    simp [h15, L.v33, L.v34, stmtOk, hkl, c1, d1]
    all_goals ((repeat' split) <;> simp_all)
  unfold jn
  simp [h1, h2, h3, h4, h5, h6, h7, h8, h9, h10, h11, h12, h13, h14, h15, h16, stmtOk]
end
end Go.Asm.DoorF
