import Derived.Test.YtebmeojmlakkoaaDoorDoorP17
set_option linter.all false
namespace Go.Asm.DoorF
open Go Go.Asm
theorem _root_.Go.Asm.Ret.of_eq {r r' : Res} {v : AV} (h : r = r') (h' : Ret r' v) : Ret r v := by rw [h]; exact h'
section
variable {D : Ctx} {l : List LPart}
theorem node_call (H : Door D) (hl : SmallTree l) {i : Nat} (hi : i < l.length) (σ : Store) : callV D 11 [.agg [encParts l], .int .i64 i] σ = some (.bool (nodeB l i)) := by
  have hs : l[i]? = some l[i] := List.getElem?_eq_getElem hi
  have hp := hl.part _ (List.getElem_mem hi)
  have : nodeB l i = nodeOk l l[i] i := by simp [nodeB, hs]
  rw [this]
  exact callV_eq (args := [encTree l, .int .i64 i]) (by simp [depth]) (l6nodeok H hp hp.name i hs Store.empty) rfl
theorem spec_nodes (H : Door D) (hl : SmallTree l) (k : Cur 1) : ∀ i, i ≤ l.length → ∀ σ,
    lpFix 2 (lp_spec_TreeOk_1 D (.int .i64 l.length) (encTree l) k) (.int .i64 i) W0 σ = (match ff (fun j => !nodeB l j) (l.length - i) i with | some j => some (encWrong 2 j, σ) | none => k W0 σ) := by
  have hn := hl.len
  refine lp_up2 (lp_spec_TreeOk_1_mono _ _ _ _) l.length W0 (fun i σ r => r = (match ff (fun j => !nodeB l j) (l.length - i) i with | some j => some (encWrong 2 j, σ) | none => k W0 σ)) ?_ ?_
  · intro R σ
    rw [Nat.sub_self]
    unfold lp_spec_TreeOk_1
    simp only [bin_lss, Option.bind_some, aCase_bool, cells_agg]
    rw [if_neg (by simp)]
    rfl
  · intro i hi R σ hR
    rw [nm1 hi]
    have hR' := hR σ
    have v := node_call H hl hi σ
    unfold lp_spec_TreeOk_1
    simp only [bin_lss, Option.bind_some, aCase_bool, cells_agg, tree_rdN, v, un_not, one_int, bin_add (a := i) (b := 1) (by omega) (by omega)]
    rw [if_pos (by simpa using hi)]
    cases hb : nodeB l i with
    | false =>
      rw [ff_pos (by rw [hb]; rfl)]
      simp only [Bool.not_false, if_true]
      rfl
    | true =>
      rw [ff_neg (by rw [hb]; rfl)]
      simp only [Bool.not_true, Bool.false_eq_true, if_false]
      exact hR'
theorem spec_zero (Z : List Int) (n : Nat) (hz : Z.length = n) (hn : n ≤ 3000) (k : Cur 1) : ∀ i, i ≤ n → ∀ σ,
    lpFix 2 (lp_spec_TreeOk_2 D (.int .i64 n) (encI Z) k) (.int .i64 i) W0 σ = (match ff (fun j => decide (Z.getD j 0 = 0)) (n - i) i with | some j => some (encWrong 3 j, σ) | none => k W0 σ) := by
  refine lp_up2 (lp_spec_TreeOk_2_mono _ _ _ _) n W0 (fun i σ r => r = (match ff (fun j => decide (Z.getD j 0 = 0)) (n - i) i with | some j => some (encWrong 3 j, σ) | none => k W0 σ)) ?_ ?_
  · intro R σ
    rw [Nat.sub_self]
    unfold lp_spec_TreeOk_2
    simp only [bin_lss, Option.bind_some, aCase_bool, cells_agg]
    rw [if_neg (by simp)]
    rfl
  · intro i hi R σ hR
    rw [nm1 hi]
    have hR' := hR σ
    have hil : i < Z.length := by omega
    have hse : Z[i]? = some (Z.getD i 0) := by rw [List.getD_eq_getElem?_getD, List.getElem?_eq_getElem hil]; rfl
    unfold lp_spec_TreeOk_2
    simp only [bin_lss, bin_eql, Option.bind_some, aCase_bool, cells_agg, idx_encI hse, rd1_p, List.getElem?_cons_zero, one_int, bin_add (a := i) (b := 1) (by omega) (by omega)]
    rw [if_pos (by simpa using hi)]
    by_cases hb : Z.getD i 0 = 0
    · rw [ff_pos (decide_eq_true hb), if_pos (by rw [decide_eq_true_eq]; exact hb)]
      rfl
    · rw [ff_neg (decide_eq_false hb), if_neg (by rw [decide_eq_true_eq]; exact hb)]
      exact hR'
theorem nodes_kids (h : ff (fun j => !nodeB l j) l.length 0 = none) : KidsB l := by
  intro i c hc
  unfold kidsAt at hc
  cases hs : l[i]? with
  | none => rw [hs] at hc; simp at hc
  | some p =>
    rw [hs] at hc
    have hi := (List.getElem?_eq_some_iff.1 hs).1
    have hb := ff_none h i (by omega) (by omega)
    have hb2 : nodeOk l p i = true := by simpa [nodeB, hs] using hb
    rw [nodeOk_eq] at hb2
    have hk : kidsIn p i = true := by
      revert hb2
      cases kidsIn p i <;> simp
    unfold kidsIn at hk
    rw [List.all_eq_true] at hk
    have := hk c (by simpa using hc)
    simpa using this
theorem at_last (h : 0 < l.length) : l[l.length - 1]? = some l[l.length - 1] := List.getElem?_eq_getElem (by omega)
theorem idx_last {sz : Nat} (h : 0 < l.length) : idx 10 (encParts l) (.int .i64 ((l.length : Int) - 1)) = some (.pptr (encPart l[l.length - 1]) 0) := by
  rw [show (l.length : Int) - 1 = ((l.length - 1 : Nat) : Int) by omega]
  exact idx_encParts (at_last h)
theorem treeWrong_1 (h : l.length = 0 ∨ 3000 < l.length ∨ (l[l.length - 1]?.map (·.kind)) ≠ some 1) : treeWrong l = encWrong 1 0 := if_pos h
theorem treeWrong_2 (h : ¬ (l.length = 0 ∨ 3000 < l.length ∨ (l[l.length - 1]?.map (·.kind)) ≠ some 1)) : treeWrong l =
  (encOW 2 (ff (fun j => !nodeB l j) l.length 0) <|
  encOW 3 (startsGo l l.length 0 (List.replicate l.length 0)) <|
  encOW 4 (ff (fun j => decide (100 < (depAll l l.length (List.replicate l.length 0)).getD j 0)) l.length 0) (encWrong 0 0)) := if_neg h
/-- Behind the first test (specification). -/
theorem specTreeOk (H : Door D) (hl : SmallTree l) (σ : Store) : Ret (D.call 5 [encTree l] σ) (treeWrong l) := by
  have hln := hl.len
  have hkl : ∀ p ∈ l, p.kids.length ≤ 1048576 := fun p hp => (hl.part p hp).kids
  rw [H.f5]
  unfold sh_spec_TreeOk jn
  simp only [rd1_p, tree_at, Option.bind_some, len_encParts, bin_eql, aCase_bool]
  by_cases h0 : l.length = 0
  · rw [if_pos (by simpa using h0), treeWrong_1 (.inl h0)]
    exact ⟨σ, rfl⟩
  have hpos : 0 < l.length := by omega
  rw [if_neg (by simpa using h0)]
  by_cases h1 : 3000 < l.length
  · have : ¬ (l.length : Int) ≤ 3000 := by omega
    simp only [bin_gtr, Option.bind_some, aCase_bool]
    rw [if_pos (by rw [decide_eq_true_eq]; omega), if_pos trivial, treeWrong_1 (.inr (.inl h1))]
    exact ⟨σ, rfl⟩
  have hn : l.length ≤ 3000 := by omega
  simp only [bin_gtr, bin_neq, Option.bind_some, aCase_bool, bin_sub (a := l.length) (b := 1) (by omega) (by omega), idx_last (sz := 10) hpos, fadd_p, Nat.zero_add, rd1_p, part_at0]
  rw [if_neg (by rw [decide_eq_true_eq]; omega)]
  by_cases h2 : l[l.length - 1].kind = 1
  case neg =>
    rw [if_pos (by rw [decide_eq_true_eq]; exact h2), treeWrong_1 (.inr (.inr (by rw [at_last hpos]; simpa using h2)))]
    exact ⟨σ, rfl⟩
  rw [if_neg (by rw [decide_eq_true_eq]; exact fun h => h h2), treeWrong_2 (by rw [at_last hpos]; simp only [Option.map_some, ne_eq, h2, not_true, or_false]; omega)]
  have e1 := spec_nodes H hl
  refine Ret.of_eq (e1 _ 0 (by omega) σ) ?_
  rw [Nat.sub_zero]
  cases hff : ff (fun j => !nodeB l j) l.length 0 with
  | some j => exact ⟨σ, rfl⟩
  | none =>
    have hk := nodes_kids hff
    have hZl : (sizesOf l).length = l.length := by
      have := (sizesGo_keep (l := l) l.length 0 (List.replicate l.length 0) (by simp)).1
      simpa [sizesOf] using this
    have hse : (sizesOf l)[l.length - 1]? = some ((sizesOf l).getD (l.length - 1) 0) := by
      rw [List.getD_eq_getElem?_getD, List.getElem?_eq_getElem (by omega)]; rfl
    have hidx : idx 1 (encI (sizesOf l)) (.int .i64 ((l.length : Int) - 1)) = some (.pptr [.int .i64 ((sizesOf l).getD (l.length - 1) 0)] 0) := by
      rw [show (l.length : Int) - 1 = ((l.length - 1 : Nat) : Int) by omega]
      exact idx_encI hse
    have e12 : callP D 12 [.agg [encParts l]] = some (encI (sizesOf l)) := l6sizes H hn hkl hk
    simp only [encOW, tree_rdN, Option.bind_some, e12, len_encI, hZl, bin_sub (a := l.length) (b := 1) (by omega) (by omega)]
    refine Ret.of_eq (spec_zero (sizesOf l) l.length hZl hn _ 0 (by omega) σ) ?_
    rw [Nat.sub_zero, third hk hpos]
    show Ret (match ff (fun j => decide ((sizesOf l).getD j 0 = 0)) l.length 0 with | some j => _ | none => _) (match (match ff (fun j => decide ((sizesOf l).getD j 0 = 0)) l.length 0 with | some j => some j | none => if (sizesOf l).getD (l.length - 1) 0 ≠ l.length then some (l.length - 1) else none) with | some i => _ | none => _)
    cases hf2 : ff (fun j => decide ((sizesOf l).getD j 0 = 0)) l.length 0 with
    | some j => exact ⟨σ, rfl⟩
    | none =>
      simp only [hidx, rd1_p, List.getElem?_cons_zero, Option.bind_some, bin_neq, aCase_bool, one_int]
      by_cases h3 : (sizesOf l).getD (l.length - 1) 0 = l.length
      case neg =>
        rw [if_pos (by rw [decide_eq_true_eq]; exact h3), if_pos h3]
        refine ⟨σ, ?_⟩
        simp only [encWrong]
        rw [show (l.length : Int) - 1 = ((l.length - 1 : Nat) : Int) by omega]
      rw [if_neg (by rw [decide_eq_true_eq]; exact fun h => h h3), if_neg (fun h => h h3)]
      simp only [rd1_p, tree_at, Option.bind_some, len_encParts, mk_cI (σ := σ) (n := l.length) (by omega), bin_sub (a := l.length) (b := 1) (by omega) (by omega), lenV_h, cells_agg]
      obtain ⟨σ1, d1, d2⟩ := dep_out (D := D) (l := l) σ.next hn hkl hk (σ.add (.cells (cI (List.replicate l.length 0)))) (fun t_36 s_37 => lpFix 2 (lp_spec_TreeOk_5 D (.int .i64 l.length) (.hslice 1 σ.next 0 l.length, σ.add (.cells (cI (List.replicate l.length 0)))) fun t_40 s_41 => some (.agg [.int .i64 0, .int .i64 0], s_41)) (.int .i64 ((0 : Nat) : Int)) (.agg (AV.cells t_36)) s_37) _ (lp_spec_TreeOk_4_mono _ _ _ _) (.inl rfl) l.length (σ.add (.cells (cI (List.replicate l.length 0)))) (by omega) (List.replicate l.length 0) (DInv.zero _) add_blk
      refine Ret.of_eq d1 ?_
      have hdl : (depAll l l.length (List.replicate l.length 0)).length = l.length := by
        have : ∀ m d, m ≤ l.length → DInv d l.length → DInv (depAll l m d) l.length := by
          intro m
          induction m with
          | zero => intro d _ I; exact I
          | succ m ih => intro d hm I; exact ih _ (by omega) (DInv.kids (by omega) _ d I fun c hc => hk m c hc)
        exact (this l.length _ (by omega) (DInv.zero _)).len
      simp only [cells_agg]
      refine Ret.of_eq (dep_look (D := D) σ.next l.length hn _ _ _ (lp_spec_TreeOk_5_mono _ _ _ _) (.inl rfl) _ hdl 0 (by omega) σ1 d2) ?_
      rw [Nat.sub_zero]
      cases ff (fun j => decide (100 < (depAll l l.length (List.replicate l.length 0)).getD j 0)) l.length 0 with
      | some j => exact ⟨σ1, rfl⟩
      | none => exact ⟨σ1, rfl⟩
end
end Go.Asm.DoorF
