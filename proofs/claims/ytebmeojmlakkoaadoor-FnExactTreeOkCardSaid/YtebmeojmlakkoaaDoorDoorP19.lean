import Derived.Test.YtebmeojmlakkoaaDoorDoorP18
set_option linter.all false
namespace Go.Asm.DoorF
open Go Go.Asm
/-- A slice of whole numbers that the run itself grew. -/
def OwnI (ks : List Int) (s : AV) (σ : Store) : Prop := (ks = [] ∧ s = .nilslice) ∨ ∃ b, s = .hslice 1 b 0 ks.length ∧ σ.blk b = some (.cells (cI ks))
theorem app_own {ks : List Int} {s : AV} {σ : Store} (h : OwnI ks s σ) (hl : ks.length ≤ 1048576) (v : Int) : ∃ s' σ', app 1 s (.pslice 1 [.agg [.int .i64 v]]) σ = some (s', σ') ∧ OwnI (ks ++ [v]) s' σ' := by
  have hc : ∀ σ, contents 1 (.pslice 1 [.agg [.int .i64 v]]) σ = some (1, [.int .i64 v]) := fun _ => rfl
  rcases h with ⟨rfl, rfl⟩ | ⟨b, rfl, hb⟩
  · refine ⟨.hslice 1 σ.next 0 1, σ.add (.cells [.int .i64 v]), ?_, .inr ⟨σ.next, rfl, add_blk⟩⟩
    simp [app, hc, maxLen']
  · refine ⟨.hslice 1 σ.next 0 (ks.length + 1), (σ.upd b none).add (.cells (cI (ks ++ [v]))), ?_, .inr ⟨σ.next, by simp, add_blk⟩⟩
    have h1 : ks.length + 1 ≤ maxLen' := by simp only [maxLen']; omega
    have h2 : (cI ks).take ks.length = cI ks := by rw [← cI_length ks, List.take_length]
    simp only [app, hc, Option.bind_some, hb, Nat.mul_one, cI_length, h2]
    rw [if_pos ⟨trivial, trivial, h1, by omega⟩, if_pos (Nat.le_refl _)]
    simp [cI]
section
variable {D : Ctx} {l : List LPart}
theorem impl_kids (p : LPart) (i : Nat) (hi : i < l.length) (hn : l.length ≤ 3000) (hkl : p.kids.length ≤ 1048576) (k : Cur 2) : ∀ (m j : Nat), m = p.kids.length - j → j ≤ p.kids.length → ∀ (s : AV) (σ : Store), OwnI ((kinds l p).take j) s σ →
    (((p.kids.drop j).all (fun c => decide (0 ≤ c) && decide (c < (i : Int))) = true → ∃ s' σ', lpFix 3 (lp_impl_TreeOk_1 D (.int .i64 p.kids.length) (encI p.kids) (.int .i64 i) (encParts l) k) s (.int .i64 j) W0 σ = k s' W0 σ' ∧ OwnI (kinds l p) s' σ') ∧
     ((p.kids.drop j).all (fun c => decide (0 ≤ c) && decide (c < (i : Int))) = false → Ret (lpFix 3 (lp_impl_TreeOk_1 D (.int .i64 p.kids.length) (encI p.kids) (.int .i64 i) (encParts l) k) s (.int .i64 j) W0 σ) (encWrong 2 i))) := by
  intro m
  induction m with
  | zero =>
    intro j hm hj s σ ho
    have e : p.kids.drop j = [] := List.drop_eq_nil_of_le (by omega)
    have e2 : (kinds l p).take j = kinds l p := List.take_of_length_le (by rw [kinds_len]; omega)
    rw [e2] at ho
    rw [e]
    refine ⟨fun _ => ⟨s, σ, ?_, ho⟩, fun h => by simp at h⟩
    rw [lpFix_eq (lp_impl_TreeOk_1_mono _ _ _ _ _ _)]
    unfold lp_impl_TreeOk_1
    simp only [bin_lss, Option.bind_some, aCase_bool, cells_agg]
    rw [if_neg (by rw [decide_eq_true_eq]; omega)]
  | succ m ih =>
    intro j hm hj s σ ho
    have hjl : j < p.kids.length := by omega
    have hse : p.kids[j]? = some p.kids[j] := List.getElem?_eq_getElem hjl
    rw [lpFix_eq (lp_impl_TreeOk_1_mono _ _ _ _ _ _)]
    have ih' := ih (j + 1) (by omega) (by omega)
    generalize lpFix 3 (lp_impl_TreeOk_1 D (.int .i64 p.kids.length) (encI p.kids) (.int .i64 i) (encParts l) k) = R at ih' ⊢
    rw [List.drop_eq_getElem_cons hjl, List.all_cons]
    by_cases c0 : p.kids[j] < 0
    · have f0 : decide (0 ≤ p.kids[j]) = false := decide_eq_false (by omega)
      rw [f0]
      refine ⟨fun h => by simp at h, fun _ => ⟨σ, ?_⟩⟩
      unfold lp_impl_TreeOk_1 jn
      simp only [bin_lss, Option.bind_some, aCase_bool, cells_agg, idx_encI hse, rd1_p, List.getElem?_cons_zero, one_int]
      rw [if_pos (by rw [decide_eq_true_eq]; omega), if_pos (by rw [decide_eq_true_eq]; exact c0), if_pos trivial]
      rfl
    by_cases c1 : (i : Int) ≤ p.kids[j]
    · have f0 : decide (p.kids[j] < (i : Int)) = false := decide_eq_false (by omega)
      rw [f0]
      refine ⟨fun h => by simp at h, fun _ => ⟨σ, ?_⟩⟩
      unfold lp_impl_TreeOk_1 jn
      simp only [bin_lss, bin_geq, Option.bind_some, aCase_bool, cells_agg, idx_encI hse, rd1_p, List.getElem?_cons_zero, one_int]
      rw [if_pos (by rw [decide_eq_true_eq]; omega), if_neg (by rw [decide_eq_true_eq]; exact c0), if_pos (by rw [decide_eq_true_eq]; exact c1)]
      rfl
    have hcl : p.kids[j].toNat < l.length := by omega
    have hq : l[p.kids[j].toNat]? = some l[p.kids[j].toNat] := List.getElem?_eq_getElem hcl
    have f0 : decide (0 ≤ p.kids[j]) = true := decide_eq_true (by omega)
    have f1 : decide (p.kids[j] < (i : Int)) = true := decide_eq_true (by omega)
    rw [f0, f1]
    simp only [Bool.true_and]
    have hkj : (kinds l p).take (j + 1) = (kinds l p).take j ++ [l[p.kids[j].toNat].kind] := by
      rw [List.take_add_one]
      congr 1
      simp [kinds, hse, hq]
    obtain ⟨s', σ', a1, a2⟩ := app_own ho (by simp; omega) l[p.kids[j].toNat].kind
    have hrest := ih' s' σ' (by rw [hkj]; exact a2)
    have step : lp_impl_TreeOk_1 D (.int .i64 p.kids.length) (encI p.kids) (.int .i64 i) (encParts l) k R s (.int .i64 j) W0 σ = R s' (.int .i64 ((j + 1 : Nat) : Int)) W0 σ' := by
      unfold lp_impl_TreeOk_1 jn
      simp only [bin_lss, bin_geq, Option.bind_some, aCase_bool, cells_agg, idx_encI hse, rd1_p, List.getElem?_cons_zero, one_int, idx_parts (show 0 ≤ p.kids[j] by omega) hq, fadd_p, Nat.zero_add, part_at0, a1, bin_add (a := j) (b := 1) (by omega) (by omega)]
      rw [if_pos (by rw [decide_eq_true_eq]; omega), if_neg (by rw [decide_eq_true_eq]; exact c0), if_neg (by rw [decide_eq_true_eq]; exact c1)]
      rfl
    rw [step]
    exact hrest
theorem shape_call (H : Door D) (hG : KeyWords D.G) (hl : SmallTree l) {i : Nat} (hi : i < l.length) (s : AV) (σ : Store) (ho : OwnI (kinds l l[i]) s σ) : callV D 14 [.agg (encPart l[i]), s] σ = some (.bool (shapeOk l[i] (kinds l l[i]))) := by
  have hp := hl.part _ (List.getElem_mem hi)
  rcases ho with ⟨h1, rfl⟩ | ⟨b, rfl, hb⟩
  · rw [h1]
    have hv : [AV.agg (encPart l[i]), .nilslice].mapM (view σ depth) = some [AV.agg (encPart l[i]), .pslice 0 []] := by
      have e : view σ (8 + 4) .nilslice = some (.pslice 0 []) := rfl
      simp only [List.mapM_cons, List.mapM_nil, show depth = 8 + 4 from rfl, e, view_part (σ := σ) 8 l[i]]
      simp
    exact callV_ret hv ⟨_, partShape0 H hG l[i] hp hp.name Store.empty⟩ rfl
  · have hv : [AV.agg (encPart l[i]), .hslice 1 b 0 (kinds l l[i]).length].mapM (view σ depth) = some [AV.agg (encPart l[i]), encI (kinds l l[i])] := by
      have := view_cI hb rfl 10
      simp only [List.mapM_cons, List.mapM_nil, show depth = 10 + 2 from rfl, this, view_part (σ := σ) 8 l[i]]
      simp
    exact callV_ret hv ⟨_, partShape H hG l[i] hp hp.name (kinds l l[i]) (by rw [kinds_len]; exact hp.kids) Store.empty⟩ rfl
theorem impl_nodes (H : Door D) (hG : KeyWords D.G) (hl : SmallTree l) (hn : l.length ≤ 3000) (k : Cur 1) : ∀ i, i ≤ l.length → ∀ σ,
    (∀ j, ff (fun j => !nodeB l j) (l.length - i) i = some j → Ret (lpFix 2 (lp_impl_TreeOk_2 D (.int .i64 l.length) (encParts l) k) (.int .i64 i) W0 σ) (encWrong 2 j)) ∧
    (ff (fun j => !nodeB l j) (l.length - i) i = none → ∃ σ', lpFix 2 (lp_impl_TreeOk_2 D (.int .i64 l.length) (encParts l) k) (.int .i64 i) W0 σ = k W0 σ') := by
  refine lp_up2 (lp_impl_TreeOk_2_mono _ _ _ _) l.length W0 (fun i σ r => (∀ j, ff (fun j => !nodeB l j) (l.length - i) i = some j → Ret r (encWrong 2 j)) ∧ (ff (fun j => !nodeB l j) (l.length - i) i = none → ∃ σ', r = k W0 σ')) ?_ ?_
  · intro R σ
    rw [Nat.sub_self]
    refine ⟨fun j h => (by cases h), fun _ => ⟨σ, ?_⟩⟩
    unfold lp_impl_TreeOk_2
    simp only [bin_lss, Option.bind_some, aCase_bool, cells_agg]
    rw [if_neg (by simp)]
  · intro i hi R σ hR
    rw [nm1 hi]
    have hs : l[i]? = some l[i] := List.getElem?_eq_getElem hi
    have hp := hl.part _ (List.getElem_mem hi)
    have ha : asplit 10 (.agg (encPart l[i])) = some (encPart l[i]) := rfl
    have hnb : nodeB l i = (kidsIn l[i] i && shapeOk l[i] (kinds l l[i])) := by
      rw [← nodeOk_eq]; simp [nodeB, hs]
    obtain ⟨q1, q2⟩ := impl_kids (D := D) l[i] i hi hn hp.kids (fun k_123 t_124 s_125 => (rdN 10 (.pptr (encPart l[i]) 0) s_125).bind fun t_127 => (callV D 14 [.agg t_127, k_123] s_125).bind fun t_128 => (un .not t_128).bind fun t_129 => aCase t_129 ((one (.int .i64 i)).bind fun o_130 => some (.agg [.int .i64 2, o_130], s_125)) ((bin .add .num (.int .i64 i) (.int .i64 1)).bind fun t_131 => R t_131 (.agg (AV.cells t_124)) s_125))
      l[i].kids.length 0 (by omega) (by omega) .nilslice σ (.inl ⟨by simp, rfl⟩)
    rw [List.drop_zero] at q1 q2
    have head : ∀ r, lpFix 3 (lp_impl_TreeOk_1 D (.int .i64 l[i].kids.length) (encI l[i].kids) (.int .i64 i) (encParts l) (fun k_123 t_124 s_125 => (rdN 10 (.pptr (encPart l[i]) 0) s_125).bind fun t_127 => (callV D 14 [.agg t_127, k_123] s_125).bind fun t_128 => (un .not t_128).bind fun t_129 => aCase t_129 ((one (.int .i64 i)).bind fun o_130 => some (.agg [.int .i64 2, o_130], s_125)) ((bin .add .num (.int .i64 i) (.int .i64 1)).bind fun t_131 => R t_131 (.agg (AV.cells t_124)) s_125))) .nilslice (.int .i64 ((0 : Nat) : Int)) W0 σ = r →
        lp_impl_TreeOk_2 D (.int .i64 l.length) (encParts l) k R (.int .i64 i) W0 σ = r := by
      intro r hr
      rw [← hr]
      unfold lp_impl_TreeOk_2 jn
      simp only [bin_lss, Option.bind_some, aCase_bool, cells_agg, idx_encParts hs, rdN_part, ha, rd1_p, part_at9, len_encI]
      rw [if_pos (by simpa using hi)]
      rfl
    cases hki : kidsIn l[i] i with
    | false =>
      have hf : nodeB l i = false := by rw [hnb, hki]; rfl
      rw [ff_pos (by rw [hf]; rfl)]
      refine ⟨fun j hj => ?_, fun h => by cases h⟩
      cases hj
      exact Ret.of_eq (head _ rfl) (q2 hki)
    | true =>
      obtain ⟨s', σ', h1, h2⟩ := q1 hki
      have v := shape_call H hG hl hi s' σ' h2
      have hr := (head _ rfl).trans h1
      have hr2 : lp_impl_TreeOk_2 D (.int .i64 l.length) (encParts l) k R (.int .i64 i) W0 σ = if shapeOk l[i] (kinds l l[i]) = true then R (.int .i64 ((i : Int) + 1)) W0 σ' else some (encWrong 2 i, σ') := by
        refine hr.trans ?_
        simp only [rdN_part, Option.bind_some, v, un_not, aCase_bool, one_int, bin_add (a := i) (b := 1) (by omega) (by omega), cells_agg]
        cases shapeOk l[i] (kinds l l[i]) <;> rfl
      rw [hr2]
      cases hsh : shapeOk l[i] (kinds l l[i]) with
      | false =>
        have hf : nodeB l i = false := by rw [hnb, hki, hsh]; rfl
        rw [ff_pos (by rw [hf]; rfl)]
        refine ⟨fun j hj => ?_, fun h => by cases h⟩
        cases hj
        exact ⟨σ', rfl⟩
      | true =>
        have hf : nodeB l i = true := by rw [hnb, hki, hsh]; rfl
        rw [ff_neg (by rw [hf]; rfl)]
        exact hR σ'
end
end Go.Asm.DoorF
