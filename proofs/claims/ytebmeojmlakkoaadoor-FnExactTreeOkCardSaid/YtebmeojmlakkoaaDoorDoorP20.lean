import Derived.Test.YtebmeojmlakkoaaDoorDoorP19
set_option linter.all false
namespace Go.Asm.DoorF
open Go Go.Asm
structure SInv (S : List Int) (n : Nat) : Prop where
  len : S.length = n
  low : ∀ j, j < n → 0 ≤ S.getD j 0
  top : ∀ j, j < n → S.getD j 0 ≤ 3000
theorem SInv.zero (n : Nat) : SInv (List.replicate n 0) n := by
  have : ∀ j, (List.replicate n (0 : Int)).getD j 0 = 0 := fun j => by simp [List.getD_eq_getElem?_getD, List.getElem?_replicate]; split <;> rfl
  exact ⟨by simp, fun j _ => by rw [this]; omega, fun j h => by rw [this]; omega⟩
theorem SInv.run {S : List Int} {n i : Nat} (I : SInv S n) (hi : i < n) : ∀ (r : List Int) (a : Int), (∀ c ∈ r, 0 ≤ c ∧ c < i) → 0 ≤ a → a ≤ 3000 → ∀ b, runK S r a = some b → 0 ≤ b ∧ b ≤ 3000
  | [], a, _, h0, h1, b, hb => by simp [runK] at hb; omega
  | c :: r, a, hr, h0, h1, b, hb => by
    obtain ⟨c0, c1⟩ := hr c (by simp)
    unfold runK at hb
    split at hb
    · exact SInv.run I hi r _ (fun c hc => hr c (by simp [hc])) (I.low _ (by omega)) (I.top _ (by omega)) b hb
    · cases hb
theorem SInv.step {S : List Int} {n i : Nat} (I : SInv S n) (hi : i < n) {a : Int} (h0 : 0 ≤ a) (h1 : a ≤ 3000) : SInv (S.set i a) n := by
  have hc : i < S.length := by rw [I.len]; omega
  refine ⟨by simp [I.len], fun j hj => ?_, fun j hj => ?_⟩
  · rw [getD_set _ _ _ _ hc]
    split
    · omega
    · exact I.low j hj
  · rw [getD_set _ _ _ _ hc]
    split
    · omega
    · exact I.top j hj
section
variable {D : Ctx} {l : List LPart}
theorem starts_in (p : LPart) (x n i : Nat) (hi : i < n) (hkl : p.kids.length ≤ 1048576) (hk : ∀ c ∈ p.kids, 0 ≤ c ∧ c < i) (τ : Store) (k : Cur 2) (σ : Store) (S : List Int) (I : SInv S n) (hb : σ.blk x = some (.cells (cI S))) :
    ∀ (j : Nat), j ≤ p.kids.length → ∀ a : Int, 0 ≤ a → a ≤ 3000 →
      lpFix 3 (lp_impl_TreeOk_3 D (encPart p) (.int .i64 i) (.hslice 1 x 0 n, τ) k) (.int .i64 a) (.int .i64 ((j : Int) - 1)) W0 σ = (match runK S (p.kids.take j).reverse a with
        | some b => k (.int .i64 b) W0 σ
        | none => some (encWrong 3 i, σ)) := by
  intro j
  induction j with
  | zero =>
    intro _ a h0 h1
    rw [lpFix_eq (lp_impl_TreeOk_3_mono _ _ _ _ _)]
    unfold lp_impl_TreeOk_3
    simp only [bin_geq, Option.bind_some, aCase_bool, cells_agg]
    rw [if_neg (by simp)]
    rfl
  | succ j ih =>
    intro hj a h0 h1
    have hjl : j < p.kids.length := by omega
    have hse : p.kids[j]? = some p.kids[j] := List.getElem?_eq_getElem hjl
    obtain ⟨c0, c1⟩ := hk _ (List.getElem_mem hjl)
    have hlc : p.kids[j].toNat < S.length := by rw [I.len]; omega
    have z0 := I.low p.kids[j].toNat (by omega)
    have z1 := I.top p.kids[j].toNat (by omega)
    rw [take_rev hjl, show ((j + 1 : Nat) : Int) - 1 = j by omega]
    unfold runK
    rw [lpFix_eq (lp_impl_TreeOk_3_mono _ _ _ _ _)]
    have ih' := ih (by omega) (S.getD p.kids[j].toNat 0) z0 z1
    generalize lpFix 3 (lp_impl_TreeOk_3 D (encPart p) (.int .i64 i) (.hslice 1 x 0 n, τ) k) = R at ih' ⊢
    by_cases e1 : p.kids[j] = a - 1
    · rw [if_pos e1, ← ih']
      unfold lp_impl_TreeOk_3
      simp only [bin_geq, bin_neq, Option.bind_some, aCase_bool, rd1_p, part_at9, idx_encI hse, List.getElem?_cons_zero, bin_sub (a := a) (b := 1) (by omega) (by omega), idx_sl c0 (show p.kids[j] < n by omega), rd1_cI hb hlc, bin_sub (a := j) (b := 1) (by omega) (by omega), cells_agg]
      rw [if_pos (by simp), if_neg (by rw [decide_eq_true_eq]; exact fun h => h e1)]
    · rw [if_neg e1]
      unfold lp_impl_TreeOk_3
      simp only [bin_geq, bin_neq, Option.bind_some, aCase_bool, rd1_p, part_at9, idx_encI hse, List.getElem?_cons_zero, bin_sub (a := a) (b := 1) (by omega) (by omega), one_int]
      rw [if_pos (by simp), if_pos (by rw [decide_eq_true_eq]; exact e1)]
      rfl
theorem starts_out (x : Nat) (hn : l.length ≤ 3000) (hkl : ∀ p ∈ l, p.kids.length ≤ 1048576) (hk : KidsB l) (τ : Store) (k : Cur 1) :
    ∀ i, i ≤ l.length → ∀ σ, ∀ S, SInv S l.length → σ.blk x = some (.cells (cI S)) →
      (∀ j, startsGo l (l.length - i) i S = some j → Ret (lpFix 2 (lp_impl_TreeOk_4 D (.int .i64 l.length) (encParts l) (.hslice 1 x 0 l.length, τ) k) (.int .i64 i) W0 σ) (encWrong 3 j)) ∧
      (startsGo l (l.length - i) i S = none → ∃ σ', lpFix 2 (lp_impl_TreeOk_4 D (.int .i64 l.length) (encParts l) (.hslice 1 x 0 l.length, τ) k) (.int .i64 i) W0 σ = k W0 σ') := by
  refine lp_up2 (lp_impl_TreeOk_4_mono _ _ _ _ _) l.length W0 (fun i σ r => ∀ S, SInv S l.length → σ.blk x = some (.cells (cI S)) → (∀ j, startsGo l (l.length - i) i S = some j → Ret r (encWrong 3 j)) ∧ (startsGo l (l.length - i) i S = none → ∃ σ', r = k W0 σ')) ?_ ?_
  · intro R σ S I hb
    rw [Nat.sub_self]
    refine ⟨fun j h => (by cases h), fun _ => ⟨σ, ?_⟩⟩
    unfold lp_impl_TreeOk_4
    simp only [bin_lss, Option.bind_some, aCase_bool, cells_agg]
    rw [if_neg (by simp)]
  · intro i hi R σ hR S I hb
    rw [nm1 hi]
    have hs : l[i]? = some l[i] := List.getElem?_eq_getElem hi
    have hka : kidsAt l i = l[i].kids := kidsAt_eq hs
    have hkl' := hkl _ (List.getElem_mem hi)
    have hks : ∀ c ∈ l[i].kids, 0 ≤ c ∧ c < i := fun c hc => hk i c (by rw [hka]; exact hc)
    have hil : i < S.length := by rw [I.len]; exact hi
    have ha : asplit 10 (.agg (encPart l[i])) = some (encPart l[i]) := rfl
    have hin := fun k => starts_in (D := D) l[i] x l.length i hi hkl' hks τ k σ S I hb l[i].kids.length (by omega) i (by omega) (by omega)
    rw [List.take_length] at hin
    unfold startsGo
    rw [hka]
    have head : lp_impl_TreeOk_4 D (.int .i64 l.length) (encParts l) (.hslice 1 x 0 l.length, τ) k R (.int .i64 i) W0 σ = (match runK S l[i].kids.reverse i with
        | some b => if i + 1 = l.length ∧ b ≠ 0 then some (encWrong 3 i, σ.upd x (some (.cells (cI (S.set i b))))) else R (.int .i64 ((i : Int) + 1)) W0 (σ.upd x (some (.cells (cI (S.set i b)))))
        | none => some (encWrong 3 i, σ)) := by
      unfold lp_impl_TreeOk_4 jn
      simp only [bin_lss, bin_eql, bin_neq, Option.bind_some, aCase_bool, cells_agg, idx_encParts hs, rdN_part, ha, rd1_p, part_at9, len_encI, bin_sub (a := l[i].kids.length) (b := 1) (by omega) (by omega), len_encParts, bin_sub (a := l.length) (b := 1) (by omega) (by omega), idx_sln hi, one_int, bin_add (a := i) (b := 1) (by omega) (by omega)]
      rw [if_pos (by rw [decide_eq_true_eq]; omega)]
      refine (hin _).trans ?_
      cases runK S l[i].kids.reverse i with
      | none => rfl
      | some b =>
        simp only [wr_cI (n := b) hb hil, Option.bind_some, one_int]
        by_cases h1 : i + 1 = l.length
        · have h1' : (i : Int) = (l.length : Int) - 1 := by omega
          rw [if_pos (by rw [decide_eq_true_eq]; exact h1')]
          simp only [bin_neq, Option.bind_some, aCase_bool]
          by_cases h2 : b = 0
          · rw [if_neg (by rw [decide_eq_true_eq]; exact fun h => h h2), if_neg (fun h => h.2 h2)]
            rfl
          · rw [if_pos (by rw [decide_eq_true_eq]; exact h2), if_pos ⟨h1, h2⟩]
            rfl
        · have h1' : ¬ (i : Int) = (l.length : Int) - 1 := by omega
          rw [if_neg (by rw [decide_eq_true_eq]; exact h1')]
          rw [if_neg (show ¬ (false = true) from Bool.false_ne_true), if_neg (fun h => h1 h.1)]
          rfl
    rw [head]
    cases hrun : runK S l[i].kids.reverse i with
    | none =>
      refine ⟨fun j hj => ?_, fun h => by cases h⟩
      cases hj
      exact ⟨σ, rfl⟩
    | some b =>
      obtain ⟨b0, b1⟩ := SInv.run I hi l[i].kids.reverse i (fun c hc => hks c (by simpa using hc)) (by omega) (by omega) b hrun
      simp only []
      by_cases hc : i + 1 = l.length ∧ b ≠ 0
      · rw [if_pos hc, if_pos hc]
        refine ⟨fun j hj => ?_, fun h => by cases h⟩
        cases hj
        exact ⟨_, rfl⟩
      · rw [if_neg hc, if_neg hc]
        exact hR _ _ (I.step hi b0 b1) upd_blk
theorem implTreeOk (H : Door D) (hG : KeyWords D.G) (hl : SmallTree l) (σ : Store) : Ret (D.call 7 [encTree l] σ) (treeWrong l) := by
  have hln := hl.len
  have hkl : ∀ p ∈ l, p.kids.length ≤ 1048576 := fun p hp => (hl.part p hp).kids
  rw [H.f7]
  unfold sh_impl_TreeOk jn
  simp only [rd1_p, tree_at, Option.bind_some, len_encParts, bin_lss, aCase_bool]
  by_cases h0 : l.length = 0
  · rw [if_pos (by rw [decide_eq_true_eq]; omega), if_pos trivial, treeWrong_1 (.inl h0)]
    exact ⟨σ, rfl⟩
  have hpos : 0 < l.length := by omega
  rw [if_neg (by rw [decide_eq_true_eq]; omega)]
  by_cases h1 : 3000 < l.length
  · simp only [bin_gtr, Option.bind_some, aCase_bool]
    rw [if_pos (by rw [decide_eq_true_eq]; omega), if_pos trivial, treeWrong_1 (.inr (.inl h1))]
    exact ⟨σ, rfl⟩
  have hn : l.length ≤ 3000 := by omega
  simp only [bin_gtr, bin_neq, Option.bind_some, aCase_bool, bin_sub (a := l.length) (b := 1) (by omega) (by omega), idx_last (sz := 10) hpos, fadd_p, Nat.zero_add, rd1_p, part_at0]
  rw [if_neg (by rw [decide_eq_true_eq]; omega)]
  by_cases h2 : l[l.length - 1].kind = 1
  case neg =>
    rw [if_pos (by rw [decide_eq_true_eq]; exact h2), treeWrong_1 (.inr (.inr (by rw [at_last hpos]; simpa using h2)))]
    exact ⟨σ, rfl⟩
  rw [if_neg (by rw [decide_eq_true_eq]; exact fun h => h h2), treeWrong_2 (by rw [at_last hpos]; simp only [Option.map_some, ne_eq, h2, not_true, or_false]; omega)]
  have e1 := fun k => impl_nodes H hG hl hn k 0 (by omega) σ
  rw [Nat.sub_zero] at e1
  cases hff : ff (fun j => !nodeB l j) l.length 0 with
  | some j => exact (e1 _).1 j hff
  | none =>
    have hk := nodes_kids hff
    obtain ⟨σ1, n1⟩ := (e1 _).2 hff
    refine Ret.of_eq n1 ?_
    simp only [encOW, cells_agg, mk_cI (σ := σ1) (n := l.length) (by omega), Option.bind_some]
    have e2 := fun k => starts_out (D := D) (l := l) σ1.next hn hkl hk (σ1.add (.cells (cI (List.replicate l.length 0)))) k 0 (by omega) (σ1.add (.cells (cI (List.replicate l.length 0)))) (List.replicate l.length 0) (SInv.zero _) add_blk
    rw [Nat.sub_zero] at e2
    cases hf2 : startsGo l l.length 0 (List.replicate l.length 0) with
    | some j => exact (e2 _).1 j hf2
    | none =>
      obtain ⟨σ2, n2⟩ := (e2 _).2 hf2
      refine Ret.of_eq n2 ?_
      simp only [cells_agg, mk_cI (σ := σ2) (n := l.length) (by omega), Option.bind_some, lenV_h]
      obtain ⟨σ3, d1, d2⟩ := dep_out (D := D) (l := l) σ2.next hn hkl hk (σ2.add (.cells (cI (List.replicate l.length 0)))) (fun t_24 s_25 => lpFix 2 (lp_impl_TreeOk_7 D (.int .i64 l.length) (.hslice 1 σ2.next 0 l.length, σ2.add (.cells (cI (List.replicate l.length 0)))) fun t_28 s_29 => some (.agg [.int .i64 0, .int .i64 0], s_29)) (.int .i64 ((0 : Nat) : Int)) (.agg (AV.cells t_24)) s_25) _ (lp_impl_TreeOk_6_mono _ _ _ _) (.inr rfl) l.length (σ2.add (.cells (cI (List.replicate l.length 0)))) (by omega) (List.replicate l.length 0) (DInv.zero _) add_blk
      refine Ret.of_eq d1 ?_
      have hdl : (depAll l l.length (List.replicate l.length 0)).length = l.length := by
        have : ∀ m d, m ≤ l.length → DInv d l.length → DInv (depAll l m d) l.length := by
          intro m
          induction m with
          | zero => intro d _ I; exact I
          | succ m ih => intro d hm I; exact ih _ (by omega) (DInv.kids (by omega) _ d I fun c hc => hk m c hc)
        exact (this l.length _ (by omega) (DInv.zero _)).len
      simp only [cells_agg]
      refine Ret.of_eq (dep_look (D := D) σ2.next l.length hn _ _ _ (lp_impl_TreeOk_7_mono _ _ _ _) (.inr rfl) _ hdl 0 (by omega) σ3 d2) ?_
      rw [Nat.sub_zero]
      cases ff (fun j => decide (100 < (depAll l l.length (List.replicate l.length 0)).getD j 0)) l.length 0 with
      | some j => exact ⟨σ3, rfl⟩
      | none => exact ⟨σ3, rfl⟩
theorem treeWrong_enc (l : List LPart) : ∃ c p : Int, treeWrong l = encWrong c p := by
  unfold treeWrong encOW
  repeat' split
  all_goals exact ⟨_, _, rfl⟩
/-- The law. -/
theorem fnExactTreeOk (H : Door D) (hG : KeyWords D.G) (hf : ∀ p ∈ l, p.Fits) (hn : l.length ≤ 9223372036854775807) : D.call 3 [encTree l] Store.empty = some (.bool true, Store.empty) := by
  rw [H.f3]
  unfold sh_laws_FnExactTreeOk
  obtain ⟨r, c1, hsm⟩ := szTree H l hf hn Store.empty
  have v4 : callV D 4 [.agg [encParts l], .int .i64 1048576] Store.empty = some (.int .i64 r) := callV_eq (args := [encTree l, .int .i64 1048576]) (by simp [depth]) c1 rfl
  simp only [tree_rdN, Option.bind_some, v4, bin_lss, aCase_bool]
  by_cases hr : r < 0
  · rw [if_pos (by rw [decide_eq_true_eq]; exact hr)]
  rw [if_neg (by rw [decide_eq_true_eq]; exact hr)]
  have hl := hsm (by omega)
  obtain ⟨c, p, hw⟩ := treeWrong_enc l
  have e6 : callP D 6 [.agg [encParts l]] = some (encTree l) := toTree H l hl
  have e5 : callV D 5 [encTree l] Store.empty = some (encWrong c p) := callV_ret (us := [encTree l]) (by simp [depth]) (by rw [← hw]; exact specTreeOk H hl Store.empty) rfl
  have e7 : callV D 7 [.agg [encParts l]] Store.empty = some (encWrong c p) := callV_ret (us := [encTree l]) (by have : [AV.agg [encParts l]] = [encTree l] := rfl; rw [this]; simp [depth]) (by rw [← hw]; exact implTreeOk H hG hl Store.empty) rfl
  have e8 : callV D 8 [.agg [.int .i64 c, .int .i64 p], .agg [.int .i64 c, .int .i64 p]] Store.empty = some (.bool true) := callV_eq (args := [encWrong c p, encWrong c p]) (by rfl) (eqWrong H c p Store.empty) rfl
  have e9 : callV D 9 [.agg [encParts l], encTree l] Store.empty = some (.bool true) := callV_eq (args := [encTree l, encTree l]) (by simp [depth]) (eqTree H l hl Store.empty) rfl
  have a2 : asplit 2 (encWrong c p) = some [.int .i64 c, .int .i64 p] := rfl
  have a1 : asplit 1 (encTree l) = some [encParts l] := rfl
  have r2 : rdN 2 (.pptr [.int .i64 c, .int .i64 p] 0) Store.empty = some [.int .i64 c, .int .i64 p] := rfl
  have r1 : rdN 1 (.pptr [encParts l] 0) Store.empty = some [encParts l] := rfl
  simp only [e6, e5, e7, e8, e9, a1, a2, r1, r2, Option.bind_some, un_not, aCase_bool, Bool.not_true, Bool.false_eq_true, if_false]
end
end Go.Asm.DoorF
