import Derived.Test.YtebmeojmlakkoaaDoorDoorP15
set_option linter.all false
namespace Go.Asm.DoorF
open Go Go.Asm
abbrev W0 : AV := .agg [.int .i64 0, .int .i64 0]
theorem nm1 {n i : Nat} (h : i < n) : n - i = (n - (i + 1)) + 1 := by omega
theorem idx_sl {x n : Nat} {c : Int} (h0 : 0 ≤ c) (h1 : c < n) : idx 1 (.hslice 1 x 0 n) (.int .i64 c) = some (.hptr x c.toNat) := idx_h1 h0 h1
theorem idx_sln {x n c : Nat} (h1 : c < n) : idx 1 (.hslice 1 x 0 n) (.int .i64 c) = some (.hptr x c) := by
  have := idx_h1 (x := x) (n := n) (i := c) (by omega) (by omega)
  simpa using this
theorem tree_at {l : List LPart} : (AV.cells (encTree l))[0]? = some (encParts l) := rfl
theorem fadd_p {row : List AV} {o off : Nat} : fadd (.pptr row o) off = some (.pptr row (o + off)) := rfl
section
variable {D : Ctx} {l : List LPart}
/-- The depths from a kid's list: the inner loop of both. -/
theorem dep_in (x n i : Nat) (hi : i < n) (hn : n ≤ 3000) (ks : List Int) (hkl : ks.length ≤ 1048576) (hk : ∀ c ∈ ks, 0 ≤ c ∧ c < i) (τ : Store) (k : Cur 1) (F : Cur 2 → Cur 2) (hF : Mono F)
    (heq : F = lp_spec_TreeOk_3 D (.int .i64 ks.length) (encI ks) (.hslice 1 x 0 n, τ) (.int .i64 i) k ∨ F = lp_impl_TreeOk_5 D (.int .i64 ks.length) (encI ks) (.hslice 1 x 0 n, τ) (.int .i64 i) k) :
    ∀ j, j ≤ ks.length → ∀ σ, ∀ d, DInv d n → σ.blk x = some (.cells (cI d)) → ∃ σ', lpFix 2 F (.int .i64 j) W0 σ = k W0 σ' ∧ σ'.blk x = some (.cells (cI (depK d i (ks.drop j)))) := by
  refine lp_up2 hF ks.length W0 (fun j σ r => ∀ d, DInv d n → σ.blk x = some (.cells (cI d)) → ∃ σ', r = k W0 σ' ∧ σ'.blk x = some (.cells (cI (depK d i (ks.drop j))))) ?_ ?_
  · intro R σ d I hb
    refine ⟨σ, ?_, by rw [List.drop_length]; exact hb⟩
    rcases heq with rfl | rfl
    · unfold lp_spec_TreeOk_3
      simp only [bin_lss, Option.bind_some, aCase_bool, cells_agg]
      rw [if_neg (by simp)]
    · unfold lp_impl_TreeOk_5
      simp only [bin_lss, Option.bind_some, aCase_bool, cells_agg]
      rw [if_neg (by simp)]
  · intro j hj R σ hR d I hb
    have hse : ks[j]? = some ks[j] := List.getElem?_eq_getElem hj
    obtain ⟨c0, c1⟩ := hk _ (List.getElem_mem hj)
    have hli : i < d.length := by rw [I.len]; exact hi
    have hlc : ks[j].toNat < d.length := by rw [I.len]; omega
    have t1 := I.top i hi
    have t0 := I.low i hi
    obtain ⟨σ', h1, h2⟩ := hR (σ.upd x (some (.cells (cI (d.set ks[j].toNat (d.getD i 0 + 1)))))) _ (I.step hi c0 c1) upd_blk
    refine ⟨σ', ?_, by rw [List.drop_eq_getElem_cons hj]; exact h2⟩
    rw [← h1]
    have hw := wr_cI (n := d.getD i 0 + 1) hb hlc
    rcases heq with rfl | rfl
    · unfold lp_spec_TreeOk_3
      simp only [bin_lss, Option.bind_some, aCase_bool, cells_agg, idx_encI hse, rd1_p, List.getElem?_cons_zero, idx_sln hi, rd1_cI hb hli, bin_add (a := d.getD i 0) (b := 1) (by omega) (by omega), idx_sl c0 (show ks[j] < n by omega), one_int, hw, bin_add (a := j) (b := 1) (by omega) (by omega)]
      rw [if_pos (by simpa using hj)]
    · unfold lp_impl_TreeOk_5
      simp only [bin_lss, Option.bind_some, aCase_bool, cells_agg, idx_encI hse, rd1_p, List.getElem?_cons_zero, idx_sln hi, rd1_cI hb hli, bin_add (a := d.getD i 0) (b := 1) (by omega) (by omega), idx_sl c0 (show ks[j] < n by omega), one_int, hw, bin_add (a := j) (b := 1) (by omega) (by omega)]
      rw [if_pos (by simpa using hj)]
/-- The outer one. -/
theorem dep_out (x : Nat) (hn : l.length ≤ 3000) (hkl : ∀ p ∈ l, p.kids.length ≤ 1048576) (hk : KidsB l) (τ : Store) (k : Cur 1) (F : Cur 2 → Cur 2) (hF : Mono F)
    (heq : F = lp_spec_TreeOk_4 D (encTree l) (.hslice 1 x 0 l.length, τ) k ∨ F = lp_impl_TreeOk_6 D (encParts l) (.hslice 1 x 0 l.length, τ) k) :
    ∀ (m : Nat) σ, m ≤ l.length → ∀ d, DInv d l.length → σ.blk x = some (.cells (cI d)) → ∃ σ', lpFix 2 F (.int .i64 ((m : Int) - 1)) W0 σ = k W0 σ' ∧ σ'.blk x = some (.cells (cI (depAll l m d))) := by
  refine lp_dn2 hF W0 (fun m σ r => m ≤ l.length → ∀ d, DInv d l.length → σ.blk x = some (.cells (cI d)) → ∃ σ', r = k W0 σ' ∧ σ'.blk x = some (.cells (cI (depAll l m d)))) ?_ ?_
  · intro R σ _ d I hb
    refine ⟨σ, ?_, hb⟩
    rcases heq with rfl | rfl
    · unfold lp_spec_TreeOk_4
      simp only [bin_geq, Option.bind_some, aCase_bool, cells_agg]
      rw [if_neg (by simp)]
    · unfold lp_impl_TreeOk_6
      simp only [bin_geq, Option.bind_some, aCase_bool, cells_agg]
      rw [if_neg (by simp)]
  · intro m R σ hR hm d I hb
    have hil : m < l.length := by omega
    have hs : l[m]? = some l[m] := List.getElem?_eq_getElem hil
    have hka : kidsAt l m = l[m].kids := kidsAt_eq hs
    have hkl' := hkl _ (List.getElem_mem hil)
    have hks : ∀ c ∈ l[m].kids, 0 ≤ c ∧ c < m := fun c hc => hk m c (by rw [hka]; exact hc)
    have I2 := DInv.kids hil l[m].kids d I hks
    rcases heq with rfl | rfl
    · obtain ⟨σ1, h1, h2⟩ := dep_in (D := D) x l.length m hil hn l[m].kids hkl' hks τ (fun t_63 s_64 => R (.int .i64 ((m : Int) - 1)) (.agg (AV.cells t_63)) s_64) _ (lp_spec_TreeOk_3_mono _ _ _ _ _ _) (.inl rfl) 0 (by omega) σ d I hb
      rw [List.drop_zero] at h2
      obtain ⟨σ2, h3, h4⟩ := hR σ1 (by omega) _ I2 h2
      refine ⟨σ2, ?_, by unfold depAll; rw [hka]; exact h4⟩
      rw [← h3]
      refine Eq.trans ?_ h1
      unfold lp_spec_TreeOk_4 jn
      simp only [bin_geq, Option.bind_some, aCase_bool, cells_agg, tree_at, idx_encParts hs, fadd_p, rd1_p, Nat.zero_add, part_at9, len_encI, bin_sub (a := m) (b := 1) (by omega) (by omega)]
      rw [if_pos (by simp)]
      rfl
    · obtain ⟨σ1, h1, h2⟩ := dep_in (D := D) x l.length m hil hn l[m].kids hkl' hks τ (fun t_63 s_64 => R (.int .i64 ((m : Int) - 1)) (.agg (AV.cells t_63)) s_64) _ (lp_impl_TreeOk_5_mono _ _ _ _ _ _) (.inr rfl) 0 (by omega) σ d I hb
      rw [List.drop_zero] at h2
      obtain ⟨σ2, h3, h4⟩ := hR σ1 (by omega) _ I2 h2
      refine ⟨σ2, ?_, by unfold depAll; rw [hka]; exact h4⟩
      rw [← h3]
      refine Eq.trans ?_ h1
      unfold lp_impl_TreeOk_6 jn
      simp only [bin_geq, Option.bind_some, aCase_bool, cells_agg, idx_encParts hs, fadd_p, rd1_p, Nat.zero_add, part_at9, len_encI, bin_sub (a := m) (b := 1) (by omega) (by omega)]
      rw [if_pos (by simp)]
      rfl
/-- The last look. -/
theorem dep_look (x n : Nat) (hn : n ≤ 3000) (τ : Store) (k : Cur 1) (F : Cur 2 → Cur 2) (hF : Mono F)
    (heq : F = lp_spec_TreeOk_5 D (.int .i64 n) (.hslice 1 x 0 n, τ) k ∨ F = lp_impl_TreeOk_7 D (.int .i64 n) (.hslice 1 x 0 n, τ) k) (d : List Int) (hd : d.length = n) :
    ∀ i, i ≤ n → ∀ σ, σ.blk x = some (.cells (cI d)) → lpFix 2 F (.int .i64 i) W0 σ = (match ff (fun j => decide (100 < d.getD j 0)) (n - i) i with | some j => some (encWrong 4 j, σ) | none => k W0 σ) := by
  refine lp_up2 hF n W0 (fun i σ r => σ.blk x = some (.cells (cI d)) → r = (match ff (fun j => decide (100 < d.getD j 0)) (n - i) i with | some j => some (encWrong 4 j, σ) | none => k W0 σ)) ?_ ?_
  · intro R σ hb
    rw [Nat.sub_self]
    rcases heq with rfl | rfl
    · unfold lp_spec_TreeOk_5
      simp only [bin_lss, Option.bind_some, aCase_bool, cells_agg]
      rw [if_neg (by simp)]
      rfl
    · unfold lp_impl_TreeOk_7
      simp only [bin_lss, Option.bind_some, aCase_bool, cells_agg]
      rw [if_neg (by simp)]
      rfl
  · intro i hi R σ hR hb
    have hli : i < d.length := by omega
    rw [nm1 hi]
    have hR' := hR σ hb
    by_cases hc : 100 < d.getD i 0
    · rw [ff_pos (decide_eq_true hc)]
      rcases heq with rfl | rfl
      · unfold lp_spec_TreeOk_5
        simp only [bin_lss, bin_gtr, Option.bind_some, aCase_bool, cells_agg, idx_sln hi, rd1_cI hb hli, one_int]
        rw [if_pos (by simpa using hi), if_pos (by simpa using hc)]
        rfl
      · unfold lp_impl_TreeOk_7
        simp only [bin_lss, bin_gtr, Option.bind_some, aCase_bool, cells_agg, idx_sln hi, rd1_cI hb hli, one_int]
        rw [if_pos (by simpa using hi), if_pos (by simpa using hc)]
        rfl
    · rw [ff_neg (decide_eq_false hc), ← hR']
      rcases heq with rfl | rfl
      · unfold lp_spec_TreeOk_5
        simp only [bin_lss, bin_gtr, Option.bind_some, aCase_bool, cells_agg, idx_sln hi, rd1_cI hb hli, bin_add (a := i) (b := 1) (by omega) (by omega)]
        rw [if_pos (by simpa using hi), if_neg (by simpa using hc)]
      · unfold lp_impl_TreeOk_7
        simp only [bin_lss, bin_gtr, Option.bind_some, aCase_bool, cells_agg, idx_sln hi, rd1_cI hb hli, bin_add (a := i) (b := 1) (by omega) (by omega)]
        rw [if_pos (by simpa using hi), if_neg (by simpa using hc)]
end
end Go.Asm.DoorF
