/- laws.FnExactCheckUnit returns true in whatever memory it is called, for every unit, and leaves its argument as it read. No condition. -/
import Derived.ProofKit
import Derived.ChangeSame
import Derived.ChangeVars
import Derived.Test.YtebmeojmlakkoaaProg
import Derived.KernelRfl
import Derived.Test.YtebmeojmlakkoaaRows
import Derived.OpenShut
import Derived.Test.YtebmeojmlakkoaaT7
set_option linter.all false
/- impl's test of a unit: the code 5. -/
namespace Go.Asm.UnitF
open Go Go.Asm
theorem growD_above (par : List Int) : ∀ (k : Nat) (dep : List Int) (m : Nat), k ≤ m → (growD par k dep).getD m 0 = dep.getD m 0
 | 0, dep, m, _ => rfl
 | k + 1, dep, m, h => by
  rw [growD, growD_above par k _ m (by omega)]
  split
  ·have : k ≠ m := by omega
   simp only [List.getD_eq_getElem?_getD, List.getElem?_set]
   simp [this]
  ·rfl
theorem growD_at (par : List Int) (N : Nat) (hup : ∀ m, m < N → 0 ≤ par.getD m 0 → m < (par.getD m 0).toNat) : ∀ (k : Nat) (dep : List Int) (m : Nat), dep.length = N → k ≤ N → m < k → 0 ≤ par.getD m 0 → (growD par k dep).getD m 0 = (growD par k dep).getD (par.getD m 0).toNat 0 + 1
 | 0, dep, m, _, _, h, _ => by omega
 | k + 1, dep, m, hl, hk, h, hp => by
  rw [growD]
  have hl' : (if 0 ≤ par.getD k 0 then dep.set k (dep.getD (par.getD k 0).toNat 0 + 1) else dep).length = N := by split <;> simp [hl]
  by_cases e : m = k
  ·subst e
   have h1 := hup m (by omega) hp
   rw [growD_above _ _ _ m (Nat.le_refl _), growD_above _ _ _ _ (by omega : m ≤ (par.getD m 0).toNat), if_pos hp, getD_set' _ _ _ _ (by omega), if_pos rfl, getD_set' _ _ _ _ (by omega), if_neg (by omega)]
  ·exact growD_at par N hup k _ m hl' (by omega) (by omega) hp
theorem growT_last {l : List LNode} (h0 : 0 < l.length) : (growT l).getD (l.length - 1) 0 = 0 := by
 rw [growT, growD_above _ _ _ _ (Nat.le_refl _)]
 have : l.length - 1 < l.length := by omega
 simp [this]
theorem growT_step {l : List LNode} (ha : Ahead l) {m : Nat} (hm : m + 1 < l.length) (hp : 0 ≤ (growP l).getD m 0) : (growT l).getD m 0 = (growT l).getD ((growP l).getD m 0).toNat 0 + 1 := by
 rw [growT]
 exact growD_at (growP l) l.length (fun m hm h => (up_lt ha hm (by omega)).1) _ _ m (by simp) (by omega) (by omega) hp
theorem growT_bd {l : List LNode} (T : TreeN l) : ∀ (d m : Nat), d = l.length - 1 - m → m < l.length → 0 ≤ (growT l).getD m 0 ∧ (growT l).getD m 0 ≤ d := by
 intro d
 induction d using Nat.strongRecOn with
 | _ d ih =>
  intro m hd hm
  by_cases h : m + 1 < l.length
  ·have hp : 0 ≤ (growP l).getD m 0 := (occ_iff T.ahead h).2 (T.once m h)
   obtain ⟨u1, u2⟩ := up_lt T.ahead hm (by omega)
   rw [growT_step T.ahead h hp]
   have := ih _ (by omega) ((growP l).getD m 0).toNat rfl u2
   omega
  ·have : m = l.length - 1 := by omega
   rw [this, growT_last T.pos]; omega
def setAll (v : Int) (ks : List Int) (Z : List Int) : List Int := ks.foldl (fun Z c => Z.set c.toNat v) Z
theorem setAll_len (v : Int) (ks : List Int) : ∀ Z, (setAll v ks Z).length = Z.length := by
 induction ks with
 | nil => intro Z; rfl
 | cons k ks ih => intro Z; rw [setAll, List.foldl_cons]; exact (ih _).trans (by simp)
theorem setAll_at (v : Int) (m : Nat) : ∀ (ks : List Int) (Z : List Int), (∀ c ∈ ks, 0 ≤ c ∧ c < (Z.length : Int)) → ((m : Int) ∈ ks → (setAll v ks Z).getD m 0 = v) ∧ ((m : Int) ∉ ks → (setAll v ks Z).getD m 0 = Z.getD m 0)
 | [], Z, _ => ⟨fun h => by simp at h, fun _ => rfl⟩
 | k :: ks, Z, h => by
  have h0 := h k (by simp)
  have ih := setAll_at v m ks (Z.set k.toNat v) (fun c hc => by rw [List.length_set]; exact h c (by simp [hc]))
  have e : setAll v (k :: ks) Z = setAll v ks (Z.set k.toNat v) := rfl
  rw [e]
  refine ⟨fun hm => ?_, fun hm => ?_⟩
  ·by_cases h1 : (m : Int) ∈ ks
   ·exact ih.1 h1
   ·rw [ih.2 h1, getD_set' _ _ _ _ (by omega), if_pos]
    rcases List.mem_cons.1 hm with h2 | h2
    ·omega
    ·exact absurd h2 h1
  ·rw [ih.2 fun h1 => hm (List.mem_cons_of_mem _ h1), getD_set' _ _ _ _ (by omega), if_neg]
   intro h1
   apply hm
   rw [show (m : Int) = k by omega]; simp
section
variable {D : Ctx}
theorem idepth_kids (ks : List Int) (hk : ks.length ≤ 1048576) (b N n : Nat) (hN : N ≤ 1048576) (hnN : n < N) (hr : ∀ c ∈ ks, 0 ≤ c ∧ c < (n : Int)) (d : Int) (hd0 : 0 ≤ d ∧ d ≤ 1048576) (t : Store) (k : Cur 1) : ∀ (c j : Nat) (σ : Store) (Z : List Int), c = ks.length - j → j ≤ ks.length → σ.blk b = some (.cells (cI Z)) → Z.length = N → Z.getD n 0 = d →
  ∃ σ', lpFix 2 (lp_q4_11 D (.int .i64 ks.length) (encI ks) (.hslice 1 b 0 N, t) (.int .i64 n) k) (.int .i64 j) W0 σ = k W0 σ' ∧ σ'.blk b = some (.cells (cI (setAll (d + 1) (ks.drop j) Z))) := by
 intro c
 induction c with
 | zero =>
  intro j σ Z hc hj hb hZ hd
  have : j = ks.length := by omega
  subst this
  refine ⟨σ, ?_, by rw [List.drop_eq_nil_of_le (by omega)]; exact hb⟩
  rw [lpFix_eq (lp_q4_11_mono _ _ _ _ _ _)]
  unfold lp_q4_11
  simp only [bin_lss, Obs, aCase_bool]
  rw [if_neg (by rw [Dte]; omega)]
  rfl
 | succ c ih =>
  intro j σ Z hc hj hb hZ hd
  have hjl : j < ks.length := by omega
  have hse : ks[j]? = some ks[j] := Lge hjl
  have hr0 := hr ks[j] (List.getElem_mem hjl)
  have es : setAll (d + 1) (ks.drop j) Z = setAll (d + 1) (ks.drop (j + 1)) (Z.set ks[j].toNat (d + 1)) := by rw [List.drop_eq_getElem_cons hjl]; rfl
  rw [lpFix_eq (lp_q4_11_mono _ _ _ _ _ _), es]
  generalize hR : lpFix 2 (lp_q4_11 D (.int .i64 ks.length) (encI ks) (.hslice 1 b 0 N, t) (.int .i64 n) k) = R at ih ⊢
  have e1 : ((j : Int) + 1) = ((j + 1 : Nat) : Int) := by omega
  have one_i : ∀ k : Int, one (.int .i64 k) = some (.int .i64 k) := fun _ => rfl
  unfold lp_q4_11
  simp only [bin_lss, Obs, aCase_bool, idx_encI hse, rd1_p, Lgz, idx_h1 (x := b) (n := N) (i := ks[j]) hr0.1 (by omega), idx_h1 (x := b) (n := N) (i := (n : Int)) (by omega) (by omega), Int.toNat_natCast, rd1_cI hb (show n < Z.length by omega), hd, bin_add (a := d) (b := 1) (by omega) (by omega), one_i, wr_cI hb (show ks[j].toNat < Z.length by omega), bin_add (a := (j : Int)) (b := 1) (by omega) (by omega), e1, cellsW0]
  rw [if_pos (by rw [Dte]; omega)]
  exact ih (j + 1) _ _ (by omega) (by omega) upd_blk (by simp [hZ]) (by rw [getD_set' _ _ _ _ (by omega), if_neg (by omega)]; exact hd)
theorem idepth_nodes {x : LFn} (hx : x.Small) (T : TreeN x.nodes) (b : Nat) (t : Store) (k : Cur 1) : ∀ (c : Nat) (σ : Store) (Z : List Int), c ≤ x.nodes.length → σ.blk b = some (.cells (cI Z)) → Z.length = x.nodes.length →
  (∀ m, m < x.nodes.length → (m + 1 = x.nodes.length ∨ (c : Int) ≤ (growP x.nodes).getD m 0) → Z.getD m 0 = (growT x.nodes).getD m 0) →
  ∃ σ', lpFix 2 (lp_q4_12 D (encFn x) (.hslice 1 b 0 x.nodes.length, t) k) (.int .i64 ((c : Int) - 1)) W0 σ = k W0 σ' ∧ σ'.blk b = some (.cells (cI (growT x.nodes))) := by
 have hnl := hx.nodes
 intro c
 induction c with
 | zero =>
  intro σ Z hc hb hZ hi
  have hZe : Z = growT x.nodes := by
   have hl : Z.length = (growT x.nodes).length := by rw [growT_len, hZ]
   refine List.ext_getElem hl fun m h1 h2 => ?_
   have := hi m (by omega) (by
    by_cases h : m + 1 < x.nodes.length
    ·right
     exact (occ_iff T.ahead h).2 (T.once m h)
    ·left; omega)
   simpa [List.getD_eq_getElem?_getD, h1, h2] using this
  refine ⟨σ, ?_, by rw [← hZe]; exact hb⟩
  rw [lpFix_eq (lp_q4_12_mono _ _ _ _)]
  unfold lp_q4_12
  simp only [bin_geq, Obs, aCase_bool]
  rw [if_neg (by rw [Dte]; omega)]
  rfl
 | succ c ih =>
  intro σ Z hc hb hZ hi
  have e0 : ((c + 1 : Nat) : Int) - 1 = (c : Nat) := by omega
  rw [e0]
  have hcl : c < x.nodes.length := by omega
  have hse : x.nodes[c]? = some x.nodes[c] := Lge hcl
  have hps := hx.nodes' _ (Lmg hse)
  have hr := T.ahead c _ hse
  have hd : Z.getD c 0 = (growT x.nodes).getD c 0 := hi c hcl (by
   by_cases h : c + 1 < x.nodes.length
   ·right
    have hp : 0 ≤ (growP x.nodes).getD c 0 := (occ_iff T.ahead h).2 (T.once c h)
    have := up_lt T.ahead hcl (by omega)
    omega
   ·left; omega)
  have hbd := growT_bd T _ c rfl hcl
  rw [lpFix_eq (lp_q4_12_mono _ _ _ _)]
  generalize hR : lpFix 2 (lp_q4_12 D (encFn x) (.hslice 1 b 0 x.nodes.length, t) k) = R at ih ⊢
  unfold lp_q4_12
  simp only [bin_geq, Obs, aCase_bool, rd1_p, fn_at6, idx_encNodes hse, fadd_pp, Nat.zero_add, node_at7, len_encI, jn_eq, bin_sub (a := (c : Int)) (b := 1) (by omega) (by omega)]
  rw [if_pos (by rw [Dte]; omega)]
  obtain ⟨σ1, r1, r2⟩ := idepth_kids (D := D) x.nodes[c].kids hps.kids b x.nodes.length c hnl hcl hr ((growT x.nodes).getD c 0) (by omega) t (fun t_340 s_341 => R (.int .i64 ((c : Int) - 1)) (.agg (AV.cells t_340)) s_341) x.nodes[c].kids.length 0 σ Z (by omega) (by omega) hb hZ hd
  rw [List.drop_zero] at r2
  obtain ⟨σ2, q1, q2⟩ := ih σ1 _ (by omega) r2 (by rw [setAll_len]; exact hZ) (fun m hm h => by
   have sa := setAll_at ((growT x.nodes).getD c 0 + 1) m x.nodes[c].kids Z (fun q hq => by have := hr q hq; omega)
   by_cases hmk : (m : Int) ∈ x.nodes[c].kids
   ·rw [sa.1 hmk]
    have hmc := hr _ hmk
    have hpar := parent_of T.ahead hse hmk (T.once m (by omega))
    rw [growT_step (m := m) T.ahead (by omega) (by omega), hpar, Int.toNat_natCast]
   ·rw [sa.2 hmk]
    refine hi m hm ?_
    rcases h with h | h
    ·exact .inl h
    ·by_cases hl : m + 1 = x.nodes.length
     ·exact .inl hl
     ·right
      rcases Int.lt_or_eq_of_le h with h2 | h2
      ·omega
      ·exfalso
       obtain ⟨p, j, hp, hj⟩ := parent_mem T hm (by omega)
       rw [← h2, Int.toNat_natCast, hse] at hp
       cases hp
       exact hmk (Lmg hj))
  exact ⟨σ2, r1.trans q1, q2⟩
theorem idepth_scan1 {x : LFn} (hx : x.Small) (f b : Nat) (t : Store) (k : Cur 1) (Q : Res → Prop) (σ : Store)
  (hb : σ.blk b = some (.cells (cI (growT x.nodes)))) (hv : ∀ v, bad5in x f = some v → ∀ σ', Q (some (v, σ'))) (hn : bad5in x f = none → ∀ σ', Q (k W0 σ')) :
  Q (lpFix 2 (lp_q4_13 D (.int .i64 x.nodes.length) (.hslice 1 b 0 x.nodes.length, t) (.int .i64 f) k) (.int .i64 0) W0 σ) := by
 have hnl := hx.nodes
 refine lp_scanQ (lp_q4_13_mono _ _ _ _ _) x.nodes.length W0 _ (k W0) (fun _ σ => σ.blk b = some (.cells (cI (growT x.nodes)))) Q ?_ ?_ hv (fun h σ' _ => hn h σ') σ hb
 ·intro R σ
  unfold lp_q4_13
  simp only [bin_lss, Obs, aCase_bool]
  rw [if_neg (by simp)]
  rfl
 ·intro i hi R σ hb qv qn
  have one_i : ∀ k : Int, one (.int .i64 k) = some (.int .i64 k) := fun _ => rfl
  unfold lp_q4_13
  simp only [bin_lss, bin_gtr, Obs, aCase_bool, idx_h1 (x := b) (n := x.nodes.length) (i := (i : Int)) (by omega) (by omega), Int.toNat_natCast, rd1_cI hb (by rw [growT_len]; exact hi), one_i, bin_add (a := (i : Int)) (b := 1) (by omega) (by omega), cellsW0]
  rw [if_pos (by rw [Dte]; omega)]
  by_cases h : 100 < (growT x.nodes).getD i 0
  ·rw [if_pos (by rw [Dte]; exact h)]
   exact qv _ (if_pos h) σ
  ·rw [if_neg (by rw [Dte]; exact h)]
   exact qn (if_neg h) σ hb
theorem idepth_scan (u : List LFn) (hu : SmallUnit u) (hg : ∀ x ∈ u, TreeN x.nodes) (k : Cur 1) (Q : Res → Prop) (σ : Store)
  (hv : ∀ v, bad5 u = some v → ∀ σ', Q (some (v, σ'))) (hn : bad5 u = none → ∀ σ', Q (k W0 σ')) :
  Q (lpFix 2 (lp_q4_14 D (.int .i64 u.length) (encFns u) k) (.int .i64 0) W0 σ) := by
 have hul := hu.len
 refine lp_scanQ (lp_q4_14_mono _ _ _ _) u.length W0 _ (k W0) (fun _ _ => True) Q ?_ ?_ hv (fun h σ' _ => hn h σ') σ trivial
 ·intro R σ
  unfold lp_q4_14
  simp only [bin_lss, Obs, aCase_bool]
  rw [if_neg (by simp)]
  rfl
 ·intro i hi R σ _ qv qn
  have hse : u[i]? = some u[i] := Lge hi
  have hx := hu.part _ (Lmg hse)
  have hnl := hx.nodes
  have T := hg _ (Lmg hse)
  have hpos := T.pos
  have ha : asplit 7 (.agg (encFn u[i])) = some (encFn u[i]) := rfl
  rw [hse, Obs] at qv qn
  unfold lp_q4_14
  simp only [bin_lss, Obs, aCase_bool, idx_encFns hse, rdN_Fn, ha, rd1_p, fn_at6, len_encNodes, jn_eq, mk_cI (show u[i].nodes.length ≤ 4294967296 by omega), bin_add (a := (i : Int)) (b := 1) (by omega) (by omega), bin_sub (a := (u[i].nodes.length : Int)) (b := 1) (by omega) (by omega)]
  rw [if_pos (by rw [Dte]; omega)]
  obtain ⟨σ1, r1, r2⟩ := idepth_nodes (D := D) hx T σ.next (σ.add (.cells (cI (List.replicate u[i].nodes.length 0)))) (fun t_310 s_311 => lpFix 2 (lp_q4_13 D (.int .i64 u[i].nodes.length) (.hslice 1 σ.next 0 u[i].nodes.length, (σ.add (.cells (cI (List.replicate u[i].nodes.length 0))))) (.int .i64 i) fun t_315 s_316 => R (.int .i64 ((i : Int) + 1)) (.agg (AV.cells t_315)) s_316) (.int .i64 0) (.agg (AV.cells t_310)) s_311) u[i].nodes.length (σ.add (.cells (cI (List.replicate u[i].nodes.length 0)))) (List.replicate u[i].nodes.length 0) (by omega) add_blk (by simp) (fun m hm h => by
   have e : (List.replicate u[i].nodes.length (0 : Int)).getD m 0 = 0 := by simp [hm]
   rw [e]
   have : m + 1 = u[i].nodes.length := by
    rcases h with h | h
    ·exact h
    ·have := up_lt T.ahead hm (by omega); omega
   have hl := growT_last T.pos
   rw [show u[i].nodes.length - 1 = m by omega] at hl
   exact hl.symm)
  refine Eq.mp (congrArg Q r1.symm) ?_
  exact idepth_scan1 (D := D) hx i σ.next _ _ Q σ1 r2 qv fun h σ' => qn h σ' trivial
end
end Go.Asm.UnitF
/- impl's walk over every function of a unit. -/
namespace Go.Asm.UnitF
open Go Go.Asm
theorem WS.congr' {u : List LFn} {U L A S S' : Nat} {V V' : Nat → Nat → Prop} {σ : Store} (h : ∀ a b x p, u[a]? = some x → x.nodes[b]? = some p → (V a b ↔ V' a b)) (hS : S' = U ∨ S' = S) (W : WS u U L A S V σ) : WS u U L A S' V' σ := by
 have e1 : (fun f n => V f n ∧ isUnseen u f n) = fun f n => V' f n ∧ isUnseen u f n := by
  funext a b
  refine propext ⟨fun ⟨h1, h2⟩ => ?_, fun ⟨h1, h2⟩ => ?_⟩
  ·obtain ⟨x, p, c, d, _⟩ := id h2; exact ⟨(h a b x p c d).1 h1, h2⟩
  ·obtain ⟨x, p, c, d, _⟩ := id h2; exact ⟨(h a b x p c d).2 h1, h2⟩
 have e2 : (fun f n => V f n ∧ isLoose u f n) = fun f n => V' f n ∧ isLoose u f n := by
  funext a b
  refine propext ⟨fun ⟨h1, h2⟩ => ?_, fun ⟨h1, h2⟩ => ?_⟩
  ·obtain ⟨x, p, c, d, _⟩ := id h2; exact ⟨(h a b x p c d).1 h1, h2⟩
  ·obtain ⟨x, p, c, d, _⟩ := id h2; exact ⟨(h a b x p c d).2 h1, h2⟩
 have e3 : (fun f n => V f n ∧ isFnN u f n) = fun f n => V' f n ∧ isFnN u f n := by
  funext a b
  refine propext ⟨fun ⟨h1, h2⟩ => ?_, fun ⟨h1, h2⟩ => ?_⟩
  ·obtain ⟨x, p, c, d, _⟩ := id h2; exact ⟨(h a b x p c d).1 h1, h2⟩
  ·obtain ⟨x, p, c, d, _⟩ := id h2; exact ⟨(h a b x p c d).2 h1, h2⟩
 obtain ⟨ya, a1, a2⟩ := W.hA
 refine ⟨by rw [← e1]; exact W.hU, by rw [← e2]; exact W.hL, ya, by rw [← e3]; exact a1, fun f n hv hn => ?_⟩
 have hv' : V f n := by obtain ⟨x, p, c, d, _⟩ := id hn; exact (h f n x p c d).2 hv
 obtain ⟨b1, b2, b3⟩ := a2 f n hv' hn
 refine ⟨b1, ?_, b3⟩
 simp only [List.mem_cons, List.not_mem_nil, or_false, not_or] at b2 ⊢
 rcases hS with rfl | rfl
 ·exact ⟨b2.1, b2.2.1, b2.2.2.1, b2.1⟩
 ·exact b2
/-- A new block for what is in scope. -/
theorem WS.newS {u : List LFn} {U L A : Nat} {V : Nat → Nat → Prop} {σ σ' : Store} (W : WS u U L A U V σ) (lt : U < σ.next ∧ L < σ.next ∧ A < σ.next) (h0 : σ.next ≤ σ'.next) (h : ∀ y, y < σ.next → σ'.blk y = σ.blk y) : WS u U L A σ.next V σ' := by
 obtain ⟨ya, a1, a2⟩ := W.hA
 refine ⟨(h U lt.1).trans W.hU, (h L lt.2.1).trans W.hL, ya, (h A lt.2.2).trans a1, fun f n hv hn => ?_⟩
 obtain ⟨b1, b2, b3⟩ := a2 f n hv hn
 refine ⟨Nat.lt_of_lt_of_le b1 h0, ?_, (h _ b1).trans b3⟩
 simp only [List.mem_cons, List.not_mem_nil, or_false, not_or] at b2 ⊢
 exact ⟨b2.1, b2.2.1, b2.2.2.1, by omega⟩
theorem wr_box {σ : Store} {y : Nat} {v w : AV} (h : σ.blk y = some (.cells [w])) : wr (.hptr y 0) [v] σ = some (σ.upd y (some (.cells [v]))) := by
 simp [wr, h, setL]
section
variable {D : Ctx}
theorem params_loop (S : Nat) (σ0 : Store) (hS0 : S = σ0.next) (N : Nat) (hN : N ≤ 1048576) (k : Cur 0) : ∀ (c i : Nat) (σ : Store), c = N - i → i ≤ N → S < σ.next → Sc σ S (fun v => if 0 ≤ v ∧ v < (i : Int) then 1 else 0) →
  ∃ σ', lpFix 1 (lp_q13_1 D (.int .i64 N) σ0 k) (.int .i64 i) σ = k σ' ∧ Sc σ' S (fun v => if 0 ≤ v ∧ v < (N : Int) then 1 else 0) ∧ Fr [S] σ σ' := by
 intro c
 induction c with
 | zero =>
  intro i σ hc hi hlt h
  have : i = N := by omega
  subst this
  refine ⟨σ, ?_, h, Fr.refl _ _⟩
  rw [lpFix_eq (lp_q13_1_mono _ _ _ _)]
  unfold lp_q13_1
  simp only [bin_lss, Obs, aCase_bool]
  rw [if_neg (by rw [Dte]; omega)]
 | succ c ih =>
  intro i σ hc hi hlt h
  rw [lpFix_eq (lp_q13_1_mono _ _ _ _)]
  generalize hR : lpFix 1 (lp_q13_1 D (.int .i64 N) σ0 k) = R at ih ⊢
  have e1 : ((i : Int) + 1) = ((i + 1 : Nat) : Int) := by omega
  have hl := h.look i
  rw [if_neg (by omega)] at hl
  obtain ⟨σ1, m1, m2, m3, m4⟩ := h.set i 1
  unfold lp_q13_1
  simp only [bin_lss, Obs, aCase_bool, ← hS0, hl, bin_add (a := (0 : Int)) (b := 1) (by omega) (by omega), show (0 : Int) + 1 = 1 from rfl, m1, bin_add (a := (i : Int)) (b := 1) (by omega) (by omega), e1]
  rw [if_pos (by rw [Dte]; omega)]
  have hfun : (fun w : Int => if w = (i : Int) then (1 : Int) else if 0 ≤ w ∧ w < (i : Int) then 1 else 0) = fun v : Int => if 0 ≤ v ∧ v < ((i + 1 : Nat) : Int) then (1 : Int) else 0 := by
   funext w
   by_cases e : w = i
   ·rw [if_pos e, if_pos (by omega)]
   ·rw [if_neg e]
    by_cases h : 0 ≤ w ∧ w < (i : Int)
    ·rw [if_pos h, if_pos (by omega)]
    ·rw [if_neg h, if_neg (by omega)]
  rw [hfun] at m2
  obtain ⟨σ', r1, r2, r3⟩ := ih (i + 1) σ1 (by omega) (by omega) (by omega) m2
  exact ⟨σ', r1, r2, m3.trans r3⟩
theorem walkFn_ (H : Door D) {u : List LFn} {x : LFn} {f U L A : Nat} (hf : u[f]? = some x) (hx : x.Small) (T : TreeN x.nodes) (K : ∀ p ∈ x.nodes, KidsOk p) (hp : 0 ≤ x.params ∧ x.params ≤ 1048576) (nd : [U, L, A].Nodup) {V : Nat → Nat → Prop} {σ : Store} (W : WS u U L A U V σ) (lt : U < σ.next ∧ L < σ.next ∧ A < σ.next) :
  ∃ σ', D.call 17 [.agg (encFn x), visF x f U L A] σ = some (.tuple [], σ') ∧ WS u U L A U (addS V f x.nodes (x.nodes.length - 1)) σ' ∧ σ.next ≤ σ'.next := by
 have hpos := T.pos
 have hnl := hx.nodes
 obtain ⟨N, hN⟩ : ∃ N : Nat, x.params = N := ⟨x.params.toNat, by omega⟩
 rw [H.f17]
 unfold sh_q13
 simp only [rd1_p, cells_agg, fn_at2, hN, Obs, jn_eq]
 have s0 : Sc (σ.add (.map KI fun _ => none)) σ.next (fun v => if 0 ≤ v ∧ v < ((0 : Nat) : Int) then 1 else 0) := by
  refine ⟨fun _ => none, [], ?_, fun v => .inl ⟨rfl, ?_⟩, fun v h => absurd rfl h⟩
  ·rw [add_blk, mK_none]
  ·show (if 0 ≤ v ∧ v < ((0 : Nat) : Int) then (1 : Int) else 0) = 0
   rw [if_neg (by omega)]
 obtain ⟨σ1, r1, r2, r3⟩ := params_loop (D := D) σ.next σ rfl N (by omega) (fun s_2 => (wr (.hptr s_2.next 0) [(.func 35 [] [(.pptr (AV.cells (.agg (encFn x))) 0), (.pptr (AV.cells (visF x f U L A)) 0), (.pptr [(.hmap σ.next)] 0), (.hptr s_2.next 0)])] (s_2.add (.cells [.nilfunc]))).bind fun s_5 =>
  (rd1 D.G (.hptr s_2.next 0) s_5).bind fun t_6 =>
  (rd1 D.G (.pptr (AV.cells (.agg (encFn x))) 6) s_5).bind fun t_7 =>
  (lenV .sl t_7 s_5).bind fun t_8 =>
  (bin .sub .num t_8 (.int .i64 1)).bind fun t_9 =>
  (callD D t_6 [t_9, (.bool false)] s_5).bind fun t_10 =>
  some (.tuple [], t_10.2)) N 0 (σ.add (.map KI fun _ => none)) (by omega) (by omega) (by show σ.next < σ.next + 1; omega) s0
 have hn1 : σ.next + 1 ≤ σ1.next := r3.1
 have hb : (σ1.add (.cells [.nilfunc])).blk σ1.next = some (.cells [.nilfunc]) := add_blk
 have hold : ∀ y, y < σ.next → σ1.blk y = σ.blk y := fun y hy => (r3.2 y (by show y < σ.next + 1; omega) (by simp; omega)).trans (add_old (by omega))
 generalize hτ : (σ1.add (.cells [.nilfunc])).upd σ1.next (some (.cells [wF x f U L A σ.next σ1.next])) = τ
 have hτn : τ.next = σ1.next + 1 := by rw [← hτ]; rfl
 have hτo : ∀ y, y < σ1.next → τ.blk y = σ1.blk y := fun y hy => by rw [← hτ, upd_ne (by omega), add_old (by omega)]
 have hτb : τ.blk σ1.next = some (.cells [wF x f U L A σ.next σ1.next]) := by rw [← hτ, upd_blk]
 have hI : In u x f U L A σ.next σ1.next V (cnt x (x.nodes.length - 1)) τ := by
  refine ⟨W.newS lt (by omega) fun y hy => (hτo y (by omega)).trans (hold y hy), ?_, hτb, by omega⟩
  have e : cnt x (x.nodes.length - 1) = fun v => if 0 ≤ v ∧ v < (N : Int) then 1 else 0 := by
   funext v; rw [cnt_root T, base, hN]
  rw [e]
  exact r2.maps (hτo σ.next (by omega))
 have nd4 : [U, L, A, σ.next].Nodup := by
  simp only [List.nodup_cons, List.mem_cons, List.not_mem_nil, or_false, not_or] at nd ⊢
  refine ⟨⟨nd.1.1, nd.1.2, by omega⟩, ⟨nd.2.1, by omega⟩, by omega, by simp, List.nodup_nil⟩
 have hB : σ1.next ∉ [U, L, A, σ.next] := by
  simp only [List.mem_cons, List.not_mem_nil, or_false, not_or]
  omega
 obtain ⟨σ2, w1, w2, w3⟩ := walk_ H hf hx T hB nd4 K (x.nodes.length - 1) (by omega) V τ hI
 rw [inl_root T] at w1
 have e9 : (x.nodes.length : Int) - 1 = (x.nodes.length - 1 : Nat) := by omega
 refine ⟨σ2, ?_, w2.W.congr' (fun _ _ _ _ _ _ => Iff.rfl) (.inl rfl), by have := w3.1; omega⟩
 refine r1.trans ?_
 have hw : wr (.hptr σ1.next 0) [(.func 35 [] [(.pptr (AV.cells (.agg (encFn x))) 0), (.pptr (AV.cells (visF x f U L A)) 0), (.pptr [(.hmap σ.next)] 0), (.hptr σ1.next 0)])] (σ1.add (.cells [.nilfunc])) = some τ := by
  rw [← hτ]; exact wr_box hb
 rw [hw]
 simp only [Obs, rd1_box hτb, rd1_p, cells_agg, fn_at6, len_encNodes, bin_sub (a := (x.nodes.length : Int)) (b := 1) (by omega) (by omega), e9, w1]
theorem sub_lt {l : List LNode} (ha : Ahead l) {n m : Nat} (h : Sub l n m) (hn : n < l.length) : m < l.length := by
 induction h with
 | refl n => exact hn
 | @kid n m p c h1 h2 h3 ih =>
  have := ha n p h1 c h2
  exact ih (by omega)
theorem isweep (H : Door D) (u : List LFn) (hu : SmallUnit u) (hT : ∀ x ∈ u, TreeN x.nodes) (K : ∀ x ∈ u, ∀ p ∈ x.nodes, KidsOk p) (hp : ∀ x ∈ u, 0 ≤ x.params ∧ x.params ≤ 1048576) (s : Store) (k : Cur 1) : ∀ (c i : Nat) (σ : Store), c = u.length - i → i ≤ u.length →
  WS u s.next (s.next + 1) (s.next + 2) s.next (fun a _ => a < i) σ → s.next + 3 ≤ σ.next →
  ∃ σ', lpFix 2 (lp_q4_15 D (.int .i64 u.length) (encFns u) s k) (.int .i64 i) W0 σ = k W0 σ' ∧ WS u s.next (s.next + 1) (s.next + 2) s.next (fun a _ => a < u.length) σ' ∧ s.next + 3 ≤ σ'.next := by
 have hul := hu.len
 intro c
 induction c with
 | zero =>
  intro i σ hc hi W hn
  have : i = u.length := by omega
  subst this
  refine ⟨σ, ?_, W, hn⟩
  rw [lpFix_eq (lp_q4_15_mono _ _ _ _ _)]
  unfold lp_q4_15
  simp only [bin_lss, Obs, aCase_bool]
  rw [if_neg (by rw [Dte]; omega)]
  rfl
 | succ c ih =>
  intro i σ hc hi W hn
  have hil : i < u.length := by omega
  have hse : u[i]? = some u[i] := Lge hil
  have hm := Lmg hse
  have T := hT _ hm
  have hpos := T.pos
  rw [lpFix_eq (lp_q4_15_mono _ _ _ _ _)]
  generalize hR : lpFix 2 (lp_q4_15 D (.int .i64 u.length) (encFns u) s k) = R at ih ⊢
  have e1 : ((i : Int) + 1) = ((i + 1 : Nat) : Int) := by omega
  have has : asplit 7 (.agg (encFn u[i])) = some (encFn u[i]) := rfl
  have one_i : ∀ k : Int, one (.int .i64 k) = some (.int .i64 k) := fun _ => rfl
  have nd : [s.next, s.next + 1, s.next + 2].Nodup := by
   simp only [List.nodup_cons, List.mem_cons, List.not_mem_nil, or_false, not_or]
   refine ⟨⟨by omega, by omega⟩, by omega, by simp, List.nodup_nil⟩
  obtain ⟨σ1, r1, r2, r3⟩ := walkFn_ H hse (hu.part _ hm) T (K _ hm) (hp _ hm) nd W (by omega)
  have r1' : D.call 17 [(.agg (encFn u[i])), (.func 18 [] [(.pptr (encFn u[i]) 0), (.pptr [(.hmap s.next)] 0), (.pptr [.int .i64 i] 0), (.pptr [(.hmap (s.add (.map (.agg [(.int .i64), (.int .i64)]) fun _ => none)).next)] 0), (.pptr [(.hmap ((s.add (.map (.agg [(.int .i64), (.int .i64)]) fun _ => none)).add (.map (.agg [(.int .i64), (.int .i64)]) fun _ => none)).next)] 0)])] σ = some (.tuple [], σ1) := r1
  unfold lp_q4_15
  simp only [bin_lss, Obs, aCase_bool, idx_encFns hse, rdN_Fn, has, one_i, r1', bin_add (a := (i : Int)) (b := 1) (by omega) (by omega), e1, cellsW0]
  rw [if_pos (by rw [Dte]; omega)]
  refine ih (i + 1) σ1 (by omega) (by omega) (r2.congr' (fun a b x p hx hp => ?_) (.inl rfl)) (by omega)
  unfold addS
  constructor
  ·rintro (h | ⟨h1, h2⟩) <;> omega
  ·intro h
   by_cases e : a = i
   ·right
    subst e
    refine ⟨rfl, ?_⟩
    rw [hse] at hx; cases hx
    exact sub_root T _ b rfl (List.getElem?_eq_some_iff.1 hp).1
   ·left; omega
end
end Go.Asm.UnitF
/- impl's test of a unit: the code 6. -/
namespace Go.Asm.UnitF
open Go Go.Asm
structure RefsOk (p : LNode) : Prop where
 one : p.kind = 26 ∨ p.kind = 27 ∨ p.kind = 36 → p.refs.length = 1
 non : isDecl p.kind = false → ¬ (p.kind = 26 ∨ p.kind = 27 ∨ p.kind = 36) → p.refs = []
theorem bare_refs {p : LNode} {a b c d : Bool} {n : Int} (h : bare p a b c d n = true) : (p.refs.length : Int) = n := by
 unfold bare at h
 rw [Bae, Dte] at h
 exact h.2
theorem refsOk_of {l : List LNode} {p : LNode} {n : Int} (h : shape3 l p n = true) : RefsOk p := by
 simp only [shape3, Bae, Dte] at h
 have hs := h.2
 by_cases hst : isStat p.kind = true
 ·rw [if_pos hst] at hs
  simp only [Bae] at hs
  have hs := hs.2
  have hk : 1 ≤ p.kind ∧ p.kind ≤ 14 := by simpa [isStat] using hst
  refine ⟨fun e => by omega, fun e _ => ?_⟩
  simp only [isDecl, Bool.or_eq_false_iff, Dfn] at e
  have key : (p.refs.length : Int) = 0 := by
   unfold stmt3 at hs
   by_cases c0 : p.kind = 1
   ·rw [if_pos c0] at hs
    exact bare_refs (Bae _ _ ▸ hs).2
   rw [if_neg c0] at hs
   by_cases c1 : p.kind = 2
   ·omega
   rw [if_neg c1] at hs
   by_cases c2 : p.kind = 3
   ·rw [if_pos c2] at hs
    simp only [Bae] at hs; exact bare_refs hs.1.2
   rw [if_neg c2] at hs
   by_cases c3 : p.kind = 4 ∨ p.kind = 14
   ·rw [if_pos c3] at hs
    exact bare_refs (Bae _ _ ▸ hs).2
   rw [if_neg c3] at hs
   by_cases c4 : p.kind = 5
   ·rw [if_pos c4] at hs
    exact bare_refs (Bae _ _ ▸ hs).2
   rw [if_neg c4] at hs
   by_cases c5 : p.kind = 6
   ·rw [if_pos c5] at hs
    exact bare_refs (Bae _ _ ▸ hs).2
   rw [if_neg c5] at hs
   by_cases c6 : p.kind = 7
   ·omega
   rw [if_neg c6] at hs
   by_cases c7 : p.kind = 8
   ·omega
   rw [if_neg c7] at hs
   by_cases c8 : p.kind = 9 ∨ p.kind = 10
   ·rw [if_pos c8] at hs
    exact bare_refs (Bae _ _ ▸ hs).2
   rw [if_neg c8] at hs
   by_cases c9 : p.kind = 11
   ·rw [if_pos c9] at hs
    exact bare_refs (Bae _ _ ▸ hs).2
   rw [if_neg c9] at hs
   by_cases c10 : p.kind = 12
   ·omega
   rw [if_neg c10] at hs
   by_cases c11 : p.kind = 13
   ·rw [if_pos c11] at hs
    exact bare_refs (Bae _ _ ▸ hs).2
   rw [if_neg c11] at hs
   cases hs
  exact List.length_eq_zero_iff.1 (by omega)
 ·rw [if_neg hst] at hs
  simp only [Bae] at hs
  have hs := hs.2
  refine ⟨fun e => ?_, fun _ e2 => ?_⟩
  ·unfold expr3 at hs
   rw [if_neg (by omega), if_neg (by omega), if_neg (by omega), if_neg (by omega), if_pos (by omega)] at hs
   have := bare_refs (Bae _ _ ▸ hs).2
   omega
  ·have key : (p.refs.length : Int) = 0 := by
    unfold expr3 at hs
    by_cases c0 : p.kind = 20 ∨ p.kind = 21 ∨ p.kind = 22 ∨ p.kind = 37
    ·rw [if_pos c0] at hs
     exact bare_refs (Bae _ _ ▸ hs).2
    rw [if_neg c0] at hs
    by_cases c1 : p.kind = 23
    ·rw [if_pos c1] at hs
     exact bare_refs (Bae _ _ ▸ hs).2
    rw [if_neg c1] at hs
    by_cases c2 : p.kind = 24
    ·rw [if_pos c2] at hs
     exact bare_refs (Bae _ _ ▸ hs).2
    rw [if_neg c2] at hs
    by_cases c3 : p.kind = 25
    ·rw [if_pos c3] at hs
     exact bare_refs (Bae _ _ ▸ hs).2
    rw [if_neg c3] at hs
    by_cases c4 : p.kind = 26 ∨ p.kind = 27 ∨ p.kind = 36
    ·exact absurd c4 e2
    rw [if_neg c4] at hs
    by_cases c5 : p.kind = 28
    ·rw [if_pos c5] at hs
     exact bare_refs (Bae _ _ ▸ hs).2
    rw [if_neg c5] at hs
    by_cases c6 : p.kind = 29 ∨ p.kind = 30 ∨ p.kind = 33
    ·rw [if_pos c6] at hs
     exact bare_refs (Bae _ _ ▸ hs).2
    rw [if_neg c6] at hs
    by_cases c7 : p.kind = 31
    ·rw [if_pos c7] at hs
     exact bare_refs (Bae _ _ ▸ hs).2
    rw [if_neg c7] at hs
    by_cases c8 : p.kind = 32
    ·rw [if_pos c8] at hs
     exact bare_refs (Bae _ _ ▸ hs).2
    rw [if_neg c8] at hs
    by_cases c9 : p.kind = 34
    ·rw [if_pos c9] at hs
     exact bare_refs (Bae _ _ ▸ hs).2
    rw [if_neg c9] at hs
    by_cases c10 : p.kind = 35
    ·rw [if_pos c10] at hs
     exact bare_refs (Bae _ _ ▸ hs).2
    rw [if_neg c10] at hs
    by_cases c11 : p.kind = 38
    ·rw [if_pos c11] at hs
     exact bare_refs (Bae _ _ ▸ hs).2
    rw [if_neg c11] at hs
    cases hs
   exact List.length_eq_zero_iff.1 (by omega)
def mostOf (N : Nat) (x : LFn) (p : LNode) : Nat := if p.kind = 36 then N else if p.kind = 27 then x.ups.length else x.vars.length
/-- What impl does with the names of a node. -/
def refsI (N : Nat) (x : LFn) (p : LNode) : List Int → List Bool → Option (List Bool)
 | [], seen => some seen
 | v :: vs, seen => if v < 0 ∨ (mostOf N x p : Int) ≤ v then none
  else if isDecl p.kind = true then (if seen.getD v.toNat false = true then none else refsI N x p vs (seen.set v.toNat true)) else refsI N x p vs seen
theorem refsI_decl {N : Nat} {x : LFn} {n : Nat} {p : LNode} (hd : isDecl p.kind = true) : ∀ vs seen, refsI N x p vs seen = if (refsN x n p vs seen).1 = true then some (refsN x n p vs seen).2 else none := by
 have hk : p.kind ≠ 26 ∧ p.kind ≠ 27 ∧ p.kind ≠ 36 := by
  simp only [isDecl, Boe, Dte] at hd; omega
 have hm : mostOf N x p = x.vars.length := by rw [mostOf, if_neg hk.2.2, if_neg hk.2.1]
 intro vs
 induction vs with
 | nil => intro seen; rfl
 | cons v vs ih =>
  intro seen
  rw [refsI, refsN, hm, if_pos hd]
  by_cases h1 : v < 0 ∨ (x.vars.length : Int) ≤ v
  ·rw [if_pos h1, if_pos h1]; rfl
  ·rw [if_neg h1, if_neg h1, if_neg hk.1]
   by_cases h2 : seen.getD v.toNat false = true
   ·rw [if_pos h2, if_pos h2]; rfl
   ·rw [if_neg h2, if_neg h2, ih]
theorem refsI_one {N : Nat} {x : LFn} {p : LNode} (hd : isDecl p.kind = false) (v : Int) (seen : List Bool) : refsI N x p [v] seen = if v < 0 ∨ (mostOf N x p : Int) ≤ v then none else some seen := by
 have : ¬ isDecl p.kind = true := by rw [hd]; simp
 simp only [refsI, if_neg this]
/-- impl's test of a node's names and the specification's. -/
theorem refs_same {u : List LFn} {f n : Nat} {x : LFn} {p : LNode} (hf : u[f]? = some x) (hp : x.nodes[n]? = some p) (T : TreeN x.nodes) (R : RefsOk p) (seen : List Bool) :
  (refsI u.length x p p.refs seen = none → (refs3 u.length x n p seen).1 = false) ∧
  (∀ s', refsI u.length x p p.refs seen = some s' → ((refs3 u.length x n p seen).1 = true ↔ ¬ isUnseen u f n) ∧ (¬ isUnseen u f n → s' = (refs3 u.length x n p seen).2)) := by
 have hn := (List.getElem?_eq_some_iff.1 hp).1
 have iU : isUnseen u f n ↔ p.kind = 26 ∧ cnt x n (p.refs.getD 0 0) < 1 := by
  constructor
  ·rintro ⟨y, q, h1, h2, h3⟩
   rw [hf] at h1; cases h1
   rw [hp] at h2; cases h2
   exact h3
  ·intro h; exact ⟨x, p, hf, hp, h⟩
 by_cases h26 : p.kind = 26
 ·obtain ⟨v, hv⟩ := List.length_eq_one_iff.1 (R.one (.inl h26))
  have hd : isDecl p.kind = false := by simp [isDecl, h26]
  have hm : mostOf u.length x p = x.vars.length := by rw [mostOf, if_neg (by omega), if_neg (by omega)]
  have e0 : p.refs.getD 0 0 = v := by rw [hv]; rfl
  rw [e0] at iU
  rw [refs3, if_neg (by omega), if_neg (by omega), hv, refsI_one hd, refsN, hm]
  by_cases h1 : v < 0 ∨ (x.vars.length : Int) ≤ v
  ·rw [if_pos h1, if_pos h1]
   exact ⟨fun _ => rfl, fun s' h => by cases h⟩
  ·rw [if_neg h1, if_neg h1, if_pos h26]
   have hvis := visible_iff T (v := v) (by omega) hn
   refine ⟨fun h => (by cases h), fun s' h => ?_⟩
   cases h
   refine ⟨?_, fun _ => rfl⟩
   rw [iU]
   show visible3 x n v = true ↔ _
   rw [hvis]
   constructor
   ·rintro h ⟨_, h2⟩; omega
   ·intro h
    have := cnt_nonneg x n v
    by_cases h2 : cnt x n v < 1
    ·exact absurd ⟨h26, h2⟩ h
    ·omega
 have nU : ¬ isUnseen u f n := fun h => h26 (iU.1 h).1
 by_cases h27 : p.kind = 27
 ·obtain ⟨v, hv⟩ := List.length_eq_one_iff.1 (R.one (.inr (.inl h27)))
  have hd : isDecl p.kind = false := by simp [isDecl, h27]
  have hm : mostOf u.length x p = x.ups.length := by rw [mostOf, if_neg (by omega), if_pos h27]
  have e0 : p.refs.getD 0 0 = v := by rw [hv]; rfl
  rw [refs3, if_pos h27, e0, hv, refsI_one hd, hm]
  by_cases h1 : v < 0 ∨ (x.ups.length : Int) ≤ v
  ·rw [if_pos h1]
   refine ⟨fun _ => ?_, fun s' h => by cases h⟩
   rw [Bff, Dfn, Dfn]
   omega
  ·rw [if_neg h1]
   refine ⟨fun h => (by cases h), fun s' h => ?_⟩
   cases h
   refine ⟨⟨fun _ => nU, fun _ => ?_⟩, fun _ => rfl⟩
   rw [Bae, Dte, Dte]
   omega
 by_cases h36 : p.kind = 36
 ·obtain ⟨v, hv⟩ := List.length_eq_one_iff.1 (R.one (.inr (.inr h36)))
  have hd : isDecl p.kind = false := by simp [isDecl, h36]
  have hm : mostOf u.length x p = u.length := by rw [mostOf, if_pos h36]
  have e0 : p.refs.getD 0 0 = v := by rw [hv]; rfl
  rw [refs3, if_neg h27, if_pos h36, e0, hv, refsI_one hd, hm]
  by_cases h1 : v < 0 ∨ (u.length : Int) ≤ v
  ·rw [if_pos h1]
   refine ⟨fun _ => ?_, fun s' h => by cases h⟩
   rw [Bff, Dfn, Dfn]
   omega
  ·rw [if_neg h1]
   refine ⟨fun h => (by cases h), fun s' h => ?_⟩
   cases h
   refine ⟨⟨fun _ => nU, fun _ => ?_⟩, fun _ => rfl⟩
   rw [Bae, Dte, Dte]
   omega
 rw [refs3, if_neg h27, if_neg h36]
 cases hd : isDecl p.kind with
 | false =>
  have hr := R.non hd (by omega)
  rw [hr]
  refine ⟨fun h => (by cases h), fun s' h => ?_⟩
  cases h
  exact ⟨⟨fun _ => nU, fun _ => rfl⟩, fun _ => rfl⟩
 | true =>
  rw [refsI_decl hd (n := n)]
  by_cases h1 : (refsN x n p p.refs seen).1 = true
  ·rw [if_pos h1]
   refine ⟨fun h => (by cases h), fun s' h => ?_⟩
   cases h
   exact ⟨⟨fun _ => nU, fun _ => h1⟩, fun _ => rfl⟩
  ·rw [if_neg h1]
   exact ⟨fun _ => by simpa using h1, fun s' h => by cases h⟩
end Go.Asm.UnitF
/- impl's test of a unit: the code 6, the walk. -/
namespace Go.Asm.UnitF
open Go Go.Asm
noncomputable def hadM (seen : List Bool) : Int → Option AV := fun v => tt (0 ≤ v ∧ seen.getD v.toNat false = true)
theorem tt_look {p : Prop} {b : Bool} (h : b = true ↔ p) : (tt p).getD (.bool false) = .bool b := by
 cases b with
 | true => rw [tt_pos (h.1 rfl)]; rfl
 | false => rw [tt_neg fun hp => Bool.false_ne_true (h.2 hp)]; rfl
theorem hadM_set {seen : List Bool} {v : Int} (h0 : 0 ≤ v) (h1 : v < seen.length) : updI (hadM seen) v (.bool true) = hadM (seen.set v.toNat true) := by
 funext w
 unfold updI hadM
 by_cases e : w = v
 ·subst e
  rw [if_pos rfl, tt_pos]
  refine ⟨h0, ?_⟩
  have : w.toNat < seen.length := by omega
  simp [this]
 ·rw [if_neg e]
  refine tt_congr ?_
  by_cases hw : 0 ≤ w
  ·have : v.toNat ≠ w.toNat := by omega
   simp [this]
  ·constructor <;> rintro ⟨h, _⟩ <;> exact absurd h hw
theorem look_had {σ : Store} {hb : Nat} {seen : List Bool} (h : σ.blk hb = some (.map KI (mK (hadM seen)))) {v : Int} (h0 : 0 ≤ v) : lookup1 KI (.bool false) (.hmap hb) (.int .i64 v) σ = some (.bool (seen.getD v.toNat false)) := by
 rw [look1_K h]
 congr 1
 exact tt_look ⟨fun h => ⟨h0, h⟩, fun h => h.2⟩
theorem scan_none' {α : Type} {g : Nat → Option α} {n : Nat} (h : ∀ i, i < n → g i = none) : scan g n 0 = none := by
 cases hs : scan g n 0 with
 | none => rfl
 | some v =>
  obtain ⟨j, _, h2, h3, _⟩ := scan_some hs
  rw [h j (by omega)] at h3; cases h3
section
variable {D : Ctx}
theorem declI (H : Door D) (k : Int) (σ : Store) : callV D 19 [.int .i64 k] σ = some (.bool (isDecl k)) := by
 refine callV_eq (σ' := Store.empty) (by simp [depth]) ?_ rfl
 rw [H.f19]
 unfold sh_q14 isDecl
 simp only [bin_eql, Obs, aCase_bool, jn_eq]
 by_cases h2 : k = 2
 ·simp [h2]
 by_cases h7 : k = 7
 ·simp [h7]
 by_cases h8 : k = 8
 ·simp [h8]
 by_cases h12 : k = 12
 ·simp [h12]
 simp [h2, h7, h8, h12]
theorem iref_loop (H : Door D) (u : List LFn) (hul : u.length ≤ 1048576) {x : LFn} (hx : x.Small) {p : LNode} (hps : p.Small) (f n : Nat) (σ0 s : Store) (hs : σ0.next ≤ s.next) (k : Cur 1) : ∀ (c i : Nat) (σ : Store) (seen : List Bool), c = p.refs.length - i → i ≤ p.refs.length → seen.length = x.vars.length → σ.blk s.next = some (.map KI (mK (hadM seen))) → Fr [] σ0 σ →
  (refsI u.length x p (p.refs.drop i) seen = none → ∃ σ', lpFix 2 (lp_q4_17 D (.int .i64 p.refs.length) (encI p.refs) (encFn x) (encNode p) (.int .i64 f) (.int .i64 n) s (encUnit u) k) (.int .i64 i) W0 σ = some (encFault 6 f n, σ')) ∧
  (∀ s', refsI u.length x p (p.refs.drop i) seen = some s' → ∃ σ', lpFix 2 (lp_q4_17 D (.int .i64 p.refs.length) (encI p.refs) (encFn x) (encNode p) (.int .i64 f) (.int .i64 n) s (encUnit u) k) (.int .i64 i) W0 σ = k W0 σ' ∧ s'.length = x.vars.length ∧ σ'.blk s.next = some (.map KI (mK (hadM s'))) ∧ Fr [] σ0 σ') := by
 have hrl := hps.refs
 have hul2 := hx.ups
 intro c
 induction c with
 | zero =>
  intro i σ seen hc hi hl hb fr
  have : i = p.refs.length := by omega
  subst this
  rw [List.drop_eq_nil_of_le (Nat.le_refl _)]
  have e : lpFix 2 (lp_q4_17 D (.int .i64 p.refs.length) (encI p.refs) (encFn x) (encNode p) (.int .i64 f) (.int .i64 n) s (encUnit u) k) (.int .i64 p.refs.length) W0 σ = k W0 σ := by
   rw [lpFix_eq (lp_q4_17_mono _ _ _ _ _ _ _ _ _ _)]
   unfold lp_q4_17
   simp only [bin_lss, Obs, aCase_bool]
   rw [if_neg (by rw [Dte]; omega)]
   rfl
  exact ⟨fun h => (by cases h), fun s' h => by cases h; exact ⟨σ, e, hl, hb, fr⟩⟩
 | succ c ih =>
  intro i σ seen hc hi hl hb fr
  have hil : i < p.refs.length := by omega
  have hse : p.refs[i]? = some p.refs[i] := Lge hil
  have rU : ∀ σ, rd1 D.G (.pptr (AV.cells (encUnit u)) 0) σ = some (encFns u) := fun _ => rfl
  have one_i : ∀ k : Int, one (.int .i64 k) = some (.int .i64 k) := fun _ => rfl
  rw [lpFix_eq (lp_q4_17_mono _ _ _ _ _ _ _ _ _ _), List.drop_eq_getElem_cons hil]
  generalize hR : lpFix 2 (lp_q4_17 D (.int .i64 p.refs.length) (encI p.refs) (encFn x) (encNode p) (.int .i64 f) (.int .i64 n) s (encUnit u) k) = R at ih ⊢
  generalize p.refs[i] = v at hse
  have e1 : ((i : Int) + 1) = ((i + 1 : Nat) : Int) := by omega
  have hif : ((i : Int) < (p.refs.length : Int)) := by omega
  -- one turn of the loop
  have step : lp_q4_17 D (.int .i64 p.refs.length) (encI p.refs) (encFn x) (encNode p) (.int .i64 f) (.int .i64 n) s (encUnit u) k R (.int .i64 i) W0 σ =
    if v < 0 ∨ (mostOf u.length x p : Int) ≤ v then some (encFault 6 f n, σ)
    else if isDecl p.kind = true then (if seen.getD v.toNat false = true then some (encFault 6 f n, σ) else (mapSet KI (.hmap s.next) (.int .i64 v) (.bool true) σ).bind fun s_271 => R (.int .i64 (i + 1 : Nat)) W0 s_271)
    else R (.int .i64 (i + 1 : Nat)) W0 σ := by
   have hlk : ¬ v < 0 → lookup1 (.int .i64) (.bool false) (.hmap s.next) (.int .i64 v) σ = some (.bool (seen.getD v.toNat false)) := fun h => look_had hb (v := v) (by omega)
   unfold lp_q4_17 mostOf
   simp only [bin_lss, bin_geq, bin_eql, Obs, aCase_bool, jn_eq, idx_encI hse, rd1_p, Lgz, decide_eq_true hif, if_true, fn_at4, fn_at5, len_encS, len_encUps, node_at0, rU, len_encFns, declI H, one_i, bin_add (a := (i : Int)) (b := 1) (by omega) (by omega), e1, cellsW0]
   by_cases h27 : p.kind = 27
   ·have h36 : ¬ p.kind = 36 := by omega
    simp only [decide_eq_true h27, decide_eq_false h36, if_neg h36, if_pos h27, Bft, if_false, if_true]
    by_cases h0 : v < 0
    ·simp only [decide_eq_true h0, if_true, if_pos (Or.inl h0 : v < 0 ∨ (x.ups.length : Int) ≤ v)]
     rfl
    by_cases h1 : (x.ups.length : Int) ≤ v
    ·simp only [decide_eq_false h0, decide_eq_true h1, if_true, Bft, if_false, if_pos (Or.inr h1 : v < 0 ∨ (x.ups.length : Int) ≤ v)]
     rfl
    simp only [decide_eq_false h0, decide_eq_false h1, Bft, if_false, if_neg (fun h => Or.elim h h0 h1 : ¬ (v < 0 ∨ (x.ups.length : Int) ≤ v)), hlk h0, Obs, aCase_bool]
    rfl
   by_cases h36 : p.kind = 36
   ·simp only [decide_eq_false h27, decide_eq_true h36, if_pos h36, Bft, if_false, if_true]
    by_cases h0 : v < 0
    ·simp only [decide_eq_true h0, if_true, if_pos (Or.inl h0 : v < 0 ∨ (u.length : Int) ≤ v)]
     rfl
    by_cases h1 : (u.length : Int) ≤ v
    ·simp only [decide_eq_false h0, decide_eq_true h1, if_true, Bft, if_false, if_pos (Or.inr h1 : v < 0 ∨ (u.length : Int) ≤ v)]
     rfl
    simp only [decide_eq_false h0, decide_eq_false h1, Bft, if_false, if_neg (fun h => Or.elim h h0 h1 : ¬ (v < 0 ∨ (u.length : Int) ≤ v)), hlk h0, Obs, aCase_bool]
    rfl
   simp only [decide_eq_false h27, decide_eq_false h36, if_neg h36, if_neg h27, Bft, if_false]
   by_cases h0 : v < 0
   ·simp only [decide_eq_true h0, if_true, if_pos (Or.inl h0 : v < 0 ∨ (x.vars.length : Int) ≤ v)]
    rfl
   by_cases h1 : (x.vars.length : Int) ≤ v
   ·simp only [decide_eq_false h0, decide_eq_true h1, if_true, Bft, if_false, if_pos (Or.inr h1 : v < 0 ∨ (x.vars.length : Int) ≤ v)]
    rfl
   simp only [decide_eq_false h0, decide_eq_false h1, Bft, if_false, if_neg (fun h => Or.elim h h0 h1 : ¬ (v < 0 ∨ (x.vars.length : Int) ≤ v)), hlk h0, Obs, aCase_bool]
   rfl
  rw [step, refsI]
  by_cases h1 : v < 0 ∨ (mostOf u.length x p : Int) ≤ v
  ·rw [if_pos h1, if_pos h1]
   exact ⟨fun _ => ⟨σ, rfl⟩, fun s' h => (by cases h)⟩
  rw [if_neg h1, if_neg h1]
  by_cases hd : isDecl p.kind = true
  ·rw [if_pos hd, if_pos hd]
   by_cases h2 : seen.getD v.toNat false = true
   ·rw [if_pos h2, if_pos h2]
    exact ⟨fun _ => ⟨σ, rfl⟩, fun s' h => (by cases h)⟩
   rw [if_neg h2, if_neg h2, set_K hb]
   have hm : mostOf u.length x p = x.vars.length := by
    simp only [isDecl, Boe, Dte] at hd
    rw [mostOf, if_neg (by omega), if_neg (by omega)]
   rw [hm] at h1
   rw [hadM_set (by omega) (by omega), Obs]
   exact ih (i + 1) _ _ (by omega) (by omega) (by simp [hl]) upd_blk ⟨fr.1, fun y h3 h4 => (upd_ne (by omega)).trans (fr.2 y h3 h4)⟩
  ·rw [if_neg hd, if_neg hd]
   exact ih (i + 1) σ seen (by omega) (by omega) hl hb fr
theorem look_unseen {u : List LFn} {U L A S : Nat} {V : Nat → Nat → Prop} {σ : Store} (W : WS u U L A S V σ) {f n : Nat} (hv : V f n) [Decidable (isUnseen u f n)] : lookup1 KP (.bool false) (.hmap U) (.agg [.int .i64 f, .int .i64 n]) σ = some (.bool (decide (isUnseen u f n))) := by
 rw [look1_P W.hU]
 congr 1
 refine tt_look ?_
 rw [Dte]
 constructor
 ·intro h; exact ⟨f, n, rfl, rfl, hv, h⟩
 ·rintro ⟨a, b, h1, h2, _, h⟩
  rw [show f = a by omega, show n = b by omega]; exact h
theorem look_loose {u : List LFn} {U L A S : Nat} {V : Nat → Nat → Prop} {σ : Store} (W : WS u U L A S V σ) {f n : Nat} (hv : V f n) [Decidable (isLoose u f n)] : lookup1 KP (.bool false) (.hmap L) (.agg [.int .i64 f, .int .i64 n]) σ = some (.bool (decide (isLoose u f n))) := by
 rw [look1_P W.hL]
 congr 1
 refine tt_look ?_
 rw [Dte]
 constructor
 ·intro h; exact ⟨f, n, rfl, rfl, hv, h⟩
 ·rintro ⟨a, b, h1, h2, _, h⟩
  rw [show f = a by omega, show n = b by omega]; exact h
theorem WS.old {u : List LFn} {U L A S : Nat} {V : Nat → Nat → Prop} {σ σ' : Store} (W : WS u U L A S V σ) (fr : Fr [] σ σ') (lt : U < σ.next ∧ L < σ.next ∧ A < σ.next) : WS u U L A S V σ' := W.maps fr.1 (fun y h _ => fr.2 y h (by simp)) lt
open Classical in
theorem inode_loop (H : Door D) (u : List LFn) (hu : SmallUnit u) {f : Nat} {x : LFn} (hf : u[f]? = some x) (T : TreeN x.nodes) (hR : ∀ p ∈ x.nodes, RefsOk p) (s34 s : Store) {σ0 : Store} (h34 : s34.next + 3 ≤ σ0.next) (hs : σ0.next ≤ s.next)
  (W : WS u s34.next (s34.next + 1) (s34.next + 2) s34.next (fun a _ => a < u.length) σ0) (k : Cur 1) (Q : Res → Prop) : ∀ (c i : Nat) (σ : Store) (seen : List Bool), c = x.nodes.length - i → i ≤ x.nodes.length → seen.length = x.vars.length → σ.blk s.next = some (.map KI (mK (hadM seen))) → Fr [] σ0 σ →
  (∀ v, bad6go u.length x f c i seen = some v → ∀ σ', Q (some (v, σ'))) → (bad6go u.length x f c i seen = none → ∀ σ', Fr [] σ0 σ' → Q (k W0 σ')) →
  Q (lpFix 2 (lp_q4_18 D (.int .i64 x.nodes.length) (encNodes x.nodes) (.int .i64 f) s34 (encFn x) s (encUnit u) k) (.int .i64 i) W0 σ) := by
 have hx := hu.part _ (Lmg hf)
 have hnl := hx.nodes
 have hfl := (List.getElem?_eq_some_iff.1 hf).1
 intro c
 induction c with
 | zero =>
  intro i σ seen hc hi hl hb fr hv hk
  rw [lpFix_eq (lp_q4_18_mono _ _ _ _ _ _ _ _ _)]
  unfold lp_q4_18
  simp only [bin_lss, Obs, aCase_bool]
  rw [if_neg (by rw [Dte]; omega)]
  exact hk rfl σ fr
 | succ c ih =>
  intro i σ seen hc hi hl hb fr hv hk
  have hil : i < x.nodes.length := by omega
  have hse : x.nodes[i]? = some x.nodes[i] := Lge hil
  have hm := Lmg hse
  have hps := hx.nodes' _ hm
  have hsame := refs_same hf hse T (hR _ hm) seen
  simp only [bad6go, hse] at hv hk
  rw [lpFix_eq (lp_q4_18_mono _ _ _ _ _ _ _ _ _)]
  generalize hRR : lpFix 2 (lp_q4_18 D (.int .i64 x.nodes.length) (encNodes x.nodes) (.int .i64 f) s34 (encFn x) s (encUnit u) k) = R at ih ⊢
  have has : asplit 8 (.agg (encNode x.nodes[i])) = some (encNode x.nodes[i]) := rfl
  have e1 : ((i : Int) + 1) = ((i + 1 : Nat) : Int) := by omega
  have one_i : ∀ k : Int, one (.int .i64 k) = some (.int .i64 k) := fun _ => rfl
  unfold lp_q4_18
  simp only [bin_lss, Obs, aCase_bool, jn_eq, idx_encNodes hse, rdN_Node, has, rd1_p, node_at6, len_encI, one_i, bin_add (a := (i : Int)) (b := 1) (by omega) (by omega), e1]
  rw [if_pos (by rw [Dte]; omega)]
  have key := iref_loop H u hu.len hx hps f i σ0 s hs (fun t_226 s_227 => (lookup1 (.agg [(.int .i64), (.int .i64)]) (.bool false) (.hmap s34.next) (.agg [.int .i64 f, .int .i64 i]) s_227).bind fun t_231 =>
   aCase t_231 (some ((.agg [(.int .i64 6), .int .i64 f, .int .i64 i]), s_227)) (R (.int .i64 (i + 1 : Nat)) (.agg (AV.cells t_226)) s_227)) x.nodes[i].refs.length 0 σ seen (by omega) (by omega) hl hb fr
  rw [List.drop_zero] at key
  cases hri : refsI u.length x x.nodes[i] x.nodes[i].refs seen with
  | none =>
   obtain ⟨σ', r1⟩ := key.1 hri
   refine Eq.mp (congrArg Q r1.symm) ?_
   have := hsame.1 hri
   exact hv _ (if_neg (by rw [this]; simp)) σ'
  | some s' =>
   obtain ⟨σ', r1, r2, r3, r4⟩ := key.2 s' hri
   obtain ⟨q1, q2⟩ := hsame.2 s' hri
   refine Eq.mp (congrArg Q r1.symm) ?_
   have hlk : lookup1 (.agg [(.int .i64), (.int .i64)]) (.bool false) (.hmap s34.next) (.agg [.int .i64 f, .int .i64 i]) σ' = some (.bool (decide (isUnseen u f i))) := look_unseen (W.old r4 (by omega)) hfl
   simp only [hlk, Obs, aCase_bool, cellsW0]
   by_cases hus : isUnseen u f i
   ·rw [if_pos (by rw [Dte]; exact hus)]
    exact hv _ (if_neg fun h => q1.1 h hus) σ'
   ·rw [if_neg (by rw [Dte]; exact hus)]
    have ht := q1.2 hus
    rw [if_pos ht] at hv hk
    have e2 := q2 hus
    rw [← e2] at hv hk
    exact ih (i + 1) σ' s' (by omega) (by omega) r2 r3 r4 hv hk
theorem ipar_loop (x : LFn) (hx : x.Small) (N : Nat) (hN : N ≤ x.vars.length) (s : Store) {σ0 : Store} (hs : σ0.next ≤ s.next) (k : Cur 1) : ∀ (c i : Nat) (σ : Store), c = N - i → i ≤ N → σ.blk s.next = some (.map KI (mK (hadM (List.replicate i true ++ List.replicate (x.vars.length - i) false)))) → Fr [] σ0 σ →
  ∃ σ', lpFix 2 (lp_q4_16 D (.int .i64 N) s k) (.int .i64 i) W0 σ = k W0 σ' ∧ σ'.blk s.next = some (.map KI (mK (hadM (List.replicate N true ++ List.replicate (x.vars.length - N) false)))) ∧ Fr [] σ0 σ' := by
 have hvl := hx.vars
 intro c
 induction c with
 | zero =>
  intro i σ hc hi hb fr
  have : i = N := by omega
  subst this
  refine ⟨σ, ?_, hb, fr⟩
  rw [lpFix_eq (lp_q4_16_mono _ _ _ _)]
  unfold lp_q4_16
  simp only [bin_lss, Obs, aCase_bool]
  rw [if_neg (by rw [Dte]; omega)]
  rfl
 | succ c ih =>
  intro i σ hc hi hb fr
  rw [lpFix_eq (lp_q4_16_mono _ _ _ _)]
  generalize hR : lpFix 2 (lp_q4_16 D (.int .i64 N) s k) = R at ih ⊢
  have e1 : ((i : Int) + 1) = ((i + 1 : Nat) : Int) := by omega
  have hset : mapSet (.int .i64) (.hmap s.next) (.int .i64 i) (.bool true) σ = some _ := set_K hb
  unfold lp_q4_16
  simp only [bin_lss, Obs, aCase_bool, hset, bin_add (a := (i : Int)) (b := 1) (by omega) (by omega), e1, cellsW0]
  rw [if_pos (by rw [Dte]; omega)]
  refine ih (i + 1) _ (by omega) (by omega) ?_ ⟨fr.1, fun y h3 h4 => (upd_ne (by omega)).trans (fr.2 y h3 h4)⟩
  rw [upd_blk, hadM_set (by omega) (by simp; omega)]
  congr 4
  obtain ⟨m, hm⟩ : ∃ m, x.vars.length - i = m + 1 := ⟨x.vars.length - i - 1, by omega⟩
  rw [Int.toNat_natCast, List.set_append_right _ _ (by simp), List.length_replicate, Nat.sub_self, hm, show x.vars.length - (i + 1) = m by omega, List.replicate_succ, List.set_cons_zero, List.replicate_succ', List.append_assoc]
  rfl
theorem irefs_scan (H : Door D) (u : List LFn) (hu : SmallUnit u) (hT : ∀ x ∈ u, TreeN x.nodes) (hS : ∀ x ∈ u, Sound x) (hR : ∀ x ∈ u, ∀ p ∈ x.nodes, RefsOk p) (s34 : Store) {σ0 : Store} (h34 : s34.next + 3 ≤ σ0.next)
  (W : WS u s34.next (s34.next + 1) (s34.next + 2) s34.next (fun a _ => a < u.length) σ0) (k : Cur 1) (Q : Res → Prop) (hv : ∀ v, bad6 u = some v → ∀ σ', Q (some (v, σ'))) (hk : bad6 u = none → ∀ σ', Fr [] σ0 σ' → Q (k W0 σ')) :
  Q (lpFix 2 (lp_q4_19 D (.int .i64 u.length) (encFns u) s34 (encUnit u) k) (.int .i64 0) W0 σ0) := by
 have hul := hu.len
 refine lp_scanQ (lp_q4_19_mono _ _ _ _ _ _) u.length W0 _ (k W0) (fun _ σ => Fr [] σ0 σ) Q ?_ ?_ hv hk σ0 (Fr.refl _ _)
 ·intro R σ
  unfold lp_q4_19
  simp only [bin_lss, Obs, aCase_bool]
  rw [if_neg (by simp)]
  rfl
 ·intro i hi R σ fr qv qn
  have hse : u[i]? = some u[i] := Lge hi
  have hm := Lmg hse
  have hx := hu.part _ hm
  have S := hS _ hm
  have hvl := hx.vars
  have has : asplit 7 (.agg (encFn u[i])) = some (encFn u[i]) := rfl
  rw [hse, Obs] at qv qn
  obtain ⟨N, hN⟩ : ∃ N : Nat, u[i].params = N := ⟨u[i].params.toNat, by have := S.par0; omega⟩
  have hNv : N ≤ u[i].vars.length := by have := S.par1; omega
  unfold lp_q4_19
  simp only [bin_lss, Obs, aCase_bool, jn_eq, idx_encFns hse, rdN_Fn, has, rd1_p, fn_at2, fn_at6, hN, len_encNodes, bin_add (a := (i : Int)) (b := 1) (by omega) (by omega)]
  rw [if_pos (by rw [Dte]; omega)]
  have hb0 : (σ.add (.map KI fun _ => none)).blk σ.next = some (.map KI (mK (hadM (List.replicate 0 true ++ List.replicate (u[i].vars.length - 0) false)))) := by
   rw [add_blk, ← mK_none]
   congr 3
   funext v
   refine (tt_neg ?_).symm
   rintro ⟨_, h⟩
   rw [List.replicate_zero, List.nil_append, List.getD_eq_getElem?_getD, List.getElem?_replicate] at h
   split at h <;> simp at h
  have fr0 : Fr [] σ0 (σ.add (.map KI fun _ => none)) := ⟨by show σ0.next ≤ σ.next + 1; have := fr.1; omega, fun y h1 h2 => (add_old (by have := fr.1; omega)).trans (fr.2 y h1 h2)⟩
  obtain ⟨σ1, r1, r2, r3⟩ := ipar_loop (D := D) u[i] hx N hNv σ fr.1 (fun t_207 s_208 => lpFix 2 (lp_q4_18 D (.int .i64 u[i].nodes.length) (encNodes u[i].nodes) (.int .i64 i) s34 (encFn u[i]) σ (encUnit u) fun t_212 s_213 => R (.int .i64 ((i : Int) + 1)) (.agg (AV.cells t_212)) s_213) (.int .i64 0) (.agg (AV.cells t_207)) s_208) N 0 _ (by omega) (by omega) hb0 fr0
  refine Eq.mp (congrArg Q r1.symm) ?_
  have hs0 : seen0 u[i] = List.replicate N true ++ List.replicate (u[i].vars.length - N) false := by
   rw [seen0, hN]; rfl
  rw [← hs0] at r2
  exact inode_loop H u hu hse (hT _ hm) (hR _ hm) s34 σ h34 fr.1 W _ Q u[i].nodes.length 0 σ1 (seen0 u[i]) (by omega) (by omega) (by rw [hs0]; simp; omega) r2 r3 qv fun h σ' hfr => qn h σ' hfr
end
end Go.Asm.UnitF
/- impl's test of a unit: the codes 7 to 9. -/
namespace Go.Asm.UnitF
open Go Go.Asm
theorem refsN_range {x : LFn} {n : Nat} {p : LNode} (hk : p.kind ≠ 26) : ∀ (vs : List Int) (seen : List Bool), (refsN x n p vs seen).1 = true → ∀ v ∈ vs, 0 ≤ v ∧ v < (x.vars.length : Int)
 | [], _, _, v, hv => by simp at hv
 | w :: vs, seen, h, v, hv => by
  rw [refsN] at h
  by_cases h1 : w < 0 ∨ (x.vars.length : Int) ≤ w
  ·rw [if_pos h1] at h; cases h
  rw [if_neg h1, if_neg hk] at h
  by_cases h2 : seen.getD w.toNat false = true
  ·rw [if_pos h2] at h; cases h
  rw [if_neg h2] at h
  rcases List.mem_cons.1 hv with rfl | hv
  ·omega
  ·exact refsN_range hk vs _ h v hv
theorem decl_range {u : List LFn} (h6 : bad6 u = none) {f n : Nat} {x : LFn} {p : LNode} (hf : u[f]? = some x) (hp : x.nodes[n]? = some p) (hd : isDecl p.kind = true) : ∀ v ∈ p.refs, 0 ≤ v ∧ v < (x.vars.length : Int) := by
 have h : bad6in u.length x f = none := scanF_none h6 hf
 obtain ⟨s, hs⟩ := bad6go_none h n p (by omega) (by have := (List.getElem?_eq_some_iff.1 hp).1; omega) hp
 simp only [isDecl, Boe, Dte] at hd
 rw [refs3, if_neg (by omega), if_neg (by omega)] at hs
 exact refsN_range (by omega) _ _ hs
/-- What is in scope is a variable. -/
theorem cnt_range {u : List LFn} (h6 : bad6 u = none) {f : Nat} {x : LFn} (hf : u[f]? = some x) (hpar : x.params ≤ x.vars.length) {n : Nat} {v : Int} (h : 0 < cnt x n v) : 0 ≤ v ∧ v < (x.vars.length : Int) := by
 have hbase : 0 < base x v → 0 ≤ v ∧ v < (x.vars.length : Int) := fun h => by
  unfold base at h
  split at h
  ·omega
  ·omega
 have hdecl : ∀ c : Int, 0 < declAt x v c → 0 ≤ v ∧ v < (x.vars.length : Int) := fun c h => by
  unfold declAt at h
  split at h
  ·rename_i q hq
   split at h
   ·rename_i h2
    exact decl_range h6 hf hq (by simp [isDecl, h2]) v (List.count_pos_iff.1 (by omega))
   ·omega
  ·omega
 have hkids : ∀ ks : List Int, 0 < kidsDecl x v ks → 0 ≤ v ∧ v < (x.vars.length : Int) := by
  intro ks
  induction ks with
  | nil => intro h; simp [kidsDecl] at h
  | cons c ks ih =>
   intro h
   simp only [kidsDecl] at h
   have := kidsDecl_nonneg x v ks
   have := declAt_nonneg x v c
   by_cases h1 : 0 < declAt x v c
   ·exact hdecl c h1
   ·exact ih (by omega)
 have key : ∀ c n, 0 < cntN x v c n → 0 ≤ v ∧ v < (x.vars.length : Int) := by
  intro c
  induction c with
  | zero => intro n h; exact hbase h
  | succ c ih =>
   intro n h
   simp only [cntN] at h
   split at h
   ·exact hbase h
   ·split at h
    ·exact hbase h
    ·rename_i p hp
     have := cntN_nonneg x v c ((growP x.nodes).getD n 0).toNat
     by_cases h1 : 0 < cntN x v c ((growP x.nodes).getD n 0).toNat
     ·exact ih _ h1
     ·have hs : 0 < scJ x p (place3 p.kids n).toNat v := by omega
      unfold scJ at hs
      by_cases hk : p.kind = 1
      ·rw [if_pos hk] at hs
       have hh : isHead p.kind = false := by simp [isHead, hk]
       rw [if_neg (by rw [hh]; simp)] at hs
       exact hkids (p.kids.take (place3 p.kids n).toNat) (by omega)
      ·rw [if_neg hk] at hs
       split at hs
       ·rename_i hh
        have hd : isDecl p.kind = true := by
         have := hh.1
         simp only [isHead, Boe, Dte] at this
         simp only [isDecl, Boe, Dte]
         omega
        exact decl_range h6 hf hp hd v (List.count_pos_iff.1 (by omega))
       ·omega
 exact key _ _ h
section
variable {D : Ctx}
open Classical in
theorem ijump_scan1 (u : List LFn) (hu : SmallUnit u) {f : Nat} {x : LFn} (hf : u[f]? = some x) (s34 : Store) {σ0 : Store} (h34 : s34.next + 3 ≤ σ0.next)
  (W : WS u s34.next (s34.next + 1) (s34.next + 2) s34.next (fun a _ => a < u.length) σ0) (k : Cur 1) :
  lpFix 2 (lp_q4_20 D (.int .i64 x.nodes.length) (.int .i64 f) s34 k) (.int .i64 0) W0 σ0 = match bad7in x f with
   | some v => some (v, σ0)
   | none => k W0 σ0 := by
 have hx := hu.part _ (Lmg hf)
 have hnl := hx.nodes
 have hfl := (List.getElem?_eq_some_iff.1 hf).1
 have key : ∀ c i, c = x.nodes.length - i → i ≤ x.nodes.length → lpFix 2 (lp_q4_20 D (.int .i64 x.nodes.length) (.int .i64 f) s34 k) (.int .i64 i) W0 σ0 = match scan (fun n => (x.nodes[n]?).bind fun p => if (isJump p.kind && !inloop3 x x.nodes.length n) = true then some (encFault 7 f n) else none) c i with
   | some v => some (v, σ0)
   | none => k W0 σ0 := by
  intro c
  induction c with
  | zero =>
   intro i hc hi
   rw [lpFix_eq (lp_q4_20_mono _ _ _ _ _)]
   unfold lp_q4_20
   simp only [bin_lss, Obs, aCase_bool]
   rw [if_neg (by rw [Dte]; omega)]
   rfl
  | succ c ih =>
   intro i hc hi
   have hil : i < x.nodes.length := by omega
   have hse : x.nodes[i]? = some x.nodes[i] := Lge hil
   have ih := ih (i + 1) (by omega) (by omega)
   rw [lpFix_eq (lp_q4_20_mono _ _ _ _ _), scan, hse, Obs]
   generalize hRR : lpFix 2 (lp_q4_20 D (.int .i64 x.nodes.length) (.int .i64 f) s34 k) = R at ih ⊢
   have e1 : ((i : Int) + 1) = ((i + 1 : Nat) : Int) := by omega
   have one_i : ∀ k : Int, one (.int .i64 k) = some (.int .i64 k) := fun _ => rfl
   have hlk : lookup1 (.agg [(.int .i64), (.int .i64)]) (.bool false) (.hmap (s34.add (.map (.agg [(.int .i64), (.int .i64)]) fun _ => none)).next) (.agg [.int .i64 f, .int .i64 i]) σ0 = some (.bool (decide (isLoose u f i))) := look_loose W hfl
   have iL : isLoose u f i ↔ (isJump x.nodes[i].kind && !inloop3 x x.nodes.length i) = true := by
    have : (isJump x.nodes[i].kind && !inloop3 x x.nodes.length i) = true ↔ (x.nodes[i].kind = 9 ∨ x.nodes[i].kind = 10) ∧ inl x i = false := by
     simp [isJump, inl]
    rw [this]
    constructor
    ·rintro ⟨y, q, h1, h2, h3⟩
     rw [hf] at h1; cases h1
     rw [hse] at h2; cases h2
     exact h3
    ·intro h; exact ⟨x, _, hf, hse, h⟩
   unfold lp_q4_20
   simp only [bin_lss, Obs, aCase_bool, one_i, hlk, bin_add (a := (i : Int)) (b := 1) (by omega) (by omega), e1, cellsW0]
   rw [if_pos (by rw [Dte]; omega)]
   by_cases h : isLoose u f i
   ·rw [if_pos (by rw [Dte]; exact h), if_pos (iL.1 h)]
    rfl
   ·rw [if_neg (by rw [Dte]; exact h), if_neg fun h2 => h (iL.2 h2)]
    exact ih
 exact key _ 0 (by omega) (by omega)
theorem ijump_scan (u : List LFn) (hu : SmallUnit u) (s34 : Store) {σ0 : Store} (h34 : s34.next + 3 ≤ σ0.next)
  (W : WS u s34.next (s34.next + 1) (s34.next + 2) s34.next (fun a _ => a < u.length) σ0) (k : Cur 1) :
  lpFix 2 (lp_q4_21 D (.int .i64 u.length) (encFns u) s34 k) (.int .i64 0) W0 σ0 = match bad7 u with
   | some v => some (v, σ0)
   | none => k W0 σ0 := by
 have hul := hu.len
 have key : ∀ c i, c = u.length - i → i ≤ u.length → lpFix 2 (lp_q4_21 D (.int .i64 u.length) (encFns u) s34 k) (.int .i64 i) W0 σ0 = match scan (fun f => (u[f]?).bind fun x => bad7in x f) c i with
   | some v => some (v, σ0)
   | none => k W0 σ0 := by
  intro c
  induction c with
  | zero =>
   intro i hc hi
   rw [lpFix_eq (lp_q4_21_mono _ _ _ _ _)]
   unfold lp_q4_21
   simp only [bin_lss, Obs, aCase_bool]
   rw [if_neg (by rw [Dte]; omega)]
   rfl
  | succ c ih =>
   intro i hc hi
   have hil : i < u.length := by omega
   have hse : u[i]? = some u[i] := Lge hil
   have ih := ih (i + 1) (by omega) (by omega)
   have has : asplit 7 (.agg (encFn u[i])) = some (encFn u[i]) := rfl
   have e1 : ((i : Int) + 1) = ((i + 1 : Nat) : Int) := by omega
   rw [lpFix_eq (lp_q4_21_mono _ _ _ _ _), scan, hse, Obs]
   generalize hRR : lpFix 2 (lp_q4_21 D (.int .i64 u.length) (encFns u) s34 k) = R at ih ⊢
   unfold lp_q4_21
   simp only [bin_lss, Obs, aCase_bool, jn_eq, idx_encFns hse, rdN_Fn, has, rd1_p, fn_at6, len_encNodes, ijump_scan1 u hu hse s34 h34 W, bin_add (a := (i : Int)) (b := 1) (by omega) (by omega), e1, cellsW0]
   rw [if_pos (by rw [Dte]; omega)]
   cases bad7in u[i] i with
   | some v => rfl
   | none => exact ih
 exact key _ 0 (by omega) (by omega)
end
end Go.Asm.UnitF
/- impl's test of a unit: the codes 8 and 9, and the whole. -/
namespace Go.Asm.UnitF
open Go Go.Asm
theorem shape_of {u : List LFn} (h3 : bad3 u = none) {x : LFn} (hx : x ∈ u) {n : Nat} {p : LNode} (hp : x.nodes[n]? = some p) : shape3 x.nodes p n = true := by
 obtain ⟨f, hf⟩ := List.getElem?_of_mem hx
 have := scan_none (scanF_none h3 hf) n (by omega) (by have := (List.getElem?_eq_some_iff.1 hp).1; omega)
 rw [hp] at this
 cases hh : shape3 x.nodes p n with
 | true => rfl
 | false => rw [Obs, hh] at this; cases this
theorem tree_of {u : List LFn} (hS : ∀ x ∈ u, Sound x) (h4 : bad4 u = none) : ∀ x ∈ u, TreeN x.nodes := by
 intro x hx
 have S := hS x hx
 obtain ⟨f, hf⟩ := List.getElem?_of_mem hx
 refine ⟨S.pos, S.ahead, fun c hc => ?_⟩
 have hp : x.nodes[c]? = some x.nodes[c] := Lge (by omega)
 have := scan_none (scanF_none h4 hf) c (by omega) (by omega)
 rw [hp, Obs] at this
 have h : bad4n x c x.nodes[c] = false := by
  cases hh : bad4n x c x.nodes[c] with
  | false => rfl
  | true => rw [if_pos hh] at this; cases this
 rw [bad4n, if_neg (by omega), Dfn] at h
 exact (occ_iff S.ahead hc).1 (by omega)
theorem look_around {u : List LFn} {U L A S : Nat} {V : Nat → Nat → Prop} {σ : Store} (W : WS u U L A S V σ) {f n : Nat} {x : LFn} (hf : u[f]? = some x) (hv : V f n) (hfn : isFnN u f n) :
  ∃ y, lookup1 KP .nilmap (.hmap A) (.agg [.int .i64 f, .int .i64 n]) σ = some (.hmap y) ∧ ∀ v, lookup1 KI (.bool false) (.hmap y) (.int .i64 v) σ = some (.bool (decide (0 < cnt x n v))) := by
 obtain ⟨ya, a1, a2⟩ := W.hA
 obtain ⟨b1, b2, b3⟩ := a2 f n hv hfn
 refine ⟨ya f n, ?_, fun v => ?_⟩
 ·rw [look1_P a1]
  have : prs (fun f n => V f n ∧ isFnN u f n) f n := ⟨f, n, rfl, rfl, hv, hfn⟩
  rw [aroundM, if_pos this]
  rfl
 ·rw [look1_K b3]
  congr 1
  refine tt_look ?_
  rw [Dte]
  constructor
  ·intro h; exact ⟨x, hf, h⟩
  ·rintro ⟨y, h1, h2⟩
   rw [hf] at h1; cases h1; exact h2
section
variable {D : Ctx}
theorem iups_loop {u : List LFn} (h6 : bad6 u = none) {f : Nat} {x : LFn} (hf : u[f]? = some x) (hpar : x.params ≤ x.vars.length) (T : TreeN x.nodes) {n : Nat} (hn : n < x.nodes.length) (hfn : isFnN u f n) {y : LFn} (hy : y.ups.length ≤ 1048576) (s34 : Store) {σ : Store}
  (W : WS u s34.next (s34.next + 1) (s34.next + 2) s34.next (fun a _ => a < u.length) σ) (k : Cur 1) : ∀ (c i : Nat), c = y.ups.length - i → i ≤ y.ups.length →
  lpFix 2 (lp_q4_22 D (.int .i64 y.ups.length) (encUps y.ups) (.int .i64 f) (.int .i64 n) (encFn x) s34 k) (.int .i64 i) W0 σ = if (y.ups.drop i).all (up3 x n) = true then k W0 σ else some (encFault 8 f n, σ) := by
 have hfl := (List.getElem?_eq_some_iff.1 hf).1
 obtain ⟨ym, l1, l2⟩ := look_around W hf hfl hfn
 intro c
 induction c with
 | zero =>
  intro i hc hi
  have : i = y.ups.length := by omega
  subst this
  rw [lpFix_eq (lp_q4_22_mono _ _ _ _ _ _ _ _), List.drop_eq_nil_of_le (Nat.le_refl _)]
  unfold lp_q4_22
  simp only [bin_lss, Obs, aCase_bool]
  rw [if_neg (by rw [Dte]; omega)]
  rfl
 | succ c ih =>
  intro i hc hi
  have hil : i < y.ups.length := by omega
  have hse : y.ups[i]? = some y.ups[i] := Lge hil
  have ih := ih (i + 1) (by omega) (by omega)
  rw [lpFix_eq (lp_q4_22_mono _ _ _ _ _ _ _ _), List.drop_eq_getElem_cons hil, List.all_cons]
  generalize hRR : lpFix 2 (lp_q4_22 D (.int .i64 y.ups.length) (encUps y.ups) (.int .i64 f) (.int .i64 n) (encFn x) s34 k) = R at ih ⊢
  generalize y.ups[i] = q at hse ⊢
  have e1 : ((i : Int) + 1) = ((i + 1 : Nat) : Int) := by omega
  have has : asplit 2 (.agg (encUp q)) = some (encUp q) := rfl
  have one_i : ∀ k : Int, one (.int .i64 k) = some (.int .i64 k) := fun _ => rfl
  have l1' : lookup1 (.agg [(.int .i64), (.int .i64)]) .nilmap (.hmap ((s34.add (.map (.agg [(.int .i64), (.int .i64)]) fun _ => none)).add (.map (.agg [(.int .i64), (.int .i64)]) fun _ => none)).next) (.agg [.int .i64 f, .int .i64 n]) σ = some (.hmap ym) := l1
  have l2' : ∀ v, lookup1 (.int .i64) (.bool false) (.hmap ym) (.int .i64 v) σ = some (.bool (decide (0 < cnt x n v))) := l2
  unfold lp_q4_22
  simp only [bin_lss, bin_geq, Obs, aCase_bool, jn_eq, idx_encUps hse, rdN_Up, has, rd1_p, up_at0, up_at1, fn_at5, len_encUps, un_not, one_i, l1', l2', bin_add (a := (i : Int)) (b := 1) (by omega) (by omega), e1, cellsW0, ih]
  rw [if_pos (by rw [Dte]; omega)]
  unfold up3
  cases hl : q.loc with
  | true =>
   by_cases h0 : q.index < 0
   ·simp [h0, show ¬ 0 ≤ q.index by omega]
    rfl
   ·have hv := visible_iff T (v := q.index) (by omega) hn
    by_cases hc1 : 0 < cnt x n q.index
    ·have := cnt_range h6 hf hpar hc1
     have hvt := hv.2 hc1
     simp [h0, hc1, hvt, this.2, show 0 ≤ q.index by omega]
    ·have hvf : visible3 x n q.index = false := by
      cases hh : visible3 x n q.index with
      | false => rfl
      | true => exact absurd (hv.1 hh) hc1
     simp [h0, hc1, hvf, show 0 ≤ q.index by omega]
     rfl
  | false =>
   by_cases h0 : q.index < 0
   ·simp [h0, show ¬ 0 ≤ q.index by omega]
    rfl
   ·by_cases h1 : (x.ups.length : Int) ≤ q.index
    ·simp [h0, h1, show ¬ q.index < (x.ups.length : Int) by omega]
     rfl
    ·simp [h0, h1, show 0 ≤ q.index by omega, show q.index < (x.ups.length : Int) by omega]
theorem inode8_loop (u : List LFn) (hu : SmallUnit u) (h6 : bad6 u = none) {f : Nat} {x : LFn} (hf : u[f]? = some x) (hpar : x.params ≤ x.vars.length) (T : TreeN x.nodes) (hfr : FnRefs u.length x) (s34 s49 : Store) {σ0 : Store} (h34 : s34.next + 3 ≤ σ0.next) (hs : σ0.next ≤ s49.next)
  (W : WS u s34.next (s34.next + 1) (s34.next + 2) s34.next (fun a _ => a < u.length) σ0) (k : Cur 1) (Q : Res → Prop) : ∀ (c i : Nat) (σ : Store) (made : List Bool), c = x.nodes.length - i → i ≤ x.nodes.length → made.length = u.length → σ.blk s49.next = some (.map KI (mK (hadM made))) → Fr [] σ0 σ →
  (∀ v, go8 u x f c i made = .error v → ∀ σ', Q (some (v, σ'))) → (∀ m, go8 u x f c i made = .ok m → ∀ σ', m.length = u.length → σ'.blk s49.next = some (.map KI (mK (hadM m))) → Fr [] σ0 σ' → Q (k W0 σ')) →
  Q (lpFix 2 (lp_q4_23 D (.int .i64 x.nodes.length) (encNodes x.nodes) (.int .i64 f) s49 (encUnit u) (encFn x) s34 k) (.int .i64 i) W0 σ) := by
 have hx := hu.part _ (Lmg hf)
 have hnl := hx.nodes
 have hul := hu.len
 have hfl := (List.getElem?_eq_some_iff.1 hf).1
 intro c
 induction c with
 | zero =>
  intro i σ made hc hi hl hb fr hv hk
  rw [lpFix_eq (lp_q4_23_mono _ _ _ _ _ _ _ _ _)]
  unfold lp_q4_23
  simp only [bin_lss, Obs, aCase_bool]
  rw [if_neg (by rw [Dte]; omega)]
  exact hk made rfl σ hl hb fr
 | succ c ih =>
  intro i σ made hc hi hl hb fr hv hk
  have hil : i < x.nodes.length := by omega
  have hse : x.nodes[i]? = some x.nodes[i] := Lge hil
  have hm := Lmg hse
  have hps := hx.nodes' _ hm
  simp only [go8, hse] at hv hk
  rw [lpFix_eq (lp_q4_23_mono _ _ _ _ _ _ _ _ _)]
  generalize hRR : lpFix 2 (lp_q4_23 D (.int .i64 x.nodes.length) (encNodes x.nodes) (.int .i64 f) s49 (encUnit u) (encFn x) s34 k) = R at ih ⊢
  have hfr' := hfr _ hm
  generalize x.nodes[i] = p at hse hm hps hv hk hfr'
  have has : asplit 8 (.agg (encNode p)) = some (encNode p) := rfl
  have e1 : ((i : Int) + 1) = ((i + 1 : Nat) : Int) := by omega
  have one_i : ∀ k : Int, one (.int .i64 k) = some (.int .i64 k) := fun _ => rfl
  have rU : ∀ σ, rd1 D.G (.pptr (AV.cells (encUnit u)) 0) σ = some (encFns u) := fun _ => rfl
  unfold lp_q4_23
  simp only [bin_lss, bin_leq, bin_eql, bin_neq, Obs, aCase_bool, jn_eq, idx_encNodes hse, rdN_Node, has, rd1_p, node_at0, node_at6, fn_at3, un_not, one_i, rU, bin_add (a := (i : Int)) (b := 1) (by omega) (by omega), e1]
  rw [if_pos (by rw [Dte]; omega)]
  by_cases h37 : p.kind = 37
  ·have h36 : ¬ p.kind = 36 := by omega
   rw [if_pos (by rw [Dte]; exact h37)]
   cases hrest : x.rest with
   | false =>
    have hst : step8 u x f i p made = none := by rw [step8, if_pos ⟨h37, hrest⟩]
    rw [hst] at hv
    simp only [Bool.not_false, if_true]
    exact hv _ rfl σ
   | true =>
    have hst : step8 u x f i p made = some made := by rw [step8, if_neg (by rw [hrest]; simp), if_pos h36]
    rw [hst] at hv hk
    simp only [Bool.not_true, Bft, if_false]
    rw [if_pos (by rw [Dte]; exact h36)]
    exact ih (i + 1) σ made (by omega) (by omega) hl hb fr hv hk
  rw [if_neg (by rw [Dte]; exact h37)]
  simp only [Bft, if_false]
  by_cases h36 : p.kind = 36
  ·rw [if_neg (by rw [Dte]; exact fun h => h h36)]
   obtain ⟨f1, f2, f3⟩ := hfr' h36
   have r0 : idx 1 (encI p.refs) (.int .i64 0) = some (.pptr [.int .i64 (p.refs.getD 0 0)] 0) := idx_encI' (i := 0) (List.length_pos_iff.2 f1)
   simp only [r0, Obs, rd1_p, Lgz, bin_leq, aCase_bool]
   have hstep : step8 u x f i p made = if p.refs.getD 0 0 ≤ (f : Int) then none else if made.getD (p.refs.getD 0 0).toNat false = true then none else match u[(p.refs.getD 0 0).toNat]? with
     | none => none
     | some y => if y.ups.all (up3 x i) = true then some (made.set (p.refs.getD 0 0).toNat true) else none := by
    rw [step8, if_neg (fun h => h37 h.1), if_neg (fun h => h h36)]
    rfl
   generalize p.refs.getD 0 0 = g at f2 f3 hstep ⊢
   by_cases hgf : g ≤ (f : Int)
   ·rw [if_pos hgf] at hstep
    rw [hstep] at hv
    rw [if_pos (by rw [Dte]; exact hgf), if_pos trivial]
    exact hv _ rfl σ
   rw [if_neg hgf] at hstep
   rw [if_neg (by rw [Dte]; exact hgf)]
   have hlk : lookup1 (.int .i64) (.bool false) (.hmap s49.next) (.int .i64 g) σ = some (.bool (made.getD g.toNat false)) := look_had hb f2
   simp only [hlk, Obs, aCase_bool]
   by_cases hmd : made.getD g.toNat false = true
   ·rw [if_pos hmd] at hstep
    rw [hstep] at hv
    rw [if_pos hmd]
    exact hv _ rfl σ
   rw [if_neg hmd] at hstep
   rw [if_neg hmd]
   have hset : mapSet (.int .i64) (.hmap s49.next) (.int .i64 g) (.bool true) σ = some (σ.upd s49.next (some (.map KI (mK (hadM (made.set g.toNat true)))))) := by
    rw [← hadM_set f2 (by omega)]; exact set_K hb
   have hug : u[g.toNat]? = some u[g.toNat] := Lge (by omega)
   have hy := (hu.part _ (Lmg hug)).ups
   have hig : idx 7 (encFns u) (.int .i64 g) = some (.pptr (encFn u[g.toNat]) 0) := by
    have := idx_encFns (k := .i64) hug
    rwa [show ((g.toNat : Nat) : Int) = g by omega] at this
   have fr' : Fr [] σ0 (σ.upd s49.next (some (.map KI (mK (hadM (made.set g.toNat true)))))) := ⟨fr.1, fun y h3 h4 => (upd_ne (by omega)).trans (fr.2 y h3 h4)⟩
   have hfn : isFnN u f i := ⟨x, p, hf, hse, h36⟩
   simp only [hset, Obs, hig, fadd_pp, Nat.zero_add, rd1_p, fn_at5, len_encUps]
   have hup := iups_loop (D := D) h6 hf hpar T hil hfn hy s34 (W.old fr' (by omega)) (fun t_124 s_125 => R (.int .i64 (i + 1 : Nat)) (.agg (AV.cells (.agg (AV.cells t_124)))) s_125) u[g.toNat].ups.length 0 (by omega) (by omega)
   rw [List.drop_zero] at hup
   refine Eq.mp (congrArg Q hup.symm) ?_
   rw [hug] at hstep
   simp only at hstep
   by_cases ha : u[g.toNat].ups.all (up3 x i) = true
   ·rw [if_pos ha] at hstep ⊢
    rw [hstep] at hv hk
    exact ih (i + 1) _ _ (by omega) (by omega) (by simp [hl]) upd_blk fr' hv hk
   ·rw [if_neg ha] at hstep ⊢
    rw [hstep] at hv
    exact hv _ rfl _
  ·rw [if_pos (by rw [Dte]; exact h36)]
   have hst : step8 u x f i p made = some made := by rw [step8, if_neg (fun h => h37 h.1), if_pos h36]
   rw [hst] at hv hk
   exact ih (i + 1) σ made (by omega) (by omega) hl hb fr hv hk
theorem ifn8_loop (u : List LFn) (hu : SmallUnit u) (h6 : bad6 u = none) (hS : ∀ x ∈ u, Sound x) (hT : ∀ x ∈ u, TreeN x.nodes) (s34 s49 : Store) {σ0 : Store} (h34 : s34.next + 3 ≤ σ0.next) (hs : σ0.next ≤ s49.next)
  (W : WS u s34.next (s34.next + 1) (s34.next + 2) s34.next (fun a _ => a < u.length) σ0) (k : Cur 1) (Q : Res → Prop) : ∀ (c i : Nat) (σ : Store) (made : List Bool), c = u.length - i → i ≤ u.length → made.length = u.length → σ.blk s49.next = some (.map KI (mK (hadM made))) → Fr [] σ0 σ →
  (∀ v, go8F u c i made = .error v → ∀ σ', Q (some (v, σ'))) → (∀ m, go8F u c i made = .ok m → ∀ σ', m.length = u.length → σ'.blk s49.next = some (.map KI (mK (hadM m))) → Q (k W0 σ')) →
  Q (lpFix 2 (lp_q4_24 D (.int .i64 u.length) (encFns u) s49 (encUnit u) s34 k) (.int .i64 i) W0 σ) := by
 have hul := hu.len
 intro c
 induction c with
 | zero =>
  intro i σ made hc hi hl hb fr hv hk
  rw [lpFix_eq (lp_q4_24_mono _ _ _ _ _ _ _)]
  unfold lp_q4_24
  simp only [bin_lss, Obs, aCase_bool]
  rw [if_neg (by rw [Dte]; omega)]
  exact hk made rfl σ hl hb
 | succ c ih =>
  intro i σ made hc hi hl hb fr hv hk
  have hil : i < u.length := by omega
  have hse : u[i]? = some u[i] := Lge hil
  have hm := Lmg hse
  simp only [go8F, hse] at hv hk
  rw [lpFix_eq (lp_q4_24_mono _ _ _ _ _ _ _)]
  generalize hRR : lpFix 2 (lp_q4_24 D (.int .i64 u.length) (encFns u) s49 (encUnit u) s34 k) = R at ih ⊢
  have has : asplit 7 (.agg (encFn u[i])) = some (encFn u[i]) := rfl
  have e1 : ((i : Int) + 1) = ((i + 1 : Nat) : Int) := by omega
  unfold lp_q4_24
  simp only [bin_lss, Obs, aCase_bool, jn_eq, idx_encFns hse, rdN_Fn, has, rd1_p, fn_at6, len_encNodes, bin_add (a := (i : Int)) (b := 1) (by omega) (by omega), e1]
  rw [if_pos (by rw [Dte]; omega)]
  refine inode8_loop u hu h6 hse (hS _ hm).par1 (hT _ hm) (fnrefs_of hS h6 _ hm) s34 s49 h34 hs W _ Q u[i].nodes.length 0 σ made (by omega) (by omega) hl hb fr ?_ ?_
  ·intro v h σ'
   refine hv v ?_ σ'
   rw [h]
  ·intro m h σ' hl' hb' fr'
   rw [h] at hv hk
   exact ih (i + 1) σ' m (by omega) (by omega) hl' hb' fr' hv hk
theorem imade_scan (u : List LFn) (hu : SmallUnit u) (s49 : Store) (made : List Bool) (hl : made.length = u.length) (σ : Store) (hb : σ.blk s49.next = some (.map KI (mK (hadM made)))) (k : Cur 1) (h0 : 0 < u.length) :
  lpFix 2 (lp_q4_25 D (.int .i64 u.length) s49 k) (.int .i64 0) W0 σ = match bad9 u.length made with
   | some v => some (v, σ)
   | none => k W0 σ := by
 have hul := hu.len
 have one_i : ∀ k : Int, one (.int .i64 k) = some (.int .i64 k) := fun _ => rfl
 have hlk : ∀ i : Nat, lookup1 (.int .i64) (.bool false) (.hmap s49.next) (.int .i64 i) σ = some (.bool (made.getD i false)) := fun i => look_had hb (v := (i : Int)) (by omega)
 have key : ∀ c i, c = u.length - i → i ≤ u.length → 0 < i → lpFix 2 (lp_q4_25 D (.int .i64 u.length) s49 k) (.int .i64 i) W0 σ = match scan (fun f => if made.getD f false = true then none else some (encFault 9 f 0)) c i with
   | some v => some (v, σ)
   | none => k W0 σ := by
  intro c
  induction c with
  | zero =>
   intro i hc hi _
   rw [lpFix_eq (lp_q4_25_mono _ _ _ _)]
   unfold lp_q4_25
   simp only [bin_lss, Obs, aCase_bool]
   rw [if_neg (by rw [Dte]; omega)]
   rfl
  | succ c ih =>
   intro i hc hi hpos
   have hil : i < u.length := by omega
   have ih := ih (i + 1) (by omega) (by omega) (by omega)
   have e1 : ((i : Int) + 1) = ((i + 1 : Nat) : Int) := by omega
   rw [lpFix_eq (lp_q4_25_mono _ _ _ _), scan]
   generalize hRR : lpFix 2 (lp_q4_25 D (.int .i64 u.length) s49 k) = R at ih ⊢
   unfold lp_q4_25
   simp only [bin_lss, bin_gtr, Obs, aCase_bool, jn_eq, hlk, un_not, one_i, bin_add (a := (i : Int)) (b := 1) (by omega) (by omega), e1, cellsW0]
   rw [if_pos (by rw [Dte]; omega), if_pos (by rw [Dte]; omega)]
   cases made.getD i false with
   | true => exact ih
   | false => rfl
 rw [lpFix_eq (lp_q4_25_mono _ _ _ _)]
 have key := key (u.length - 1) 1 rfl (by omega) (by omega)
 have e1 : ((0 : Int) + 1) = ((1 : Nat) : Int) := rfl
 generalize hRR : lpFix 2 (lp_q4_25 D (.int .i64 u.length) s49 k) = R at key ⊢
 unfold lp_q4_25
 simp only [bin_lss, bin_gtr, Obs, aCase_bool, jn_eq, bin_add (a := (0 : Int)) (b := 1) (by omega) (by omega), e1, cellsW0]
 rw [if_pos (by rw [Dte]; omega), if_neg (by simp)]
 exact key
end
end Go.Asm.UnitF
/- impl's test of a unit answers as the specification's. -/
namespace Go.Asm.UnitF
open Go Go.Asm
section
variable {D : Ctx}
theorem itotalQ (u : List LFn) (hu : SmallUnit u) (k : Cur 2) (Q : Res → Prop) (σ : Store) (h : ∀ t' : Int, (3000 < t' ↔ 3000 < total3 u) → Q (k (.int .i64 t') W0 σ)) :
  Q (lpFix 3 (lp_q4_1 D (.int .i64 u.length) (encFns u) k) (.int .i64 0) (.int .i64 0) W0 σ) := by
 obtain ⟨t', r1, r2⟩ := itotal_loop (D := D) u hu k σ u.length 0 0 (by omega) (by omega) (by omega) (by omega)
 rw [List.drop_zero] at r2
 have r1 : lpFix 3 (lp_q4_1 D (.int .i64 u.length) (encFns u) k) (.int .i64 0) (.int .i64 0) W0 σ = _ := r1
 rw [r1]
 exact h t' r2
theorem isweepQ (H : Door D) (u : List LFn) (hu : SmallUnit u) (hT : ∀ x ∈ u, TreeN x.nodes) (K : ∀ x ∈ u, ∀ p ∈ x.nodes, KidsOk p) (hp : ∀ x ∈ u, 0 ≤ x.params ∧ x.params ≤ 1048576) (s : Store) (k : Cur 1) (Q : Res → Prop)
  (h : ∀ σ', WS u s.next (s.next + 1) (s.next + 2) s.next (fun a _ => a < u.length) σ' → s.next + 3 ≤ σ'.next → Q (k W0 σ')) :
  Q (lpFix 2 (lp_q4_15 D (.int .i64 u.length) (encFns u) s k) (.int .i64 0) W0 (((s.add (.map (.agg [(.int .i64), (.int .i64)]) fun _ => none)).add (.map (.agg [(.int .i64), (.int .i64)]) fun _ => none)).add (.map (.agg [(.int .i64), (.int .i64)]) fun _ => none))) := by
 have mP0 : mP (fun _ _ => none) = fun _ => none := by funext q; unfold mP; split <;> rfl
 have np : ∀ (P : Nat → Nat → Prop) a b, ¬ prs (fun f n => f < 0 ∧ P f n) a b := by
  rintro P a b ⟨f, n, _, _, h, _⟩; omega
 generalize hτ : (((s.add (.map (.agg [(.int .i64), (.int .i64)]) fun _ => none)).add (.map (.agg [(.int .i64), (.int .i64)]) fun _ => none)).add (.map (.agg [(.int .i64), (.int .i64)]) fun _ => none)) = τ
 have W : WS u s.next (s.next + 1) (s.next + 2) s.next (fun a _ => a < 0) τ := by
  refine ⟨?_, ?_, fun _ _ => 0, ?_, fun f n hv _ => by omega⟩
  ·have : (fun a b : Int => tt (prs (fun f n => f < 0 ∧ isUnseen u f n) a b)) = fun _ _ => none := by funext a b; exact tt_neg (np _ a b)
   rw [this, mP0, ← hτ, add_old (by show s.next ≠ s.next + 2; omega), add_old (by show s.next ≠ s.next + 1; omega), add_blk]
  ·have : (fun a b : Int => tt (prs (fun f n => f < 0 ∧ isLoose u f n) a b)) = fun _ _ => none := by funext a b; exact tt_neg (np _ a b)
   rw [this, mP0, ← hτ, add_old (by show s.next + 1 ≠ s.next + 2; omega)]
   exact add_blk (σ := s.add _)
  ·have : aroundM (fun f n => f < 0 ∧ isFnN u f n) (fun _ _ => 0) = fun _ _ => none := by funext a b; exact if_neg (np _ a b)
   rw [this, mP0, ← hτ]
   exact add_blk (σ := (s.add _).add _)
 obtain ⟨σ', r1, r2, r3⟩ := isweep H u hu hT K hp s k u.length 0 τ (by omega) (by omega) W (by rw [← hτ]; exact Nat.le_refl _)
 have r1 : lpFix 2 (lp_q4_15 D (.int .i64 u.length) (encFns u) s k) (.int .i64 0) W0 τ = _ := r1
 rw [r1]
 exact h σ' r2 r3
theorem icheck (H : Door D) (u : List LFn) (hu : SmallUnit u) (Q : Res → Prop) (hQ : ∀ σ', Q (some (check3 u, σ'))) (σ : Store) : Q (D.call 8 [encUnit u] σ) := by
 have hul := hu.len
 have rU : ∀ σ, rd1 D.G (.pptr (AV.cells (encUnit u)) 0) σ = some (encFns u) := fun _ => rfl
 have hQ' : ∀ {v : AV}, check3 u = v → ∀ σ', Q (some (v, σ')) := fun h σ' => h ▸ hQ σ'
 rw [H.f8]
 unfold sh_q4
 simp only [rU, Obs, len_encFns, jn_eq, bin_lss, bin_gtr, aCase_bool]
 refine itotalQ u hu _ Q σ fun t' ht => ?_
 by_cases c1 : (u.length : Int) < 1
 ·have hb : bad1 u = true := by rw [bad1, decide_eq_true (show (u.length : Int) = 0 by omega)]; rfl
  simp only [decide_eq_true c1, if_true]
  exact hQ' (by rw [check3, if_pos hb]; rfl) σ
 by_cases c2 : (300 : Int) < u.length
 ·have hb : bad1 u = true := by rw [bad1, decide_eq_true c2]; simp
  simp only [decide_eq_false c1, decide_eq_true c2, if_true, Bft, if_false]
  exact hQ' (by rw [check3, if_pos hb]; rfl) σ
 by_cases c3 : 3000 < t'
 ·have hb : bad1 u = true := by rw [bad1, decide_eq_true (ht.1 c3)]; simp
  simp only [bin_gtr, Obs, aCase_bool, decide_eq_false c1, decide_eq_false c2, decide_eq_true c3, if_true, Bft, if_false]
  exact hQ' (by rw [check3, if_pos hb]; rfl) σ
 have hb1 : ¬ bad1 u = true := by
  have e3 : ¬ 3000 < total3 u := fun h => c3 (ht.2 h)
  rw [bad1, decide_eq_false (show ¬ (u.length : Int) = 0 by omega), decide_eq_false c2, decide_eq_false e3]
  simp
 simp only [bin_gtr, Obs, aCase_bool, decide_eq_false c1, decide_eq_false c2, decide_eq_false c3, Bft, if_false]
 refine Eq.mp (congrArg Q (ihead_scan u hu _ σ).symm) ?_
 cases h2 : bad2 u with
 | some v => exact hQ' (by rw [check3, if_neg hb1, h2]; rfl) σ
 | none =>
 refine ishape_scan H u hu _ Q σ (fun v h3 σ' => hQ' (by rw [check3, if_neg hb1, h2, h3]; rfl) σ') fun h3 σ3 => ?_
 have hS := sound_of h2 h3
 have hg : Good u := fun x hx => ⟨(hS x hx).pos, (hS x hx).ahead⟩
 refine itree_scan u hu hg _ Q σ3 (fun v h4 σ' => hQ' (by rw [check3, if_neg hb1, h2, h3, h4]; rfl) σ') fun h4 σ4 => ?_
 have hT := tree_of hS h4
 refine idepth_scan u hu hT _ Q σ4 (fun v h5 σ' => hQ' (by rw [check3, if_neg hb1, h2, h3, h4, h5]; rfl) σ') fun h5 σ5 => ?_
 have hc3 : check3 u = third3 u := by rw [check3, if_neg hb1, h2, h3, h4, h5]; rfl
 have hK : ∀ x ∈ u, ∀ p ∈ x.nodes, KidsOk p := fun x hx p hp => by
  obtain ⟨n, hn⟩ := List.getElem?_of_mem hp
  exact kidsOk_of (shape_of h3 hx hn)
 have hR : ∀ x ∈ u, ∀ p ∈ x.nodes, RefsOk p := fun x hx p hp => by
  obtain ⟨n, hn⟩ := List.getElem?_of_mem hp
  exact refsOk_of (shape_of h3 hx hn)
 refine isweepQ H u hu hT hK (fun x hx => by have := (hS x hx).par0; have := (hS x hx).par1; have := (hu.part x hx).vars; omega) σ5 _ Q fun σ6 W h6n => ?_
 refine irefs_scan H u hu hT hS hR σ5 h6n W _ Q (fun v h6 σ' => hQ' (by rw [hc3, third3, h6]; rfl) σ') fun h6 σ7 fr7 => ?_
 have W7 := W.old fr7 (by omega)
 have h7n : σ5.next + 3 ≤ σ7.next := by have := fr7.1; omega
 refine Eq.mp (congrArg Q (ijump_scan u hu σ5 h7n W7 _).symm) ?_
 cases h7 : bad7 u with
 | some v => exact hQ' (by rw [hc3, third3, h6, h7]; rfl) σ7
 | none =>
 have hb0 : (σ7.add (.map KI fun _ => none)).blk σ7.next = some (.map KI (mK (hadM (List.replicate u.length false)))) := by
  rw [add_blk, ← mK_none]
  congr 3
  funext v
  refine (tt_neg ?_).symm
  rintro ⟨_, h⟩
  rw [List.getD_eq_getElem?_getD, List.getElem?_replicate] at h
  split at h <;> simp at h
 refine ifn8_loop u hu h6 hS hT σ5 σ7 h7n (Nat.le_refl _) W7 _ Q u.length 0 _ (List.replicate u.length false) (by omega) (by omega) (by simp) hb0 ⟨by show σ7.next ≤ σ7.next + 1; omega, fun y h1 _ => add_old (by omega)⟩
  (fun v h8 σ' => hQ' (by rw [hc3, third3, h6, h7, h8]; rfl) σ') fun m h8 σ8 hml hmb => ?_
 refine Eq.mp (congrArg Q (imade_scan u hu σ7 m hml σ8 hmb _ (by omega)).symm) ?_
 cases h9 : bad9 u.length m with
 | some v => exact hQ' (by rw [hc3, third3, h6, h7, h8]; simp only [Option.getD_none, h9]; rfl) σ8
 | none => exact hQ' (by rw [hc3, third3, h6, h7, h8]; simp only [Option.getD_none, h9]; rfl) σ8
end
end Go.Asm.UnitF
/- laws.FnExactCheckUnit answers true. -/
namespace Go.Asm.UnitF
open Go Go.Asm
theorem check3_enc (u : List LFn) : ∃ c f n : Int, check3 u = encFault c f n := by
 unfold check3
 split
 ·exact ⟨_, _, _, rfl⟩
 cases h2 : bad2 u with
 | some v => obtain ⟨f, n, rfl⟩ := code2 h2; exact ⟨_, _, _, rfl⟩
 | none =>
 cases h3 : bad3 u with
 | some v => obtain ⟨f, n, rfl⟩ := code3 h3; exact ⟨_, _, _, rfl⟩
 | none =>
 cases h4 : bad4 u with
 | some v => obtain ⟨f, n, rfl⟩ := code4 h4; exact ⟨_, _, _, rfl⟩
 | none =>
 cases h5 : bad5 u with
 | some v => obtain ⟨f, n, rfl⟩ := code5 h5; exact ⟨_, _, _, rfl⟩
 | none => exact third3_scal u
section
variable {D : Ctx}
theorem eqFault (H : Door D) (c f n : Int) (σ : Store) : D.call 9 [encFault c f n, encFault c f n] σ = some (.bool true, σ) := by
 rw [H.f9]
 unfold sh_q5 encFault
 simp
theorem law_true (H : Door D) {l : List LFn} (hf : ∀ p ∈ l, p.Fits) (hn : l.length ≤ 9223372036854775807) : D.call 4 [encUnit l] Store.empty = some (.bool true, Store.empty) := by
 rw [H.f4]
 unfold sh_q0
 have eU : AV.agg [encFns l] = encUnit l := rfl
 have r1 : ∀ σ, rdN 1 (.pptr (AV.cells (encUnit l)) 0) σ = some [encFns l] := fun _ => rdN_p rfl
 obtain ⟨r, c1, hsm⟩ := szUnit H l hf hn Store.empty
 have v5 : callV D 5 [encUnit l, .int .i64 1048576] Store.empty = some (.int .i64 r) := callV_eq (by simp [depth, view_Unit]) c1 rfl
 simp only [r1, Obs, eU, v5, bin_lss, aCase_bool]
 by_cases hr : r < 0
 ·rw [if_pos (by rw [Dte]; exact hr)]
 rw [if_neg (by rw [Dte]; exact hr)]
 have hl := hsm (by omega)
 obtain ⟨c, f, n, hw⟩ := check3_enc l
 have e7 : callP D 7 [encUnit l] = some (encUnit l) := toUnit H l hl
 have e6 : callV D 6 [encUnit l] Store.empty = some (encFault c f n) := callV_eq (by simp [depth, view_Unit]) (by rw [← hw]; exact spec_check H l hl Store.empty) rfl
 have e8 : callV D 8 [encUnit l] Store.empty = some (encFault c f n) := callV_ret (us := [encUnit l]) (by simp [depth, view_Unit]) (by rw [← hw]; exact icheck H l hl (fun r => Ret r (check3 l)) (fun σ' => ⟨σ', rfl⟩) Store.empty) rfl
 have e9 : callV D 9 [.agg [.int .i64 c, .int .i64 f, .int .i64 n], .agg [.int .i64 c, .int .i64 f, .int .i64 n]] Store.empty = some (.bool true) := callV_eq (args := [encFault c f n, encFault c f n]) (by rfl) (eqFault H c f n Store.empty) rfl
 have e10 : callV D 10 [encUnit l, encUnit l] Store.empty = some (.bool true) := callV_eq (by simp [depth, view_Unit]) (eqUnit H l hl Store.empty) rfl
 have a3 : asplit 3 (encFault c f n) = some [.int .i64 c, .int .i64 f, .int .i64 n] := rfl
 have a1 : asplit 1 (encUnit l) = some [encFns l] := rfl
 have r3 : rdN 3 (.pptr [.int .i64 c, .int .i64 f, .int .i64 n] 0) Store.empty = some [.int .i64 c, .int .i64 f, .int .i64 n] := rdN_p rfl
 have r1' : rdN 1 (.pptr [encFns l] 0) Store.empty = some [encFns l] := rdN_p rfl
 simp only [e6, e7, e8, e9, e10, a1, a3, r1', r3, eU, Obs, un_not, aCase_bool, Bool.not_true, Bft, if_false]
end
end Go.Asm.UnitF
/- From a row's data to the machine's values, and back: the start of a law's run. -/
namespace Go.Asm
open Go Go.ChangeShapes Go.WideShapes Go.RowKit

/-- All that is there is immutable for the run. -/
def G0 (W : World) : Gh := ⟨fun g => g < W.heap.size, fun _ => none⟩
theorem HI.start (W : World) (Gl : Nat → Option AV) (hg : ∀ g v, Gl g = some v → g < W.heap.size ∧ ∃ c, cellOf W.heap ⟨g, 0, none⟩ = some c ∧ VRel W.heap (G0 W) v c) :
  HI (here W (G0 W) Store.empty Gl) W (G0 W) (fun _ => none) [] Store.empty where
 fzlt := fun g h => h
 blk := fun x b h => by cases h
 inj := fun x y h => by simp [Store.empty] at h
 next := fun x _ => ⟨rfl, rfl⟩
 lrel := fun s n cs h => by cases h
 linj := fun s t h => by simp [Loc.get_nil] at h
 ldis := fun s h => by simp [Loc.get_nil] at h
 os := rfl
 tape := rfl
 output := rfl
 size := Nat.le_refl _
 keep := fun _ _ _ => rfl
 fresh := fun x b h => by cases h
 lfresh := fun s h => by simp [Loc.get_nil] at h
 fzfresh := fun g h => .inl h
 fz0 := fun g h => h
 bm0 := fun x p h => h
 bmlt := fun x g m h => by cases h
 glob := fun g v h => hg g v h

/-- What a law that gives true leaves: nothing that was there has turned. -/
theorem law_run {P : Program} {Gl : Nat → Option AV} {f : Nat} {v : AV} {σ' : Store} (Dn : Den P Gl f [v] Store.empty (.bool true, σ')) {W : World} {c : Value}
  (hg : ∀ g v, Gl g = some v → g < W.heap.size ∧ ∃ c, cellOf W.heap ⟨g, 0, none⟩ = some c ∧ VRel W.heap (G0 W) v c) (hc : VRel W.heap (G0 W) v c) :
  Calls P f #[c] W fun e W' => e = .returned (.bool true) ∧ Below W.heap.size W W' := by
 have := Dn.run W (G0 W) [c] (HI.start W Gl hg) (VRels.cons hc VRels.nil)
 refine this.mono fun e W' h => ?_
 cases e with
 | returned u =>
  obtain ⟨G', H, r⟩ := h
  have : u = .bool true := by cases r; rfl
  subst this
  exact ⟨rfl, H.os, H.tape, H.output, H.size, fun k hk => H.keep k hk fun ⟨x, b, m, hb, _⟩ => by cases hb⟩
 | _ => exact h.elim

section
variable {H : Type} {enc : TypeId × Value → H} {P : Program} {W : World} {sp : Nat → Bool} {held : Bool}

/-- `post` where old memory alone is known to be as it was. -/
theorem post_of_old {f : Func} {s : ChangeSpec} {apart fresh handsOn again : Bool} {W W' : World} {args : Array Value} {v : Value} {ds gs : List (DataW H)} {before pa pv : List MemPlace}
  (hW : DataW.Whole enc P f.params.toList s.vars apart W args.toList ds gs before)
  (hres : ∀ (b : Nat) (sp : Nat → Bool) (hd : Bool), DataW.TrodAll enc P W' b sp hd f.resultTypes.toList (v.resultList f.resultTypes.size) (s.fn H (ds ++ gs)).results [])
  (hargs : ∀ sp : Nat → Bool, (∀ p ∈ before, sp p.block = true) → DataW.TrodAll enc P W' 0 sp true f.params.toList args.toList (s.fn H (ds ++ gs)).args pa)
  (hvars : ∀ sp : Nat → Bool, (∀ p ∈ before, sp p.block = true) → DataW.TrodVars enc P W' sp s.vars (s.fn H (ds ++ gs)).vars pv)
  (hps : before = pa ++ pv) (hb : Below W.heap.size W W')
  (hok : ∀ (j : Nat) (t : TypeId) (r : Value), f.resultTypes[j]? = some t → (v.resultList f.resultTypes.size)[j]? = some r → Value.okWide P W' .any 0 t r) :
  s.post enc P f apart fresh handsOn again W args v W' := by
 have hlt : ∀ p ∈ before, p.block < W.heap.size := fun p hp => by simpa using hW.lt p hp
 have hold : ∀ p ∈ before, (fun b => decide (b < W.heap.size)) p.block = true := fun p hp => by simpa using hlt p hp
 refine ⟨ds, gs, before, [], pa, pv, hW, hres _ _ _, hargs _ hold, hvars _ hold, World.keptBut_mono (fun p hp => ⟨hp, ?_⟩) (hb.frame (· ∈ before)), fun _ => ?_⟩
 ·rw [hps, List.mem_append] at hp
  exact Or.inr hp
 ·obtain ⟨_, _, _, _, _, hz, hn⟩ := hW
  refine ⟨hok, _, _, ([] ++ pa) ++ pv, ⟨[] ++ pa, pv, trodAll_append (hargs _ (fun _ _ => rfl)) (hres _ _ _), hvars _ (fun _ _ => rfl), rfl, ?_, ?_⟩, ?_⟩
  ·intro b off hp
   have hp' : MemPlace.cell b off ∈ before := by rw [hps]; simpa using hp
   rw [hb.frozen (p := ⟨b, off, none⟩) (hlt _ hp')]
   exact hz b off hp'
  ·intro ha
   have := hn ha
   rw [hps] at this
   simpa using this
  ·intro p hp _
   rw [hps]
   simpa using hp

/-! ### opening -/
theorem trod_flt {t : TypeId} (ht : P.underlying t = some (.float .f64)) {base fuel : Nat} {cs : List Value} {x : DataW H × List MemPlace} (h : DataW.trod enc P W base sp held fuel t cs = some x) : ∃ b, cs = [.float .f64 b] := by
 cases fuel with
 | zero => simp [DataW.trod] at h
 | succ n =>
  unfold DataW.trod at h
  rw [ht] at h
  split at h <;> simp_all
theorem choose_list {α : Type} {n : Nat} {R : Nat → α → Prop} (h : ∀ i, i < n → ∃ x, R i x) : ∃ l : List α, l.length = n ∧ ∀ i x, l[i]? = some x → R i x := by
 induction n with
 | zero => exact ⟨[], rfl, fun i x h => by simp at h⟩
 | succ n ih =>
  obtain ⟨l, h1, h2⟩ := ih fun i hi => h i (by omega)
  obtain ⟨x, hx⟩ := h n (by omega)
  refine ⟨l ++ [x], by simp [h1], fun i y hy => ?_⟩
  rw [List.getElem?_append] at hy
  split at hy
  ·exact h2 i y hy
  ·have : i = n := by
    have := (List.getElem?_eq_some_iff.1 hy).1
    simp at this; omega
   subst this
   rw [h1] at hy
   simp at hy
   subst hy
   exact hx
theorem cell_lt {a : Addr} {c : Value} (h : W.cell? a = some c) : a.block < W.heap.size := by
 rw [cell_cellOf] at h
 unfold cellOf at h
 split at h
 ·rename_i h1; exact lt_of_get h1
 ·cases h
/-- A slice of the arguments' as immutable data. -/
theorem rel_slice {α : Type} (encR : α → List AV) {sz : Nat} (hsz : ∀ x, (encR x).length = sz) (Q : α → Prop) {a : Addr} {len cap : Nat} (hlen : len ≤ cap)
  (h : ∀ i, i < len → ∃ x : α, Q x ∧ ∀ j v, (encR x)[j]? = some v → ∃ c, W.cell? (a.add (i * sz + j)) = some c ∧ c.oneCell' = true ∧ VRel W.heap (G0 W) v c) :
  ∃ l : List α, l.length = len ∧ (∀ x ∈ l, Q x) ∧ VRel W.heap (G0 W) (.pslice sz (l.map fun x => .agg (encR x))) (.slice (some a) len cap) := by
 obtain ⟨l, hl, hR⟩ := choose_list h
 have key : ∀ (i : Nat) (row : List AV) (j : Nat) (v : AV), (l.map fun x => AV.agg (encR x))[i]? = some (AV.agg row) → row[j]? = some v → ∃ c, W.cell? (a.add (i * sz + j)) = some c ∧ c.oneCell' = true ∧ VRel W.heap (G0 W) v c := by
  intro i row j v hi hj
  simp only [List.getElem?_map, Option.map_eq_some_iff] at hi
  obtain ⟨x, hx, e⟩ := hi
  cases e
  exact (hR i x hx).2 j v hj
 refine ⟨l, hl, fun x hx => ?_, ?_⟩
 ·obtain ⟨i, hi⟩ := List.getElem?_of_mem hx
  exact (hR i x hi).1
 ·have hL : (l.map fun x => AV.agg (encR x)).length = len := by simp [hl]
  rw [← hL]
  refine .pslice a cap (fun i j => (W.cell? (a.add (i * sz + j))).getD undef) (fun hp => ?_) (by omega) (fun i r hi => ?_) (fun i row j v hi hj => ?_) (fun i row j v hi hj => ?_)
  ·have h0 : 0 < (l.map fun x => AV.agg (encR x)).length := Nat.pos_of_mul_pos_right hp
   have h1 : 0 < sz := Nat.pos_of_mul_pos_left hp
   simp at h0
   match l, h0 with
   | x :: r, _ =>
    cases hq : encR x with
    | nil => have := hsz x; rw [hq] at this; simp at this; omega
    | cons v r =>
     obtain ⟨c, hc, _⟩ := (hR 0 x rfl).2 0 v (by rw [hq]; rfl)
     have := cell_lt hc
     rw [add_block] at this
     exact this
  ·simp only [List.getElem?_map, Option.map_eq_some_iff] at hi
   obtain ⟨x, hx, rfl⟩ := hi
   exact ⟨_, rfl, hsz x⟩
  ·obtain ⟨c, h1, h2, h3⟩ := key i row j v hi hj
   rw [← cell_cellOf, h1]
   exact ⟨rfl, h2⟩
  ·obtain ⟨c, h1, h2, h3⟩ := key i row j v hi hj
   rw [h1]
   exact h3

/-- The cells of one element. -/
theorem elem_cells {e : TypeId} {n base : Nat} {a : Addr} {i sz : Nat} {y : DataW H × List MemPlace} (hsz : P.cellsOf e = sz)
  (h : (W.cells? base (a.add (i * P.cellsOf e)) (P.cellsOf e)).bind (DataW.trod enc P W base sp held n e) = some y) :
  ∃ cs, cs.length = sz ∧ (∀ j, j < sz → W.cell? (a.add (i * sz + j)) = cs[j]?) ∧ DataW.trod enc P W base sp held n e cs = some y := by
 rw [hsz] at h
 cases hc : W.cells? base (a.add (i * sz)) sz with
 | none => rw [hc] at h; cases h
 | some cs =>
  rw [hc] at h
  obtain ⟨_, h1, h2⟩ := World.cells?_some hc
  exact ⟨cs, h1, fun j hj => by rw [← add_add]; exact h2 j hj, h⟩

theorem rel_strs {t e : TypeId} (ht : P.underlying t = some (.slice e)) (he : P.underlying e = some .string) (hsz : P.cellsOf e = 1) {base fuel : Nat} {c : Value} {x : DataW H × List MemPlace} (h : DataW.trod enc P W base sp held fuel t [c] = some x) :
  ∃ l : List ByteArray, l.length ≤ maxLen ∧ (∀ s ∈ l, s.size ≤ maxLen) ∧ VRel W.heap (G0 W) (encS l) c ∧ c.oneCell' = true := by
 rcases DataW.trod_slice ht h with ⟨h1, _⟩ | ⟨a, len, cap, elems, rest, n, _, h1, _, _, h2, h3, h4, h5, _⟩
 ·cases h1
  exact ⟨[], by simp, fun s hs => by simp at hs, .pnil, rfl⟩
 ·cases h1
  obtain ⟨l, q1, q2, q3⟩ := rel_slice (W := W) (fun s : ByteArray => [AV.str s]) (sz := 1) (fun _ => rfl) (fun s => s.size ≤ maxLen) (a := a) (len := len) (cap := cap) h2 (fun i hi => by
   have h6 := h5 i hi
   rw [Lge (by omega)] at h6
   obtain ⟨cs, c1, c2, c3⟩ := elem_cells hsz h6
   obtain ⟨s, rfl, _, h7⟩ := DataW.trod_string he c3
   refine ⟨s, h7, fun j v hj => ?_⟩
   cases j with
   | zero =>
    simp at hj; subst hj
    exact ⟨_, (c2 0 (by omega)), rfl, .str⟩
   | succ j => simp at hj)
  exact ⟨l, by omega, q2, q3, rfl⟩
theorem rel_ints {t e : TypeId} (ht : P.underlying t = some (.slice e)) (he : P.underlying e = some (.int .i64)) (hsz : P.cellsOf e = 1) {base fuel : Nat} {c : Value} {x : DataW H × List MemPlace} (h : DataW.trod enc P W base sp held fuel t [c] = some x) :
  ∃ l : List Int, l.length ≤ maxLen ∧ VRel W.heap (G0 W) (encI l) c ∧ c.oneCell' = true := by
 rcases DataW.trod_slice ht h with ⟨h1, _⟩ | ⟨a, len, cap, elems, rest, n, _, h1, _, _, h2, h3, h4, h5, _⟩
 ·cases h1
  exact ⟨[], by simp, .pnil, rfl⟩
 ·cases h1
  obtain ⟨l, q1, _, q3⟩ := rel_slice (W := W) (fun s : Int => [AV.int .i64 s]) (sz := 1) (fun _ => rfl) (fun _ => True) (a := a) (len := len) (cap := cap) h2 (fun i hi => by
   have h6 := h5 i hi
   rw [Lge (by omega)] at h6
   obtain ⟨cs, c1, c2, c3⟩ := elem_cells hsz h6
   obtain ⟨s, rfl, _, h7⟩ := DataW.trod_int he c3
   refine ⟨s, trivial, fun j v hj => ?_⟩
   cases j with
   | zero =>
    simp at hj; subst hj
    exact ⟨_, (c2 0 (by omega)), rfl, .int⟩
   | succ j => simp at hj)
  exact ⟨l, by omega, q3, rfl⟩
end
end Go.Asm
namespace Go.Asm.UnitF
open Go Go.Asm Go.Proofs
set_option maxRecDepth 100000
theorem ok_4 : fnOk Try.prog 4 ir_q0 = true := by kernel_rfl
theorem ok_5 : fnOk Try.prog 5 ir_q1 = true := by kernel_rfl
theorem ok_6 : fnOk Try.prog 6 ir_q2 = true := by kernel_rfl
theorem ok_7 : fnOk Try.prog 7 ir_q3 = true := by kernel_rfl
theorem ok_8 : fnOk Try.prog 8 ir_q4 = true := by kernel_rfl
theorem ok_9 : fnOk Try.prog 9 ir_q5 = true := by kernel_rfl
theorem ok_10 : fnOk Try.prog 10 ir_q6 = true := by kernel_rfl
theorem ok_11 : fnOk Try.prog 11 ir_q7 = true := by kernel_rfl
theorem ok_12 : fnOk Try.prog 12 ir_q8 = true := by kernel_rfl
theorem ok_13 : fnOk Try.prog 13 ir_q9 = true := by kernel_rfl
theorem ok_14 : fnOk Try.prog 14 ir_q10 = true := by kernel_rfl
theorem ok_15 : fnOk Try.prog 15 ir_q11 = true := by kernel_rfl
theorem ok_16 : fnOk Try.prog 16 ir_q12 = true := by kernel_rfl
theorem ok_17 : fnOk Try.prog 17 ir_q13 = true := by kernel_rfl
theorem ok_18 : fnOk Try.prog 18 ir_q4_1 = true := by kernel_rfl
theorem ok_19 : fnOk Try.prog 19 ir_q14 = true := by kernel_rfl
theorem ok_20 : fnOk Try.prog 20 ir_q15 = true := by kernel_rfl
theorem ok_21 : fnOk Try.prog 21 ir_q16 = true := by kernel_rfl
theorem ok_22 : fnOk Try.prog 22 ir_q17 = true := by kernel_rfl
theorem ok_23 : fnOk Try.prog 23 ir_q18 = true := by kernel_rfl
theorem ok_24 : fnOk Try.prog 24 ir_q19 = true := by kernel_rfl
theorem ok_25 : fnOk Try.prog 25 ir_q20 = true := by kernel_rfl
theorem ok_26 : fnOk Try.prog 26 ir_q21 = true := by kernel_rfl
theorem ok_27 : fnOk Try.prog 27 ir_q22 = true := by kernel_rfl
theorem ok_28 : fnOk Try.prog 28 ir_q23 = true := by kernel_rfl
theorem ok_29 : fnOk Try.prog 29 ir_q24 = true := by kernel_rfl
theorem ok_30 : fnOk Try.prog 30 ir_q12_1 = true := by kernel_rfl
theorem ok_31 : fnOk Try.prog 31 ir_q12_2 = true := by kernel_rfl
theorem ok_32 : fnOk Try.prog 32 ir_q25 = true := by kernel_rfl
theorem ok_33 : fnOk Try.prog 33 ir_q26 = true := by kernel_rfl
theorem ok_34 : fnOk Try.prog 34 ir_q12_3 = true := by kernel_rfl
theorem ok_35 : fnOk Try.prog 35 ir_q13_1 = true := by kernel_rfl
theorem ok_36 : fnOk Try.prog 36 ir_q13_1_1 = true := by kernel_rfl
theorem ok_37 : fnOk Try.prog 37 ir_q27 = true := by kernel_rfl
theorem ok_38 : fnOk Try.prog 38 ir_q28 = true := by kernel_rfl
theorem ok_39 : fnOk Try.prog 39 ir_q29 = true := by kernel_rfl
theorem ok_40 : fnOk Try.prog 40 ir_q30 = true := by kernel_rfl
theorem ok_41 : fnOk Try.prog 41 ir_q31 = true := by kernel_rfl
theorem ok_42 : fnOk Try.prog 42 ir_q32 = true := by kernel_rfl
theorem ok_43 : fnOk Try.prog 43 ir_q33 = true := by kernel_rfl
theorem ok_44 : fnOk Try.prog 44 ir_q34 = true := by kernel_rfl
theorem ok_45 : fnOk Try.prog 45 ir_q35 = true := by kernel_rfl
theorem ok_46 : fnOk Try.prog 46 ir_q36 = true := by kernel_rfl
theorem ok_47 : fnOk Try.prog 47 ir_q37 = true := by kernel_rfl
theorem ok_48 : fnOk Try.prog 48 ir_q38 = true := by kernel_rfl
theorem ok_49 : fnOk Try.prog 49 ir_q39 = true := by kernel_rfl
theorem ok_50 : fnOk Try.prog 50 ir_q40 = true := by kernel_rfl
theorem ok_51 : fnOk Try.prog 51 ir_q41 = true := by kernel_rfl
theorem ok_52 : fnOk Try.prog 52 ir_q42 = true := by kernel_rfl
theorem ok_53 : fnOk Try.prog 53 ir_q43 = true := by kernel_rfl
theorem ok_54 : fnOk Try.prog 54 ir_q44 = true := by kernel_rfl
theorem ok_55 : fnOk Try.prog 55 ir_q45 = true := by kernel_rfl
theorem ok_56 : fnOk Try.prog 56 ir_q46 = true := by kernel_rfl
theorem ok_57 : fnOk Try.prog 57 ir_q47 = true := by kernel_rfl
theorem ok_58 : fnOk Try.prog 58 ir_q48 = true := by kernel_rfl
theorem ok_59 : fnOk Try.prog 59 ir_q49 = true := by kernel_rfl
theorem ok_60 : fnOk Try.prog 60 ir_q50 = true := by kernel_rfl
theorem ok_61 : fnOk Try.prog 61 ir_q51 = true := by kernel_rfl
theorem ok_62 : fnOk Try.prog 62 ir_q52 = true := by kernel_rfl
theorem ok_63 : fnOk Try.prog 63 ir_q53 = true := by kernel_rfl
theorem ok_64 : fnOk Try.prog 64 ir_q54 = true := by kernel_rfl
theorem ok_65 : fnOk Try.prog 65 ir_q55 = true := by kernel_rfl
theorem ok_66 : fnOk Try.prog 66 ir_q56 = true := by kernel_rfl
theorem ok_67 : fnOk Try.prog 67 ir_q57 = true := by kernel_rfl
theorem ok_68 : fnOk Try.prog 68 ir_q58 = true := by kernel_rfl
theorem okAll : ∀ f ifn, fns f = some ifn → fnOk Try.prog f ifn = true := by
 intro f ifn h
 unfold fns at h
 split at h
 ·cases h; exact ok_4
 ·cases h; exact ok_5
 ·cases h; exact ok_6
 ·cases h; exact ok_7
 ·cases h; exact ok_8
 ·cases h; exact ok_9
 ·cases h; exact ok_10
 ·cases h; exact ok_11
 ·cases h; exact ok_12
 ·cases h; exact ok_13
 ·cases h; exact ok_14
 ·cases h; exact ok_15
 ·cases h; exact ok_16
 ·cases h; exact ok_17
 ·cases h; exact ok_18
 ·cases h; exact ok_19
 ·cases h; exact ok_20
 ·cases h; exact ok_21
 ·cases h; exact ok_22
 ·cases h; exact ok_23
 ·cases h; exact ok_24
 ·cases h; exact ok_25
 ·cases h; exact ok_26
 ·cases h; exact ok_27
 ·cases h; exact ok_28
 ·cases h; exact ok_29
 ·cases h; exact ok_30
 ·cases h; exact ok_31
 ·cases h; exact ok_32
 ·cases h; exact ok_33
 ·cases h; exact ok_34
 ·cases h; exact ok_35
 ·cases h; exact ok_36
 ·cases h; exact ok_37
 ·cases h; exact ok_38
 ·cases h; exact ok_39
 ·cases h; exact ok_40
 ·cases h; exact ok_41
 ·cases h; exact ok_42
 ·cases h; exact ok_43
 ·cases h; exact ok_44
 ·cases h; exact ok_45
 ·cases h; exact ok_46
 ·cases h; exact ok_47
 ·cases h; exact ok_48
 ·cases h; exact ok_49
 ·cases h; exact ok_50
 ·cases h; exact ok_51
 ·cases h; exact ok_52
 ·cases h; exact ok_53
 ·cases h; exact ok_54
 ·cases h; exact ok_55
 ·cases h; exact ok_56
 ·cases h; exact ok_57
 ·cases h; exact ok_58
 ·cases h; exact ok_59
 ·cases h; exact ok_60
 ·cases h; exact ok_61
 ·cases h; exact ok_62
 ·cases h; exact ok_63
 ·cases h; exact ok_64
 ·cases h; exact ok_65
 ·cases h; exact ok_66
 ·cases h; exact ok_67
 ·cases h; exact ok_68
 ·cases h
end Go.Asm.UnitF
/- laws.FnExactCheckUnit returns true in whatever memory it is called, and leaves its argument. -/
namespace Go.Proofs.Ytebmeojmlakkoaa.fnExactCheckUnit
open Go Go.Asm Go.Asm.UnitF Go.ChangeShapes Go.WideShapes Go.ChangeAt Go.RowKit

theorem own : ownKnob Try.prog.godebug = none := by kernel_rfl
theorem laidOut : laidOutB Try.prog = true := by kernel_rfl
theorem c2 : Try.prog.cellsOf 2 = 1 := by kernel_rfl
theorem c3 : Try.prog.cellsOf 3 = 1 := by kernel_rfl
theorem c4 : Try.prog.cellsOf 4 = 1 := by kernel_rfl
theorem c9 : Try.prog.cellsOf 9 = 1 := by kernel_rfl
theorem c23 : Try.prog.cellsOf 23 = 1 := by kernel_rfl
theorem c25 : Try.prog.cellsOf 25 = 1 := by kernel_rfl
theorem c39 : Try.prog.cellsOf 39 = 1 := by kernel_rfl
theorem c44 : Try.prog.cellsOf 44 = 1 := by kernel_rfl
theorem c45 : Try.prog.cellsOf 45 = 1 := by kernel_rfl
theorem c62 : Try.prog.cellsOf 62 = 1 := by kernel_rfl
theorem c63 : Try.prog.cellsOf 63 = 1 := by kernel_rfl
theorem c65 : Try.prog.cellsOf 65 = 7 := by kernel_rfl
theorem c94 : Try.prog.cellsOf 94 = 8 := by kernel_rfl
theorem c101 : Try.prog.cellsOf 101 = 2 := by kernel_rfl

set_option maxRecDepth 100000
section
variable {H : Type} {enc : TypeId × Value → H} {W : World} {sp : Nat → Bool} {held : Bool} {base fuel : Nat}
theorem rel_up {cs : List Value} {x : DataW H × List MemPlace} (hl : cs.length = 2) (h : DataW.trod enc Try.prog W base sp held fuel 101 cs = some x) :
  ∃ p : LUp, True ∧ ∀ (j : Nat) v, (encUp p)[j]? = some v → ∃ c, cs[j]? = some c ∧ c.oneCell' = true ∧ VRel W.heap (G0 W) v c := by
 obtain ⟨xs, n, _, _, _, hn, hf⟩ := DataW.trod_struct Try.underlying101 h
 match cs, hl with
 | [v0, v1], _ =>
  have hs : ∀ i, i < 2 → ∃ y, xs[i]? = some y := fun i hi => ⟨xs[i]'(by rw [hn]; exact hi), Lge _⟩
  obtain ⟨y0, e0⟩ := hs 0 (by omega)
  obtain ⟨y1, e1⟩ := hs 1 (by omega)
  have f0 := hf 0 _ rfl
  have f1 := hf 1 _ rfl
  simp only [c4, List.drop_zero, List.take_succ_cons, List.take_zero, e0] at f0
  simp only [c3, List.drop_succ_cons, List.drop_zero, List.take_succ_cons, List.take_zero, e1] at f1
  obtain ⟨b0, r0, _⟩ := DataW.trod_bool Try.underlying4 f0
  obtain ⟨n1, r1, _, _⟩ := DataW.trod_int Try.underlying3 f1
  cases r0; cases r1
  refine ⟨⟨b0, n1⟩, trivial, fun j v hj => ?_⟩
  match j, hj with
  | 0, hj => cases hj; exact ⟨_, rfl, rfl, .bool⟩
  | 1, hj => cases hj; exact ⟨_, rfl, rfl, .int⟩
theorem rel_node {cs : List Value} {x : DataW H × List MemPlace} (hl : cs.length = 8) (h : DataW.trod enc Try.prog W base sp held fuel 94 cs = some x) :
  ∃ p : LNode, p.Fits ∧ ∀ (j : Nat) v, (encNode p)[j]? = some v → ∃ c, cs[j]? = some c ∧ c.oneCell' = true ∧ VRel W.heap (G0 W) v c := by
 obtain ⟨xs, n, _, _, _, hn, hf⟩ := DataW.trod_struct Try.underlying94 h
 match cs, hl with
 | [v0, v1, v2, v3, v4, v5, v6, v7], _ =>
  have hs : ∀ i, i < 8 → ∃ y, xs[i]? = some y := fun i hi => ⟨xs[i]'(by rw [hn]; exact hi), Lge _⟩
  obtain ⟨y0, e0⟩ := hs 0 (by omega)
  obtain ⟨y1, e1⟩ := hs 1 (by omega)
  obtain ⟨y2, e2⟩ := hs 2 (by omega)
  obtain ⟨y3, e3⟩ := hs 3 (by omega)
  obtain ⟨y4, e4⟩ := hs 4 (by omega)
  obtain ⟨y5, e5⟩ := hs 5 (by omega)
  obtain ⟨y6, e6⟩ := hs 6 (by omega)
  obtain ⟨y7, e7⟩ := hs 7 (by omega)
  have f0 := hf 0 _ rfl
  have f1 := hf 1 _ rfl
  have f2 := hf 2 _ rfl
  have f3 := hf 3 _ rfl
  have f4 := hf 4 _ rfl
  have f5 := hf 5 _ rfl
  have f6 := hf 6 _ rfl
  have f7 := hf 7 _ rfl
  simp only [c3, List.drop_zero, List.take_succ_cons, List.take_zero, e0] at f0
  simp only [c3, List.drop_succ_cons, List.drop_zero, List.take_succ_cons, List.take_zero, e1] at f1
  simp only [c3, List.drop_succ_cons, List.drop_zero, List.take_succ_cons, List.take_zero, e2] at f2
  simp only [c2, List.drop_succ_cons, List.drop_zero, List.take_succ_cons, List.take_zero, e3] at f3
  simp only [c44, List.drop_succ_cons, List.drop_zero, List.take_succ_cons, List.take_zero, e4] at f4
  simp only [c9, List.drop_succ_cons, List.drop_zero, List.take_succ_cons, List.take_zero, e5] at f5
  simp only [c45, List.drop_succ_cons, List.drop_zero, List.take_succ_cons, List.take_zero, e6] at f6
  simp only [c45, List.drop_succ_cons, List.drop_zero, List.take_succ_cons, List.take_zero, e7] at f7
  obtain ⟨n0, r0, _, _⟩ := DataW.trod_int Try.underlying3 f0
  obtain ⟨n1, r1, _, _⟩ := DataW.trod_int Try.underlying3 f1
  obtain ⟨n2, r2, _, _⟩ := DataW.trod_int Try.underlying3 f2
  obtain ⟨n3, r3, _, _⟩ := DataW.trod_int Try.underlying2 f3
  obtain ⟨n4, r4⟩ := trod_flt Try.underlying44 f4
  obtain ⟨s5, r5, _, z5⟩ := DataW.trod_string Try.underlying9 f5
  obtain ⟨l6, z6, q6, o6⟩ := rel_ints Try.underlying45 Try.underlying3 c3 f6
  obtain ⟨l7, z7, q7, o7⟩ := rel_ints Try.underlying45 Try.underlying3 c3 f7
  cases r0; cases r1; cases r2; cases r3; cases r4; cases r5
  have hm : maxLen ≤ 9223372036854775807 := by decide
  refine ⟨⟨n0, n1, n2, n3, n4, s5, l6, l7⟩, ⟨Nat.le_trans z5 hm, Nat.le_trans z6 hm, Nat.le_trans z7 hm⟩, fun j v hj => ?_⟩
  match j, hj with
  | 0, hj => cases hj; exact ⟨_, rfl, rfl, .int⟩
  | 1, hj => cases hj; exact ⟨_, rfl, rfl, .int⟩
  | 2, hj => cases hj; exact ⟨_, rfl, rfl, .int⟩
  | 3, hj => cases hj; exact ⟨_, rfl, rfl, .int⟩
  | 4, hj => cases hj; exact ⟨_, rfl, rfl, .flt (.inl rfl)⟩
  | 5, hj => cases hj; exact ⟨_, rfl, rfl, .str⟩
  | 6, hj => cases hj; exact ⟨_, rfl, o6, q6⟩
  | 7, hj => cases hj; exact ⟨_, rfl, o7, q7⟩
/-- A slice of rows. -/
theorem rel_rows {α : Type} (encR : α → List AV) {sz : Nat} (hsz : ∀ x, (encR x).length = sz) (Q : α → Prop) {t e : TypeId} (ht : Try.prog.underlying t = some (.slice e)) (hc : Try.prog.cellsOf e = sz) {c : Value} {x : DataW H × List MemPlace} (h : DataW.trod enc Try.prog W base sp held fuel t [c] = some x)
  (hr : ∀ {base fuel : Nat} {cs : List Value} {x : DataW H × List MemPlace}, cs.length = sz → DataW.trod enc Try.prog W base sp held fuel e cs = some x → ∃ p : α, Q p ∧ ∀ (j : Nat) v, (encR p)[j]? = some v → ∃ c, cs[j]? = some c ∧ c.oneCell' = true ∧ VRel W.heap (G0 W) v c) :
  ∃ l : List α, l.length ≤ 9223372036854775807 ∧ (∀ p ∈ l, Q p) ∧ VRel W.heap (G0 W) (.pslice sz (l.map fun p => .agg (encR p))) c ∧ c.oneCell' = true := by
 have hm : maxLen ≤ 9223372036854775807 := by decide
 rcases DataW.trod_slice ht h with ⟨h1, _⟩ | ⟨a, len, cap, elems, rest, m, _, h1, _, _, h2, h3, h4, h5, _⟩
 ·cases h1
  exact ⟨[], by simp, by simp, .pnil, rfl⟩
 ·cases h1
  obtain ⟨l, q1, q2, q3⟩ := rel_slice (W := W) encR hsz Q (a := a) (len := len) (cap := cap) h2 (fun i hi => by
   have h6 := h5 i hi
   rw [Lge (by omega)] at h6
   obtain ⟨cs, k1, k2, k3⟩ := elem_cells hc h6
   obtain ⟨p, hp, hr⟩ := hr k1 k3
   refine ⟨p, hp, fun j v hj => ?_⟩
   obtain ⟨c, g1, g2, g3⟩ := hr j v hj
   have hjs : j < sz := by have := (List.getElem?_eq_some_iff.1 hj).1; rw [hsz] at this; exact this
   exact ⟨c, (k2 j hjs).trans g1, g2, g3⟩)
  exact ⟨l, by omega, q2, q3, rfl⟩
theorem rel_fn {cs : List Value} {x : DataW H × List MemPlace} (hl : cs.length = 7) (h : DataW.trod enc Try.prog W base sp held fuel 65 cs = some x) :
  ∃ p : LFn, p.Fits ∧ ∀ (j : Nat) v, (encFn p)[j]? = some v → ∃ c, cs[j]? = some c ∧ c.oneCell' = true ∧ VRel W.heap (G0 W) v c := by
 obtain ⟨xs, n, _, _, _, hn, hf⟩ := DataW.trod_struct Try.underlying65 h
 match cs, hl with
 | [v0, v1, v2, v3, v4, v5, v6], _ =>
  have hs : ∀ i, i < 7 → ∃ y, xs[i]? = some y := fun i hi => ⟨xs[i]'(by rw [hn]; exact hi), Lge _⟩
  obtain ⟨y0, e0⟩ := hs 0 (by omega)
  obtain ⟨y1, e1⟩ := hs 1 (by omega)
  obtain ⟨y2, e2⟩ := hs 2 (by omega)
  obtain ⟨y3, e3⟩ := hs 3 (by omega)
  obtain ⟨y4, e4⟩ := hs 4 (by omega)
  obtain ⟨y5, e5⟩ := hs 5 (by omega)
  obtain ⟨y6, e6⟩ := hs 6 (by omega)
  have f0 := hf 0 _ rfl
  have f1 := hf 1 _ rfl
  have f2 := hf 2 _ rfl
  have f3 := hf 3 _ rfl
  have f4 := hf 4 _ rfl
  have f5 := hf 5 _ rfl
  have f6 := hf 6 _ rfl
  simp only [c9, List.drop_zero, List.take_succ_cons, List.take_zero, e0] at f0
  simp only [c3, List.drop_succ_cons, List.drop_zero, List.take_succ_cons, List.take_zero, e1] at f1
  simp only [c3, List.drop_succ_cons, List.drop_zero, List.take_succ_cons, List.take_zero, e2] at f2
  simp only [c4, List.drop_succ_cons, List.drop_zero, List.take_succ_cons, List.take_zero, e3] at f3
  simp only [c39, List.drop_succ_cons, List.drop_zero, List.take_succ_cons, List.take_zero, e4] at f4
  simp only [c62, List.drop_succ_cons, List.drop_zero, List.take_succ_cons, List.take_zero, e5] at f5
  simp only [c63, List.drop_succ_cons, List.drop_zero, List.take_succ_cons, List.take_zero, e6] at f6
  obtain ⟨s0, r0, _, z0⟩ := DataW.trod_string Try.underlying9 f0
  obtain ⟨n1, r1, _, _⟩ := DataW.trod_int Try.underlying3 f1
  obtain ⟨n2, r2, _, _⟩ := DataW.trod_int Try.underlying3 f2
  obtain ⟨b3, r3, _⟩ := DataW.trod_bool Try.underlying4 f3
  obtain ⟨l4, z4, w4, q4, o4⟩ := rel_strs Try.underlying39 Try.underlying9 c9 f4
  obtain ⟨l5, z5, _, q5, o5⟩ := rel_rows encUp encUp_len (fun _ => True) Try.underlying62 c101 f5 (fun a b => rel_up a b)
  obtain ⟨l6, z6, w6, q6, o6⟩ := rel_rows encNode encNode_len LNode.Fits Try.underlying63 c94 f6 (fun a b => rel_node a b)
  cases r0; cases r1; cases r2; cases r3
  have hm : maxLen ≤ 9223372036854775807 := by decide
  refine ⟨⟨s0, n1, n2, b3, l4, l5, l6⟩, ⟨Nat.le_trans z0 hm, Nat.le_trans z4 hm, fun s hs => Nat.le_trans (w4 s hs) hm, z5, z6, w6⟩, fun j v hj => ?_⟩
  match j, hj with
  | 0, hj => cases hj; exact ⟨_, rfl, rfl, .str⟩
  | 1, hj => cases hj; exact ⟨_, rfl, rfl, .int⟩
  | 2, hj => cases hj; exact ⟨_, rfl, rfl, .int⟩
  | 3, hj => cases hj; exact ⟨_, rfl, rfl, .bool⟩
  | 4, hj => cases hj; exact ⟨_, rfl, o4, q4⟩
  | 5, hj => cases hj; exact ⟨_, rfl, o5, q5⟩
  | 6, hj => cases hj; exact ⟨_, rfl, o6, q6⟩
/-- The unit among the arguments. -/
theorem rel_unit {v : Value} {d : DataW H} {ps : List MemPlace} (hv : Value.okWide Try.prog W .any base 25 v) (h : DataW.Trod enc Try.prog W 0 sp held 25 v d ps) :
  ∃ l : List LFn, (∀ p ∈ l, p.Fits) ∧ l.length ≤ 9223372036854775807 ∧ VRel W.heap (G0 W) (encUnit l) v := by
 obtain ⟨fuel, hf⟩ := h
 have hv' : ∃ cs, v = .agg cs ∧ cs.size = 1 := by
  unfold Value.okWide at hv
  rw [Try.underlying25] at hv
  obtain ⟨cs, h1, h2, _⟩ := hv
  exact ⟨cs, h1, h2.trans c25⟩
 obtain ⟨⟨cs⟩, rfl, hsz⟩ := hv'
 match cs, hsz with
 | [c], _ =>
  obtain ⟨xs, n, _, _, _, hn, hff⟩ := DataW.trod_struct Try.underlying25 hf
  have f0 := hff 0 _ rfl
  have e0 : xs[0]? = some (xs[0]'(by rw [hn]; decide)) := Lge _
  rw [e0] at f0
  have f0' : DataW.trod enc Try.prog W 0 sp held n 23 [c] = some (xs[0]'(by rw [hn]; decide)) := by
   rw [← f0]
   simp [c23, Value.cells]
  obtain ⟨l, q1, q2, q3, q4⟩ := rel_rows encFn encFn_len LFn.Fits Try.underlying23 c65 f0' (fun a b => rel_fn a b)
  refine ⟨l, q2, q1, ?_⟩
  refine VRels.agg (VRels.cons q3 VRels.nil) (fun u hu => ?_)
  simp at hu
  subst hu
  exact q4
end
def Gz : Nat → Option AV := fun _ => none
set_option maxRecDepth 100000 in
theorem lifted (os : Os) (started : os.Started) (H : Type) (enc : TypeId × Value → H) :
  ReturnsInHanded {} Try.checked os 4 .any (Rows.fnExactCheckUnitSpec.pre6 enc Try.prog Try.f4 Rows.fnExactCheckUnitRow.domain false) (Rows.fnExactCheckUnitSpec.post enc Try.prog Try.f4 false true false false) := by
 refine returnsInHanded_of_change (C := Try.checked) own started (by kernel_rfl) Try.func4
  (ChangeSpec.witness6 (enc := enc) (C := Try.checked) false ⟨#[], #[.agg #[.slice none 0 0]], []⟩ 8 (by kernel_rfl) (by kernel_rfl) (by kernel_rfl) (by kernel_rfl)) ?_
 intro W base args ds gs before hval0 hW hcnd _
 have hval : ∀ (j : Nat) t v, Try.f4.params[j]? = some t → args[j]? = some v → Value.okWide Try.prog W .any base t v := hval0
 have hW' := hW
 obtain ⟨p, q, hA0, hV, rfl, hfz, hnd⟩ := hW
 have hA : DataW.TrodAll enc Try.prog W 0 (fun _ => true) true Try.f4.params.toList args.toList ds p := hA0
 rw [Try.params4] at hA hval
 obtain ⟨v0, d0, rfl, rfl, h0⟩ := trodAll_one hA
 obtain ⟨rfl, rfl⟩ := trodVars_none hV
 obtain ⟨l, hf, hn, hrel⟩ := rel_unit (hval 0 25 v0 rfl rfl) h0
 have hden := den_sound (P := Try.prog) (by kernel_rfl) Gz okAll
 have hrun := law_true (D := Ctx.den fns Gz) (l := l) (door Gz) hf hn
 have hcalls := law_run (hden 4 [encUnit l] Store.empty _ hrun) (W := W) (fun g v h => by cases h) hrel
 have hlt : ∀ x ∈ p, x.block < W.heap.size := fun x hx => by simpa using hW'.lt x (by simp [hx])
 refine hcalls.mono fun e W' ⟨hE, hbel⟩ => ?_
 subst hE
 refine ⟨_, rfl, post_of_old (pa := p) (pv := []) hW' (fun _ _ _ => trodAll_mk1 (shut_bool Try.underlying4 _)) (fun sp hsp => ?_) (fun _ _ => rfl) rfl hbel (ok_one (by kernel_rfl) rfl (okWide_bool_mk Try.underlying4 _))⟩
 refine trodAll_mk1 ?_
 exact WideElems.Trod_stays laidOut (by kernel_rfl) (of_decide_eq_true (by kernel_rfl)) h0 (fun x hx => hbel.same (hlt x hx)) (fun x hx => hsp x (by simp [hx]))
theorem over : Rows.fnExactCheckUnitRow.holds Try.pinned (OpenSpec.ofChange Rows.fnExactCheckUnitSpec) :=
 OpenClaim.holds_of_wide 4 Try.f4 rfl rfl rfl rfl rfl rfl rfl ⟨rfl, rfl, rfl, rfl, rfl⟩ rfl rfl rfl rfl rfl (by kernel_rfl) Try.func4 (by kernel_rfl)
  (of_decide_eq_true (by kernel_rfl)) (by unfold Func.isWrapper; first | (rw [if_pos (by decide +kernel)]; kernel_rfl) | (rw [if_neg (by decide +kernel)]; exact ⟨rfl, rfl⟩))
  (fun os started H enc _ => lifted os started H enc)

/-- The statement. -/
theorem proved : Rows.FnExactCheckUnitSaid :=
 over
#print axioms proved
end Go.Proofs.Ytebmeojmlakkoaa.fnExactCheckUnit
