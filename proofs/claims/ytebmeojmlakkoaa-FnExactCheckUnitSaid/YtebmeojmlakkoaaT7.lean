/- Part 7 of 8 of a proof. -/
import Derived.Test.YtebmeojmlakkoaaT6
set_option linter.all false
namespace Go.Asm.UnitF
open Go Go.Asm
def growK (i : Int) (par : List Int) (ks : List Int) : List Int := ks.foldl (fun par k => par.set k.toNat (if par.getD k.toNat 0 = -2 then i else -3)) par
def growA (par : List Int) : Nat → List LNode → List Int
 | _, [] => par
 | i, p :: ps => growA (growK i par p.kids) (i + 1) ps
def growD (par : List Int) : Nat → List Int → List Int
 | 0, dep => dep
 | k + 1, dep => growD par k (if 0 ≤ par.getD k 0 then dep.set k (dep.getD (par.getD k 0).toNat 0 + 1) else dep)
/-- The parents, as l3grow finds them. -/
def growP (l : List LNode) : List Int :=
 let par := growA (List.replicate l.length (-2)) 0 l
 if par.getD (l.length - 1) 0 = -2 then par.set (l.length - 1) (-1) else par
def growT (l : List LNode) : List Int := growD (growP l) (l.length - 1) (List.replicate l.length 0)
/-- Every kid is ahead of its node. -/
def Ahead (l : List LNode) : Prop := ∀ (i : Nat) p, l[i]? = some p → ∀ c ∈ p.kids, 0 ≤ c ∧ c < (i : Int)
theorem growK_len (i : Int) (ks par : List Int) : (growK i par ks).length = par.length := by
 unfold growK
 induction ks generalizing par with
 | nil => rfl
 | cons c ks ih => rw [List.foldl_cons, ih]; simp
theorem growA_len (l : List LNode) (par : List Int) (i : Nat) : (growA par i l).length = par.length := by
 induction l generalizing par i with
 | nil => rfl
 | cons p l ih => rw [growA, ih, growK_len]
section
variable {D : Ctx}
abbrev W2 : AV := .agg [.nilslice, .nilslice]
theorem fill_loop (n x y : Nat) (hxy : x ≠ y) (hn : n ≤ 1048576) (dep : List Int) (k : Cur 1) (Q : Res → Prop)
  (hk : ∀ σ', σ'.blk x = some (.cells (cI (List.replicate n (-2)))) → σ'.blk y = some (.cells (cI dep)) → Q (k W2 σ')) : ∀ i, i ≤ n → ∀ σ par, par.length = n → (∀ j, j < i → par.getD j 0 = -2) → σ.blk x = some (.cells (cI par)) → σ.blk y = some (.cells (cI dep)) →
  Q (lpFix 2 (lp_q20_1 D (.int .i64 n) (.hslice 1 x 0 n) k) (.int .i64 i) W2 σ) := by
 intro i hi σ
 refine lp_up2 (lp_q20_1_mono D (.int .i64 n) (.hslice 1 x 0 n) k) n W2 (fun i σ r => ∀ par, par.length = n → (∀ j, j < i → par.getD j 0 = -2) → σ.blk x = some (.cells (cI par)) → σ.blk y = some (.cells (cI dep)) → Q r) ?_ ?_ i hi σ
 ·intro R σ par hl hp hx hy
  unfold lp_q20_1
  simp only [bin_lss, Obs, aCase_bool, cells_agg]
  rw [if_neg (by simp)]
  have e : par = List.replicate n (-2) := by
   refine List.ext_getElem (by simp [hl]) fun j h1 h2 => ?_
   have := hp j (by omega)
   simpa [h1] using this
  subst e
  exact hk σ hx hy
 ·intro i hi R σ hR par hl hp hx hy
  unfold lp_q20_1
  simp only [bin_lss, Obs, aCase_bool, cells_agg, idx_h1 (x := x) (n := n) (i := (i : Int)) (by omega) (by omega), Int.toNat_natCast, wr_cI hx (show i < par.length by omega), bin_add (a := i) (b := 1) (by omega) (by omega)]
  rw [if_pos (by rw [Dte]; omega)]
  refine hR _ (par.set i (-2)) (by simp [hl]) ?_ upd_blk ((upd_ne (Ne.symm hxy)).trans hy)
  intro j hj
  by_cases hji : j = i
  ·subst hji; simp [hl, hi]
  ·have := hp j (by omega)
   simp only [List.getD_eq_getElem?_getD, List.getElem?_set] at this ⊢
   rw [if_neg (Ne.symm hji)]; exact this
theorem kids_loop (n x y : Nat) (hxy : x ≠ y) (hn : n ≤ 1048576) (f : Nat) (ks : List Int) (hkn : ks.length ≤ 1048576) (hks : ∀ c ∈ ks, 0 ≤ c ∧ c < (n : Int)) (dep : List Int) (k : Cur 1) (Q : Res → Prop) : ∀ i, i ≤ ks.length → ∀ σ par, par.length = n → σ.blk x = some (.cells (cI par)) → σ.blk y = some (.cells (cI dep)) →
  (∀ σ', σ'.blk x = some (.cells (cI (growK f par (ks.drop i)))) → σ'.blk y = some (.cells (cI dep)) → Q (k W2 σ')) →
  Q (lpFix 2 (lp_q20_2 D (.int .i64 ks.length) (encI ks) (.hslice 1 x 0 n) (.int .i64 f) k) (.int .i64 i) W2 σ) := by
 intro i hi σ
 refine lp_up2 (lp_q20_2_mono D (.int .i64 ks.length) (encI ks) (.hslice 1 x 0 n) (.int .i64 f) k) ks.length W2 (fun i σ r => ∀ par, par.length = n → σ.blk x = some (.cells (cI par)) → σ.blk y = some (.cells (cI dep)) → (∀ σ', σ'.blk x = some (.cells (cI (growK f par (ks.drop i)))) → σ'.blk y = some (.cells (cI dep)) → Q (k W2 σ')) → Q r) ?_ ?_ i hi σ
 ·intro R σ par hl hx hy hk
  unfold lp_q20_2
  simp only [bin_lss, Obs, aCase_bool, cells_agg]
  rw [if_neg (by simp)]
  refine hk σ ?_ hy
  rw [List.drop_length]; exact hx
 ·intro i hi R σ hR par hl hx hy hk
  have hse : ks[i]? = some ks[i] := Lge hi
  obtain ⟨c0, c1⟩ := hks _ (List.getElem_mem hi)
  have hcl : ks[i].toNat < par.length := by omega
  have hd : growK f par (ks.drop i) = growK f (par.set ks[i].toNat (if par.getD ks[i].toNat 0 = -2 then (f : Int) else -3)) (ks.drop (i + 1)) := by rw [List.drop_eq_getElem_cons hi]; rfl
  rw [hd] at hk
  have o1 : one (.int .i64 (f : Int)) = some (.int .i64 (f : Int)) := rfl
  unfold lp_q20_2
  simp only [bin_lss, Obs, aCase_bool, jn_eq, cells_agg, idx_encI hse, rd1_p, Lgz, idx_h1 (x := x) (n := n) c0 c1, rd1_cI hx hcl, bin_eql, o1, wr_cI hx hcl, bin_add (a := i) (b := 1) (by omega) (by omega)]
  rw [if_pos (by rw [Dte]; omega)]
  by_cases h2 : par.getD ks[i].toNat 0 = -2
  ·rw [if_pos (by rw [Dte]; exact h2)]
   rw [if_pos h2] at hk
   exact hR _ _ (by simp [hl]) upd_blk ((upd_ne (Ne.symm hxy)).trans hy) hk
  ·rw [if_neg (by rw [Dte]; exact h2)]
   rw [if_neg h2] at hk
   exact hR _ _ (by simp [hl]) upd_blk ((upd_ne (Ne.symm hxy)).trans hy) hk
theorem nodes_loop (l : List LNode) (hl : l.length ≤ 1048576) (hs : ∀ p ∈ l, p.Small) (ha : Ahead l) (x y : Nat) (hxy : x ≠ y) (dep : List Int) (k : Cur 1) (Q : Res → Prop) : ∀ i, i ≤ l.length → ∀ σ par, par.length = l.length → σ.blk x = some (.cells (cI par)) → σ.blk y = some (.cells (cI dep)) →
  (∀ σ', σ'.blk x = some (.cells (cI (growA par i (l.drop i)))) → σ'.blk y = some (.cells (cI dep)) → Q (k W2 σ')) →
  Q (lpFix 2 (lp_q20_3 D (.int .i64 l.length) (encNodes l) (.hslice 1 x 0 l.length) k) (.int .i64 i) W2 σ) := by
 intro i hi σ
 refine lp_up2 (lp_q20_3_mono D (.int .i64 l.length) (encNodes l) (.hslice 1 x 0 l.length) k) l.length W2 (fun i σ r => ∀ par, par.length = l.length → σ.blk x = some (.cells (cI par)) → σ.blk y = some (.cells (cI dep)) → (∀ σ', σ'.blk x = some (.cells (cI (growA par i (l.drop i)))) → σ'.blk y = some (.cells (cI dep)) → Q (k W2 σ')) → Q r) ?_ ?_ i hi σ
 ·intro R σ par hpl hx hy hk
  unfold lp_q20_3
  simp only [bin_lss, Obs, aCase_bool, cells_agg]
  rw [if_neg (by simp)]
  refine hk σ ?_ hy
  rw [List.drop_length]; exact hx
 ·intro i hi R σ hR par hpl hx hy hk
  have hse : l[i]? = some l[i] := Lge hi
  have hp := hs _ (List.getElem_mem hi)
  rw [List.drop_eq_getElem_cons hi, growA] at hk
  unfold lp_q20_3
  simp only [bin_lss, Obs, aCase_bool, jn_eq, cells_agg, idx_encNodes hse, fadd_p, Nat.zero_add, rd1_p, node_at7, len_encI, bin_add (a := i) (b := 1) (by omega) (by omega)]
  rw [if_pos (by rw [Dte]; omega)]
  refine kids_loop l.length x y hxy hl i l[i].kids hp.kids (fun c hc => by have := ha i _ hse c hc; omega) dep _ Q 0 (by omega) σ par hpl hx hy ?_
  intro σ' hx' hy'
  rw [List.drop_zero] at hx'
  exact hR σ' _ (by rw [growK_len, hpl]) hx' hy' hk
end
end Go.Asm.UnitF
namespace Go.Asm.UnitF
open Go Go.Asm
theorem cI_flat (l : List Int) : cI l = (l.map fun n => [AV.int .i64 n]).flatten := by
 induction l with
 | nil => rfl
 | cons a l ih => rw [List.map_cons, List.flatten_cons, ← ih]; rfl
theorem view_cI {σ : Store} {x d : Nat} {l : List Int} (hb : σ.blk x = some (.cells (cI l))) : view σ (d + 2) (.hslice 1 x 0 l.length) = some (encI l) := by
 have h := view_h (σ := σ) (sz := 1) (x := x) (d := d + 1) (rows := l.map fun n => [AV.int .i64 n]) (by rw [← cI_flat]; exact hb) (by simp) (by
  intro r hr v hv
  obtain ⟨n, _, rfl⟩ := List.mem_map.1 hr
  obtain rfl := List.mem_singleton.1 hv
  rfl)
 rw [List.length_map] at h
 rw [h]
 simp [encI]
/-- All entries are below n. -/
def Below3 (n : Int) (par : List Int) : Prop := ∀ v ∈ par, v < n
theorem growK_bd {n : Int} (hn : 0 < n) (i : Int) (hi : i < n) (ks par : List Int) (h : Below3 n par) : Below3 n (growK i par ks) := by
 unfold growK
 induction ks generalizing par with
 | nil => exact h
 | cons c ks ih =>
  rw [List.foldl_cons]
  refine ih _ fun v hv => ?_
  rcases List.mem_or_eq_of_mem_set hv with hv | rfl
  ·exact h v hv
  ·split <;> omega
theorem growA_bd {n : Int} (hn : 0 < n) (l : List LNode) (par : List Int) (i : Nat) (hi : (i : Int) + l.length ≤ n) (h : Below3 n par) : Below3 n (growA par i l) := by
 induction l generalizing par i with
 | nil => exact h
 | cons p l ih =>
  rw [List.length_cons] at hi
  rw [growA]
  exact ih _ (i + 1) (by omega) (growK_bd hn i (by omega) _ _ h)
theorem growP_len (l : List LNode) : (growP l).length = l.length := by
 simp only [growP]
 split <;> simp [growA_len]
theorem growP_bd (l : List LNode) (hl : 0 < l.length) : Below3 l.length (growP l) := by
 have h : Below3 l.length (growA (List.replicate l.length (-2)) 0 l) := growA_bd (by omega) l _ 0 (by omega) fun v hv => by
  have := (List.mem_replicate.1 hv).2
  omega
 simp only [growP]
 split
 ·intro v hv
  rcases List.mem_or_eq_of_mem_set hv with hv | rfl
  ·exact h v hv
  ·omega
 ·exact h
theorem getD_bd {n : Int} {par : List Int} (h : Below3 n par) {i : Nat} (hi : i < par.length) : par.getD i 0 < n := by
 have : par.getD i 0 = par[i] := by simp [hi]
 rw [this]; exact h _ (List.getElem_mem hi)
theorem getD_mem {l : List Int} {i : Nat} (h : i < l.length) : l.getD i 0 ∈ l := by
 have : l.getD i 0 = l[i] := by simp [h]
 rw [this]; exact List.getElem_mem h
theorem growD_len (par : List Int) (k : Nat) (dep : List Int) : (growD par k dep).length = dep.length := by
 induction k generalizing dep with
 | zero => rfl
 | succ k ih => rw [growD, ih]; split <;> simp
section
variable {D : Ctx}
theorem depth_loop (n x y : Nat) (hxy : x ≠ y) (hn : n ≤ 1048576) (par : List Int) (hpl : par.length = n) (hpb : Below3 n par) (k : Cur 1) (Q : Res → Prop) : ∀ (m : Nat) σ, ∀ dep, m ≤ n → dep.length = n → (∀ v ∈ dep, 0 ≤ v ∧ v + (m : Int) ≤ n) → σ.blk x = some (.cells (cI par)) → σ.blk y = some (.cells (cI dep)) →
  (∀ σ', σ'.blk x = some (.cells (cI par)) → σ'.blk y = some (.cells (cI (growD par m dep))) → Q (k W2 σ')) →
  Q (lpFix 2 (lp_q20_4 D (.hslice 1 x 0 n) (.hslice 1 y 0 n) k) (.int .i64 ((m : Int) - 1)) W2 σ) := by
 intro m σ
 refine lp_dn2 (lp_q20_4_mono D (.hslice 1 x 0 n) (.hslice 1 y 0 n) k) W2 (fun m σ r => ∀ dep, m ≤ n → dep.length = n → (∀ v ∈ dep, 0 ≤ v ∧ v + (m : Int) ≤ n) → σ.blk x = some (.cells (cI par)) → σ.blk y = some (.cells (cI dep)) → (∀ σ', σ'.blk x = some (.cells (cI par)) → σ'.blk y = some (.cells (cI (growD par m dep))) → Q (k W2 σ')) → Q r) ?_ ?_ m σ
 ·intro R σ dep _ hdl hdb hx hy hk
  unfold lp_q20_4
  simp only [bin_geq, Obs, aCase_bool, cells_agg]
  rw [if_neg (by simp)]
  exact hk σ hx hy
 ·intro m R σ hR dep hm hdl hdb hx hy hk
  have hb := getD_bd hpb (show m < par.length by omega)
  unfold lp_q20_4
  simp only [bin_geq, Obs, aCase_bool, jn_eq, cells_agg, idx_h1 (x := x) (n := n) (i := (m : Int)) (by omega) (by omega), idx_h1 (x := y) (n := n) (i := (m : Int)) (by omega) (by omega), Int.toNat_natCast, rd1_cI hx (show m < par.length by omega), bin_sub (a := m) (b := 1) (by omega) (by omega)]
  rw [if_pos (by rw [Dte]; omega)]
  rw [growD] at hk
  by_cases h : 0 ≤ par.getD m 0
  ·rw [if_pos (by rw [Dte]; exact h)]
   rw [if_pos h] at hk
   have hq : (par.getD m 0).toNat < dep.length := by omega
   have hv : dep.getD (par.getD m 0).toNat 0 ∈ dep := getD_mem hq
   obtain ⟨v0, v1⟩ := hdb _ hv
   have o1 : ∀ a : Int, one (.int .i64 a) = some (.int .i64 a) := fun _ => rfl
   simp only [idx_h1 (x := y) (n := n) h hb, Obs, rd1_cI hy hq, bin_add (a := dep.getD (par.getD m 0).toNat 0) (b := 1) (by omega) (by omega), o1, wr_cI hy (show m < dep.length by omega)]
   refine hR _ _ (by omega) (by simp [hdl]) ?_ ((upd_ne hxy).trans hx) upd_blk hk
   intro v hv
   rcases List.mem_or_eq_of_mem_set hv with hv | rfl
   ·have := hdb v hv; omega
   ·omega
  ·rw [if_neg (by rw [Dte]; exact h)]
   rw [if_neg h] at hk
   exact hR _ dep (by omega) hdl (fun v hv => by have := hdb v hv; omega) hx hy hk
theorem l3grow (H : Door D) (l : List LNode) (hl : l.length ≤ 1048576) (h0 : 0 < l.length) (hs : ∀ p ∈ l, p.Small) (ha : Ahead l) : callP D 25 [encNodes l] = some (.agg [encI (growP l), encI (growT l)]) := by
 have key : ∀ (Q : Res → Prop), (∀ σ', σ'.blk 0 = some (.cells (cI (growP l))) → σ'.blk 1 = some (.cells (cI (growT l))) → Q (some (.agg [.hslice 1 0 0 l.length, .hslice 1 1 0 l.length], σ'))) → Q (D.call 25 [encNodes l] Store.empty) := by
  intro Q hQ
  have m1 : mkSlice [.int .i64 0] (.int .i64 l.length) Store.empty = some (.hslice 1 0 0 l.length, Store.empty.add (.cells (cI (List.replicate l.length 0)))) := mk_cI (by omega)
  have m2 : mkSlice [.int .i64 0] (.int .i64 l.length) (Store.empty.add (.cells (cI (List.replicate l.length 0)))) = some (.hslice 1 1 0 l.length, (Store.empty.add (.cells (cI (List.replicate l.length 0)))).add (.cells (cI (List.replicate l.length 0)))) := mk_cI (by omega)
  have bx : ((Store.empty.add (.cells (cI (List.replicate l.length 0)))).add (.cells (cI (List.replicate l.length 0)))).blk 0 = some (.cells (cI (List.replicate l.length 0))) := rfl
  have by_ : ((Store.empty.add (.cells (cI (List.replicate l.length 0)))).add (.cells (cI (List.replicate l.length 0)))).blk 1 = some (.cells (cI (List.replicate l.length 0))) := rfl
  rw [H.f25]
  unfold sh_q20
  simp only [len_encNodes, Obs, m1, m2, one_h, jn_eq, cells_agg]
  refine fill_loop l.length 0 1 (by decide) hl (List.replicate l.length 0) _ Q ?_ 0 (by omega) _ (List.replicate l.length 0) (by simp) (by omega) bx by_
  intro σ1 hx1 hy1
  simp only [Obs, cells_agg]
  refine nodes_loop l hl hs ha 0 1 (by decide) (List.replicate l.length 0) _ Q 0 (by omega) σ1 (List.replicate l.length (-2)) (by simp) hx1 hy1 ?_
  intro σ2 hx2 hy2
  rw [List.drop_zero] at hx2
  have e1 : bin .sub .num (.int .i64 l.length) (.int .i64 1) = some (.int .i64 ((l.length - 1 : Nat) : Int)) := by
   rw [bin_sub (by omega) (by omega), show ((l.length : Int) - 1) = ((l.length - 1 : Nat) : Int) by omega]
  have hA : (growA (List.replicate l.length (-2)) 0 l).length = l.length := by simp [growA_len]
  simp only [Obs, cells_agg, e1, idx_h1 (x := 0) (n := l.length) (i := ((l.length - 1 : Nat) : Int)) (by omega) (by omega), Int.toNat_natCast, rd1_cI hx2 (show l.length - 1 < (growA (List.replicate l.length (-2)) 0 l).length by omega), bin_eql, aCase_bool, wr_cI hx2 (show l.length - 1 < (growA (List.replicate l.length (-2)) 0 l).length by omega), bin_sub (a := ((l.length - 1 : Nat) : Int)) (b := 1) (by omega) (by omega)]
  have fin : ∀ σ3 : Store, σ3.blk 0 = some (.cells (cI (growP l))) → σ3.blk 1 = some (.cells (cI (List.replicate l.length 0))) → Q (lpFix 2 (lp_q20_4 D (.hslice 1 0 0 l.length) (.hslice 1 1 0 l.length) fun _ s_25 => some (.agg [.hslice 1 0 0 l.length, .hslice 1 1 0 l.length], s_25)) (.int .i64 (((l.length - 1 : Nat) : Int) - 1)) W2 σ3) := fun σ3 hx3 hy3 =>
   depth_loop l.length 0 1 (by decide) hl (growP l) (growP_len l) (growP_bd l h0) _ Q (l.length - 1) σ3 (List.replicate l.length 0) (by omega) (by simp) (fun v hv => by have := (List.mem_replicate.1 hv).2; omega) hx3 hy3 hQ
  by_cases hlast : (growA (List.replicate l.length (-2)) 0 l).getD (l.length - 1) 0 = -2
  ·rw [if_pos (by rw [Dte]; exact hlast)]
   refine fin _ ?_ ((upd_ne (by decide)).trans hy2)
   rw [upd_blk]; simp only [growP, if_pos hlast]
  ·rw [if_neg (by rw [Dte]; exact hlast)]
   refine fin _ ?_ hy2
   rw [hx2]; simp only [growP, if_neg hlast]
 have hQ := key (fun r => (r.bind fun r => view r.2 depth r.1) = some (.agg [encI (growP l), encI (growT l)])) (fun σ' hx hy => by
  have t1 : (growT l).length = l.length := by simp [growT, growD_len]
  have w1 := view_cI (d := 9) hx
  have w2 := view_cI (d := 9) hy
  rw [growP_len] at w1
  rw [t1] at w2
  show view σ' (11 + 1) _ = _
  rw [view]
  simp only [List.mapM_cons, List.mapM_nil, w1, w2]
  rfl)
 have hv : [encNodes l].mapM (view Store.empty depth) = some [encNodes l] := by simp [depth]
 rw [callP, hv]
 exact hQ
end
end Go.Asm.UnitF
namespace Go.Asm.UnitF
open Go Go.Asm
/-- Each function has nodes, and every kid is ahead of its node. -/
def Good (u : List LFn) : Prop := ∀ x ∈ u, 0 < x.nodes.length ∧ Ahead x.nodes
def bad4n (x : LFn) (n : Nat) (p : LNode) : Bool :=
 if (n : Int) = (x.nodes.length : Int) - 1 then !decide ((growP x.nodes).getD n 0 = -1) || !decide (p.kind = 1) else decide ((growP x.nodes).getD n 0 < 0)
def bad4in (x : LFn) (f : Nat) : Option AV := scan (fun n => (x.nodes[n]?).bind fun p => if bad4n x n p = true then some (encFault 4 f n) else none) x.nodes.length 0
def bad4 (u : List LFn) : Option AV := scanF u fun f x => bad4in x f
def bad5in (x : LFn) (f : Nat) : Option AV := scan (fun n => if 100 < (growT x.nodes).getD n 0 then some (encFault 5 f n) else none) x.nodes.length 0
def bad5 (u : List LFn) : Option AV := scanF u fun f x => bad5in x f
/-- What l3second finds: the codes 4 and 5. -/
def second3 (u : List LFn) : AV := (bad4 u).getD ((bad5 u).getD (encFault 0 0 0))
theorem growT_len (l : List LNode) : (growT l).length = l.length := by simp [growT, growD_len]
theorem idx_encI' {l : List Int} {i : Nat} (h : i < l.length) : idx 1 (encI l) (.int .i64 i) = some (.pptr [.int .i64 (l.getD i 0)] 0) := by
 refine idx_encI ?_
 simp [h]
section
variable {D : Ctx}
theorem tree_scan1 (H : Door D) (u : List LFn) (hu : SmallUnit u) {f : Nat} {x : LFn} (hf : u[f]? = some x) (k : Cur 1) (σ : Store) :
  lpFix 2 (lp_q9_1 D (.int .i64 x.nodes.length) (encNodes x.nodes) (.int .i64 f) [encI (growP x.nodes), encI (growT x.nodes)] k) (.int .i64 0) (encFault 0 0 0) σ = match bad4in x f with
   | some v => some (v, σ)
   | none => k (encFault 0 0 0) σ := by
 refine lp_scan (lp_q9_1_mono _ _ _ _ _ _) x.nodes.length (encFault 0 0 0) _ (k (encFault 0 0 0)) ?_ ?_ σ
 ·intro R σ
  unfold lp_q9_1
  simp only [bin_lss, Obs, aCase_bool]
  rw [if_neg (by simp)]
  rfl
 ·intro i hi R σ
  have hxl := (hu.part _ (Lmg hf)).nodes
  have hse : x.nodes[i]? = some x.nodes[i] := Lge hi
  have r : ∀ σ, rd1 D.G (.pptr [encI (growP x.nodes), encI (growT x.nodes)] 0) σ = some (encI (growP x.nodes)) := fun _ => rfl
  have v2 : ∀ σ, callV D 22 [.int .i64 4, .int .i64 f, .int .i64 i] σ = some (encFault 4 f i) := fun σ => callV_eq (by simp [depth]) (l3fault H 4 f i Store.empty) rfl
  have ha : asplit 3 (encFault 4 f i) = some [.int .i64 4, .int .i64 f, .int .i64 i] := rfl
  unfold lp_q9_1
  simp only [bin_lss, bin_eql, bin_neq, Obs, aCase_bool, jn_eq, un_not, r, len_encNodes, idx_encI' (show i < (growP x.nodes).length by rw [growP_len]; exact hi), idx_encNodes hse, fadd_p, rd1_p, Lgz, Nat.zero_add, node_at0, v2, ha, hse, bin_sub (a := (x.nodes.length : Int)) (b := 1) (by omega) (by omega), bin_add (a := i) (b := 1) (by omega) (by omega)]
  rw [if_pos (by rw [Dte]; omega)]
  unfold bad4n
  generalize (growP x.nodes).getD i 0 = v
  by_cases h1 : (i : Int) = (x.nodes.length : Int) - 1
  ·rw [decide_eq_true h1, if_pos h1]
   by_cases h2 : v = -1
   ·by_cases h3 : x.nodes[i].kind = 1 <;> simp [h2, h3] <;> rfl
   ·simp [h2]; rfl
  ·rw [decide_eq_false h1, if_neg h1]
   by_cases h2 : v < 0 <;> simp [h2] <;> rfl
theorem tree_scan (H : Door D) (u : List LFn) (hu : SmallUnit u) (hg : Good u) (k : Cur 1) (σ : Store) :
  lpFix 2 (lp_q9_2 D (.int .i64 u.length) (encUnit u) k) (.int .i64 0) (encFault 0 0 0) σ = match bad4 u with
   | some v => some (v, σ)
   | none => k (encFault 0 0 0) σ := by
 refine lp_scan (lp_q9_2_mono _ _ _ _) u.length (encFault 0 0 0) _ (k (encFault 0 0 0)) ?_ ?_ σ
 ·intro R σ
  unfold lp_q9_2
  simp only [bin_lss, Obs, aCase_bool]
  rw [if_neg (by simp)]
  rfl
 ·intro i hi R σ
  have hse : u[i]? = some u[i] := Lge hi
  have hx := hu.part _ (List.getElem_mem hi)
  obtain ⟨g0, g1⟩ := hg _ (List.getElem_mem hi)
  have hul := hu.len
  have r : rd1 D.G (.pptr (AV.cells (encUnit u)) 0) σ = some (encFns u) := rfl
  have ha : asplit 2 (.agg [encI (growP u[i].nodes), encI (growT u[i].nodes)]) = some [encI (growP u[i].nodes), encI (growT u[i].nodes)] := rfl
  unfold lp_q9_2
  simp only [bin_lss, Obs, aCase_bool, r, idx_encFns hse, fadd_p, Nat.zero_add, rd1_p, fn_at6, len_encNodes, jn_eq, hse, l3grow H _ hx.nodes g0 hx.nodes' g1, ha, bin_add (a := i) (b := 1) (by omega) (by omega)]
  rw [if_pos (by rw [Dte]; omega)]
  exact tree_scan1 H u hu hse _ σ
theorem nest_scan1 (H : Door D) (u : List LFn) (hu : SmallUnit u) {f : Nat} {x : LFn} (hf : u[f]? = some x) (k : Cur 1) (σ : Store) :
  lpFix 2 (lp_q9_3 D (.int .i64 x.nodes.length) [encI (growP x.nodes), encI (growT x.nodes)] (.int .i64 f) k) (.int .i64 0) (encFault 0 0 0) σ = match bad5in x f with
   | some v => some (v, σ)
   | none => k (encFault 0 0 0) σ := by
 refine lp_scan (lp_q9_3_mono _ _ _ _ _) x.nodes.length (encFault 0 0 0) _ (k (encFault 0 0 0)) ?_ ?_ σ
 ·intro R σ
  unfold lp_q9_3
  simp only [bin_lss, Obs, aCase_bool]
  rw [if_neg (by simp)]
  rfl
 ·intro i hi R σ
  have hxl := (hu.part _ (Lmg hf)).nodes
  have r : ∀ σ, rd1 D.G (.pptr [encI (growP x.nodes), encI (growT x.nodes)] 1) σ = some (encI (growT x.nodes)) := fun _ => rfl
  have v2 : ∀ σ, callV D 22 [.int .i64 5, .int .i64 f, .int .i64 i] σ = some (encFault 5 f i) := fun σ => callV_eq (by simp [depth]) (l3fault H 5 f i Store.empty) rfl
  have ha : asplit 3 (encFault 5 f i) = some [.int .i64 5, .int .i64 f, .int .i64 i] := rfl
  unfold lp_q9_3
  simp only [bin_lss, bin_gtr, Obs, aCase_bool, r, idx_encI' (show i < (growT x.nodes).length by rw [growT_len]; exact hi), rd1_p, Lgz, v2, ha, bin_add (a := i) (b := 1) (by omega) (by omega)]
  rw [if_pos (by rw [Dte]; omega)]
  generalize (growT x.nodes).getD i 0 = v
  by_cases h1 : 100 < v
  ·rw [if_pos (by rw [Dte]; exact h1), if_pos h1]; rfl
  ·rw [if_neg (by rw [Dte]; exact h1), if_neg h1]; rfl
theorem nest_scan (H : Door D) (u : List LFn) (hu : SmallUnit u) (hg : Good u) (k : Cur 1) (σ : Store) :
  lpFix 2 (lp_q9_4 D (.int .i64 u.length) (encUnit u) k) (.int .i64 0) (encFault 0 0 0) σ = match bad5 u with
   | some v => some (v, σ)
   | none => k (encFault 0 0 0) σ := by
 refine lp_scan (lp_q9_4_mono _ _ _ _) u.length (encFault 0 0 0) _ (k (encFault 0 0 0)) ?_ ?_ σ
 ·intro R σ
  unfold lp_q9_4
  simp only [bin_lss, Obs, aCase_bool]
  rw [if_neg (by simp)]
  rfl
 ·intro i hi R σ
  have hse : u[i]? = some u[i] := Lge hi
  have hx := hu.part _ (List.getElem_mem hi)
  obtain ⟨g0, g1⟩ := hg _ (List.getElem_mem hi)
  have hul := hu.len
  have r : rd1 D.G (.pptr (AV.cells (encUnit u)) 0) σ = some (encFns u) := rfl
  have ha : asplit 2 (.agg [encI (growP u[i].nodes), encI (growT u[i].nodes)]) = some [encI (growP u[i].nodes), encI (growT u[i].nodes)] := rfl
  unfold lp_q9_4
  simp only [bin_lss, Obs, aCase_bool, r, idx_encFns hse, fadd_p, Nat.zero_add, rd1_p, fn_at6, len_encNodes, jn_eq, hse, l3grow H _ hx.nodes g0 hx.nodes' g1, ha, bin_add (a := i) (b := 1) (by omega) (by omega)]
  rw [if_pos (by rw [Dte]; omega)]
  exact nest_scan1 H u hu hse _ σ
theorem l3second (H : Door D) (u : List LFn) (hu : SmallUnit u) (hg : Good u) (σ : Store) : D.call 13 [encUnit u] σ = some (second3 u, σ) := by
 have r : ∀ σ, rd1 D.G (.pptr (AV.cells (encUnit u)) 0) σ = some (encFns u) := fun _ => rfl
 have hW : AV.agg (AV.cells (encFault 0 0 0)) = encFault 0 0 0 := rfl
 have e0 : AV.agg [.int .i64 0, .int .i64 0, .int .i64 0] = encFault 0 0 0 := rfl
 rw [H.f13]
 unfold sh_q9 second3
 simp only [r, len_encFns, Obs, jn_eq, e0, hW, tree_scan H u hu hg, nest_scan H u hu hg]
 generalize bad4 u = b4
 generalize bad5 u = b5
 cases b4 <;> cases b5 <;> simp
end
end Go.Asm.UnitF
namespace Go.Asm.UnitF
open Go Go.Asm
/-- Parents: below the number of nodes, and behind their kids. -/
def Up (par : List Int) : Prop := ∀ i : Nat, 0 ≤ par.getD i 0 → (i : Int) < par.getD i 0 ∨ par.length ≤ i
theorem up_set {par : List Int} (h : Up par) {k : Nat} {v : Int} (hv : 0 ≤ v → (k : Int) < v) : Up (par.set k v) := by
 intro i hi
 by_cases hil : i < par.length
 ·left
  by_cases hki : k = i
  ·subst hki
   have e : (par.set k v).getD k 0 = v := by simp [hil]
   rw [e] at hi ⊢; exact hv hi
  ·have e : (par.set k v).getD i 0 = par.getD i 0 := by simp [hki]
   rw [e] at hi ⊢
   rcases h i hi with h | h
   ·exact h
   ·omega
 ·right; simp; omega
theorem up_growK {i : Int} {ks par : List Int} (h : Up par) (hk : ∀ c ∈ ks, 0 ≤ c ∧ c < i) : Up (growK i par ks) := by
 unfold growK
 induction ks generalizing par with
 | nil => exact h
 | cons c ks ih =>
  rw [List.foldl_cons]
  refine ih (up_set h ?_) fun d hd => hk d (List.mem_cons_of_mem _ hd)
  have := hk c (List.mem_cons_self ..)
  split <;> omega
theorem up_growA {l : List LNode} : ∀ {par : List Int} {i : Nat}, Up par → (∀ (j : Nat) p, l[j]? = some p → ∀ c ∈ p.kids, 0 ≤ c ∧ c < ((i + j : Nat) : Int)) → Up (growA par i l) := by
 induction l with
 | nil => intro par i h _; exact h
 | cons p l ih =>
  intro par i h hk
  rw [growA]
  refine ih (up_growK h fun c hc => ?_) fun j q hq c hc => ?_
  ·have := hk 0 p rfl c hc; simpa using this
  ·have := hk (j + 1) q (by simpa using hq) c hc
   rwa [show i + (j + 1) = i + 1 + j by omega] at this
theorem up_growP {l : List LNode} (ha : Ahead l) : Up (growP l) := by
 have h : Up (growA (List.replicate l.length (-2)) 0 l) := by
  refine up_growA ?_ fun j p hp c hc => by simpa using ha j p hp c hc
  intro i hi
  by_cases hil : i < l.length
  ·simp [hil] at hi
  ·right; simp; omega
 simp only [growP]
 split
 ·exact up_set h (by omega)
 ·exact h
/-- A loop's body ends its kids. -/
def LoopKids (x : LFn) : Prop := ∀ p ∈ x.nodes, p.kind = 6 ∨ p.kind = 7 ∨ p.kind = 8 → p.kids ≠ []
def isLoop (k : Int) : Bool := decide (k = 6) || decide (k = 7) || decide (k = 8)
/-- Is there a loop's body around it? -/
def inloop3 (x : LFn) : Nat → Nat → Bool
 | 0, _ => false
 | c + 1, below =>
  let up := (growP x.nodes).getD below 0
  if up < 0 then false
  else match x.nodes[up.toNat]? with
   | none => false
   | some p => if isLoop p.kind = true ∧ p.kids.getD (p.kids.length - 1) 0 = below then true else inloop3 x c up.toNat
section
variable {D : Ctx}
theorem inloop_loop (x : LFn) (hx : x.Small) (ha : Ahead x.nodes) (hk : LoopKids x) (t : List AV) (ht : t[0]? = some (encI (growP x.nodes))) (k : Cur 0) : ∀ (c below : Nat) (σ : Store), below < x.nodes.length → x.nodes.length ≤ below + c →
  lpFix 2 (lp_q22_1 D (.agg (encFn x)) (.agg t) k) (.int .i64 below) (.int .i64 ((growP x.nodes).getD below 0)) σ = if inloop3 x c below = true then some (.bool true, σ) else k σ := by
 intro c
 induction c with
 | zero => intro below σ h1 h2; omega
 | succ c ih =>
  intro below σ h1 h2
  rw [lpFix_eq (lp_q22_1_mono _ _ _ _), inloop3]
  have hb := getD_bd (growP_bd x.nodes (by omega)) (show below < (growP x.nodes).length by rw [growP_len]; exact h1)
  have hup := up_growP ha below
  rw [growP_len] at hup
  have hul := hx.nodes
  generalize hv : (growP x.nodes).getD below 0 = v at hb hup ⊢
  by_cases h0 : v < 0
  ·unfold lp_q22_1
   simp only [bin_geq, Obs, aCase_bool]
   rw [if_neg (by rw [Dte]; omega), if_pos h0]
   rfl
  ·obtain ⟨m, rfl⟩ : ∃ m : Nat, v = m := ⟨v.toNat, by omega⟩
   have hml : m < x.nodes.length := by omega
   have hbm : below < m := by
    rcases hup (by omega) with h | h
    ·omega
    ·omega
   have hse : x.nodes[m]? = some x.nodes[m] := Lge hml
   have hp := hx.nodes' _ (List.getElem_mem hml)
   have hpk := hk _ (List.getElem_mem hml)
   have ih' := fun σ => ih m σ hml (by omega)
   generalize lpFix 2 (lp_q22_1 D (.agg (encFn x)) (.agg t) k) = R at ih' ⊢
   have hs : asplit 8 (.agg (encNode x.nodes[m])) = some (encNode x.nodes[m]) := rfl
   have hkl := hp.kids
   unfold lp_q22_1
   simp only [bin_geq, bin_eql, Obs, aCase_bool, jn_eq, cells_agg, rd1_p, fn_at6, idx_encNodes hse, rdN_Node, hs, node_at0, node_at7, len_encI, ht, idx_encI' (show m < (growP x.nodes).length by rw [growP_len]; exact hml), Lgz, ih', hse, Int.toNat_natCast]
   rw [if_pos (by rw [Dte]; omega), if_neg h0]
   generalize hq : x.nodes[m] = q at *
   have key : isLoop q.kind = true → bin .sub .num (.int .i64 q.kids.length) (.int .i64 1) = some (.int .i64 ((q.kids.length - 1 : Nat) : Int)) ∧ idx 1 (encI q.kids) (.int .i64 ((q.kids.length - 1 : Nat) : Int)) = some (.pptr [.int .i64 (q.kids.getD (q.kids.length - 1) 0)] 0) := by
    intro h
    have hne : q.kids ≠ [] := hpk (by simpa [isLoop, or_assoc] using h)
    have hpos : 0 < q.kids.length := List.length_pos_iff.2 hne
    exact ⟨by rw [bin_sub (by omega) (by omega), show ((q.kids.length : Int) - 1) = ((q.kids.length - 1 : Nat) : Int) by omega], idx_encI' (by omega)⟩
   generalize hL : q.kids.getD (q.kids.length - 1) 0 = L at key ⊢
   have fin : isLoop q.kind = (decide (q.kind = 6) || decide (q.kind = 7) || decide (q.kind = 8)) := rfl
   by_cases k6 : q.kind = 6
   ·have hT : isLoop q.kind = true := by rw [k6]; rfl
    obtain ⟨e1, e2⟩ := key hT
    rw [hT]
    by_cases hb : L = (below : Int) <;> simp [k6, e1, e2, hb]
   by_cases k7 : q.kind = 7
   ·have hT : isLoop q.kind = true := by rw [k7]; rfl
    obtain ⟨e1, e2⟩ := key hT
    rw [hT]
    by_cases hb : L = (below : Int) <;> simp [k7, e1, e2, hb]
   by_cases k8 : q.kind = 8
   ·have hT : isLoop q.kind = true := by rw [k8]; rfl
    obtain ⟨e1, e2⟩ := key hT
    rw [hT]
    by_cases hb : L = (below : Int) <;> simp [k8, e1, e2, hb]
   have hF : isLoop q.kind = false := by simp [fin, k6, k7, k8]
   rw [hF]
   simp [k6, k7, k8]
theorem l3inloop (H : Door D) (x : LFn) (hx : x.Small) (ha : Ahead x.nodes) (hk : LoopKids x) (n : Nat) (hn : n < x.nodes.length) (σ : Store) :
  D.call 27 [.agg (encFn x), .agg [encI (growP x.nodes), encI (growT x.nodes)], .int .i64 n] σ = some (.bool (inloop3 x x.nodes.length n), σ) := by
 rw [H.f27]
 unfold sh_q22
 simp only [cells_agg, rd1_p, Lgz, Obs, jn_eq, idx_encI' (show n < (growP x.nodes).length by rw [growP_len]; exact hn)]
 refine (inloop_loop x hx ha hk [encI (growP x.nodes), encI (growT x.nodes)] rfl _ x.nodes.length n σ hn (by omega)).trans ?_
 cases inloop3 x x.nodes.length n <;> rfl
end
end Go.Asm.UnitF
namespace Go.Asm.UnitF
open Go Go.Asm
/-- Does a let ahead of place P in a block declare v? -/
def lets3 (x : LFn) (v : Int) (ks : List Int) : Bool := ks.any fun c => match x.nodes[c.toNat]? with
 | some q => decide (q.kind = 2) && declares3 q v
 | none => false
section
variable {D : Ctx}
theorem lets_loop (H : Door D) (x : LFn) (hx : x.Small) (p : LNode) (hp : p.kids.length ≤ 1048576) (hk : ∀ c ∈ p.kids, 0 ≤ c ∧ c < (x.nodes.length : Int)) (v : Int) (N : Nat) (hN : N ≤ p.kids.length) (k : Cur 0) (σ : Store) : ∀ i, i ≤ N →
  lpFix 1 (lp_q35_1 D (.int .i64 N) (.agg (encFn x)) (encNode p) (.int .i64 v) k) (.int .i64 i) σ = if lets3 x v ((p.kids.take N).drop i) = true then some (.bool true, σ) else k σ := by
 intro i hi
 have := lp_upE (lp_q35_1_mono D (.int .i64 N) (.agg (encFn x)) (encNode p) (.int .i64 v) k) N (fun i σ => if lets3 x v ((p.kids.take N).drop i) = true then some (.bool true, σ) else k σ) ?_ ?_ i hi σ
 ·exact this
 ·intro R σ
  unfold lp_q35_1
  simp only [bin_lss, Obs, aCase_bool]
  rw [if_neg (by simp), List.drop_eq_nil_of_le (by simp; omega)]
  rfl
 ·intro i hi R σ hR
  have hil : i < p.kids.length := by omega
  have hse : p.kids[i]? = some p.kids[i] := Lge hil
  obtain ⟨c0, c1⟩ := hk _ (List.getElem_mem hil)
  have hcl : p.kids[i].toNat < x.nodes.length := by omega
  have hsn : x.nodes[p.kids[i].toNat]? = some x.nodes[p.kids[i].toNat] := Lge hcl
  have hq := hx.nodes' _ (List.getElem_mem hcl)
  have hd : lets3 x v ((p.kids.take N).drop i) = ((decide (x.nodes[p.kids[i].toNat].kind = 2) && declares3 x.nodes[p.kids[i].toNat] v) || lets3 x v ((p.kids.take N).drop (i + 1))) := by
   rw [List.drop_eq_getElem_cons (by simp; omega), lets3, List.any_cons, List.getElem_take, hsn]
   rfl
  rw [hd]
  generalize x.nodes[p.kids[i].toNat] = q at hsn hq ⊢
  have hs : asplit 8 (.agg (encNode q)) = some (encNode q) := rfl
  have v59 : ∀ σ, callV D 59 [.agg (encNode q), .int .i64 v] σ = some (.bool (declares3 q v)) := fun σ => callV_eq (by simp [depth]) (l3declares H hq.refs v Store.empty) rfl
  unfold lp_q35_1
  simp only [bin_lss, bin_eql, Obs, aCase_bool, jn_eq, cells_agg, rd1_p, fn_at6, node_at7, node_at0, idx_encI hse, Lgz, idx_nodes c0 hsn, rdN_Node, hs, v59, bin_add (a := i) (b := 1) (by omega) (by omega), hR]
  rw [if_pos (by rw [Dte]; omega)]
  by_cases h2 : q.kind = 2
  ·cases declares3 q v <;> simp [h2]
  ·simp [h2]
end
end Go.Asm.UnitF
namespace Go.Asm.UnitF
open Go Go.Asm
theorem place3_cases (ks : List Int) (a : Int) : place3 ks a = -1 ∨ ∃ N : Nat, N < ks.length ∧ place3 ks a = N := by
 unfold place3
 cases h : ks.findIdx? (fun x => decide (x = a)) with
 | none => exact .inl rfl
 | some i =>
  refine .inr ⟨i, ?_, rfl⟩
  have := List.of_findIdx?_eq_some h
  cases hg : ks[i]? with
  | none => simp [hg] at this
  | some x => exact (List.getElem?_eq_some_iff.1 hg).1
def isHead (k : Int) : Bool := decide (k = 7) || decide (k = 8) || decide (k = 12)
/-- Is v in scope, from a node outwards? -/
def visN (x : LFn) (v : Int) : Nat → Nat → Bool
 | 0, _ => false
 | c + 1, below =>
  let up := (growP x.nodes).getD below 0
  if up < 0 then false
  else match x.nodes[up.toNat]? with
   | none => false
   | some p =>
    if (decide (p.kind = 1) && lets3 x v (p.kids.take (place3 p.kids below).toNat)) = true then true
    else if (isHead p.kind && decide (place3 p.kids below = (p.kids.length : Int) - 1) && declares3 p v) = true then true
    else visN x v c up.toNat
def visible3 (x : LFn) (n : Nat) (v : Int) : Bool := decide (v < x.params) || visN x v x.nodes.length n
section
variable {D : Ctx}
theorem vis_loop (H : Door D) (x : LFn) (hx : x.Small) (ha : Ahead x.nodes) (v : Int) (t : List AV) (ht : t[0]? = some (encI (growP x.nodes))) (k : Cur 0) : ∀ (c below : Nat) (σ : Store), below < x.nodes.length → x.nodes.length ≤ below + c →
  lpFix 2 (lp_q35_2 D (.agg (encFn x)) (.agg t) (.int .i64 v) k) (.int .i64 below) (.int .i64 ((growP x.nodes).getD below 0)) σ = if visN x v c below = true then some (.bool true, σ) else k σ := by
 intro c
 induction c with
 | zero => intro below σ h1 h2; omega
 | succ c ih =>
  intro below σ h1 h2
  rw [lpFix_eq (lp_q35_2_mono _ _ _ _ _), visN]
  have hb := getD_bd (growP_bd x.nodes (by omega)) (show below < (growP x.nodes).length by rw [growP_len]; exact h1)
  have hup := up_growP ha below
  rw [growP_len] at hup
  have hul := hx.nodes
  generalize hv : (growP x.nodes).getD below 0 = w at hb hup ⊢
  by_cases h0 : w < 0
  ·unfold lp_q35_2
   simp only [bin_geq, Obs, aCase_bool]
   rw [if_neg (by rw [Dte]; omega), if_pos h0]
   rfl
  ·obtain ⟨m, rfl⟩ : ∃ m : Nat, w = m := ⟨w.toNat, by omega⟩
   have hml : m < x.nodes.length := by omega
   have hbm : below < m := by
    rcases hup (by omega) with h | h
    ·omega
    ·omega
   have hse : x.nodes[m]? = some x.nodes[m] := Lge hml
   have hp := hx.nodes' _ (List.getElem_mem hml)
   have hkk : ∀ c ∈ x.nodes[m].kids, 0 ≤ c ∧ c < (x.nodes.length : Int) := fun c hc => by have := ha m _ hse c hc; omega
   have ih' := fun σ => ih m σ hml (by omega)
   generalize lpFix 2 (lp_q35_2 D (.agg (encFn x)) (.agg t) (.int .i64 v) k) = R at ih' ⊢
   generalize hq : x.nodes[m] = q at *
   have hs : asplit 8 (.agg (encNode q)) = some (encNode q) := rfl
   have hkl := hp.kids
   have v58 : ∀ σ, callV D 58 [encI q.kids, .int .i64 below] σ = some (.int .i64 (place3 q.kids below)) := fun σ => l3place_v H hkl below σ
   have v59 : ∀ σ, callV D 59 [.agg (encNode q), .int .i64 v] σ = some (.bool (declares3 q v)) := fun σ => callV_eq (by simp [depth]) (l3declares H hp.refs v Store.empty) rfl
   have hl : ∀ k σ, lpFix 1 (lp_q35_1 D (.int .i64 (place3 q.kids below)) (.agg (encFn x)) (encNode q) (.int .i64 v) k) (.int .i64 0) σ = if lets3 x v (q.kids.take (place3 q.kids below).toNat) = true then some (.bool true, σ) else k σ := by
    intro k σ
    rcases place3_cases q.kids below with h | ⟨N, hN, h⟩
    ·rw [h, lpFix_eq (lp_q35_1_mono _ _ _ _ _ _)]
     unfold lp_q35_1
     simp only [bin_lss, Obs, aCase_bool]
     rw [if_neg (by decide)]
     rfl
    ·rw [h]
     have := lets_loop H x hx q hkl hkk v N (by omega) k σ 0 (by omega)
     rwa [List.drop_zero] at this
   unfold lp_q35_2
   simp only [bin_geq, bin_eql, Obs, aCase_bool, jn_eq, cells_agg, rd1_p, fn_at6, idx_encNodes hse, rdN_Node, hs, node_at0, node_at7, len_encI, v58, v59, hl, ht, idx_encI' (show m < (growP x.nodes).length by rw [growP_len]; exact hml), Lgz, ih', hse, Int.toNat_natCast, bin_sub (a := (q.kids.length : Int)) (b := 1) (by omega) (by omega)]
   rw [if_pos (by rw [Dte]; omega), if_neg h0]
   unfold isHead
   generalize lets3 x v (q.kids.take (place3 q.kids below).toNat) = b1
   generalize declares3 q v = b2
   generalize decide (place3 q.kids below = (q.kids.length : Int) - 1) = b3
   generalize decide (q.kind = 1) = c1
   generalize decide (q.kind = 7) = c2
   generalize decide (q.kind = 8) = c3
   generalize decide (q.kind = 12) = c4
   cases c1 <;> cases c2 <;> cases c3 <;> cases c4 <;> cases b1 <;> cases b2 <;> cases b3 <;> simp
theorem l3visible (H : Door D) (x : LFn) (hx : x.Small) (ha : Ahead x.nodes) (n : Nat) (hn : n < x.nodes.length) (v : Int) (σ : Store) :
  D.call 45 [.agg (encFn x), .agg [encI (growP x.nodes), encI (growT x.nodes)], .int .i64 n, .int .i64 v] σ = some (.bool (visible3 x n v), σ) := by
 rw [H.f45]
 unfold sh_q35 visible3
 simp only [cells_agg, rd1_p, fn_at2, bin_lss, aCase_bool, Lgz, Obs, jn_eq, idx_encI' (show n < (growP x.nodes).length by rw [growP_len]; exact hn)]
 by_cases h : v < x.params
 ·simp [h]
 rw [if_neg (by rw [Dte]; exact h), decide_eq_false h]
 refine (vis_loop H x hx ha v [encI (growP x.nodes), encI (growT x.nodes)] rfl _ x.nodes.length n σ hn (by omega)).trans ?_
 cases visN x v x.nodes.length n <;> rfl
end
end Go.Asm.UnitF
namespace Go.Asm.UnitF
open Go Go.Asm
/-- Is what an upvalue names there? -/
def up3 (x : LFn) (n : Nat) (p : LUp) : Bool :=
 if p.loc = true then decide (0 ≤ p.index) && decide (p.index < (x.vars.length : Int)) && visible3 x n p.index
 else decide (0 ≤ p.index) && decide (p.index < (x.ups.length : Int))
abbrev tree (x : LFn) : AV := .agg [encI (growP x.nodes), encI (growT x.nodes)]
section
variable {D : Ctx}
theorem view_tree (x : LFn) (σ : Store) : view σ 12 (tree x) = some (tree x) := by
 show view σ (11 + 1) _ = _
 rw [view]
 simp
theorem l3visible_v (H : Door D) (x : LFn) (hx : x.Small) (ha : Ahead x.nodes) (n : Nat) (hn : n < x.nodes.length) (v : Int) (σ : Store) :
  callV D 45 [.agg (encFn x), tree x, .int .i64 n, .int .i64 v] σ = some (.bool (visible3 x n v)) :=
 callV_eq (by simp [depth, view_tree]) (l3visible H x hx ha n hn v Store.empty) rfl
theorem ups_loop (H : Door D) (u : List LFn) (f : Nat) (x : LFn) (hf : u[f]? = some x) (hx : x.Small) (ha : Ahead x.nodes) (n : Nat) (hn : n < x.nodes.length) (l : List LUp) (hl : l.length ≤ 1048576) (k : Cur 0) (σ : Store) : ∀ i, i ≤ l.length →
  lpFix 1 (lp_q23_1 D (.int .i64 l.length) (encUps l) (encUnit u) (.int .i64 f) (tree x) (.int .i64 n) k) (.int .i64 i) σ = if (l.drop i).all (up3 x n) = true then k σ else some (.bool false, σ) := by
 intro i hi
 have := lp_upE (lp_q23_1_mono D (.int .i64 l.length) (encUps l) (encUnit u) (.int .i64 f) (tree x) (.int .i64 n) k) l.length (fun i σ => if (l.drop i).all (up3 x n) = true then k σ else some (.bool false, σ)) ?_ ?_ i hi σ
 ·exact this
 ·intro R σ
  unfold lp_q23_1
  simp only [bin_lss, Obs, aCase_bool]
  rw [if_neg (by simp)]
  simp
 ·intro i hi R σ hR
  have hse : l[i]? = some l[i] := Lge hi
  have hd : (l.drop i).all (up3 x n) = (up3 x n l[i] && (l.drop (i + 1)).all (up3 x n)) := by rw [List.drop_eq_getElem_cons hi, List.all_cons]
  rw [hd]
  generalize (l.drop (i + 1)).all (up3 x n) = B at hR ⊢
  generalize l[i] = p at hse ⊢
  have hs : asplit 2 (.agg (encUp p)) = some (encUp p) := rfl
  have r : ∀ σ, rd1 D.G (.pptr (AV.cells (encUnit u)) 0) σ = some (encFns u) := fun _ => rfl
  have r2 : ∀ σ, rdN 2 (.pptr (AV.cells (tree x)) 0) σ = some [encI (growP x.nodes), encI (growT x.nodes)] := fun _ => rdN_p rfl
  have v45 : ∀ v σ, callV D 45 [.agg (encFn x), .agg [encI (growP x.nodes), encI (growT x.nodes)], .int .i64 n, .int .i64 v] σ = some (.bool (visible3 x n v)) := fun v σ => l3visible_v H x hx ha n hn v σ
  unfold lp_q23_1
  simp only [bin_lss, bin_geq, Obs, aCase_bool, jn_eq, un_not, idx_encUps hse, rdN_Up, hs, rd1_p, up_at0, up_at1, r, r2, idx_encFns hf, rdN_Fn, fadd_p, Nat.zero_add, fn_at4, fn_at5, len_encS, len_encUps, v45, bin_add (a := i) (b := 1) (by omega) (by omega), hR]
  rw [if_pos (by rw [Dte]; omega)]
  unfold up3
  have c1 : (0 ≤ p.index) = ¬ (p.index < 0) := propext ⟨fun h => by omega, fun h => by omega⟩
  have c2 : (p.index < (x.vars.length : Int)) = ¬ ((x.vars.length : Int) ≤ p.index) := propext ⟨fun h => by omega, fun h => by omega⟩
  have c3 : (p.index < (x.ups.length : Int)) = ¬ ((x.ups.length : Int) ≤ p.index) := propext ⟨fun h => by omega, fun h => by omega⟩
  simp only [c1, c2, c3, decide_not]
  generalize decide (p.index < 0) = b1
  generalize decide ((x.vars.length : Int) ≤ p.index) = b2
  generalize decide ((x.ups.length : Int) ≤ p.index) = b3
  generalize visible3 x n p.index = b4
  cases p.loc <;> cases b1 <;> cases b2 <;> cases b3 <;> cases b4 <;> simp
theorem l3ups (H : Door D) (u : List LFn) (f : Nat) (x : LFn) (hf : u[f]? = some x) (hx : x.Small) (ha : Ahead x.nodes) (n : Nat) (hn : n < x.nodes.length) (g : Nat) (y : LFn) (hg : u[g]? = some y) (hy : y.Small) (σ : Store) :
  D.call 28 [encUnit u, .int .i64 f, tree x, .int .i64 n, .int .i64 g] σ = some (.bool (y.ups.all (up3 x n)), σ) := by
 have r : ∀ σ, rd1 D.G (.pptr (AV.cells (encUnit u)) 0) σ = some (encFns u) := fun _ => rfl
 rw [H.f28]
 unfold sh_q23
 simp only [r, idx_encFns hg, Obs, fadd_p, Nat.zero_add, rd1_p, fn_at5, len_encUps, jn_eq]
 refine (ups_loop H u f x hf hx ha n hn y.ups hy.ups _ σ 0 (by omega)).trans ?_
 rw [List.drop_zero]
 cases y.ups.all (up3 x n) <;> rfl
end
end Go.Asm.UnitF
namespace Go.Asm.UnitF
open Go Go.Asm
def cB (l : List Bool) : List AV := l.map fun b => .bool b
theorem rd1_cB {G : Nat → Option AV} {σ : Store} {x i : Nat} {l : List Bool} (hb : σ.blk x = some (.cells (cB l))) (hi : i < l.length) : rd1 G (.hptr x i) σ = some (.bool (l.getD i false)) := by
 simp [rd1, hb, cB, hi]
theorem wr_cB {σ : Store} {x i : Nat} {l : List Bool} {b : Bool} (hb : σ.blk x = some (.cells (cB l))) (hi : i < l.length) : wr (.hptr x i) [.bool b] σ = some (σ.upd x (some (.cells (cB (l.set i b))))) := by
 have h : i + 1 ≤ l.length := by omega
 simp [wr, hb, cB, h, setL, List.map_set]
/-- The names a node refers to: are they there, and not yet declared? And what is declared then. -/
def refsN (x : LFn) (n : Nat) (p : LNode) : List Int → List Bool → Bool × List Bool
 | [], seen => (true, seen)
 | v :: vs, seen =>
  if v < 0 ∨ (x.vars.length : Int) ≤ v then (false, seen)
  else if p.kind = 26 then (visible3 x n v, seen)
  else if seen.getD v.toNat false = true then (false, seen)
  else refsN x n p vs (seen.set v.toNat true)
section
variable {D : Ctx}
theorem refs_loop (H : Door D) (x : LFn) (hx : x.Small) (ha : Ahead x.nodes) (n : Nat) (hn : n < x.nodes.length) (p : LNode) (hp : p.Small) (s : Nat) (Q : Res → Prop) (k : Cur 0) : ∀ i, i ≤ p.refs.length → ∀ σ seen, seen.length = x.vars.length → σ.blk s = some (.cells (cB seen)) →
  (∀ σ', σ'.blk s = some (.cells (cB (refsN x n p (p.refs.drop i) seen).2)) → (refsN x n p (p.refs.drop i) seen).1 = true → p.kind ≠ 26 ∨ i = p.refs.length → Q (k σ')) →
  (∀ σ', σ'.blk s = some (.cells (cB (refsN x n p (p.refs.drop i) seen).2)) → Q (some (.bool (refsN x n p (p.refs.drop i) seen).1, σ'))) →
  Q (lpFix 1 (lp_q21_1 D (.int .i64 p.refs.length) (encI p.refs) (encNode p) (.agg (encFn x)) (tree x) (.int .i64 n) (.hslice 1 s 0 x.vars.length) k) (.int .i64 i) σ) := by
 intro i hi σ
 refine lp_up (lp_q21_1_mono D (.int .i64 p.refs.length) (encI p.refs) (encNode p) (.agg (encFn x)) (tree x) (.int .i64 n) (.hslice 1 s 0 x.vars.length) k) p.refs.length (fun i σ r => ∀ seen, seen.length = x.vars.length → σ.blk s = some (.cells (cB seen)) →
  (∀ σ', σ'.blk s = some (.cells (cB (refsN x n p (p.refs.drop i) seen).2)) → (refsN x n p (p.refs.drop i) seen).1 = true → p.kind ≠ 26 ∨ i = p.refs.length → Q (k σ')) →
  (∀ σ', σ'.blk s = some (.cells (cB (refsN x n p (p.refs.drop i) seen).2)) → Q (some (.bool (refsN x n p (p.refs.drop i) seen).1, σ'))) → Q r) ?_ ?_ i hi σ
 ·intro R σ seen hl hs hk hq
  unfold lp_q21_1
  simp only [bin_lss, Obs, aCase_bool]
  rw [if_neg (by simp)]
  rw [List.drop_length] at hk
  exact hk σ hs rfl (.inr rfl)
 ·intro i hi R σ hR seen hl hs hk hq
  have hse : p.refs[i]? = some p.refs[i] := Lge hi
  have hrl := hp.refs
  rw [List.drop_eq_getElem_cons hi, refsN] at hk hq
  generalize p.refs[i] = v at hse hk hq
  have r2 : ∀ σ, rdN 2 (.pptr (AV.cells (tree x)) 0) σ = some [encI (growP x.nodes), encI (growT x.nodes)] := fun _ => rdN_p rfl
  have v45 : ∀ v σ, callV D 45 [.agg (encFn x), .agg [encI (growP x.nodes), encI (growT x.nodes)], .int .i64 n, .int .i64 v] σ = some (.bool (visible3 x n v)) := fun v σ => l3visible_v H x hx ha n hn v σ
  unfold lp_q21_1
  simp only [bin_lss, bin_geq, bin_eql, Obs, aCase_bool, jn_eq, idx_encI hse, rd1_p, Lgz, node_at0, rdN_Fn, r2, v45, show AV.cells (.agg (encFn x)) = encFn x from rfl, fn_at4, len_encS, bin_add (a := i) (b := 1) (by omega) (by omega)]
  rw [if_pos (by rw [Dte]; omega)]
  by_cases h1 : v < 0
  ·rw [if_pos (Or.inl h1)] at hq
   rw [if_pos (by rw [Dte]; exact h1), if_pos trivial]
   exact hq σ hs
  rw [if_neg (by rw [Dte]; exact h1)]
  by_cases h2 : (x.vars.length : Int) ≤ v
  ·rw [if_pos (Or.inr h2)] at hq
   rw [if_pos (by rw [Dte]; exact h2)]
   exact hq σ hs
  rw [if_neg (by rw [Dte]; exact h2)]
  rw [if_neg (by omega)] at hk hq
  by_cases h3 : p.kind = 26
  ·rw [if_pos h3] at hq
   rw [if_pos (by rw [Dte]; exact h3)]
   exact hq σ hs
  rw [if_neg (by rw [Dte]; exact h3)]
  rw [if_neg h3] at hk hq
  have hvl : v.toNat < seen.length := by omega
  simp only [idx_h1 (x := s) (n := x.vars.length) (i := v) (by omega) (by omega), Obs, rd1_cB hs hvl, wr_cB hs hvl, aCase_bool]
  by_cases h4 : seen.getD v.toNat false = true
  ·rw [if_pos h4] at hq ⊢
   exact hq σ hs
  rw [if_neg h4] at hk hq ⊢
  exact hR _ (seen.set v.toNat true) (by simp [hl]) upd_blk (fun σ' a b c => hk σ' a b (.inl h3)) hq
end
end Go.Asm.UnitF
namespace Go.Asm.UnitF
open Go Go.Asm
/-- What l3refs answers at a node (ufns functions in the unit), and what is declared then. -/
def refs3 (ufns : Nat) (x : LFn) (n : Nat) (p : LNode) (seen : List Bool) : Bool × List Bool :=
 if p.kind = 27 then (decide (0 ≤ p.refs.getD 0 0) && decide (p.refs.getD 0 0 < (x.ups.length : Int)), seen)
 else if p.kind = 36 then (decide (0 ≤ p.refs.getD 0 0) && decide (p.refs.getD 0 0 < (ufns : Int)), seen)
 else refsN x n p p.refs seen
section
variable {D : Ctx}
theorem l3refs (H : Door D) (u : List LFn) (x : LFn) (hx : x.Small) (ha : Ahead x.nodes) (n : Nat) (p : LNode) (hp : x.nodes[n]? = some p) (hr : p.kind = 27 ∨ p.kind = 36 → p.refs ≠ []) (s : Nat) (seen : List Bool) (hl : seen.length = x.vars.length) (Q : Res → Prop) (σ : Store) (hs : σ.blk s = some (.cells (cB seen)))
  (hq : ∀ σ', σ'.blk s = some (.cells (cB (refs3 u.length x n p seen).2)) → Q (some (.bool (refs3 u.length x n p seen).1, σ'))) :
  Q (D.call 26 [encUnit u, .agg (encFn x), tree x, .int .i64 n, .hslice 1 s 0 x.vars.length] σ) := by
 have hn : n < x.nodes.length := (List.getElem?_eq_some_iff.1 hp).1
 have hps := hx.nodes' _ (Lmg hp)
 have hsp : asplit 8 (.agg (encNode p)) = some (encNode p) := rfl
 have r : ∀ σ, rd1 D.G (.pptr (AV.cells (encUnit u)) 0) σ = some (encFns u) := fun _ => rfl
 rw [H.f26]
 unfold sh_q21
 unfold refs3 at hq
 simp only [show AV.cells (.agg (encFn x)) = encFn x from rfl, r, rd1_p, fn_at6, fn_at5, idx_encNodes hp, rdN_Node, hsp, node_at0, node_at6, Obs, bin_eql, aCase_bool, jn_eq, len_encI, len_encUps, len_encFns]
 have r0 : p.refs ≠ [] → idx 1 (encI p.refs) (.int .i64 0) = some (.pptr [.int .i64 (p.refs.getD 0 0)] 0) := fun h => idx_encI' (i := 0) (List.length_pos_iff.2 h)
 by_cases h1 : p.kind = 27
 ·rw [if_pos h1] at hq
  rw [if_pos (by rw [Dte]; exact h1)]
  simp only [r0 (hr (.inl h1)), Obs, rd1_p, Lgz, bin_geq, bin_lss, aCase_bool]
  have := hq σ hs
  generalize decide (0 ≤ p.refs.getD 0 0) = b1 at this ⊢
  cases b1 <;> simpa using this
 rw [if_neg h1] at hq
 rw [if_neg (by rw [Dte]; exact h1)]
 by_cases h2 : p.kind = 36
 ·rw [if_pos h2] at hq
  rw [if_pos (by rw [Dte]; exact h2)]
  simp only [r0 (hr (.inr h2)), Obs, rd1_p, Lgz, bin_geq, bin_lss, aCase_bool]
  have := hq σ hs
  generalize decide (0 ≤ p.refs.getD 0 0) = b1 at this ⊢
  cases b1 <;> simpa using this
 rw [if_neg h2] at hq
 rw [if_neg (by rw [Dte]; exact h2)]
 refine refs_loop H x hx ha n hn p hps s Q _ 0 (by omega) σ seen hl hs ?_ ?_
 ·intro σ' h3 h4 _
  rw [List.drop_zero] at h3 h4
  have := hq σ' h3
  rwa [h4] at this
 ·intro σ' h3
  rw [List.drop_zero] at h3 ⊢
  exact hq σ' h3
end
end Go.Asm.UnitF
namespace Go.Asm.UnitF
open Go Go.Asm
def isJump (k : Int) : Bool := decide (k = 9) || decide (k = 10)
def bad7in (x : LFn) (f : Nat) : Option AV := scan (fun n => (x.nodes[n]?).bind fun p => if (isJump p.kind && !inloop3 x x.nodes.length n) = true then some (encFault 7 f n) else none) x.nodes.length 0
def bad7 (u : List LFn) : Option AV := scanF u fun f x => bad7in x f
section
variable {D : Ctx}
theorem jump_scan1 (H : Door D) (u : List LFn) (hu : SmallUnit u) {f : Nat} {x : LFn} (hf : u[f]? = some x) (ha : Ahead x.nodes) (hk : LoopKids x) (k : Cur 1) (σ : Store) :
  lpFix 2 (lp_q10_4 D (.int .i64 x.nodes.length) (encFn x) (.int .i64 f) [encI (growP x.nodes), encI (growT x.nodes)] k) (.int .i64 0) (encFault 0 0 0) σ = match bad7in x f with
   | some v => some (v, σ)
   | none => k (encFault 0 0 0) σ := by
 refine lp_scan (lp_q10_4_mono _ _ _ _ _ _) x.nodes.length (encFault 0 0 0) _ (k (encFault 0 0 0)) ?_ ?_ σ
 ·intro R σ
  unfold lp_q10_4
  simp only [bin_lss, Obs, aCase_bool]
  rw [if_neg (by simp)]
  rfl
 ·intro i hi R σ
  have hx := hu.part _ (Lmg hf)
  have hxl := hx.nodes
  have hse : x.nodes[i]? = some x.nodes[i] := Lge hi
  have r2 : ∀ σ, rdN 2 (.pptr [encI (growP x.nodes), encI (growT x.nodes)] 0) σ = some [encI (growP x.nodes), encI (growT x.nodes)] := fun _ => rdN_p rfl
  have v27 : ∀ σ, callV D 27 [.agg (encFn x), .agg [encI (growP x.nodes), encI (growT x.nodes)], .int .i64 i] σ = some (.bool (inloop3 x x.nodes.length i)) := fun σ => callV_eq (by simp [depth, view_tree]) (l3inloop H x hx ha hk i hi Store.empty) rfl
  have v2 : ∀ σ, callV D 22 [.int .i64 7, .int .i64 f, .int .i64 i] σ = some (encFault 7 f i) := fun σ => callV_eq (by simp [depth]) (l3fault H 7 f i Store.empty) rfl
  have hs : asplit 3 (encFault 7 f i) = some [.int .i64 7, .int .i64 f, .int .i64 i] := rfl
  unfold lp_q10_4
  simp only [bin_lss, bin_eql, Obs, aCase_bool, jn_eq, un_not, rd1_p, fn_at6, idx_encNodes hse, fadd_p, Nat.zero_add, node_at0, rdN_Fn, r2, v27, v2, hs, hse, bin_add (a := i) (b := 1) (by omega) (by omega)]
  rw [if_pos (by rw [Dte]; omega)]
  unfold isJump
  generalize decide (x.nodes[i].kind = 9) = b1
  generalize decide (x.nodes[i].kind = 10) = b2
  generalize inloop3 x x.nodes.length i = b3
  cases b1 <;> cases b2 <;> cases b3 <;> rfl
theorem jump_scan (H : Door D) (u : List LFn) (hu : SmallUnit u) (hg : Good u) (hk : ∀ x ∈ u, LoopKids x) (k : Cur 1) (σ : Store) :
  lpFix 2 (lp_q10_5 D (.int .i64 u.length) (encFns u) k) (.int .i64 0) (encFault 0 0 0) σ = match bad7 u with
   | some v => some (v, σ)
   | none => k (encFault 0 0 0) σ := by
 refine lp_scan (lp_q10_5_mono _ _ _ _) u.length (encFault 0 0 0) _ (k (encFault 0 0 0)) ?_ ?_ σ
 ·intro R σ
  unfold lp_q10_5
  simp only [bin_lss, Obs, aCase_bool]
  rw [if_neg (by simp)]
  rfl
 ·intro i hi R σ
  have hse : u[i]? = some u[i] := Lge hi
  have hx := hu.part _ (List.getElem_mem hi)
  obtain ⟨g0, g1⟩ := hg _ (List.getElem_mem hi)
  have hul := hu.len
  have ha : asplit 2 (.agg [encI (growP u[i].nodes), encI (growT u[i].nodes)]) = some [encI (growP u[i].nodes), encI (growT u[i].nodes)] := rfl
  have hs : asplit 7 (.agg (encFn u[i])) = some (encFn u[i]) := rfl
  unfold lp_q10_5
  simp only [bin_lss, Obs, aCase_bool, idx_encFns hse, rdN_Fn, hs, rd1_p, fn_at6, len_encNodes, jn_eq, hse, l3grow H _ hx.nodes g0 hx.nodes' g1, ha, bin_add (a := i) (b := 1) (by omega) (by omega)]
  rw [if_pos (by rw [Dte]; omega)]
  exact jump_scan1 H u hu hse g1 (hk _ (List.getElem_mem hi)) _ σ
end
end Go.Asm.UnitF
namespace Go.Asm.UnitF
open Go Go.Asm
/-- Code 9: the functions from the second on that nothing made. -/
def bad9 (N : Nat) (made : List Bool) : Option AV := scan (fun f => if made.getD f false = true then none else some (encFault 9 f 0)) (N - 1) 1
section
variable {D : Ctx}
theorem made_scan (H : Door D) (u : List LFn) (hu : SmallUnit u) (s : Nat) (t : Store) (made : List Bool) (hl : made.length = u.length) (k : Cur 1) (σ : Store) (hs : σ.blk s = some (.cells (cB made))) : ∀ (c i : Nat), c = u.length - i → i ≤ u.length ∨ c = 0 →
  lpFix 2 (lp_q10_8 D (encUnit u) (.hslice 1 s 0 u.length, t) k) (.int .i64 i) (encFault 0 0 0) σ = match scan (fun f => if made.getD f false = true then none else some (encFault 9 f 0)) c i with
   | some v => some (v, σ)
   | none => k (encFault 0 0 0) σ := by
 have hul := hu.len
 have r : ∀ σ, rd1 D.G (.pptr (AV.cells (encUnit u)) 0) σ = some (encFns u) := fun _ => rfl
 intro c
 induction c with
 | zero =>
  intro i hc _
  rw [lpFix_eq (lp_q10_8_mono _ _ _ _)]
  unfold lp_q10_8
  simp only [r, len_encFns, bin_lss, Obs, aCase_bool]
  rw [if_neg (by rw [Dte]; omega)]
  rfl
 | succ c ih =>
  intro i hc _
  have ih' := ih (i + 1) (by omega) (.inl (by omega))
  have hil : i < made.length := by omega
  rw [lpFix_eq (lp_q10_8_mono _ _ _ _), scan]
  generalize lpFix 2 (lp_q10_8 D (encUnit u) (.hslice 1 s 0 u.length, t) k) = R at ih' ⊢
  have v2 : ∀ σ, callV D 22 [.int .i64 9, .int .i64 i, .int .i64 0] σ = some (encFault 9 i 0) := fun σ => callV_eq (by simp [depth]) (l3fault H 9 i 0 Store.empty) rfl
  have ha : asplit 3 (encFault 9 i 0) = some [.int .i64 9, .int .i64 i, .int .i64 0] := rfl
  have e1 : ((i : Int) + 1) = ((i + 1 : Nat) : Int) := by omega
  unfold lp_q10_8
  simp only [r, len_encFns, bin_lss, Obs, aCase_bool, un_not, idx_h1 (x := s) (n := u.length) (i := (i : Int)) (by omega) (by omega), Int.toNat_natCast, rd1_cB hs hil, v2, ha, bin_add (a := i) (b := 1) (by omega) (by omega), e1]
  rw [if_pos (by rw [Dte]; omega)]
  cases made.getD i false
  ·rfl
  ·exact ih'
end
end Go.Asm.UnitF
namespace Go.Asm.UnitF
open Go Go.Asm
/-- The parameters are declared from the start. -/
def seen0 (x : LFn) : List Bool := List.replicate x.params.toNat true ++ List.replicate (x.vars.length - x.params.toNat) false
section
variable {D : Ctx}
theorem par_loop (x : LFn) (hx : x.Small) (hp : 0 ≤ x.params) (hpv : x.params ≤ x.vars.length) (s : Nat) (t : Store) (k : Cur 1) (Q : Res → Prop) (hk : ∀ σ', σ'.blk s = some (.cells (cB (seen0 x))) → Q (k (encFault 0 0 0) σ')) : ∀ i, i ≤ x.params.toNat → ∀ σ,
  σ.blk s = some (.cells (cB (List.replicate i true ++ List.replicate (x.vars.length - i) false))) →
  Q (lpFix 2 (lp_q10_1 D (encFn x) (.hslice 1 s 0 x.vars.length, t) k) (.int .i64 i) (encFault 0 0 0) σ) := by
 have hv := hx.vars
 intro i hi σ
 refine lp_up2 (lp_q10_1_mono D (encFn x) (.hslice 1 s 0 x.vars.length, t) k) x.params.toNat (encFault 0 0 0) (fun i σ r => σ.blk s = some (.cells (cB (List.replicate i true ++ List.replicate (x.vars.length - i) false))) → Q r) ?_ ?_ i hi σ
 ·intro R σ hs
  unfold lp_q10_1
  simp only [rd1_p, fn_at2, bin_lss, Obs, aCase_bool]
  rw [if_neg (by rw [Dte]; omega)]
  exact hk σ hs
 ·intro i hi R σ hR hs
  have hl : i < (List.replicate i true ++ List.replicate (x.vars.length - i) false).length := by simp; omega
  unfold lp_q10_1
  simp only [rd1_p, fn_at2, bin_lss, Obs, aCase_bool, idx_h1 (x := s) (n := x.vars.length) (i := (i : Int)) (by omega) (by omega), Int.toNat_natCast, wr_cB hs hl, bin_add (a := i) (b := 1) (by omega) (by omega)]
  rw [if_pos (by rw [Dte]; omega)]
  refine hR _ ?_
  rw [upd_blk]
  have e : (List.replicate i true ++ List.replicate (x.vars.length - i) false).set i true = List.replicate (i + 1) true ++ List.replicate (x.vars.length - (i + 1)) false := by
   rw [show x.vars.length - i = (x.vars.length - (i + 1)) + 1 by omega, List.replicate_succ, List.set_append_right _ _ (by simp)]
   simp [List.replicate_succ']
  rw [e]
end
end Go.Asm.UnitF
namespace Go.Asm.UnitF
open Go Go.Asm
theorem refsN_len (x : LFn) (n : Nat) (p : LNode) (vs : List Int) : ∀ seen, (refsN x n p vs seen).2.length = seen.length := by
 induction vs with
 | nil => intro seen; rfl
 | cons v vs ih =>
  intro seen
  rw [refsN]
  split
  ·rfl
  split
  ·rfl
  split
  ·rfl
  ·rw [ih]; simp
theorem refs3_len (N : Nat) (x : LFn) (n : Nat) (p : LNode) (seen : List Bool) : (refs3 N x n p seen).2.length = seen.length := by
 unfold refs3
 split
 ·rfl
 split
 ·rfl
 ·exact refsN_len ..
/-- Code 6 in one function: the names in the order of the nodes. -/
def bad6go (N : Nat) (x : LFn) (f : Nat) : Nat → Nat → List Bool → Option AV
 | 0, _, _ => none
 | c + 1, i, seen => match x.nodes[i]? with
  | none => none
  | some p => if (refs3 N x i p seen).1 = true then bad6go N x f c (i + 1) (refs3 N x i p seen).2 else some (encFault 6 f i)
def bad6in (N : Nat) (x : LFn) (f : Nat) : Option AV := bad6go N x f x.nodes.length 0 (seen0 x)
def bad6 (u : List LFn) : Option AV := scanF u fun f x => bad6in u.length x f
/-- A node that names one thing names it. -/
def RefKids (x : LFn) : Prop := ∀ p ∈ x.nodes, p.kind = 27 ∨ p.kind = 36 → p.refs ≠ []
end Go.Asm.UnitF
namespace Go.Asm.UnitF
open Go Go.Asm
section
variable {D : Ctx}
theorem refs_scan1 (H : Door D) (u : List LFn) (hu : SmallUnit u) {f : Nat} {x : LFn} (hf : u[f]? = some x) (ha : Ahead x.nodes) (hr : RefKids x) (s : Nat) (t : Store) (k : Cur 1) (Q : Res → Prop) : ∀ (c i : Nat) (σ : Store) (seen : List Bool), c = x.nodes.length - i → i ≤ x.nodes.length → seen.length = x.vars.length → σ.blk s = some (.cells (cB seen)) →
  (∀ v σ', bad6go u.length x f c i seen = some v → Q (some (v, σ'))) → (∀ σ', bad6go u.length x f c i seen = none → Q (k (encFault 0 0 0) σ')) →
  Q (lpFix 2 (lp_q10_2 D (.int .i64 x.nodes.length) (encUnit u) (encFn x) [encI (growP x.nodes), encI (growT x.nodes)] (.hslice 1 s 0 x.vars.length, t) (.int .i64 f) k) (.int .i64 i) (encFault 0 0 0) σ) := by
 have hx := hu.part _ (Lmg hf)
 have hxl := hx.nodes
 intro c
 induction c with
 | zero =>
  intro i σ seen hc hi hl hs _ hk
  rw [lpFix_eq (lp_q10_2_mono _ _ _ _ _ _ _ _)]
  unfold lp_q10_2
  simp only [bin_lss, Obs, aCase_bool]
  rw [if_neg (by rw [Dte]; omega)]
  exact hk σ rfl
 | succ c ih =>
  intro i σ seen hc hi hl hs hq hk
  have hil : i < x.nodes.length := by omega
  have hse : x.nodes[i]? = some x.nodes[i] := Lge hil
  have hrp := hr _ (List.getElem_mem hil)
  simp only [bad6go, hse] at hq hk
  generalize x.nodes[i] = p at hse hrp hq hk
  have ih' := fun σ => ih (i + 1) σ (refs3 u.length x i p seen).2 (by omega) (by omega) (by rw [refs3_len, hl])
  rw [lpFix_eq (lp_q10_2_mono _ _ _ _ _ _ _ _)]
  generalize lpFix 2 (lp_q10_2 D (.int .i64 x.nodes.length) (encUnit u) (encFn x) [encI (growP x.nodes), encI (growT x.nodes)] (.hslice 1 s 0 x.vars.length, t) (.int .i64 f) k) = R at ih' ⊢
  have r1 : ∀ σ, rdN 1 (.pptr (AV.cells (encUnit u)) 0) σ = some [encFns u] := fun _ => rdN_p rfl
  have r2 : ∀ σ, rdN 2 (.pptr [encI (growP x.nodes), encI (growT x.nodes)] 0) σ = some [encI (growP x.nodes), encI (growT x.nodes)] := fun _ => rdN_p rfl
  have v2 : ∀ σ, callV D 22 [.int .i64 6, .int .i64 f, .int .i64 i] σ = some (encFault 6 f i) := fun σ => callV_eq (by simp [depth]) (l3fault H 6 f i Store.empty) rfl
  have hs3 : asplit 3 (encFault 6 f i) = some [.int .i64 6, .int .i64 f, .int .i64 i] := rfl
  have e1 : ((i : Int) + 1) = ((i + 1 : Nat) : Int) := by omega
  unfold lp_q10_2
  simp only [bin_lss, Obs, aCase_bool, r1, rdN_Fn, r2]
  rw [if_pos (by rw [Dte]; omega)]
  refine l3refs H u x hx ha i p hse hrp s seen hl (fun r => Q (r.bind _)) σ hs fun σ' hs' => ?_
  simp only [Obs, un_not, aCase_bool, v2, hs3, bin_add (a := i) (b := 1) (by omega) (by omega), e1]
  cases hb : (refs3 u.length x i p seen).1 with
  | false =>
   rw [hb] at hq
   exact hq _ σ' rfl
  | true =>
   rw [hb] at hq hk
   exact ih' σ' hs' hq hk
end
end Go.Asm.UnitF
namespace Go.Asm.UnitF
open Go Go.Asm
/-- What the codes 2 and 3 leave of a function. -/
structure Sound (x : LFn) : Prop where
 pos : 0 < x.nodes.length
 ahead : Ahead x.nodes
 loops : LoopKids x
 refs : RefKids x
 par0 : 0 ≤ x.params
 par1 : x.params ≤ x.vars.length
theorem mk_cB {σ : Store} {n : Nat} (h : n ≤ 4294967296) : mkSlice [.bool false] (.int .i64 n) σ = some (.hslice 1 σ.next 0 n, σ.add (.cells (cB (List.replicate n false)))) := by
 have e : (List.replicate n [AV.bool false]).flatten = cB (List.replicate n false) := by
  induction n with
  | zero => rfl
  | succ n ih => rw [List.replicate_succ, List.flatten_cons, ih (by omega)]; rfl
 rw [mkSlice_new h, e]; rfl
end Go.Asm.UnitF
namespace Go.Asm.UnitF
open Go Go.Asm
section
variable {D : Ctx}
theorem refs_scan (H : Door D) (u : List LFn) (hu : SmallUnit u) (hS : ∀ x ∈ u, Sound x) (k : Cur 1) (Q : Res → Prop) : ∀ (c i : Nat) (σ : Store), c = u.length - i → i ≤ u.length →
  (∀ v σ', scan (fun f => (u[f]?).bind fun x => bad6in u.length x f) c i = some v → Q (some (v, σ'))) → (∀ σ', scan (fun f => (u[f]?).bind fun x => bad6in u.length x f) c i = none → Q (k (encFault 0 0 0) σ')) →
  Q (lpFix 2 (lp_q10_3 D (.int .i64 u.length) (encFns u) (encUnit u) k) (.int .i64 i) (encFault 0 0 0) σ) := by
 have hul := hu.len
 intro c
 induction c with
 | zero =>
  intro i σ hc hi _ hk
  rw [lpFix_eq (lp_q10_3_mono _ _ _ _ _)]
  unfold lp_q10_3
  simp only [bin_lss, Obs, aCase_bool]
  rw [if_neg (by rw [Dte]; omega)]
  exact hk σ rfl
 | succ c ih =>
  intro i σ hc hi hq hk
  have hil : i < u.length := by omega
  have hse : u[i]? = some u[i] := Lge hil
  have hx := hu.part _ (List.getElem_mem hil)
  have S := hS _ (List.getElem_mem hil)
  simp only [scan, hse, Obs] at hq hk
  generalize u[i] = x at hse hx S hq hk
  have ih' := fun σ => ih (i + 1) σ (by omega) (by omega)
  rw [lpFix_eq (lp_q10_3_mono _ _ _ _ _)]
  generalize lpFix 2 (lp_q10_3 D (.int .i64 u.length) (encFns u) (encUnit u) k) = R at ih' ⊢
  have ha : asplit 2 (.agg [encI (growP x.nodes), encI (growT x.nodes)]) = some [encI (growP x.nodes), encI (growT x.nodes)] := rfl
  have hs : asplit 7 (.agg (encFn x)) = some (encFn x) := rfl
  have e1 : ((i : Int) + 1) = ((i + 1 : Nat) : Int) := by omega
  have hv := hx.vars
  unfold lp_q10_3
  simp only [bin_lss, Obs, aCase_bool, jn_eq, idx_encFns hse, rdN_Fn, hs, rd1_p, fn_at6, fn_at4, len_encS, len_encNodes, l3grow H _ hx.nodes S.pos hx.nodes' S.ahead, ha, mk_cB (σ := σ) (n := x.vars.length) (by omega), bin_add (a := i) (b := 1) (by omega) (by omega), e1]
  rw [if_pos (by rw [Dte]; omega)]
  refine par_loop x hx S.par0 S.par1 σ.next _ _ Q (fun σ1 h1 => ?_) 0 (by omega) _ (by simp [Store.add])
  refine refs_scan1 H u hu hse S.ahead S.refs σ.next _ _ Q x.nodes.length 0 σ1 (seen0 x) (by omega) (by omega) (by have := S.par0; have := S.par1; simp [seen0]; omega) h1 (fun v σ' hb => ?_) (fun σ' hb => ?_)
  ·exact hq v σ' (by rw [bad6in, hb])
  ·rw [bad6in, hb] at hq hk
   exact ih' σ' hq hk
end
end Go.Asm.UnitF
namespace Go.Asm.UnitF
open Go Go.Asm
/-- Code 8 at a node: nothing if it is at fault, else the functions made then. -/
def step8 (u : List LFn) (x : LFn) (f n : Nat) (p : LNode) (made : List Bool) : Option (List Bool) :=
 if p.kind = 37 ∧ x.rest = false then none
 else if p.kind ≠ 36 then some made
 else
  let g := p.refs.getD 0 0
  if g ≤ (f : Int) then none
  else if made.getD g.toNat false = true then none
  else match u[g.toNat]? with
   | none => none
   | some y => if y.ups.all (up3 x n) = true then some (made.set g.toNat true) else none
def go8 (u : List LFn) (x : LFn) (f : Nat) : Nat → Nat → List Bool → Except AV (List Bool)
 | 0, _, made => .ok made
 | c + 1, n, made => match x.nodes[n]? with
  | none => .ok made
  | some p => match step8 u x f n p made with
   | none => .error (encFault 8 f n)
   | some m => go8 u x f c (n + 1) m
end Go.Asm.UnitF
namespace Go.Asm.UnitF
open Go Go.Asm
theorem step8_len {u : List LFn} {x : LFn} {f n : Nat} {p : LNode} {made m : List Bool} (h : step8 u x f n p made = some m) : m.length = made.length := by
 unfold step8 at h
 split at h
 ·exact absurd h (by simp)
 split at h
 ·cases h; rfl
 ·simp only at h
  split at h
  ·exact absurd h (by simp)
  split at h
  ·exact absurd h (by simp)
  split at h
  ·exact absurd h (by simp)
  ·split at h
   ·cases h; simp
   ·exact absurd h (by simp)
/-- What a closure's node names is a function. -/
def FnRefs (N : Nat) (x : LFn) : Prop := ∀ p ∈ x.nodes, p.kind = 36 → p.refs ≠ [] ∧ 0 ≤ p.refs.getD 0 0 ∧ p.refs.getD 0 0 < (N : Int)
end Go.Asm.UnitF
namespace Go.Asm.UnitF
open Go Go.Asm
section
variable {D : Ctx}
theorem made_loop1 (H : Door D) (u : List LFn) (hu : SmallUnit u) {f : Nat} {x : LFn} (hf : u[f]? = some x) (S : Sound x) (hF : FnRefs u.length x) (s : Nat) (t : Store) (k : Cur 1) (Q : Res → Prop) : ∀ (c i : Nat) (σ : Store) (made : List Bool), c = x.nodes.length - i → i ≤ x.nodes.length → made.length = u.length → σ.blk s = some (.cells (cB made)) →
  (∀ v σ', go8 u x f c i made = .error v → Q (some (v, σ'))) → (∀ m σ', go8 u x f c i made = .ok m → σ'.blk s = some (.cells (cB m)) → Q (k (encFault 0 0 0) σ')) →
  Q (lpFix 2 (lp_q10_6 D (.int .i64 x.nodes.length) (encFn x) (.int .i64 f) (.hslice 1 s 0 u.length, t) (encUnit u) [encI (growP x.nodes), encI (growT x.nodes)] k) (.int .i64 i) (encFault 0 0 0) σ) := by
 have hx := hu.part _ (Lmg hf)
 have hxl := hx.nodes
 intro c
 induction c with
 | zero =>
  intro i σ made hc hi hl hs _ hk
  rw [lpFix_eq (lp_q10_6_mono _ _ _ _ _ _ _ _)]
  unfold lp_q10_6
  simp only [bin_lss, Obs, aCase_bool]
  rw [if_neg (by rw [Dte]; omega)]
  exact hk made σ rfl hs
 | succ c ih =>
  intro i σ made hc hi hl hs hq hk
  have hil : i < x.nodes.length := by omega
  have hse : x.nodes[i]? = some x.nodes[i] := Lge hil
  have hfn := hF _ (List.getElem_mem hil)
  simp only [go8, hse] at hq hk
  generalize x.nodes[i] = p at hse hfn hq hk
  have ih' := fun σ m => ih (i + 1) σ m (by omega) (by omega)
  rw [lpFix_eq (lp_q10_6_mono _ _ _ _ _ _ _ _)]
  generalize lpFix 2 (lp_q10_6 D (.int .i64 x.nodes.length) (encFn x) (.int .i64 f) (.hslice 1 s 0 u.length, t) (encUnit u) [encI (growP x.nodes), encI (growT x.nodes)] k) = R at ih' ⊢
  have hul := hu.len
  have r1 : ∀ σ, rdN 1 (.pptr (AV.cells (encUnit u)) 0) σ = some [encFns u] := fun _ => rdN_p rfl
  have r2 : ∀ σ, rdN 2 (.pptr [encI (growP x.nodes), encI (growT x.nodes)] 0) σ = some [encI (growP x.nodes), encI (growT x.nodes)] := fun _ => rdN_p rfl
  have v2 : ∀ σ, callV D 22 [.int .i64 8, .int .i64 f, .int .i64 i] σ = some (encFault 8 f i) := fun σ => callV_eq (by simp [depth]) (l3fault H 8 f i Store.empty) rfl
  have hs3 : asplit 3 (encFault 8 f i) = some [.int .i64 8, .int .i64 f, .int .i64 i] := rfl
  have hW : AV.agg (AV.cells (encFault 0 0 0)) = encFault 0 0 0 := rfl
  have eF : AV.agg [.int .i64 8, .int .i64 (f : Int), .int .i64 (i : Int)] = encFault 8 f i := rfl
  have e1 : ((i : Int) + 1) = ((i + 1 : Nat) : Int) := by omega
  unfold lp_q10_6
  simp only [bin_lss, bin_eql, bin_neq, bin_leq, Obs, aCase_bool, jn_eq, un_not, rd1_p, fn_at6, fn_at3, idx_encNodes hse, fadd_p, Nat.zero_add, node_at0, node_at6, r1, r2, v2, hs3, hW, eF, bin_add (a := i) (b := 1) (by omega) (by omega), e1]
  rw [if_pos (by rw [Dte]; omega)]
  unfold step8 at hq hk
  by_cases h1 : p.kind = 37
  ·have h36 : ¬ p.kind = 36 := by omega
   cases hrest : x.rest with
   | false =>
    rw [if_pos ⟨h1, hrest⟩] at hq
    have := hq _ σ rfl
    simpa [h1, hrest] using this
   | true =>
    rw [if_neg (by simp [hrest]), if_pos h36] at hq hk
    have := ih' σ made hl hs hq hk
    simpa [h1, hrest] using this
  rw [if_neg (by simp [h1])] at hq hk
  by_cases h2 : p.kind = 36
  ·rw [if_neg (fun h => h h2)] at hq hk
   obtain ⟨hne, g0, g1⟩ := hfn h2
   have r0 : idx 1 (encI p.refs) (.int .i64 0) = some (.pptr [.int .i64 (p.refs.getD 0 0)] 0) := idx_encI' (i := 0) (List.length_pos_iff.2 hne)
   generalize p.refs.getD 0 0 = g at g0 g1 r0 hq hk
   obtain ⟨G, rfl⟩ : ∃ G : Nat, g = G := ⟨g.toNat, by omega⟩
   have hGl : G < made.length := by omega
   have hGu : G < u.length := by omega
   have hsu : u[G]? = some u[G] := Lge hGu
   have hy := hu.part _ (List.getElem_mem hGu)
   simp only [Int.toNat_natCast, hsu] at hq hk
   generalize u[G] = y at hsu hy hq hk
   have v28 : ∀ σ, callV D 28 [.agg [encFns u], .int .i64 f, .agg [encI (growP x.nodes), encI (growT x.nodes)], .int .i64 i, .int .i64 G] σ = some (.bool (y.ups.all (up3 x i))) := fun σ =>
    callV_eq (by simp [depth, view_tree, show AV.agg [encFns u] = encUnit u from rfl, view_Unit]) (l3ups H u f x hf hx S.ahead i hil G y hsu hy Store.empty) rfl
   have n37 : decide (p.kind = 37) = false := decide_eq_false h1
   have n36 : decide (p.kind ≠ 36) = false := decide_eq_false (fun h => h h2)
   simp only [n37, n36, Bool.not_true, Bft, if_false, if_true, r0, rd1_p, Lgz, bin_leq, Obs, aCase_bool, idx_h1 (x := s) (n := u.length) (i := (G : Int)) (by omega) (by omega), Int.toNat_natCast, rd1_cB hs hGl, wr_cB hs hGl, v28, un_not, v2, hs3, hW, eF]
   by_cases h3 : (G : Int) ≤ f
   ·rw [if_pos h3] at hq
    have := hq _ σ rfl
    simpa [h3] using this
   rw [if_neg h3] at hq hk
   rw [if_neg (by rw [Dte]; exact h3)]
   by_cases h4 : made.getD G false = true
   ·rw [if_pos h4] at hq
    have := hq _ σ rfl
    rw [if_pos h4]
    exact this
   rw [if_neg h4] at hq hk
   rw [if_neg h4]
   by_cases h5 : y.ups.all (up3 x i) = true
   ·rw [if_pos h5] at hq hk
    rw [h5]
    refine ih' _ (made.set G true) (by simp [hl]) upd_blk hq hk
   ·rw [if_neg h5] at hq
    have h5' : y.ups.all (up3 x i) = false := by simpa only [Bool.not_eq_true] using h5
    rw [h5']
    exact hq _ σ rfl
  ·rw [if_pos h2] at hq hk
   have := ih' σ made hl hs hq hk
   simpa [h1, h2] using this
end
end Go.Asm.UnitF
namespace Go.Asm.UnitF
open Go Go.Asm
def go8F (u : List LFn) : Nat → Nat → List Bool → Except AV (List Bool)
 | 0, _, made => .ok made
 | c + 1, f, made => match u[f]? with
  | none => .ok made
  | some x => match go8 u x f x.nodes.length 0 made with
   | .error v => .error v
   | .ok m => go8F u c (f + 1) m
/-- What l3third finds: the codes 6 to 9. -/
def third3 (u : List LFn) : AV := (bad6 u).getD ((bad7 u).getD (match go8F u u.length 0 (List.replicate u.length false) with
 | .error v => v
 | .ok m => (bad9 u.length m).getD (encFault 0 0 0)))
theorem go8_len {u : List LFn} {x : LFn} {f : Nat} : ∀ {c n : Nat} {made m : List Bool}, go8 u x f c n made = .ok m → m.length = made.length := by
 intro c
 induction c with
 | zero => intro n made m h; cases h; rfl
 | succ c ih =>
  intro n made m h
  rw [go8] at h
  split at h
  ·cases h; rfl
  split at h
  ·cases h
  ·rename_i h8
   rw [ih h, step8_len h8]
theorem go8F_len {u : List LFn} : ∀ {c f : Nat} {made m : List Bool}, go8F u c f made = .ok m → m.length = made.length := by
 intro c
 induction c with
 | zero => intro n made m h; cases h; rfl
 | succ c ih =>
  intro n made m h
  rw [go8F] at h
  split at h
  ·cases h; rfl
  split at h
  ·cases h
  ·rename_i h8
   rw [ih h, go8_len h8]
section
variable {D : Ctx}
theorem made_loop (H : Door D) (u : List LFn) (hu : SmallUnit u) (hS : ∀ x ∈ u, Sound x) (hF : ∀ x ∈ u, FnRefs u.length x) (s : Nat) (t : Store) (k : Cur 1) (Q : Res → Prop) : ∀ (c i : Nat) (σ : Store) (made : List Bool), c = u.length - i → i ≤ u.length → made.length = u.length → σ.blk s = some (.cells (cB made)) →
  (∀ v σ', go8F u c i made = .error v → Q (some (v, σ'))) → (∀ m σ', go8F u c i made = .ok m → σ'.blk s = some (.cells (cB m)) → Q (k (encFault 0 0 0) σ')) →
  Q (lpFix 2 (lp_q10_7 D (.int .i64 u.length) (encFns u) (.hslice 1 s 0 u.length, t) (encUnit u) k) (.int .i64 i) (encFault 0 0 0) σ) := by
 have hul := hu.len
 intro c
 induction c with
 | zero =>
  intro i σ made hc hi hl hs _ hk
  rw [lpFix_eq (lp_q10_7_mono _ _ _ _ _ _)]
  unfold lp_q10_7
  simp only [bin_lss, Obs, aCase_bool]
  rw [if_neg (by rw [Dte]; omega)]
  exact hk made σ rfl hs
 | succ c ih =>
  intro i σ made hc hi hl hs hq hk
  have hil : i < u.length := by omega
  have hse : u[i]? = some u[i] := Lge hil
  have hx := hu.part _ (List.getElem_mem hil)
  have S := hS _ (List.getElem_mem hil)
  have F := hF _ (List.getElem_mem hil)
  simp only [go8F, hse] at hq hk
  generalize u[i] = x at hse hx S F hq hk
  have ih' := fun σ m => ih (i + 1) σ m (by omega) (by omega)
  rw [lpFix_eq (lp_q10_7_mono _ _ _ _ _ _)]
  generalize lpFix 2 (lp_q10_7 D (.int .i64 u.length) (encFns u) (.hslice 1 s 0 u.length, t) (encUnit u) k) = R at ih' ⊢
  have ha : asplit 2 (.agg [encI (growP x.nodes), encI (growT x.nodes)]) = some [encI (growP x.nodes), encI (growT x.nodes)] := rfl
  have hs7 : asplit 7 (.agg (encFn x)) = some (encFn x) := rfl
  have e1 : ((i : Int) + 1) = ((i + 1 : Nat) : Int) := by omega
  unfold lp_q10_7
  simp only [bin_lss, Obs, aCase_bool, jn_eq, idx_encFns hse, rdN_Fn, hs7, rd1_p, fn_at6, len_encNodes, l3grow H _ hx.nodes S.pos hx.nodes' S.ahead, ha, bin_add (a := i) (b := 1) (by omega) (by omega), e1]
  rw [if_pos (by rw [Dte]; omega)]
  refine made_loop1 H u hu hse S F s t _ Q x.nodes.length 0 σ made (by omega) (by omega) hl hs (fun v σ' hb => ?_) (fun m σ' hb hs' => ?_)
  ·rw [hb] at hq
   exact hq v σ' rfl
  ·rw [hb] at hq hk
   exact ih' σ' m ((go8_len hb).trans hl) hs' hq hk
theorem l3third (H : Door D) (u : List LFn) (hu : SmallUnit u) (hS : ∀ x ∈ u, Sound x) (hF : bad6 u = none → ∀ x ∈ u, FnRefs u.length x) (σ : Store) : Ret (D.call 14 [encUnit u] σ) (third3 u) := by
 have r : ∀ σ, rd1 D.G (.pptr (AV.cells (encUnit u)) 0) σ = some (encFns u) := fun _ => rfl
 have hW : AV.agg (AV.cells (encFault 0 0 0)) = encFault 0 0 0 := rfl
 have e0 : AV.agg [.int .i64 0, .int .i64 0, .int .i64 0] = encFault 0 0 0 := rfl
 have hul := hu.len
 have hg : Good u := fun x hx => ⟨(hS x hx).pos, (hS x hx).ahead⟩
 have hk : ∀ x ∈ u, LoopKids x := fun x hx => (hS x hx).loops
 rw [H.f14]
 unfold sh_q10
 simp only [r, len_encFns, Obs, jn_eq, e0, hW]
 refine refs_scan H u hu hS _ (fun q => Ret q (third3 u)) u.length 0 σ (by omega) (by omega) (fun v σ' hb => ?_) (fun σ' hb => ?_)
 ·have hb : bad6 u = some v := hb
  exact ⟨σ', by rw [third3, hb]; rfl⟩
 have hb : bad6 u = none := hb
 have hF := hF hb
 refine Eq.mpr (congrArg (fun q => Ret q (third3 u)) (jump_scan H u hu hg hk _ σ')) ?_
 cases h7 : bad7 u with
 | some v => exact ⟨σ', by rw [third3, hb, h7]; rfl⟩
 | none =>
 simp only [mk_cB (σ := σ') (n := u.length) (by omega), Obs]
 refine made_loop H u hu hS hF σ'.next _ _ (fun q => Ret q (third3 u)) u.length 0 _ (List.replicate u.length false) (by omega) (by omega) (by simp) (by simp [Store.add]) (fun v σ1 h8 => ?_) (fun m σ1 h8 hs => ?_)
 ·exact ⟨σ1, by rw [third3, hb, h7, h8]; rfl⟩
 ·have hm : m.length = u.length := by rw [go8F_len h8]; simp
  refine Eq.mpr (congrArg (fun q => Ret q (third3 u)) (made_scan H u hu σ'.next _ m hm _ σ1 hs (u.length - 1) 1 (by omega) (by omega))) ?_
  have e : third3 u = (bad9 u.length m).getD (encFault 0 0 0) := by rw [third3, hb, h7, h8]; rfl
  rw [e]
  show Ret (match bad9 u.length m with | some v => some (v, σ1) | none => _) _
  cases bad9 u.length m with
  | some v => exact Ret.mk
  | none => exact Ret.mk
end
end Go.Asm.UnitF
namespace Go.Asm.UnitF
open Go Go.Asm
theorem scan_some {α : Type} {g : Nat → Option α} {v : α} : ∀ {c i : Nat}, scan g c i = some v → ∃ j, i ≤ j ∧ j < i + c ∧ g j = some v ∧ ∀ m, i ≤ m → m < j → g m = none := by
 intro c
 induction c with
 | zero => intro i h; cases h
 | succ c ih =>
  intro i h
  rw [scan] at h
  cases hg : g i with
  | some w => rw [hg] at h; cases h; exact ⟨i, by omega, by omega, hg, fun m h1 h2 => by omega⟩
  | none =>
   rw [hg] at h
   obtain ⟨j, h1, h2, h3, h4⟩ := ih h
   refine ⟨j, by omega, by omega, h3, fun m a b => ?_⟩
   by_cases e : m = i
   ·subst e; exact hg
   ·exact h4 m (by omega) b
theorem scan_none {α : Type} {g : Nat → Option α} : ∀ {c i : Nat}, scan g c i = none → ∀ j, i ≤ j → j < i + c → g j = none := by
 intro c
 induction c with
 | zero => intro i h j a b; omega
 | succ c ih =>
  intro i h j a b
  rw [scan] at h
  cases hg : g i with
  | some w => rw [hg] at h; cases h
  | none =>
   rw [hg] at h
   by_cases e : j = i
   ·subst e; exact hg
   ·exact ih h j (by omega) (by omega)
theorem scanF_none {u : List LFn} {g : Nat → LFn → Option AV} (h : scanF u g = none) {f : Nat} {x : LFn} (hx : u[f]? = some x) : g f x = none := by
 have := scan_none h f (by omega) (by have := (List.getElem?_eq_some_iff.1 hx).1; omega)
 simpa [hx] using this
theorem scanF_some {u : List LFn} {g : Nat → LFn → Option AV} {v : AV} (h : scanF u g = some v) : ∃ f x, u[f]? = some x ∧ g f x = some v := by
 obtain ⟨j, _, _, h3, _⟩ := scan_some h
 cases hx : u[j]? with
 | none => rw [hx] at h3; cases h3
 | some x => exact ⟨j, x, hx, by simpa [hx] using h3⟩
/-- What all the functions' heads leave (the codes 2 and 3). -/
theorem sound_of {u : List LFn} (h2 : bad2 u = none) (h3 : bad3 u = none) : ∀ x ∈ u, Sound x := by
 intro x hx
 obtain ⟨f, hf⟩ := List.getElem?_of_mem hx
 have a := scanF_none h2 hf
 have b := scanF_none h3 hf
 have a : head3 x f = true := by
  cases hh : head3 x f with
  | true => rfl
  | false => rw [hh] at a; cases a
 have b : ∀ (n : Nat) p, x.nodes[n]? = some p → shape3 x.nodes p n = true := by
  intro n p hp
  have := scan_none b n (by omega) (by have := (List.getElem?_eq_some_iff.1 hp).1; omega)
  rw [hp] at this
  cases hh : shape3 x.nodes p n with
  | true => rfl
  | false => rw [Obs, hh] at this; cases this
 simp only [head3, Bae, Bool.not_eq_true', Bool.or_eq_false_iff, Dfn] at a
 have ah : Ahead x.nodes := by
  intro n p hp c hc
  have := b n p hp
  simp only [shape3, kidsIn, Bae, List.all_eq_true, Dte] at this
  exact this.1.2 c hc
 refine ⟨by omega, ah, ?_, ?_, by omega, by omega⟩
 ·intro p hp hk
  obtain ⟨n, hn⟩ := List.getElem?_of_mem hp
  have := b n p hn
  simp only [shape3, Bae] at this
  have hs := this.2
  have h1 : isStat p.kind = true := by simp only [isStat, Bae, Dte]; omega
  rw [if_pos h1] at hs
  simp only [Bae] at hs
  have hs := hs.2
  have hkl := kinds_len x.nodes p n
  intro e
  rw [e] at hkl
  unfold stmt3 at hs
  simp only [hkl] at hs
  rcases hk with e6 | e7 | e8
  ·rw [if_neg (by omega), if_neg (by omega), if_neg (by omega), if_neg (by omega), if_neg (by omega), if_pos e6] at hs
   simp at hs
  ·rw [if_neg (by omega), if_neg (by omega), if_neg (by omega), if_neg (by omega), if_neg (by omega), if_neg (by omega), if_pos e7] at hs
   simp at hs
  ·rw [if_neg (by omega), if_neg (by omega), if_neg (by omega), if_neg (by omega), if_neg (by omega), if_neg (by omega), if_neg (by omega), if_pos e8] at hs
   simp at hs
 ·intro p hp hk
  obtain ⟨n, hn⟩ := List.getElem?_of_mem hp
  have := b n p hn
  simp only [shape3, Bae] at this
  have hs := this.2
  have h1 : isStat p.kind = false := by
   cases hh : isStat p.kind with
   | false => rfl
   | true => simp only [isStat, Bae, Dte] at hh; omega
  rw [if_neg (by rw [h1]; simp)] at hs
  simp only [Bae] at hs
  have hs := hs.2
  intro e
  unfold expr3 at hs
  rw [if_neg (by omega), if_neg (by omega), if_neg (by omega), if_neg (by omega), if_pos (by omega)] at hs
  simp [bare, e] at hs
theorem bad6go_none {N : Nat} {x : LFn} {f : Nat} : ∀ {c i : Nat} {seen : List Bool}, bad6go N x f c i seen = none → ∀ n p, i ≤ n → n < i + c → x.nodes[n]? = some p → ∃ s, (refs3 N x n p s).1 = true := by
 intro c
 induction c with
 | zero => intro i seen h n p a b; omega
 | succ c ih =>
  intro i seen h n p a b hp
  rw [bad6go] at h
  cases hx : x.nodes[i]? with
  | none =>
   have := List.getElem?_eq_none_iff.1 hx
   have := (List.getElem?_eq_some_iff.1 hp).1
   omega
  | some q =>
   rw [hx] at h
   simp only at h
   split at h
   ·rename_i h1
    by_cases e : n = i
    ·subst e; rw [hx] at hp; cases hp; exact ⟨_, h1⟩
    ·exact ih h n p (by omega) (by omega) hp
   ·cases h
theorem fnrefs_of {u : List LFn} (hS : ∀ x ∈ u, Sound x) (h6 : bad6 u = none) : ∀ x ∈ u, FnRefs u.length x := by
 intro x hx p hp hk
 obtain ⟨f, hf⟩ := List.getElem?_of_mem hx
 obtain ⟨n, hn⟩ := List.getElem?_of_mem hp
 have h : bad6in u.length x f = none := scanF_none h6 hf
 obtain ⟨s, hs⟩ := bad6go_none h n p (by omega) (by have := (List.getElem?_eq_some_iff.1 hn).1; omega) hn
 refine ⟨(hS x hx).refs p hp (.inr hk), ?_⟩
 rw [refs3, if_neg (by omega), if_pos hk] at hs
 simpa using hs
/-- What the specification's CheckUnit answers. -/
def check3 (u : List LFn) : AV := if bad1 u = true then encFault 1 0 0 else (bad2 u).getD ((bad3 u).getD ((bad4 u).getD ((bad5 u).getD (third3 u))))
theorem code2 {u : List LFn} {v : AV} (h : bad2 u = some v) : ∃ f n : Nat, v = encFault 2 f n := by
 obtain ⟨f, x, _, h⟩ := scanF_some h
 split at h <;> cases h
 exact ⟨f, 0, rfl⟩
theorem code3 {u : List LFn} {v : AV} (h : bad3 u = some v) : ∃ f n : Nat, v = encFault 3 f n := by
 obtain ⟨f, x, _, h⟩ := scanF_some h
 obtain ⟨n, _, _, h, _⟩ := scan_some h
 cases hx : x.nodes[n]? with
 | none => rw [hx] at h; cases h
 | some p =>
  rw [hx, Obs] at h
  split at h <;> cases h
  exact ⟨f, n, rfl⟩
theorem code4 {u : List LFn} {v : AV} (h : bad4 u = some v) : ∃ f n : Nat, v = encFault 4 f n := by
 obtain ⟨f, x, _, h⟩ := scanF_some h
 obtain ⟨n, _, _, h, _⟩ := scan_some h
 cases hx : x.nodes[n]? with
 | none => rw [hx] at h; cases h
 | some p =>
  rw [hx, Obs] at h
  split at h <;> cases h
  exact ⟨f, n, rfl⟩
theorem code5 {u : List LFn} {v : AV} (h : bad5 u = some v) : ∃ f n : Nat, v = encFault 5 f n := by
 obtain ⟨f, x, _, h⟩ := scanF_some h
 obtain ⟨n, _, _, h, _⟩ := scan_some h
 split at h <;> cases h
 exact ⟨f, n, rfl⟩
theorem code7 {u : List LFn} {v : AV} (h : bad7 u = some v) : ∃ f n : Nat, v = encFault 7 f n := by
 obtain ⟨f, x, _, h⟩ := scanF_some h
 obtain ⟨n, _, _, h, _⟩ := scan_some h
 cases hx : x.nodes[n]? with
 | none => rw [hx] at h; cases h
 | some p =>
  rw [hx, Obs] at h
  split at h <;> cases h
  exact ⟨f, n, rfl⟩
theorem code6 {u : List LFn} {v : AV} (h : bad6 u = some v) : ∃ f n : Nat, v = encFault 6 f n := by
 obtain ⟨f, x, _, h⟩ := scanF_some h
 have : ∀ (c i : Nat) (seen : List Bool), bad6go u.length x f c i seen = some v → ∃ f n : Nat, v = encFault 6 f n := by
  intro c
  induction c with
  | zero => intro i seen h; cases h
  | succ c ih =>
   intro i seen h
   rw [bad6go] at h
   split at h
   ·cases h
   split at h
   ·exact ih _ _ h
   ·cases h; exact ⟨f, i, rfl⟩
 exact this _ _ _ h
theorem code8 {u : List LFn} {v : AV} {c f : Nat} {made : List Bool} (h : go8F u c f made = .error v) : ∃ f n : Nat, v = encFault 8 f n := by
 have h1 : ∀ (x : LFn) (f c i : Nat) (made : List Bool), go8 u x f c i made = .error v → ∃ f n : Nat, v = encFault 8 f n := by
  intro x f c
  induction c with
  | zero => intro i made h; cases h
  | succ c ih =>
   intro i made h
   rw [go8] at h
   split at h
   ·cases h
   split at h
   ·cases h; exact ⟨f, i, rfl⟩
   ·exact ih _ _ h
 induction c generalizing f made with
 | zero => cases h
 | succ c ih =>
  rw [go8F] at h
  split at h
  ·cases h
  split at h
  ·rename_i h8
   cases h; exact h1 _ _ _ _ _ h8
  ·exact ih h
theorem code9 {N : Nat} {made : List Bool} {v : AV} (h : bad9 N made = some v) : ∃ f n : Nat, v = encFault 9 f n := by
 obtain ⟨n, _, _, h, _⟩ := scan_some h
 split at h <;> cases h
 exact ⟨n, 0, rfl⟩
theorem scal_encFault (c f n : Int) : scal (encFault c f n) = true := rfl
theorem third3_scal (u : List LFn) : ∃ c f n : Int, third3 u = encFault c f n := by
 unfold third3
 cases h6 : bad6 u with
 | some v => obtain ⟨f, n, rfl⟩ := code6 h6; exact ⟨_, _, _, rfl⟩
 | none =>
 cases h7 : bad7 u with
 | some v => obtain ⟨f, n, rfl⟩ := code7 h7; exact ⟨_, _, _, rfl⟩
 | none =>
 simp only [Option.getD_none]
 split
 ·rename_i h8; obtain ⟨f, n, rfl⟩ := code8 h8; exact ⟨_, _, _, rfl⟩
 ·rename_i m _
  cases h9 : bad9 u.length m with
  | some v => obtain ⟨f, n, rfl⟩ := code9 h9; exact ⟨_, _, _, rfl⟩
  | none => exact ⟨_, _, _, rfl⟩
section
variable {D : Ctx}
theorem spec_check (H : Door D) (u : List LFn) (hu : SmallUnit u) (σ : Store) : D.call 6 [encUnit u] σ = some (check3 u, σ) := by
 have r1 : ∀ σ, rdN 1 (.pptr (AV.cells (encUnit u)) 0) σ = some [encFns u] := fun _ => rdN_p rfl
 have eU : AV.agg [encFns u] = encUnit u := rfl
 have v1 : ∀ v, first3 u = v → scal v = true → callV D 12 [encUnit u] σ = some v := fun v h1 h2 => callV_eq (by simp [depth, view_Unit]) (by rw [l3first H u hu, h1]) h2
 have fs : ∀ c f n : Int, asplit 3 (encFault c f n) = some [.int .i64 c, .int .i64 f, .int .i64 n] := fun _ _ _ => rfl
 have r3 : ∀ c f n : Int, rdN 3 (.pptr [.int .i64 c, .int .i64 f, .int .i64 n] 0) σ = some [.int .i64 c, .int .i64 f, .int .i64 n] := fun _ _ _ => rdN_p rfl
 have a3 : ∀ c f n : Int, asplit 3 (.agg [.int .i64 c, .int .i64 f, .int .i64 n]) = some [.int .i64 c, .int .i64 f, .int .i64 n] := fun _ _ _ => rfl
 rw [H.f6]
 unfold sh_q2 check3
 by_cases h1 : bad1 u = true
 ·rw [if_pos h1]
  simp only [r1, Obs, eU, v1 _ (show first3 u = encFault 1 0 0 by rw [first3, if_pos h1]) rfl, fs, rd1_p, Lgz, bin_neq, aCase_bool, r3, a3]
  rfl
 rw [if_neg h1]
 cases h2 : bad2 u with
 | some v =>
  obtain ⟨f, n, rfl⟩ := code2 h2
  simp only [r1, Obs, eU, v1 _ (show first3 u = encFault 2 f n by rw [first3, if_neg h1, h2]; rfl) rfl, fs, rd1_p, Lgz, bin_neq, aCase_bool, r3, a3]
  rfl
 | none =>
 cases h3 : bad3 u with
 | some v =>
  obtain ⟨f, n, rfl⟩ := code3 h3
  simp only [r1, Obs, eU, v1 _ (show first3 u = encFault 3 f n by rw [first3, if_neg h1, h2, h3]; rfl) rfl, fs, rd1_p, Lgz, bin_neq, aCase_bool, r3, a3]
  rfl
 | none =>
 have hS := sound_of h2 h3
 have hg : Good u := fun x hx => ⟨(hS x hx).pos, (hS x hx).ahead⟩
 have v2 : ∀ v, second3 u = v → scal v = true → callV D 13 [encUnit u] σ = some v := fun v h1 h2 => callV_eq (by simp [depth, view_Unit]) (by rw [l3second H u hu hg, h1]) h2
 have n0 : decide ((0 : Int) ≠ 0) = false := rfl
 cases h4 : bad4 u with
 | some v =>
  obtain ⟨f, n, rfl⟩ := code4 h4
  simp only [r1, Obs, eU, v1 _ (show first3 u = encFault 0 0 0 by rw [first3, if_neg h1, h2, h3]; rfl) rfl, v2 _ (show second3 u = encFault 4 f n by rw [second3, h4]; rfl) rfl, fs, rd1_p, Lgz, bin_neq, n0, aCase_bool, r3, a3]
  rfl
 | none =>
 cases h5 : bad5 u with
 | some v =>
  obtain ⟨f, n, rfl⟩ := code5 h5
  simp only [r1, Obs, eU, v1 _ (show first3 u = encFault 0 0 0 by rw [first3, if_neg h1, h2, h3]; rfl) rfl, v2 _ (show second3 u = encFault 5 f n by rw [second3, h4, h5]; rfl) rfl, fs, rd1_p, Lgz, bin_neq, n0, aCase_bool, r3, a3]
  rfl
 | none =>
  obtain ⟨c, f, n, h6⟩ := third3_scal u
  have v3 : callV D 14 [encUnit u] σ = some (third3 u) := callV_ret (us := [encUnit u]) (by simp [depth, view_Unit]) (l3third H u hu hS (fnrefs_of hS) Store.empty) (by rw [h6]; rfl)
  simp only [r1, Obs, eU, v1 _ (show first3 u = encFault 0 0 0 by rw [first3, if_neg h1, h2, h3]; rfl) rfl, v2 _ (show second3 u = encFault 0 0 0 by rw [second3, h4, h5]; rfl) rfl, v3, fs, rd1_p, Lgz, bin_neq, n0, aCase_bool, Option.getD_none, h6]
  rfl
end
end Go.Asm.UnitF
/- Plain laws of a unit: parents, and how often a node is a kid. -/
namespace Go.Asm.UnitF
open Go Go.Asm
/-- Which node has which kid, in order. -/
def pairs (i : Nat) : List LNode → List (Nat × Int)
 | [] => []
 | p :: ps => p.kids.map (fun k => (i, k)) ++ pairs (i + 1) ps
def gstep (par : List Int) (q : Nat × Int) : List Int := par.set q.2.toNat (if par.getD q.2.toNat 0 = -2 then (q.1 : Int) else -3)
theorem growK_pairs (i : Nat) (ks : List Int) : ∀ par, growK i par ks = (ks.map fun k => (i, k)).foldl gstep par := by
 induction ks with
 | nil => intro par; rfl
 | cons k ks ih =>
  intro par
  rw [growK, List.foldl_cons, List.map_cons, List.foldl_cons, ← ih]
  rfl
theorem growA_pairs : ∀ (l : List LNode) (i : Nat) (par : List Int), growA par i l = (pairs i l).foldl gstep par
 | [], i, par => rfl
 | p :: ps, i, par => by
  rw [growA, pairs, List.foldl_append, ← growK_pairs, growA_pairs ps]
theorem mem_pairs {l : List LNode} : ∀ {i n : Nat} {k : Int}, (n, k) ∈ pairs i l ↔ ∃ j p, l[j]? = some p ∧ n = i + j ∧ k ∈ p.kids := by
 induction l with
 | nil => intro i n k; simp [pairs]
 | cons p ps ih =>
  intro i n k
  simp only [pairs, List.mem_append, List.mem_map, Prod.mk.injEq]
  rw [ih]
  constructor
  ·rintro (⟨a, ha, rfl, rfl⟩ | ⟨j, q, h1, h2, h3⟩)
   ·exact ⟨0, p, rfl, rfl, ha⟩
   ·exact ⟨j + 1, q, by simpa using h1, by omega, h3⟩
  ·rintro ⟨j, q, h1, h2, h3⟩
   cases j with
   | zero => simp at h1; subst h1; exact .inl ⟨k, h3, by omega, rfl⟩
   | succ j => exact .inr ⟨j, q, by simpa using h1, by omega, h3⟩
/-- How often c is a kid. -/
def occ (l : List LNode) (c : Nat) : Nat := ((pairs 0 l).filter fun q => decide (q.2 = (c : Int))).length
theorem gfold_other (c : Nat) : ∀ (ps : List (Nat × Int)) (par : List Int), (∀ q ∈ ps, 0 ≤ q.2) → (ps.filter fun q => decide (q.2 = (c : Int))) = [] → (ps.foldl gstep par).getD c 0 = par.getD c 0
 | [], par, _, _ => rfl
 | q :: ps, par, h0, h => by
  rw [List.filter_cons] at h
  split at h
  ·cases h
  ·rename_i hq
   have hq : q.2 ≠ c := by simpa using hq
   have h00 := h0 q (by simp)
   rw [List.foldl_cons, gfold_other c ps _ (fun r hr => h0 r (by simp [hr])) h, gstep]
   have : q.2.toNat ≠ c := by omega
   simp [this]
theorem gstep_len (par : List Int) (q : Nat × Int) : (gstep par q).length = par.length := by simp [gstep]
theorem gfold_len (ps : List (Nat × Int)) : ∀ par : List Int, (ps.foldl gstep par).length = par.length := by
 induction ps with
 | nil => intro par; rfl
 | cons q ps ih => intro par; rw [List.foldl_cons, ih, gstep_len]
/-- What the parents' list has at c. -/
theorem gfold_at (c : Nat) : ∀ (ps : List (Nat × Int)) (par : List Int), c < par.length → (∀ q ∈ ps, 0 ≤ q.2) → par.getD c 0 = -2 ∨ par.getD c 0 = -3 ∨ 0 ≤ par.getD c 0 →
  (ps.foldl gstep par).getD c 0 = match ps.filter fun q => decide (q.2 = (c : Int)) with
   | [] => par.getD c 0
   | [q] => if par.getD c 0 = -2 then (q.1 : Int) else -3
   | _ => -3
 | [], par, _, _, _ => rfl
 | q :: ps, par, hc, h0, hp => by
  have h00 := h0 q (by simp)
  have ih := gfold_at c ps (gstep par q) (by rw [gstep_len]; exact hc) (fun r hr => h0 r (by simp [hr]))
  rw [List.foldl_cons, List.filter_cons]
  by_cases hq : q.2 = c
  ·rw [if_pos (by simpa using hq)]
   have e : (gstep par q).getD c 0 = if par.getD c 0 = -2 then (q.1 : Int) else -3 := by
    have : q.2.toNat = c := by omega
    simp only [gstep, this]
    simp [hc]
   rw [e] at ih
   have ih := ih (by split <;> omega)
   rw [ih]
   cases hf : ps.filter fun q => decide (q.2 = (c : Int)) with
   | nil => rfl
   | cons r rs =>
    cases rs with
    | nil => simp only []; rw [if_neg]; split <;> omega
    | cons _ _ => rfl
  ·rw [if_neg (by simpa using hq)]
   have e : (gstep par q).getD c 0 = par.getD c 0 := by
    have : q.2.toNat ≠ c := by omega
    simp [gstep, this]
   rw [e] at ih
   exact ih hp
theorem pairs_nonneg {l : List LNode} (ha : Ahead l) : ∀ q ∈ pairs 0 l, 0 ≤ q.2 := by
 rintro ⟨n, k⟩ hq
 obtain ⟨j, p, h1, _, h3⟩ := mem_pairs.1 hq
 exact (ha j p h1 k h3).1
theorem growA_at {l : List LNode} (ha : Ahead l) {c : Nat} (hc : c < l.length) : (growA (List.replicate l.length (-2)) 0 l).getD c 0 = match (pairs 0 l).filter fun q => decide (q.2 = (c : Int)) with
  | [] => -2
  | [q] => (q.1 : Int)
  | _ => -3 := by
 have e : (List.replicate l.length (-2 : Int)).getD c 0 = -2 := by simp [hc]
 rw [growA_pairs, gfold_at c _ _ (by simpa using hc) (pairs_nonneg ha) (.inl e), e]
 simp
/-- No node is the last one's kid's parent: it is never a kid. -/
theorem occ_last {l : List LNode} (ha : Ahead l) (c : Nat) (hc : l.length ≤ c + 1) : (pairs 0 l).filter (fun q => decide (q.2 = (c : Int))) = [] := by
 rw [List.filter_eq_nil_iff]
 rintro ⟨n, k⟩ hq h
 obtain ⟨j, p, h1, h2, h3⟩ := mem_pairs.1 hq
 have := (ha j p h1 k h3).2
 have hj := (List.getElem?_eq_some_iff.1 h1).1
 simp only [Dte] at h
 omega
theorem growP_at {l : List LNode} (ha : Ahead l) {c : Nat} (hc : c + 1 < l.length) : (growP l).getD c 0 = match (pairs 0 l).filter fun q => decide (q.2 = (c : Int)) with
  | [] => -2
  | [q] => (q.1 : Int)
  | _ => -3 := by
 rw [← growA_at ha (by omega)]
 simp only [growP]
 split
 ·have : l.length - 1 ≠ c := by omega
  simp [this]
 ·rfl
theorem growP_last {l : List LNode} (ha : Ahead l) (h0 : 0 < l.length) : (growP l).getD (l.length - 1) 0 = -1 := by
 have e := growA_at ha (c := l.length - 1) (by omega)
 rw [occ_last ha _ (by omega)] at e
 simp only [growP]
 rw [if_pos e]
 have : l.length - 1 < (growA (List.replicate l.length (-2)) 0 l).length := by rw [growA_len]; simp; omega
 simp [this]
/-- A node is a kid once, or it has no parent. -/
theorem occ_iff {l : List LNode} (ha : Ahead l) {c : Nat} (hc : c + 1 < l.length) : 0 ≤ (growP l).getD c 0 ↔ occ l c = 1 := by
 rw [growP_at ha hc, occ]
 cases (pairs 0 l).filter fun q => decide (q.2 = (c : Int)) with
 | nil => simp
 | cons q qs => cases qs with
  | nil => simp
  | cons r rs => simp
/-- In a tree a kid's parent is that node, and it stands there once. -/
theorem parent_of {l : List LNode} (ha : Ahead l) {n c : Nat} {p : LNode} (hp : l[n]? = some p) (hc : (c : Int) ∈ p.kids) (ho : occ l c = 1) : (growP l).getD c 0 = n := by
 have hn := (List.getElem?_eq_some_iff.1 hp).1
 have hcn := (ha n p hp c hc).2
 rw [growP_at ha (by omega)]
 have hm : (n, (c : Int)) ∈ (pairs 0 l).filter fun q => decide (q.2 = (c : Int)) := by
  rw [List.mem_filter]
  exact ⟨mem_pairs.2 ⟨n, p, hp, by omega, hc⟩, by simp⟩
 rw [occ] at ho
 cases hf : (pairs 0 l).filter fun q => decide (q.2 = (c : Int)) with
 | nil => rw [hf] at hm; cases hm
 | cons q qs => cases qs with
  | nil => rw [hf] at hm; simp at hm; subst hm; rfl
  | cons r rs => rw [hf] at ho; simp at ho
theorem pairs_filter {l : List LNode} : ∀ {i n : Nat} {p : LNode} (c : Int), l[n]? = some p → ((p.kids.filter fun k => decide (k = c)).length) ≤ ((pairs i l).filter fun q => decide (q.2 = c)).length := by
 induction l with
 | nil => intro i n p c h; simp at h
 | cons q qs ih =>
  intro i n p c h
  have e : ((pairs i (q :: qs)).filter fun r => decide (r.2 = c)).length = ((q.kids.filter fun k => decide (k = c)).length) + ((pairs (i + 1) qs).filter fun r => decide (r.2 = c)).length := by
   rw [pairs, List.filter_append, List.length_append, List.filter_map, List.length_map]
   rfl
  rw [e]
  cases n with
  | zero => simp at h; subst h; omega
  | succ n => have := ih (i := i + 1) (n := n) c (by simpa using h); omega
theorem kid_once {l : List LNode} {n c : Nat} {p : LNode} (hp : l[n]? = some p) (ho : occ l c = 1) : (p.kids.filter fun k => decide (k = (c : Int))).length ≤ 1 := by
 have := pairs_filter (i := 0) (c : Int) hp
 rw [occ] at ho
 omega
/-- The place of a kid that stands there once. -/
theorem place_once {ks : List Int} : ∀ {j : Nat} {c : Int}, ks[j]? = some c → (ks.filter fun k => decide (k = c)).length ≤ 1 → place3 ks c = j := by
 intro j c hj hc
 unfold place3
 have hlt := (List.getElem?_eq_some_iff.1 hj).1
 have key : ∀ (ks : List Int) (j : Nat), ks[j]? = some c → (ks.filter fun k => decide (k = c)).length ≤ 1 → ks.findIdx? (fun x => decide (x = c)) = some j := by
  intro ks
  induction ks with
  | nil => intro j h; simp at h
  | cons k ks ih =>
   intro j h1 h2
   rw [List.findIdx?_cons]
   by_cases hk : k = c
   ·rw [if_pos (by simpa using hk)]
    cases j with
    | zero => rfl
    | succ j =>
     have h1 : ks[j]? = some c := by simpa using h1
     have hm : c ∈ ks.filter fun k => decide (k = c) := by rw [List.mem_filter]; exact ⟨Lmg h1, by simp⟩
     rw [List.filter_cons, if_pos (by simpa using hk), List.length_cons] at h2
     have := List.length_pos_of_mem hm
     omega
   ·rw [if_neg (by simpa using hk)]
    cases j with
    | zero => simp at h1; exact absurd h1 hk
    | succ j =>
     rw [List.filter_cons, if_neg (by simpa using hk)] at h2
     rw [ih j (by simpa using h1) h2]
     rfl
 rw [key ks j hj hc]
end Go.Asm.UnitF
/- Plain laws of a unit: what is in scope at a node, told from the outside in. -/
namespace Go.Asm.UnitF
open Go Go.Asm
/-- Each node but the last is a kid, once. -/
structure TreeN (l : List LNode) : Prop where
 pos : 0 < l.length
 ahead : Ahead l
 once : ∀ c, c + 1 < l.length → occ l c = 1
def declAt (x : LFn) (v : Int) (c : Int) : Int := match x.nodes[c.toNat]? with
 | some q => if q.kind = 2 then (q.refs.count v : Int) else 0
 | none => 0
def kidsDecl (x : LFn) (v : Int) : List Int → Int
 | [] => 0
 | c :: ks => declAt x v c + kidsDecl x v ks
theorem declAt_nonneg (x : LFn) (v c : Int) : 0 ≤ declAt x v c := by
 unfold declAt
 split
 ·split <;> omega
 ·omega
/-- How often v is declared, for the kid at place j, by the node. -/
def scJ (x : LFn) (p : LNode) (j : Nat) (v : Int) : Int := (if p.kind = 1 then kidsDecl x v (p.kids.take j) else 0) + (if isHead p.kind = true ∧ j + 1 = p.kids.length then (p.refs.count v : Int) else 0)
def base (x : LFn) (v : Int) : Int := if 0 ≤ v ∧ v < x.params then 1 else 0
def cntN (x : LFn) (v : Int) : Nat → Nat → Int
 | 0, _ => base x v
 | c + 1, below =>
  let up := (growP x.nodes).getD below 0
  if up < 0 then base x v
  else match x.nodes[up.toNat]? with
   | none => base x v
   | some p => cntN x v c up.toNat + scJ x p (place3 p.kids below).toNat v
def cnt (x : LFn) (n : Nat) (v : Int) : Int := cntN x v x.nodes.length n
def inl (x : LFn) (n : Nat) : Bool := inloop3 x x.nodes.length n

theorem up_lt {l : List LNode} (ha : Ahead l) {n : Nat} (hn : n < l.length) (h : ¬ (growP l).getD n 0 < 0) : n < ((growP l).getD n 0).toNat ∧ ((growP l).getD n 0).toNat < l.length := by
 have h1 := up_growP ha n (by omega)
 have h2 : (growP l).getD n 0 < l.length := getD_bd (growP_bd l (by omega)) (by rw [growP_len]; exact hn)
 rw [growP_len] at h1
 omega
theorem cntN_fuel {x : LFn} (ha : Ahead x.nodes) (v : Int) : ∀ (c c' n : Nat), n < x.nodes.length → x.nodes.length - n ≤ c → x.nodes.length - n ≤ c' → cntN x v c n = cntN x v c' n := by
 intro c
 induction c with
 | zero => intro c' n hn h; omega
 | succ c ih =>
  intro c' n hn h1 h2
  cases c' with
  | zero => omega
  | succ c' =>
   simp only [cntN]
   split
   ·rfl
   ·rename_i hup
    obtain ⟨u1, u2⟩ := up_lt ha hn hup
    split
    ·rfl
    ·rw [ih c' _ u2 (by omega) (by omega)]
theorem inloop_fuel {x : LFn} (ha : Ahead x.nodes) : ∀ (c c' n : Nat), n < x.nodes.length → x.nodes.length - n ≤ c → x.nodes.length - n ≤ c' → inloop3 x c n = inloop3 x c' n := by
 intro c
 induction c with
 | zero => intro c' n hn h; omega
 | succ c ih =>
  intro c' n hn h1 h2
  cases c' with
  | zero => omega
  | succ c' =>
   simp only [inloop3]
   split
   ·rfl
   ·rename_i hup
    obtain ⟨u1, u2⟩ := up_lt ha hn hup
    split
    ·rfl
    ·rw [ih c' _ u2 (by omega) (by omega)]
theorem kid_facts {l : List LNode} (T : TreeN l) {n j : Nat} {p : LNode} {c : Int} (hp : l[n]? = some p) (hc : p.kids[j]? = some c) :
  ∃ m : Nat, c = m ∧ m < n ∧ m + 1 < l.length ∧ (growP l).getD m 0 = n ∧ place3 p.kids c = j := by
 have hn := (List.getElem?_eq_some_iff.1 hp).1
 have hm := Lmg hc
 obtain ⟨h0, h1⟩ := T.ahead n p hp c hm
 obtain ⟨m, rfl⟩ : ∃ m : Nat, c = m := ⟨c.toNat, by omega⟩
 have ho := T.once m (by omega)
 exact ⟨m, rfl, by omega, by omega, parent_of T.ahead hp hm ho, place_once hc (kid_once hp ho)⟩
theorem cnt_kid {x : LFn} (T : TreeN x.nodes) {n j : Nat} {p : LNode} {c : Int} (hp : x.nodes[n]? = some p) (hc : p.kids[j]? = some c) (v : Int) : cnt x c.toNat v = cnt x n v + scJ x p j v := by
 have hn := (List.getElem?_eq_some_iff.1 hp).1
 obtain ⟨m, rfl, h1, h2, h3, h4⟩ := kid_facts T hp hc
 obtain ⟨f, hf⟩ : ∃ f, x.nodes.length = f + 1 := ⟨x.nodes.length - 1, by omega⟩
 unfold cnt
 rw [cntN_fuel T.ahead v x.nodes.length (x.nodes.length + 1) _ (by simp only [Int.toNat_natCast]; omega) (by omega) (by omega)]
 simp only [cntN, Int.toNat_natCast, h3]
 rw [if_neg (by omega)]
 simp only [Int.toNat_natCast, hp, h4]
theorem inl_kid {x : LFn} (T : TreeN x.nodes) {n j : Nat} {p : LNode} {c : Int} (hp : x.nodes[n]? = some p) (hc : p.kids[j]? = some c) : inl x c.toNat = (isLoop p.kind && decide (j + 1 = p.kids.length) || inl x n) := by
 have hn := (List.getElem?_eq_some_iff.1 hp).1
 obtain ⟨m, rfl, h1, h2, h3, h4⟩ := kid_facts T hp hc
 unfold inl
 rw [inloop_fuel T.ahead x.nodes.length (x.nodes.length + 1) _ (by simp only [Int.toNat_natCast]; omega) (by omega) (by omega)]
 simp only [inloop3, Int.toNat_natCast, h3]
 rw [if_neg (by omega)]
 simp only [Int.toNat_natCast, hp]
 have hjl := (List.getElem?_eq_some_iff.1 hc).1
 have hlast : p.kids.getD (p.kids.length - 1) 0 = (m : Int) ↔ j + 1 = p.kids.length := by
  constructor
  ·intro h
   have hl : p.kids[p.kids.length - 1]? = some (m : Int) := by
    rw [List.getD_eq_getElem?_getD] at h
    rw [Lge (by omega)] at h ⊢
    simpa using h
   obtain ⟨m', e, _, _, _, h5⟩ := kid_facts T hp hl
   rw [h4] at h5
   omega
  ·intro h
   have : p.kids.length - 1 = j := by omega
   rw [this, List.getD_eq_getElem?_getD, hc]; rfl
 simp only [hlast]
 cases hl : isLoop p.kind with
 | false => simp
 | true =>
  by_cases h : j + 1 = p.kids.length
  ·simp [h]
  ·simp [h]
theorem cnt_root {x : LFn} (T : TreeN x.nodes) (v : Int) : cnt x (x.nodes.length - 1) v = base x v := by
 have h0 := T.pos
 obtain ⟨f, hf⟩ : ∃ f, x.nodes.length = f + 1 := ⟨x.nodes.length - 1, by omega⟩
 unfold cnt
 conv => lhs; arg 3; rw [hf]
 simp only [cntN]
 rw [if_pos (by rw [growP_last T.ahead h0]; omega)]
theorem inl_root {x : LFn} (T : TreeN x.nodes) : inl x (x.nodes.length - 1) = false := by
 have h0 := T.pos
 obtain ⟨f, hf⟩ : ∃ f, x.nodes.length = f + 1 := ⟨x.nodes.length - 1, by omega⟩
 unfold inl
 conv => lhs; arg 2; rw [hf]
 simp only [inloop3]
 rw [if_pos (by rw [growP_last T.ahead h0]; omega)]
theorem base_nonneg (x : LFn) (v : Int) : 0 ≤ base x v := by unfold base; split <;> omega
theorem kidsDecl_nonneg (x : LFn) (v : Int) (ks : List Int) : 0 ≤ kidsDecl x v ks := by
 induction ks with
 | nil => simp [kidsDecl]
 | cons c ks ih =>
  have := declAt_nonneg x v c
  simp only [kidsDecl]
  omega
theorem scJ_nonneg (x : LFn) (p : LNode) (j : Nat) (v : Int) : 0 ≤ scJ x p j v := by
 have := kidsDecl_nonneg x v (p.kids.take j)
 unfold scJ
 split <;> split <;> omega
theorem cntN_nonneg (x : LFn) (v : Int) : ∀ c n, 0 ≤ cntN x v c n := by
 intro c
 induction c with
 | zero => intro n; exact base_nonneg x v
 | succ c ih =>
  intro n
  simp only [cntN]
  split
  ·exact base_nonneg x v
  ·split
   ·exact base_nonneg x v
   ·rename_i p _
    have := ih ((growP x.nodes).getD n 0).toNat
    have := scJ_nonneg x p (place3 p.kids n).toNat v
    omega
theorem lets_iff (x : LFn) (v : Int) (ks : List Int) : lets3 x v ks = true ↔ 0 < kidsDecl x v ks := by
 induction ks with
 | nil => simp [lets3, kidsDecl]
 | cons c ks ih =>
  have hn := kidsDecl_nonneg x v ks
  have e1 : lets3 x v (c :: ks) = ((match x.nodes[c.toNat]? with
   | some q => decide (q.kind = 2) && declares3 q v
   | none => false) || lets3 x v ks) := rfl
  have ha := declAt_nonneg x v c
  rw [e1, Boe, ih]
  have key : (match x.nodes[c.toNat]? with
   | some q => decide (q.kind = 2) && declares3 q v
   | none => false) = true ↔ 0 < declAt x v c := by
   unfold declAt
   cases x.nodes[c.toNat]? with
   | none => simp
   | some q =>
    simp only [Bae, Dte]
    by_cases hk : q.kind = 2
    ·rw [if_pos hk]
     have hd : declares3 q v = decide (v ∈ q.refs) := by simp [declares3, isDecl, hk]
     rw [hd, Dte, ← List.count_pos_iff]
     constructor
     ·rintro ⟨_, h⟩; omega
     ·intro h; exact ⟨hk, by omega⟩
    ·rw [if_neg hk]
     constructor
     ·rintro ⟨h, _⟩; exact absurd h hk
     ·intro h; omega
  rw [key]
  simp only [kidsDecl]
  omega
theorem parent_mem {l : List LNode} (T : TreeN l) {c : Nat} (h : c < l.length) (hp : ¬ (growP l).getD c 0 < 0) : ∃ (p : LNode) (j : Nat), l[((growP l).getD c 0).toNat]? = some p ∧ p.kids[j]? = some (c : Int) := by
 have hne : c + 1 < l.length := by
  rcases Nat.lt_or_ge (c + 1) l.length with h1 | h1
  ·exact h1
  ·exfalso
   have : c = l.length - 1 := by omega
   rw [this, growP_last T.ahead T.pos] at hp
   omega
 rw [growP_at T.ahead hne] at hp ⊢
 have ho := T.once c hne
 rw [occ] at ho
 cases hf : (pairs 0 l).filter fun q => decide (q.2 = (c : Int)) with
 | nil => rw [hf] at ho; cases ho
 | cons q qs => cases qs with
  | cons r rs => rw [hf] at ho; simp at ho
  | nil =>
   have hm : q ∈ (pairs 0 l).filter fun q => decide (q.2 = (c : Int)) := by rw [hf]; simp
   rw [List.mem_filter] at hm
   obtain ⟨q1, q2⟩ := q
   obtain ⟨j, p, h1, h2, h3⟩ := mem_pairs.1 hm.1
   have hq : q2 = (c : Int) := by simpa using hm.2
   subst hq
   obtain ⟨i, hi⟩ := List.getElem?_of_mem h3
   refine ⟨p, i, ?_, hi⟩
   simp only [Int.toNat_natCast]
   rw [show q1 = j by omega]
   exact h1
/-- In scope from outside: as it is found from inside. -/
theorem vis_iff {x : LFn} (T : TreeN x.nodes) {v : Int} : ∀ (c n : Nat), n < x.nodes.length → (0 < cntN x v c n ↔ 0 < base x v ∨ visN x v c n = true) := by
 intro c
 induction c with
 | zero => intro n _; simp [cntN, visN]
 | succ c ih =>
  intro n hn
  simp only [cntN, visN]
  by_cases hup : (growP x.nodes).getD n 0 < 0
  ·rw [if_pos hup, if_pos hup]; simp
  ·rw [if_neg hup, if_neg hup]
   obtain ⟨u1, u2⟩ := up_lt T.ahead hn hup
   obtain ⟨p, j, hp, hj⟩ := parent_mem T hn hup
   simp only [hp]
   have ih := ih _ u2
   obtain ⟨m, e, _, _, _, hpl⟩ := kid_facts T hp hj
   obtain rfl : n = m := by omega
   rw [hpl]
   have hc := cntN_nonneg x v c ((growP x.nodes).getD n 0).toNat
   have hs := scJ_nonneg x p j v
   have hjl := (List.getElem?_eq_some_iff.1 hj).1
   have hlets := lets_iff x v (p.kids.take j)
   have hkd := kidsDecl_nonneg x v (p.kids.take j)
   simp only [Int.toNat_natCast]
   have key : 0 < scJ x p j v ↔ (decide (p.kind = 1) && lets3 x v (p.kids.take j)) = true ∨ (isHead p.kind && decide ((j : Int) = (p.kids.length : Int) - 1) && declares3 p v) = true := by
    simp only [Bae, Dte, hlets]
    have hdec : isHead p.kind = true → (declares3 p v = true ↔ 0 < p.refs.count v) := fun h => by
     have : isDecl p.kind = true := by
      simp only [isHead, Boe, Dte] at h
      simp only [isDecl, Boe, Dte]
      omega
     simp [declares3, this, List.count_pos_iff]
    unfold scJ
    by_cases h1 : p.kind = 1
    ·have hh : isHead p.kind = false := by simp [isHead, h1]
     rw [if_pos h1, hh]
     simp [h1]
    ·rw [if_neg h1]
     cases hh : isHead p.kind with
     | false => simp [h1]
     | true =>
      rw [hdec hh]
      by_cases h2 : j + 1 = p.kids.length
      ·rw [if_pos ⟨rfl, h2⟩]
       constructor
       ·intro h; exact .inr ⟨⟨rfl, by omega⟩, by omega⟩
       ·rintro (⟨h, _⟩ | ⟨_, h⟩)
        ·exact absurd h h1
        ·omega
      ·rw [if_neg (fun h => h2 h.2)]
       constructor
       ·intro h; omega
       ·rintro (⟨h, _⟩ | ⟨⟨_, h⟩, _⟩)
        ·exact absurd h h1
        ·omega
   constructor
   ·intro h
    by_cases h1 : 0 < scJ x p j v
    ·right
     rcases key.1 h1 with h | h
     ·rw [if_pos h]
     ·split <;> rfl
    ·rcases ih.1 (by omega) with h | h
     ·exact .inl h
     ·right
      split
      ·rfl
      split
      ·rfl
      ·exact h
   ·rintro (h | h)
    ·have := ih.2 (.inl h); omega
    ·split at h
     ·rename_i h1; have := key.2 (.inl h1); omega
     split at h
     ·rename_i h1; have := key.2 (.inr h1); omega
     ·have := ih.2 (.inr h); omega
theorem visible_iff {x : LFn} (T : TreeN x.nodes) {v : Int} (hv : 0 ≤ v) {n : Nat} (hn : n < x.nodes.length) : visible3 x n v = true ↔ 0 < cnt x n v := by
 unfold cnt
 rw [vis_iff T _ n hn]
 simp only [visible3, Boe, Dte]
 unfold base
 constructor
 ·rintro (h | h)
  ·left; rw [if_pos ⟨hv, h⟩]; omega
  ·exact .inr h
 ·rintro (h | h)
  ·split at h
   ·rename_i h'; exact .inl h'.2
   ·omega
  ·exact .inr h

/-- m stands below n, or is it. -/
inductive Sub (l : List LNode) : Nat → Nat → Prop
 | refl (n : Nat) : Sub l n n
 | kid {n m : Nat} {p : LNode} {c : Nat} : l[n]? = some p → (c : Int) ∈ p.kids → Sub l c m → Sub l n m
theorem Sub.down {l : List LNode} {n m : Nat} (h : Sub l n m) {p : LNode} {c : Nat} (hp : l[m]? = some p) (hc : (c : Int) ∈ p.kids) : Sub l n c := by
 induction h with
 | refl n => exact .kid hp hc (.refl c)
 | kid h1 h2 _ ih => exact .kid h1 h2 (ih hp)
theorem sub_root {l : List LNode} (T : TreeN l) : ∀ (d m : Nat), d = l.length - 1 - m → m < l.length → Sub l (l.length - 1) m := by
 intro d
 induction d using Nat.strongRecOn with
 | _ d ih =>
  intro m hd hm
  by_cases hup : (growP l).getD m 0 < 0
  ·have : m = l.length - 1 := by
    by_cases h : m + 1 < l.length
    ·have := (occ_iff T.ahead h).2 (T.once m h); omega
    ·omega
   rw [this]; exact .refl _
  ·obtain ⟨u1, u2⟩ := up_lt T.ahead hm hup
   obtain ⟨p, j, hp, hj⟩ := parent_mem T hm hup
   exact (ih _ (by omega) _ rfl u2).down hp (Lmg hj)
end Go.Asm.UnitF
/- impl's walk over a function: what is noted at a node. -/
namespace Go.Asm.UnitF
open Go Go.Asm
def isUnseen (u : List LFn) (f n : Nat) : Prop := ∃ x p, u[f]? = some x ∧ x.nodes[n]? = some p ∧ p.kind = 26 ∧ cnt x n (p.refs.getD 0 0) < 1
def isLoose (u : List LFn) (f n : Nat) : Prop := ∃ x p, u[f]? = some x ∧ x.nodes[n]? = some p ∧ (p.kind = 9 ∨ p.kind = 10) ∧ inl x n = false
def isFnN (u : List LFn) (f n : Nat) : Prop := ∃ x p, u[f]? = some x ∧ x.nodes[n]? = some p ∧ p.kind = 36
/-- A set of nodes, by pairs of numbers. -/
def prs (V : Nat → Nat → Prop) (a b : Int) : Prop := ∃ f n : Nat, a = f ∧ b = n ∧ V f n
open Classical in
noncomputable def aroundM (V : Nat → Nat → Prop) (ya : Nat → Nat → Nat) (a b : Int) : Option AV := if prs V a b then some (.hmap (ya a.toNat b.toNat)) else none
noncomputable def seenM (u : List LFn) (f n : Nat) (v : Int) : Option AV := tt (∃ x, u[f]? = some x ∧ 0 < cnt x n v)
/-- Nothing has turned but these blocks and new ones. -/
def Fr (M : List Nat) (σ σ' : Store) : Prop := σ.next ≤ σ'.next ∧ ∀ y, y < σ.next → y ∉ M → σ'.blk y = σ.blk y
theorem Fr.refl (M : List Nat) (σ : Store) : Fr M σ σ := ⟨Nat.le_refl _, fun _ _ _ => rfl⟩
theorem Fr.trans {M : List Nat} {σ τ υ : Store} (a : Fr M σ τ) (b : Fr M τ υ) : Fr M σ υ :=
 ⟨Nat.le_trans a.1 b.1, fun y h1 h2 => (b.2 y (Nat.lt_of_lt_of_le h1 a.1) h2).trans (a.2 y h1 h2)⟩
theorem Fr.upd {M : List Nat} {σ : Store} {x : Nat} {b : Option Blk} (h : x ∈ M) : Fr M σ (σ.upd x b) :=
 ⟨Nat.le_refl _, fun y _ hy => upd_ne fun e => hy (e ▸ h)⟩
theorem Fr.mono {M M' : List Nat} {σ τ : Store} (a : Fr M σ τ) (h : ∀ y ∈ M, y ∈ M') : Fr M' σ τ := ⟨a.1, fun y h1 h2 => a.2 y h1 fun h3 => h2 (h y h3)⟩

/-- The three maps of what was noted, of the nodes V. -/
structure WS (u : List LFn) (U L A S : Nat) (V : Nat → Nat → Prop) (σ : Store) : Prop where
 hU : σ.blk U = some (.map KP (mP fun a b => tt (prs (fun f n => V f n ∧ isUnseen u f n) a b)))
 hL : σ.blk L = some (.map KP (mP fun a b => tt (prs (fun f n => V f n ∧ isLoose u f n) a b)))
 hA : ∃ ya : Nat → Nat → Nat, σ.blk A = some (.map KP (mP (aroundM (fun f n => V f n ∧ isFnN u f n) ya))) ∧
  ∀ f n, V f n → isFnN u f n → ya f n < σ.next ∧ ya f n ∉ [U, L, A, S] ∧ σ.blk (ya f n) = some (.map KI (mK (seenM u f n)))
/-- The map of what is in scope. -/
def Sc (σ : Store) (S : Nat) (s : Int → Int) : Prop := ∃ (g : Int → Option AV) (ks : List Int), σ.blk S = some (.map KI (mK g)) ∧ (∀ v, (g v = none ∧ s v = 0) ∨ g v = some (.int .i64 (s v))) ∧ ∀ v, g v ≠ none → v ∈ ks
theorem Sc.look {σ : Store} {S : Nat} {s : Int → Int} (h : Sc σ S s) (v : Int) : lookup1 KI (.int .i64 0) (.hmap S) (.int .i64 v) σ = some (.int .i64 (s v)) := by
 obtain ⟨g, ks, h1, h2, _⟩ := h
 rw [look1_K h1]
 rcases h2 v with ⟨e1, e2⟩ | e
 ·rw [e1, e2]; rfl
 ·rw [e]; rfl
theorem Sc.set {σ : Store} {S : Nat} {s : Int → Int} (h : Sc σ S s) (v k : Int) : ∃ σ', mapSet KI (.hmap S) (.int .i64 v) (.int .i64 k) σ = some σ' ∧ Sc σ' S (fun w => if w = v then k else s w) ∧ Fr [S] σ σ' ∧ σ'.next = σ.next := by
 obtain ⟨g, ks, h1, h2, h3⟩ := h
 refine ⟨_, set_K h1, ⟨_, v :: ks, upd_blk, fun w => ?_, fun w hw => ?_⟩, Fr.upd (by simp), rfl⟩
 ·unfold updI
  by_cases e : w = v
  ·simp [e]
  ·simp only [if_neg e]; exact h2 w
 ·unfold updI at hw
  by_cases e : w = v
  ·simp [e]
  ·rw [if_neg e] at hw; exact List.mem_cons_of_mem _ (h3 w hw)
theorem Sc.keep {M : List Nat} {σ σ' : Store} {S : Nat} {s : Int → Int} (h : Sc σ S s) (hf : Fr M σ σ') (h1 : S < σ.next) (h2 : S ∉ M) : Sc σ' S s := by
 obtain ⟨g, ks, a, b, c⟩ := h
 exact ⟨g, ks, (hf.2 S h1 h2).trans a, b, c⟩
theorem WS.keep {u : List LFn} {U L A S : Nat} {V : Nat → Nat → Prop} {σ σ' : Store} (W : WS u U L A S V σ) (hf : Fr [S] σ σ') (h1 : U < σ.next ∧ L < σ.next ∧ A < σ.next) (h2 : [U, L, A, S].Nodup) : WS u U L A S V σ' := by
 simp only [List.nodup_cons, List.mem_cons, List.not_mem_nil, or_false, not_or] at h2
 obtain ⟨ya, a1, a2⟩ := W.hA
 refine ⟨(hf.2 U h1.1 (by simp; exact h2.1.2.2)).trans W.hU, (hf.2 L h1.2.1 (by simp; exact h2.2.1.2)).trans W.hL, ya, (hf.2 A h1.2.2 (by simp; exact h2.2.2.1)).trans a1, fun f n hv hn => ?_⟩
 obtain ⟨b1, b2, b3⟩ := a2 f n hv hn
 refine ⟨Nat.lt_of_lt_of_le b1 hf.1, b2, (hf.2 _ b1 ?_).trans b3⟩
 simp only [List.mem_cons, List.not_mem_nil, or_false, not_or] at b2 ⊢
 exact b2.2.2.2
def addV (V : Nat → Nat → Prop) (f n : Nat) : Nat → Nat → Prop := fun a b => V a b ∨ (a = f ∧ b = n)
theorem prs_add {V : Nat → Nat → Prop} {P : Nat → Nat → Prop} {f n : Nat} (hP : ¬ P f n) (a b : Int) : prs (fun c d => addV V f n c d ∧ P c d) a b ↔ prs (fun c d => V c d ∧ P c d) a b := by
 constructor
 ·rintro ⟨c, d, rfl, rfl, h, hp⟩
  rcases h with h | ⟨rfl, rfl⟩
  ·exact ⟨c, d, rfl, rfl, h, hp⟩
  ·exact absurd hp hP
 ·rintro ⟨c, d, rfl, rfl, h, hp⟩
  exact ⟨c, d, rfl, rfl, .inl h, hp⟩
theorem prs_new {V : Nat → Nat → Prop} {P : Nat → Nat → Prop} {f n : Nat} (hP : P f n) (a b : Int) : prs (fun c d => addV V f n c d ∧ P c d) a b ↔ (a = f ∧ b = n) ∨ prs (fun c d => V c d ∧ P c d) a b := by
 constructor
 ·rintro ⟨c, d, rfl, rfl, h, hp⟩
  rcases h with h | ⟨rfl, rfl⟩
  ·exact .inr ⟨c, d, rfl, rfl, h, hp⟩
  ·exact .inl ⟨rfl, rfl⟩
 ·rintro (⟨rfl, rfl⟩ | ⟨c, d, rfl, rfl, h, hp⟩)
  ·exact ⟨f, n, rfl, rfl, .inr ⟨rfl, rfl⟩, hP⟩
  ·exact ⟨c, d, rfl, rfl, .inl h, hp⟩
theorem tt_add {V : Nat → Nat → Prop} {P : Nat → Nat → Prop} {f n : Nat} (hP : ¬ P f n) : (fun a b : Int => tt (prs (fun c d => addV V f n c d ∧ P c d) a b)) = fun a b => tt (prs (fun c d => V c d ∧ P c d) a b) := by
 funext a b; exact tt_congr (prs_add hP a b)
theorem tt_new {V : Nat → Nat → Prop} {P : Nat → Nat → Prop} {f n : Nat} (hP : P f n) : updP (fun a b : Int => tt (prs (fun c d => V c d ∧ P c d) a b)) f n (.bool true) = fun a b => tt (prs (fun c d => addV V f n c d ∧ P c d) a b) := by
 funext a b
 unfold updP
 by_cases h : a = f ∧ b = n
 ·rw [if_pos h, tt_pos ((prs_new hP a b).2 (.inl h))]
 ·rw [if_neg h]
  exact (tt_congr ((prs_new hP a b).trans (or_iff_right h))).symm
theorem around_add {V : Nat → Nat → Prop} {P : Nat → Nat → Prop} {f n : Nat} (hP : ¬ P f n) (ya : Nat → Nat → Nat) : aroundM (fun c d => addV V f n c d ∧ P c d) ya = aroundM (fun c d => V c d ∧ P c d) ya := by
 funext a b
 unfold aroundM
 have : prs (fun c d => addV V f n c d ∧ P c d) a b = prs (fun c d => V c d ∧ P c d) a b := propext (prs_add hP a b)
 rw [this]
def updY (ya : Nat → Nat → Nat) (f n y : Nat) : Nat → Nat → Nat := fun a b => if a = f ∧ b = n then y else ya a b
theorem around_new {V : Nat → Nat → Prop} {P : Nat → Nat → Prop} {f n : Nat} (hP : P f n) (ya : Nat → Nat → Nat) (y : Nat) : updP (aroundM (fun c d => V c d ∧ P c d) ya) f n (.hmap y) = aroundM (fun c d => addV V f n c d ∧ P c d) (updY ya f n y) := by
 funext a b
 unfold updP aroundM
 by_cases h : a = f ∧ b = n
 ·rw [if_pos h, if_pos ((prs_new hP a b).2 (.inl h))]
  obtain ⟨rfl, rfl⟩ := h
  simp [updY]
 ·rw [if_neg h]
  have e : prs (fun c d => addV V f n c d ∧ P c d) a b = prs (fun c d => V c d ∧ P c d) a b := propext ((prs_new hP a b).trans (or_iff_right h))
  rw [e]
  by_cases h2 : prs (fun c d => V c d ∧ P c d) a b
  ·rw [if_pos h2, if_pos h2]
   obtain ⟨c, d, rfl, rfl, _⟩ := h2
   have : ¬ (c = f ∧ d = n) := fun e => h (by rw [e.1, e.2]; exact ⟨rfl, rfl⟩)
   simp [updY, this]
  ·rw [if_neg h2, if_neg h2]
end Go.Asm.UnitF
/- impl's walk over a function: what is in scope around a closure. -/
namespace Go.Asm.UnitF
open Go Go.Asm
theorem mK_none : mK (fun _ => none) = fun _ => none := by
 funext q; unfold mK; split <;> rfl
section
variable {D : Ctx}
/-- The store behind a copy of what is in scope. -/
def copied (σ : Store) (b : Option Blk) : Store := ⟨σ.next + 2, fun y => if y = σ.next + 1 then none else if y = σ.next then b else σ.blk y⟩
/-- The store while what is in scope is ranged over. -/
def ranging (σ : Store) (S : Nat) (bi bS bm : Option Blk) : Store := ⟨σ.next + 2, fun y => if y = σ.next + 1 then bi else if y = S then bS else if y = σ.next then bm else σ.blk y⟩
theorem around_loop (σ : Store) (S : Nat) (hS : S < σ.next) (g : Int → Option AV) (s : Int → Int) (hg : ∀ v, (g v = none ∧ s v = 0) ∨ g v = some (.int .i64 (s v))) (hb : σ.blk S = some (.map KI (mK g)))
  (st : AV → Nat) (n : Nat) (hst : Stamps (mK g) (st, n)) (ks : List Int) (hks : ∀ v, g v ≠ none → v ∈ ks) (k : Cur 0) {r : AV × Store} (hk : k (copied σ (some (.map KI (mK fun v => tt (0 < s v))))) = some r) :
  ∀ (c : Nat) (seen : List Nat) (cur : AV), (ks.filter fun v => decide (st (.int .i64 v) ∉ seen)).length = c →
   lpFix 0 (lp_q4_1_1 D (.hptr (σ.next + 1) 0) σ k) (ranging σ S (some (.iter S n seen cur)) (some (.ranged KI (mK g) st n)) (some (.map KI (mK fun v => tt (0 < s v ∧ g v ≠ none ∧ st (.int .i64 v) ∈ seen))))) = some r := by
 intro c
 induction c using Nat.strongRecOn with
 | _ c ih =>
  intro seen cur hc
  have hS1 : S ≠ σ.next + 1 := by omega
  have hS2 : S ≠ σ.next := by omega
  rw [lpFix_eq (lp_q4_1_1_mono _ _ _ _)]
  generalize hT : ranging σ S (some (.iter S n seen cur)) (some (.ranged KI (mK g) st n)) (some (.map KI (mK fun v => tt (0 < s v ∧ g v ≠ none ∧ st (.int .i64 v) ∈ seen)))) = τ
  have b1 : τ.blk (σ.next + 1) = some (.iter S n seen cur) := by rw [← hT]; simp [ranging]
  have b2 : τ.blk S = some (.ranged KI (mK g) st n) := by rw [← hT]; simp [ranging, hS1]
  have b3 : τ.blk σ.next = some (.map KI (mK fun v => tt (0 < s v ∧ g v ≠ none ∧ st (.int .i64 v) ∈ seen))) := by rw [← hT]; simp [ranging, Ne.symm hS2]
  unfold lp_q4_1_1
  by_cases hq : ∃ q, mK g q ≠ none ∧ st q ∉ seen
  ·refine nextK_step b1 b2 hq fun q v hv hns => ?_
   obtain ⟨w, rfl⟩ : ∃ w, q = .int .i64 w := by
    unfold mK at hv
    split at hv
    ·exact ⟨_, rfl⟩
    ·cases hv
   have hgw : g w = some v := hv
   have hv2 : v = .int .i64 (s w) := by
    rcases hg w with ⟨h, _⟩ | h
    ·rw [hgw] at h; cases h
    ·rw [hgw] at h; exact Option.some.inj h
   subst hv2
   have hfit : KI.fits (.int .i64 w) = true := rfl
   have c1 : (τ.upd (σ.next + 1) (some (.iter S n (seen ++ [st (.int .i64 w)]) (.int .i64 w)))).blk (σ.next + 1) = some (.iter S n (seen ++ [st (.int .i64 w)]) (.int .i64 w)) := upd_blk
   have c2 : (τ.upd (σ.next + 1) (some (.iter S n (seen ++ [st (.int .i64 w)]) (.int .i64 w)))).blk S = some (.ranged KI (mK g) st n) := by rw [upd_ne hS1, b2]
   have c3 : (τ.upd (σ.next + 1) (some (.iter S n (seen ++ [st (.int .i64 w)]) (.int .i64 w)))).blk σ.next = some (.map KI (mK fun v => tt (0 < s v ∧ g v ≠ none ∧ st (.int .i64 v) ∈ seen))) := by rw [upd_ne (by omega), b3]
   have hen := entryV_at c1 c2 hfit hv
   have hdec : (ks.filter fun v => decide (st (.int .i64 v) ∉ seen ++ [st (.int .i64 w)])).length < c := by
    rw [← hc]
    have hsub : ks.filter (fun v => decide (st (.int .i64 v) ∉ seen ++ [st (.int .i64 w)])) = (ks.filter fun v => decide (st (.int .i64 v) ∉ seen)).filter fun v => decide (st (.int .i64 v) ≠ st (.int .i64 w)) := by
     rw [List.filter_filter]
     apply List.filter_congr
     intro v _
     simp only [List.mem_append, List.mem_singleton, not_or]
     by_cases h1 : st (.int .i64 v) ∈ seen <;> by_cases h2 : st (.int .i64 v) = st (.int .i64 w) <;> simp [h1, h2]
    rw [hsub]
    exact List.length_filter_lt_length_iff_exists.2 ⟨w, List.mem_filter.2 ⟨hks w (by rw [hgw]; simp), by simpa using hns⟩, by simp⟩
   have next := ih _ hdec (seen ++ [st (.int .i64 w)]) (.int .i64 w) rfl
   have hinj : ∀ v, g v ≠ none → st (.int .i64 v) = st (.int .i64 w) → v = w := fun v hv' he => by
    have := hst.2 (.int .i64 v) (.int .i64 w) hv' (by show g w ≠ none; rw [hgw]; simp) he
    cases this; rfl
   simp only [extr, Lgz, List.getElem?_cons_succ, Obs, aCase_bool, if_true, hen, bin_gtr, jn_eq]
   by_cases hp : 0 < s w
   ·rw [if_pos (by rw [Dte]; exact hp), set_K c3]
    simp only [Obs]
    refine Eq.trans (congrArg _ (Store.ext' ?_ fun y => ?_)) next
    ·rw [← hT]; rfl
    ·rw [← hT]
     simp only [Store.upd, ranging]
     by_cases e1 : y = σ.next + 1
     ·subst e1; simp
     ·by_cases e2 : y = S
      ·subst e2; simp [hS1, hS2]
      ·by_cases e3 : y = σ.next
       ·subst e3
        simp only [if_true, Ne.symm hS2, if_false, show ¬ σ.next = σ.next + 1 by omega]
        congr 2
        congr 1
        funext v
        unfold updI
        by_cases ev : v = w
        ·subst ev
         rw [if_pos rfl, tt_pos]
         exact ⟨hp, by rw [hgw]; simp, by simp⟩
        ·rw [if_neg ev]
         refine tt_congr ?_
         simp only [List.mem_append, List.mem_singleton]
         constructor
         ·rintro ⟨a, b, c⟩; exact ⟨a, b, .inl c⟩
         ·rintro ⟨a, b, c | c⟩
          ·exact ⟨a, b, c⟩
          ·exact absurd (hinj v b c) ev
       ·simp [e1, e2, e3]
   ·rw [if_neg (by rw [Dte]; exact hp)]
    refine Eq.trans (congrArg _ (Store.ext' ?_ fun y => ?_)) next
    ·rw [← hT]; rfl
    ·rw [← hT]
     simp only [Store.upd, ranging]
     by_cases e1 : y = σ.next + 1
     ·subst e1; simp
     ·by_cases e2 : y = S
      ·subst e2; simp [hS1]
      ·by_cases e3 : y = σ.next
       ·subst e3
        simp only [if_true, Ne.symm hS2, if_false, show ¬ σ.next = σ.next + 1 by omega]
        congr 2
        congr 1
        funext v
        refine tt_congr ?_
        simp only [List.mem_append, List.mem_singleton]
        constructor
        ·rintro ⟨a, b, c⟩; exact ⟨a, b, .inl c⟩
        ·rintro ⟨a, b, c | c⟩
         ·exact ⟨a, b, c⟩
         ·rw [hinj v b c] at a; exact absurd a hp
       ·simp [e1, e2, e3]
  ·have hall : ∀ q, mK g q ≠ none → st q ∈ seen := fun q h => Classical.byContradiction fun h2 => hq ⟨q, h, h2⟩
   rw [nextK_end b1 b2 hall]
   simp only [extr, Lgz, Obs, aCase_bool, Bft, if_false]
   rw [← hk]
   congr 1
   refine Store.ext' ?_ fun y => ?_
   ·rw [← hT]; rfl
   ·rw [← hT]
    simp only [Store.upd, ranging, copied]
    by_cases e1 : y = σ.next + 1
    ·subst e1; simp
    ·by_cases e2 : y = S
     ·subst e2; simp [hS1, hS2, hb]
     ·by_cases e3 : y = σ.next
      ·subst e3
       simp only [if_true, Ne.symm hS2, if_false, show ¬ σ.next = σ.next + 1 by omega]
       congr 2
       congr 1
       funext v
       refine tt_congr ⟨fun h => h.1, fun h => ?_⟩
       have hgv : g v ≠ none := fun e => by
        rcases hg v with ⟨_, h0⟩ | h0
        ·omega
        ·rw [e] at h0; cases h0
       exact ⟨h, hgv, hall (.int .i64 v) hgv⟩
      ·simp [e1, e2, e3]
end
end Go.Asm.UnitF
/- impl's walk over a function: the visit of a node. -/
namespace Go.Asm.UnitF
open Go Go.Asm
section
variable {D : Ctx}
theorem fadd_pp (row : List AV) (o k : Nat) : fadd (.pptr row o) k = some (.pptr row (o + k)) := rfl
theorem WS.setU {u : List LFn} {U L A S : Nat} {V : Nat → Nat → Prop} {σ : Store} (W : WS u U L A S V σ) {f n : Nat} (h2 : [U, L, A, S].Nodup) (h1 : isUnseen u f n) (hl : ¬ isLoose u f n) (hf : ¬ isFnN u f n) :
  ∃ σ', mapSet KP (.hmap U) (.agg [.int .i64 f, .int .i64 n]) (.bool true) σ = some σ' ∧ WS u U L A S (addV V f n) σ' ∧ Fr [U] σ σ' ∧ σ'.next = σ.next := by
 simp only [List.nodup_cons, List.mem_cons, List.not_mem_nil, or_false, not_or] at h2
 obtain ⟨ya, a1, a2⟩ := W.hA
 refine ⟨_, set_P W.hU, ⟨?_, ?_, ya, ?_, fun g m hv hn => ?_⟩, Fr.upd (by simp), rfl⟩
 ·rw [upd_blk, tt_new h1]
 ·rw [upd_ne (Ne.symm h2.1.1), W.hL, tt_add hl]
 ·rw [upd_ne (Ne.symm h2.1.2.1), a1, around_add hf]
 ·have hv' : V g m := by
   rcases hv with h | ⟨rfl, rfl⟩
   ·exact h
   ·exact absurd hn hf
  obtain ⟨b1, b2, b3⟩ := a2 g m hv' hn
  refine ⟨b1, b2, ?_⟩
  simp only [List.mem_cons, List.not_mem_nil, or_false, not_or] at b2
  rw [upd_ne b2.1, b3]
theorem WS.setL {u : List LFn} {U L A S : Nat} {V : Nat → Nat → Prop} {σ : Store} (W : WS u U L A S V σ) {f n : Nat} (h2 : [U, L, A, S].Nodup) (h1 : isLoose u f n) (hl : ¬ isUnseen u f n) (hf : ¬ isFnN u f n) :
  ∃ σ', mapSet KP (.hmap L) (.agg [.int .i64 f, .int .i64 n]) (.bool true) σ = some σ' ∧ WS u U L A S (addV V f n) σ' ∧ Fr [L] σ σ' ∧ σ'.next = σ.next := by
 simp only [List.nodup_cons, List.mem_cons, List.not_mem_nil, or_false, not_or] at h2
 obtain ⟨ya, a1, a2⟩ := W.hA
 refine ⟨_, set_P W.hL, ⟨?_, ?_, ya, ?_, fun g m hv hn => ?_⟩, Fr.upd (by simp), rfl⟩
 ·rw [upd_ne h2.1.1, W.hU, tt_add hl]
 ·rw [upd_blk, tt_new h1]
 ·rw [upd_ne (Ne.symm h2.2.1.1), a1, around_add hf]
 ·have hv' : V g m := by
   rcases hv with h | ⟨rfl, rfl⟩
   ·exact h
   ·exact absurd hn hf
  obtain ⟨b1, b2, b3⟩ := a2 g m hv' hn
  refine ⟨b1, b2, ?_⟩
  simp only [List.mem_cons, List.not_mem_nil, or_false, not_or] at b2
  rw [upd_ne b2.2.1, b3]
theorem WS.skip {u : List LFn} {U L A S : Nat} {V : Nat → Nat → Prop} {σ : Store} (W : WS u U L A S V σ) {f n : Nat} (h1 : ¬ isUnseen u f n) (hl : ¬ isLoose u f n) (hf : ¬ isFnN u f n) : WS u U L A S (addV V f n) σ := by
 obtain ⟨ya, a1, a2⟩ := W.hA
 refine ⟨by rw [W.hU, tt_add h1], by rw [W.hL, tt_add hl], ya, by rw [a1, around_add hf], fun g m hv hn => ?_⟩
 rcases hv with h | ⟨rfl, rfl⟩
 ·exact a2 g m h hn
 ·exact absurd hn hf

theorem visit_ (H : Door D) {u : List LFn} {f : Nat} {x : LFn} (hf : u[f]? = some x) {n : Nat} {p : LNode} (hp : x.nodes[n]? = some p) (hr : p.kind = 26 → p.refs ≠ [])
  {U L A S : Nat} {V : Nat → Nat → Prop} {σ : Store} (W : WS u U L A S V σ) (hS : Sc σ S (cnt x n)) (hn : [U, L, A, S].Nodup) (hlt : U < σ.next ∧ L < σ.next ∧ A < σ.next ∧ S < σ.next) :
  ∃ σ', D.call 18 [.int .i64 n, .hmap S, .bool (inl x n), .pptr (encFn x) 0, .pptr [.hmap U] 0, .pptr [.int .i64 f] 0, .pptr [.hmap L] 0, .pptr [.hmap A] 0] σ = some (.tuple [], σ') ∧
   WS u U L A S (addV V f n) σ' ∧ Sc σ' S (cnt x n) ∧ Fr [U, L, A] σ σ' := by
 have hs8 : asplit 8 (.agg (encNode p)) = some (encNode p) := rfl
 have hn' := hn
 simp only [List.nodup_cons, List.mem_cons, List.not_mem_nil, or_false, not_or] at hn'
 have one_i : ∀ k : Int, one (.int .i64 k) = some (.int .i64 k) := fun _ => rfl
 have atP : ∀ {P : LFn → LNode → Prop}, (∃ y q, u[f]? = some y ∧ y.nodes[n]? = some q ∧ P y q) ↔ P x p := fun {P} => by
  constructor
  ·rintro ⟨y, q, h1, h2, h3⟩
   rw [hf] at h1; cases h1
   rw [hp] at h2; cases h2
   exact h3
  ·intro h; exact ⟨x, p, hf, hp, h⟩
 have iU : isUnseen u f n ↔ p.kind = 26 ∧ cnt x n (p.refs.getD 0 0) < 1 := atP
 have iL : isLoose u f n ↔ (p.kind = 9 ∨ p.kind = 10) ∧ inl x n = false := atP
 have iF : isFnN u f n ↔ p.kind = 36 := atP
 rw [H.f18]
 unfold sh_q4_1
 simp only [fadd_pp, Obs, rd1_p, Nat.zero_add, fn_at6, idx_encNodes hp, rdN_Node, hs8, node_at0, node_at6, bin_eql, jn_eq, aCase_bool, Lgz, one_i, un_not]
 by_cases h26 : p.kind = 26
 ·rw [if_pos (by rw [Dte]; exact h26)]
  have r0 : idx 1 (encI p.refs) (.int .i64 0) = some (.pptr [.int .i64 (p.refs.getD 0 0)] 0) := idx_encI' (i := 0) (List.length_pos_iff.2 (hr h26))
  simp only [r0, Obs, rd1_p, Lgz, hS.look, bin_lss, aCase_bool]
  have nL : ¬ isLoose u f n := fun h => by have := (iL.1 h).1; omega
  have nF : ¬ isFnN u f n := fun h => by have := iF.1 h; omega
  by_cases hc : cnt x n (p.refs.getD 0 0) < 1
  ·rw [if_pos (by rw [Dte]; exact hc)]
   obtain ⟨σ', e1, e2, e3, e4⟩ := W.setU hn (iU.2 ⟨h26, hc⟩) nL nF
   have e1' : mapSet (.agg [(.int .i64), (.int .i64)]) (.hmap U) (.agg [.int .i64 f, .int .i64 n]) (.bool true) σ = some σ' := e1
   simp only [one, e1', Obs]
   refine ⟨σ', rfl, e2, hS.keep e3 hlt.2.2.2 (by simp; exact Ne.symm hn'.1.2.2), e3.mono (by simp)⟩
  ·rw [if_neg (by rw [Dte]; exact hc)]
   exact ⟨σ, rfl, W.skip (fun h => hc (iU.1 h).2) nL nF, hS, Fr.refl _ _⟩
 rw [if_neg (by rw [Dte]; exact h26)]
 have nU : ¬ isUnseen u f n := fun h => h26 (iU.1 h).1
 have loose : (p.kind = 9 ∨ p.kind = 10) → ∃ σ', (if (!inl x n) = true then (mapSet (.agg [(.int .i64), (.int .i64)]) (.hmap L) (.agg [.int .i64 f, .int .i64 n]) (.bool true) σ).bind fun s => some (AV.tuple [], s) else some (AV.tuple [], σ)) = some (AV.tuple [], σ') ∧
   WS u U L A S (addV V f n) σ' ∧ Sc σ' S (cnt x n) ∧ Fr [U, L, A] σ σ' := by
  intro hk
  have nF : ¬ isFnN u f n := fun h => by have := iF.1 h; omega
  cases hi : inl x n with
  | true =>
   rw [if_neg (by simp)]
   exact ⟨σ, rfl, W.skip nU (fun h => by have := (iL.1 h).2; rw [hi] at this; cases this) nF, hS, Fr.refl _ _⟩
  | false =>
   rw [if_pos (by simp)]
   obtain ⟨σ', e1, e2, e3, e4⟩ := W.setL hn (iL.2 ⟨hk, hi⟩) nU nF
   have e1' : mapSet (.agg [(.int .i64), (.int .i64)]) (.hmap L) (.agg [.int .i64 f, .int .i64 n]) (.bool true) σ = some σ' := e1
   rw [e1']
   exact ⟨σ', rfl, e2, hS.keep e3 hlt.2.2.2 (by simp; exact Ne.symm hn'.2.1.2), e3.mono (by simp)⟩
 by_cases h9 : p.kind = 9
 ·rw [if_pos (by rw [Dte]; exact h9)]
  have := loose (.inl h9)
  simpa [h9, one] using this
 rw [if_neg (by rw [Dte]; exact h9)]
 by_cases h10 : p.kind = 10
 ·have := loose (.inr h10)
  simpa [h10, one] using this
 have nL : ¬ isLoose u f n := fun h => by
  rcases (iL.1 h).1 with h | h
  ·exact h9 h
  ·exact h10 h
 rw [decide_eq_false h10, if_neg (by simp)]
 by_cases h36 : p.kind = 36
 ·rw [if_pos (by rw [Dte]; exact h36)]
  obtain ⟨g, ks, s1, s2, s3⟩ := hS
  obtain ⟨ya, a1, a2⟩ := W.hA
  have hbA : (copied σ (some (.map KI (mK fun v => tt (0 < cnt x n v))))).blk A = some (.map KP (mP (aroundM (fun f n => V f n ∧ isFnN u f n) ya))) := by
   simp only [copied]
   rw [if_neg (by omega), if_neg (by omega)]; exact a1
  have e1 : mapSet (.agg [(.int .i64), (.int .i64)]) (.hmap A) (.agg [.int .i64 f, .int .i64 n]) (.hmap σ.next) (copied σ (some (.map KI (mK fun v => tt (0 < cnt x n v))))) = some _ := set_P hbA
  have hmn : (σ.add (.map (.int .i64) fun _ => none)).blk S = some (.map KI (mK g)) := by rw [add_old (by omega)]; exact s1
  refine ⟨(copied σ (some (.map KI (mK fun v => tt (0 < cnt x n v))))).upd A (some (.map KP (mP (updP (aroundM (fun f n => V f n ∧ isFnN u f n) ya) f n (.hmap σ.next))))), ?_, ?_, ?_, ?_⟩
  ·refine rangeK_eq (ks := ks.map (.int .i64 ·)) hmn (fun q hq => ?_) fun st m hst => ?_
   ·unfold mK at hq
    split at hq
    ·rename_i k; exact List.mem_map.2 ⟨k, s3 k hq, rfl⟩
    ·exact absurd rfl hq
   ·have hloop := around_loop (D := D) σ S hlt.2.2.2 g (cnt x n) s2 s1 st m hst ks s3 (fun s => (mapSet (.agg [(.int .i64), (.int .i64)]) (.hmap A) (.agg [.int .i64 f, .int .i64 n]) (.hmap σ.next) s).bind fun s_47 => some (AV.tuple [], s_47)) (r := (.tuple [], _)) (by rw [e1]; rfl) _ [] .undef rfl
    show lpFix 0 (lp_q4_1_1 D (.hptr (σ.next + 1) 0) σ (fun s => (mapSet (.agg [(.int .i64), (.int .i64)]) (.hmap A) (.agg [.int .i64 f, .int .i64 n]) (.hmap σ.next) s).bind fun s_47 => some (AV.tuple [], s_47))) _ = _
    refine Eq.trans (congrArg (lpFix 0 _) ?_) hloop
    refine Store.ext' rfl fun y => ?_
    simp only [Store.upd, Store.add, ranging]
    by_cases c1 : y = σ.next + 1
    ·subst c1; simp
    ·by_cases c2 : y = S
     ·subst c2; simp [show ¬ y = σ.next + 1 by omega]
     ·by_cases c3 : y = σ.next
      ·subst c3
       simp only [show ¬ σ.next = σ.next + 1 by omega, if_false, Ne.symm (show S ≠ σ.next by omega), if_true]
       congr 2
       rw [← mK_none]
       congr 1
       funext v
       exact (tt_neg (by simp)).symm
      ·simp [c1, c2, c3]
  ·have hd : ∀ y, y < σ.next → y ≠ A → ((copied σ (some (.map KI (mK fun v => tt (0 < cnt x n v))))).upd A (some (.map KP (mP (updP (aroundM (fun f n => V f n ∧ isFnN u f n) ya) f n (.hmap σ.next)))))).blk y = σ.blk y := fun y h1 h2 => by
    rw [upd_ne h2]
    simp only [copied]
    rw [if_neg (by omega), if_neg (by omega)]
   refine ⟨?_, ?_, updY ya f n σ.next, ?_, fun a b hv hfn => ?_⟩
   ·rw [hd U hlt.1 hn'.1.2.1, W.hU, tt_add nU]
   ·rw [hd L hlt.2.1 hn'.2.1.1, W.hL, tt_add nL]
   ·rw [upd_blk, around_new (iF.2 h36)]
   ·by_cases hab : a = f ∧ b = n
    ·obtain ⟨rfl, rfl⟩ := hab
     have e : updY ya a b σ.next a b = σ.next := by simp [updY]
     rw [e]
     refine ⟨?_, ?_, ?_⟩
     ·show σ.next < σ.next + 2; omega
     ·simp only [List.mem_cons, List.not_mem_nil, or_false, not_or]; omega
     ·rw [upd_ne (by omega)]
      simp only [copied]
      rw [if_neg (by omega), if_pos trivial]
      congr 3
      funext v
      refine tt_congr ⟨fun h => ⟨x, hf, h⟩, fun ⟨y, hy, h⟩ => ?_⟩
      rw [hf] at hy; cases hy; exact h
    ·have e : updY ya f n σ.next a b = ya a b := by simp [updY, hab]
     rw [e]
     have hv' : V a b := by
      rcases hv with h | h
      ·exact h
      ·exact absurd h hab
     obtain ⟨b1, b2, b3⟩ := a2 a b hv' hfn
     have hyA : ya a b ≠ A := by simp only [List.mem_cons, List.not_mem_nil, or_false, not_or] at b2; exact b2.2.2.1
     refine ⟨?_, b2, ?_⟩
     ·show ya a b < σ.next + 2; omega
     ·rw [hd _ b1 hyA, b3]
  ·refine ⟨g, ks, ?_, s2, s3⟩
   rw [upd_ne (Ne.symm hn'.2.2.1)]
   simp only [copied]
   rw [if_neg (by omega), if_neg (by omega)]
   exact s1
  ·refine ⟨?_, fun y h1 h2 => ?_⟩
   ·show σ.next ≤ σ.next + 2; omega
   ·simp only [List.mem_cons, List.not_mem_nil, or_false, not_or] at h2
    rw [upd_ne h2.2.2]
    simp only [copied]
    rw [if_neg (by omega), if_neg (by omega)]
 ·rw [if_neg (by rw [Dte]; exact h36)]
  exact ⟨σ, rfl, W.skip nU nL (fun h => h36 (iF.1 h)), hS, Fr.refl _ _⟩
end
end Go.Asm.UnitF
/- impl's walk over a function: what is put into scope and taken out again. -/
namespace Go.Asm.UnitF
open Go Go.Asm
theorem declAt_le {x : LFn} (hx : x.Small) (v c : Int) : declAt x v c ≤ 1048576 := by
 unfold declAt
 split
 ·rename_i q hq
  have h1 := (hx.nodes' _ (Lmg hq)).refs
  have h2 := List.count_le_length (a := v) (l := q.refs)
  split <;> omega
 ·omega
theorem kidsDecl_le {x : LFn} (hx : x.Small) (v : Int) (ks : List Int) : kidsDecl x v ks ≤ ks.length * 1048576 := by
 induction ks with
 | nil => simp [kidsDecl]
 | cons c ks ih =>
  have := declAt_le hx v c
  simp only [kidsDecl, List.length_cons]
  omega
theorem scJ_le {x : LFn} (hx : x.Small) {p : LNode} (hp : p.Small) (j : Nat) (v : Int) : scJ x p j v ≤ 1099512676352 := by
 have h1 := kidsDecl_le hx v (p.kids.take j)
 have h2 : (p.kids.take j).length ≤ 1048576 := by have := hp.kids; simp; omega
 have h3 := hp.refs
 have h4 := List.count_le_length (a := v) (l := p.refs)
 unfold scJ
 split <;> split <;> omega
theorem cnt_le {x : LFn} (hx : x.Small) (n : Nat) (v : Int) : cnt x n v ≤ 1152922604119523328 := by
 have key : ∀ c n, cntN x v c n ≤ 1 + c * 1099512676352 := by
  intro c
  induction c with
  | zero => intro n; simp only [cntN, base]; split <;> omega
  | succ c ih =>
   intro n
   have hb : base x v ≤ 1 := by unfold base; split <;> omega
   simp only [cntN]
   split
   ·omega
   ·split
    ·omega
    ·rename_i p hp
     have := ih ((growP x.nodes).getD n 0).toNat
     have := scJ_le hx (hx.nodes' _ (Lmg hp)) (place3 p.kids n).toNat v
     omega
 have := key x.nodes.length n
 have := hx.nodes
 unfold cnt
 omega
theorem cnt_nonneg (x : LFn) (n : Nat) (v : Int) : 0 ≤ cnt x n v := cntN_nonneg x v _ _
theorem cntI_take (l : List Int) (v : Int) {i : Nat} (hi : i < l.length) : ((l.take (i + 1)).count v : Int) = (l.take i).count v + if l[i] = v then 1 else 0 := by
 rw [List.take_succ_eq_append_getElem hi, List.count_append, List.count_singleton]
 by_cases h : l[i] = v
 ·simp [h]
 ·simp [h]
section
variable {D : Ctx}
theorem put_loop {p : LNode} (hp : p.Small) {S : Nat} (by_ : Int) (hby : by_ = 1 ∨ by_ = -1) (s : Int → Int) (hs : ∀ v, -4611686018427387904 ≤ s v ∧ s v ≤ 4611686018427387904) (k : Cur 0) : ∀ (c i : Nat) (σ : Store), c = p.refs.length - i → i ≤ p.refs.length → S < σ.next →
  Sc σ S (fun v => s v + by_ * (p.refs.take i).count v) →
  ∃ σ', lpFix 1 (lp_q13_1_1_1 D (.int .i64 p.refs.length) (encI p.refs) (.pptr [.hmap S] 0) (.int .i64 by_) k) (.int .i64 i) σ = k σ' ∧ Sc σ' S (fun v => s v + by_ * p.refs.count v) ∧ Fr [S] σ σ' := by
 have hrl := hp.refs
 intro c
 induction c with
 | zero =>
  intro i σ hc hi hS h
  have : i = p.refs.length := by omega
  subst this
  rw [List.take_length] at h
  refine ⟨σ, ?_, h, Fr.refl _ _⟩
  rw [lpFix_eq (lp_q13_1_1_1_mono _ _ _ _ _ _)]
  unfold lp_q13_1_1_1
  simp only [bin_lss, Obs, aCase_bool]
  rw [if_neg (by rw [Dte]; omega)]
 | succ c ih =>
  intro i σ hc hi hS h
  have hil : i < p.refs.length := by omega
  have hse : p.refs[i]? = some p.refs[i] := Lge hil
  have hcl := List.count_le_length (a := p.refs[i]) (l := p.refs.take i)
  have hcl2 : (p.refs.take i).length ≤ 1048576 := by simp; omega
  have hsv := hs p.refs[i]
  rw [lpFix_eq (lp_q13_1_1_1_mono _ _ _ _ _ _)]
  generalize hR : lpFix 1 (lp_q13_1_1_1 D (.int .i64 p.refs.length) (encI p.refs) (.pptr [.hmap S] 0) (.int .i64 by_) k) = R at ih ⊢
  unfold lp_q13_1_1_1
  have e1 : ((i : Int) + 1) = ((i + 1 : Nat) : Int) := by omega
  simp only [bin_lss, Obs, aCase_bool, idx_encI hse, rd1_p, Lgz, h.look]
  rw [if_pos (by rw [Dte]; omega)]
  rw [bin_add (a := s p.refs[i] + by_ * (p.refs.take i).count p.refs[i]) (b := by_) (by rcases hby with e | e <;> subst e <;> omega) (by rcases hby with e | e <;> subst e <;> omega)]
  obtain ⟨σ1, m1, m2, m3, m4⟩ := h.set p.refs[i] (s p.refs[i] + by_ * (p.refs.take i).count p.refs[i] + by_)
  simp only [Obs, m1, bin_add (a := (i : Int)) (b := 1) (by omega) (by omega), e1]
  have hfun : (fun w => if w = p.refs[i] then s p.refs[i] + by_ * (p.refs.take i).count p.refs[i] + by_ else s w + by_ * (p.refs.take i).count w) = fun v => s v + by_ * (p.refs.take (i + 1)).count v := by
   funext w
   rw [cntI_take p.refs w hil]
   by_cases e : w = p.refs[i]
   ·rw [if_pos e, if_pos e.symm, ← e, Int.mul_add]; omega
   ·rw [if_neg e, if_neg (Ne.symm e), Int.add_zero]
  rw [hfun] at m2
  obtain ⟨σ', r1, r2, r3⟩ := ih (i + 1) σ1 (by omega) (by omega) (by rw [m4]; exact hS) m2
  exact ⟨σ', r1, r2, m3.trans r3⟩
theorem put_ (H : Door D) {p : LNode} (hp : p.Small) {S : Nat} (by_ : Int) (hby : by_ = 1 ∨ by_ = -1) (s : Int → Int) (hs : ∀ v, -4611686018427387904 ≤ s v ∧ s v ≤ 4611686018427387904) {σ : Store} (hS : S < σ.next) (h : Sc σ S s) :
  ∃ σ', callD D (.func 36 [] [.pptr (encNode p) 0, .pptr [.hmap S] 0]) [.int .i64 by_] σ = some (.tuple [], σ') ∧ Sc σ' S (fun v => s v + by_ * p.refs.count v) ∧ Fr [S] σ σ' := by
 obtain ⟨σ', r1, r2, r3⟩ := put_loop (D := D) hp by_ hby s hs (fun s => some (.tuple [], s)) p.refs.length 0 σ (by omega) (by omega) hS (by simpa using h)
 refine ⟨σ', ?_, r2, r3⟩
 show D.call 36 [.int .i64 by_, .pptr (encNode p) 0, .pptr [.hmap S] 0] σ = _
 rw [H.f36]
 unfold sh_q13_1_1
 simp only [fadd_pp, Obs, rd1_p, Nat.zero_add, node_at6, len_encI, jn_eq]
 exact r1
/-- Slices of whole numbers that a call itself made. -/
def OwnL (σ : Store) (lo : Nat) (v : AV) (l : List Int) : Prop := (v = .nilslice ∧ l = []) ∨ ∃ b, v = .hslice 1 b 0 l.length ∧ σ.blk b = some (.cells (cI l)) ∧ lo ≤ b ∧ b < σ.next
theorem OwnL.len {σ : Store} {lo : Nat} {v : AV} {l : List Int} (h : OwnL σ lo v l) (τ : Store) : lenV .sl v τ = some (.int .i64 l.length) := by
 rcases h with ⟨rfl, rfl⟩ | ⟨b, rfl, _⟩
 ·rfl
 ·rfl
theorem OwnL.keep {σ σ' : Store} {M : List Nat} {lo : Nat} {v : AV} {l : List Int} (h : OwnL σ lo v l) (hf : Fr M σ σ') (hM : ∀ y ∈ M, y < lo) : OwnL σ' lo v l := by
 rcases h with h | ⟨b, h1, h2, h3, h4⟩
 ·exact .inl h
 ·exact .inr ⟨b, h1, (hf.2 b h4 fun hm => by have := hM b hm; omega).trans h2, h3, Nat.lt_of_lt_of_le h4 hf.1⟩
theorem OwnL.get {σ : Store} {lo : Nat} {v : AV} {l : List Int} (h : OwnL σ lo v l) {i : Nat} (hi : i < l.length) (G : Nat → Option AV) : ∃ q, idx 1 v (.int .i64 i) = some q ∧ rd1 G q σ = some (.int .i64 l[i]) := by
 rcases h with ⟨_, rfl⟩ | ⟨b, rfl, h2, _, _⟩
 ·simp at hi
 ·refine ⟨.hptr b i, ?_, ?_⟩
  ·rw [idx_h1 (by omega) (by omega)]; simp
  ·rw [rd1_cI h2 hi]; simp [hi]
theorem OwnL.push {σ : Store} {lo : Nat} {v : AV} {l : List Int} (h : OwnL σ lo v l) (hlo : lo ≤ σ.next) (hl : l.length < 4294967296) (k : Int) :
  ∃ r, app 1 v (.pslice 1 [.agg [.int .i64 k]]) σ = some r ∧ OwnL r.2 lo r.1 (l ++ [k]) ∧ r.2.next = σ.next + 1 ∧ ∀ y, y < lo → r.2.blk y = σ.blk y := by
 have hc : contents 1 (.pslice 1 [.agg [.int .i64 k]]) σ = some (1, [.int .i64 k]) := by simp [contents, rowsCells]
 rcases h with ⟨rfl, rfl⟩ | ⟨b, rfl, h2, h3, h4⟩
 ·refine ⟨(.hslice 1 σ.next 0 1, σ.add (.cells [.int .i64 k])), ?_, .inr ⟨σ.next, rfl, add_blk, hlo, ?_⟩, rfl, fun y hy => add_old (by omega)⟩
  ·simp [app, hc, maxLen']
  ·show σ.next < σ.next + 1; omega
 ·refine ⟨(.hslice 1 σ.next 0 (l.length + 1), (σ.upd b none).add (.cells (cI l ++ [.int .i64 k]))), ?_, .inr ⟨σ.next, ?_, ?_, hlo, ?_⟩, rfl, fun y hy => ?_⟩
  ·simp only [app, hc, Obs]
   rw [if_pos ⟨trivial, trivial, by simp only [maxLen']; omega, by omega⟩]
   simp only [h2, cI_length, Nat.mul_one]
   rw [if_pos (Nat.le_refl _), List.take_of_length_le (by simp)]
  ·simp
  ·have : (σ.upd b none).next = σ.next := rfl
   rw [← this, add_blk]
   simp [cI]
  ·show σ.next < σ.next + 1; omega
  ·rw [add_old (by show y ≠ σ.next; omega), upd_ne (by omega)]
end
end Go.Asm.UnitF
/- impl's walk over a function: its kids. -/
namespace Go.Asm.UnitF
open Go Go.Asm
def visF (x : LFn) (f U L A : Nat) : AV := .func 18 [] [.pptr (encFn x) 0, .pptr [.hmap U] 0, .pptr [.int .i64 f] 0, .pptr [.hmap L] 0, .pptr [.hmap A] 0]
def wF (x : LFn) (f U L A S B : Nat) : AV := .func 35 [] [.pptr (encFn x) 0, .pptr [visF x f U L A] 0, .pptr [.hmap S] 0, .hptr B 0]
/-- The store in the middle of a walk. -/
structure In (u : List LFn) (x : LFn) (f U L A S B : Nat) (V : Nat → Nat → Prop) (s : Int → Int) (σ : Store) : Prop where
 W : WS u U L A S V σ
 sc : Sc σ S s
 box : σ.blk B = some (.cells [wF x f U L A S B])
 lt : U < σ.next ∧ L < σ.next ∧ A < σ.next ∧ S < σ.next ∧ B < σ.next
theorem WS.congr {u : List LFn} {U L A S : Nat} {V V' : Nat → Nat → Prop} {σ : Store} (h : ∀ a b, V a b ↔ V' a b) (W : WS u U L A S V σ) : WS u U L A S V' σ := by
 have : V = V' := by funext a b; exact propext (h a b)
 rw [← this]; exact W
def addS (V : Nat → Nat → Prop) (f : Nat) (l : List LNode) (n : Nat) : Nat → Nat → Prop := fun a b => V a b ∨ (a = f ∧ Sub l n b)
def addK (V : Nat → Nat → Prop) (f : Nat) (l : List LNode) (ks : List Int) (n j : Nat) : Nat → Nat → Prop := fun a b => V a b ∨ (a = f ∧ (b = n ∨ ∃ (i : Nat) (c : Int), i < j ∧ ks[i]? = some c ∧ Sub l c.toNat b))
theorem addK_zero {V : Nat → Nat → Prop} {f : Nat} {l : List LNode} {ks : List Int} {n : Nat} (a b : Nat) : addV V f n a b ↔ addK V f l ks n 0 a b := by
 unfold addV addK
 constructor
 ·rintro (h | ⟨h1, h2⟩)
  ·exact .inl h
  ·exact .inr ⟨h1, .inl h2⟩
 ·rintro (h | ⟨h1, h2 | ⟨i, _, h2, _⟩⟩)
  ·exact .inl h
  ·exact .inr ⟨h1, h2⟩
  ·omega
theorem addK_succ {V : Nat → Nat → Prop} {f : Nat} {l : List LNode} {ks : List Int} {n j : Nat} {c : Int} (hc : ks[j]? = some c) (a b : Nat) : addS (addK V f l ks n j) f l c.toNat a b ↔ addK V f l ks n (j + 1) a b := by
 unfold addS addK
 constructor
 ·rintro ((h | ⟨h1, h2 | ⟨i, d, h2, h3, h4⟩⟩) | ⟨h1, h2⟩)
  ·exact .inl h
  ·exact .inr ⟨h1, .inl h2⟩
  ·exact .inr ⟨h1, .inr ⟨i, d, by omega, h3, h4⟩⟩
  ·exact .inr ⟨h1, .inr ⟨j, c, by omega, hc, h2⟩⟩
 ·rintro (h | ⟨h1, h2 | ⟨i, d, h2, h3, h4⟩⟩)
  ·exact .inl (.inl h)
  ·exact .inl (.inr ⟨h1, .inl h2⟩)
  ·by_cases e : i = j
   ·subst e; rw [hc] at h3; cases h3; exact .inr ⟨h1, h4⟩
   ·exact .inl (.inr ⟨h1, .inr ⟨i, d, by omega, h3, h4⟩⟩)
theorem addK_all {V : Nat → Nat → Prop} {f : Nat} {l : List LNode} (ha : Ahead l) {n : Nat} {p : LNode} (hp : l[n]? = some p) (a b : Nat) : addK V f l p.kids n p.kids.length a b ↔ addS V f l n a b := by
 unfold addS addK
 constructor
 ·rintro (h | ⟨h1, h2 | ⟨i, d, h2, h3, h4⟩⟩)
  ·exact .inl h
  ·subst h2; exact .inr ⟨h1, .refl _⟩
  ·have hm := Lmg h3
   have := (ha n p hp d hm).1
   refine .inr ⟨h1, .kid hp (c := d.toNat) ?_ h4⟩
   rw [show ((d.toNat : Nat) : Int) = d by omega]; exact hm
 ·rintro (h | ⟨h1, h2⟩)
  ·exact .inl h
  ·cases h2 with
   | refl => exact .inr ⟨h1, .inl rfl⟩
   | @kid _ _ q c h3 h4 h5 =>
    rw [hp] at h3; cases h3
    obtain ⟨i, hi⟩ := List.getElem?_of_mem h4
    have := (List.getElem?_eq_some_iff.1 hi).1
    exact .inr ⟨h1, .inr ⟨i, _, this, hi, by simpa using h5⟩⟩
section
variable {D : Ctx} {u : List LFn} {x : LFn} {f U L A S B : Nat}
def Walks (D : Ctx) (u : List LFn) (x : LFn) (f U L A S B n : Nat) : Prop := ∀ V σ, In u x f U L A S B V (cnt x n) σ →
 ∃ σ', callD D (wF x f U L A S B) [.int .i64 n, .bool (inl x n)] σ = some (.tuple [], σ') ∧ In u x f U L A S B (addS V f x.nodes n) (cnt x n) σ' ∧ Fr [U, L, A, S] σ σ'
theorem In.fr {V V' : Nat → Nat → Prop} {s s' : Int → Int} {σ σ' : Store} (h : In u x f U L A S B V s σ) (hB : B ∉ [U, L, A, S]) (fr : Fr [U, L, A, S] σ σ') (W : WS u U L A S V' σ') (sc : Sc σ' S s') : In u x f U L A S B V' s' σ' :=
 ⟨W, sc, (fr.2 B h.lt.2.2.2.2 hB).trans h.box, by have := h.lt; have := fr.1; omega⟩
theorem In.scope {V : Nat → Nat → Prop} {s s' : Int → Int} {σ σ' : Store} (h : In u x f U L A S B V s σ) (hB : B ∉ [U, L, A, S]) (nd : [U, L, A, S].Nodup) (fr : Fr [S] σ σ') (sc : Sc σ' S s') : In u x f U L A S B V s' σ' :=
 h.fr hB (fr.mono (by simp)) (h.W.keep fr ⟨h.lt.1, h.lt.2.1, h.lt.2.2.1⟩ nd) sc
theorem In.congr {V V' : Nat → Nat → Prop} {s : Int → Int} {σ : Store} (h : ∀ a b, V a b ↔ V' a b) (i : In u x f U L A S B V s σ) : In u x f U L A S B V' s σ := ⟨i.W.congr h, i.sc, i.box, i.lt⟩
theorem rd1_box {σ : Store} {y : Nat} {v : AV} {G : Nat → Option AV} (h : σ.blk y = some (.cells [v])) : rd1 G (.hptr y 0) σ = some v := by
 simp [rd1, h]
theorem kid_step (T : TreeN x.nodes) (hB : B ∉ [U, L, A, S]) {n : Nat} {p : LNode} (hp : x.nodes[n]? = some p) (IH : ∀ m, m < n → Walks D u x f U L A S B m) {j : Nat} {c : Int} (hc : p.kids[j]? = some c)
  {V : Nat → Nat → Prop} {s : Int → Int} {σ : Store} (hs : ∀ v, s v = cnt x n v + scJ x p j v) (hi : In u x f U L A S B (addK V f x.nodes p.kids n j) s σ) (b : Bool) (hb : b = (isLoop p.kind && decide (j + 1 = p.kids.length) || inl x n)) :
  ∃ σ', callD D (wF x f U L A S B) [.int .i64 c, .bool b] σ = some (.tuple [], σ') ∧ In u x f U L A S B (addK V f x.nodes p.kids n (j + 1)) s σ' ∧ Fr [U, L, A, S] σ σ' := by
 have e1 : s = cnt x c.toNat := by funext v; rw [hs, cnt_kid T hp hc v]
 have e2 := inl_kid T hp hc
 obtain ⟨m, rfl, h1, _⟩ := kid_facts T hp hc
 subst e1
 simp only [Int.toNat_natCast] at hi e2 ⊢
 obtain ⟨σ', r1, r2, r3⟩ := IH m h1 _ σ hi
 rw [e2, ← hb] at r1
 refine ⟨σ', r1, r2.congr fun a b => ?_, r3⟩
 exact addK_succ hc a b
theorem kids_loop1 (T : TreeN x.nodes) (hB : B ∉ [U, L, A, S]) {n : Nat} {p : LNode} (hp : x.nodes[n]? = some p) (hps : p.kids.length ≤ 1048576) (IH : ∀ m, m < n → Walks D u x f U L A S B m) (M : Nat) (hM : M ≤ p.kids.length)
  (h0 : ∀ j, j < M → (∀ v, scJ x p j v = 0) ∧ (isLoop p.kind && decide (j + 1 = p.kids.length)) = false) {V : Nat → Nat → Prop} (k : Cur 0) : ∀ (c j : Nat) (σ : Store), c = M - j → j ≤ M →
  In u x f U L A S B (addK V f x.nodes p.kids n j) (cnt x n) σ →
  ∃ σ', lpFix 1 (lp_q13_1_1 D (.int .i64 M) (encI (p.kids.take M)) (.hptr B 0) (.bool (inl x n)) k) (.int .i64 j) σ = k σ' ∧ In u x f U L A S B (addK V f x.nodes p.kids n M) (cnt x n) σ' ∧ Fr [U, L, A, S] σ σ' := by
 intro c
 induction c with
 | zero =>
  intro j σ hc hj h
  have : j = M := by omega
  subst this
  refine ⟨σ, ?_, h, Fr.refl _ _⟩
  rw [lpFix_eq (lp_q13_1_1_mono _ _ _ _ _ _)]
  unfold lp_q13_1_1
  simp only [bin_lss, Obs, aCase_bool]
  rw [if_neg (by rw [Dte]; omega)]
 | succ c ih =>
  intro j σ hc hj h
  have hjl : j < p.kids.length := by omega
  have hse : p.kids[j]? = some p.kids[j] := Lge hjl
  have hse' : (p.kids.take M)[j]? = some p.kids[j] := by rw [List.getElem?_take, if_pos (by omega), hse]
  obtain ⟨z1, z2⟩ := h0 j (by omega)
  rw [lpFix_eq (lp_q13_1_1_mono _ _ _ _ _ _)]
  generalize hR : lpFix 1 (lp_q13_1_1 D (.int .i64 M) (encI (p.kids.take M)) (.hptr B 0) (.bool (inl x n)) k) = R at ih ⊢
  unfold lp_q13_1_1
  have e1 : ((j : Int) + 1) = ((j + 1 : Nat) : Int) := by omega
  obtain ⟨σ1, m1, m2, m3⟩ := kid_step (D := D) T hB hp IH hse (fun v => by rw [z1 v, Int.add_zero]) h (inl x n) (by rw [z2]; rfl)
  simp only [bin_lss, Obs, aCase_bool, idx_encI hse', rd1_p, Lgz, rd1_box h.box, m1, bin_add (a := (j : Int)) (b := 1) (by omega) (by omega), e1]
  rw [if_pos (by rw [Dte]; omega)]
  obtain ⟨σ', r1, r2, r3⟩ := ih (j + 1) σ1 (by omega) (by omega) m2
  exact ⟨σ', r1, r2, m3.trans r3⟩
theorem kids_loop2 (T : TreeN x.nodes) (hB : B ∉ [U, L, A, S]) {n : Nat} {p : LNode} (hp : x.nodes[n]? = some p) (hps : p.kids.length ≤ 1048576) (IH : ∀ m, m < n → Walks D u x f U L A S B m) (M : Nat) (hM : M ≤ p.kids.length)
  (h0 : ∀ j, j < M → (∀ v, scJ x p j v = 0) ∧ (isLoop p.kind && decide (j + 1 = p.kids.length)) = false) {V : Nat → Nat → Prop} (k : Cur 0) : ∀ (c j : Nat) (σ : Store), c = M - j → j ≤ M →
  In u x f U L A S B (addK V f x.nodes p.kids n j) (cnt x n) σ →
  ∃ σ', lpFix 1 (lp_q13_1_2 D (.int .i64 M) (encI (p.kids.take M)) (.hptr B 0) (.bool (inl x n)) k) (.int .i64 j) σ = k σ' ∧ In u x f U L A S B (addK V f x.nodes p.kids n M) (cnt x n) σ' ∧ Fr [U, L, A, S] σ σ' := by
 have e : lp_q13_1_2 D (.int .i64 M) (encI (p.kids.take M)) (.hptr B 0) (.bool (inl x n)) k = lp_q13_1_1 D (.int .i64 M) (encI (p.kids.take M)) (.hptr B 0) (.bool (inl x n)) k := rfl
 rw [e]
 exact kids_loop1 T hB hp hps IH M hM h0 k
end
end Go.Asm.UnitF
/- impl's walk over a function: a block's lets. -/
namespace Go.Asm.UnitF
open Go Go.Asm
theorem WS.maps {u : List LFn} {U L A S : Nat} {V : Nat → Nat → Prop} {σ σ' : Store} (W : WS u U L A S V σ) (h0 : σ.next ≤ σ'.next) (h : ∀ y, y < σ.next → (∃ kk g, σ.blk y = some (.map kk g)) → σ'.blk y = σ.blk y) (h1 : U < σ.next ∧ L < σ.next ∧ A < σ.next) : WS u U L A S V σ' := by
 obtain ⟨ya, a1, a2⟩ := W.hA
 refine ⟨(h U h1.1 ⟨_, _, W.hU⟩).trans W.hU, (h L h1.2.1 ⟨_, _, W.hL⟩).trans W.hL, ya, (h A h1.2.2 ⟨_, _, a1⟩).trans a1, fun f n hv hn => ?_⟩
 obtain ⟨b1, b2, b3⟩ := a2 f n hv hn
 exact ⟨Nat.lt_of_lt_of_le b1 h0, b2, (h _ b1 ⟨_, _, b3⟩).trans b3⟩
theorem Sc.maps {σ σ' : Store} {S : Nat} {s : Int → Int} (h : Sc σ S s) (h1 : σ'.blk S = σ.blk S) : Sc σ' S s := by
 obtain ⟨g, ks, a, b⟩ := h
 exact ⟨g, ks, h1.trans a, b⟩
def letsOf (x : LFn) : List Int → List Int
 | [] => []
 | c :: ks => (match x.nodes[c.toNat]? with
  | some q => if q.kind = 2 then q.refs else []
  | none => []) ++ letsOf x ks
theorem letsOf_app (x : LFn) (a b : List Int) : letsOf x (a ++ b) = letsOf x a ++ letsOf x b := by
 induction a with
 | nil => rfl
 | cons c a ih => rw [List.cons_append, letsOf, letsOf, ih, List.append_assoc]
theorem kidsDecl_app (x : LFn) (v : Int) (a b : List Int) : kidsDecl x v (a ++ b) = kidsDecl x v a + kidsDecl x v b := by
 induction a with
 | nil => simp [kidsDecl]
 | cons c a ih => rw [List.cons_append, kidsDecl, kidsDecl, ih]; omega
theorem letsOf_count (x : LFn) (v : Int) (ks : List Int) : ((letsOf x ks).count v : Int) = kidsDecl x v ks := by
 induction ks with
 | nil => rfl
 | cons c ks ih =>
  rw [letsOf, kidsDecl, ← ih, List.count_append]
  have : (((match x.nodes[c.toNat]? with | some q => if q.kind = 2 then q.refs else [] | none => []) : List Int).count v : Int) = declAt x v c := by
   unfold declAt
   cases x.nodes[c.toNat]? with
   | none => rfl
   | some q =>
    simp only []
    split <;> simp
  omega
theorem letsOf_len {x : LFn} (hx : x.Small) (ks : List Int) : (letsOf x ks).length ≤ ks.length * 1048576 := by
 induction ks with
 | nil => simp [letsOf]
 | cons c ks ih =>
  rw [letsOf, List.length_append, List.length_cons]
  have : ((match x.nodes[c.toNat]? with | some q => if q.kind = 2 then q.refs else [] | none => []) : List Int).length ≤ 1048576 := by
   split
   ·rename_i q hq
    have h1 := (hx.nodes' _ (Lmg hq)).refs
    split <;> simp; omega
   ·simp
  omega
section
variable {D : Ctx} {u : List LFn} {x : LFn} {f U L A S B : Nat}
theorem In.push {V : Nat → Nat → Prop} {s : Int → Int} {σ σ0 : Store} (h : In u x f U L A S B V s σ) (fr : Fr [U, L, A, S] σ0 σ) (lt0 : U < σ0.next ∧ L < σ0.next ∧ A < σ0.next ∧ S < σ0.next ∧ B < σ0.next) {v : AV} {l : List Int} (o : OwnL σ σ0.next v l) (hl : l.length < 4294967296) (k : Int) :
  ∃ r, app 1 v (.pslice 1 [.agg [.int .i64 k]]) σ = some r ∧ In u x f U L A S B V s r.2 ∧ OwnL r.2 σ0.next r.1 (l ++ [k]) ∧ Fr [U, L, A, S] σ0 r.2 := by
 obtain ⟨r, r1, r2, r3, r4⟩ := o.push fr.1 hl k
 have hm : ∀ y, y < σ.next → (∃ kk g, σ.blk y = some (.map kk g)) → r.2.blk y = σ.blk y := by
  intro y hy ⟨kk, g, hg⟩
  have hc : contents 1 (.pslice 1 [.agg [.int .i64 k]]) σ = some (1, [.int .i64 k]) := by simp [contents, rowsCells]
  rcases o with ⟨rfl, rfl⟩ | ⟨b, rfl, h2, h3, h4⟩
  ·simp only [app, hc, Obs] at r1
   rw [if_pos (by simp [maxLen'])] at r1
   cases r1
   exact add_old (by omega)
  ·simp only [app, hc, Obs] at r1
   rw [if_pos ⟨trivial, trivial, by simp only [maxLen']; omega, by omega⟩] at r1
   simp only [h2, cI_length, Nat.mul_one] at r1
   rw [if_pos (Nat.le_refl _), List.take_of_length_le (by simp)] at r1
   cases r1
   have : y ≠ b := fun e => by subst e; rw [h2] at hg; cases hg
   rw [add_old (by show y ≠ σ.next; omega), upd_ne this]
 obtain ⟨g, ks, a, b⟩ := h.sc
 refine ⟨r, r1, ⟨h.W.maps (by omega) hm ⟨h.lt.1, h.lt.2.1, h.lt.2.2.1⟩, h.sc.maps (hm S h.lt.2.2.2.1 ⟨_, _, a⟩), (r4 B lt0.2.2.2.2).trans h.box, by have := h.lt; omega⟩, r2, by have := fr.1; omega, fun y h1 h2 => (r4 y h1).trans (fr.2 y h1 h2)⟩
theorem letsI_loop (hB : B ∉ [U, L, A, S]) (nd : [U, L, A, S].Nodup) {q : LNode} (hq : q.Small) {s : Int → Int} (hs : ∀ v, 0 ≤ s v ∧ s v ≤ 2305843009213693952) {V : Nat → Nat → Prop} {σ0 : Store} (lt0 : U < σ0.next ∧ L < σ0.next ∧ A < σ0.next ∧ S < σ0.next ∧ B < σ0.next) (l0 : List Int) (hl0 : l0.length ≤ 268435456) (k : Cur 1) : ∀ (c i : Nat) (σ : Store) (v : AV), c = q.refs.length - i → i ≤ q.refs.length →
  In u x f U L A S B V (fun w => s w + (q.refs.take i).count w) σ → Fr [U, L, A, S] σ0 σ → OwnL σ σ0.next v (l0 ++ q.refs.take i) →
  ∃ σ' v', lpFix 2 (lp_q13_1_3 D (.int .i64 q.refs.length) (encI q.refs) (.pptr [.hmap S] 0) k) v (.int .i64 i) σ = k v' σ' ∧ In u x f U L A S B V (fun w => s w + q.refs.count w) σ' ∧ Fr [U, L, A, S] σ0 σ' ∧ OwnL σ' σ0.next v' (l0 ++ q.refs) := by
 have hrl := hq.refs
 intro c
 induction c with
 | zero =>
  intro i σ v hc hi h fr o
  have : i = q.refs.length := by omega
  subst this
  rw [List.take_length] at h o
  refine ⟨σ, v, ?_, h, fr, o⟩
  rw [lpFix_eq (lp_q13_1_3_mono _ _ _ _ _)]
  unfold lp_q13_1_3
  simp only [bin_lss, Obs, aCase_bool]
  rw [if_neg (by rw [Dte]; omega)]
 | succ c ih =>
  intro i σ v hc hi h fr o
  have hil : i < q.refs.length := by omega
  have hse : q.refs[i]? = some q.refs[i] := Lge hil
  have hcl := List.count_le_length (a := q.refs[i]) (l := q.refs.take i)
  have hcl2 : (q.refs.take i).length ≤ 1048576 := by simp; omega
  have hsv := hs q.refs[i]
  rw [lpFix_eq (lp_q13_1_3_mono _ _ _ _ _)]
  generalize hR : lpFix 2 (lp_q13_1_3 D (.int .i64 q.refs.length) (encI q.refs) (.pptr [.hmap S] 0) k) = R at ih ⊢
  unfold lp_q13_1_3
  have e1 : ((i : Int) + 1) = ((i + 1 : Nat) : Int) := by omega
  have one_i : one (.int .i64 q.refs[i]) = some (.int .i64 q.refs[i]) := rfl
  simp only [bin_lss, Obs, aCase_bool, idx_encI hse, rd1_p, Lgz, h.sc.look]
  rw [if_pos (by rw [Dte]; omega)]
  rw [bin_add (a := s q.refs[i] + (q.refs.take i).count q.refs[i]) (b := 1) (by omega) (by omega)]
  obtain ⟨σ1, m1, m2, m3, m4⟩ := h.sc.set q.refs[i] (s q.refs[i] + (q.refs.take i).count q.refs[i] + 1)
  have hfun : (fun w => if w = q.refs[i] then s q.refs[i] + (q.refs.take i).count q.refs[i] + 1 else s w + (q.refs.take i).count w) = fun v => s v + (q.refs.take (i + 1)).count v := by
   funext w
   rw [cntI_take q.refs w hil]
   by_cases e : w = q.refs[i]
   ·rw [if_pos e, if_pos e.symm, ← e]; omega
   ·rw [if_neg e, if_neg (Ne.symm e), Int.add_zero]
  rw [hfun] at m2
  have h1 := h.scope hB nd m3 m2
  have fr1 := fr.trans (m3.mono (by simp : ∀ y ∈ [S], y ∈ [U, L, A, S]))
  have o1 := o.keep m3 (by simp; exact lt0.2.2.2.1)
  obtain ⟨r, p1, p2, p3, p4⟩ := h1.push fr1 lt0 o1 (by simp; omega) q.refs[i]
  simp only [Obs, m1, one_i, p1, bin_add (a := (i : Int)) (b := 1) (by omega) (by omega), e1]
  rw [List.append_assoc, ← List.take_succ_eq_append_getElem hil] at p3
  exact ih (i + 1) r.2 r.1 (by omega) (by omega) p2 p4 p3
theorem unlet_loop (hB : B ∉ [U, L, A, S]) (nd : [U, L, A, S].Nodup) {s : Int → Int} (hs : ∀ v, 0 ≤ s v ∧ s v ≤ 2305843009213693952) {V : Nat → Nat → Prop} {σ0 : Store} (lt0 : U < σ0.next ∧ L < σ0.next ∧ A < σ0.next ∧ S < σ0.next ∧ B < σ0.next) (l : List Int) (hl : l.length ≤ 268435456) (v : AV) (k : Cur 0) : ∀ (c i : Nat) (σ : Store), c = l.length - i → i ≤ l.length →
  In u x f U L A S B V (fun w => s w + (l.count w : Int) - (l.take i).count w) σ → Fr [U, L, A, S] σ0 σ → OwnL σ σ0.next v l →
  ∃ σ', lpFix 1 (lp_q13_1_5 D (.int .i64 l.length) v (.pptr [.hmap S] 0) k) (.int .i64 i) σ = k σ' ∧ In u x f U L A S B V s σ' ∧ Fr [U, L, A, S] σ0 σ' := by
 intro c
 induction c with
 | zero =>
  intro i σ hc hi h fr o
  have : i = l.length := by omega
  subst this
  rw [List.take_length] at h
  refine ⟨σ, ?_, ?_, fr⟩
  ·rw [lpFix_eq (lp_q13_1_5_mono _ _ _ _ _)]
   unfold lp_q13_1_5
   simp only [bin_lss, Obs, aCase_bool]
   rw [if_neg (by rw [Dte]; omega)]
  ·have : (fun w => s w + (l.count w : Int) - l.count w) = s := by funext w; omega
   rw [this] at h; exact h
 | succ c ih =>
  intro i σ hc hi h fr o
  have hil : i < l.length := by omega
  have hcl := List.count_le_length (a := l[i]) (l := l.take i)
  have hcl2 : (l.take i).length ≤ 268435456 := by simp; omega
  have hcl3 := List.count_le_length (a := l[i]) (l := l)
  have hsv := hs l[i]
  rw [lpFix_eq (lp_q13_1_5_mono _ _ _ _ _)]
  generalize hR : lpFix 1 (lp_q13_1_5 D (.int .i64 l.length) v (.pptr [.hmap S] 0) k) = R at ih ⊢
  unfold lp_q13_1_5
  have e1 : ((i : Int) + 1) = ((i + 1 : Nat) : Int) := by omega
  obtain ⟨q, q1, q2⟩ := o.get hil D.G
  simp only [bin_lss, Obs, aCase_bool, q1, q2, rd1_p, Lgz, h.sc.look]
  rw [if_pos (by rw [Dte]; omega)]
  rw [bin_sub (a := s l[i] + (l.count l[i] : Int) - (l.take i).count l[i]) (b := 1) (by omega) (by omega)]
  obtain ⟨σ1, m1, m2, m3, m4⟩ := h.sc.set l[i] (s l[i] + (l.count l[i] : Int) - (l.take i).count l[i] - 1)
  have hfun : (fun w => if w = l[i] then s l[i] + (l.count l[i] : Int) - (l.take i).count l[i] - 1 else s w + (l.count w : Int) - (l.take i).count w) = fun v => s v + (l.count v : Int) - (l.take (i + 1)).count v := by
   funext w
   rw [cntI_take l w hil]
   by_cases e : w = l[i]
   ·rw [if_pos e, if_pos e.symm, ← e]; omega
   ·rw [if_neg e, if_neg (Ne.symm e), Int.add_zero]
  rw [hfun] at m2
  have h1 := h.scope hB nd m3 m2
  have fr1 := fr.trans (m3.mono (by simp : ∀ y ∈ [S], y ∈ [U, L, A, S]))
  have o1 := o.keep m3 (by simp; exact lt0.2.2.2.1)
  simp only [Obs, m1, bin_add (a := (i : Int)) (b := 1) (by omega) (by omega), e1]
  exact ih (i + 1) σ1 (by omega) (by omega) h1 fr1 o1
theorem block_loop (hx : x.Small) (T : TreeN x.nodes) (hB : B ∉ [U, L, A, S]) (nd : [U, L, A, S].Nodup) {n : Nat} {p : LNode} (hp : x.nodes[n]? = some p) (hk : p.kind = 1) (hkl : p.kids.length ≤ 200) (IH : ∀ m, m < n → Walks D u x f U L A S B m)
  {V : Nat → Nat → Prop} {σ0 : Store} (lt0 : U < σ0.next ∧ L < σ0.next ∧ A < σ0.next ∧ S < σ0.next ∧ B < σ0.next) (k : Cur 1) : ∀ (c j : Nat) (σ : Store) (v : AV), c = p.kids.length - j → j ≤ p.kids.length →
  In u x f U L A S B (addK V f x.nodes p.kids n j) (fun w => cnt x n w + kidsDecl x w (p.kids.take j)) σ → Fr [U, L, A, S] σ0 σ → OwnL σ σ0.next v (letsOf x (p.kids.take j)) →
  ∃ σ' v', lpFix 2 (lp_q13_1_4 D (.int .i64 p.kids.length) (encI p.kids) (.hptr B 0) (.bool (inl x n)) (.pptr (encFn x) 0) (.pptr [.hmap S] 0) k) v (.int .i64 j) σ = k v' σ' ∧
   In u x f U L A S B (addK V f x.nodes p.kids n p.kids.length) (fun w => cnt x n w + kidsDecl x w p.kids) σ' ∧ Fr [U, L, A, S] σ0 σ' ∧ OwnL σ' σ0.next v' (letsOf x p.kids) := by
 intro c
 induction c with
 | zero =>
  intro j σ v hc hj h fr o
  have : j = p.kids.length := by omega
  subst this
  rw [List.take_length] at h o
  refine ⟨σ, v, ?_, h, fr, o⟩
  rw [lpFix_eq (lp_q13_1_4_mono _ _ _ _ _ _ _ _)]
  unfold lp_q13_1_4
  simp only [bin_lss, Obs, aCase_bool]
  rw [if_neg (by rw [Dte]; omega)]
 | succ c ih =>
  intro j σ v hc hj h fr o
  have hjl : j < p.kids.length := by omega
  have hse : p.kids[j]? = some p.kids[j] := Lge hjl
  have hhead : isHead p.kind = false := by simp [isHead, hk]
  have hloop : isLoop p.kind = false := by simp [isLoop, hk]
  have hsc : ∀ w, cnt x n w + kidsDecl x w (p.kids.take j) = cnt x n w + scJ x p j w := fun w => by
   unfold scJ
   rw [if_pos hk, if_neg (by simp [hhead]), Int.add_zero]
  obtain ⟨σ1, m1, m2, m3⟩ := kid_step (D := D) T hB hp IH hse hsc h (inl x n) (by rw [hloop]; rfl)
  obtain ⟨m, em, h1, h2, _⟩ := kid_facts T hp hse
  rw [em] at m1
  rw [lpFix_eq (lp_q13_1_4_mono _ _ _ _ _ _ _ _)]
  generalize hR : lpFix 2 (lp_q13_1_4 D (.int .i64 p.kids.length) (encI p.kids) (.hptr B 0) (.bool (inl x n)) (.pptr (encFn x) 0) (.pptr [.hmap S] 0) k) = R at ih ⊢
  unfold lp_q13_1_4
  have e1 : ((j : Int) + 1) = ((j + 1 : Nat) : Int) := by omega
  have hq : x.nodes[m]? = some x.nodes[m] := Lge (by omega)
  have hqs := hx.nodes' _ (Lmg hq)
  have htk := List.take_succ_eq_append_getElem hjl
  have o1 := o.keep m3 (by simp; omega)
  have fr1 := fr.trans m3
  have hk1 : ∀ w, kidsDecl x w (p.kids.take (j + 1)) = kidsDecl x w (p.kids.take j) + (if x.nodes[m].kind = 2 then ((x.nodes[m].refs.count w : Nat) : Int) else 0) := fun w => by
   rw [htk, kidsDecl_app, em]
   simp only [kidsDecl, declAt, Int.toNat_natCast, hq, Int.add_zero]
  have hk2 : letsOf x (p.kids.take (j + 1)) = letsOf x (p.kids.take j) ++ (if x.nodes[m].kind = 2 then x.nodes[m].refs else []) := by
   rw [htk, letsOf_app, em]
   simp only [letsOf, Int.toNat_natCast, hq, List.append_nil]
  simp only [bin_lss, Obs, aCase_bool, idx_encI hse, em, rd1_p, Lgz, rd1_box h.box, m1, fadd_pp, Nat.zero_add, fn_at6, idx_encNodes hq, node_at0, node_at6, bin_eql, jn_eq, len_encI, bin_add (a := (j : Int)) (b := 1) (by omega) (by omega), e1]
  rw [if_pos (by rw [Dte]; omega)]
  by_cases hk3 : x.nodes[m].kind = 2
  ·rw [if_pos (by rw [Dte]; exact hk3)]
   have hl0 := letsOf_len hx (p.kids.take j)
   have hl1 : (p.kids.take j).length ≤ 200 := by simp; omega
   have hbd : ∀ w, 0 ≤ cnt x n w + kidsDecl x w (p.kids.take j) ∧ cnt x n w + kidsDecl x w (p.kids.take j) ≤ 2305843009213693952 := fun w => by
    have a1 := cnt_nonneg x n w
    have a2 := cnt_le hx n w
    have a3 := kidsDecl_nonneg x w (p.kids.take j)
    have a4 := kidsDecl_le hx w (p.kids.take j)
    omega
   obtain ⟨σ2, v2, r1, r2, r3, r4⟩ := letsI_loop (D := D) hB nd hqs hbd lt0 (letsOf x (p.kids.take j)) (by omega) (fun l s => R l (.int .i64 (j + 1 : Nat)) s) x.nodes[m].refs.length 0 σ1 v (by omega) (by omega) (by simpa using m2) fr1 (by simpa using o1)
   refine Exists.elim (ih (j + 1) σ2 v2 (by omega) (by omega) ?_ r3 ?_) fun σ' t => ?_
   ·have : (fun w => cnt x n w + kidsDecl x w (p.kids.take (j + 1))) = fun w => cnt x n w + kidsDecl x w (p.kids.take j) + x.nodes[m].refs.count w := by
     funext w; rw [hk1 w, if_pos hk3]; omega
    rw [this]; exact r2
   ·rw [hk2, if_pos hk3]; exact r4
   ·obtain ⟨v', t1, t2⟩ := t
    exact ⟨σ', v', r1.trans t1, t2⟩
  ·rw [if_neg (by rw [Dte]; exact hk3)]
   refine ih (j + 1) σ1 v (by omega) (by omega) ?_ fr1 ?_
   ·have : (fun w => cnt x n w + kidsDecl x w (p.kids.take (j + 1))) = fun w => cnt x n w + kidsDecl x w (p.kids.take j) := by
     funext w; rw [hk1 w, if_neg hk3]; omega
    rw [this]; exact m2
   ·rw [hk2, if_neg hk3, List.append_nil]; exact o1
end
end Go.Asm.UnitF
/- impl's walk over a function, whole. -/
namespace Go.Asm.UnitF
open Go Go.Asm
structure KidsOk (p : LNode) : Prop where
 kids : p.kids.length ≤ 200
 k6 : p.kind = 6 → p.kids.length = 2
 k7 : p.kind = 7 → p.kids.length = 4
 k8 : p.kind = 8 → p.kids.length = 2
 k12 : p.kind = 12 → p.kids.length = 2
 k26 : p.kind = 26 → p.refs ≠ []
theorem kidsOk_of {l : List LNode} {p : LNode} {n : Int} (h : shape3 l p n = true) : KidsOk p := by
 simp only [shape3, Bae, Dte] at h
 have hkl := kinds_len l p n
 have st : ∀ k, p.kind = k → 1 ≤ k → k ≤ 14 → stmt3 p (kinds l p n) = true := fun k e a b => by
  have h1 : isStat p.kind = true := by simp only [isStat, Bae, Dte]; omega
  have hs := h.2
  rw [if_pos h1] at hs
  simp only [Bae] at hs
  exact hs.2
 refine ⟨by omega, fun e => ?_, fun e => ?_, fun e => ?_, fun e => ?_, fun e => ?_⟩
 ·have := st _ e (by omega) (by omega)
  simp only [stmt3, e] at this
  simp at this
  omega
 ·have := st _ e (by omega) (by omega)
  simp only [stmt3, e] at this
  simp at this
  omega
 ·have := st _ e (by omega) (by omega)
  simp only [stmt3, e] at this
  simp at this
  omega
 ·have := st _ e (by omega) (by omega)
  simp only [stmt3, e] at this
  simp at this
  omega
 ·have h1 : isStat p.kind = false := by
   cases hh : isStat p.kind with
   | false => rfl
   | true => simp only [isStat, Bae, Dte] at hh; omega
  have hs := h.2
  rw [if_neg (by rw [h1]; simp)] at hs
  simp only [Bae] at hs
  have hs := hs.2
  intro e2
  unfold expr3 at hs
  rw [if_neg (by omega), if_neg (by omega), if_neg (by omega), if_neg (by omega), if_pos (by omega)] at hs
  simp [bare, e2] at hs
section
variable {D : Ctx} {u : List LFn} {x : LFn} {f U L A S B : Nat}
theorem put_in (H : Door D) (hx : x.Small) (hB : B ∉ [U, L, A, S]) (nd : [U, L, A, S].Nodup) {p : LNode} (hp : p.Small) (n : Nat) (by_ : Int) (hby : by_ = 1 ∨ by_ = -1) {V : Nat → Nat → Prop} {s s' : Int → Int} {σ : Store} (h : In u x f U L A S B V s σ) (hs : ∀ v, 0 ≤ s v ∧ s v ≤ 2305843009213693952) (hs' : ∀ v, s' v = s v + by_ * p.refs.count v) :
  ∃ σ', callD D (.func 36 [] [.pptr (encNode p) 0, .pptr [.hmap S] 0]) [.int .i64 by_] σ = some (.tuple [], σ') ∧ In u x f U L A S B V s' σ' ∧ Fr [U, L, A, S] σ σ' := by
 obtain ⟨σ', r1, r2, r3⟩ := put_ H hp by_ hby s (fun v => by have := hs v; omega) h.lt.2.2.2.1 h.sc
 refine ⟨σ', r1, ?_, r3.mono (by simp)⟩
 have e : s' = fun v => s v + by_ * p.refs.count v := funext hs'
 rw [e]
 exact h.scope hB nd r3 r2
theorem walk_step (H : Door D) (hf : u[f]? = some x) (hx : x.Small) (T : TreeN x.nodes) (hB : B ∉ [U, L, A, S]) (nd : [U, L, A, S].Nodup) {n : Nat} {p : LNode} (hp : x.nodes[n]? = some p) (K : KidsOk p) (IH : ∀ m, m < n → Walks D u x f U L A S B m) : Walks D u x f U L A S B n := by
 intro V σ hi
 have hps := hx.nodes' _ (Lmg hp)
 have hs8 : asplit 8 (.agg (encNode p)) = some (encNode p) := rfl
 have hkl := K.kids
 show ∃ σ', D.call 35 [.int .i64 n, .bool (inl x n), .pptr (encFn x) 0, .pptr [visF x f U L A] 0, .pptr [.hmap S] 0, .hptr B 0] σ = _ ∧ _
 obtain ⟨σ1, v1, v2, v3, v4⟩ := visit_ H hf hp K.k26 hi.W hi.sc nd ⟨hi.lt.1, hi.lt.2.1, hi.lt.2.2.1, hi.lt.2.2.2.1⟩
 have fr1 := v4.mono (by simp : ∀ y ∈ [U, L, A], y ∈ [U, L, A, S])
 have hi1 := (hi.fr hB fr1 v2 v3).congr (addK_zero (ks := p.kids) (l := x.nodes))
 have vc : callD D (visF x f U L A) [.int .i64 n, .hmap S, .bool (inl x n)] σ = some (.tuple [], σ1) := v1
 have fin : ∀ {σ' : Store}, In u x f U L A S B (addK V f x.nodes p.kids n p.kids.length) (cnt x n) σ' → In u x f U L A S B (addS V f x.nodes n) (cnt x n) σ' := fun h => h.congr (addK_all T.ahead hp)
 have sc0 : p.kind ≠ 1 → ∀ j, (isHead p.kind = true → j + 1 ≠ p.kids.length) → ∀ v, scJ x p j v = 0 := fun h1 j h2 v => by
  unfold scJ
  rw [if_neg h1, if_neg (fun h => h2 h.1 h.2)]; rfl
 have sc1 : isHead p.kind = true → p.kind ≠ 1 → ∀ j, j + 1 = p.kids.length → ∀ v, scJ x p j v = p.refs.count v := fun h0 h1 j h2 v => by
  unfold scJ
  rw [if_neg h1, if_pos ⟨h0, h2⟩, Int.zero_add]
 have hcnt : ∀ v, 0 ≤ cnt x n v ∧ cnt x n v ≤ 2305843009213693952 := fun v => by
  have := cnt_nonneg x n v
  have := cnt_le hx n v
  omega
 have hcnt1 : ∀ v, 0 ≤ cnt x n v + 1 * (p.refs.count v : Int) ∧ cnt x n v + 1 * (p.refs.count v : Int) ≤ 2305843009213693952 := fun v => by
  have := cnt_nonneg x n v
  have := cnt_le hx n v
  have := List.count_le_length (a := v) (l := p.refs)
  have := hps.refs
  omega
 rw [H.f35]
 unfold sh_q13_1
 simp only [fadd_pp, Obs, rd1_p, Nat.zero_add, fn_at6, idx_encNodes hp, rdN_Node, hs8, Lgz, vc, node_at0, node_at7, bin_eql, jn_eq, aCase_bool, len_encI]
 by_cases h1 : p.kind = 1
 ·rw [if_pos (by rw [Dte]; exact h1)]
  have lt1 := hi1.lt
  obtain ⟨σ2, v', r1, r2, r3, r4⟩ := block_loop (D := D) hx T hB nd hp h1 hkl IH lt1 (fun l s => (lenV .sl l s).bind fun t_18 => lpFix 1 (lp_q13_1_5 D t_18 l (.pptr [.hmap S] 0) (fun s => some (.tuple [], s))) (.int .i64 0) s) p.kids.length 0 σ1 .nilslice (by omega) (by omega) (by simpa [kidsDecl] using hi1) (Fr.refl _ _) (.inl ⟨rfl, by simp [letsOf]⟩)
  have hl := letsOf_len hx p.kids
  have hlen := r4.len σ2
  obtain ⟨σ3, w1, w2, w3⟩ := unlet_loop (D := D) (u := u) (x := x) (f := f) hB nd hcnt lt1 (letsOf x p.kids) (by omega) v' (fun s => some (.tuple [], s)) (letsOf x p.kids).length 0 σ2 (by omega) (by omega) (by simpa [letsOf_count] using r2) r3 r4
  refine ⟨σ3, ?_, fin w2, fr1.trans w3⟩
  refine r1.trans ?_
  simp only [hlen, Obs]
  exact w1
 rw [if_neg (by rw [Dte]; exact h1)]
 by_cases h6 : p.kind = 6
 ·rw [if_pos (by rw [Dte]; exact h6)]
  have hk2 := K.k6 h6
  have hh : isHead p.kind = false := by simp [isHead, h6]
  have hl : isLoop p.kind = true := by simp [isLoop, h6]
  have e0 : p.kids[0]? = some (p.kids.getD 0 0) := by rw [List.getD_eq_getElem?_getD, Lge (by omega)]; rfl
  have e1 : p.kids[1]? = some (p.kids.getD 1 0) := by rw [List.getD_eq_getElem?_getD, Lge (by omega)]; rfl
  obtain ⟨σ2, a1, a2, a3⟩ := kid_step (D := D) T hB hp IH e0 (fun v => by rw [sc0 h1 0 (by rw [hh]; intro h; cases h) v, Int.add_zero]) hi1 (inl x n) (by rw [hl, decide_eq_false (by omega)]; rfl)
  obtain ⟨σ3, b1, b2, b3⟩ := kid_step (D := D) T hB hp IH e1 (fun v => by rw [sc0 h1 1 (by rw [hh]; intro h; cases h) v, Int.add_zero]) a2 true (by rw [hl, decide_eq_true (by omega)]; rfl)
  have i0 := idx_encI (k := .i64) e0
  have i1 := idx_encI (k := .i64) e1
  simp only [Int.ofNat_eq_natCast, Int.natCast_zero, Int.natCast_one] at i0 i1
  simp only [rd1_box hi1.box, i0, rd1_p, Lgz, Obs, a1, rd1_box a2.box, i1, b1]
  refine ⟨σ3, rfl, fin ?_, fr1.trans (a3.trans b3)⟩
  rw [hk2]; exact b2
 rw [if_neg (by rw [Dte]; exact h6)]
 have for_ : (p.kind = 7 ∨ p.kind = 8) → ∃ σ', ((bin .sub .num (.int .i64 p.kids.length) (.int .i64 1)).bind fun t_95 =>
   (sliceV 1 (encI p.kids) none (some t_95)).bind fun t_97 =>
   (lenV .sl t_97 σ1).bind fun t_98 =>
   lpFix 1 (lp_q13_1_2 D t_98 t_97 (.hptr B 0) (.bool (inl x n)) fun s_99 =>
   (callD D (.func 36 [] [(.pptr (encNode p) 0), (.pptr [.hmap S] 0)]) [(.int .i64 1)] s_99).bind fun t_101 =>
   (rd1 D.G (.hptr B 0) t_101.2).bind fun t_102 =>
   (idx 1 (encI p.kids) t_95).bind fun t_104 =>
   (rd1 D.G t_104 t_101.2).bind fun t_105 =>
   (callD D t_102 [t_105, (.bool true)] t_101.2).bind fun t_106 =>
   (callD D (.func 36 [] [(.pptr (encNode p) 0), (.pptr [.hmap S] 0)]) [(.int .i64 (-1))] t_106.2).bind fun t_107 =>
   some (.tuple [], t_107.2)) (.int .i64 0) σ1) = some (.tuple [], σ') ∧ In u x f U L A S B (addS V f x.nodes n) (cnt x n) σ' ∧ Fr [U, L, A, S] σ σ' := by
  intro h78
  have hpos : 0 < p.kids.length := by
   rcases h78 with h | h
   ·rw [K.k7 h]; omega
   ·rw [K.k8 h]; omega
  have hh : isHead p.kind = true := by rcases h78 with h | h <;> simp [isHead, h]
  have hl : isLoop p.kind = true := by rcases h78 with h | h <;> simp [isLoop, h]
  obtain ⟨M, hM⟩ : ∃ M, p.kids.length = M + 1 := ⟨p.kids.length - 1, by omega⟩
  have eM : (p.kids.length : Int) - 1 = (M : Nat) := by omega
  have hsl : sliceV 1 (encI p.kids) none (some (.int .i64 M)) = some (encI (p.kids.take M)) := by
   have e : M ≤ p.kids.length := by omega
   simp [sliceV, encI, bound, e, List.map_take]
  have hln : lenV .sl (encI (p.kids.take M)) σ1 = some (.int .i64 M) := by
   rw [len_encI]; simp; omega
  have e1 : p.kids[M]? = some (p.kids.getD M 0) := by rw [List.getD_eq_getElem?_getD, Lge (by omega)]; rfl
  rw [bin_sub (a := (p.kids.length : Int)) (b := 1) (by omega) (by omega)]
  simp only [Obs, eM, hsl, hln]
  obtain ⟨σ2, a1, a2, a3⟩ := kids_loop2 (D := D) T hB hp (by omega) IH M (by omega) (fun j hj => ⟨sc0 h1 j (fun _ => by omega), by rw [decide_eq_false (by omega)]; simp⟩) (fun s_99 => (callD D (.func 36 [] [(.pptr (encNode p) 0), (.pptr [.hmap S] 0)]) [(.int .i64 1)] s_99).bind fun t_101 =>
   (rd1 D.G (.hptr B 0) t_101.2).bind fun t_102 =>
   (idx 1 (encI p.kids) (.int .i64 M)).bind fun t_104 =>
   (rd1 D.G t_104 t_101.2).bind fun t_105 =>
   (callD D t_102 [t_105, (.bool true)] t_101.2).bind fun t_106 =>
   (callD D (.func 36 [] [(.pptr (encNode p) 0), (.pptr [.hmap S] 0)]) [(.int .i64 (-1))] t_106.2).bind fun t_107 =>
   some (.tuple [], t_107.2)) M 0 σ1 (by omega) (by omega) hi1
  obtain ⟨σ3, b1, b2, b3⟩ := put_in (s' := fun v => cnt x n v + 1 * (p.refs.count v : Int)) H hx hB nd hps n 1 (.inl rfl) a2 hcnt (fun v => rfl)
  obtain ⟨σ4, c1, c2, c3⟩ := kid_step (D := D) T hB hp IH e1 (fun v => by rw [sc1 hh h1 M (by omega) v, Int.one_mul]) b2 true (by rw [hl, decide_eq_true (by omega)]; rfl)
  obtain ⟨σ5, d1, d2, d3⟩ := put_in (s' := cnt x n) H hx hB nd hps n (-1) (.inr rfl) c2 hcnt1 (fun v => by omega)
  refine ⟨σ5, ?_, fin ?_, fr1.trans (a3.trans (b3.trans (c3.trans d3)))⟩
  ·refine a1.trans ?_
   simp only [b1, Obs, rd1_box b2.box, idx_encI e1, rd1_p, Lgz, c1, d1]
  ·rw [hM]; exact d2
 by_cases h7 : p.kind = 7
 ·have r := for_ (.inl h7)
  simpa [h7] using r
 rw [if_neg (by rw [Dte]; exact h7)]
 by_cases h8 : p.kind = 8
 ·have r := for_ (.inr h8)
  simpa [h8] using r
 rw [if_neg (by rw [Dte]; exact h8)]
 by_cases h12 : p.kind = 12
 ·rw [if_pos (by rw [Dte]; exact h12)]
  have hk2 := K.k12 h12
  have hh : isHead p.kind = true := by simp [isHead, h12]
  have hl : isLoop p.kind = false := by simp [isLoop, h12]
  have e0 : p.kids[0]? = some (p.kids.getD 0 0) := by rw [List.getD_eq_getElem?_getD, Lge (by omega)]; rfl
  have e1 : p.kids[1]? = some (p.kids.getD 1 0) := by rw [List.getD_eq_getElem?_getD, Lge (by omega)]; rfl
  obtain ⟨σ2, a1, a2, a3⟩ := kid_step (D := D) T hB hp IH e0 (fun v => by rw [sc0 h1 0 (fun _ => by omega) v, Int.add_zero]) hi1 (inl x n) (by rw [hl]; rfl)
  obtain ⟨σ3, b1, b2, b3⟩ := put_in (s' := fun v => cnt x n v + 1 * (p.refs.count v : Int)) H hx hB nd hps n 1 (.inl rfl) a2 hcnt (fun v => rfl)
  obtain ⟨σ4, c1, c2, c3⟩ := kid_step (D := D) T hB hp IH e1 (fun v => by rw [sc1 hh h1 1 (by omega) v, Int.one_mul]) b2 (inl x n) (by rw [hl]; rfl)
  obtain ⟨σ5, d1, d2, d3⟩ := put_in (s' := cnt x n) H hx hB nd hps n (-1) (.inr rfl) c2 hcnt1 (fun v => by omega)
  have i0 := idx_encI (k := .i64) e0
  have i1 := idx_encI (k := .i64) e1
  simp only [Int.ofNat_eq_natCast, Int.natCast_zero, Int.natCast_one] at i0 i1
  simp only [rd1_box hi1.box, i0, rd1_p, Lgz, Obs, a1, b1, rd1_box b2.box, i1, c1, d1]
  refine ⟨σ5, rfl, fin ?_, fr1.trans (a3.trans (b3.trans (c3.trans d3)))⟩
  rw [hk2]; exact d2
 rw [if_neg (by rw [Dte]; exact h12)]
 have hh : isHead p.kind = false := by simp [isHead, h7, h8, h12]
 have hl : isLoop p.kind = false := by simp [isLoop, h6, h7, h8]
 obtain ⟨σ2, a1, a2, a3⟩ := kids_loop1 (D := D) T hB hp (by omega) IH p.kids.length (by omega) (fun j hj => ⟨sc0 h1 j (by rw [hh]; intro h; cases h), by rw [hl]; rfl⟩) (fun s => some (.tuple [], s)) p.kids.length 0 σ1 (by omega) (by omega) hi1
 rw [List.take_length] at a1
 exact ⟨σ2, a1, fin a2, fr1.trans a3⟩
theorem walk_ (H : Door D) (hf : u[f]? = some x) (hx : x.Small) (T : TreeN x.nodes) (hB : B ∉ [U, L, A, S]) (nd : [U, L, A, S].Nodup) (K : ∀ p ∈ x.nodes, KidsOk p) : ∀ n, n < x.nodes.length → Walks D u x f U L A S B n := by
 intro n
 induction n using Nat.strongRecOn with
 | _ n ih =>
  intro hn
  exact walk_step H hf hx T hB nd (Lge hn) (K _ (List.getElem_mem hn)) fun m hm => ih m hm (by omega)
end
end Go.Asm.UnitF
/- impl's test of a unit: the codes 1 to 3. -/
namespace Go.Asm.UnitF
open Go Go.Asm
theorem lp_scanQ {F : Cur 2 → Cur 2} (hF : Mono F) (n : Nat) (W : AV) (g : Nat → Option AV) (k : Store → Res) (I : Nat → Store → Prop) (Q : Res → Prop)
  (hend : ∀ R σ, F R (.int .i64 n) W σ = k σ)
  (hstep : ∀ i, i < n → ∀ R σ, I i σ → (∀ v, g i = some v → ∀ σ', Q (some (v, σ'))) → (g i = none → ∀ σ', I (i + 1) σ' → Q (R (.int .i64 ((i : Int) + 1)) W σ')) → Q (F R (.int .i64 i) W σ))
  (hv : ∀ v, scan g n 0 = some v → ∀ σ', Q (some (v, σ'))) (hn : scan g n 0 = none → ∀ σ', I n σ' → Q (k σ')) (σ : Store) (h0 : I 0 σ) : Q (lpFix 2 F (.int .i64 0) W σ) := by
 have key : ∀ c i σ, c = n - i → i ≤ n → I i σ → scan g c i = scan g n 0 → Q (lpFix 2 F (.int .i64 i) W σ) := by
  intro c
  induction c with
  | zero =>
   intro i σ hc hi h e
   obtain rfl : i = n := by omega
   rw [lpFix_eq hF, hend]
   exact hn e.symm σ h
  | succ c ih =>
   intro i σ hc hi h e
   rw [lpFix_eq hF]
   rw [scan] at e
   refine hstep i (by omega) _ σ h (fun v hg σ' => ?_) (fun hg σ' h' => ?_)
   ·rw [hg] at e; exact hv v e.symm σ'
   ·rw [hg] at e
    exact ih (i + 1) σ' (by omega) (by omega) h' e
 exact key n 0 σ (by omega) (by omega) h0 rfl
theorem scan_all {α : Type} {l : List α} {P : α → Bool} {v : AV} : scan (fun j => (l[j]?).bind fun a => if P a = true then none else some v) l.length 0 = if l.all P = true then none else some v := by
 cases h : scan (fun j => (l[j]?).bind fun a => if P a = true then none else some v) l.length 0 with
 | none =>
  have := scan_none h
  rw [if_pos]
  rw [List.all_eq_true]
  intro a ha
  obtain ⟨i, hi⟩ := List.getElem?_of_mem ha
  have hlt := (List.getElem?_eq_some_iff.1 hi).1
  have h2 := this i (by omega) (by omega)
  rw [hi, Obs] at h2
  cases hp : P a with
  | true => rfl
  | false => rw [hp] at h2; cases h2
 | some w =>
  obtain ⟨j, _, _, h3, _⟩ := scan_some h
  cases hj : l[j]? with
  | none => rw [hj] at h3; cases h3
  | some a =>
   rw [hj, Obs] at h3
   cases hp : P a with
   | true => rw [hp] at h3; cases h3
   | false =>
    rw [hp] at h3
    rw [if_neg]
    ·exact h3.symm
    ·rw [List.all_eq_true]
     intro hall
     have := hall a (Lmg hj)
     rw [hp] at this; cases this
theorem foldl_len_le (l : List LFn) : ∀ t : Int, t ≤ l.foldl (fun (a : Int) (x : LFn) => a + (x.nodes.length : Int)) t := by
 induction l with
 | nil => intro t; exact Int.le_refl _
 | cons x l ih => intro t; rw [List.foldl_cons]; have := ih (t + x.nodes.length); omega
section
variable {D : Ctx}
abbrev W0 : AV := encFault 0 0 0
theorem cellsW0 : AV.agg (AV.cells W0) = W0 := rfl
theorem itotal_loop (u : List LFn) (hu : SmallUnit u) (k : Cur 2) (σ : Store) : ∀ (m i : Nat) (t : Int), m = u.length - i → i ≤ u.length → 0 ≤ t → t ≤ 3000 →
  ∃ t' : Int, lpFix 3 (lp_q4_1 D (.int .i64 u.length) (encFns u) k) (.int .i64 t) (.int .i64 i) W0 σ = k (.int .i64 t') W0 σ ∧ (3000 < t' ↔ 3000 < (u.drop i).foldl (fun (a : Int) (x : LFn) => a + (x.nodes.length : Int)) t) := by
 have hul := hu.len
 intro m
 induction m with
 | zero =>
  intro i t hm hi h0 h1
  refine ⟨t, ?_, by rw [List.drop_eq_nil_of_le (by omega)]; rfl⟩
  rw [lpFix_eq (lp_q4_1_mono _ _ _ _)]
  unfold lp_q4_1
  simp only [bin_lss, Obs, aCase_bool]
  rw [if_neg (by rw [Dte]; omega)]
  rfl
 | succ m ih =>
  intro i t hm hi h0 h1
  have hil : i < u.length := by omega
  have hse : u[i]? = some u[i] := Lge hil
  have hx := (hu.part _ (List.getElem_mem hil)).nodes
  have ha : asplit 7 (.agg (encFn u[i])) = some (encFn u[i]) := rfl
  rw [lpFix_eq (lp_q4_1_mono _ _ _ _), List.drop_eq_getElem_cons hil, List.foldl_cons]
  generalize hR : lpFix 3 (lp_q4_1 D (.int .i64 u.length) (encFns u) k) = R at ih ⊢
  have e1 : ((i : Int) + 1) = ((i + 1 : Nat) : Int) := by omega
  unfold lp_q4_1
  simp only [bin_lss, Obs, aCase_bool, idx_encFns hse, rdN_Fn, ha, rd1_p, fn_at6, len_encNodes, bin_add (a := t) (b := u[i].nodes.length) (by omega) (by omega), bin_gtr, bin_add (a := i) (b := 1) (by omega) (by omega), e1, cellsW0]
  rw [if_pos (by rw [Dte]; omega)]
  by_cases h3 : 3000 < t + (u[i].nodes.length : Int)
  ·rw [if_pos (by rw [Dte]; exact h3)]
   refine ⟨_, rfl, ?_⟩
   have := foldl_len_le (u.drop (i + 1)) (t + u[i].nodes.length)
   constructor
   ·intro _; omega
   ·intro _; exact h3
  ·rw [if_neg (by rw [Dte]; exact h3)]
   exact ih (i + 1) _ (by omega) (by omega) (by omega) (by omega)
theorem ivars_scan {x : LFn} (hx : x.Small) (f : Nat) (k : Cur 1) (σ : Store) :
  lpFix 2 (lp_q4_2 D (.int .i64 x.vars.length) (encS x.vars) (.int .i64 f) k) (.int .i64 0) W0 σ = if x.vars.all (fun v => name3 v 1) = true then k W0 σ else some (encFault 2 f 0, σ) := by
 have hv := hx.vars
 have h := lp_scan (lp_q4_2_mono D (.int .i64 x.vars.length) (encS x.vars) (.int .i64 f) k) x.vars.length W0 (fun j => (x.vars[j]?).bind fun a => if name3 a 1 = true then none else some (encFault 2 f 0)) (k W0) ?_ ?_ σ
 ·rw [h, scan_all]
  by_cases hh : x.vars.all (fun v => name3 v 1) = true
  ·rw [if_pos hh, if_pos hh]
  ·rw [if_neg hh, if_neg hh]
 ·intro R σ
  unfold lp_q4_2
  simp only [bin_lss, Obs, aCase_bool]
  rw [if_neg (by simp)]
  rfl
 ·intro i hi R σ
  have hse : x.vars[i]? = some x.vars[i] := Lge hi
  have one_i : ∀ k : Int, one (.int .i64 k) = some (.int .i64 k) := fun _ => rfl
  unfold lp_q4_2
  simp only [bin_lss, Obs, aCase_bool, jn_eq, idx_encS hse, rd1_p, Lgz, lenV_str, bin_gtr, one_i, bin_add (a := i) (b := 1) (by omega) (by omega), hse, cellsW0]
  rw [if_pos (by rw [Dte]; omega)]
  by_cases h1 : (x.vars[i].size : Int) < 1
  ·have e : name3 x.vars[i] 1 = false := by rw [name3, decide_eq_false (show ¬ (1 : Int) ≤ x.vars[i].size by omega)]; rfl
   rw [if_pos (by rw [Dte]; exact h1), if_pos trivial, if_neg (by rw [e]; simp)]
   rfl
  ·rw [if_neg (by rw [Dte]; exact h1)]
   by_cases h2 : (40 : Int) < x.vars[i].size
   ·have e : name3 x.vars[i] 1 = false := by rw [name3, decide_eq_false (show ¬ (x.vars[i].size : Int) ≤ 40 by omega), Bool.and_false]
    rw [if_pos (by rw [Dte]; exact h2), if_neg (by rw [e]; simp)]
    rfl
   ·have e : name3 x.vars[i] 1 = true := by rw [name3, decide_eq_true (show (x.vars[i].size : Int) ≤ 40 by omega), decide_eq_true (show (1 : Int) ≤ x.vars[i].size by omega)]; rfl
    rw [if_neg (by rw [Dte]; exact h2), if_pos e]
theorem ihead_scan (u : List LFn) (hu : SmallUnit u) (k : Cur 1) (σ : Store) :
  lpFix 2 (lp_q4_3 D (.int .i64 u.length) (encFns u) k) (.int .i64 0) W0 σ = match bad2 u with
   | some v => some (v, σ)
   | none => k W0 σ := by
 refine lp_scan (lp_q4_3_mono _ _ _ _) u.length W0 _ (k W0) ?_ ?_ σ
 ·intro R σ
  unfold lp_q4_3
  simp only [bin_lss, Obs, aCase_bool]
  rw [if_neg (by simp)]
  rfl
 ·intro i hi R σ
  have hse : u[i]? = some u[i] := Lge hi
  have hx := hu.part _ (List.getElem_mem hi)
  have hul := hu.len
  have ha : asplit 7 (.agg (encFn u[i])) = some (encFn u[i]) := rfl
  have one_i : ∀ k : Int, one (.int .i64 k) = some (.int .i64 k) := fun _ => rfl
  have h0 : ∀ n : Nat, ¬ (n : Int) < 0 := fun n => by omega
  have key : head3 u[i] i = (!(decide ((u[i].nodes.length : Int) = 0) || decide (200 < (u[i].vars.length : Int)) || decide (200 < (u[i].ups.length : Int)) || decide (u[i].params < 0) || decide ((u[i].vars.length : Int) < u[i].params) || decide (u[i].line < 0) || decide (100000 < u[i].line) || decide (40 < (u[i].name.size : Int)) || (decide ((i : Int) = 0) && (decide (0 < u[i].params) || decide (0 < (u[i].ups.length : Int))))) && u[i].vars.all fun v => name3 v 1) := by
   have e1 : decide ((0 : Int) ≤ (u[i].name.size : Int)) = true := decide_eq_true (by omega)
   have e2 : (!decide ((u[i].name.size : Int) ≤ 40)) = decide (40 < (u[i].name.size : Int)) := by
    by_cases h : (u[i].name.size : Int) ≤ 40
    ·rw [decide_eq_true h, decide_eq_false (by omega)]; rfl
    ·rw [decide_eq_false h, decide_eq_true (by omega)]; rfl
   simp only [head3, name3, e1, Bool.true_and, e2, Bool.not_or, Bool.and_assoc]
  unfold lp_q4_3
  simp only [bin_lss, Obs, aCase_bool, jn_eq, idx_encFns hse, rdN_Fn, ha, rd1_p, fn_at0, fn_at1, fn_at2, fn_at4, fn_at5, fn_at6, len_encNodes, len_encS, len_encUps, lenV_str, bin_eql, bin_gtr, one_i, hse, ivars_scan hx, bin_add (a := i) (b := 1) (by omega) (by omega), cellsW0, key]
  rw [if_pos (by rw [Dte]; omega)]
  by_cases c1 : (u[i].nodes.length : Int) = 0
  ·simp [c1]; rfl
  by_cases c2 : 200 < (u[i].vars.length : Int)
  ·simp [c1, c2]; rfl
  by_cases c3 : 200 < (u[i].ups.length : Int)
  ·simp [c1, c2, c3]; rfl
  by_cases c4 : u[i].params < 0
  ·simp [c1, c2, c3, c4]; rfl
  by_cases c5 : (u[i].vars.length : Int) < u[i].params
  ·simp [c1, c2, c3, c4, c5]; rfl
  by_cases c6 : u[i].line < 0
  ·simp [c1, c2, c3, c4, c5, c6]; rfl
  by_cases c7 : 100000 < u[i].line
  ·simp [c1, c2, c3, c4, c5, c6, c7]; rfl
  by_cases c8 : 40 < (u[i].name.size : Int)
  ·simp [c1, c2, c3, c4, c5, c6, c7, c8]; rfl
  simp only [decide_eq_false c1, decide_eq_false c2, decide_eq_false c3, decide_eq_false c4, decide_eq_false c5, decide_eq_false c6, decide_eq_false c7, decide_eq_false c8, Bool.false_or, Bft, if_false]
  by_cases c9 : (i : Int) = 0
  ·by_cases c10 : 0 < u[i].params
   ·simp [c9, c10]; rfl
   ·by_cases c11 : 0 < (u[i].ups.length : Int)
    ·rw [decide_eq_true c9, decide_eq_false c10, decide_eq_true c11]; rfl
    ·rw [decide_eq_true c9, decide_eq_false c10, decide_eq_false c11]
     simp only [if_true, Bft, if_false, Bool.or_self, Bool.and_false, Bool.not_false, Bool.true_and]
     split <;> rfl
  ·rw [decide_eq_false c9]
   simp only [Bft, if_false, Bool.false_and, Bool.not_false, Bool.true_and]
   split <;> rfl
end
end Go.Asm.UnitF
/- impl's test of a unit: the code 3. -/
namespace Go.Asm.UnitF
open Go Go.Asm
def kindAt (l : List LNode) (c : Int) : Int := ((l[c.toNat]?).map (·.kind)).getD 0
def okKid (n : Int) (c : Int) : Bool := decide (0 ≤ c) && decide (c < n)
theorem kinds_at {l : List LNode} {p : LNode} {n : Int} (h : p.kids.all (okKid n) = true) : kinds l p n = p.kids.map (kindAt l) := by
 unfold kinds
 apply List.map_congr_left
 intro c hc
 rw [List.all_eq_true] at h
 have := h c hc
 simp only [okKid, Bae, Dte] at this
 rw [if_pos this]; rfl
section
variable {D : Ctx}
theorem OwnL.view {σ : Store} {lo : Nat} {v : AV} {l : List Int} (h : OwnL σ lo v l) : (l = [] ∧ view σ depth v = some (.pslice 0 [])) ∨ view σ depth v = some (encI l) := by
 rcases h with ⟨rfl, rfl⟩ | ⟨b, rfl, h2, _, _⟩
 ·exact .inl ⟨rfl, rfl⟩
 ·exact .inr (view_cI (d := 10) h2)
theorem ikids_loop {x : LFn} {p : LNode} (hps : p.Small) (n : Nat) (hn : n < x.nodes.length) (k : Cur 3) : ∀ (c i : Nat) (σ : Store) (v : AV), c = p.kids.length - i → i ≤ p.kids.length → OwnL σ 0 v ((p.kids.take i).map (kindAt x.nodes)) →
  ((p.kids.drop i).all (okKid n) = true → ∃ σ' v', lpFix 4 (lp_q4_4 D (.int .i64 p.kids.length) (encI p.kids) k (encFn x) (.int .i64 n)) v (.bool true) (.int .i64 i) W0 σ = k v' (.bool true) W0 σ' ∧ OwnL σ' 0 v' (p.kids.map (kindAt x.nodes))) ∧
  (¬ (p.kids.drop i).all (okKid n) = true → ∃ σ' v', lpFix 4 (lp_q4_4 D (.int .i64 p.kids.length) (encI p.kids) k (encFn x) (.int .i64 n)) v (.bool true) (.int .i64 i) W0 σ = k v' (.bool false) W0 σ') := by
 have hkl := hps.kids
 intro c
 induction c with
 | zero =>
  intro i σ v hc hi o
  have : i = p.kids.length := by omega
  subst this
  rw [List.take_length] at o
  have e : lpFix 4 (lp_q4_4 D (.int .i64 p.kids.length) (encI p.kids) k (encFn x) (.int .i64 n)) v (.bool true) (.int .i64 p.kids.length) W0 σ = k v (.bool true) W0 σ := by
   rw [lpFix_eq (lp_q4_4_mono _ _ _ _ _ _)]
   unfold lp_q4_4
   simp only [bin_lss, Obs, aCase_bool]
   rw [if_neg (by rw [Dte]; omega)]
   rfl
  refine ⟨fun _ => ⟨σ, v, e, o⟩, fun h => ?_⟩
  rw [List.drop_eq_nil_of_le (by omega)] at h
  exact absurd rfl h
 | succ c ih =>
  intro i σ v hc hi o
  have hil : i < p.kids.length := by omega
  have hse : p.kids[i]? = some p.kids[i] := Lge hil
  have hd : (p.kids.drop i).all (okKid n) = (okKid n p.kids[i] && (p.kids.drop (i + 1)).all (okKid n)) := by rw [List.drop_eq_getElem_cons hil, List.all_cons]
  rw [hd]
  rw [lpFix_eq (lp_q4_4_mono _ _ _ _ _ _)]
  generalize hR : lpFix 4 (lp_q4_4 D (.int .i64 p.kids.length) (encI p.kids) k (encFn x) (.int .i64 n)) = R at ih ⊢
  have e1 : ((i : Int) + 1) = ((i + 1 : Nat) : Int) := by omega
  have hif : ((i : Int) < (p.kids.length : Int)) := by omega
  by_cases c0 : p.kids[i] < 0
  ·have ok : okKid n p.kids[i] = false := by rw [okKid, decide_eq_false (by omega)]; rfl
   rw [ok, Bool.false_and]
   refine ⟨fun h => absurd h Bool.false_ne_true, fun _ => ⟨σ, v, ?_⟩⟩
   unfold lp_q4_4
   simp only [bin_lss, Obs, aCase_bool, jn_eq, idx_encI hse, rd1_p, Lgz, decide_eq_true hif, decide_eq_true c0, if_true]
   rfl
  by_cases c1 : (n : Int) ≤ p.kids[i]
  ·have ok : okKid n p.kids[i] = false := by rw [okKid, decide_eq_false (show ¬ p.kids[i] < (n : Int) by omega), Bool.and_false]
   rw [ok, Bool.false_and]
   refine ⟨fun h => absurd h Bool.false_ne_true, fun _ => ⟨σ, v, ?_⟩⟩
   unfold lp_q4_4
   simp only [bin_lss, bin_geq, Obs, aCase_bool, jn_eq, idx_encI hse, rd1_p, Lgz, decide_eq_true hif, decide_eq_false c0, decide_eq_true c1, if_true, Bft, if_false]
   rfl
  have ok : okKid n p.kids[i] = true := by rw [okKid, decide_eq_true (show 0 ≤ p.kids[i] by omega), decide_eq_true (show p.kids[i] < (n : Int) by omega)]; rfl
  rw [ok, Bool.true_and]
  have hq : x.nodes[p.kids[i].toNat]? = some x.nodes[p.kids[i].toNat] := Lge (by omega)
  have hka : kindAt x.nodes p.kids[i] = x.nodes[p.kids[i].toNat].kind := by rw [kindAt, hq]; rfl
  obtain ⟨r, r1, r2, _, _⟩ := o.push (Nat.zero_le _) (by simp; omega) (kindAt x.nodes p.kids[i])
  have htk : ((p.kids.take i).map (kindAt x.nodes)) ++ [kindAt x.nodes p.kids[i]] = (p.kids.take (i + 1)).map (kindAt x.nodes) := by
   rw [List.take_succ_eq_append_getElem hil, List.map_append]; rfl
  rw [htk] at r2
  rw [hka] at r1
  have one_i : one (.int .i64 x.nodes[p.kids[i].toNat].kind) = some (.int .i64 x.nodes[p.kids[i].toNat].kind) := rfl
  have step : lp_q4_4 D (.int .i64 p.kids.length) (encI p.kids) k (encFn x) (.int .i64 n) R v (.bool true) (.int .i64 i) W0 σ = R r.1 (.bool true) (.int .i64 (i + 1 : Nat)) W0 r.2 := by
   unfold lp_q4_4
   simp only [bin_lss, bin_geq, Obs, aCase_bool, jn_eq, idx_encI hse, rd1_p, Lgz, decide_eq_true hif, decide_eq_false c0, decide_eq_false c1, if_true, Bft, if_false, fn_at6, idx_nodes (show 0 ≤ p.kids[i] by omega) hq, fadd_pp, Nat.zero_add, node_at0, one_i, r1, bin_add (a := (i : Int)) (b := 1) (by omega) (by omega), e1, cellsW0]
  rw [step]
  exact ih (i + 1) r.2 r.1 (by omega) (by omega) r2
theorem ishape_scan1 (H : Door D) (u : List LFn) (hu : SmallUnit u) {f : Nat} {x : LFn} (hf : u[f]? = some x) (k : Cur 1) (Q : Res → Prop) (σ : Store)
  (hv : ∀ v, bad3in x f = some v → ∀ σ', Q (some (v, σ'))) (hn : bad3in x f = none → ∀ σ', Q (k W0 σ')) :
  Q (lpFix 2 (lp_q4_5 D (.int .i64 x.nodes.length) (encNodes x.nodes) (.int .i64 f) (encFn x) k) (.int .i64 0) W0 σ) := by
 have hx := hu.part _ (Lmg hf)
 have hnl := hx.nodes
 refine lp_scanQ (lp_q4_5_mono _ _ _ _ _ _) x.nodes.length W0 _ (k W0) (fun _ _ => True) Q ?_ ?_ hv (fun h σ' _ => hn h σ') σ trivial
 ·intro R σ
  unfold lp_q4_5
  simp only [bin_lss, Obs, aCase_bool]
  rw [if_neg (by simp)]
  rfl
 ·intro i hi R σ _ qv qn
  have hse : x.nodes[i]? = some x.nodes[i] := Lge hi
  have hps := hx.nodes' _ (Lmg hse)
  have ha : asplit 8 (.agg (encNode x.nodes[i])) = some (encNode x.nodes[i]) := rfl
  have one_i : ∀ k : Int, one (.int .i64 k) = some (.int .i64 k) := fun _ => rfl
  have hsh := shape3_eq x.nodes x.nodes[i] i (by have := hps.refs; omega)
  rw [hse, Obs] at qv qn
  unfold lp_q4_5
  simp only [bin_lss, Obs, aCase_bool, idx_encNodes hse, rdN_Node, ha, rd1_p, node_at7, len_encI, jn_eq, un_not]
  rw [if_pos (by rw [Dte]; omega)]
  have key := ikids_loop (D := D) (x := x) hps i hi (fun k_462 ok_463 t_464 s_465 => (un .not ok_463).bind fun t_467 =>
   aCase t_467
   ((fun t_468 s_469 => aCase t_468
    ((one (.int .i64 f)).bind fun o_471 => (one (.int .i64 i)).bind fun o_472 => some ((.agg [(.int .i64 3), o_471, o_472]), s_469))
    ((bin .add .num (.int .i64 i) (.int .i64 1)).bind fun t_473 => R t_473 (.agg (AV.cells t_464)) s_469)) (.bool true) s_465)
   ((rdN 8 (.pptr (encNode x.nodes[i]) 0) s_465).bind fun t_474 =>
    (callV D 16 [(.agg t_474), k_462] s_465).bind fun t_475 =>
    (un .not t_475).bind fun t_476 =>
    (fun t_468 s_469 => aCase t_468
    ((one (.int .i64 f)).bind fun o_471 => (one (.int .i64 i)).bind fun o_472 => some ((.agg [(.int .i64 3), o_471, o_472]), s_469))
    ((bin .add .num (.int .i64 i) (.int .i64 1)).bind fun t_473 => R t_473 (.agg (AV.cells t_464)) s_469)) t_476 s_465)) x.nodes[i].kids.length 0 σ .nilslice (by omega) (by omega) (.inl ⟨rfl, by simp⟩)
  simp only [List.drop_zero] at key
  by_cases hall : x.nodes[i].kids.all (okKid i) = true
  ·obtain ⟨σ', v', r1, r2⟩ := key.1 hall
   refine Eq.mp (congrArg Q r1.symm) ?_
   have hki : kidsIn x.nodes[i] i = true := hall
   have hcv : callV D 16 [.agg (encNode x.nodes[i]), v'] σ' = some (.bool (shapeOk x.nodes[i] (kinds x.nodes x.nodes[i] i))) := by
    rw [kinds_at hall]
    rcases r2.view with ⟨e1, e2⟩ | e2
    ·rw [e1]
     exact callV_ret (us := [.agg (encNode x.nodes[i]), .pslice 0 []]) (by simp only [List.mapM_cons, List.mapM_nil, e2]; simp [depth]) ⟨_, nodeShape0 H x.nodes[i] Store.empty⟩ rfl
    ·exact callV_ret (us := [.agg (encNode x.nodes[i]), encI (x.nodes[i].kids.map (kindAt x.nodes))]) (by simp only [List.mapM_cons, List.mapM_nil, e2]; simp [depth]) ⟨_, nodeShape H x.nodes[i] _ (by simp; exact hps.kids) Store.empty⟩ rfl
   rw [hki, Bool.true_and] at hsh
   simp only [un_not, Obs, aCase_bool, Bool.not_true, Bft, if_false, rdN_Node, hcv, one_i, bin_add (a := (i : Int)) (b := 1) (by omega) (by omega), cellsW0]
   cases hb : shapeOk x.nodes[i] (kinds x.nodes x.nodes[i] i) with
   | true =>
    rw [hb] at hsh
    simp only [Bool.not_true, Bft, if_false]
    exact qn (if_pos hsh) σ' trivial
   | false =>
    rw [hb] at hsh
    simp only [Bool.not_false, if_true]
    exact qv _ (if_neg (by rw [hsh]; simp)) σ'
  ·obtain ⟨σ', v', r1⟩ := key.2 hall
   refine Eq.mp (congrArg Q r1.symm) ?_
   have hki : kidsIn x.nodes[i] i = false := by
    cases h : kidsIn x.nodes[i] i with
    | false => rfl
    | true => exact absurd h hall
   rw [hki, Bool.false_and] at hsh
   simp only [un_not, Obs, aCase_bool, Bool.not_false, if_true, one_i]
   exact qv _ (if_neg (by rw [hsh]; simp)) σ'
theorem ishape_scan (H : Door D) (u : List LFn) (hu : SmallUnit u) (k : Cur 1) (Q : Res → Prop) (σ : Store)
  (hv : ∀ v, bad3 u = some v → ∀ σ', Q (some (v, σ'))) (hn : bad3 u = none → ∀ σ', Q (k W0 σ')) :
  Q (lpFix 2 (lp_q4_6 D (.int .i64 u.length) (encFns u) k) (.int .i64 0) W0 σ) := by
 have hul := hu.len
 refine lp_scanQ (lp_q4_6_mono _ _ _ _) u.length W0 _ (k W0) (fun _ _ => True) Q ?_ ?_ hv (fun h σ' _ => hn h σ') σ trivial
 ·intro R σ
  unfold lp_q4_6
  simp only [bin_lss, Obs, aCase_bool]
  rw [if_neg (by simp)]
  rfl
 ·intro i hi R σ _ qv qn
  have hse : u[i]? = some u[i] := Lge hi
  have ha : asplit 7 (.agg (encFn u[i])) = some (encFn u[i]) := rfl
  rw [hse, Obs] at qv qn
  unfold lp_q4_6
  simp only [bin_lss, Obs, aCase_bool, idx_encFns hse, rdN_Fn, ha, rd1_p, fn_at6, len_encNodes, jn_eq, bin_add (a := (i : Int)) (b := 1) (by omega) (by omega)]
  rw [if_pos (by rw [Dte]; omega)]
  exact ishape_scan1 H u hu hse _ Q σ qv fun h σ' => qn h σ' trivial
end
end Go.Asm.UnitF
/- impl's test of a unit: the code 4. -/
namespace Go.Asm.UnitF
open Go Go.Asm
def tstep (T : List Int) (c : Int) : List Int := T.set c.toNat (T.getD c.toNat 0 + 1)
def BdL (T : List Int) (M : Nat) : Prop := ∀ i, 0 ≤ T.getD i 0 ∧ T.getD i 0 ≤ M
theorem getD_set' (l : List Int) (i j : Nat) (v : Int) (hi : i < l.length) : (l.set i v).getD j 0 = if i = j then v else l.getD j 0 := by
 simp only [List.getD_eq_getElem?_getD, List.getElem?_set]
 by_cases h : i = j
 ·subst h; simp [hi]
 ·simp [h]
theorem tstep_len (T : List Int) (c : Int) : (tstep T c).length = T.length := by simp [tstep]
theorem tfold_len (ks : List Int) : ∀ T, (ks.foldl tstep T).length = T.length := by
 induction ks with
 | nil => intro T; rfl
 | cons k ks ih => intro T; rw [List.foldl_cons, ih, tstep_len]
theorem tstep_bd {T : List Int} {M : Nat} {c : Int} (h : BdL T M) (hc : c.toNat < T.length) : BdL (tstep T c) (M + 1) := by
 intro i
 rw [tstep, getD_set' _ _ _ _ hc]
 have h1 := h i
 have h2 := h c.toNat
 split <;> omega
theorem tfold_bd : ∀ (ks : List Int) {T : List Int} {M : Nat}, BdL T M → (∀ c ∈ ks, c.toNat < T.length) → BdL (ks.foldl tstep T) (M + ks.length)
 | [], T, M, h, _ => h
 | k :: ks, T, M, h, hk => by
  have := tfold_bd ks (tstep_bd h (hk k (by simp))) (fun c hc => by rw [tstep_len]; exact hk c (by simp [hc]))
  rw [List.foldl_cons, List.length_cons]
  rwa [show M + (ks.length + 1) = M + 1 + ks.length by omega]
/-- How often each is a kid, of the nodes on. -/
def timesN : List LNode → List Int → List Int
 | [], T => T
 | p :: ps, T => timesN ps (p.kids.foldl tstep T)
theorem timesN_pairs : ∀ (l : List LNode) (i : Nat) (T : List Int), timesN l T = ((pairs i l).map (·.2)).foldl tstep T
 | [], i, T => rfl
 | p :: ps, i, T => by
  rw [timesN, timesN_pairs ps (i + 1), pairs, List.map_append, List.foldl_append, List.map_map]
  congr 2
  induction p.kids with
  | nil => rfl
  | cons k ks ih => rw [List.map_cons, ← ih]; rfl
theorem tfold_at (c : Nat) : ∀ (ks : List Int) (T : List Int), c < T.length → (∀ k ∈ ks, 0 ≤ k ∧ k < T.length) → (ks.foldl tstep T).getD c 0 = T.getD c 0 + ((ks.filter fun k => decide (k = (c : Int))).length : Int)
 | [], T, _, _ => by simp
 | k :: ks, T, hc, hk => by
  have h0 := hk k (by simp)
  rw [List.foldl_cons, tfold_at c ks _ (by rw [tstep_len]; exact hc) (fun q hq => by rw [tstep_len]; exact hk q (by simp [hq])), tstep, getD_set' _ _ _ _ (by omega), List.filter_cons]
  by_cases h : k = c
  ·rw [if_pos (by omega), if_pos (by simpa using h), List.length_cons]
   have : k.toNat = c := by omega
   rw [this]; omega
  ·rw [if_neg (by omega), if_neg (by simpa using h)]
theorem times_occ {l : List LNode} (ha : Ahead l) {c : Nat} (hc : c < l.length) : (timesN l (List.replicate l.length 0)).getD c 0 = occ l c := by
 rw [timesN_pairs l 0, tfold_at c _ _ (by simpa using hc)]
 ·have e : (List.replicate l.length (0 : Int)).getD c 0 = 0 := by simp [hc]
  rw [e, occ, Int.zero_add, List.filter_map, List.length_map]
  rfl
 ·intro k hk
  obtain ⟨⟨n, k'⟩, hq, rfl⟩ := List.mem_map.1 hk
  obtain ⟨j, p, h1, _, h3⟩ := mem_pairs.1 hq
  have := ha j p h1 k' h3
  have hj := (List.getElem?_eq_some_iff.1 h1).1
  simp only [List.length_replicate]
  omega
section
variable {D : Ctx}
theorem itimes_kids (ks : List Int) (hk : ks.length ≤ 1048576) (b N : Nat) (hN : N ≤ 1048576) (hr : ∀ c ∈ ks, 0 ≤ c ∧ c < (N : Int)) (t : Store) (k : Cur 1) : ∀ (c j : Nat) (σ : Store) (T : List Int) (M : Nat), c = ks.length - j → j ≤ ks.length → σ.blk b = some (.cells (cI T)) → T.length = N → BdL T M → M + c ≤ 4611686018427387904 →
  ∃ σ', lpFix 2 (lp_q4_7 D (.int .i64 ks.length) (encI ks) (.hslice 1 b 0 N, t) k) (.int .i64 j) W0 σ = k W0 σ' ∧ σ'.blk b = some (.cells (cI ((ks.drop j).foldl tstep T))) := by
 intro c
 induction c with
 | zero =>
  intro j σ T M hc hj hb hT hM hbd
  have : j = ks.length := by omega
  subst this
  refine ⟨σ, ?_, by rw [List.drop_eq_nil_of_le (by omega)]; exact hb⟩
  rw [lpFix_eq (lp_q4_7_mono _ _ _ _ _)]
  unfold lp_q4_7
  simp only [bin_lss, Obs, aCase_bool]
  rw [if_neg (by rw [Dte]; omega)]
  rfl
 | succ c ih =>
  intro j σ T M hc hj hb hT hM hbd
  have hjl : j < ks.length := by omega
  have hse : ks[j]? = some ks[j] := Lge hjl
  have hr0 := hr ks[j] (List.getElem_mem hjl)
  have hM0 := hM ks[j].toNat
  rw [lpFix_eq (lp_q4_7_mono _ _ _ _ _), List.drop_eq_getElem_cons hjl, List.foldl_cons]
  generalize hR : lpFix 2 (lp_q4_7 D (.int .i64 ks.length) (encI ks) (.hslice 1 b 0 N, t) k) = R at ih ⊢
  have e1 : ((j : Int) + 1) = ((j + 1 : Nat) : Int) := by omega
  have one_i : ∀ k : Int, one (.int .i64 k) = some (.int .i64 k) := fun _ => rfl
  have hT' : ks[j].toNat < T.length := by omega
  unfold lp_q4_7
  simp only [bin_lss, Obs, aCase_bool, idx_encI hse, rd1_p, Lgz, idx_h1 hr0.1 hr0.2, rd1_cI hb hT', bin_add (a := T.getD ks[j].toNat 0) (b := 1) (by omega) (by omega), one_i, wr_cI hb hT', bin_add (a := (j : Int)) (b := 1) (by omega) (by omega), e1, cellsW0]
  rw [if_pos (by rw [Dte]; omega)]
  exact ih (j + 1) _ (tstep T ks[j]) (M + 1) (by omega) (by omega) upd_blk (by rw [tstep_len]; exact hT) (tstep_bd hM hT') (by omega)
theorem itimes_nodes {x : LFn} (hx : x.Small) (ha : Ahead x.nodes) (b : Nat) (t : Store) (k : Cur 1) : ∀ (c j : Nat) (σ : Store) (T : List Int), c = x.nodes.length - j → j ≤ x.nodes.length → σ.blk b = some (.cells (cI T)) → T.length = x.nodes.length → BdL T (j * 1048576) →
  ∃ σ', lpFix 2 (lp_q4_8 D (.int .i64 x.nodes.length) (encNodes x.nodes) (.hslice 1 b 0 x.nodes.length, t) k) (.int .i64 j) W0 σ = k W0 σ' ∧ σ'.blk b = some (.cells (cI (timesN (x.nodes.drop j) T))) := by
 have hnl := hx.nodes
 intro c
 induction c with
 | zero =>
  intro j σ T hc hj hb hT hM
  have : j = x.nodes.length := by omega
  subst this
  refine ⟨σ, ?_, by rw [List.drop_eq_nil_of_le (by omega)]; exact hb⟩
  rw [lpFix_eq (lp_q4_8_mono _ _ _ _ _)]
  unfold lp_q4_8
  simp only [bin_lss, Obs, aCase_bool]
  rw [if_neg (by rw [Dte]; omega)]
  rfl
 | succ c ih =>
  intro j σ T hc hj hb hT hM
  have hjl : j < x.nodes.length := by omega
  have hse : x.nodes[j]? = some x.nodes[j] := Lge hjl
  have hps := hx.nodes' _ (Lmg hse)
  have hkl := hps.kids
  have has : asplit 8 (.agg (encNode x.nodes[j])) = some (encNode x.nodes[j]) := rfl
  have hr : ∀ c ∈ x.nodes[j].kids, 0 ≤ c ∧ c < (x.nodes.length : Int) := fun c hc => by
   have := ha j _ hse c hc
   omega
  rw [lpFix_eq (lp_q4_8_mono _ _ _ _ _), List.drop_eq_getElem_cons hjl, timesN]
  generalize hR : lpFix 2 (lp_q4_8 D (.int .i64 x.nodes.length) (encNodes x.nodes) (.hslice 1 b 0 x.nodes.length, t) k) = R at ih ⊢
  have e1 : ((j : Int) + 1) = ((j + 1 : Nat) : Int) := by omega
  unfold lp_q4_8
  simp only [bin_lss, Obs, aCase_bool, idx_encNodes hse, rdN_Node, has, rd1_p, node_at7, len_encI, jn_eq, bin_add (a := (j : Int)) (b := 1) (by omega) (by omega), e1, cellsW0]
  rw [if_pos (by rw [Dte]; omega)]
  obtain ⟨σ1, r1, r2⟩ := itimes_kids (D := D) x.nodes[j].kids hkl b x.nodes.length hnl hr t (fun t_420 s_421 => R (.int .i64 (j + 1 : Nat)) (.agg (AV.cells t_420)) s_421) x.nodes[j].kids.length 0 σ T (j * 1048576) (by omega) (by omega) hb hT hM (by omega)
  rw [List.drop_zero] at r2
  obtain ⟨σ2, q1, q2⟩ := ih (j + 1) σ1 _ (by omega) (by omega) r2 (by rw [tfold_len]; exact hT) (fun i => by
   have := tfold_bd x.nodes[j].kids hM (fun c hc => by have := hr c hc; omega) i
   omega)
  exact ⟨σ2, r1.trans q1, q2⟩
theorem itree_scan1 {x : LFn} (hx : x.Small) (h0 : 0 < x.nodes.length) (ha : Ahead x.nodes) (f b : Nat) (t : Store) (k : Cur 1) (Q : Res → Prop) (σ : Store)
  (hb : σ.blk b = some (.cells (cI (timesN x.nodes (List.replicate x.nodes.length 0))))) (hv : ∀ v, bad4in x f = some v → ∀ σ', Q (some (v, σ'))) (hn : bad4in x f = none → ∀ σ', Q (k W0 σ')) :
  Q (lpFix 2 (lp_q4_9 D (.int .i64 x.nodes.length) (.int .i64 ((x.nodes.length : Int) - 1)) (.int .i64 f) (encFn x) (.hslice 1 b 0 x.nodes.length, t) k) (.int .i64 0) W0 σ) := by
 have hnl := hx.nodes
 have hTl : (timesN x.nodes (List.replicate x.nodes.length 0)).length = x.nodes.length := by rw [timesN_pairs x.nodes 0, tfold_len]; simp
 refine lp_scanQ (lp_q4_9_mono _ _ _ _ _ _ _) x.nodes.length W0 _ (k W0) (fun _ σ => σ.blk b = some (.cells (cI (timesN x.nodes (List.replicate x.nodes.length 0))))) Q ?_ ?_ hv (fun h σ' _ => hn h σ') σ hb
 ·intro R σ
  unfold lp_q4_9
  simp only [bin_lss, Obs, aCase_bool]
  rw [if_neg (by simp)]
  rfl
 ·intro i hi R σ hb qv qn
  have hse : x.nodes[i]? = some x.nodes[i] := Lge hi
  have one_i : ∀ k : Int, one (.int .i64 k) = some (.int .i64 k) := fun _ => rfl
  have hT := times_occ ha hi
  rw [hse, Obs] at qv qn
  unfold lp_q4_9
  simp only [bin_lss, Obs, aCase_bool, jn_eq, bin_eql, bin_neq, idx_h1 (x := b) (n := x.nodes.length) (i := (i : Int)) (by omega) (by omega), Int.toNat_natCast, rd1_cI hb (by rw [hTl]; exact hi), hT, rd1_p, fn_at6, idx_encNodes hse, fadd_pp, Nat.zero_add, node_at0, one_i, bin_add (a := (i : Int)) (b := 1) (by omega) (by omega), cellsW0]
  rw [if_pos (by rw [Dte]; omega)]
  by_cases hl : (i : Int) < (x.nodes.length : Int) - 1
  ·have ho := occ_iff ha (c := i) (by omega)
   rw [if_pos (by rw [Dte]; exact hl)]
   by_cases h1 : occ x.nodes i = 1
   ·have hb4 : bad4n x i x.nodes[i] = false := by
     rw [bad4n, if_neg (by omega), decide_eq_false]
     have := ho.2 h1; omega
    have e2 : decide ((occ x.nodes i : Int) ≠ 1) = false := decide_eq_false (by omega)
    have e3 : decide ((i : Int) = (x.nodes.length : Int) - 1) = false := decide_eq_false (by omega)
    simp only [e2, e3, Bft, if_false]
    exact qn (if_neg (by rw [hb4]; simp)) σ hb
   ·have hb4 : bad4n x i x.nodes[i] = true := by
     rw [bad4n, if_neg (by omega), Dte]
     have : ¬ 0 ≤ (growP x.nodes).getD i 0 := fun h => h1 (ho.1 h)
     omega
    have e2 : decide ((occ x.nodes i : Int) ≠ 1) = true := decide_eq_true (by omega)
    simp only [e2, if_true]
    exact qv _ (if_pos hb4) σ
  ·rw [if_neg (by rw [Dte]; exact hl)]
   have hil : i = x.nodes.length - 1 := by omega
   have hg := growP_last ha h0
   rw [← hil] at hg
   have e3 : decide ((i : Int) = (x.nodes.length : Int) - 1) = true := decide_eq_true (by omega)
   simp only [Bft, if_false, e3, if_true]
   have hb4 : bad4n x i x.nodes[i] = !decide (x.nodes[i].kind = 1) := by
    rw [bad4n, if_pos (by omega), hg]; rfl
   by_cases h1 : x.nodes[i].kind = 1
   ·rw [if_neg (by rw [Dte]; exact fun h => h h1)]
    exact qn (if_neg (by rw [hb4, decide_eq_true h1]; simp)) σ hb
   ·rw [if_pos (by rw [Dte]; exact h1)]
    exact qv _ (if_pos (by rw [hb4, decide_eq_false h1]; rfl)) σ
theorem itree_scan (u : List LFn) (hu : SmallUnit u) (hg : Good u) (k : Cur 1) (Q : Res → Prop) (σ : Store)
  (hv : ∀ v, bad4 u = some v → ∀ σ', Q (some (v, σ'))) (hn : bad4 u = none → ∀ σ', Q (k W0 σ')) :
  Q (lpFix 2 (lp_q4_10 D (.int .i64 u.length) (encFns u) k) (.int .i64 0) W0 σ) := by
 have hul := hu.len
 refine lp_scanQ (lp_q4_10_mono _ _ _ _) u.length W0 _ (k W0) (fun _ _ => True) Q ?_ ?_ hv (fun h σ' _ => hn h σ') σ trivial
 ·intro R σ
  unfold lp_q4_10
  simp only [bin_lss, Obs, aCase_bool]
  rw [if_neg (by simp)]
  rfl
 ·intro i hi R σ _ qv qn
  have hse : u[i]? = some u[i] := Lge hi
  have hx := hu.part _ (Lmg hse)
  have hnl := hx.nodes
  obtain ⟨g1, g2⟩ := hg _ (Lmg hse)
  have ha : asplit 7 (.agg (encFn u[i])) = some (encFn u[i]) := rfl
  rw [hse, Obs] at qv qn
  unfold lp_q4_10
  simp only [bin_lss, Obs, aCase_bool, idx_encFns hse, rdN_Fn, ha, rd1_p, fn_at6, len_encNodes, jn_eq, mk_cI (show u[i].nodes.length ≤ 4294967296 by omega), bin_add (a := (i : Int)) (b := 1) (by omega) (by omega), bin_sub (a := (u[i].nodes.length : Int)) (b := 1) (by omega) (by omega)]
  rw [if_pos (by rw [Dte]; omega)]
  obtain ⟨σ1, r1, r2⟩ := itimes_nodes (D := D) hx g2 σ.next (σ.add (.cells (cI (List.replicate u[i].nodes.length 0)))) (fun t_371 s_372 => lpFix 2 (lp_q4_9 D (.int .i64 u[i].nodes.length) (.int .i64 ((u[i].nodes.length : Int) - 1)) (.int .i64 i) (encFn u[i]) (.hslice 1 σ.next 0 u[i].nodes.length, (σ.add (.cells (cI (List.replicate u[i].nodes.length 0))))) fun t_379 s_380 => R (.int .i64 ((i : Int) + 1)) (.agg (AV.cells t_379)) s_380) (.int .i64 0) (.agg (AV.cells t_371)) s_372) u[i].nodes.length 0 (σ.add (.cells (cI (List.replicate u[i].nodes.length 0)))) (List.replicate u[i].nodes.length 0) (by omega) (by omega) add_blk (by simp) (fun j => by
   rw [List.getD_eq_getElem?_getD, List.getElem?_replicate]
   split <;> simp)
  refine Eq.mp (congrArg Q r1.symm) ?_
  rw [List.drop_zero] at r2
  exact itree_scan1 (D := D) hx g1 g2 i σ.next _ _ Q σ1 r2 qv fun h σ' => qn h σ' trivial
end
end Go.Asm.UnitF
