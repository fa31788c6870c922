import Derived.Test.YtebmeojmlakkoaaDoorDoorP16
set_option linter.all false
namespace Go.Asm.DoorF
open Go Go.Asm
structure ZInv (Z : List Int) (n : Nat) : Prop where
  len : Z.length = n
  low : ∀ j, j < n → 0 ≤ Z.getD j 0
  top : ∀ j, j < n → Z.getD j 0 ≤ j + 1
theorem ZInv.zero (n : Nat) : ZInv (List.replicate n 0) n := by
  have : ∀ j, (List.replicate n (0 : Int)).getD j 0 = 0 := fun j => by simp [List.getD_eq_getElem?_getD, List.getElem?_replicate]; split <;> rfl
  exact ⟨by simp, fun j _ => by rw [this]; omega, fun j h => by rw [this]; omega⟩
theorem ZInv.run {Z : List Int} {n i : Nat} (I : ZInv Z n) (hi : i < n) : ∀ (r : List Int) (a : Int), (∀ c ∈ r, 0 ≤ c ∧ c < i) → 0 ≤ a → a ≤ i → ∀ b, runZ Z r a = some b → 0 ≤ b ∧ b ≤ i
  | [], a, _, h0, h1, b, hb => by simp [runZ] at hb; omega
  | c :: r, a, hr, h0, h1, b, hb => by
    obtain ⟨c0, c1⟩ := hr c (by simp)
    unfold runZ at hb
    split at hb
    · rename_i h
      have h2 := I.top c.toNat (by omega)
      have h3 := I.low c.toNat (by omega)
      exact ZInv.run I hi r _ (fun c hc => hr c (by simp [hc])) (by omega) (by omega) b hb
    · cases hb
theorem ZInv.step {Z : List Int} {n i : Nat} (I : ZInv Z n) (hi : i < n) {a : Int} (h0 : 0 ≤ a) (h1 : a ≤ i) : ZInv (Z.set i (i - a + 1)) n := by
  have hc : i < Z.length := by rw [I.len]; omega
  refine ⟨by simp [I.len], fun j hj => ?_, fun j hj => ?_⟩
  · rw [getD_set _ _ _ _ hc]
    split
    · omega
    · exact I.low j hj
  · rw [getD_set _ _ _ _ hc]
    split
    · omega
    · exact I.top j hj
theorem take_rev {ks : List Int} {j : Nat} (hj : j < ks.length) : (ks.take (j + 1)).reverse = ks[j] :: (ks.take j).reverse := by
  rw [List.take_add_one, List.getElem?_eq_getElem hj]
  simp
section
variable {D : Ctx} {l : List LPart}
/-- The run over a part's kids, the last first (specification). -/
theorem sizes_in (p : LPart) (x n i : Nat) (hi : i < n) (hn : n ≤ 3000) (hkl : p.kids.length ≤ 1048576) (hk : ∀ c ∈ p.kids, 0 ≤ c ∧ c < i) (τ : Store) (k : Cur 2) (σ : Store) (Z : List Int) (I : ZInv Z n) (hb : σ.blk x = some (.cells (cI Z))) :
    ∀ (j : Nat), j ≤ p.kids.length → ∀ a : Int, 0 ≤ a → a ≤ i →
      (∀ b, runZ Z (p.kids.take j).reverse a = some b → lpFix 3 (lp_spec_l6sizes_1 D (encPart p) k (.hslice 1 x 0 n, τ)) (.int .i64 a) (.bool true) (.int .i64 ((j : Int) - 1)) σ = k (.int .i64 b) (.bool true) σ) ∧
      (runZ Z (p.kids.take j).reverse a = none → ∃ b : Int, lpFix 3 (lp_spec_l6sizes_1 D (encPart p) k (.hslice 1 x 0 n, τ)) (.int .i64 a) (.bool true) (.int .i64 ((j : Int) - 1)) σ = k (.int .i64 b) (.bool false) σ) := by
  intro j
  induction j with
  | zero =>
    intro _ a h0 h1
    refine ⟨fun b hr => ?_, fun hr => by simp [runZ] at hr⟩
    simp [runZ] at hr
    subst hr
    rw [lpFix_eq (lp_spec_l6sizes_1_mono _ _ _ _)]
    unfold lp_spec_l6sizes_1 jn
    simp only [bin_geq, Option.bind_some, aCase_bool]
    rw [if_neg (by simp)]
  | succ j ih =>
    intro hj a h0 h1
    have hjl : j < p.kids.length := by omega
    have hse : p.kids[j]? = some p.kids[j] := List.getElem?_eq_getElem hjl
    obtain ⟨c0, c1⟩ := hk _ (List.getElem_mem hjl)
    have hlc : p.kids[j].toNat < Z.length := by rw [I.len]; omega
    have z0 := I.low p.kids[j].toNat (by omega)
    have z1 := I.top p.kids[j].toNat (by omega)
    rw [take_rev hjl, show ((j + 1 : Nat) : Int) - 1 = j by omega]
    unfold runZ
    rw [lpFix_eq (lp_spec_l6sizes_1_mono _ _ _ _)]
    have ih' := ih (by omega) (a - Z.getD p.kids[j].toNat 0)
    generalize lpFix 3 (lp_spec_l6sizes_1 D (encPart p) k (.hslice 1 x 0 n, τ)) = R at ih' ⊢
    by_cases e1 : p.kids[j] = a - 1
    · by_cases e2 : Z.getD p.kids[j].toNat 0 = 0
      · rw [if_neg (fun h => h.2 e2)]
        refine ⟨fun b hr => (by cases hr), fun _ => ⟨a, ?_⟩⟩
        unfold lp_spec_l6sizes_1 jn
        simp only [bin_geq, bin_neq, bin_eql, Option.bind_some, aCase_bool, rd1_p, part_at9, idx_encI hse, List.getElem?_cons_zero, bin_sub (a := a) (b := 1) (by omega) (by omega), idx_sl c0 (show p.kids[j] < n by omega), rd1_cI hb hlc]
        rw [if_pos (by simp), if_neg (by simp [e1]), if_pos (by simp only [decide_eq_true_eq]; exact e2)]
      · rw [if_pos ⟨e1, e2⟩]
        obtain ⟨i1, i2⟩ := ih' (by omega) (by omega)
        have step : lp_spec_l6sizes_1 D (encPart p) k (.hslice 1 x 0 n, τ) R (.int .i64 a) (.bool true) (.int .i64 j) σ = R (.int .i64 (a - Z.getD p.kids[j].toNat 0)) (.bool true) (.int .i64 ((j : Int) - 1)) σ := by
          unfold lp_spec_l6sizes_1 jn
          simp only [bin_geq, bin_neq, bin_eql, Option.bind_some, aCase_bool, rd1_p, part_at9, idx_encI hse, List.getElem?_cons_zero, bin_sub (a := a) (b := 1) (by omega) (by omega), idx_sl c0 (show p.kids[j] < n by omega), rd1_cI hb hlc, bin_sub (a := a) (b := Z.getD p.kids[j].toNat 0) (by omega) (by omega), bin_sub (a := j) (b := 1) (by omega) (by omega)]
          rw [if_pos (by simp), if_neg (by simp [e1]), if_neg (by simp only [decide_eq_true_eq]; exact e2)]
        rw [step]
        exact ⟨i1, i2⟩
    · rw [if_neg (fun h => e1 h.1)]
      refine ⟨fun b hr => (by cases hr), fun _ => ⟨a, ?_⟩⟩
      unfold lp_spec_l6sizes_1 jn
      simp only [bin_geq, bin_neq, bin_eql, Option.bind_some, aCase_bool, rd1_p, part_at9, idx_encI hse, List.getElem?_cons_zero, bin_sub (a := a) (b := 1) (by omega) (by omega), idx_sl c0 (show p.kids[j] < n by omega), rd1_cI hb hlc]
      rw [if_pos (by simp), if_pos (by simp only [decide_eq_true_eq]; exact e1), if_pos trivial]
theorem sizes_out (x : Nat) (hn : l.length ≤ 3000) (hkl : ∀ p ∈ l, p.kids.length ≤ 1048576) (hk : KidsB l) (τ : Store) (k : Cur 0) :
    ∀ i, i ≤ l.length → ∀ σ, ∀ Z, ZInv Z l.length → σ.blk x = some (.cells (cI Z)) → ∃ σ', lpFix 1 (lp_spec_l6sizes_2 D (.int .i64 l.length) (encParts l) (.hslice 1 x 0 l.length, τ) k) (.int .i64 i) σ = k σ' ∧ σ'.blk x = some (.cells (cI (sizesGo l (l.length - i) i Z))) := by
  refine lp_up (lp_spec_l6sizes_2_mono _ _ _ _ _) l.length (fun i σ r => ∀ Z, ZInv Z l.length → σ.blk x = some (.cells (cI Z)) → ∃ σ', r = k σ' ∧ σ'.blk x = some (.cells (cI (sizesGo l (l.length - i) i Z)))) ?_ ?_
  · intro R σ Z I hb
    rw [Nat.sub_self]
    refine ⟨σ, ?_, hb⟩
    unfold lp_spec_l6sizes_2
    simp only [bin_lss, Option.bind_some, aCase_bool]
    rw [if_neg (by simp)]
  · intro i hi R σ hR Z I hb
    have hs : l[i]? = some l[i] := List.getElem?_eq_getElem hi
    have hka : kidsAt l i = l[i].kids := kidsAt_eq hs
    have hkl' := hkl _ (List.getElem_mem hi)
    have hks : ∀ c ∈ l[i].kids, 0 ≤ c ∧ c < i := fun c hc => hk i c (by rw [hka]; exact hc)
    have hil : i < Z.length := by rw [I.len]; exact hi
    have ha : asplit 10 (.agg (encPart l[i])) = some (encPart l[i]) := rfl
    rw [nm1 hi]
    unfold sizesGo
    rw [hka]
    obtain ⟨q1, q2⟩ := sizes_in (D := D) l[i] x l.length i hi hn hkl' hks τ (fun at_18 ok_19 s_20 => jn 0 (fun s_22 => (bin .add .num (.int .i64 i) (.int .i64 1)).bind fun t_24 => R t_24 s_22)
      (fun k_23 => aCase ok_19 ((bin .sub .num (.int .i64 i) at_18).bind fun t_25 => (bin .add .num t_25 (.int .i64 1)).bind fun t_26 => (idx 1 (.hslice 1 x 0 l.length) (.int .i64 i)).bind fun t_27 => (one t_26).bind fun o_28 => (wr t_27 [o_28] s_20).bind fun s_29 => k_23 s_29) (k_23 s_20))) σ Z I hb l[i].kids.length (by omega) i (by omega) (by omega)
    rw [List.take_length] at q1 q2
    have head : ∀ v, lpFix 3 (lp_spec_l6sizes_1 D (encPart l[i]) (fun at_18 ok_19 s_20 => jn 0 (fun s_22 => (bin .add .num (.int .i64 i) (.int .i64 1)).bind fun t_24 => R t_24 s_22)
      (fun k_23 => aCase ok_19 ((bin .sub .num (.int .i64 i) at_18).bind fun t_25 => (bin .add .num t_25 (.int .i64 1)).bind fun t_26 => (idx 1 (.hslice 1 x 0 l.length) (.int .i64 i)).bind fun t_27 => (one t_26).bind fun o_28 => (wr t_27 [o_28] s_20).bind fun s_29 => k_23 s_29) (k_23 s_20))) (.hslice 1 x 0 l.length, τ)) (.int .i64 i) (.bool true) (.int .i64 ((l[i].kids.length : Int) - 1)) σ = v →
      lp_spec_l6sizes_2 D (.int .i64 l.length) (encParts l) (.hslice 1 x 0 l.length, τ) k R (.int .i64 i) σ = v := by
      intro v hv
      rw [← hv]
      unfold lp_spec_l6sizes_2 jn
      simp only [bin_lss, Option.bind_some, aCase_bool, idx_encParts hs, rdN_part, ha, rd1_p, part_at9, len_encI, bin_sub (a := l[i].kids.length) (b := 1) (by omega) (by omega)]
      rw [if_pos (by simpa using hi)]
    cases hrun : runZ Z l[i].kids.reverse i with
    | none =>
      obtain ⟨b, hb2⟩ := q2 hrun
      obtain ⟨σ', h1, h2⟩ := hR σ Z I hb
      refine ⟨σ', (head _ hb2).trans ?_, h2⟩
      unfold jn
      simp only [bin_add (a := i) (b := 1) (by omega) (by omega), Option.bind_some, aCase_bool, Bool.false_eq_true, if_false]
      exact h1
    | some a =>
      obtain ⟨a0, a1⟩ := ZInv.run I hi l[i].kids.reverse i (fun c hc => hks c (by simpa using hc)) (by omega) (by omega) a hrun
      obtain ⟨σ', h1, h2⟩ := hR (σ.upd x (some (.cells (cI (Z.set i (i - a + 1)))))) _ (I.step hi a0 a1) upd_blk
      refine ⟨σ', (head _ (q1 a hrun)).trans ?_, h2⟩
      unfold jn
      have hw := wr_cI (n := (i : Int) - a + 1) hb hil
      simp only [bin_add (a := i) (b := 1) (by omega) (by omega), bin_sub (a := i) (b := a) (by omega) (by omega), bin_add (a := (i : Int) - a) (b := 1) (by omega) (by omega), Option.bind_some, aCase_bool, if_true, idx_sln hi, one_int, hw]
      exact h1
/-- The sizes. -/
def sizesOf (l : List LPart) : List Int := sizesGo l l.length 0 (List.replicate l.length 0)
theorem view_cI {σ : Store} {x n : Nat} {Z : List Int} (hb : σ.blk x = some (.cells (cI Z))) (hn : Z.length = n) (d : Nat) : view σ (d + 2) (.hslice 1 x 0 n) = some (encI Z) := by
  have hf : cI Z = (Z.map fun v => [AV.int .i64 v]).flatten := by
    clear hb hn
    induction Z with
    | nil => rfl
    | cons a Z ih => rw [List.map_cons, List.flatten_cons, ← ih]; rfl
  have := view_h (σ := σ) (d := d + 1) (sz := 1) (x := x) (rows := Z.map fun v => [AV.int .i64 v]) (by rw [hb, hf]) (fun r hr => by obtain ⟨v, _, rfl⟩ := List.mem_map.1 hr; rfl) (fun r hr v hv => by
    obtain ⟨u, _, rfl⟩ := List.mem_map.1 hr
    simp at hv; subst hv; rfl)
  rw [List.length_map, hn] at this
  rw [this, encI, List.map_map]
  rfl
theorem l6sizes (H : Door D) (hn : l.length ≤ 3000) (hkl : ∀ p ∈ l, p.kids.length ≤ 1048576) (hk : KidsB l) : callP D 12 [encTree l] = some (encI (sizesOf l)) := by
  obtain ⟨σ', h1, h2⟩ := sizes_out (D := D) (l := l) 0 hn hkl hk (Store.empty.add (.cells (cI (List.replicate l.length 0)))) (fun s => some (.hslice 1 0 0 l.length, s)) 0 (by omega) (Store.empty.add (.cells (cI (List.replicate l.length 0)))) (List.replicate l.length 0) (ZInv.zero _) rfl
  have hc : D.call 12 [encTree l] Store.empty = some (.hslice 1 0 0 l.length, σ') := by
    rw [H.f12]
    unfold sh_spec_l6sizes jn
    simp only [rd1_p, tree_at, Option.bind_some, len_encParts, mk_cI (σ := Store.empty) (n := l.length) (by omega)]
    exact h1
  refine callP_eq (by simp [depth]) hc ?_
  have hlen : (sizesOf l).length = l.length := by
    have := (sizesGo_keep (l := l) l.length 0 (List.replicate l.length 0) (by simp)).1
    simpa [sizesOf] using this
  rw [Nat.sub_zero] at h2
  exact view_cI h2 hlen 10
end
end Go.Asm.DoorF
