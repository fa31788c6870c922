import Derived.Test.YtebmeojmlakkoaaDoorDoorP10
set_option linter.all false
namespace Go.Asm.DoorF
open Go Go.Asm
theorem slice_encI (ks : List Int) (a b : Nat) (h1 : a ≤ b) (h2 : b ≤ ks.length) : sliceV 1 (encI ks) (some (.int .i64 a)) (some (.int .i64 b)) = some (encI ((ks.take b).drop a)) := by
  have h : (0 : Int) ≤ a ∧ (a : Int) ≤ b ∧ (b : Int) ≤ ks.length := ⟨by omega, by omega, by omega⟩
  simp [sliceV, encI, bound, h1, h2, List.map_take, List.map_drop]
section
variable {D : Ctx} (H : Door D)
theorem all_loop (g : Nat) (Q : Int → Bool) (hg : ∀ x σ, D.call g [.int .i64 x] σ = some (.bool (Q x), σ)) (ks : List Int) (hn : ks.length ≤ 1048576) (k : Cur 0) (σ : Store) : ∀ (n i : Nat), n = ks.length - i → i ≤ ks.length →
    lpFix 1 (lp_impl_partShape_1_1 D (.int .i64 ks.length) (encI ks) (.func g [] []) k) (.int .i64 i) σ = if (ks.drop i).all Q then k σ else some (.bool false, σ) := by
  intro n
  induction n with
  | zero =>
    intro i hi h1
    rw [lpFix_eq (lp_impl_partShape_1_1_mono _ _ _ _ _)]
    have : ¬ (i < ks.length) := by omega
    have e : ks.drop i = [] := List.drop_eq_nil_of_le (by omega)
    simp [lp_impl_partShape_1_1, this, e]
  | succ n ih =>
    intro i hi h1
    have hil : i < ks.length := by omega
    have hse : ks[i]? = some ks[i] := List.getElem?_eq_getElem hil
    have ih' := ih (i + 1) (by omega) (by omega)
    rw [lpFix_eq (lp_impl_partShape_1_1_mono _ _ _ _ _)]
    generalize lpFix 1 (lp_impl_partShape_1_1 D (.int .i64 ks.length) (encI ks) (.func g [] []) k) = R at ih' ⊢
    rw [List.drop_eq_getElem_cons hil]
    have e1 : ((i : Int) + 1) = ((i + 1 : Nat) : Int) := by omega
    have hc : callD D (.func g [] []) [.int .i64 ks[i]] σ = some (.bool (Q ks[i]), σ) := hg _ _
    simp only [lp_impl_partShape_1_1, bin_lss, Option.bind_some, aCase_bool, idx_encI hse, rd1_p, List.getElem?_cons_zero, hc, un_not, bin_add (a := i) (b := 1) (by omega) (by omega), e1, ih', List.all_cons]
    rw [if_pos (by simpa using hil)]
    by_cases hq : Q ks[i] = true <;> simp [hq]
theorem is_loop (ks js : List Int) (i : Nat) (x : Int) (hx : ks[i]? = some x) (hn : js.length ≤ 1048576) (k : Cur 0) (σ : Store) : ∀ (n j : Nat), n = js.length - j → j ≤ js.length →
    lpFix 1 (lp_impl_partShape_2_1 D (.int .i64 js.length) (encI js) (.pptr [encI ks] 0) (.int .i64 i) k) (.int .i64 j) σ = if (js.drop j).any (fun y => decide (x = y)) then some (.bool true, σ) else k σ := by
  intro n
  induction n with
  | zero =>
    intro j hi h1
    rw [lpFix_eq (lp_impl_partShape_2_1_mono _ _ _ _ _ _)]
    have : ¬ (j < js.length) := by omega
    have e : js.drop j = [] := List.drop_eq_nil_of_le (by omega)
    simp [lp_impl_partShape_2_1, this, e]
  | succ n ih =>
    intro j hi h1
    have hil : j < js.length := by omega
    have hse : js[j]? = some js[j] := List.getElem?_eq_getElem hil
    have ih' := ih (j + 1) (by omega) (by omega)
    rw [lpFix_eq (lp_impl_partShape_2_1_mono _ _ _ _ _ _)]
    generalize lpFix 1 (lp_impl_partShape_2_1 D (.int .i64 js.length) (encI js) (.pptr [encI ks] 0) (.int .i64 i) k) = R at ih' ⊢
    rw [List.drop_eq_getElem_cons hil]
    have e1 : ((j : Int) + 1) = ((j + 1 : Nat) : Int) := by omega
    simp only [lp_impl_partShape_2_1, bin_lss, bin_eql, Option.bind_some, aCase_bool, idx_encI hse, idx_encI hx, rd1_p, List.getElem?_cons_zero, bin_add (a := j) (b := 1) (by omega) (by omega), e1, ih', List.any_cons]
    rw [if_pos (by simpa using hil)]
    by_cases hq : x = js[j] <;> simp [hq]
theorem all_g (H : Door D) (g : Nat) (Q : Int → Bool) (hg : ∀ x σ, D.call g [.int .i64 x] σ = some (.bool (Q x), σ)) (a1 : AV) (ks : List Int) (hn : ks.length ≤ 1048576) (a b : Nat) (h1 : a ≤ b) (h2 : b ≤ ks.length)
    (hsl : sliceV 1 a1 (some (.int .i64 a)) (some (.int .i64 b)) = some (encI ((ks.take b).drop a))) (σ : Store) :
    D.call 21 [.func g [] [], .int .i64 a, .int .i64 b, .pptr [a1] 0] σ = some (.bool (((ks.take b).drop a).all Q), σ) := by
  rw [H.f21]
  unfold sh_impl_partShape_1 jn
  simp only [rd1_p, List.getElem?_cons_zero, Option.bind_some, hsl, len_encI]
  have := all_loop g Q hg ((ks.take b).drop a) (by simp; omega) (fun s_4 => some (.bool true, s_4)) σ ((ks.take b).drop a).length 0 (by omega) (by omega)
  rw [List.drop_zero] at this
  refine Eq.trans this ?_
  cases ((ks.take b).drop a).all Q <;> simp
theorem all_ (H : Door D) (g : Nat) (Q : Int → Bool) (hg : ∀ x σ, D.call g [.int .i64 x] σ = some (.bool (Q x), σ)) (ks : List Int) (hn : ks.length ≤ 1048576) (a b : Nat) (h1 : a ≤ b) (h2 : b ≤ ks.length) (σ : Store) :
    D.call 21 [.func g [] [], .int .i64 a, .int .i64 b, .pptr [encI ks] 0] σ = some (.bool (((ks.take b).drop a).all Q), σ) := all_g H g Q hg (encI ks) ks hn a b h1 h2 (slice_encI ks a b h1 h2) σ
theorem is_ (H : Door D) (ks js : List Int) (i : Nat) (x : Int) (hx : ks[i]? = some x) (hn : js.length ≤ 1048576) (σ : Store) :
    D.call 22 [.int .i64 i, encI js, .pptr [encI ks] 0] σ = some (.bool (js.any fun y => decide (x = y)), σ) := by
  rw [H.f22]
  unfold sh_impl_partShape_2 jn
  simp only [Option.bind_some, len_encI]
  have := is_loop (D := D) ks js i x hx hn (fun s_2 => some (.bool false, s_2)) σ js.length 0 (by omega) (by omega)
  rw [List.drop_zero] at this
  refine Eq.trans this ?_
  by_cases h : (js.any fun y => decide (x = y)) = true
  · rw [if_pos h, h]
  · have h' : (js.any fun y => decide (x = y)) = false := by simpa only [Bool.not_eq_true] using h
    rw [if_neg h, h']
def isBase (k : Int) : Bool := isExpr k && decide (k ≠ 27)
theorem base_ (H : Door D) (k : Int) (σ : Store) : D.call 23 [.int .i64 k] σ = some (.bool (isBase k), σ) := by
  rw [H.f23]
  unfold sh_impl_partShape_3 jn isBase
  have v : callV D 24 [.int .i64 k] σ = some (.bool (isExpr k)) := callV_eq (by simp [depth]) (partExpr H k Store.empty) rfl
  simp only [v, Option.bind_some, aCase_bool, bin_neq]
  cases isExpr k <;> simp
theorem target_ (H : Door D) (k : Int) (σ : Store) : D.call 26 [.int .i64 k] σ = some (.bool (isTarget k), σ) := by
  rw [H.f26]
  unfold sh_impl_partShape_4 jn isTarget
  by_cases h : k = 26
  · simp [h]
  · by_cases h2 : k = 32
    · simp [h2]
    · simp [h, h2]
theorem entry_ (H : Door D) (k : Int) (σ : Store) : D.call 28 [.int .i64 k] σ = some (.bool (decide (40 ≤ k) && decide (k ≤ 42)), σ) := by
  rw [H.f28]
  unfold sh_impl_partShape_5 jn
  by_cases h : 40 ≤ k <;> simp [h]
end
end Go.Asm.DoorF
