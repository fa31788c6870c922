import Derived.Test.YtebmeojmlakkoaaDoorAsm25
set_option linter.all false
/- Loops by induction; results up to the store; whole numbers in a block. -/
namespace Go.Asm

/-- A loop, by a measure. -/
theorem lp_ind {m : Nat} {F : Cur m → Cur m} (hF : Mono F) {α : Type} (μ : α → Nat) (args : α → List AV) (st : α → Store) (P : α → Res → Prop)
    (hstep : ∀ a (R : Cur m), (∀ b, μ b < μ a → P b (Cur.app m R (args b) (st b))) → P a (Cur.app m (F R) (args a) (st a))) (a : α) : P a (Cur.app m (lpFix m F) (args a) (st a)) := by
  generalize hn : μ a = n
  induction n using Nat.strongRecOn generalizing a with
  | _ n ih =>
    subst hn
    rw [lpFix_eq hF]
    exact hstep a _ fun b hb => ih _ hb b rfl
/-- A loop that counts up to n. -/
theorem lp_up {F : Cur 1 → Cur 1} (hF : Mono F) (n : Nat) (P : Nat → Store → Res → Prop)
    (hend : ∀ R σ, P n σ (F R (.int .i64 n) σ))
    (hstep : ∀ i, i < n → ∀ R σ, (∀ σ', P (i + 1) σ' (R (.int .i64 ((i : Int) + 1)) σ')) → P i σ (F R (.int .i64 i) σ)) :
    ∀ i, i ≤ n → ∀ σ, P i σ (lpFix 1 F (.int .i64 i) σ) := by
  have H : ∀ (d i : Nat), d = n - i → i ≤ n → ∀ σ, P i σ (lpFix 1 F (.int .i64 i) σ) := by
    intro d
    induction d with
    | zero =>
      intro i hd hi σ
      have : i = n := by omega
      subst this
      rw [lpFix_eq hF]
      exact hend _ σ
    | succ d ih =>
      intro i hd hi σ
      rw [lpFix_eq hF]
      refine hstep i (by omega) _ σ fun σ' => ?_
      have := ih (i + 1) (by omega) (by omega) σ'
      rwa [show (((i + 1 : Nat)) : Int) = (i : Int) + 1 by omega] at this
  exact fun i hi σ => H _ i rfl hi σ
/-- The same where the round's result is a function of the round and the store. -/
theorem lp_upE {F : Cur 1 → Cur 1} (hF : Mono F) (n : Nat) (P : Nat → Store → Res)
    (hend : ∀ R σ, F R (.int .i64 n) σ = P n σ)
    (hstep : ∀ i, i < n → ∀ R σ, (∀ σ', R (.int .i64 ((i : Int) + 1)) σ' = P (i + 1) σ') → F R (.int .i64 i) σ = P i σ) :
    ∀ i, i ≤ n → ∀ σ, lpFix 1 F (.int .i64 i) σ = P i σ := lp_up hF n (fun i σ r => r = P i σ) hend hstep

/-- It comes to the value v, in some store. -/
def Ret (r : Res) (v : AV) : Prop := ∃ σ', r = some (v, σ')
theorem Ret.mk {v : AV} {σ : Store} : Ret (some (v, σ)) v := ⟨σ, rfl⟩
theorem callV_ret {D : Ctx} {f : Nat} {args us : List AV} {σ : Store} {v : AV} (h1 : args.mapM (view σ depth) = some us) (h2 : Ret (D.call f us Store.empty) v) (h3 : scal v = true) : callV D f args σ = some v := by
  obtain ⟨σ', h2⟩ := h2
  simp [callV, h1, h2, h3]

/-! ### whole numbers in a block -/
def cI (l : List Int) : List AV := l.map fun n => .int .i64 n
@[simp] theorem cI_length (l : List Int) : (cI l).length = l.length := by simp [cI]
theorem cI_set (l : List Int) (i : Nat) (n : Int) : cI (l.set i n) = (cI l).set i (.int .i64 n) := by simp [cI, List.map_set]
theorem cI_replicate (n : Nat) (x : Int) : (List.replicate n [AV.int .i64 x]).flatten = cI (List.replicate n x) := by
  induction n with
  | zero => rfl
  | succ n ih => rw [List.replicate_succ, List.flatten_cons, ih]; rfl
theorem rd1_cI {G : Nat → Option AV} {σ : Store} {x i : Nat} {l : List Int} (hb : σ.blk x = some (.cells (cI l))) (hi : i < l.length) : rd1 G (.hptr x i) σ = some (.int .i64 (l.getD i 0)) := by
  simp [rd1, hb, cI, hi]
theorem wr_cI {σ : Store} {x i : Nat} {l : List Int} {n : Int} (hb : σ.blk x = some (.cells (cI l))) (hi : i < l.length) : wr (.hptr x i) [.int .i64 n] σ = some (σ.upd x (some (.cells (cI (l.set i n))))) := by
  have h : i + 1 ≤ l.length := by omega
  simp [wr, hb, h, setL, cI_set]
theorem upd_blk {σ : Store} {x : Nat} {b : Option Blk} : (σ.upd x b).blk x = b := by simp [Store.upd]
theorem upd_ne {σ : Store} {x y : Nat} {b : Option Blk} (h : y ≠ x) : (σ.upd x b).blk y = σ.blk y := by simp [Store.upd, h]
theorem add_blk {σ : Store} {b : Blk} : (σ.add b).blk σ.next = some b := by simp [Store.add]
theorem add_old {σ : Store} {b : Blk} {y : Nat} (h : y ≠ σ.next) : (σ.add b).blk y = σ.blk y := by simp [Store.add, h]
@[simp] theorem upd_next {σ : Store} {x : Nat} {b : Option Blk} : (σ.upd x b).next = σ.next := rfl
@[simp] theorem add_next {σ : Store} {b : Blk} : (σ.add b).next = σ.next + 1 := rfl
theorem idx_h1 {x n : Nat} {i : Int} (h0 : 0 ≤ i) (h : i < n) : idx 1 (.hslice 1 x 0 n) (.int .i64 i) = some (.hptr x i.toNat) := by
  simp [idx, h, h0]
theorem mk_cI {σ : Store} {n : Nat} (h : n ≤ 4294967296) : mkSlice [.int .i64 0] (.int .i64 n) σ = some (.hslice 1 σ.next 0 n, σ.add (.cells (cI (List.replicate n 0)))) := by
  rw [mkSlice_new h, cI_replicate]; rfl
/-- The same for loops that carry one value more, which stays. -/
theorem lp_up2 {F : Cur 2 → Cur 2} (hF : Mono F) (n : Nat) (W : AV) (P : Nat → Store → Res → Prop)
    (hend : ∀ R σ, P n σ (F R (.int .i64 n) W σ))
    (hstep : ∀ i, i < n → ∀ R σ, (∀ σ', P (i + 1) σ' (R (.int .i64 ((i : Int) + 1)) W σ')) → P i σ (F R (.int .i64 i) W σ)) :
    ∀ i, i ≤ n → ∀ σ, P i σ (lpFix 2 F (.int .i64 i) W σ) := by
  have H : ∀ (d i : Nat), d = n - i → i ≤ n → ∀ σ, P i σ (lpFix 2 F (.int .i64 i) W σ) := by
    intro d
    induction d with
    | zero =>
      intro i hd hi σ
      have : i = n := by omega
      subst this
      rw [lpFix_eq hF]
      exact hend _ σ
    | succ d ih =>
      intro i hd hi σ
      rw [lpFix_eq hF]
      refine hstep i (by omega) _ σ fun σ' => ?_
      have := ih (i + 1) (by omega) (by omega) σ'
      rwa [show (((i + 1 : Nat)) : Int) = (i : Int) + 1 by omega] at this
  exact fun i hi σ => H _ i rfl hi σ
/-- A loop that counts down to 0: k rounds are to come where the number is k - 1. -/
theorem lp_dn2 {F : Cur 2 → Cur 2} (hF : Mono F) (W : AV) (P : Nat → Store → Res → Prop)
    (hend : ∀ R σ, P 0 σ (F R (.int .i64 (-1)) W σ))
    (hstep : ∀ k R σ, (∀ σ', P k σ' (R (.int .i64 ((k : Int) - 1)) W σ')) → P (k + 1) σ (F R (.int .i64 k) W σ)) :
    ∀ (k : Nat) σ, P k σ (lpFix 2 F (.int .i64 ((k : Int) - 1)) W σ) := by
  intro k
  induction k with
  | zero =>
    intro σ
    rw [lpFix_eq hF]
    exact hend _ σ
  | succ k ih =>
    intro σ
    rw [lpFix_eq hF]
    rw [show (((k + 1 : Nat)) : Int) - 1 = k by omega]
    exact hstep k _ σ ih
end Go.Asm
