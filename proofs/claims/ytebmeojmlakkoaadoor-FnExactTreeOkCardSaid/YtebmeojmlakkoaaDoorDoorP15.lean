import Derived.Test.YtebmeojmlakkoaaDoorDoorP14
import Derived.Test.YtebmeojmlakkoaaDoorAsm26
set_option linter.all false
namespace Go.Asm.DoorF
open Go Go.Asm
/-- The first number from i on (k of them) of which it holds. -/
def ff (bad : Nat → Bool) : Nat → Nat → Option Nat
  | 0, _ => none
  | k + 1, i => if bad i = true then some i else ff bad k (i + 1)
theorem ff_pos {bad : Nat → Bool} {k i : Nat} (h : bad i = true) : ff bad (k + 1) i = some i := if_pos h
theorem ff_neg {bad : Nat → Bool} {k i : Nat} (h : bad i = false) : ff bad (k + 1) i = ff bad k (i + 1) := if_neg (by rw [h]; exact Bool.false_ne_true)
theorem ff_none {bad : Nat → Bool} : ∀ {k i : Nat}, ff bad k i = none → ∀ j, i ≤ j → j < i + k → bad j = false
  | 0, i, _, j, h1, h2 => by omega
  | k + 1, i, h, j, h1, h2 => by
    unfold ff at h
    split at h
    · cases h
    · rename_i hb
      by_cases e : j = i
      · subst e; simpa using hb
      · exact ff_none h j (by omega) (by omega)
def kidsAt (l : List LPart) (i : Nat) : List Int := (l[i]?.map (·.kids)).getD []
theorem kidsAt_eq {l : List LPart} {i : Nat} {p : LPart} (h : l[i]? = some p) : kidsAt l i = p.kids := by simp [kidsAt, h]
def nodeB (l : List LPart) (i : Nat) : Bool := match l[i]? with
  | some p => nodeOk l p i
  | none => false
/-- The implementation's run over a part's kids, the last first. -/
def runK (st : List Int) : List Int → Int → Option Int
  | [], a => some a
  | c :: r, a => if c = a - 1 then runK st r (st.getD c.toNat 0) else none
/-- The specification's. -/
def runZ (z : List Int) : List Int → Int → Option Int
  | [], a => some a
  | c :: r, a => if c = a - 1 ∧ z.getD c.toNat 0 ≠ 0 then runZ z r (a - z.getD c.toNat 0) else none
def startsGo (l : List LPart) : Nat → Nat → List Int → Option Nat
  | 0, _, _ => none
  | k + 1, i, S => match runK S (kidsAt l i).reverse i with
    | none => some i
    | some a => if i + 1 = l.length ∧ a ≠ 0 then some i else startsGo l k (i + 1) (S.set i a)
def sizesGo (l : List LPart) : Nat → Nat → List Int → List Int
  | 0, _, Z => Z
  | k + 1, i, Z => sizesGo l k (i + 1) (match runZ Z (kidsAt l i).reverse i with
    | none => Z
    | some a => Z.set i (i - a + 1))
def KidsB (l : List LPart) : Prop := ∀ i c, c ∈ kidsAt l i → 0 ≤ c ∧ c < i

/-! ### the plain law of the third test -/
structure Inv (S Z : List Int) (n i : Nat) : Prop where
  ls : S.length = n
  lz : Z.length = n
  low : ∀ j, j < i → 0 ≤ S.getD j 0 ∧ S.getD j 0 ≤ j ∧ Z.getD j 0 = j - S.getD j 0 + 1
  high : ∀ j, i ≤ j → Z.getD j 0 = 0
  last : i = n → 0 < n → S.getD (n - 1) 0 = 0
theorem getD_set (l : List Int) (i j : Nat) (v : Int) (hi : i < l.length) : (l.set i v).getD j 0 = if i = j then v else l.getD j 0 := by
  simp only [List.getD_eq_getElem?_getD, List.getElem?_set]
  by_cases h : i = j
  · subst h; simp [hi]
  · simp [h]
theorem run_same {S Z : List Int} {n i : Nat} (I : Inv S Z n i) : ∀ (r : List Int) (a : Int), (∀ c ∈ r, 0 ≤ c ∧ c < i) → 0 ≤ a → a ≤ i → runZ Z r a = runK S r a ∧ ∀ b, runK S r a = some b → 0 ≤ b ∧ b ≤ a
  | [], a, _, h0, h1 => ⟨rfl, fun b hb => by simp [runK] at hb; omega⟩
  | c :: r, a, hr, h0, h1 => by
    obtain ⟨c0, c1⟩ := hr c (by simp)
    obtain ⟨l1, l2, l3⟩ := I.low c.toNat (by omega)
    unfold runZ runK
    by_cases e : c = a - 1
    · have e2 : Z.getD c.toNat 0 ≠ 0 := by omega
      have e3 : a - Z.getD c.toNat 0 = S.getD c.toNat 0 := by omega
      obtain ⟨ih1, ih2⟩ := run_same I r (S.getD c.toNat 0) (fun c hc => hr c (by simp [hc])) l1 (by omega)
      rw [if_pos ⟨e, e2⟩, if_pos e, e3]
      exact ⟨ih1, fun b hb => by have := ih2 b hb; omega⟩
    · rw [if_neg (fun h => e h.1), if_neg e]
      exact ⟨rfl, fun b hb => by cases hb⟩
theorem sizesGo_keep {l : List LPart} : ∀ (k i : Nat) (Z : List Int), i + k ≤ Z.length → (sizesGo l k i Z).length = Z.length ∧ ∀ j, j < i → (sizesGo l k i Z).getD j 0 = Z.getD j 0
  | 0, i, Z, _ => ⟨rfl, fun _ _ => rfl⟩
  | k + 1, i, Z, h => by
    unfold sizesGo
    split
    · obtain ⟨h1, h2⟩ := sizesGo_keep (l := l) k (i + 1) Z (by omega)
      exact ⟨h1, fun j hj => h2 j (by omega)⟩
    · rename_i a _
      obtain ⟨h1, h2⟩ := sizesGo_keep (l := l) k (i + 1) (Z.set i (i - a + 1)) (by simp; omega)
      refine ⟨by simpa using h1, fun j hj => ?_⟩
      rw [h2 j (by omega), getD_set _ _ _ _ (by omega), if_neg (by omega)]
theorem third_go {l : List LPart} (hk : KidsB l) (n : Nat) (hn : n = l.length) : ∀ (k i : Nat) (S Z : List Int), i + k = n → Inv S Z n i →
    startsGo l k i S = (match ff (fun j => decide ((sizesGo l k i Z).getD j 0 = 0)) k i with
      | some j => some j
      | none => if 0 < n ∧ (sizesGo l k i Z).getD (n - 1) 0 ≠ n then some (n - 1) else none)
  | 0, i, S, Z, h, I => by
    have hi : i = n := by omega
    have : ¬ (0 < n ∧ Z.getD (n - 1) 0 ≠ n) := by
      intro ⟨h0, h1⟩
      have e1 := I.last hi h0
      obtain ⟨_, _, e2⟩ := I.low (n - 1) (by omega)
      omega
    exact (if_neg this).symm
  | k + 1, i, S, Z, h, I => by
    have hr : ∀ c ∈ (kidsAt l i).reverse, 0 ≤ c ∧ c < i := fun c hc => hk i c (by simpa using hc)
    obtain ⟨q1, q2⟩ := run_same I (kidsAt l i).reverse i hr (by omega) (by omega)
    unfold startsGo sizesGo
    rw [q1]
    cases hrun : runK S (kidsAt l i).reverse i with
    | none =>
      simp only []
      obtain ⟨_, h2⟩ := sizesGo_keep (l := l) k (i + 1) Z (by rw [I.lz]; omega)
      have : (sizesGo l k (i + 1) Z).getD i 0 = 0 := by rw [h2 i (by omega)]; exact I.high i (by omega)
      rw [ff_pos (by rw [decide_eq_true_eq]; exact this)]
    | some a =>
      obtain ⟨a0, a1⟩ := q2 a hrun
      simp only []
      have hZl : i < Z.length := by rw [I.lz]; omega
      have hSl : i < S.length := by rw [I.ls]; omega
      obtain ⟨h1, h2⟩ := sizesGo_keep (l := l) k (i + 1) (Z.set i (i - a + 1)) (by simp [I.lz]; omega)
      have hz : (sizesGo l k (i + 1) (Z.set i (i - a + 1))).getD i 0 = i - a + 1 := by
        rw [h2 i (by omega), getD_set _ _ _ _ hZl, if_pos rfl]
      have hnz : ¬ ((sizesGo l k (i + 1) (Z.set i (i - a + 1))).getD i 0 = 0) := by omega
      rw [ff_neg (decide_eq_false hnz)]
      by_cases hlast : i + 1 = l.length ∧ a ≠ 0
      · rw [if_pos hlast]
        have hk0 : k = 0 := by omega
        subst hk0
        have e : n - 1 = i := by omega
        have : (0 : Nat) < n ∧ (sizesGo l 0 (i + 1) (Z.set i (i - a + 1))).getD (n - 1) 0 ≠ n := by
          rw [e, hz]; omega
        show some i = if 0 < n ∧ _ then _ else _
        rw [if_pos this, e]
      · rw [if_neg hlast]
        refine third_go hk n hn k (i + 1) (S.set i a) (Z.set i (i - a + 1)) (by omega) ⟨by simp [I.ls], by simp [I.lz], fun j hj => ?_, fun j hj => ?_, fun hi h0 => ?_⟩
        · rw [getD_set _ _ _ _ hSl, getD_set _ _ _ _ hZl]
          by_cases e : i = j
          · subst e; simp; omega
          · simp only [if_neg e]
            exact I.low j (by omega)
        · rw [getD_set _ _ _ _ hZl, if_neg (by omega)]
          exact I.high j (by omega)
        · rw [getD_set _ _ _ _ hSl, if_pos (by omega)]
          omega
theorem third {l : List LPart} (hk : KidsB l) (h0 : 0 < l.length) :
    startsGo l l.length 0 (List.replicate l.length 0) = (match ff (fun j => decide ((sizesGo l l.length 0 (List.replicate l.length 0)).getD j 0 = 0)) l.length 0 with
      | some j => some j
      | none => if (sizesGo l l.length 0 (List.replicate l.length 0)).getD (l.length - 1) 0 ≠ l.length then some (l.length - 1) else none) := by
  have := third_go hk l.length rfl l.length 0 (List.replicate l.length 0) (List.replicate l.length 0) (by omega)
    ⟨by simp, by simp, fun j hj => by omega, fun j _ => by simp [List.getD_eq_getElem?_getD, List.getElem?_replicate]; split <;> rfl, fun h => by omega⟩
  rw [this]
  simp only [h0, true_and]

/-! ### depths -/
def depK (d : List Int) (i : Nat) : List Int → List Int
  | [] => d
  | c :: r => depK (d.set c.toNat (d.getD i 0 + 1)) i r
def depAll (l : List LPart) : Nat → List Int → List Int
  | 0, d => d
  | k + 1, d => depAll l k (depK d k (kidsAt l k))
def encOW (c : Int) (o : Option Nat) (r : AV) : AV := match o with
  | some i => encWrong c i
  | none => r
/-- What TreeOk gives. -/
def treeWrong (l : List LPart) : AV :=
  if l.length = 0 ∨ 3000 < l.length ∨ (l[l.length - 1]?.map (·.kind)) ≠ some 1 then encWrong 1 0 else
  encOW 2 (ff (fun j => !nodeB l j) l.length 0) <|
  encOW 3 (startsGo l l.length 0 (List.replicate l.length 0)) <|
  encOW 4 (ff (fun j => decide (100 < (depAll l l.length (List.replicate l.length 0)).getD j 0)) l.length 0) (encWrong 0 0)
structure DInv (d : List Int) (n : Nat) : Prop where
  len : d.length = n
  low : ∀ j, j < n → 0 ≤ d.getD j 0
  top : ∀ j, j < n → d.getD j 0 + j ≤ n - 1
theorem DInv.step {d : List Int} {n : Nat} (I : DInv d n) {c : Int} {i : Nat} (hi : i < n) (h0 : 0 ≤ c) (h1 : c < i) : DInv (d.set c.toNat (d.getD i 0 + 1)) n := by
  have hc : c.toNat < d.length := by rw [I.len]; omega
  have a := I.low i hi
  have b := I.top i hi
  refine ⟨by simp [I.len], fun j hj => ?_, fun j hj => ?_⟩
  · rw [getD_set _ _ _ _ hc]
    split
    · omega
    · exact I.low j hj
  · rw [getD_set _ _ _ _ hc]
    split
    · omega
    · exact I.top j hj
theorem DInv.zero (n : Nat) : DInv (List.replicate n 0) n := by
  have : ∀ j, (List.replicate n (0 : Int)).getD j 0 = 0 := fun j => by simp [List.getD_eq_getElem?_getD, List.getElem?_replicate]; split <;> rfl
  exact ⟨by simp, fun j _ => by rw [this]; omega, fun j h => by rw [this]; omega⟩
theorem DInv.kids {n i : Nat} (hi : i < n) : ∀ (ks : List Int) (d : List Int), DInv d n → (∀ c ∈ ks, 0 ≤ c ∧ c < i) → DInv (depK d i ks) n
  | [], d, I, _ => I
  | c :: r, d, I, h => by
    unfold depK
    exact DInv.kids hi r _ (I.step hi (h c (by simp)).1 (h c (by simp)).2) fun c hc => h c (by simp [hc])
end Go.Asm.DoorF
