import Derived.Test.YtebmeojmlakkoaaDoorDoorF
import Derived.Test.YtebmeojmlakkoaaDoorAsm24
set_option linter.all false
namespace Go.Asm.DoorF
open Go Go.Asm
section
variable {D : Ctx} (H : Door D)

theorem szStringS_loop (l : List ByteArray) (hl : ∀ s ∈ l, s.size ≤ 9223372036854775807) (k : Cur 1) (σ : Store) (h2 : l.length ≤ 1048576) : ∀ (n i : Nat) (left : Int), n = l.length - i → i ≤ l.length → 0 ≤ left → left ≤ 1048576 →
    lpFix 2 (lp_laws_szStringS_1 D (encS l) k) (.int .i64 left) (.int .i64 i) σ = some (.int .i64 (-1), σ) ∨
      ∃ r : Int, 0 ≤ r ∧ r ≤ left ∧ (∀ (j : Nat) s, i ≤ j → l[j]? = some s → s.size ≤ 1048576) ∧ lpFix 2 (lp_laws_szStringS_1 D (encS l) k) (.int .i64 left) (.int .i64 i) σ = k (.int .i64 r) σ := by
  intro n
  induction n with
  | zero =>
    intro i left hn hi h0 h1
    right
    refine ⟨left, h0, Int.le_refl _, fun j s hj hs => by have := (List.getElem?_eq_some_iff.1 hs).1; omega, ?_⟩
    rw [lpFix_eq (lp_laws_szStringS_1_mono _ _ _)]
    have : ¬ ((i : Int) < l.length) := by omega
    simp [lp_laws_szStringS_1, this]
  | succ n ih =>
    intro i left hn hi h0 h1
    have hil : i < l.length := by omega
    have hs : l[i]? = some l[i] := List.getElem?_eq_getElem hil
    have hsm := hl _ (List.getElem_mem hil)
    rw [lpFix_eq (lp_laws_szStringS_1_mono _ _ _)]
    by_cases hneg : left - l[i].size < 0
    · left
      simp [lp_laws_szStringS_1, hil, idx_encS hs, bin_sub (a := left) (b := l[i].size) (by omega) (by omega), hneg]
    · rcases ih (i + 1) (left - l[i].size) (by omega) (by omega) (by omega) (by omega) with h | ⟨r, r0, r1, hsm, h⟩
      · left
        simp [lp_laws_szStringS_1, hil, idx_encS hs, bin_sub (a := left) (b := l[i].size) (by omega) (by omega), hneg, bin_add (a := i) (b := 1) (by omega) (by omega)]
        exact h
      · right
        refine ⟨r, r0, by omega, fun j s hj hs' => ?_, ?_⟩
        · by_cases e : j = i
          · subst e; rw [hs] at hs'; cases hs'; omega
          · exact hsm j s (by omega) hs'
        simp [lp_laws_szStringS_1, hil, idx_encS hs, bin_sub (a := left) (b := l[i].size) (by omega) (by omega), hneg, bin_add (a := i) (b := 1) (by omega) (by omega)]
        exact h
theorem szStringS (H : Door D) (l : List ByteArray) (hl : ∀ s ∈ l, s.size ≤ 9223372036854775807) (hn : l.length ≤ 9223372036854775807) (left : Int) (h0 : 0 ≤ left) (h1 : left ≤ 1048576) (σ : Store) :
    ∃ r : Int, D.call 30 [encS l, .int .i64 left] σ = some (.int .i64 r, σ) ∧ r ≤ left ∧ (0 ≤ r → l.length ≤ 1048576 ∧ ∀ s ∈ l, s.size ≤ 1048576) := by
  rw [H.f30]
  unfold sh_laws_szStringS
  by_cases hneg : left - l.length < 0
  · exact ⟨-1, by simp [bin_sub (a := left) (b := l.length) (by omega) (by omega), hneg], by omega, by omega⟩
  · rcases szStringS_loop (D := D) l hl (fun left s => some (left, s)) σ (by omega) l.length 0 (left - l.length) (by omega) (by omega) (by omega) (by omega) with h | ⟨r, r0, r1, hsm, h⟩
    · refine ⟨-1, ?_, by omega, by omega⟩
      simp [bin_sub (a := left) (b := l.length) (by omega) (by omega), hneg]
      exact h
    · refine ⟨r, ?_, by omega, fun _ => ⟨by omega, fun s hs => by obtain ⟨j, hj⟩ := List.getElem?_of_mem hs; exact hsm j s (by omega) hj⟩⟩
      simp [bin_sub (a := left) (b := l.length) (by omega) (by omega), hneg]
      exact h
theorem szIntS (H : Door D) (l : List Int) (hn : l.length ≤ 9223372036854775807) (left : Int) (h0 : 0 ≤ left) (h1 : left ≤ 1048576) (σ : Store) :
    ∃ r : Int, D.call 31 [encI l, .int .i64 left] σ = some (.int .i64 r, σ) ∧ r ≤ left ∧ (0 ≤ r → l.length ≤ 1048576) := by
  rw [H.f31]
  unfold sh_laws_szIntS
  by_cases hneg : left - l.length < 0
  · exact ⟨-1, by simp [bin_sub (a := left) (b := l.length) (by omega) (by omega), hneg], by omega, by omega⟩
  · exact ⟨left - l.length, by simp [bin_sub (a := left) (b := l.length) (by omega) (by omega), hneg], by omega, by omega⟩

/-- What memory can bear. -/
structure _root_.Go.Asm.LPart.Fits (p : LPart) : Prop where
  text : p.text.size ≤ 9223372036854775807
  names : p.names.length ≤ 9223372036854775807
  name : ∀ s ∈ p.names, s.size ≤ 9223372036854775807
  kids : p.kids.length ≤ 9223372036854775807
/-- What szTree lets through. -/
structure _root_.Go.Asm.LPart.Small (p : LPart) : Prop where
  text : p.text.size ≤ 1048576
  names : p.names.length ≤ 1048576
  kids : p.kids.length ≤ 1048576
  name : ∀ s ∈ p.names, s.size ≤ 1048576

theorem szPart (H : Door D) (p : LPart) (hp : p.Fits) (left : Int) (h0 : 0 ≤ left) (h1 : left ≤ 1048576) (σ : Store) :
    ∃ r : Int, D.call 16 [.agg (encPart p), .int .i64 left] σ = some (.int .i64 r, σ) ∧ r ≤ left ∧ (0 ≤ r → p.Small) := by
  have ht := hp.text
  rw [H.f16]
  unfold sh_laws_szPart
  by_cases hneg : left - p.text.size < 0
  · exact ⟨-1, by simp [encPart, bin_sub (a := left) (b := p.text.size) (by omega) (by omega), hneg], by omega, by omega⟩
  · obtain ⟨r1, c1, l1, q1⟩ := szStringS H p.names hp.name hp.names (left - p.text.size) (by omega) (by omega) Store.empty
    have v1 : callV D 30 [encS p.names, .int .i64 (left - p.text.size)] σ = some (.int .i64 r1) := callV_eq (by simp [depth]) c1 rfl
    by_cases hneg1 : r1 < 0
    · exact ⟨-1, by simp [encPart, bin_sub (a := left) (b := p.text.size) (by omega) (by omega), hneg, v1, hneg1], by omega, by omega⟩
    · obtain ⟨r2, c2, l2, q2⟩ := szIntS H p.kids hp.kids r1 (by omega) (by omega) Store.empty
      have v2 : callV D 31 [encI p.kids, .int .i64 r1] σ = some (.int .i64 r2) := callV_eq (by simp [depth]) c2 rfl
      by_cases hneg2 : r2 < 0
      · exact ⟨-1, by simp [encPart, bin_sub (a := left) (b := p.text.size) (by omega) (by omega), hneg, v1, hneg1, v2, hneg2], by omega, by omega⟩
      · exact ⟨r2, by simp [encPart, bin_sub (a := left) (b := p.text.size) (by omega) (by omega), hneg, v1, hneg1, v2, hneg2], by omega, fun _ => ⟨by omega, (q1 (by omega)).1, q2 (by omega), (q1 (by omega)).2⟩⟩

theorem szPartS_loop (H : Door D) (l : List LPart) (hl : ∀ p ∈ l, p.Fits) (k : Cur 1) (σ : Store) (h2 : l.length ≤ 1048576) : ∀ (n i : Nat) (left : Int), n = l.length - i → i ≤ l.length → 0 ≤ left → left ≤ 1048576 →
    lpFix 2 (lp_laws_szPartS_1 D (encParts l) k) (.int .i64 left) (.int .i64 i) σ = some (.int .i64 (-1), σ) ∨
      ∃ r : Int, 0 ≤ r ∧ r ≤ left ∧ (∀ j p, i ≤ j → l[j]? = some p → p.Small) ∧ lpFix 2 (lp_laws_szPartS_1 D (encParts l) k) (.int .i64 left) (.int .i64 i) σ = k (.int .i64 r) σ := by
  intro n
  induction n with
  | zero =>
    intro i left hn hi h0 h1
    right
    refine ⟨left, h0, Int.le_refl _, fun j p hj hp => ?_, ?_⟩
    · have := (List.getElem?_eq_some_iff.1 hp).1; omega
    · rw [lpFix_eq (lp_laws_szPartS_1_mono _ _ _)]
      have : ¬ (i < l.length) := by omega
      simp [lp_laws_szPartS_1, this]
  | succ n ih =>
    intro i left hn hi h0 h1
    have hil : i < l.length := by omega
    have hs : l[i]? = some l[i] := List.getElem?_eq_getElem hil
    obtain ⟨r1, c1, l1, q1⟩ := szPart H l[i] (hl _ (List.getElem_mem hil)) left h0 h1 Store.empty
    have v1 : callV D 16 [.agg (encPart l[i]), .int .i64 left] σ = some (.int .i64 r1) := callV_eq (by simp [depth]) c1 rfl
    rw [lpFix_eq (lp_laws_szPartS_1_mono _ _ _)]
    by_cases hneg : r1 < 0
    · left
      simp [lp_laws_szPartS_1, hil, idx_encParts hs, v1, hneg]
    · rcases ih (i + 1) r1 (by omega) (by omega) (by omega) (by omega) with h | ⟨r, r0, r2, hsm, h⟩
      · left
        simp [lp_laws_szPartS_1, hil, idx_encParts hs, v1, hneg, bin_add (a := i) (b := 1) (by omega) (by omega)]
        exact h
      · right
        refine ⟨r, r0, by omega, fun j p hj hp => ?_, ?_⟩
        · by_cases e : j = i
          · subst e; rw [hs] at hp; cases hp; exact q1 (by omega)
          · exact hsm j p (by omega) hp
        · simp [lp_laws_szPartS_1, hil, idx_encParts hs, v1, hneg, bin_add (a := i) (b := 1) (by omega) (by omega)]
          exact h

/-- What szTree lets through. -/
structure _root_.Go.Asm.SmallTree (l : List LPart) : Prop where
  len : l.length ≤ 1048576
  part : ∀ p ∈ l, p.Small

theorem szTree (H : Door D) (l : List LPart) (hl : ∀ p ∈ l, p.Fits) (hn : l.length ≤ 9223372036854775807) (σ : Store) :
    ∃ r : Int, D.call 4 [encTree l, .int .i64 1048576] σ = some (.int .i64 r, σ) ∧ (0 ≤ r → SmallTree l) := by
  have key : ∀ σ, ∃ r : Int, D.call 10 [encParts l, .int .i64 1048576] σ = some (.int .i64 r, σ) ∧ (0 ≤ r → SmallTree l) := by
    intro σ
    rw [H.f10]
    unfold sh_laws_szPartS
    by_cases hneg : (1048576 : Int) - l.length < 0
    · exact ⟨-1, by simp [bin_sub (a := 1048576) (b := l.length) (by omega) (by omega), hneg], by omega⟩
    · rcases szPartS_loop H l hl (fun left s => some (left, s)) σ (by omega) l.length 0 (1048576 - l.length) (by omega) (by omega) (by omega) (by omega) with h | ⟨r, r0, r1, hsm, h⟩
      · refine ⟨-1, ?_, by omega⟩
        simp [bin_sub (a := 1048576) (b := l.length) (by omega) (by omega), hneg]
        exact h
      · refine ⟨r, ?_, fun _ => ⟨by omega, fun p hp => ?_⟩⟩
        · simp [bin_sub (a := 1048576) (b := l.length) (by omega) (by omega), hneg]
          exact h
        · obtain ⟨j, hj⟩ := List.getElem?_of_mem hp
          exact hsm j p (by omega) hj
  obtain ⟨r, c, q⟩ := key Store.empty
  have v : callV D 10 [encParts l, .int .i64 1048576] σ = some (.int .i64 r) := callV_eq (by simp [depth]) c rfl
  rw [H.f4]
  unfold sh_laws_szTree
  by_cases hneg : r < 0
  · exact ⟨-1, by simp [encTree, v, hneg], by omega⟩
  · exact ⟨r, by simp [encTree, v, hneg], q⟩
end
end Go.Asm.DoorF
