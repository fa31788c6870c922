import Derived.Test.YtebmeojmlakkoaaDoorDoorP2
set_option linter.all false
namespace Go.Asm.DoorF
open Go Go.Asm
section
variable {D : Ctx} (H : Door D)

theorem eqStringS_loop (l : List ByteArray) (k : Cur 0) (σ : Store) (hn : l.length ≤ 1048576) : ∀ (n i : Nat), n = l.length - i → i ≤ l.length →
    lpFix 1 (lp_laws_eqStringS_1 D (encS l) (encS l) k) (.int .i64 i) σ = k σ := by
  intro n
  induction n with
  | zero =>
    intro i hi h1
    rw [lpFix_eq (lp_laws_eqStringS_1_mono _ _ _ _)]
    have : ¬ (i < l.length) := by omega
    simp [lp_laws_eqStringS_1, this]
  | succ n ih =>
    intro i hi h1
    have hil : i < l.length := by omega
    have hs : l[i]? = some l[i] := List.getElem?_eq_getElem hil
    rw [lpFix_eq (lp_laws_eqStringS_1_mono _ _ _ _)]
    simp [lp_laws_eqStringS_1, hil, idx_encS hs, bin_add (a := i) (b := 1) (by omega) (by omega)]
    exact ih (i + 1) (by omega) (by omega)
theorem eqIntS_loop (l : List Int) (k : Cur 0) (σ : Store) (hn : l.length ≤ 1048576) : ∀ (n i : Nat), n = l.length - i → i ≤ l.length →
    lpFix 1 (lp_laws_eqIntS_1 D (encI l) (encI l) k) (.int .i64 i) σ = k σ := by
  intro n
  induction n with
  | zero =>
    intro i hi h1
    rw [lpFix_eq (lp_laws_eqIntS_1_mono _ _ _ _)]
    have : ¬ (i < l.length) := by omega
    simp [lp_laws_eqIntS_1, this]
  | succ n ih =>
    intro i hi h1
    have hil : i < l.length := by omega
    have hs : l[i]? = some l[i] := List.getElem?_eq_getElem hil
    rw [lpFix_eq (lp_laws_eqIntS_1_mono _ _ _ _)]
    simp [lp_laws_eqIntS_1, hil, idx_encI hs, bin_add (a := i) (b := 1) (by omega) (by omega)]
    exact ih (i + 1) (by omega) (by omega)
theorem eqStringS (H : Door D) (l : List ByteArray) (hn : l.length ≤ 1048576) (σ : Store) : D.call 41 [encS l, encS l] σ = some (.bool true, σ) := by
  rw [H.f41]
  unfold sh_laws_eqStringS jn
  simp
  exact eqStringS_loop l _ σ hn l.length 0 (by omega) (by omega)
theorem eqIntS (H : Door D) (l : List Int) (hn : l.length ≤ 1048576) (σ : Store) : D.call 42 [encI l, encI l] σ = some (.bool true, σ) := by
  rw [H.f42]
  unfold sh_laws_eqIntS jn
  simp
  exact eqIntS_loop l _ σ hn l.length 0 (by omega) (by omega)
theorem sameFloat (H : Door D) (a : Nat) (σ : Store) : D.call 40 [.flt a, .flt a] σ = some (.bool true, σ) := by
  rw [H.f40]
  unfold sh_laws_sameFloat jn
  have e1 : bin .neq .num (.flt a) (.flt a) = some (.bool (fltOrd a a != some .eq)) := rfl
  have e2 : bin .eql .num (.flt a) (.flt a) = some (.bool (fltOrd a a == some .eq)) := rfl
  have e3 : bin .eql .num (.flt a) (.flt 0) = some (.bool (fltOrd a 0 == some .eq)) := rfl
  have e4 : ∀ o : Option Nat, ∃ b, bin .gtr .num (fnum o) (.flt 0) = some (.bool b) := fun o => by cases o <;> exact ⟨_, rfl⟩
  have e5 : bin .quo .num (.flt 4607182418800017408) (.flt a) = some (fnum (FloatKind.f64.format.div 4607182418800017408 a)) := rfl
  have e6 : ∀ b : Bool, bin .eql .bool (.bool b) (.bool b) = some (.bool true) := fun b => by simp [bin, eqV]
  obtain ⟨b, hb⟩ := e4 (FloatKind.f64.format.div 4607182418800017408 a)
  cases h : (fltOrd a a == some .eq)
  · have h' : (fltOrd a a != some .eq) = true := by simp [bne, h]
    simp [e1, h']
  · have h' : (fltOrd a a != some .eq) = false := by simp [bne, h]
    cases h3 : (fltOrd a 0 == some .eq)
    · simp [e1, e2, e3, h, h', h3]
    · simp [e1, e3, h', h3, e5, hb, e6]
theorem eqPart (H : Door D) (p : LPart) (hp : p.Small) (σ : Store) : D.call 29 [.agg (encPart p), .agg (encPart p)] σ = some (.bool true, σ) := by
  rw [H.f29]
  unfold sh_laws_eqPart
  have v1 : callV D 40 [.flt p.flt, .flt p.flt] σ = some (.bool true) := callV_eq (by simp [depth]) (sameFloat H p.flt Store.empty) rfl
  have v2 : callV D 41 [encS p.names, encS p.names] σ = some (.bool true) := callV_eq (by simp [depth]) (eqStringS H p.names hp.names Store.empty) rfl
  have v3 : callV D 42 [encI p.kids, encI p.kids] σ = some (.bool true) := callV_eq (by simp [depth]) (eqIntS H p.kids hp.kids Store.empty) rfl
  simp [encPart, v1, v2, v3]
theorem eqPartS_loop (H : Door D) (l : List LPart) (hl : ∀ p ∈ l, p.Small) (k : Cur 0) (σ : Store) (hn : l.length ≤ 1048576) : ∀ (n i : Nat), n = l.length - i → i ≤ l.length →
    lpFix 1 (lp_laws_eqPartS_1 D (encParts l) (encParts l) k) (.int .i64 i) σ = k σ := by
  intro n
  induction n with
  | zero =>
    intro i hi h1
    rw [lpFix_eq (lp_laws_eqPartS_1_mono _ _ _ _)]
    have : ¬ (i < l.length) := by omega
    simp [lp_laws_eqPartS_1, this]
  | succ n ih =>
    intro i hi h1
    have hil : i < l.length := by omega
    have hs : l[i]? = some l[i] := List.getElem?_eq_getElem hil
    have v1 : callV D 29 [.agg (encPart l[i]), .agg (encPart l[i])] σ = some (.bool true) := callV_eq (by simp [depth]) (eqPart H l[i] (hl _ (List.getElem_mem hil)) Store.empty) rfl
    rw [lpFix_eq (lp_laws_eqPartS_1_mono _ _ _ _)]
    simp [lp_laws_eqPartS_1, hil, idx_encParts hs, v1, bin_add (a := i) (b := 1) (by omega) (by omega)]
    exact ih (i + 1) (by omega) (by omega)
theorem eqTree (H : Door D) (l : List LPart) (hl : SmallTree l) (σ : Store) : D.call 9 [encTree l, encTree l] σ = some (.bool true, σ) := by
  rw [H.f9]
  unfold sh_laws_eqTree
  have c1 : D.call 15 [encParts l, encParts l] Store.empty = some (.bool true, Store.empty) := by
    rw [H.f15]
    unfold sh_laws_eqPartS jn
    simp
    exact eqPartS_loop H l hl.part _ Store.empty hl.len l.length 0 (by omega) (by omega)
  have v1 : callV D 15 [encParts l, encParts l] σ = some (.bool true) := callV_eq (by simp [depth]) c1 rfl
  simp [encTree, v1]
def encWrong (c p : Int) : AV := .agg [.int .i64 c, .int .i64 p]
theorem eqWrong (H : Door D) (c p : Int) (σ : Store) : D.call 8 [encWrong c p, encWrong c p] σ = some (.bool true, σ) := by
  rw [H.f8]
  unfold sh_laws_eqWrong
  simp [encWrong]
end
end Go.Asm.DoorF
