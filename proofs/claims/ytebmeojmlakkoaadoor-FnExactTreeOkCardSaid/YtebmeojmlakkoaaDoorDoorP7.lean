import Derived.Test.YtebmeojmlakkoaaDoorDoorP6
set_option linter.all false
namespace Go.Asm.DoorF
open Go Go.Asm
section
variable {D : Ctx} {l : List LPart} {p : LPart} {σ : Store} {G : Nat → Option AV}
@[simp] theorem part_rd0 : rd1 G (.pptr (encPart p) 0) σ = some (.int .i64 p.kind) := rfl
@[simp] theorem part_rd1 : rd1 G (.pptr (encPart p) 1) σ = some (.int .i64 p.fro) := rfl
@[simp] theorem part_rd2 : rd1 G (.pptr (encPart p) 2) σ = some (.int .i64 p.to) := rfl
@[simp] theorem part_rd3 : rd1 G (.pptr (encPart p) 3) σ = some (.int .i64 p.line) := rfl
@[simp] theorem part_rd4 : rd1 G (.pptr (encPart p) 4) σ = some (.int .i64 p.op) := rfl
@[simp] theorem part_rd5 : rd1 G (.pptr (encPart p) 5) σ = some (.int .i64 p.num) := rfl
@[simp] theorem part_rd6 : rd1 G (.pptr (encPart p) 6) σ = some (.flt p.flt) := rfl
@[simp] theorem part_rd7 : rd1 G (.pptr (encPart p) 7) σ = some (.str p.text) := rfl
@[simp] theorem part_rd8 : rd1 G (.pptr (encPart p) 8) σ = some (encS p.names) := rfl
@[simp] theorem part_rd9 : rd1 G (.pptr (encPart p) 9) σ = some (encI p.kids) := rfl
@[simp] theorem part_at0 : (encPart p)[0]? = some (.int .i64 p.kind) := rfl
@[simp] theorem part_at1 : (encPart p)[1]? = some (.int .i64 p.fro) := rfl
@[simp] theorem part_at2 : (encPart p)[2]? = some (.int .i64 p.to) := rfl
@[simp] theorem part_at3 : (encPart p)[3]? = some (.int .i64 p.line) := rfl
@[simp] theorem part_at4 : (encPart p)[4]? = some (.int .i64 p.op) := rfl
@[simp] theorem part_at5 : (encPart p)[5]? = some (.int .i64 p.num) := rfl
@[simp] theorem part_at6 : (encPart p)[6]? = some (.flt p.flt) := rfl
@[simp] theorem part_at7 : (encPart p)[7]? = some (.str p.text) := rfl
@[simp] theorem part_at8 : (encPart p)[8]? = some (encS p.names) := rfl
@[simp] theorem part_at9 : (encPart p)[9]? = some (encI p.kids) := rfl
@[simp] theorem tree_rdN : rdN 1 (.pptr (AV.cells (encTree l)) 0) σ = some [encParts l] := rfl
@[simp] theorem tree_rd : rd1 G (.pptr (AV.cells (encTree l)) 0) σ = some (encParts l) := rfl

theorem drop_kinds {i : Nat} (hil : i < p.kids.length) : (kinds l p).drop i = kd (kinds l p) i :: (kinds l p).drop (i + 1) := by
  have hkl : i < (kinds l p).length := by simpa [kinds] using hil
  rw [List.drop_eq_getElem_cons hkl]
  simp [kd, hkl]

theorem stat2_loop (L : Looks D l p) (hn : p.kids.length ≤ 1048576) (k : Cur 0) (σ : Store) : ∀ (n i : Nat), n = p.kids.length - i → i ≤ p.kids.length →
    lpFix 1 (lp_spec_l6statement_2 D (.int .i64 p.kids.length) (encTree l) (.agg (encPart p)) k) (.int .i64 i) σ = if ((kinds l p).drop i).all isStat then k σ else some (.bool false, σ) := by
  intro n
  induction n with
  | zero =>
    intro i hi h1
    rw [lpFix_eq (lp_spec_l6statement_2_mono _ _ _ _ _)]
    have : ¬ (i < p.kids.length) := by omega
    have e : (kinds l p).drop i = [] := List.drop_eq_nil_of_le (by simp [kinds]; omega)
    simp [lp_spec_l6statement_2, this, e]
  | succ n ih =>
    intro i hi h1
    have hil : i < p.kids.length := by omega
    have v32 := L.v32 i σ (by omega) (by omega)
    have ih' := ih (i + 1) (by omega) (by omega)
    rw [lpFix_eq (lp_spec_l6statement_2_mono _ _ _ _ _)]
    generalize lpFix 1 (lp_spec_l6statement_2 D (.int .i64 p.kids.length) (encTree l) (.agg (encPart p)) k) = R at ih' ⊢
    rw [drop_kinds hil]
    have e1 : ((i : Int) + 1) = ((i + 1 : Nat) : Int) := by omega
    simp only [lp_spec_l6statement_2, bin_lss, Option.bind_some, aCase_bool, tree_rdN, cells_agg, rdN_part, v32, L.v17, un_not, bin_add (a := i) (b := 1) (by omega) (by omega), e1, ih', List.all_cons]
    rw [if_pos (by simpa using hil)]
    by_cases hc : isStat (kd (kinds l p) i) = true <;> simp [hc]

theorem stat1_loop (L : Looks D l p) (hn : p.kids.length ≤ 1048576) (h0 : 0 ≤ p.num) (hnum : p.num ≤ p.kids.length) (k : Cur 0) (σ : Store) : ∀ (n i : Nat), n = p.num.toNat - i → i ≤ p.num.toNat →
    lpFix 1 (lp_spec_l6statement_1 D (.agg (encPart p)) (encTree l) k) (.int .i64 i) σ = if (((kinds l p).take p.num.toNat).drop i).all isTarget then k σ else some (.bool false, σ) := by
  intro n
  induction n with
  | zero =>
    intro i hi h1
    rw [lpFix_eq (lp_spec_l6statement_1_mono _ _ _ _)]
    have : ¬ ((i : Int) < p.num) := by omega
    have e : ((kinds l p).take p.num.toNat).drop i = [] := List.drop_eq_nil_of_le (by simp; omega)
    simp [lp_spec_l6statement_1, this, e]
  | succ n ih =>
    intro i hi h1
    have hil : i < p.kids.length := by omega
    have hlt : (i : Int) < p.num := by omega
    have v32 := L.v32 i σ (by omega) (by omega)
    have ih' := ih (i + 1) (by omega) (by omega)
    rw [lpFix_eq (lp_spec_l6statement_1_mono _ _ _ _)]
    generalize lpFix 1 (lp_spec_l6statement_1 D (.agg (encPart p)) (encTree l) k) = R at ih' ⊢
    have hkl : i < ((kinds l p).take p.num.toNat).length := by simp [kinds]; omega
    have hkv : ((kinds l p).take p.num.toNat)[i] = kd (kinds l p) i := by
      have : i < (kinds l p).length := by simpa [kinds] using hil
      simp [kd, this]
    rw [List.drop_eq_getElem_cons hkl, hkv]
    have e1 : ((i : Int) + 1) = ((i + 1 : Nat) : Int) := by omega
    simp only [lp_spec_l6statement_1, bin_lss, Option.bind_some, aCase_bool, tree_rdN, cells_agg, rdN_part, part_rd5, v32, L.v36, un_not, bin_add (a := i) (b := 1) (by omega) (by omega), e1, ih', List.all_cons]
    rw [if_pos (by simpa using hlt)]
    by_cases hc : isTarget (kd (kinds l p) i) = true <;> simp [hc]
end
end Go.Asm.DoorF
