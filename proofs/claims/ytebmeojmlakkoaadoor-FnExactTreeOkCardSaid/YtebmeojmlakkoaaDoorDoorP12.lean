import Derived.Test.YtebmeojmlakkoaaDoorDoorP11
set_option linter.all false
namespace Go.Asm.DoorF
open Go Go.Asm
/-- How partShape judges a part: its seven findings put together. -/
def shapeEnd (p : LPart) (num flt txt op ok : Bool) (minN maxN : Int) : Bool :=
  ok && decide (minN ≤ p.names.length) && decide ((p.names.length : Int) ≤ maxN) && p.names.all nameOk &&
    (decide (0 ≤ p.fro) && decide (p.fro ≤ p.to) && decide ((if isStat p.kind = true then 1 else 0) ≤ p.line) && decide (p.line ≤ 100000)) &&
    ((num || decide (p.num = 0)) && (flt || flt0 p.flt) && (txt || decide (p.text.toList = [])) && (op || decide (p.op = 0)))
section
variable {D : Ctx} (H : Door D)
theorem shnames_loop (hG : KeyWords D.G) (p : LPart) (hn : p.names.length ≤ 1048576) (hs : ∀ s ∈ p.names, s.size ≤ 1048576) (k : Cur 0) (σ : Store) (H : Door D) : ∀ (n i : Nat), n = p.names.length - i → i ≤ p.names.length →
    lpFix 1 (lp_impl_partShape_1 D (.int .i64 p.names.length) (encS p.names) k) (.int .i64 i) σ = if (p.names.drop i).all nameOk then k σ else some (.bool false, σ) := by
  intro n
  induction n with
  | zero =>
    intro i hi h1
    rw [lpFix_eq (lp_impl_partShape_1_mono _ _ _ _)]
    have : ¬ (i < p.names.length) := by omega
    have e : p.names.drop i = [] := List.drop_eq_nil_of_le (by omega)
    simp [lp_impl_partShape_1, this, e]
  | succ n ih =>
    intro i hi h1
    have hil : i < p.names.length := by omega
    have hse : p.names[i]? = some p.names[i] := List.getElem?_eq_getElem hil
    have hsz := hs _ (List.getElem_mem hil)
    have ih' := ih (i + 1) (by omega) (by omega)
    rw [lpFix_eq (lp_impl_partShape_1_mono _ _ _ _)]
    generalize lpFix 1 (lp_impl_partShape_1 D (.int .i64 p.names.length) (encS p.names) k) = R at ih' ⊢
    rw [List.drop_eq_getElem_cons hil]
    have e1 : ((i : Int) + 1) = ((i + 1 : Nat) : Int) := by omega
    have v1 : callV D 27 [.str p.names[i]] σ = some (.bool (nameOk p.names[i])) := callV_eq (by simp [depth]) (isName H hG _ hsz Store.empty) rfl
    simp only [lp_impl_partShape_1, bin_lss, Option.bind_some, aCase_bool, idx_encS hse, rd1_p, List.getElem?_cons_zero, v1, un_not, bin_add (a := i) (b := 1) (by omega) (by omega), e1, ih', List.all_cons]
    rw [if_pos (by simpa using hil)]
    by_cases hc : nameOk p.names[i] = true <;> simp [hc]
theorem shape_end (hG : KeyWords D.G) (p : LPart) (hp : p.Small) (hs : ∀ s ∈ p.names, s.size ≤ 1048576) (num flt txt op ok : Bool) (minN maxN : Int) (σ : Store) (H : Door D) :
    jk_impl_partShape_27 D (.agg (encPart p)) (.bool num) (.bool flt) (.bool txt) (.bool op) (.bool ok) (.int .i64 minN) (.int .i64 maxN) σ = some (.bool (shapeEnd p num flt txt op ok minN maxN), σ) := by
  unfold jk_impl_partShape_27 jn
  have v25 : ∀ σ, callV D 25 [.int .i64 p.kind] σ = some (.bool (isStat p.kind)) := fun σ => callV_eq (by simp [depth]) (partStmt H p.kind Store.empty) rfl
  have e : bin .eql .num (.flt p.flt) (.flt 0) = some (.bool (flt0 p.flt)) := rfl
  have e0 : (⟨#[]⟩ : ByteArray).toList = [] := by rw [ByteArray.toList_eq]
  have e2 : bin .eql .num (.str p.text) (.str ⟨#[]⟩) = some (.bool (decide (p.text.toList = []))) := by rw [bin_seq, e0]
  simp only [un_not, Option.bind_some, cells_agg, part_rd8, part_rd0, part_rd1, part_rd2, part_rd3, part_rd4, part_rd5, part_rd6, part_rd7, len_encS, bin_lss, bin_gtr, bin_eql, aCase_bool, v25, e, e2]
  cases ok with
  | false => simp [shapeEnd]
  | true =>
    by_cases h1 : (p.names.length : Int) < minN
    · have : ¬ minN ≤ p.names.length := by omega
      simp [shapeEnd, h1, this]
    by_cases h2 : maxN < p.names.length
    · have : ¬ (p.names.length : Int) ≤ maxN := by omega
      simp [shapeEnd, h1, h2, this]
    have hl : ∀ k σ, lpFix 1 (lp_impl_partShape_1 D (.int .i64 p.names.length) (encS p.names) k) (.int .i64 0) σ = if p.names.all nameOk then k σ else some (.bool false, σ) := fun k σ => shnames_loop hG p hp.names hs k σ H p.names.length 0 rfl (by omega)
    have t1 : minN ≤ p.names.length := by omega
    have t2 : (p.names.length : Int) ≤ maxN := by omega
    simp only [h1, h2, decide_false, Bool.not_true, Bool.false_eq_true, if_false]
    refine Eq.trans (hl _ σ) ?_
    unfold shapeEnd
    simp only [t1, t2, decide_true, Bool.true_and]
    by_cases b0 : p.names.all nameOk = true
    · have c1 : (0 ≤ p.fro) = ¬ (p.fro < 0) := propext ⟨fun h => by omega, fun h => by omega⟩
      have c2 : (p.fro ≤ p.to) = ¬ (p.to < p.fro) := propext ⟨fun h => by omega, fun h => by omega⟩
      have c3 : ((if isStat p.kind = true then 1 else 0) ≤ p.line) = ¬ (p.line < (if isStat p.kind = true then 1 else 0)) := propext ⟨fun h => by omega, fun h => by omega⟩
      have c4 : (p.line ≤ 100000) = ¬ (100000 < p.line) := propext ⟨fun h => by omega, fun h => by omega⟩
      simp only [b0, if_true, c1, c2, c3, c4, decide_not, Bool.true_and]
      by_cases b1 : p.fro < 0
      · cases isStat p.kind <;> simp [b1]
      by_cases b2 : p.to < p.fro
      · cases isStat p.kind <;> simp [b1, b2]
      cases hk : isStat p.kind <;> simp only [Bool.false_eq_true, if_false, if_true]
      · by_cases b3 : p.line < 0
        · simp [b1, b2, b3]
        by_cases b4 : 100000 < p.line
        · simp [b1, b2, b3, b4]
        cases num <;> cases flt <;> cases txt <;> cases op <;> by_cases g1 : p.num = 0 <;> cases g2 : flt0 p.flt <;> by_cases g3 : p.text.toList = [] <;> simp [b1, b2, b3, b4, g1, g3]
      · by_cases b3 : p.line < 1
        · simp [b1, b2, b3]
        by_cases b4 : 100000 < p.line
        · simp [b1, b2, b3, b4]
        cases num <;> cases flt <;> cases txt <;> cases op <;> by_cases g1 : p.num = 0 <;> cases g2 : flt0 p.flt <;> by_cases g3 : p.text.toList = [] <;> simp [b1, b2, b3, b4, g1, g3]
    · simp [b0]
end
end Go.Asm.DoorF
