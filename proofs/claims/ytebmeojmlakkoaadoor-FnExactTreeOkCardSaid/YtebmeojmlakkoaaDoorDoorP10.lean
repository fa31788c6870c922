import Derived.Test.YtebmeojmlakkoaaDoorDoorP9
set_option linter.all false
namespace Go.Asm.DoorF
open Go Go.Asm
def headOk (p : LPart) : Bool := decide (0 ≤ p.fro) && decide (p.fro ≤ p.to) && decide (0 ≤ p.line) && decide (p.line ≤ 100000) && decide (p.kids.length ≤ 200) && !(isStat p.kind && decide (p.line = 0))
def kidsIn (p : LPart) (n : Int) : Bool := p.kids.all fun c => decide (0 ≤ c) && decide (c < n)
/-- What the specification wants of a part at place i. -/
def nodeOk (l : List LPart) (p : LPart) (i : Int) : Bool := headOk p && kidsIn p i && (if isStat p.kind = true then stmtOk p (kinds l p) else exprOk p (kinds l p))
section
variable {D : Ctx} (H : Door D) {l : List LPart} {p : LPart}
theorem nodekids_loop (hn : p.kids.length ≤ 1048576) (m : Int) (k : Cur 0) (σ : Store) : ∀ (n i : Nat), n = p.kids.length - i → i ≤ p.kids.length →
    lpFix 1 (lp_spec_l6nodeok_1 D (.int .i64 p.kids.length) (encI p.kids) (.int .i64 m) k) (.int .i64 i) σ = if (p.kids.drop i).all (fun c => decide (0 ≤ c) && decide (c < m)) then k σ else some (.bool false, σ) := by
  intro n
  induction n with
  | zero =>
    intro i hi h1
    rw [lpFix_eq (lp_spec_l6nodeok_1_mono _ _ _ _ _)]
    have : ¬ (i < p.kids.length) := by omega
    have e : p.kids.drop i = [] := List.drop_eq_nil_of_le (by omega)
    simp [lp_spec_l6nodeok_1, this, e]
  | succ n ih =>
    intro i hi h1
    have hil : i < p.kids.length := by omega
    have hse : p.kids[i]? = some p.kids[i] := List.getElem?_eq_getElem hil
    have ih' := ih (i + 1) (by omega) (by omega)
    rw [lpFix_eq (lp_spec_l6nodeok_1_mono _ _ _ _ _)]
    generalize lpFix 1 (lp_spec_l6nodeok_1 D (.int .i64 p.kids.length) (encI p.kids) (.int .i64 m) k) = R at ih' ⊢
    rw [List.drop_eq_getElem_cons hil]
    have e1 : ((i : Int) + 1) = ((i + 1 : Nat) : Int) := by omega
    unfold lp_spec_l6nodeok_1 jn
    simp only [bin_lss, bin_geq, Option.bind_some, aCase_bool, idx_encI hse, rd1_p, List.getElem?_cons_zero, bin_add (a := i) (b := 1) (by omega) (by omega), e1, ih', List.all_cons]
    rw [if_pos (by simpa using hil)]
    by_cases a1 : p.kids[i] < 0
    · have : ¬ 0 ≤ p.kids[i] := by omega
      simp [a1, this]
    · by_cases a2 : m ≤ p.kids[i]
      · have : ¬ p.kids[i] < m := by omega
        simp [a1, a2, this]
      · have t1 : 0 ≤ p.kids[i] := by omega
        have t2 : p.kids[i] < m := by omega
        simp [a1, a2, t1, t2]
theorem l6nodeok (H : Door D) (hp : p.Small) (hs : ∀ s ∈ p.names, s.size ≤ 1048576) (i : Nat) (hi : l[i]? = some p) (σ : Store) : D.call 11 [encTree l, .int .i64 i] σ = some (.bool (nodeOk l p i), σ) := by
  have hil : i < l.length := (List.getElem?_eq_some_iff.1 hi).1
  rw [H.f11]
  unfold sh_spec_l6nodeok jn
  have ha : asplit 10 (.agg (encPart p)) = some (encPart p) := rfl
  have v17 : ∀ k σ, callV D 17 [.int .i64 k] σ = some (.bool (isStat k)) := fun k σ => callV_eq (by simp [depth]) (l6stat H k Store.empty) rfl
  simp only [tree_rd, Option.bind_some, idx_encParts hi, rdN_part, ha, part_rd1, part_rd2, part_rd3, part_rd9, part_rd0, bin_lss, bin_gtr, bin_eql, aCase_bool, len_encI, v17, tree_rdN]
  have hl := nodekids_loop (D := D) hp.kids (i : Int) (fun s_26 => if isStat p.kind = true then (callV D 18 [.agg [encParts l], .agg (encPart p)] s_26).bind fun t_32 => some (t_32, s_26) else (callV D 19 [.agg [encParts l], .agg (encPart p)] s_26).bind fun t_35 => some (t_35, s_26)) σ p.kids.length 0 (by omega) (by omega)
  rw [List.drop_zero] at hl
  have e0 : ((0 : Nat) : Int) = 0 := rfl
  rw [e0] at hl
  rw [hl]
  clear hl
  have fin : kidsIn p i = true → (if isStat p.kind = true then (callV D 18 [.agg [encParts l], .agg (encPart p)] σ).bind fun t_32 => some (t_32, σ) else (callV D 19 [.agg [encParts l], .agg (encPart p)] σ).bind fun t_35 => some (t_35, σ)) =
      some (AV.bool (if isStat p.kind = true then stmtOk p (kinds l p) else exprOk p (kinds l p)), σ) := by
    intro hk
    have hk' : KidsOk l p := by
      unfold kidsIn at hk
      rw [List.all_eq_true] at hk
      refine ⟨fun c hc => ?_, fun c hc => ?_⟩ <;> have := hk c hc <;> simp at this <;> omega
    have L := looks H l p hp hs hk'
    have s1 : callV D 18 [.agg [encParts l], .agg (encPart p)] σ = some (.bool (stmtOk p (kinds l p))) := callV_eq (args := [encTree l, .agg (encPart p)]) (by simp [depth]) (l6statement H L hp.kids Store.empty) rfl
    have s2 : callV D 19 [.agg [encParts l], .agg (encPart p)] σ = some (.bool (exprOk p (kinds l p))) := callV_eq (args := [encTree l, .agg (encPart p)]) (by simp [depth]) (l6expression H L hp.kids Store.empty) rfl
    rw [s1, s2]
    by_cases hc : isStat p.kind = true <;> simp [hc]
  change _ = some (AV.bool (headOk p && kidsIn p i && _), σ)
  by_cases hk : kidsIn p i = true
  · rw [fin hk]
    have hk2 : (p.kids.all fun c => decide (0 ≤ c) && decide (c < (i : Int))) = true := hk
    rw [hk2, hk]
    generalize (if isStat p.kind = true then stmtOk p (kinds l p) else exprOk p (kinds l p)) = z
    have c1 : (0 ≤ p.fro) = ¬ (p.fro < 0) := propext ⟨fun h => by omega, fun h => by omega⟩
    have c2 : (p.fro ≤ p.to) = ¬ (p.to < p.fro) := propext ⟨fun h => by omega, fun h => by omega⟩
    have c3 : (0 ≤ p.line) = ¬ (p.line < 0) := propext ⟨fun h => by omega, fun h => by omega⟩
    have c4 : (p.line ≤ 100000) = ¬ (100000 < p.line) := propext ⟨fun h => by omega, fun h => by omega⟩
    have c5 : (p.kids.length ≤ 200) = ¬ ((200 : Int) < p.kids.length) := propext ⟨fun h => by omega, fun h => by omega⟩
    have eh : headOk p = (!decide (p.fro < 0) && !decide (p.to < p.fro) && !decide (p.line < 0) && !decide (100000 < p.line) && !decide ((200 : Int) < p.kids.length) && !(isStat p.kind && decide (p.line = 0))) := by
      unfold headOk
      simp only [c1, c2, c3, c4, c5, decide_not]
    rw [eh]
    clear c1 c2 c3 c4 c5 fin hk hk2 v17 ha eh
    by_cases b1 : p.fro < 0
    · simp [b1]
    by_cases b2 : p.to < p.fro
    · simp [b1, b2]
    by_cases b3 : p.line < 0
    · simp [b1, b2, b3]
    by_cases b4 : 100000 < p.line
    · simp [b1, b2, b3, b4]
    by_cases b5 : (200 : Int) < p.kids.length
    · simp only [b1, b2, b3, b4, b5, decide_false, decide_true, Bool.false_eq_true, if_false, if_true]
      simp
    by_cases b6 : isStat p.kind = true
    · by_cases b7 : p.line = 0
      · simp only [b1, b2, b3, b4, b5, b6, b7, decide_false, decide_true, Bool.false_eq_true, if_false, if_true]
        simp
      · simp only [b1, b2, b3, b4, b5, b6, b7, decide_false, decide_true, Bool.false_eq_true, if_false, if_true]
        simp
    · simp only [b1, b2, b3, b4, b5, b6, decide_false, decide_true, Bool.false_eq_true, if_false, if_true]
      simp [b6]
  · have hk2 : (p.kids.all fun c => decide (0 ≤ c) && decide (c < (i : Int))) = false := by simpa [kidsIn] using hk
    have hk3 : kidsIn p i = false := by simpa using hk
    rw [hk2, hk3]
    simp
end
end Go.Asm.DoorF
