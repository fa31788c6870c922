import Derived.Test.YtebmeojmlakkoaaDoorDoorP12
set_option linter.all false
namespace Go.Asm.DoorF
open Go Go.Asm
def alls (Q : Int → Bool) (ks : List Int) (a b : Int) : Bool := ((ks.take b.toNat).drop a.toNat).all Q
def isEntry (k : Int) : Bool := decide (40 ≤ k) && decide (k ≤ 42)
/-- What partShape makes of a part, its kids' and names' numbers in bounds. -/
def shapeMid (p : LPart) (ks : List Int) : Bool :=
  if p.kind = 1 then shapeEnd p false false false false (alls isStat ks 0 ks.length) 0 0
  else if p.kind = 2 then shapeEnd p false false false false (alls isExpr ks 0 ks.length) 1 9223372036854775807
  else if p.kind = 3 then shapeEnd p false false false false ((decide ((ks.length : Int) = 1) && isExpr (kd ks 0))) 1 1
  else if p.kind = 4 then shapeEnd p false false false false ((decide ((ks.length : Int) = 1) && decide (kd ks 0 = 36))) 1 1
  else if p.kind = 5 then decide (1 ≤ p.num) && decide (p.num < (ks.length : Int)) && shapeEnd p true false false false (alls isTarget ks 0 p.num && alls isExpr ks p.num ks.length) 0 0
  else if p.kind = 6 then shapeEnd p false false false false ((decide ((ks.length : Int) = 1) && decide (kd ks 0 = 34))) 0 0
  else if p.kind = 7 then shapeEnd p false false false false (((decide ((ks.length : Int) = 2) || decide ((ks.length : Int) = 3)) && isExpr (kd ks 0) && decide (kd ks 1 = 1) && (decide ((ks.length : Int) = 2) || (decide (kd ks 2 = 1) || decide (kd ks 2 = 7))))) 0 0
  else if p.kind = 8 then shapeEnd p false false false false ((decide ((ks.length : Int) = 2) && isExpr (kd ks 0) && decide (kd ks 1 = 1))) 0 0
  else if p.kind = 9 then shapeEnd p false false false false (((decide ((ks.length : Int) = 3) || decide ((ks.length : Int) = 4)) && alls isExpr ks 0 (ks.length - 1) && decide (kd ks (ks.length - 1) = 1))) 1 1
  else if p.kind = 10 then shapeEnd p false false false false ((decide ((ks.length : Int) = 2) && isExpr (kd ks 0) && decide (kd ks 1 = 1))) 1 9223372036854775807
  else if p.kind = 11 then shapeEnd p false false false false (decide ((ks.length : Int) = 0)) 0 0
  else if p.kind = 12 then shapeEnd p false false false false (decide ((ks.length : Int) = 0)) 0 0
  else if p.kind = 13 then shapeEnd p false false false false (alls isExpr ks 0 ks.length) 0 0
  else if p.kind = 14 then shapeEnd p false false false false ((decide ((ks.length : Int) = 2) && decide (kd ks 0 = 1) && decide (kd ks 1 = 1))) 1 2
  else if p.kind = 15 then shapeEnd p false false false false ((decide ((ks.length : Int) = 1) && isExpr (kd ks 0))) 0 0
  else if p.kind = 16 then shapeEnd p false false false false ((decide ((ks.length : Int) = 1) && decide (kd ks 0 = 34))) 0 0
  else if p.kind = 20 then shapeEnd p false false false false (decide ((ks.length : Int) = 0)) 0 0
  else if p.kind = 21 then shapeEnd p false false false false (decide ((ks.length : Int) = 0)) 0 0
  else if p.kind = 22 then shapeEnd p false false false false (decide ((ks.length : Int) = 0)) 0 0
  else if p.kind = 23 then shapeEnd p true false false false (decide ((ks.length : Int) = 0)) 0 0
  else if p.kind = 24 then shapeEnd p false true false false ((decide ((ks.length : Int) = 0) && fltSame p.flt)) 0 0
  else if p.kind = 25 then shapeEnd p false false true false ((decide ((ks.length : Int) = 0) && decide ((p.text.size : Int) ≤ 4000))) 0 0
  else if p.kind = 26 then shapeEnd p false false true false ((decide ((ks.length : Int) = 0) && nameOk p.text)) 0 0
  else if p.kind = 27 then shapeEnd p false false false false (decide ((ks.length : Int) = 0)) 0 0
  else if p.kind = 28 then shapeEnd p false false false false ((decide ((ks.length : Int) = 2) && alls isExpr ks 0 2)) 0 0
  else if p.kind = 29 then shapeEnd p false false false false ((decide ((ks.length : Int) = 2) && alls isExpr ks 0 2)) 0 0
  else if p.kind = 30 then shapeEnd p false false false true ((decide ((ks.length : Int) = 1) && isExpr (kd ks 0) && decide (19 ≤ p.op) && decide (p.op ≤ 22))) 0 0
  else if p.kind = 31 then shapeEnd p false false false true ((decide ((ks.length : Int) = 2) && alls isExpr ks 0 2 && decide (1 ≤ p.op) && decide (p.op ≤ 18))) 0 0
  else if p.kind = 32 then shapeEnd p false false false false ((decide ((ks.length : Int) = 2) && isBase (kd ks 0) && isExpr (kd ks 1))) 0 0
  else if p.kind = 33 then shapeEnd p false false true false ((decide ((ks.length : Int) = 1) && isBase (kd ks 0) && nameOk p.text)) 0 0
  else if p.kind = 34 then shapeEnd p false false false false ((decide (1 ≤ (ks.length : Int)) && isBase (kd ks 0) && alls isExpr ks 1 ks.length)) 0 0
  else if p.kind = 35 then shapeEnd p false false false false (alls isEntry ks 0 ks.length) 0 0
  else if p.kind = 36 then shapeEnd p false false false true ((decide ((ks.length : Int) = 1) && decide (kd ks 0 = 1) && (decide (p.op = 0) || decide (p.op = 1)))) 0 9223372036854775807
  else if p.kind = 37 then shapeEnd p false false false false ((decide ((ks.length : Int) = 1) && (decide (kd ks 0 = 34) || decide (kd ks 0 = 27)))) 0 0
  else if p.kind = 40 then shapeEnd p false false false false ((decide ((ks.length : Int) = 1) && isExpr (kd ks 0))) 0 0
  else if p.kind = 41 then shapeEnd p false false false false ((decide ((ks.length : Int) = 2) && alls isExpr ks 0 2)) 0 0
  else if p.kind = 42 then shapeEnd p false false true false ((decide ((ks.length : Int) = 1) && isExpr (kd ks 0) && nameOk p.text)) 0 0
  else shapeEnd p false false false false false 0 0
/-- What partShape calls. -/
structure PSub (D : Ctx) (p : LPart) (ks : List Int) (a1 : AV) : Prop where
  len : ks.length ≤ 1048576
  cells : AV.cells a1 = [a1]
  lenV : ∀ σ, lenV .sl a1 σ = some (.int .i64 ks.length)
  all24 : ∀ (a b : Int) σ, 0 ≤ a → a ≤ b → b ≤ ks.length → callD D (.func 21 [] [.pptr [a1] 0]) [.func 24 [] [], .int .i64 a, .int .i64 b] σ = some (.bool (alls isExpr ks a b), σ)
  all25 : ∀ (a b : Int) σ, 0 ≤ a → a ≤ b → b ≤ ks.length → callD D (.func 21 [] [.pptr [a1] 0]) [.func 25 [] [], .int .i64 a, .int .i64 b] σ = some (.bool (alls isStat ks a b), σ)
  all26 : ∀ (a b : Int) σ, 0 ≤ a → a ≤ b → b ≤ ks.length → callD D (.func 21 [] [.pptr [a1] 0]) [.func 26 [] [], .int .i64 a, .int .i64 b] σ = some (.bool (alls isTarget ks a b), σ)
  all28 : ∀ (a b : Int) σ, 0 ≤ a → a ≤ b → b ≤ ks.length → callD D (.func 21 [] [.pptr [a1] 0]) [.func 28 [] [], .int .i64 a, .int .i64 b] σ = some (.bool (alls isEntry ks a b), σ)
  is1 : ∀ (i a : Int) σ, 0 ≤ i → i < ks.length → callD D (.func 22 [] [.pptr [a1] 0]) [.int .i64 i, .pslice 1 [.agg [.int .i64 a]]] σ = some (.bool (decide (kd ks i = a)), σ)
  is2 : ∀ (i a b : Int) σ, 0 ≤ i → i < ks.length → callD D (.func 22 [] [.pptr [a1] 0]) [.int .i64 i, .pslice 1 [.agg [.int .i64 a], .agg [.int .i64 b]]] σ = some (.bool (decide (kd ks i = a) || decide (kd ks i = b)), σ)
  base : ∀ (k : Int) σ, callD D (.func 23 [] []) [.int .i64 k] σ = some (.bool (isBase k), σ)
  v24 : ∀ (k : Int) σ, callV D 24 [.int .i64 k] σ = some (.bool (isExpr k))
  v27 : ∀ σ, callV D 27 [.str p.text] σ = some (.bool (nameOk p.text))
  at_ : ∀ (i : Int), 0 ≤ i → i < ks.length → idx 1 a1 (.int .i64 i) = some (.pptr [.int .i64 (kd ks i)] 0)
  fin : ∀ num flt txt op ok a b σ, jk_impl_partShape_27 D (.agg (encPart p)) (.bool num) (.bool flt) (.bool txt) (.bool op) (.bool ok) (.int .i64 a) (.int .i64 b) σ = some (.bool (shapeEnd p num flt txt op ok a b), σ)
theorem bin_feq (a b : Nat) : bin .eql .num (.flt a) (.flt b) = some (.bool (fltOrd a b == some .eq)) := rfl
theorem bin_sub31 : bin .sub .num (.int .i64 3) (.int .i64 1) = some (.int .i64 2) := bin_sub (by decide) (by decide)
theorem bin_sub41 : bin .sub .num (.int .i64 4) (.int .i64 1) = some (.int .i64 3) := bin_sub (by decide) (by decide)
theorem cells_encI (ks : List Int) : AV.cells (encI ks) = [encI ks] := rfl
theorem kd_at {ks : List Int} {i : Int} (h0 : 0 ≤ i) (h1 : i < ks.length) : ks[i.toNat]? = some (kd ks i) := by
  have : i.toNat < ks.length := by omega
  simp [kd, this]
section
variable {D : Ctx}
theorem psub (H : Door D) (hG : KeyWords D.G) (p : LPart) (hp : p.Small) (hs : ∀ s ∈ p.names, s.size ≤ 1048576) (ks : List Int) (hn : ks.length ≤ 1048576) : PSub D p ks (encI ks) where
  len := hn
  cells := rfl
  lenV := fun σ => len_encI ks
  all24 := fun a b σ h1 h2 h3 => by
    have := all_ H 24 isExpr (fun x σ => partExpr H x σ) ks hn a.toNat b.toNat (by omega) (by omega) σ
    rw [show ((a.toNat : Nat) : Int) = a by omega, show ((b.toNat : Nat) : Int) = b by omega] at this
    exact this
  all25 := fun a b σ h1 h2 h3 => by
    have := all_ H 25 isStat (fun x σ => partStmt H x σ) ks hn a.toNat b.toNat (by omega) (by omega) σ
    rw [show ((a.toNat : Nat) : Int) = a by omega, show ((b.toNat : Nat) : Int) = b by omega] at this
    exact this
  all26 := fun a b σ h1 h2 h3 => by
    have := all_ H 26 isTarget (fun x σ => target_ H x σ) ks hn a.toNat b.toNat (by omega) (by omega) σ
    rw [show ((a.toNat : Nat) : Int) = a by omega, show ((b.toNat : Nat) : Int) = b by omega] at this
    exact this
  all28 := fun a b σ h1 h2 h3 => by
    have := all_ H 28 isEntry (fun x σ => entry_ H x σ) ks hn a.toNat b.toNat (by omega) (by omega) σ
    rw [show ((a.toNat : Nat) : Int) = a by omega, show ((b.toNat : Nat) : Int) = b by omega] at this
    exact this
  is1 := fun i a σ h0 h1 => by
    have := is_ H ks [a] i.toNat (kd ks i) (kd_at h0 h1) (by simp) σ
    rw [show ((i.toNat : Nat) : Int) = i by omega] at this
    refine Eq.trans this ?_
    simp
  is2 := fun i a b σ h0 h1 => by
    have := is_ H ks [a, b] i.toNat (kd ks i) (kd_at h0 h1) (by simp) σ
    rw [show ((i.toNat : Nat) : Int) = i by omega] at this
    refine Eq.trans this ?_
    simp
  base := fun k σ => base_ H k σ
  v24 := fun k σ => callV_eq (by simp [depth]) (partExpr H k Store.empty) rfl
  v27 := fun σ => callV_eq (by simp [depth]) (isName H hG p.text hp.text Store.empty) rfl
  at_ := fun i h0 h1 => by
    have := idx_encI (k := .i64) (kd_at h0 h1)
    rw [show ((i.toNat : Nat) : Int) = i by omega] at this
    exact this
  fin := fun num flt txt op ok a b σ => shape_end hG p hp hs num flt txt op ok a b σ H
theorem psub0 (H : Door D) (hG : KeyWords D.G) (p : LPart) (hp : p.Small) (hs : ∀ s ∈ p.names, s.size ≤ 1048576) : PSub D p [] (.pslice 0 []) where
  len := by simp
  cells := rfl
  lenV := fun σ => rfl
  all24 := fun a b σ h1 h2 h3 => by
    obtain rfl : b = 0 := by simp at h3; omega
    obtain rfl : a = 0 := by omega
    exact all_g H 24 isExpr (fun x σ => partExpr H x σ) (.pslice 0 []) [] (by simp) 0 0 (by simp) (by simp) rfl σ
  all25 := fun a b σ h1 h2 h3 => by
    obtain rfl : b = 0 := by simp at h3; omega
    obtain rfl : a = 0 := by omega
    exact all_g H 25 isStat (fun x σ => partStmt H x σ) (.pslice 0 []) [] (by simp) 0 0 (by simp) (by simp) rfl σ
  all26 := fun a b σ h1 h2 h3 => by
    obtain rfl : b = 0 := by simp at h3; omega
    obtain rfl : a = 0 := by omega
    exact all_g H 26 isTarget (fun x σ => target_ H x σ) (.pslice 0 []) [] (by simp) 0 0 (by simp) (by simp) rfl σ
  all28 := fun a b σ h1 h2 h3 => by
    obtain rfl : b = 0 := by simp at h3; omega
    obtain rfl : a = 0 := by omega
    exact all_g H 28 isEntry (fun x σ => entry_ H x σ) (.pslice 0 []) [] (by simp) 0 0 (by simp) (by simp) rfl σ
  is1 := fun i a σ h0 h1 => by simp at h1; omega
  is2 := fun i a b σ h0 h1 => by simp at h1; omega
  base := fun k σ => base_ H k σ
  v24 := fun k σ => callV_eq (by simp [depth]) (partExpr H k Store.empty) rfl
  v27 := fun σ => callV_eq (by simp [depth]) (isName H hG p.text hp.text Store.empty) rfl
  at_ := fun i h0 h1 => by simp at h1; omega
  fin := fun num flt txt op ok a b σ => shape_end hG p hp hs num flt txt op ok a b σ H
theorem ps_1 {p : LPart} {ks : List Int} {a1 : AV} (S : PSub D p ks a1) (n1 : ¬ (200 : Int) < ks.length) (n2 : ¬ (200 : Int) < p.names.length) (hk : p.kind = 1) (σ : Store) :
    sh_impl_partShape D (.agg (encPart p)) a1 σ = some (.bool (shapeEnd p false false false false (alls isStat ks 0 ks.length) 0 0), σ) := by
  have E1 : (p.kind = 1) = True := eq_true (by omega)
  have E2 : (p.kind = 2) = False := eq_false (by omega)
  have E3 : (p.kind = 3) = False := eq_false (by omega)
  have E4 : (p.kind = 4) = False := eq_false (by omega)
  have E5 : (p.kind = 5) = False := eq_false (by omega)
  have E6 : (p.kind = 6) = False := eq_false (by omega)
  have E7 : (p.kind = 7) = False := eq_false (by omega)
  have E8 : (p.kind = 8) = False := eq_false (by omega)
  have E9 : (p.kind = 9) = False := eq_false (by omega)
  have E10 : (p.kind = 10) = False := eq_false (by omega)
  have E11 : (p.kind = 11) = False := eq_false (by omega)
  have E12 : (p.kind = 12) = False := eq_false (by omega)
  have E13 : (p.kind = 13) = False := eq_false (by omega)
  have E14 : (p.kind = 14) = False := eq_false (by omega)
  have E15 : (p.kind = 15) = False := eq_false (by omega)
  have E16 : (p.kind = 16) = False := eq_false (by omega)
  have E20 : (p.kind = 20) = False := eq_false (by omega)
  have E21 : (p.kind = 21) = False := eq_false (by omega)
  have E22 : (p.kind = 22) = False := eq_false (by omega)
  have E23 : (p.kind = 23) = False := eq_false (by omega)
  have E24 : (p.kind = 24) = False := eq_false (by omega)
  have E25 : (p.kind = 25) = False := eq_false (by omega)
  have E26 : (p.kind = 26) = False := eq_false (by omega)
  have E27 : (p.kind = 27) = False := eq_false (by omega)
  have E28 : (p.kind = 28) = False := eq_false (by omega)
  have E29 : (p.kind = 29) = False := eq_false (by omega)
  have E30 : (p.kind = 30) = False := eq_false (by omega)
  have E31 : (p.kind = 31) = False := eq_false (by omega)
  have E32 : (p.kind = 32) = False := eq_false (by omega)
  have E33 : (p.kind = 33) = False := eq_false (by omega)
  have E34 : (p.kind = 34) = False := eq_false (by omega)
  have E35 : (p.kind = 35) = False := eq_false (by omega)
  have E36 : (p.kind = 36) = False := eq_false (by omega)
  have E37 : (p.kind = 37) = False := eq_false (by omega)
  have E40 : (p.kind = 40) = False := eq_false (by omega)
  have E41 : (p.kind = 41) = False := eq_false (by omega)
  have E42 : (p.kind = 42) = False := eq_false (by omega)
  unfold sh_impl_partShape jn
  simp only [jn, cells_agg, S.cells, rd1_p, List.getElem?_cons_zero, part_rd0, part_at0, S.lenV, len_encS, part_rd8, part_at8, Option.bind_some, bin_gtr, bin_eql, aCase_bool, n1, n2, E1, E2, E3, E4, E5, E6, E7, E8, E9, E10, E11, E12, E13, E14, E15, E16, E20, E21, E22, E23, E24, E25, E26, E27, E28, E29, E30, E31, E32, E33, E34, E35, E36, E37, E40, E41, E42, decide_false, decide_true, Bool.false_eq_true, if_false, if_true]
  unfold jb_impl_partShape_6 jn
  simp only [jn, cells_agg, S.cells, rd1_p, List.getElem?_cons_zero, part_rd0, part_at0, S.lenV, len_encS, part_rd8, part_at8, Option.bind_some, bin_gtr, bin_eql, aCase_bool, n1, n2, E1, E2, E3, E4, E5, E6, E7, E8, E9, E10, E11, E12, E13, E14, E15, E16, E20, E21, E22, E23, E24, E25, E26, E27, E28, E29, E30, E31, E32, E33, E34, E35, E36, E37, E40, E41, E42, decide_false, decide_true, Bool.false_eq_true, if_false, if_true]
  simp [jb_impl_partShape_4, jk_impl_partShape_1, jk_impl_partShape_2, jk_impl_partShape_3, jk_impl_partShape_4, jk_impl_partShape_5, jk_impl_partShape_6, jk_impl_partShape_7, jk_impl_partShape_8, jk_impl_partShape_9, jk_impl_partShape_10, jk_impl_partShape_11, jk_impl_partShape_12, jk_impl_partShape_13, jk_impl_partShape_14, jk_impl_partShape_15, jk_impl_partShape_16, jk_impl_partShape_17, jk_impl_partShape_18, jk_impl_partShape_19, jk_impl_partShape_20, jk_impl_partShape_21, jk_impl_partShape_22, jk_impl_partShape_23, jk_impl_partShape_24, jk_impl_partShape_25, jk_impl_partShape_26, S.all24, S.all25, S.all26, S.all28, S.is1, S.is2, S.base, S.v24, S.v27, S.at_, S.fin, bin_geq, bin_leq, bin_lss, bin_eql, lenV_str, part_rd4, part_rd5, part_rd6, part_rd7, bin_feq, bin_sub31, bin_sub41, fltSame]
  try all_goals ((repeat' split) <;> simp_all)
theorem ps_2 {p : LPart} {ks : List Int} {a1 : AV} (S : PSub D p ks a1) (n1 : ¬ (200 : Int) < ks.length) (n2 : ¬ (200 : Int) < p.names.length) (hk : p.kind = 2) (σ : Store) :
    sh_impl_partShape D (.agg (encPart p)) a1 σ = some (.bool (shapeEnd p false false false false (alls isExpr ks 0 ks.length) 1 9223372036854775807), σ) := by
  have E1 : (p.kind = 1) = False := eq_false (by omega)
  have E2 : (p.kind = 2) = True := eq_true (by omega)
  have E3 : (p.kind = 3) = False := eq_false (by omega)
  have E4 : (p.kind = 4) = False := eq_false (by omega)
  have E5 : (p.kind = 5) = False := eq_false (by omega)
  have E6 : (p.kind = 6) = False := eq_false (by omega)
  have E7 : (p.kind = 7) = False := eq_false (by omega)
  have E8 : (p.kind = 8) = False := eq_false (by omega)
  have E9 : (p.kind = 9) = False := eq_false (by omega)
  have E10 : (p.kind = 10) = False := eq_false (by omega)
  have E11 : (p.kind = 11) = False := eq_false (by omega)
  have E12 : (p.kind = 12) = False := eq_false (by omega)
  have E13 : (p.kind = 13) = False := eq_false (by omega)
  have E14 : (p.kind = 14) = False := eq_false (by omega)
  have E15 : (p.kind = 15) = False := eq_false (by omega)
  have E16 : (p.kind = 16) = False := eq_false (by omega)
  have E20 : (p.kind = 20) = False := eq_false (by omega)
  have E21 : (p.kind = 21) = False := eq_false (by omega)
  have E22 : (p.kind = 22) = False := eq_false (by omega)
  have E23 : (p.kind = 23) = False := eq_false (by omega)
  have E24 : (p.kind = 24) = False := eq_false (by omega)
  have E25 : (p.kind = 25) = False := eq_false (by omega)
  have E26 : (p.kind = 26) = False := eq_false (by omega)
  have E27 : (p.kind = 27) = False := eq_false (by omega)
  have E28 : (p.kind = 28) = False := eq_false (by omega)
  have E29 : (p.kind = 29) = False := eq_false (by omega)
  have E30 : (p.kind = 30) = False := eq_false (by omega)
  have E31 : (p.kind = 31) = False := eq_false (by omega)
  have E32 : (p.kind = 32) = False := eq_false (by omega)
  have E33 : (p.kind = 33) = False := eq_false (by omega)
  have E34 : (p.kind = 34) = False := eq_false (by omega)
  have E35 : (p.kind = 35) = False := eq_false (by omega)
  have E36 : (p.kind = 36) = False := eq_false (by omega)
  have E37 : (p.kind = 37) = False := eq_false (by omega)
  have E40 : (p.kind = 40) = False := eq_false (by omega)
  have E41 : (p.kind = 41) = False := eq_false (by omega)
  have E42 : (p.kind = 42) = False := eq_false (by omega)
  unfold sh_impl_partShape jn
  simp only [jn, cells_agg, S.cells, rd1_p, List.getElem?_cons_zero, part_rd0, part_at0, S.lenV, len_encS, part_rd8, part_at8, Option.bind_some, bin_gtr, bin_eql, aCase_bool, n1, n2, E1, E2, E3, E4, E5, E6, E7, E8, E9, E10, E11, E12, E13, E14, E15, E16, E20, E21, E22, E23, E24, E25, E26, E27, E28, E29, E30, E31, E32, E33, E34, E35, E36, E37, E40, E41, E42, decide_false, decide_true, Bool.false_eq_true, if_false, if_true]
  unfold jb_impl_partShape_6 jn
  simp only [jn, cells_agg, S.cells, rd1_p, List.getElem?_cons_zero, part_rd0, part_at0, S.lenV, len_encS, part_rd8, part_at8, Option.bind_some, bin_gtr, bin_eql, aCase_bool, n1, n2, E1, E2, E3, E4, E5, E6, E7, E8, E9, E10, E11, E12, E13, E14, E15, E16, E20, E21, E22, E23, E24, E25, E26, E27, E28, E29, E30, E31, E32, E33, E34, E35, E36, E37, E40, E41, E42, decide_false, decide_true, Bool.false_eq_true, if_false, if_true]
  simp [jb_impl_partShape_4, jk_impl_partShape_1, jk_impl_partShape_2, jk_impl_partShape_3, jk_impl_partShape_4, jk_impl_partShape_5, jk_impl_partShape_6, jk_impl_partShape_7, jk_impl_partShape_8, jk_impl_partShape_9, jk_impl_partShape_10, jk_impl_partShape_11, jk_impl_partShape_12, jk_impl_partShape_13, jk_impl_partShape_14, jk_impl_partShape_15, jk_impl_partShape_16, jk_impl_partShape_17, jk_impl_partShape_18, jk_impl_partShape_19, jk_impl_partShape_20, jk_impl_partShape_21, jk_impl_partShape_22, jk_impl_partShape_23, jk_impl_partShape_24, jk_impl_partShape_25, jk_impl_partShape_26, S.all24, S.all25, S.all26, S.all28, S.is1, S.is2, S.base, S.v24, S.v27, S.at_, S.fin, bin_geq, bin_leq, bin_lss, bin_eql, lenV_str, part_rd4, part_rd5, part_rd6, part_rd7, bin_feq, bin_sub31, bin_sub41, fltSame]
  try all_goals ((repeat' split) <;> simp_all)
theorem ps_3 {p : LPart} {ks : List Int} {a1 : AV} (S : PSub D p ks a1) (n1 : ¬ (200 : Int) < ks.length) (n2 : ¬ (200 : Int) < p.names.length) (hk : p.kind = 3) (σ : Store) :
    sh_impl_partShape D (.agg (encPart p)) a1 σ = some (.bool (shapeEnd p false false false false ((decide ((ks.length : Int) = 1) && isExpr (kd ks 0))) 1 1), σ) := by
  have E1 : (p.kind = 1) = False := eq_false (by omega)
  have E2 : (p.kind = 2) = False := eq_false (by omega)
  have E3 : (p.kind = 3) = True := eq_true (by omega)
  have E4 : (p.kind = 4) = False := eq_false (by omega)
  have E5 : (p.kind = 5) = False := eq_false (by omega)
  have E6 : (p.kind = 6) = False := eq_false (by omega)
  have E7 : (p.kind = 7) = False := eq_false (by omega)
  have E8 : (p.kind = 8) = False := eq_false (by omega)
  have E9 : (p.kind = 9) = False := eq_false (by omega)
  have E10 : (p.kind = 10) = False := eq_false (by omega)
  have E11 : (p.kind = 11) = False := eq_false (by omega)
  have E12 : (p.kind = 12) = False := eq_false (by omega)
  have E13 : (p.kind = 13) = False := eq_false (by omega)
  have E14 : (p.kind = 14) = False := eq_false (by omega)
  have E15 : (p.kind = 15) = False := eq_false (by omega)
  have E16 : (p.kind = 16) = False := eq_false (by omega)
  have E20 : (p.kind = 20) = False := eq_false (by omega)
  have E21 : (p.kind = 21) = False := eq_false (by omega)
  have E22 : (p.kind = 22) = False := eq_false (by omega)
  have E23 : (p.kind = 23) = False := eq_false (by omega)
  have E24 : (p.kind = 24) = False := eq_false (by omega)
  have E25 : (p.kind = 25) = False := eq_false (by omega)
  have E26 : (p.kind = 26) = False := eq_false (by omega)
  have E27 : (p.kind = 27) = False := eq_false (by omega)
  have E28 : (p.kind = 28) = False := eq_false (by omega)
  have E29 : (p.kind = 29) = False := eq_false (by omega)
  have E30 : (p.kind = 30) = False := eq_false (by omega)
  have E31 : (p.kind = 31) = False := eq_false (by omega)
  have E32 : (p.kind = 32) = False := eq_false (by omega)
  have E33 : (p.kind = 33) = False := eq_false (by omega)
  have E34 : (p.kind = 34) = False := eq_false (by omega)
  have E35 : (p.kind = 35) = False := eq_false (by omega)
  have E36 : (p.kind = 36) = False := eq_false (by omega)
  have E37 : (p.kind = 37) = False := eq_false (by omega)
  have E40 : (p.kind = 40) = False := eq_false (by omega)
  have E41 : (p.kind = 41) = False := eq_false (by omega)
  have E42 : (p.kind = 42) = False := eq_false (by omega)
  unfold sh_impl_partShape jn
  simp only [jn, cells_agg, S.cells, rd1_p, List.getElem?_cons_zero, part_rd0, part_at0, S.lenV, len_encS, part_rd8, part_at8, Option.bind_some, bin_gtr, bin_eql, aCase_bool, n1, n2, E1, E2, E3, E4, E5, E6, E7, E8, E9, E10, E11, E12, E13, E14, E15, E16, E20, E21, E22, E23, E24, E25, E26, E27, E28, E29, E30, E31, E32, E33, E34, E35, E36, E37, E40, E41, E42, decide_false, decide_true, Bool.false_eq_true, if_false, if_true]
  unfold jb_impl_partShape_6 jn
  simp only [jn, cells_agg, S.cells, rd1_p, List.getElem?_cons_zero, part_rd0, part_at0, S.lenV, len_encS, part_rd8, part_at8, Option.bind_some, bin_gtr, bin_eql, aCase_bool, n1, n2, E1, E2, E3, E4, E5, E6, E7, E8, E9, E10, E11, E12, E13, E14, E15, E16, E20, E21, E22, E23, E24, E25, E26, E27, E28, E29, E30, E31, E32, E33, E34, E35, E36, E37, E40, E41, E42, decide_false, decide_true, Bool.false_eq_true, if_false, if_true]
  by_cases c1 : (ks.length : Int) = 1
  · skip
    simp [jb_impl_partShape_4, jk_impl_partShape_1, jk_impl_partShape_2, jk_impl_partShape_3, jk_impl_partShape_4, jk_impl_partShape_5, jk_impl_partShape_6, jk_impl_partShape_7, jk_impl_partShape_8, jk_impl_partShape_9, jk_impl_partShape_10, jk_impl_partShape_11, jk_impl_partShape_12, jk_impl_partShape_13, jk_impl_partShape_14, jk_impl_partShape_15, jk_impl_partShape_16, jk_impl_partShape_17, jk_impl_partShape_18, jk_impl_partShape_19, jk_impl_partShape_20, jk_impl_partShape_21, jk_impl_partShape_22, jk_impl_partShape_23, jk_impl_partShape_24, jk_impl_partShape_25, jk_impl_partShape_26, S.all24, S.all25, S.all26, S.all28, S.is1, S.is2, S.base, S.v24, S.v27, S.at_, S.fin, bin_geq, bin_leq, bin_lss, bin_eql, lenV_str, part_rd4, part_rd5, part_rd6, part_rd7, bin_feq, bin_sub31, bin_sub41, fltSame, c1]
    try all_goals ((repeat' split) <;> simp_all)
  · skip
    simp [jb_impl_partShape_4, jk_impl_partShape_1, jk_impl_partShape_2, jk_impl_partShape_3, jk_impl_partShape_4, jk_impl_partShape_5, jk_impl_partShape_6, jk_impl_partShape_7, jk_impl_partShape_8, jk_impl_partShape_9, jk_impl_partShape_10, jk_impl_partShape_11, jk_impl_partShape_12, jk_impl_partShape_13, jk_impl_partShape_14, jk_impl_partShape_15, jk_impl_partShape_16, jk_impl_partShape_17, jk_impl_partShape_18, jk_impl_partShape_19, jk_impl_partShape_20, jk_impl_partShape_21, jk_impl_partShape_22, jk_impl_partShape_23, jk_impl_partShape_24, jk_impl_partShape_25, jk_impl_partShape_26, S.all24, S.all25, S.all26, S.all28, S.is1, S.is2, S.base, S.v24, S.v27, S.at_, S.fin, bin_geq, bin_leq, bin_lss, bin_eql, lenV_str, part_rd4, part_rd5, part_rd6, part_rd7, bin_feq, bin_sub31, bin_sub41, fltSame, c1]
    try all_goals ((repeat' split) <;> simp_all)
theorem ps_4 {p : LPart} {ks : List Int} {a1 : AV} (S : PSub D p ks a1) (n1 : ¬ (200 : Int) < ks.length) (n2 : ¬ (200 : Int) < p.names.length) (hk : p.kind = 4) (σ : Store) :
    sh_impl_partShape D (.agg (encPart p)) a1 σ = some (.bool (shapeEnd p false false false false ((decide ((ks.length : Int) = 1) && decide (kd ks 0 = 36))) 1 1), σ) := by
  have E1 : (p.kind = 1) = False := eq_false (by omega)
  have E2 : (p.kind = 2) = False := eq_false (by omega)
  have E3 : (p.kind = 3) = False := eq_false (by omega)
  have E4 : (p.kind = 4) = True := eq_true (by omega)
  have E5 : (p.kind = 5) = False := eq_false (by omega)
  have E6 : (p.kind = 6) = False := eq_false (by omega)
  have E7 : (p.kind = 7) = False := eq_false (by omega)
  have E8 : (p.kind = 8) = False := eq_false (by omega)
  have E9 : (p.kind = 9) = False := eq_false (by omega)
  have E10 : (p.kind = 10) = False := eq_false (by omega)
  have E11 : (p.kind = 11) = False := eq_false (by omega)
  have E12 : (p.kind = 12) = False := eq_false (by omega)
  have E13 : (p.kind = 13) = False := eq_false (by omega)
  have E14 : (p.kind = 14) = False := eq_false (by omega)
  have E15 : (p.kind = 15) = False := eq_false (by omega)
  have E16 : (p.kind = 16) = False := eq_false (by omega)
  have E20 : (p.kind = 20) = False := eq_false (by omega)
  have E21 : (p.kind = 21) = False := eq_false (by omega)
  have E22 : (p.kind = 22) = False := eq_false (by omega)
  have E23 : (p.kind = 23) = False := eq_false (by omega)
  have E24 : (p.kind = 24) = False := eq_false (by omega)
  have E25 : (p.kind = 25) = False := eq_false (by omega)
  have E26 : (p.kind = 26) = False := eq_false (by omega)
  have E27 : (p.kind = 27) = False := eq_false (by omega)
  have E28 : (p.kind = 28) = False := eq_false (by omega)
  have E29 : (p.kind = 29) = False := eq_false (by omega)
  have E30 : (p.kind = 30) = False := eq_false (by omega)
  have E31 : (p.kind = 31) = False := eq_false (by omega)
  have E32 : (p.kind = 32) = False := eq_false (by omega)
  have E33 : (p.kind = 33) = False := eq_false (by omega)
  have E34 : (p.kind = 34) = False := eq_false (by omega)
  have E35 : (p.kind = 35) = False := eq_false (by omega)
  have E36 : (p.kind = 36) = False := eq_false (by omega)
  have E37 : (p.kind = 37) = False := eq_false (by omega)
  have E40 : (p.kind = 40) = False := eq_false (by omega)
  have E41 : (p.kind = 41) = False := eq_false (by omega)
  have E42 : (p.kind = 42) = False := eq_false (by omega)
  unfold sh_impl_partShape jn
  simp only [jn, cells_agg, S.cells, rd1_p, List.getElem?_cons_zero, part_rd0, part_at0, S.lenV, len_encS, part_rd8, part_at8, Option.bind_some, bin_gtr, bin_eql, aCase_bool, n1, n2, E1, E2, E3, E4, E5, E6, E7, E8, E9, E10, E11, E12, E13, E14, E15, E16, E20, E21, E22, E23, E24, E25, E26, E27, E28, E29, E30, E31, E32, E33, E34, E35, E36, E37, E40, E41, E42, decide_false, decide_true, Bool.false_eq_true, if_false, if_true]
  unfold jb_impl_partShape_6 jn
  simp only [jn, cells_agg, S.cells, rd1_p, List.getElem?_cons_zero, part_rd0, part_at0, S.lenV, len_encS, part_rd8, part_at8, Option.bind_some, bin_gtr, bin_eql, aCase_bool, n1, n2, E1, E2, E3, E4, E5, E6, E7, E8, E9, E10, E11, E12, E13, E14, E15, E16, E20, E21, E22, E23, E24, E25, E26, E27, E28, E29, E30, E31, E32, E33, E34, E35, E36, E37, E40, E41, E42, decide_false, decide_true, Bool.false_eq_true, if_false, if_true]
  by_cases c1 : (ks.length : Int) = 1
  · skip
    simp [jb_impl_partShape_4, jk_impl_partShape_1, jk_impl_partShape_2, jk_impl_partShape_3, jk_impl_partShape_4, jk_impl_partShape_5, jk_impl_partShape_6, jk_impl_partShape_7, jk_impl_partShape_8, jk_impl_partShape_9, jk_impl_partShape_10, jk_impl_partShape_11, jk_impl_partShape_12, jk_impl_partShape_13, jk_impl_partShape_14, jk_impl_partShape_15, jk_impl_partShape_16, jk_impl_partShape_17, jk_impl_partShape_18, jk_impl_partShape_19, jk_impl_partShape_20, jk_impl_partShape_21, jk_impl_partShape_22, jk_impl_partShape_23, jk_impl_partShape_24, jk_impl_partShape_25, jk_impl_partShape_26, S.all24, S.all25, S.all26, S.all28, S.is1, S.is2, S.base, S.v24, S.v27, S.at_, S.fin, bin_geq, bin_leq, bin_lss, bin_eql, lenV_str, part_rd4, part_rd5, part_rd6, part_rd7, bin_feq, bin_sub31, bin_sub41, fltSame, c1]
    try all_goals ((repeat' split) <;> simp_all)
  · skip
    simp [jb_impl_partShape_4, jk_impl_partShape_1, jk_impl_partShape_2, jk_impl_partShape_3, jk_impl_partShape_4, jk_impl_partShape_5, jk_impl_partShape_6, jk_impl_partShape_7, jk_impl_partShape_8, jk_impl_partShape_9, jk_impl_partShape_10, jk_impl_partShape_11, jk_impl_partShape_12, jk_impl_partShape_13, jk_impl_partShape_14, jk_impl_partShape_15, jk_impl_partShape_16, jk_impl_partShape_17, jk_impl_partShape_18, jk_impl_partShape_19, jk_impl_partShape_20, jk_impl_partShape_21, jk_impl_partShape_22, jk_impl_partShape_23, jk_impl_partShape_24, jk_impl_partShape_25, jk_impl_partShape_26, S.all24, S.all25, S.all26, S.all28, S.is1, S.is2, S.base, S.v24, S.v27, S.at_, S.fin, bin_geq, bin_leq, bin_lss, bin_eql, lenV_str, part_rd4, part_rd5, part_rd6, part_rd7, bin_feq, bin_sub31, bin_sub41, fltSame, c1]
    try all_goals ((repeat' split) <;> simp_all)
theorem ps_6 {p : LPart} {ks : List Int} {a1 : AV} (S : PSub D p ks a1) (n1 : ¬ (200 : Int) < ks.length) (n2 : ¬ (200 : Int) < p.names.length) (hk : p.kind = 6) (σ : Store) :
    sh_impl_partShape D (.agg (encPart p)) a1 σ = some (.bool (shapeEnd p false false false false ((decide ((ks.length : Int) = 1) && decide (kd ks 0 = 34))) 0 0), σ) := by
  have E1 : (p.kind = 1) = False := eq_false (by omega)
  have E2 : (p.kind = 2) = False := eq_false (by omega)
  have E3 : (p.kind = 3) = False := eq_false (by omega)
  have E4 : (p.kind = 4) = False := eq_false (by omega)
  have E5 : (p.kind = 5) = False := eq_false (by omega)
  have E6 : (p.kind = 6) = True := eq_true (by omega)
  have E7 : (p.kind = 7) = False := eq_false (by omega)
  have E8 : (p.kind = 8) = False := eq_false (by omega)
  have E9 : (p.kind = 9) = False := eq_false (by omega)
  have E10 : (p.kind = 10) = False := eq_false (by omega)
  have E11 : (p.kind = 11) = False := eq_false (by omega)
  have E12 : (p.kind = 12) = False := eq_false (by omega)
  have E13 : (p.kind = 13) = False := eq_false (by omega)
  have E14 : (p.kind = 14) = False := eq_false (by omega)
  have E15 : (p.kind = 15) = False := eq_false (by omega)
  have E16 : (p.kind = 16) = False := eq_false (by omega)
  have E20 : (p.kind = 20) = False := eq_false (by omega)
  have E21 : (p.kind = 21) = False := eq_false (by omega)
  have E22 : (p.kind = 22) = False := eq_false (by omega)
  have E23 : (p.kind = 23) = False := eq_false (by omega)
  have E24 : (p.kind = 24) = False := eq_false (by omega)
  have E25 : (p.kind = 25) = False := eq_false (by omega)
  have E26 : (p.kind = 26) = False := eq_false (by omega)
  have E27 : (p.kind = 27) = False := eq_false (by omega)
  have E28 : (p.kind = 28) = False := eq_false (by omega)
  have E29 : (p.kind = 29) = False := eq_false (by omega)
  have E30 : (p.kind = 30) = False := eq_false (by omega)
  have E31 : (p.kind = 31) = False := eq_false (by omega)
  have E32 : (p.kind = 32) = False := eq_false (by omega)
  have E33 : (p.kind = 33) = False := eq_false (by omega)
  have E34 : (p.kind = 34) = False := eq_false (by omega)
  have E35 : (p.kind = 35) = False := eq_false (by omega)
  have E36 : (p.kind = 36) = False := eq_false (by omega)
  have E37 : (p.kind = 37) = False := eq_false (by omega)
  have E40 : (p.kind = 40) = False := eq_false (by omega)
  have E41 : (p.kind = 41) = False := eq_false (by omega)
  have E42 : (p.kind = 42) = False := eq_false (by omega)
  unfold sh_impl_partShape jn
  simp only [jn, cells_agg, S.cells, rd1_p, List.getElem?_cons_zero, part_rd0, part_at0, S.lenV, len_encS, part_rd8, part_at8, Option.bind_some, bin_gtr, bin_eql, aCase_bool, n1, n2, E1, E2, E3, E4, E5, E6, E7, E8, E9, E10, E11, E12, E13, E14, E15, E16, E20, E21, E22, E23, E24, E25, E26, E27, E28, E29, E30, E31, E32, E33, E34, E35, E36, E37, E40, E41, E42, decide_false, decide_true, Bool.false_eq_true, if_false, if_true]
  unfold jb_impl_partShape_6 jn
  simp only [jn, cells_agg, S.cells, rd1_p, List.getElem?_cons_zero, part_rd0, part_at0, S.lenV, len_encS, part_rd8, part_at8, Option.bind_some, bin_gtr, bin_eql, aCase_bool, n1, n2, E1, E2, E3, E4, E5, E6, E7, E8, E9, E10, E11, E12, E13, E14, E15, E16, E20, E21, E22, E23, E24, E25, E26, E27, E28, E29, E30, E31, E32, E33, E34, E35, E36, E37, E40, E41, E42, decide_false, decide_true, Bool.false_eq_true, if_false, if_true]
  unfold jb_impl_partShape_5 jn
  simp only [jn, cells_agg, S.cells, rd1_p, List.getElem?_cons_zero, part_rd0, part_at0, S.lenV, len_encS, part_rd8, part_at8, Option.bind_some, bin_gtr, bin_eql, aCase_bool, n1, n2, E1, E2, E3, E4, E5, E6, E7, E8, E9, E10, E11, E12, E13, E14, E15, E16, E20, E21, E22, E23, E24, E25, E26, E27, E28, E29, E30, E31, E32, E33, E34, E35, E36, E37, E40, E41, E42, decide_false, decide_true, Bool.false_eq_true, if_false, if_true]
  by_cases c1 : (ks.length : Int) = 1
  · skip
    simp [jb_impl_partShape_4, jk_impl_partShape_1, jk_impl_partShape_2, jk_impl_partShape_3, jk_impl_partShape_4, jk_impl_partShape_5, jk_impl_partShape_6, jk_impl_partShape_7, jk_impl_partShape_8, jk_impl_partShape_9, jk_impl_partShape_10, jk_impl_partShape_11, jk_impl_partShape_12, jk_impl_partShape_13, jk_impl_partShape_14, jk_impl_partShape_15, jk_impl_partShape_16, jk_impl_partShape_17, jk_impl_partShape_18, jk_impl_partShape_19, jk_impl_partShape_20, jk_impl_partShape_21, jk_impl_partShape_22, jk_impl_partShape_23, jk_impl_partShape_24, jk_impl_partShape_25, jk_impl_partShape_26, S.all24, S.all25, S.all26, S.all28, S.is1, S.is2, S.base, S.v24, S.v27, S.at_, S.fin, bin_geq, bin_leq, bin_lss, bin_eql, lenV_str, part_rd4, part_rd5, part_rd6, part_rd7, bin_feq, bin_sub31, bin_sub41, fltSame, c1]
    try all_goals ((repeat' split) <;> simp_all)
  · skip
    simp [jb_impl_partShape_4, jk_impl_partShape_1, jk_impl_partShape_2, jk_impl_partShape_3, jk_impl_partShape_4, jk_impl_partShape_5, jk_impl_partShape_6, jk_impl_partShape_7, jk_impl_partShape_8, jk_impl_partShape_9, jk_impl_partShape_10, jk_impl_partShape_11, jk_impl_partShape_12, jk_impl_partShape_13, jk_impl_partShape_14, jk_impl_partShape_15, jk_impl_partShape_16, jk_impl_partShape_17, jk_impl_partShape_18, jk_impl_partShape_19, jk_impl_partShape_20, jk_impl_partShape_21, jk_impl_partShape_22, jk_impl_partShape_23, jk_impl_partShape_24, jk_impl_partShape_25, jk_impl_partShape_26, S.all24, S.all25, S.all26, S.all28, S.is1, S.is2, S.base, S.v24, S.v27, S.at_, S.fin, bin_geq, bin_leq, bin_lss, bin_eql, lenV_str, part_rd4, part_rd5, part_rd6, part_rd7, bin_feq, bin_sub31, bin_sub41, fltSame, c1]
    try all_goals ((repeat' split) <;> simp_all)
theorem ps_7 {p : LPart} {ks : List Int} {a1 : AV} (S : PSub D p ks a1) (n1 : ¬ (200 : Int) < ks.length) (n2 : ¬ (200 : Int) < p.names.length) (hk : p.kind = 7) (σ : Store) :
    sh_impl_partShape D (.agg (encPart p)) a1 σ = some (.bool (shapeEnd p false false false false (((decide ((ks.length : Int) = 2) || decide ((ks.length : Int) = 3)) && isExpr (kd ks 0) && decide (kd ks 1 = 1) && (decide ((ks.length : Int) = 2) || (decide (kd ks 2 = 1) || decide (kd ks 2 = 7))))) 0 0), σ) := by
  have E1 : (p.kind = 1) = False := eq_false (by omega)
  have E2 : (p.kind = 2) = False := eq_false (by omega)
  have E3 : (p.kind = 3) = False := eq_false (by omega)
  have E4 : (p.kind = 4) = False := eq_false (by omega)
  have E5 : (p.kind = 5) = False := eq_false (by omega)
  have E6 : (p.kind = 6) = False := eq_false (by omega)
  have E7 : (p.kind = 7) = True := eq_true (by omega)
  have E8 : (p.kind = 8) = False := eq_false (by omega)
  have E9 : (p.kind = 9) = False := eq_false (by omega)
  have E10 : (p.kind = 10) = False := eq_false (by omega)
  have E11 : (p.kind = 11) = False := eq_false (by omega)
  have E12 : (p.kind = 12) = False := eq_false (by omega)
  have E13 : (p.kind = 13) = False := eq_false (by omega)
  have E14 : (p.kind = 14) = False := eq_false (by omega)
  have E15 : (p.kind = 15) = False := eq_false (by omega)
  have E16 : (p.kind = 16) = False := eq_false (by omega)
  have E20 : (p.kind = 20) = False := eq_false (by omega)
  have E21 : (p.kind = 21) = False := eq_false (by omega)
  have E22 : (p.kind = 22) = False := eq_false (by omega)
  have E23 : (p.kind = 23) = False := eq_false (by omega)
  have E24 : (p.kind = 24) = False := eq_false (by omega)
  have E25 : (p.kind = 25) = False := eq_false (by omega)
  have E26 : (p.kind = 26) = False := eq_false (by omega)
  have E27 : (p.kind = 27) = False := eq_false (by omega)
  have E28 : (p.kind = 28) = False := eq_false (by omega)
  have E29 : (p.kind = 29) = False := eq_false (by omega)
  have E30 : (p.kind = 30) = False := eq_false (by omega)
  have E31 : (p.kind = 31) = False := eq_false (by omega)
  have E32 : (p.kind = 32) = False := eq_false (by omega)
  have E33 : (p.kind = 33) = False := eq_false (by omega)
  have E34 : (p.kind = 34) = False := eq_false (by omega)
  have E35 : (p.kind = 35) = False := eq_false (by omega)
  have E36 : (p.kind = 36) = False := eq_false (by omega)
  have E37 : (p.kind = 37) = False := eq_false (by omega)
  have E40 : (p.kind = 40) = False := eq_false (by omega)
  have E41 : (p.kind = 41) = False := eq_false (by omega)
  have E42 : (p.kind = 42) = False := eq_false (by omega)
  unfold sh_impl_partShape jn
  simp only [jn, cells_agg, S.cells, rd1_p, List.getElem?_cons_zero, part_rd0, part_at0, S.lenV, len_encS, part_rd8, part_at8, Option.bind_some, bin_gtr, bin_eql, aCase_bool, n1, n2, E1, E2, E3, E4, E5, E6, E7, E8, E9, E10, E11, E12, E13, E14, E15, E16, E20, E21, E22, E23, E24, E25, E26, E27, E28, E29, E30, E31, E32, E33, E34, E35, E36, E37, E40, E41, E42, decide_false, decide_true, Bool.false_eq_true, if_false, if_true]
  unfold jb_impl_partShape_6 jn
  simp only [jn, cells_agg, S.cells, rd1_p, List.getElem?_cons_zero, part_rd0, part_at0, S.lenV, len_encS, part_rd8, part_at8, Option.bind_some, bin_gtr, bin_eql, aCase_bool, n1, n2, E1, E2, E3, E4, E5, E6, E7, E8, E9, E10, E11, E12, E13, E14, E15, E16, E20, E21, E22, E23, E24, E25, E26, E27, E28, E29, E30, E31, E32, E33, E34, E35, E36, E37, E40, E41, E42, decide_false, decide_true, Bool.false_eq_true, if_false, if_true]
  unfold jb_impl_partShape_5 jn
  simp only [jn, cells_agg, S.cells, rd1_p, List.getElem?_cons_zero, part_rd0, part_at0, S.lenV, len_encS, part_rd8, part_at8, Option.bind_some, bin_gtr, bin_eql, aCase_bool, n1, n2, E1, E2, E3, E4, E5, E6, E7, E8, E9, E10, E11, E12, E13, E14, E15, E16, E20, E21, E22, E23, E24, E25, E26, E27, E28, E29, E30, E31, E32, E33, E34, E35, E36, E37, E40, E41, E42, decide_false, decide_true, Bool.false_eq_true, if_false, if_true]
  by_cases c2 : (ks.length : Int) = 2
  · simp only [c2, decide_true, if_true]
    unfold jb_impl_partShape_4 jn
    simp only [S.cells, List.getElem?_cons_zero, Option.bind_some]
    simp [jb_impl_partShape_4, jk_impl_partShape_1, jk_impl_partShape_2, jk_impl_partShape_3, jk_impl_partShape_4, jk_impl_partShape_5, jk_impl_partShape_6, jk_impl_partShape_7, jk_impl_partShape_8, jk_impl_partShape_9, jk_impl_partShape_10, jk_impl_partShape_11, jk_impl_partShape_12, jk_impl_partShape_13, jk_impl_partShape_14, jk_impl_partShape_15, jk_impl_partShape_16, jk_impl_partShape_17, jk_impl_partShape_18, jk_impl_partShape_19, jk_impl_partShape_20, jk_impl_partShape_21, jk_impl_partShape_22, jk_impl_partShape_23, jk_impl_partShape_24, jk_impl_partShape_25, jk_impl_partShape_26, S.all24, S.all25, S.all26, S.all28, S.is1, S.is2, S.base, S.v24, S.v27, S.at_, S.fin, bin_geq, bin_leq, bin_lss, bin_eql, lenV_str, part_rd4, part_rd5, part_rd6, part_rd7, bin_feq, bin_sub31, bin_sub41, fltSame, c2]
    try all_goals ((repeat' split) <;> simp_all)
  by_cases c3 : (ks.length : Int) = 3
  · simp only [c2, c3, decide_true, decide_false, Bool.false_eq_true, if_true, if_false, Int.reduceEq]
    unfold jb_impl_partShape_4 jn
    simp only [S.cells, List.getElem?_cons_zero, Option.bind_some]
    simp [jb_impl_partShape_4, jk_impl_partShape_1, jk_impl_partShape_2, jk_impl_partShape_3, jk_impl_partShape_4, jk_impl_partShape_5, jk_impl_partShape_6, jk_impl_partShape_7, jk_impl_partShape_8, jk_impl_partShape_9, jk_impl_partShape_10, jk_impl_partShape_11, jk_impl_partShape_12, jk_impl_partShape_13, jk_impl_partShape_14, jk_impl_partShape_15, jk_impl_partShape_16, jk_impl_partShape_17, jk_impl_partShape_18, jk_impl_partShape_19, jk_impl_partShape_20, jk_impl_partShape_21, jk_impl_partShape_22, jk_impl_partShape_23, jk_impl_partShape_24, jk_impl_partShape_25, jk_impl_partShape_26, S.all24, S.all25, S.all26, S.all28, S.is1, S.is2, S.base, S.v24, S.v27, S.at_, S.fin, bin_geq, bin_leq, bin_lss, bin_eql, lenV_str, part_rd4, part_rd5, part_rd6, part_rd7, bin_feq, bin_sub31, bin_sub41, fltSame, c3]
    try all_goals ((repeat' split) <;> simp_all)
  · simp only [c2, c3, decide_false, Bool.false_eq_true, if_false]
    unfold jb_impl_partShape_4 jn
    simp only [S.cells, List.getElem?_cons_zero, Option.bind_some]
    simp [jb_impl_partShape_4, jk_impl_partShape_1, jk_impl_partShape_2, jk_impl_partShape_3, jk_impl_partShape_4, jk_impl_partShape_5, jk_impl_partShape_6, jk_impl_partShape_7, jk_impl_partShape_8, jk_impl_partShape_9, jk_impl_partShape_10, jk_impl_partShape_11, jk_impl_partShape_12, jk_impl_partShape_13, jk_impl_partShape_14, jk_impl_partShape_15, jk_impl_partShape_16, jk_impl_partShape_17, jk_impl_partShape_18, jk_impl_partShape_19, jk_impl_partShape_20, jk_impl_partShape_21, jk_impl_partShape_22, jk_impl_partShape_23, jk_impl_partShape_24, jk_impl_partShape_25, jk_impl_partShape_26, S.all24, S.all25, S.all26, S.all28, S.is1, S.is2, S.base, S.v24, S.v27, S.at_, S.fin, bin_geq, bin_leq, bin_lss, bin_eql, lenV_str, part_rd4, part_rd5, part_rd6, part_rd7, bin_feq, bin_sub31, bin_sub41, fltSame, c2, c3]
    try all_goals ((repeat' split) <;> simp_all)
theorem ps_8 {p : LPart} {ks : List Int} {a1 : AV} (S : PSub D p ks a1) (n1 : ¬ (200 : Int) < ks.length) (n2 : ¬ (200 : Int) < p.names.length) (hk : p.kind = 8) (σ : Store) :
    sh_impl_partShape D (.agg (encPart p)) a1 σ = some (.bool (shapeEnd p false false false false ((decide ((ks.length : Int) = 2) && isExpr (kd ks 0) && decide (kd ks 1 = 1))) 0 0), σ) := by
  have E1 : (p.kind = 1) = False := eq_false (by omega)
  have E2 : (p.kind = 2) = False := eq_false (by omega)
  have E3 : (p.kind = 3) = False := eq_false (by omega)
  have E4 : (p.kind = 4) = False := eq_false (by omega)
  have E5 : (p.kind = 5) = False := eq_false (by omega)
  have E6 : (p.kind = 6) = False := eq_false (by omega)
  have E7 : (p.kind = 7) = False := eq_false (by omega)
  have E8 : (p.kind = 8) = True := eq_true (by omega)
  have E9 : (p.kind = 9) = False := eq_false (by omega)
  have E10 : (p.kind = 10) = False := eq_false (by omega)
  have E11 : (p.kind = 11) = False := eq_false (by omega)
  have E12 : (p.kind = 12) = False := eq_false (by omega)
  have E13 : (p.kind = 13) = False := eq_false (by omega)
  have E14 : (p.kind = 14) = False := eq_false (by omega)
  have E15 : (p.kind = 15) = False := eq_false (by omega)
  have E16 : (p.kind = 16) = False := eq_false (by omega)
  have E20 : (p.kind = 20) = False := eq_false (by omega)
  have E21 : (p.kind = 21) = False := eq_false (by omega)
  have E22 : (p.kind = 22) = False := eq_false (by omega)
  have E23 : (p.kind = 23) = False := eq_false (by omega)
  have E24 : (p.kind = 24) = False := eq_false (by omega)
  have E25 : (p.kind = 25) = False := eq_false (by omega)
  have E26 : (p.kind = 26) = False := eq_false (by omega)
  have E27 : (p.kind = 27) = False := eq_false (by omega)
  have E28 : (p.kind = 28) = False := eq_false (by omega)
  have E29 : (p.kind = 29) = False := eq_false (by omega)
  have E30 : (p.kind = 30) = False := eq_false (by omega)
  have E31 : (p.kind = 31) = False := eq_false (by omega)
  have E32 : (p.kind = 32) = False := eq_false (by omega)
  have E33 : (p.kind = 33) = False := eq_false (by omega)
  have E34 : (p.kind = 34) = False := eq_false (by omega)
  have E35 : (p.kind = 35) = False := eq_false (by omega)
  have E36 : (p.kind = 36) = False := eq_false (by omega)
  have E37 : (p.kind = 37) = False := eq_false (by omega)
  have E40 : (p.kind = 40) = False := eq_false (by omega)
  have E41 : (p.kind = 41) = False := eq_false (by omega)
  have E42 : (p.kind = 42) = False := eq_false (by omega)
  unfold sh_impl_partShape jn
  simp only [jn, cells_agg, S.cells, rd1_p, List.getElem?_cons_zero, part_rd0, part_at0, S.lenV, len_encS, part_rd8, part_at8, Option.bind_some, bin_gtr, bin_eql, aCase_bool, n1, n2, E1, E2, E3, E4, E5, E6, E7, E8, E9, E10, E11, E12, E13, E14, E15, E16, E20, E21, E22, E23, E24, E25, E26, E27, E28, E29, E30, E31, E32, E33, E34, E35, E36, E37, E40, E41, E42, decide_false, decide_true, Bool.false_eq_true, if_false, if_true]
  unfold jb_impl_partShape_6 jn
  simp only [jn, cells_agg, S.cells, rd1_p, List.getElem?_cons_zero, part_rd0, part_at0, S.lenV, len_encS, part_rd8, part_at8, Option.bind_some, bin_gtr, bin_eql, aCase_bool, n1, n2, E1, E2, E3, E4, E5, E6, E7, E8, E9, E10, E11, E12, E13, E14, E15, E16, E20, E21, E22, E23, E24, E25, E26, E27, E28, E29, E30, E31, E32, E33, E34, E35, E36, E37, E40, E41, E42, decide_false, decide_true, Bool.false_eq_true, if_false, if_true]
  unfold jb_impl_partShape_5 jn
  simp only [jn, cells_agg, S.cells, rd1_p, List.getElem?_cons_zero, part_rd0, part_at0, S.lenV, len_encS, part_rd8, part_at8, Option.bind_some, bin_gtr, bin_eql, aCase_bool, n1, n2, E1, E2, E3, E4, E5, E6, E7, E8, E9, E10, E11, E12, E13, E14, E15, E16, E20, E21, E22, E23, E24, E25, E26, E27, E28, E29, E30, E31, E32, E33, E34, E35, E36, E37, E40, E41, E42, decide_false, decide_true, Bool.false_eq_true, if_false, if_true]
  by_cases c2 : (ks.length : Int) = 2
  · skip
    simp [jb_impl_partShape_4, jk_impl_partShape_1, jk_impl_partShape_2, jk_impl_partShape_3, jk_impl_partShape_4, jk_impl_partShape_5, jk_impl_partShape_6, jk_impl_partShape_7, jk_impl_partShape_8, jk_impl_partShape_9, jk_impl_partShape_10, jk_impl_partShape_11, jk_impl_partShape_12, jk_impl_partShape_13, jk_impl_partShape_14, jk_impl_partShape_15, jk_impl_partShape_16, jk_impl_partShape_17, jk_impl_partShape_18, jk_impl_partShape_19, jk_impl_partShape_20, jk_impl_partShape_21, jk_impl_partShape_22, jk_impl_partShape_23, jk_impl_partShape_24, jk_impl_partShape_25, jk_impl_partShape_26, S.all24, S.all25, S.all26, S.all28, S.is1, S.is2, S.base, S.v24, S.v27, S.at_, S.fin, bin_geq, bin_leq, bin_lss, bin_eql, lenV_str, part_rd4, part_rd5, part_rd6, part_rd7, bin_feq, bin_sub31, bin_sub41, fltSame, c2]
    try all_goals ((repeat' split) <;> simp_all)
  · skip
    simp [jb_impl_partShape_4, jk_impl_partShape_1, jk_impl_partShape_2, jk_impl_partShape_3, jk_impl_partShape_4, jk_impl_partShape_5, jk_impl_partShape_6, jk_impl_partShape_7, jk_impl_partShape_8, jk_impl_partShape_9, jk_impl_partShape_10, jk_impl_partShape_11, jk_impl_partShape_12, jk_impl_partShape_13, jk_impl_partShape_14, jk_impl_partShape_15, jk_impl_partShape_16, jk_impl_partShape_17, jk_impl_partShape_18, jk_impl_partShape_19, jk_impl_partShape_20, jk_impl_partShape_21, jk_impl_partShape_22, jk_impl_partShape_23, jk_impl_partShape_24, jk_impl_partShape_25, jk_impl_partShape_26, S.all24, S.all25, S.all26, S.all28, S.is1, S.is2, S.base, S.v24, S.v27, S.at_, S.fin, bin_geq, bin_leq, bin_lss, bin_eql, lenV_str, part_rd4, part_rd5, part_rd6, part_rd7, bin_feq, bin_sub31, bin_sub41, fltSame, c2]
    try all_goals ((repeat' split) <;> simp_all)
theorem ps_9 {p : LPart} {ks : List Int} {a1 : AV} (S : PSub D p ks a1) (n1 : ¬ (200 : Int) < ks.length) (n2 : ¬ (200 : Int) < p.names.length) (hk : p.kind = 9) (σ : Store) :
    sh_impl_partShape D (.agg (encPart p)) a1 σ = some (.bool (shapeEnd p false false false false (((decide ((ks.length : Int) = 3) || decide ((ks.length : Int) = 4)) && alls isExpr ks 0 (ks.length - 1) && decide (kd ks (ks.length - 1) = 1))) 1 1), σ) := by
  have E1 : (p.kind = 1) = False := eq_false (by omega)
  have E2 : (p.kind = 2) = False := eq_false (by omega)
  have E3 : (p.kind = 3) = False := eq_false (by omega)
  have E4 : (p.kind = 4) = False := eq_false (by omega)
  have E5 : (p.kind = 5) = False := eq_false (by omega)
  have E6 : (p.kind = 6) = False := eq_false (by omega)
  have E7 : (p.kind = 7) = False := eq_false (by omega)
  have E8 : (p.kind = 8) = False := eq_false (by omega)
  have E9 : (p.kind = 9) = True := eq_true (by omega)
  have E10 : (p.kind = 10) = False := eq_false (by omega)
  have E11 : (p.kind = 11) = False := eq_false (by omega)
  have E12 : (p.kind = 12) = False := eq_false (by omega)
  have E13 : (p.kind = 13) = False := eq_false (by omega)
  have E14 : (p.kind = 14) = False := eq_false (by omega)
  have E15 : (p.kind = 15) = False := eq_false (by omega)
  have E16 : (p.kind = 16) = False := eq_false (by omega)
  have E20 : (p.kind = 20) = False := eq_false (by omega)
  have E21 : (p.kind = 21) = False := eq_false (by omega)
  have E22 : (p.kind = 22) = False := eq_false (by omega)
  have E23 : (p.kind = 23) = False := eq_false (by omega)
  have E24 : (p.kind = 24) = False := eq_false (by omega)
  have E25 : (p.kind = 25) = False := eq_false (by omega)
  have E26 : (p.kind = 26) = False := eq_false (by omega)
  have E27 : (p.kind = 27) = False := eq_false (by omega)
  have E28 : (p.kind = 28) = False := eq_false (by omega)
  have E29 : (p.kind = 29) = False := eq_false (by omega)
  have E30 : (p.kind = 30) = False := eq_false (by omega)
  have E31 : (p.kind = 31) = False := eq_false (by omega)
  have E32 : (p.kind = 32) = False := eq_false (by omega)
  have E33 : (p.kind = 33) = False := eq_false (by omega)
  have E34 : (p.kind = 34) = False := eq_false (by omega)
  have E35 : (p.kind = 35) = False := eq_false (by omega)
  have E36 : (p.kind = 36) = False := eq_false (by omega)
  have E37 : (p.kind = 37) = False := eq_false (by omega)
  have E40 : (p.kind = 40) = False := eq_false (by omega)
  have E41 : (p.kind = 41) = False := eq_false (by omega)
  have E42 : (p.kind = 42) = False := eq_false (by omega)
  unfold sh_impl_partShape jn
  simp only [jn, cells_agg, S.cells, rd1_p, List.getElem?_cons_zero, part_rd0, part_at0, S.lenV, len_encS, part_rd8, part_at8, Option.bind_some, bin_gtr, bin_eql, aCase_bool, n1, n2, E1, E2, E3, E4, E5, E6, E7, E8, E9, E10, E11, E12, E13, E14, E15, E16, E20, E21, E22, E23, E24, E25, E26, E27, E28, E29, E30, E31, E32, E33, E34, E35, E36, E37, E40, E41, E42, decide_false, decide_true, Bool.false_eq_true, if_false, if_true]
  unfold jb_impl_partShape_6 jn
  simp only [jn, cells_agg, S.cells, rd1_p, List.getElem?_cons_zero, part_rd0, part_at0, S.lenV, len_encS, part_rd8, part_at8, Option.bind_some, bin_gtr, bin_eql, aCase_bool, n1, n2, E1, E2, E3, E4, E5, E6, E7, E8, E9, E10, E11, E12, E13, E14, E15, E16, E20, E21, E22, E23, E24, E25, E26, E27, E28, E29, E30, E31, E32, E33, E34, E35, E36, E37, E40, E41, E42, decide_false, decide_true, Bool.false_eq_true, if_false, if_true]
  unfold jb_impl_partShape_5 jn
  simp only [jn, cells_agg, S.cells, rd1_p, List.getElem?_cons_zero, part_rd0, part_at0, S.lenV, len_encS, part_rd8, part_at8, Option.bind_some, bin_gtr, bin_eql, aCase_bool, n1, n2, E1, E2, E3, E4, E5, E6, E7, E8, E9, E10, E11, E12, E13, E14, E15, E16, E20, E21, E22, E23, E24, E25, E26, E27, E28, E29, E30, E31, E32, E33, E34, E35, E36, E37, E40, E41, E42, decide_false, decide_true, Bool.false_eq_true, if_false, if_true]
  by_cases c3 : (ks.length : Int) = 3
  · skip
    simp [jb_impl_partShape_4, jk_impl_partShape_1, jk_impl_partShape_2, jk_impl_partShape_3, jk_impl_partShape_4, jk_impl_partShape_5, jk_impl_partShape_6, jk_impl_partShape_7, jk_impl_partShape_8, jk_impl_partShape_9, jk_impl_partShape_10, jk_impl_partShape_11, jk_impl_partShape_12, jk_impl_partShape_13, jk_impl_partShape_14, jk_impl_partShape_15, jk_impl_partShape_16, jk_impl_partShape_17, jk_impl_partShape_18, jk_impl_partShape_19, jk_impl_partShape_20, jk_impl_partShape_21, jk_impl_partShape_22, jk_impl_partShape_23, jk_impl_partShape_24, jk_impl_partShape_25, jk_impl_partShape_26, S.all24, S.all25, S.all26, S.all28, S.is1, S.is2, S.base, S.v24, S.v27, S.at_, S.fin, bin_geq, bin_leq, bin_lss, bin_eql, lenV_str, part_rd4, part_rd5, part_rd6, part_rd7, bin_feq, bin_sub31, bin_sub41, fltSame, c3]
    try all_goals ((repeat' split) <;> simp_all)
  · skip
    by_cases c4 : (ks.length : Int) = 4
    · skip
      simp [jb_impl_partShape_4, jk_impl_partShape_1, jk_impl_partShape_2, jk_impl_partShape_3, jk_impl_partShape_4, jk_impl_partShape_5, jk_impl_partShape_6, jk_impl_partShape_7, jk_impl_partShape_8, jk_impl_partShape_9, jk_impl_partShape_10, jk_impl_partShape_11, jk_impl_partShape_12, jk_impl_partShape_13, jk_impl_partShape_14, jk_impl_partShape_15, jk_impl_partShape_16, jk_impl_partShape_17, jk_impl_partShape_18, jk_impl_partShape_19, jk_impl_partShape_20, jk_impl_partShape_21, jk_impl_partShape_22, jk_impl_partShape_23, jk_impl_partShape_24, jk_impl_partShape_25, jk_impl_partShape_26, S.all24, S.all25, S.all26, S.all28, S.is1, S.is2, S.base, S.v24, S.v27, S.at_, S.fin, bin_geq, bin_leq, bin_lss, bin_eql, lenV_str, part_rd4, part_rd5, part_rd6, part_rd7, bin_feq, bin_sub31, bin_sub41, fltSame, c3, c4]
      try all_goals ((repeat' split) <;> simp_all)
    · skip
      simp [jb_impl_partShape_4, jk_impl_partShape_1, jk_impl_partShape_2, jk_impl_partShape_3, jk_impl_partShape_4, jk_impl_partShape_5, jk_impl_partShape_6, jk_impl_partShape_7, jk_impl_partShape_8, jk_impl_partShape_9, jk_impl_partShape_10, jk_impl_partShape_11, jk_impl_partShape_12, jk_impl_partShape_13, jk_impl_partShape_14, jk_impl_partShape_15, jk_impl_partShape_16, jk_impl_partShape_17, jk_impl_partShape_18, jk_impl_partShape_19, jk_impl_partShape_20, jk_impl_partShape_21, jk_impl_partShape_22, jk_impl_partShape_23, jk_impl_partShape_24, jk_impl_partShape_25, jk_impl_partShape_26, S.all24, S.all25, S.all26, S.all28, S.is1, S.is2, S.base, S.v24, S.v27, S.at_, S.fin, bin_geq, bin_leq, bin_lss, bin_eql, lenV_str, part_rd4, part_rd5, part_rd6, part_rd7, bin_feq, bin_sub31, bin_sub41, fltSame, c3, c4]
      try all_goals ((repeat' split) <;> simp_all)
theorem ps_10 {p : LPart} {ks : List Int} {a1 : AV} (S : PSub D p ks a1) (n1 : ¬ (200 : Int) < ks.length) (n2 : ¬ (200 : Int) < p.names.length) (hk : p.kind = 10) (σ : Store) :
    sh_impl_partShape D (.agg (encPart p)) a1 σ = some (.bool (shapeEnd p false false false false ((decide ((ks.length : Int) = 2) && isExpr (kd ks 0) && decide (kd ks 1 = 1))) 1 9223372036854775807), σ) := by
  have E1 : (p.kind = 1) = False := eq_false (by omega)
  have E2 : (p.kind = 2) = False := eq_false (by omega)
  have E3 : (p.kind = 3) = False := eq_false (by omega)
  have E4 : (p.kind = 4) = False := eq_false (by omega)
  have E5 : (p.kind = 5) = False := eq_false (by omega)
  have E6 : (p.kind = 6) = False := eq_false (by omega)
  have E7 : (p.kind = 7) = False := eq_false (by omega)
  have E8 : (p.kind = 8) = False := eq_false (by omega)
  have E9 : (p.kind = 9) = False := eq_false (by omega)
  have E10 : (p.kind = 10) = True := eq_true (by omega)
  have E11 : (p.kind = 11) = False := eq_false (by omega)
  have E12 : (p.kind = 12) = False := eq_false (by omega)
  have E13 : (p.kind = 13) = False := eq_false (by omega)
  have E14 : (p.kind = 14) = False := eq_false (by omega)
  have E15 : (p.kind = 15) = False := eq_false (by omega)
  have E16 : (p.kind = 16) = False := eq_false (by omega)
  have E20 : (p.kind = 20) = False := eq_false (by omega)
  have E21 : (p.kind = 21) = False := eq_false (by omega)
  have E22 : (p.kind = 22) = False := eq_false (by omega)
  have E23 : (p.kind = 23) = False := eq_false (by omega)
  have E24 : (p.kind = 24) = False := eq_false (by omega)
  have E25 : (p.kind = 25) = False := eq_false (by omega)
  have E26 : (p.kind = 26) = False := eq_false (by omega)
  have E27 : (p.kind = 27) = False := eq_false (by omega)
  have E28 : (p.kind = 28) = False := eq_false (by omega)
  have E29 : (p.kind = 29) = False := eq_false (by omega)
  have E30 : (p.kind = 30) = False := eq_false (by omega)
  have E31 : (p.kind = 31) = False := eq_false (by omega)
  have E32 : (p.kind = 32) = False := eq_false (by omega)
  have E33 : (p.kind = 33) = False := eq_false (by omega)
  have E34 : (p.kind = 34) = False := eq_false (by omega)
  have E35 : (p.kind = 35) = False := eq_false (by omega)
  have E36 : (p.kind = 36) = False := eq_false (by omega)
  have E37 : (p.kind = 37) = False := eq_false (by omega)
  have E40 : (p.kind = 40) = False := eq_false (by omega)
  have E41 : (p.kind = 41) = False := eq_false (by omega)
  have E42 : (p.kind = 42) = False := eq_false (by omega)
  unfold sh_impl_partShape jn
  simp only [jn, cells_agg, S.cells, rd1_p, List.getElem?_cons_zero, part_rd0, part_at0, S.lenV, len_encS, part_rd8, part_at8, Option.bind_some, bin_gtr, bin_eql, aCase_bool, n1, n2, E1, E2, E3, E4, E5, E6, E7, E8, E9, E10, E11, E12, E13, E14, E15, E16, E20, E21, E22, E23, E24, E25, E26, E27, E28, E29, E30, E31, E32, E33, E34, E35, E36, E37, E40, E41, E42, decide_false, decide_true, Bool.false_eq_true, if_false, if_true]
  unfold jb_impl_partShape_6 jn
  simp only [jn, cells_agg, S.cells, rd1_p, List.getElem?_cons_zero, part_rd0, part_at0, S.lenV, len_encS, part_rd8, part_at8, Option.bind_some, bin_gtr, bin_eql, aCase_bool, n1, n2, E1, E2, E3, E4, E5, E6, E7, E8, E9, E10, E11, E12, E13, E14, E15, E16, E20, E21, E22, E23, E24, E25, E26, E27, E28, E29, E30, E31, E32, E33, E34, E35, E36, E37, E40, E41, E42, decide_false, decide_true, Bool.false_eq_true, if_false, if_true]
  unfold jb_impl_partShape_5 jn
  simp only [jn, cells_agg, S.cells, rd1_p, List.getElem?_cons_zero, part_rd0, part_at0, S.lenV, len_encS, part_rd8, part_at8, Option.bind_some, bin_gtr, bin_eql, aCase_bool, n1, n2, E1, E2, E3, E4, E5, E6, E7, E8, E9, E10, E11, E12, E13, E14, E15, E16, E20, E21, E22, E23, E24, E25, E26, E27, E28, E29, E30, E31, E32, E33, E34, E35, E36, E37, E40, E41, E42, decide_false, decide_true, Bool.false_eq_true, if_false, if_true]
  by_cases c2 : (ks.length : Int) = 2
  · skip
    simp [jb_impl_partShape_4, jk_impl_partShape_1, jk_impl_partShape_2, jk_impl_partShape_3, jk_impl_partShape_4, jk_impl_partShape_5, jk_impl_partShape_6, jk_impl_partShape_7, jk_impl_partShape_8, jk_impl_partShape_9, jk_impl_partShape_10, jk_impl_partShape_11, jk_impl_partShape_12, jk_impl_partShape_13, jk_impl_partShape_14, jk_impl_partShape_15, jk_impl_partShape_16, jk_impl_partShape_17, jk_impl_partShape_18, jk_impl_partShape_19, jk_impl_partShape_20, jk_impl_partShape_21, jk_impl_partShape_22, jk_impl_partShape_23, jk_impl_partShape_24, jk_impl_partShape_25, jk_impl_partShape_26, S.all24, S.all25, S.all26, S.all28, S.is1, S.is2, S.base, S.v24, S.v27, S.at_, S.fin, bin_geq, bin_leq, bin_lss, bin_eql, lenV_str, part_rd4, part_rd5, part_rd6, part_rd7, bin_feq, bin_sub31, bin_sub41, fltSame, c2]
    try all_goals ((repeat' split) <;> simp_all)
  · skip
    simp [jb_impl_partShape_4, jk_impl_partShape_1, jk_impl_partShape_2, jk_impl_partShape_3, jk_impl_partShape_4, jk_impl_partShape_5, jk_impl_partShape_6, jk_impl_partShape_7, jk_impl_partShape_8, jk_impl_partShape_9, jk_impl_partShape_10, jk_impl_partShape_11, jk_impl_partShape_12, jk_impl_partShape_13, jk_impl_partShape_14, jk_impl_partShape_15, jk_impl_partShape_16, jk_impl_partShape_17, jk_impl_partShape_18, jk_impl_partShape_19, jk_impl_partShape_20, jk_impl_partShape_21, jk_impl_partShape_22, jk_impl_partShape_23, jk_impl_partShape_24, jk_impl_partShape_25, jk_impl_partShape_26, S.all24, S.all25, S.all26, S.all28, S.is1, S.is2, S.base, S.v24, S.v27, S.at_, S.fin, bin_geq, bin_leq, bin_lss, bin_eql, lenV_str, part_rd4, part_rd5, part_rd6, part_rd7, bin_feq, bin_sub31, bin_sub41, fltSame, c2]
    try all_goals ((repeat' split) <;> simp_all)
theorem ps_11 {p : LPart} {ks : List Int} {a1 : AV} (S : PSub D p ks a1) (n1 : ¬ (200 : Int) < ks.length) (n2 : ¬ (200 : Int) < p.names.length) (hk : p.kind = 11) (σ : Store) :
    sh_impl_partShape D (.agg (encPart p)) a1 σ = some (.bool (shapeEnd p false false false false (decide ((ks.length : Int) = 0)) 0 0), σ) := by
  have E1 : (p.kind = 1) = False := eq_false (by omega)
  have E2 : (p.kind = 2) = False := eq_false (by omega)
  have E3 : (p.kind = 3) = False := eq_false (by omega)
  have E4 : (p.kind = 4) = False := eq_false (by omega)
  have E5 : (p.kind = 5) = False := eq_false (by omega)
  have E6 : (p.kind = 6) = False := eq_false (by omega)
  have E7 : (p.kind = 7) = False := eq_false (by omega)
  have E8 : (p.kind = 8) = False := eq_false (by omega)
  have E9 : (p.kind = 9) = False := eq_false (by omega)
  have E10 : (p.kind = 10) = False := eq_false (by omega)
  have E11 : (p.kind = 11) = True := eq_true (by omega)
  have E12 : (p.kind = 12) = False := eq_false (by omega)
  have E13 : (p.kind = 13) = False := eq_false (by omega)
  have E14 : (p.kind = 14) = False := eq_false (by omega)
  have E15 : (p.kind = 15) = False := eq_false (by omega)
  have E16 : (p.kind = 16) = False := eq_false (by omega)
  have E20 : (p.kind = 20) = False := eq_false (by omega)
  have E21 : (p.kind = 21) = False := eq_false (by omega)
  have E22 : (p.kind = 22) = False := eq_false (by omega)
  have E23 : (p.kind = 23) = False := eq_false (by omega)
  have E24 : (p.kind = 24) = False := eq_false (by omega)
  have E25 : (p.kind = 25) = False := eq_false (by omega)
  have E26 : (p.kind = 26) = False := eq_false (by omega)
  have E27 : (p.kind = 27) = False := eq_false (by omega)
  have E28 : (p.kind = 28) = False := eq_false (by omega)
  have E29 : (p.kind = 29) = False := eq_false (by omega)
  have E30 : (p.kind = 30) = False := eq_false (by omega)
  have E31 : (p.kind = 31) = False := eq_false (by omega)
  have E32 : (p.kind = 32) = False := eq_false (by omega)
  have E33 : (p.kind = 33) = False := eq_false (by omega)
  have E34 : (p.kind = 34) = False := eq_false (by omega)
  have E35 : (p.kind = 35) = False := eq_false (by omega)
  have E36 : (p.kind = 36) = False := eq_false (by omega)
  have E37 : (p.kind = 37) = False := eq_false (by omega)
  have E40 : (p.kind = 40) = False := eq_false (by omega)
  have E41 : (p.kind = 41) = False := eq_false (by omega)
  have E42 : (p.kind = 42) = False := eq_false (by omega)
  unfold sh_impl_partShape jn
  simp only [jn, cells_agg, S.cells, rd1_p, List.getElem?_cons_zero, part_rd0, part_at0, S.lenV, len_encS, part_rd8, part_at8, Option.bind_some, bin_gtr, bin_eql, aCase_bool, n1, n2, E1, E2, E3, E4, E5, E6, E7, E8, E9, E10, E11, E12, E13, E14, E15, E16, E20, E21, E22, E23, E24, E25, E26, E27, E28, E29, E30, E31, E32, E33, E34, E35, E36, E37, E40, E41, E42, decide_false, decide_true, Bool.false_eq_true, if_false, if_true]
  unfold jb_impl_partShape_6 jn
  simp only [jn, cells_agg, S.cells, rd1_p, List.getElem?_cons_zero, part_rd0, part_at0, S.lenV, len_encS, part_rd8, part_at8, Option.bind_some, bin_gtr, bin_eql, aCase_bool, n1, n2, E1, E2, E3, E4, E5, E6, E7, E8, E9, E10, E11, E12, E13, E14, E15, E16, E20, E21, E22, E23, E24, E25, E26, E27, E28, E29, E30, E31, E32, E33, E34, E35, E36, E37, E40, E41, E42, decide_false, decide_true, Bool.false_eq_true, if_false, if_true]
  unfold jb_impl_partShape_5 jn
  simp only [jn, cells_agg, S.cells, rd1_p, List.getElem?_cons_zero, part_rd0, part_at0, S.lenV, len_encS, part_rd8, part_at8, Option.bind_some, bin_gtr, bin_eql, aCase_bool, n1, n2, E1, E2, E3, E4, E5, E6, E7, E8, E9, E10, E11, E12, E13, E14, E15, E16, E20, E21, E22, E23, E24, E25, E26, E27, E28, E29, E30, E31, E32, E33, E34, E35, E36, E37, E40, E41, E42, decide_false, decide_true, Bool.false_eq_true, if_false, if_true]
  unfold jb_impl_partShape_3 jn
  simp only [jn, cells_agg, S.cells, rd1_p, List.getElem?_cons_zero, part_rd0, part_at0, S.lenV, len_encS, part_rd8, part_at8, Option.bind_some, bin_gtr, bin_eql, aCase_bool, n1, n2, E1, E2, E3, E4, E5, E6, E7, E8, E9, E10, E11, E12, E13, E14, E15, E16, E20, E21, E22, E23, E24, E25, E26, E27, E28, E29, E30, E31, E32, E33, E34, E35, E36, E37, E40, E41, E42, decide_false, decide_true, Bool.false_eq_true, if_false, if_true]
  simp [jb_impl_partShape_4, jk_impl_partShape_1, jk_impl_partShape_2, jk_impl_partShape_3, jk_impl_partShape_4, jk_impl_partShape_5, jk_impl_partShape_6, jk_impl_partShape_7, jk_impl_partShape_8, jk_impl_partShape_9, jk_impl_partShape_10, jk_impl_partShape_11, jk_impl_partShape_12, jk_impl_partShape_13, jk_impl_partShape_14, jk_impl_partShape_15, jk_impl_partShape_16, jk_impl_partShape_17, jk_impl_partShape_18, jk_impl_partShape_19, jk_impl_partShape_20, jk_impl_partShape_21, jk_impl_partShape_22, jk_impl_partShape_23, jk_impl_partShape_24, jk_impl_partShape_25, jk_impl_partShape_26, S.all24, S.all25, S.all26, S.all28, S.is1, S.is2, S.base, S.v24, S.v27, S.at_, S.fin, bin_geq, bin_leq, bin_lss, bin_eql, lenV_str, part_rd4, part_rd5, part_rd6, part_rd7, bin_feq, bin_sub31, bin_sub41, fltSame]
  try all_goals ((repeat' split) <;> simp_all)
theorem ps_12 {p : LPart} {ks : List Int} {a1 : AV} (S : PSub D p ks a1) (n1 : ¬ (200 : Int) < ks.length) (n2 : ¬ (200 : Int) < p.names.length) (hk : p.kind = 12) (σ : Store) :
    sh_impl_partShape D (.agg (encPart p)) a1 σ = some (.bool (shapeEnd p false false false false (decide ((ks.length : Int) = 0)) 0 0), σ) := by
  have E1 : (p.kind = 1) = False := eq_false (by omega)
  have E2 : (p.kind = 2) = False := eq_false (by omega)
  have E3 : (p.kind = 3) = False := eq_false (by omega)
  have E4 : (p.kind = 4) = False := eq_false (by omega)
  have E5 : (p.kind = 5) = False := eq_false (by omega)
  have E6 : (p.kind = 6) = False := eq_false (by omega)
  have E7 : (p.kind = 7) = False := eq_false (by omega)
  have E8 : (p.kind = 8) = False := eq_false (by omega)
  have E9 : (p.kind = 9) = False := eq_false (by omega)
  have E10 : (p.kind = 10) = False := eq_false (by omega)
  have E11 : (p.kind = 11) = False := eq_false (by omega)
  have E12 : (p.kind = 12) = True := eq_true (by omega)
  have E13 : (p.kind = 13) = False := eq_false (by omega)
  have E14 : (p.kind = 14) = False := eq_false (by omega)
  have E15 : (p.kind = 15) = False := eq_false (by omega)
  have E16 : (p.kind = 16) = False := eq_false (by omega)
  have E20 : (p.kind = 20) = False := eq_false (by omega)
  have E21 : (p.kind = 21) = False := eq_false (by omega)
  have E22 : (p.kind = 22) = False := eq_false (by omega)
  have E23 : (p.kind = 23) = False := eq_false (by omega)
  have E24 : (p.kind = 24) = False := eq_false (by omega)
  have E25 : (p.kind = 25) = False := eq_false (by omega)
  have E26 : (p.kind = 26) = False := eq_false (by omega)
  have E27 : (p.kind = 27) = False := eq_false (by omega)
  have E28 : (p.kind = 28) = False := eq_false (by omega)
  have E29 : (p.kind = 29) = False := eq_false (by omega)
  have E30 : (p.kind = 30) = False := eq_false (by omega)
  have E31 : (p.kind = 31) = False := eq_false (by omega)
  have E32 : (p.kind = 32) = False := eq_false (by omega)
  have E33 : (p.kind = 33) = False := eq_false (by omega)
  have E34 : (p.kind = 34) = False := eq_false (by omega)
  have E35 : (p.kind = 35) = False := eq_false (by omega)
  have E36 : (p.kind = 36) = False := eq_false (by omega)
  have E37 : (p.kind = 37) = False := eq_false (by omega)
  have E40 : (p.kind = 40) = False := eq_false (by omega)
  have E41 : (p.kind = 41) = False := eq_false (by omega)
  have E42 : (p.kind = 42) = False := eq_false (by omega)
  unfold sh_impl_partShape jn
  simp only [jn, cells_agg, S.cells, rd1_p, List.getElem?_cons_zero, part_rd0, part_at0, S.lenV, len_encS, part_rd8, part_at8, Option.bind_some, bin_gtr, bin_eql, aCase_bool, n1, n2, E1, E2, E3, E4, E5, E6, E7, E8, E9, E10, E11, E12, E13, E14, E15, E16, E20, E21, E22, E23, E24, E25, E26, E27, E28, E29, E30, E31, E32, E33, E34, E35, E36, E37, E40, E41, E42, decide_false, decide_true, Bool.false_eq_true, if_false, if_true]
  unfold jb_impl_partShape_6 jn
  simp only [jn, cells_agg, S.cells, rd1_p, List.getElem?_cons_zero, part_rd0, part_at0, S.lenV, len_encS, part_rd8, part_at8, Option.bind_some, bin_gtr, bin_eql, aCase_bool, n1, n2, E1, E2, E3, E4, E5, E6, E7, E8, E9, E10, E11, E12, E13, E14, E15, E16, E20, E21, E22, E23, E24, E25, E26, E27, E28, E29, E30, E31, E32, E33, E34, E35, E36, E37, E40, E41, E42, decide_false, decide_true, Bool.false_eq_true, if_false, if_true]
  unfold jb_impl_partShape_5 jn
  simp only [jn, cells_agg, S.cells, rd1_p, List.getElem?_cons_zero, part_rd0, part_at0, S.lenV, len_encS, part_rd8, part_at8, Option.bind_some, bin_gtr, bin_eql, aCase_bool, n1, n2, E1, E2, E3, E4, E5, E6, E7, E8, E9, E10, E11, E12, E13, E14, E15, E16, E20, E21, E22, E23, E24, E25, E26, E27, E28, E29, E30, E31, E32, E33, E34, E35, E36, E37, E40, E41, E42, decide_false, decide_true, Bool.false_eq_true, if_false, if_true]
  unfold jb_impl_partShape_3 jn
  simp only [jn, cells_agg, S.cells, rd1_p, List.getElem?_cons_zero, part_rd0, part_at0, S.lenV, len_encS, part_rd8, part_at8, Option.bind_some, bin_gtr, bin_eql, aCase_bool, n1, n2, E1, E2, E3, E4, E5, E6, E7, E8, E9, E10, E11, E12, E13, E14, E15, E16, E20, E21, E22, E23, E24, E25, E26, E27, E28, E29, E30, E31, E32, E33, E34, E35, E36, E37, E40, E41, E42, decide_false, decide_true, Bool.false_eq_true, if_false, if_true]
  simp [jb_impl_partShape_4, jk_impl_partShape_1, jk_impl_partShape_2, jk_impl_partShape_3, jk_impl_partShape_4, jk_impl_partShape_5, jk_impl_partShape_6, jk_impl_partShape_7, jk_impl_partShape_8, jk_impl_partShape_9, jk_impl_partShape_10, jk_impl_partShape_11, jk_impl_partShape_12, jk_impl_partShape_13, jk_impl_partShape_14, jk_impl_partShape_15, jk_impl_partShape_16, jk_impl_partShape_17, jk_impl_partShape_18, jk_impl_partShape_19, jk_impl_partShape_20, jk_impl_partShape_21, jk_impl_partShape_22, jk_impl_partShape_23, jk_impl_partShape_24, jk_impl_partShape_25, jk_impl_partShape_26, S.all24, S.all25, S.all26, S.all28, S.is1, S.is2, S.base, S.v24, S.v27, S.at_, S.fin, bin_geq, bin_leq, bin_lss, bin_eql, lenV_str, part_rd4, part_rd5, part_rd6, part_rd7, bin_feq, bin_sub31, bin_sub41, fltSame]
  try all_goals ((repeat' split) <;> simp_all)
theorem ps_13 {p : LPart} {ks : List Int} {a1 : AV} (S : PSub D p ks a1) (n1 : ¬ (200 : Int) < ks.length) (n2 : ¬ (200 : Int) < p.names.length) (hk : p.kind = 13) (σ : Store) :
    sh_impl_partShape D (.agg (encPart p)) a1 σ = some (.bool (shapeEnd p false false false false (alls isExpr ks 0 ks.length) 0 0), σ) := by
  have E1 : (p.kind = 1) = False := eq_false (by omega)
  have E2 : (p.kind = 2) = False := eq_false (by omega)
  have E3 : (p.kind = 3) = False := eq_false (by omega)
  have E4 : (p.kind = 4) = False := eq_false (by omega)
  have E5 : (p.kind = 5) = False := eq_false (by omega)
  have E6 : (p.kind = 6) = False := eq_false (by omega)
  have E7 : (p.kind = 7) = False := eq_false (by omega)
  have E8 : (p.kind = 8) = False := eq_false (by omega)
  have E9 : (p.kind = 9) = False := eq_false (by omega)
  have E10 : (p.kind = 10) = False := eq_false (by omega)
  have E11 : (p.kind = 11) = False := eq_false (by omega)
  have E12 : (p.kind = 12) = False := eq_false (by omega)
  have E13 : (p.kind = 13) = True := eq_true (by omega)
  have E14 : (p.kind = 14) = False := eq_false (by omega)
  have E15 : (p.kind = 15) = False := eq_false (by omega)
  have E16 : (p.kind = 16) = False := eq_false (by omega)
  have E20 : (p.kind = 20) = False := eq_false (by omega)
  have E21 : (p.kind = 21) = False := eq_false (by omega)
  have E22 : (p.kind = 22) = False := eq_false (by omega)
  have E23 : (p.kind = 23) = False := eq_false (by omega)
  have E24 : (p.kind = 24) = False := eq_false (by omega)
  have E25 : (p.kind = 25) = False := eq_false (by omega)
  have E26 : (p.kind = 26) = False := eq_false (by omega)
  have E27 : (p.kind = 27) = False := eq_false (by omega)
  have E28 : (p.kind = 28) = False := eq_false (by omega)
  have E29 : (p.kind = 29) = False := eq_false (by omega)
  have E30 : (p.kind = 30) = False := eq_false (by omega)
  have E31 : (p.kind = 31) = False := eq_false (by omega)
  have E32 : (p.kind = 32) = False := eq_false (by omega)
  have E33 : (p.kind = 33) = False := eq_false (by omega)
  have E34 : (p.kind = 34) = False := eq_false (by omega)
  have E35 : (p.kind = 35) = False := eq_false (by omega)
  have E36 : (p.kind = 36) = False := eq_false (by omega)
  have E37 : (p.kind = 37) = False := eq_false (by omega)
  have E40 : (p.kind = 40) = False := eq_false (by omega)
  have E41 : (p.kind = 41) = False := eq_false (by omega)
  have E42 : (p.kind = 42) = False := eq_false (by omega)
  unfold sh_impl_partShape jn
  simp only [jn, cells_agg, S.cells, rd1_p, List.getElem?_cons_zero, part_rd0, part_at0, S.lenV, len_encS, part_rd8, part_at8, Option.bind_some, bin_gtr, bin_eql, aCase_bool, n1, n2, E1, E2, E3, E4, E5, E6, E7, E8, E9, E10, E11, E12, E13, E14, E15, E16, E20, E21, E22, E23, E24, E25, E26, E27, E28, E29, E30, E31, E32, E33, E34, E35, E36, E37, E40, E41, E42, decide_false, decide_true, Bool.false_eq_true, if_false, if_true]
  unfold jb_impl_partShape_6 jn
  simp only [jn, cells_agg, S.cells, rd1_p, List.getElem?_cons_zero, part_rd0, part_at0, S.lenV, len_encS, part_rd8, part_at8, Option.bind_some, bin_gtr, bin_eql, aCase_bool, n1, n2, E1, E2, E3, E4, E5, E6, E7, E8, E9, E10, E11, E12, E13, E14, E15, E16, E20, E21, E22, E23, E24, E25, E26, E27, E28, E29, E30, E31, E32, E33, E34, E35, E36, E37, E40, E41, E42, decide_false, decide_true, Bool.false_eq_true, if_false, if_true]
  unfold jb_impl_partShape_5 jn
  simp only [jn, cells_agg, S.cells, rd1_p, List.getElem?_cons_zero, part_rd0, part_at0, S.lenV, len_encS, part_rd8, part_at8, Option.bind_some, bin_gtr, bin_eql, aCase_bool, n1, n2, E1, E2, E3, E4, E5, E6, E7, E8, E9, E10, E11, E12, E13, E14, E15, E16, E20, E21, E22, E23, E24, E25, E26, E27, E28, E29, E30, E31, E32, E33, E34, E35, E36, E37, E40, E41, E42, decide_false, decide_true, Bool.false_eq_true, if_false, if_true]
  unfold jb_impl_partShape_3 jn
  simp only [jn, cells_agg, S.cells, rd1_p, List.getElem?_cons_zero, part_rd0, part_at0, S.lenV, len_encS, part_rd8, part_at8, Option.bind_some, bin_gtr, bin_eql, aCase_bool, n1, n2, E1, E2, E3, E4, E5, E6, E7, E8, E9, E10, E11, E12, E13, E14, E15, E16, E20, E21, E22, E23, E24, E25, E26, E27, E28, E29, E30, E31, E32, E33, E34, E35, E36, E37, E40, E41, E42, decide_false, decide_true, Bool.false_eq_true, if_false, if_true]
  simp [jb_impl_partShape_4, jk_impl_partShape_1, jk_impl_partShape_2, jk_impl_partShape_3, jk_impl_partShape_4, jk_impl_partShape_5, jk_impl_partShape_6, jk_impl_partShape_7, jk_impl_partShape_8, jk_impl_partShape_9, jk_impl_partShape_10, jk_impl_partShape_11, jk_impl_partShape_12, jk_impl_partShape_13, jk_impl_partShape_14, jk_impl_partShape_15, jk_impl_partShape_16, jk_impl_partShape_17, jk_impl_partShape_18, jk_impl_partShape_19, jk_impl_partShape_20, jk_impl_partShape_21, jk_impl_partShape_22, jk_impl_partShape_23, jk_impl_partShape_24, jk_impl_partShape_25, jk_impl_partShape_26, S.all24, S.all25, S.all26, S.all28, S.is1, S.is2, S.base, S.v24, S.v27, S.at_, S.fin, bin_geq, bin_leq, bin_lss, bin_eql, lenV_str, part_rd4, part_rd5, part_rd6, part_rd7, bin_feq, bin_sub31, bin_sub41, fltSame]
  try all_goals ((repeat' split) <;> simp_all)
theorem ps_14 {p : LPart} {ks : List Int} {a1 : AV} (S : PSub D p ks a1) (n1 : ¬ (200 : Int) < ks.length) (n2 : ¬ (200 : Int) < p.names.length) (hk : p.kind = 14) (σ : Store) :
    sh_impl_partShape D (.agg (encPart p)) a1 σ = some (.bool (shapeEnd p false false false false ((decide ((ks.length : Int) = 2) && decide (kd ks 0 = 1) && decide (kd ks 1 = 1))) 1 2), σ) := by
  have E1 : (p.kind = 1) = False := eq_false (by omega)
  have E2 : (p.kind = 2) = False := eq_false (by omega)
  have E3 : (p.kind = 3) = False := eq_false (by omega)
  have E4 : (p.kind = 4) = False := eq_false (by omega)
  have E5 : (p.kind = 5) = False := eq_false (by omega)
  have E6 : (p.kind = 6) = False := eq_false (by omega)
  have E7 : (p.kind = 7) = False := eq_false (by omega)
  have E8 : (p.kind = 8) = False := eq_false (by omega)
  have E9 : (p.kind = 9) = False := eq_false (by omega)
  have E10 : (p.kind = 10) = False := eq_false (by omega)
  have E11 : (p.kind = 11) = False := eq_false (by omega)
  have E12 : (p.kind = 12) = False := eq_false (by omega)
  have E13 : (p.kind = 13) = False := eq_false (by omega)
  have E14 : (p.kind = 14) = True := eq_true (by omega)
  have E15 : (p.kind = 15) = False := eq_false (by omega)
  have E16 : (p.kind = 16) = False := eq_false (by omega)
  have E20 : (p.kind = 20) = False := eq_false (by omega)
  have E21 : (p.kind = 21) = False := eq_false (by omega)
  have E22 : (p.kind = 22) = False := eq_false (by omega)
  have E23 : (p.kind = 23) = False := eq_false (by omega)
  have E24 : (p.kind = 24) = False := eq_false (by omega)
  have E25 : (p.kind = 25) = False := eq_false (by omega)
  have E26 : (p.kind = 26) = False := eq_false (by omega)
  have E27 : (p.kind = 27) = False := eq_false (by omega)
  have E28 : (p.kind = 28) = False := eq_false (by omega)
  have E29 : (p.kind = 29) = False := eq_false (by omega)
  have E30 : (p.kind = 30) = False := eq_false (by omega)
  have E31 : (p.kind = 31) = False := eq_false (by omega)
  have E32 : (p.kind = 32) = False := eq_false (by omega)
  have E33 : (p.kind = 33) = False := eq_false (by omega)
  have E34 : (p.kind = 34) = False := eq_false (by omega)
  have E35 : (p.kind = 35) = False := eq_false (by omega)
  have E36 : (p.kind = 36) = False := eq_false (by omega)
  have E37 : (p.kind = 37) = False := eq_false (by omega)
  have E40 : (p.kind = 40) = False := eq_false (by omega)
  have E41 : (p.kind = 41) = False := eq_false (by omega)
  have E42 : (p.kind = 42) = False := eq_false (by omega)
  unfold sh_impl_partShape jn
  simp only [jn, cells_agg, S.cells, rd1_p, List.getElem?_cons_zero, part_rd0, part_at0, S.lenV, len_encS, part_rd8, part_at8, Option.bind_some, bin_gtr, bin_eql, aCase_bool, n1, n2, E1, E2, E3, E4, E5, E6, E7, E8, E9, E10, E11, E12, E13, E14, E15, E16, E20, E21, E22, E23, E24, E25, E26, E27, E28, E29, E30, E31, E32, E33, E34, E35, E36, E37, E40, E41, E42, decide_false, decide_true, Bool.false_eq_true, if_false, if_true]
  unfold jb_impl_partShape_6 jn
  simp only [jn, cells_agg, S.cells, rd1_p, List.getElem?_cons_zero, part_rd0, part_at0, S.lenV, len_encS, part_rd8, part_at8, Option.bind_some, bin_gtr, bin_eql, aCase_bool, n1, n2, E1, E2, E3, E4, E5, E6, E7, E8, E9, E10, E11, E12, E13, E14, E15, E16, E20, E21, E22, E23, E24, E25, E26, E27, E28, E29, E30, E31, E32, E33, E34, E35, E36, E37, E40, E41, E42, decide_false, decide_true, Bool.false_eq_true, if_false, if_true]
  unfold jb_impl_partShape_5 jn
  simp only [jn, cells_agg, S.cells, rd1_p, List.getElem?_cons_zero, part_rd0, part_at0, S.lenV, len_encS, part_rd8, part_at8, Option.bind_some, bin_gtr, bin_eql, aCase_bool, n1, n2, E1, E2, E3, E4, E5, E6, E7, E8, E9, E10, E11, E12, E13, E14, E15, E16, E20, E21, E22, E23, E24, E25, E26, E27, E28, E29, E30, E31, E32, E33, E34, E35, E36, E37, E40, E41, E42, decide_false, decide_true, Bool.false_eq_true, if_false, if_true]
  unfold jb_impl_partShape_3 jn
  simp only [jn, cells_agg, S.cells, rd1_p, List.getElem?_cons_zero, part_rd0, part_at0, S.lenV, len_encS, part_rd8, part_at8, Option.bind_some, bin_gtr, bin_eql, aCase_bool, n1, n2, E1, E2, E3, E4, E5, E6, E7, E8, E9, E10, E11, E12, E13, E14, E15, E16, E20, E21, E22, E23, E24, E25, E26, E27, E28, E29, E30, E31, E32, E33, E34, E35, E36, E37, E40, E41, E42, decide_false, decide_true, Bool.false_eq_true, if_false, if_true]
  by_cases c2 : (ks.length : Int) = 2
  · skip
    simp [jb_impl_partShape_4, jk_impl_partShape_1, jk_impl_partShape_2, jk_impl_partShape_3, jk_impl_partShape_4, jk_impl_partShape_5, jk_impl_partShape_6, jk_impl_partShape_7, jk_impl_partShape_8, jk_impl_partShape_9, jk_impl_partShape_10, jk_impl_partShape_11, jk_impl_partShape_12, jk_impl_partShape_13, jk_impl_partShape_14, jk_impl_partShape_15, jk_impl_partShape_16, jk_impl_partShape_17, jk_impl_partShape_18, jk_impl_partShape_19, jk_impl_partShape_20, jk_impl_partShape_21, jk_impl_partShape_22, jk_impl_partShape_23, jk_impl_partShape_24, jk_impl_partShape_25, jk_impl_partShape_26, S.all24, S.all25, S.all26, S.all28, S.is1, S.is2, S.base, S.v24, S.v27, S.at_, S.fin, bin_geq, bin_leq, bin_lss, bin_eql, lenV_str, part_rd4, part_rd5, part_rd6, part_rd7, bin_feq, bin_sub31, bin_sub41, fltSame, c2]
    try all_goals ((repeat' split) <;> simp_all)
  · skip
    simp [jb_impl_partShape_4, jk_impl_partShape_1, jk_impl_partShape_2, jk_impl_partShape_3, jk_impl_partShape_4, jk_impl_partShape_5, jk_impl_partShape_6, jk_impl_partShape_7, jk_impl_partShape_8, jk_impl_partShape_9, jk_impl_partShape_10, jk_impl_partShape_11, jk_impl_partShape_12, jk_impl_partShape_13, jk_impl_partShape_14, jk_impl_partShape_15, jk_impl_partShape_16, jk_impl_partShape_17, jk_impl_partShape_18, jk_impl_partShape_19, jk_impl_partShape_20, jk_impl_partShape_21, jk_impl_partShape_22, jk_impl_partShape_23, jk_impl_partShape_24, jk_impl_partShape_25, jk_impl_partShape_26, S.all24, S.all25, S.all26, S.all28, S.is1, S.is2, S.base, S.v24, S.v27, S.at_, S.fin, bin_geq, bin_leq, bin_lss, bin_eql, lenV_str, part_rd4, part_rd5, part_rd6, part_rd7, bin_feq, bin_sub31, bin_sub41, fltSame, c2]
    try all_goals ((repeat' split) <;> simp_all)
theorem ps_15 {p : LPart} {ks : List Int} {a1 : AV} (S : PSub D p ks a1) (n1 : ¬ (200 : Int) < ks.length) (n2 : ¬ (200 : Int) < p.names.length) (hk : p.kind = 15) (σ : Store) :
    sh_impl_partShape D (.agg (encPart p)) a1 σ = some (.bool (shapeEnd p false false false false ((decide ((ks.length : Int) = 1) && isExpr (kd ks 0))) 0 0), σ) := by
  have E1 : (p.kind = 1) = False := eq_false (by omega)
  have E2 : (p.kind = 2) = False := eq_false (by omega)
  have E3 : (p.kind = 3) = False := eq_false (by omega)
  have E4 : (p.kind = 4) = False := eq_false (by omega)
  have E5 : (p.kind = 5) = False := eq_false (by omega)
  have E6 : (p.kind = 6) = False := eq_false (by omega)
  have E7 : (p.kind = 7) = False := eq_false (by omega)
  have E8 : (p.kind = 8) = False := eq_false (by omega)
  have E9 : (p.kind = 9) = False := eq_false (by omega)
  have E10 : (p.kind = 10) = False := eq_false (by omega)
  have E11 : (p.kind = 11) = False := eq_false (by omega)
  have E12 : (p.kind = 12) = False := eq_false (by omega)
  have E13 : (p.kind = 13) = False := eq_false (by omega)
  have E14 : (p.kind = 14) = False := eq_false (by omega)
  have E15 : (p.kind = 15) = True := eq_true (by omega)
  have E16 : (p.kind = 16) = False := eq_false (by omega)
  have E20 : (p.kind = 20) = False := eq_false (by omega)
  have E21 : (p.kind = 21) = False := eq_false (by omega)
  have E22 : (p.kind = 22) = False := eq_false (by omega)
  have E23 : (p.kind = 23) = False := eq_false (by omega)
  have E24 : (p.kind = 24) = False := eq_false (by omega)
  have E25 : (p.kind = 25) = False := eq_false (by omega)
  have E26 : (p.kind = 26) = False := eq_false (by omega)
  have E27 : (p.kind = 27) = False := eq_false (by omega)
  have E28 : (p.kind = 28) = False := eq_false (by omega)
  have E29 : (p.kind = 29) = False := eq_false (by omega)
  have E30 : (p.kind = 30) = False := eq_false (by omega)
  have E31 : (p.kind = 31) = False := eq_false (by omega)
  have E32 : (p.kind = 32) = False := eq_false (by omega)
  have E33 : (p.kind = 33) = False := eq_false (by omega)
  have E34 : (p.kind = 34) = False := eq_false (by omega)
  have E35 : (p.kind = 35) = False := eq_false (by omega)
  have E36 : (p.kind = 36) = False := eq_false (by omega)
  have E37 : (p.kind = 37) = False := eq_false (by omega)
  have E40 : (p.kind = 40) = False := eq_false (by omega)
  have E41 : (p.kind = 41) = False := eq_false (by omega)
  have E42 : (p.kind = 42) = False := eq_false (by omega)
  unfold sh_impl_partShape jn
  simp only [jn, cells_agg, S.cells, rd1_p, List.getElem?_cons_zero, part_rd0, part_at0, S.lenV, len_encS, part_rd8, part_at8, Option.bind_some, bin_gtr, bin_eql, aCase_bool, n1, n2, E1, E2, E3, E4, E5, E6, E7, E8, E9, E10, E11, E12, E13, E14, E15, E16, E20, E21, E22, E23, E24, E25, E26, E27, E28, E29, E30, E31, E32, E33, E34, E35, E36, E37, E40, E41, E42, decide_false, decide_true, Bool.false_eq_true, if_false, if_true]
  unfold jb_impl_partShape_6 jn
  simp only [jn, cells_agg, S.cells, rd1_p, List.getElem?_cons_zero, part_rd0, part_at0, S.lenV, len_encS, part_rd8, part_at8, Option.bind_some, bin_gtr, bin_eql, aCase_bool, n1, n2, E1, E2, E3, E4, E5, E6, E7, E8, E9, E10, E11, E12, E13, E14, E15, E16, E20, E21, E22, E23, E24, E25, E26, E27, E28, E29, E30, E31, E32, E33, E34, E35, E36, E37, E40, E41, E42, decide_false, decide_true, Bool.false_eq_true, if_false, if_true]
  unfold jb_impl_partShape_5 jn
  simp only [jn, cells_agg, S.cells, rd1_p, List.getElem?_cons_zero, part_rd0, part_at0, S.lenV, len_encS, part_rd8, part_at8, Option.bind_some, bin_gtr, bin_eql, aCase_bool, n1, n2, E1, E2, E3, E4, E5, E6, E7, E8, E9, E10, E11, E12, E13, E14, E15, E16, E20, E21, E22, E23, E24, E25, E26, E27, E28, E29, E30, E31, E32, E33, E34, E35, E36, E37, E40, E41, E42, decide_false, decide_true, Bool.false_eq_true, if_false, if_true]
  unfold jb_impl_partShape_3 jn
  simp only [jn, cells_agg, S.cells, rd1_p, List.getElem?_cons_zero, part_rd0, part_at0, S.lenV, len_encS, part_rd8, part_at8, Option.bind_some, bin_gtr, bin_eql, aCase_bool, n1, n2, E1, E2, E3, E4, E5, E6, E7, E8, E9, E10, E11, E12, E13, E14, E15, E16, E20, E21, E22, E23, E24, E25, E26, E27, E28, E29, E30, E31, E32, E33, E34, E35, E36, E37, E40, E41, E42, decide_false, decide_true, Bool.false_eq_true, if_false, if_true]
  by_cases c1 : (ks.length : Int) = 1
  · skip
    simp [jb_impl_partShape_4, jk_impl_partShape_1, jk_impl_partShape_2, jk_impl_partShape_3, jk_impl_partShape_4, jk_impl_partShape_5, jk_impl_partShape_6, jk_impl_partShape_7, jk_impl_partShape_8, jk_impl_partShape_9, jk_impl_partShape_10, jk_impl_partShape_11, jk_impl_partShape_12, jk_impl_partShape_13, jk_impl_partShape_14, jk_impl_partShape_15, jk_impl_partShape_16, jk_impl_partShape_17, jk_impl_partShape_18, jk_impl_partShape_19, jk_impl_partShape_20, jk_impl_partShape_21, jk_impl_partShape_22, jk_impl_partShape_23, jk_impl_partShape_24, jk_impl_partShape_25, jk_impl_partShape_26, S.all24, S.all25, S.all26, S.all28, S.is1, S.is2, S.base, S.v24, S.v27, S.at_, S.fin, bin_geq, bin_leq, bin_lss, bin_eql, lenV_str, part_rd4, part_rd5, part_rd6, part_rd7, bin_feq, bin_sub31, bin_sub41, fltSame, c1]
    try all_goals ((repeat' split) <;> simp_all)
  · skip
    simp [jb_impl_partShape_4, jk_impl_partShape_1, jk_impl_partShape_2, jk_impl_partShape_3, jk_impl_partShape_4, jk_impl_partShape_5, jk_impl_partShape_6, jk_impl_partShape_7, jk_impl_partShape_8, jk_impl_partShape_9, jk_impl_partShape_10, jk_impl_partShape_11, jk_impl_partShape_12, jk_impl_partShape_13, jk_impl_partShape_14, jk_impl_partShape_15, jk_impl_partShape_16, jk_impl_partShape_17, jk_impl_partShape_18, jk_impl_partShape_19, jk_impl_partShape_20, jk_impl_partShape_21, jk_impl_partShape_22, jk_impl_partShape_23, jk_impl_partShape_24, jk_impl_partShape_25, jk_impl_partShape_26, S.all24, S.all25, S.all26, S.all28, S.is1, S.is2, S.base, S.v24, S.v27, S.at_, S.fin, bin_geq, bin_leq, bin_lss, bin_eql, lenV_str, part_rd4, part_rd5, part_rd6, part_rd7, bin_feq, bin_sub31, bin_sub41, fltSame, c1]
    try all_goals ((repeat' split) <;> simp_all)
theorem ps_16 {p : LPart} {ks : List Int} {a1 : AV} (S : PSub D p ks a1) (n1 : ¬ (200 : Int) < ks.length) (n2 : ¬ (200 : Int) < p.names.length) (hk : p.kind = 16) (σ : Store) :
    sh_impl_partShape D (.agg (encPart p)) a1 σ = some (.bool (shapeEnd p false false false false ((decide ((ks.length : Int) = 1) && decide (kd ks 0 = 34))) 0 0), σ) := by
  have E1 : (p.kind = 1) = False := eq_false (by omega)
  have E2 : (p.kind = 2) = False := eq_false (by omega)
  have E3 : (p.kind = 3) = False := eq_false (by omega)
  have E4 : (p.kind = 4) = False := eq_false (by omega)
  have E5 : (p.kind = 5) = False := eq_false (by omega)
  have E6 : (p.kind = 6) = False := eq_false (by omega)
  have E7 : (p.kind = 7) = False := eq_false (by omega)
  have E8 : (p.kind = 8) = False := eq_false (by omega)
  have E9 : (p.kind = 9) = False := eq_false (by omega)
  have E10 : (p.kind = 10) = False := eq_false (by omega)
  have E11 : (p.kind = 11) = False := eq_false (by omega)
  have E12 : (p.kind = 12) = False := eq_false (by omega)
  have E13 : (p.kind = 13) = False := eq_false (by omega)
  have E14 : (p.kind = 14) = False := eq_false (by omega)
  have E15 : (p.kind = 15) = False := eq_false (by omega)
  have E16 : (p.kind = 16) = True := eq_true (by omega)
  have E20 : (p.kind = 20) = False := eq_false (by omega)
  have E21 : (p.kind = 21) = False := eq_false (by omega)
  have E22 : (p.kind = 22) = False := eq_false (by omega)
  have E23 : (p.kind = 23) = False := eq_false (by omega)
  have E24 : (p.kind = 24) = False := eq_false (by omega)
  have E25 : (p.kind = 25) = False := eq_false (by omega)
  have E26 : (p.kind = 26) = False := eq_false (by omega)
  have E27 : (p.kind = 27) = False := eq_false (by omega)
  have E28 : (p.kind = 28) = False := eq_false (by omega)
  have E29 : (p.kind = 29) = False := eq_false (by omega)
  have E30 : (p.kind = 30) = False := eq_false (by omega)
  have E31 : (p.kind = 31) = False := eq_false (by omega)
  have E32 : (p.kind = 32) = False := eq_false (by omega)
  have E33 : (p.kind = 33) = False := eq_false (by omega)
  have E34 : (p.kind = 34) = False := eq_false (by omega)
  have E35 : (p.kind = 35) = False := eq_false (by omega)
  have E36 : (p.kind = 36) = False := eq_false (by omega)
  have E37 : (p.kind = 37) = False := eq_false (by omega)
  have E40 : (p.kind = 40) = False := eq_false (by omega)
  have E41 : (p.kind = 41) = False := eq_false (by omega)
  have E42 : (p.kind = 42) = False := eq_false (by omega)
  unfold sh_impl_partShape jn
  simp only [jn, cells_agg, S.cells, rd1_p, List.getElem?_cons_zero, part_rd0, part_at0, S.lenV, len_encS, part_rd8, part_at8, Option.bind_some, bin_gtr, bin_eql, aCase_bool, n1, n2, E1, E2, E3, E4, E5, E6, E7, E8, E9, E10, E11, E12, E13, E14, E15, E16, E20, E21, E22, E23, E24, E25, E26, E27, E28, E29, E30, E31, E32, E33, E34, E35, E36, E37, E40, E41, E42, decide_false, decide_true, Bool.false_eq_true, if_false, if_true]
  unfold jb_impl_partShape_6 jn
  simp only [jn, cells_agg, S.cells, rd1_p, List.getElem?_cons_zero, part_rd0, part_at0, S.lenV, len_encS, part_rd8, part_at8, Option.bind_some, bin_gtr, bin_eql, aCase_bool, n1, n2, E1, E2, E3, E4, E5, E6, E7, E8, E9, E10, E11, E12, E13, E14, E15, E16, E20, E21, E22, E23, E24, E25, E26, E27, E28, E29, E30, E31, E32, E33, E34, E35, E36, E37, E40, E41, E42, decide_false, decide_true, Bool.false_eq_true, if_false, if_true]
  unfold jb_impl_partShape_5 jn
  simp only [jn, cells_agg, S.cells, rd1_p, List.getElem?_cons_zero, part_rd0, part_at0, S.lenV, len_encS, part_rd8, part_at8, Option.bind_some, bin_gtr, bin_eql, aCase_bool, n1, n2, E1, E2, E3, E4, E5, E6, E7, E8, E9, E10, E11, E12, E13, E14, E15, E16, E20, E21, E22, E23, E24, E25, E26, E27, E28, E29, E30, E31, E32, E33, E34, E35, E36, E37, E40, E41, E42, decide_false, decide_true, Bool.false_eq_true, if_false, if_true]
  by_cases c1 : (ks.length : Int) = 1
  · skip
    simp [jb_impl_partShape_4, jk_impl_partShape_1, jk_impl_partShape_2, jk_impl_partShape_3, jk_impl_partShape_4, jk_impl_partShape_5, jk_impl_partShape_6, jk_impl_partShape_7, jk_impl_partShape_8, jk_impl_partShape_9, jk_impl_partShape_10, jk_impl_partShape_11, jk_impl_partShape_12, jk_impl_partShape_13, jk_impl_partShape_14, jk_impl_partShape_15, jk_impl_partShape_16, jk_impl_partShape_17, jk_impl_partShape_18, jk_impl_partShape_19, jk_impl_partShape_20, jk_impl_partShape_21, jk_impl_partShape_22, jk_impl_partShape_23, jk_impl_partShape_24, jk_impl_partShape_25, jk_impl_partShape_26, S.all24, S.all25, S.all26, S.all28, S.is1, S.is2, S.base, S.v24, S.v27, S.at_, S.fin, bin_geq, bin_leq, bin_lss, bin_eql, lenV_str, part_rd4, part_rd5, part_rd6, part_rd7, bin_feq, bin_sub31, bin_sub41, fltSame, c1]
    try all_goals ((repeat' split) <;> simp_all)
  · skip
    simp [jb_impl_partShape_4, jk_impl_partShape_1, jk_impl_partShape_2, jk_impl_partShape_3, jk_impl_partShape_4, jk_impl_partShape_5, jk_impl_partShape_6, jk_impl_partShape_7, jk_impl_partShape_8, jk_impl_partShape_9, jk_impl_partShape_10, jk_impl_partShape_11, jk_impl_partShape_12, jk_impl_partShape_13, jk_impl_partShape_14, jk_impl_partShape_15, jk_impl_partShape_16, jk_impl_partShape_17, jk_impl_partShape_18, jk_impl_partShape_19, jk_impl_partShape_20, jk_impl_partShape_21, jk_impl_partShape_22, jk_impl_partShape_23, jk_impl_partShape_24, jk_impl_partShape_25, jk_impl_partShape_26, S.all24, S.all25, S.all26, S.all28, S.is1, S.is2, S.base, S.v24, S.v27, S.at_, S.fin, bin_geq, bin_leq, bin_lss, bin_eql, lenV_str, part_rd4, part_rd5, part_rd6, part_rd7, bin_feq, bin_sub31, bin_sub41, fltSame, c1]
    try all_goals ((repeat' split) <;> simp_all)
theorem ps_20 {p : LPart} {ks : List Int} {a1 : AV} (S : PSub D p ks a1) (n1 : ¬ (200 : Int) < ks.length) (n2 : ¬ (200 : Int) < p.names.length) (hk : p.kind = 20) (σ : Store) :
    sh_impl_partShape D (.agg (encPart p)) a1 σ = some (.bool (shapeEnd p false false false false (decide ((ks.length : Int) = 0)) 0 0), σ) := by
  have E1 : (p.kind = 1) = False := eq_false (by omega)
  have E2 : (p.kind = 2) = False := eq_false (by omega)
  have E3 : (p.kind = 3) = False := eq_false (by omega)
  have E4 : (p.kind = 4) = False := eq_false (by omega)
  have E5 : (p.kind = 5) = False := eq_false (by omega)
  have E6 : (p.kind = 6) = False := eq_false (by omega)
  have E7 : (p.kind = 7) = False := eq_false (by omega)
  have E8 : (p.kind = 8) = False := eq_false (by omega)
  have E9 : (p.kind = 9) = False := eq_false (by omega)
  have E10 : (p.kind = 10) = False := eq_false (by omega)
  have E11 : (p.kind = 11) = False := eq_false (by omega)
  have E12 : (p.kind = 12) = False := eq_false (by omega)
  have E13 : (p.kind = 13) = False := eq_false (by omega)
  have E14 : (p.kind = 14) = False := eq_false (by omega)
  have E15 : (p.kind = 15) = False := eq_false (by omega)
  have E16 : (p.kind = 16) = False := eq_false (by omega)
  have E20 : (p.kind = 20) = True := eq_true (by omega)
  have E21 : (p.kind = 21) = False := eq_false (by omega)
  have E22 : (p.kind = 22) = False := eq_false (by omega)
  have E23 : (p.kind = 23) = False := eq_false (by omega)
  have E24 : (p.kind = 24) = False := eq_false (by omega)
  have E25 : (p.kind = 25) = False := eq_false (by omega)
  have E26 : (p.kind = 26) = False := eq_false (by omega)
  have E27 : (p.kind = 27) = False := eq_false (by omega)
  have E28 : (p.kind = 28) = False := eq_false (by omega)
  have E29 : (p.kind = 29) = False := eq_false (by omega)
  have E30 : (p.kind = 30) = False := eq_false (by omega)
  have E31 : (p.kind = 31) = False := eq_false (by omega)
  have E32 : (p.kind = 32) = False := eq_false (by omega)
  have E33 : (p.kind = 33) = False := eq_false (by omega)
  have E34 : (p.kind = 34) = False := eq_false (by omega)
  have E35 : (p.kind = 35) = False := eq_false (by omega)
  have E36 : (p.kind = 36) = False := eq_false (by omega)
  have E37 : (p.kind = 37) = False := eq_false (by omega)
  have E40 : (p.kind = 40) = False := eq_false (by omega)
  have E41 : (p.kind = 41) = False := eq_false (by omega)
  have E42 : (p.kind = 42) = False := eq_false (by omega)
  unfold sh_impl_partShape jn
  simp only [jn, cells_agg, S.cells, rd1_p, List.getElem?_cons_zero, part_rd0, part_at0, S.lenV, len_encS, part_rd8, part_at8, Option.bind_some, bin_gtr, bin_eql, aCase_bool, n1, n2, E1, E2, E3, E4, E5, E6, E7, E8, E9, E10, E11, E12, E13, E14, E15, E16, E20, E21, E22, E23, E24, E25, E26, E27, E28, E29, E30, E31, E32, E33, E34, E35, E36, E37, E40, E41, E42, decide_false, decide_true, Bool.false_eq_true, if_false, if_true]
  unfold jb_impl_partShape_6 jn
  simp only [jn, cells_agg, S.cells, rd1_p, List.getElem?_cons_zero, part_rd0, part_at0, S.lenV, len_encS, part_rd8, part_at8, Option.bind_some, bin_gtr, bin_eql, aCase_bool, n1, n2, E1, E2, E3, E4, E5, E6, E7, E8, E9, E10, E11, E12, E13, E14, E15, E16, E20, E21, E22, E23, E24, E25, E26, E27, E28, E29, E30, E31, E32, E33, E34, E35, E36, E37, E40, E41, E42, decide_false, decide_true, Bool.false_eq_true, if_false, if_true]
  unfold jb_impl_partShape_5 jn
  simp only [jn, cells_agg, S.cells, rd1_p, List.getElem?_cons_zero, part_rd0, part_at0, S.lenV, len_encS, part_rd8, part_at8, Option.bind_some, bin_gtr, bin_eql, aCase_bool, n1, n2, E1, E2, E3, E4, E5, E6, E7, E8, E9, E10, E11, E12, E13, E14, E15, E16, E20, E21, E22, E23, E24, E25, E26, E27, E28, E29, E30, E31, E32, E33, E34, E35, E36, E37, E40, E41, E42, decide_false, decide_true, Bool.false_eq_true, if_false, if_true]
  unfold jb_impl_partShape_3 jn
  simp only [jn, cells_agg, S.cells, rd1_p, List.getElem?_cons_zero, part_rd0, part_at0, S.lenV, len_encS, part_rd8, part_at8, Option.bind_some, bin_gtr, bin_eql, aCase_bool, n1, n2, E1, E2, E3, E4, E5, E6, E7, E8, E9, E10, E11, E12, E13, E14, E15, E16, E20, E21, E22, E23, E24, E25, E26, E27, E28, E29, E30, E31, E32, E33, E34, E35, E36, E37, E40, E41, E42, decide_false, decide_true, Bool.false_eq_true, if_false, if_true]
  unfold jb_impl_partShape_2 jn
  simp only [jn, cells_agg, S.cells, rd1_p, List.getElem?_cons_zero, part_rd0, part_at0, S.lenV, len_encS, part_rd8, part_at8, Option.bind_some, bin_gtr, bin_eql, aCase_bool, n1, n2, E1, E2, E3, E4, E5, E6, E7, E8, E9, E10, E11, E12, E13, E14, E15, E16, E20, E21, E22, E23, E24, E25, E26, E27, E28, E29, E30, E31, E32, E33, E34, E35, E36, E37, E40, E41, E42, decide_false, decide_true, Bool.false_eq_true, if_false, if_true]
  simp [jb_impl_partShape_4, jk_impl_partShape_1, jk_impl_partShape_2, jk_impl_partShape_3, jk_impl_partShape_4, jk_impl_partShape_5, jk_impl_partShape_6, jk_impl_partShape_7, jk_impl_partShape_8, jk_impl_partShape_9, jk_impl_partShape_10, jk_impl_partShape_11, jk_impl_partShape_12, jk_impl_partShape_13, jk_impl_partShape_14, jk_impl_partShape_15, jk_impl_partShape_16, jk_impl_partShape_17, jk_impl_partShape_18, jk_impl_partShape_19, jk_impl_partShape_20, jk_impl_partShape_21, jk_impl_partShape_22, jk_impl_partShape_23, jk_impl_partShape_24, jk_impl_partShape_25, jk_impl_partShape_26, S.all24, S.all25, S.all26, S.all28, S.is1, S.is2, S.base, S.v24, S.v27, S.at_, S.fin, bin_geq, bin_leq, bin_lss, bin_eql, lenV_str, part_rd4, part_rd5, part_rd6, part_rd7, bin_feq, bin_sub31, bin_sub41, fltSame]
  try all_goals ((repeat' split) <;> simp_all)
theorem ps_21 {p : LPart} {ks : List Int} {a1 : AV} (S : PSub D p ks a1) (n1 : ¬ (200 : Int) < ks.length) (n2 : ¬ (200 : Int) < p.names.length) (hk : p.kind = 21) (σ : Store) :
    sh_impl_partShape D (.agg (encPart p)) a1 σ = some (.bool (shapeEnd p false false false false (decide ((ks.length : Int) = 0)) 0 0), σ) := by
  have E1 : (p.kind = 1) = False := eq_false (by omega)
  have E2 : (p.kind = 2) = False := eq_false (by omega)
  have E3 : (p.kind = 3) = False := eq_false (by omega)
  have E4 : (p.kind = 4) = False := eq_false (by omega)
  have E5 : (p.kind = 5) = False := eq_false (by omega)
  have E6 : (p.kind = 6) = False := eq_false (by omega)
  have E7 : (p.kind = 7) = False := eq_false (by omega)
  have E8 : (p.kind = 8) = False := eq_false (by omega)
  have E9 : (p.kind = 9) = False := eq_false (by omega)
  have E10 : (p.kind = 10) = False := eq_false (by omega)
  have E11 : (p.kind = 11) = False := eq_false (by omega)
  have E12 : (p.kind = 12) = False := eq_false (by omega)
  have E13 : (p.kind = 13) = False := eq_false (by omega)
  have E14 : (p.kind = 14) = False := eq_false (by omega)
  have E15 : (p.kind = 15) = False := eq_false (by omega)
  have E16 : (p.kind = 16) = False := eq_false (by omega)
  have E20 : (p.kind = 20) = False := eq_false (by omega)
  have E21 : (p.kind = 21) = True := eq_true (by omega)
  have E22 : (p.kind = 22) = False := eq_false (by omega)
  have E23 : (p.kind = 23) = False := eq_false (by omega)
  have E24 : (p.kind = 24) = False := eq_false (by omega)
  have E25 : (p.kind = 25) = False := eq_false (by omega)
  have E26 : (p.kind = 26) = False := eq_false (by omega)
  have E27 : (p.kind = 27) = False := eq_false (by omega)
  have E28 : (p.kind = 28) = False := eq_false (by omega)
  have E29 : (p.kind = 29) = False := eq_false (by omega)
  have E30 : (p.kind = 30) = False := eq_false (by omega)
  have E31 : (p.kind = 31) = False := eq_false (by omega)
  have E32 : (p.kind = 32) = False := eq_false (by omega)
  have E33 : (p.kind = 33) = False := eq_false (by omega)
  have E34 : (p.kind = 34) = False := eq_false (by omega)
  have E35 : (p.kind = 35) = False := eq_false (by omega)
  have E36 : (p.kind = 36) = False := eq_false (by omega)
  have E37 : (p.kind = 37) = False := eq_false (by omega)
  have E40 : (p.kind = 40) = False := eq_false (by omega)
  have E41 : (p.kind = 41) = False := eq_false (by omega)
  have E42 : (p.kind = 42) = False := eq_false (by omega)
  unfold sh_impl_partShape jn
  simp only [jn, cells_agg, S.cells, rd1_p, List.getElem?_cons_zero, part_rd0, part_at0, S.lenV, len_encS, part_rd8, part_at8, Option.bind_some, bin_gtr, bin_eql, aCase_bool, n1, n2, E1, E2, E3, E4, E5, E6, E7, E8, E9, E10, E11, E12, E13, E14, E15, E16, E20, E21, E22, E23, E24, E25, E26, E27, E28, E29, E30, E31, E32, E33, E34, E35, E36, E37, E40, E41, E42, decide_false, decide_true, Bool.false_eq_true, if_false, if_true]
  unfold jb_impl_partShape_6 jn
  simp only [jn, cells_agg, S.cells, rd1_p, List.getElem?_cons_zero, part_rd0, part_at0, S.lenV, len_encS, part_rd8, part_at8, Option.bind_some, bin_gtr, bin_eql, aCase_bool, n1, n2, E1, E2, E3, E4, E5, E6, E7, E8, E9, E10, E11, E12, E13, E14, E15, E16, E20, E21, E22, E23, E24, E25, E26, E27, E28, E29, E30, E31, E32, E33, E34, E35, E36, E37, E40, E41, E42, decide_false, decide_true, Bool.false_eq_true, if_false, if_true]
  unfold jb_impl_partShape_5 jn
  simp only [jn, cells_agg, S.cells, rd1_p, List.getElem?_cons_zero, part_rd0, part_at0, S.lenV, len_encS, part_rd8, part_at8, Option.bind_some, bin_gtr, bin_eql, aCase_bool, n1, n2, E1, E2, E3, E4, E5, E6, E7, E8, E9, E10, E11, E12, E13, E14, E15, E16, E20, E21, E22, E23, E24, E25, E26, E27, E28, E29, E30, E31, E32, E33, E34, E35, E36, E37, E40, E41, E42, decide_false, decide_true, Bool.false_eq_true, if_false, if_true]
  unfold jb_impl_partShape_3 jn
  simp only [jn, cells_agg, S.cells, rd1_p, List.getElem?_cons_zero, part_rd0, part_at0, S.lenV, len_encS, part_rd8, part_at8, Option.bind_some, bin_gtr, bin_eql, aCase_bool, n1, n2, E1, E2, E3, E4, E5, E6, E7, E8, E9, E10, E11, E12, E13, E14, E15, E16, E20, E21, E22, E23, E24, E25, E26, E27, E28, E29, E30, E31, E32, E33, E34, E35, E36, E37, E40, E41, E42, decide_false, decide_true, Bool.false_eq_true, if_false, if_true]
  unfold jb_impl_partShape_2 jn
  simp only [jn, cells_agg, S.cells, rd1_p, List.getElem?_cons_zero, part_rd0, part_at0, S.lenV, len_encS, part_rd8, part_at8, Option.bind_some, bin_gtr, bin_eql, aCase_bool, n1, n2, E1, E2, E3, E4, E5, E6, E7, E8, E9, E10, E11, E12, E13, E14, E15, E16, E20, E21, E22, E23, E24, E25, E26, E27, E28, E29, E30, E31, E32, E33, E34, E35, E36, E37, E40, E41, E42, decide_false, decide_true, Bool.false_eq_true, if_false, if_true]
  simp [jb_impl_partShape_4, jk_impl_partShape_1, jk_impl_partShape_2, jk_impl_partShape_3, jk_impl_partShape_4, jk_impl_partShape_5, jk_impl_partShape_6, jk_impl_partShape_7, jk_impl_partShape_8, jk_impl_partShape_9, jk_impl_partShape_10, jk_impl_partShape_11, jk_impl_partShape_12, jk_impl_partShape_13, jk_impl_partShape_14, jk_impl_partShape_15, jk_impl_partShape_16, jk_impl_partShape_17, jk_impl_partShape_18, jk_impl_partShape_19, jk_impl_partShape_20, jk_impl_partShape_21, jk_impl_partShape_22, jk_impl_partShape_23, jk_impl_partShape_24, jk_impl_partShape_25, jk_impl_partShape_26, S.all24, S.all25, S.all26, S.all28, S.is1, S.is2, S.base, S.v24, S.v27, S.at_, S.fin, bin_geq, bin_leq, bin_lss, bin_eql, lenV_str, part_rd4, part_rd5, part_rd6, part_rd7, bin_feq, bin_sub31, bin_sub41, fltSame]
  try all_goals ((repeat' split) <;> simp_all)
theorem ps_22 {p : LPart} {ks : List Int} {a1 : AV} (S : PSub D p ks a1) (n1 : ¬ (200 : Int) < ks.length) (n2 : ¬ (200 : Int) < p.names.length) (hk : p.kind = 22) (σ : Store) :
    sh_impl_partShape D (.agg (encPart p)) a1 σ = some (.bool (shapeEnd p false false false false (decide ((ks.length : Int) = 0)) 0 0), σ) := by
  have E1 : (p.kind = 1) = False := eq_false (by omega)
  have E2 : (p.kind = 2) = False := eq_false (by omega)
  have E3 : (p.kind = 3) = False := eq_false (by omega)
  have E4 : (p.kind = 4) = False := eq_false (by omega)
  have E5 : (p.kind = 5) = False := eq_false (by omega)
  have E6 : (p.kind = 6) = False := eq_false (by omega)
  have E7 : (p.kind = 7) = False := eq_false (by omega)
  have E8 : (p.kind = 8) = False := eq_false (by omega)
  have E9 : (p.kind = 9) = False := eq_false (by omega)
  have E10 : (p.kind = 10) = False := eq_false (by omega)
  have E11 : (p.kind = 11) = False := eq_false (by omega)
  have E12 : (p.kind = 12) = False := eq_false (by omega)
  have E13 : (p.kind = 13) = False := eq_false (by omega)
  have E14 : (p.kind = 14) = False := eq_false (by omega)
  have E15 : (p.kind = 15) = False := eq_false (by omega)
  have E16 : (p.kind = 16) = False := eq_false (by omega)
  have E20 : (p.kind = 20) = False := eq_false (by omega)
  have E21 : (p.kind = 21) = False := eq_false (by omega)
  have E22 : (p.kind = 22) = True := eq_true (by omega)
  have E23 : (p.kind = 23) = False := eq_false (by omega)
  have E24 : (p.kind = 24) = False := eq_false (by omega)
  have E25 : (p.kind = 25) = False := eq_false (by omega)
  have E26 : (p.kind = 26) = False := eq_false (by omega)
  have E27 : (p.kind = 27) = False := eq_false (by omega)
  have E28 : (p.kind = 28) = False := eq_false (by omega)
  have E29 : (p.kind = 29) = False := eq_false (by omega)
  have E30 : (p.kind = 30) = False := eq_false (by omega)
  have E31 : (p.kind = 31) = False := eq_false (by omega)
  have E32 : (p.kind = 32) = False := eq_false (by omega)
  have E33 : (p.kind = 33) = False := eq_false (by omega)
  have E34 : (p.kind = 34) = False := eq_false (by omega)
  have E35 : (p.kind = 35) = False := eq_false (by omega)
  have E36 : (p.kind = 36) = False := eq_false (by omega)
  have E37 : (p.kind = 37) = False := eq_false (by omega)
  have E40 : (p.kind = 40) = False := eq_false (by omega)
  have E41 : (p.kind = 41) = False := eq_false (by omega)
  have E42 : (p.kind = 42) = False := eq_false (by omega)
  unfold sh_impl_partShape jn
  simp only [jn, cells_agg, S.cells, rd1_p, List.getElem?_cons_zero, part_rd0, part_at0, S.lenV, len_encS, part_rd8, part_at8, Option.bind_some, bin_gtr, bin_eql, aCase_bool, n1, n2, E1, E2, E3, E4, E5, E6, E7, E8, E9, E10, E11, E12, E13, E14, E15, E16, E20, E21, E22, E23, E24, E25, E26, E27, E28, E29, E30, E31, E32, E33, E34, E35, E36, E37, E40, E41, E42, decide_false, decide_true, Bool.false_eq_true, if_false, if_true]
  unfold jb_impl_partShape_6 jn
  simp only [jn, cells_agg, S.cells, rd1_p, List.getElem?_cons_zero, part_rd0, part_at0, S.lenV, len_encS, part_rd8, part_at8, Option.bind_some, bin_gtr, bin_eql, aCase_bool, n1, n2, E1, E2, E3, E4, E5, E6, E7, E8, E9, E10, E11, E12, E13, E14, E15, E16, E20, E21, E22, E23, E24, E25, E26, E27, E28, E29, E30, E31, E32, E33, E34, E35, E36, E37, E40, E41, E42, decide_false, decide_true, Bool.false_eq_true, if_false, if_true]
  unfold jb_impl_partShape_5 jn
  simp only [jn, cells_agg, S.cells, rd1_p, List.getElem?_cons_zero, part_rd0, part_at0, S.lenV, len_encS, part_rd8, part_at8, Option.bind_some, bin_gtr, bin_eql, aCase_bool, n1, n2, E1, E2, E3, E4, E5, E6, E7, E8, E9, E10, E11, E12, E13, E14, E15, E16, E20, E21, E22, E23, E24, E25, E26, E27, E28, E29, E30, E31, E32, E33, E34, E35, E36, E37, E40, E41, E42, decide_false, decide_true, Bool.false_eq_true, if_false, if_true]
  unfold jb_impl_partShape_3 jn
  simp only [jn, cells_agg, S.cells, rd1_p, List.getElem?_cons_zero, part_rd0, part_at0, S.lenV, len_encS, part_rd8, part_at8, Option.bind_some, bin_gtr, bin_eql, aCase_bool, n1, n2, E1, E2, E3, E4, E5, E6, E7, E8, E9, E10, E11, E12, E13, E14, E15, E16, E20, E21, E22, E23, E24, E25, E26, E27, E28, E29, E30, E31, E32, E33, E34, E35, E36, E37, E40, E41, E42, decide_false, decide_true, Bool.false_eq_true, if_false, if_true]
  unfold jb_impl_partShape_2 jn
  simp only [jn, cells_agg, S.cells, rd1_p, List.getElem?_cons_zero, part_rd0, part_at0, S.lenV, len_encS, part_rd8, part_at8, Option.bind_some, bin_gtr, bin_eql, aCase_bool, n1, n2, E1, E2, E3, E4, E5, E6, E7, E8, E9, E10, E11, E12, E13, E14, E15, E16, E20, E21, E22, E23, E24, E25, E26, E27, E28, E29, E30, E31, E32, E33, E34, E35, E36, E37, E40, E41, E42, decide_false, decide_true, Bool.false_eq_true, if_false, if_true]
  simp [jb_impl_partShape_4, jk_impl_partShape_1, jk_impl_partShape_2, jk_impl_partShape_3, jk_impl_partShape_4, jk_impl_partShape_5, jk_impl_partShape_6, jk_impl_partShape_7, jk_impl_partShape_8, jk_impl_partShape_9, jk_impl_partShape_10, jk_impl_partShape_11, jk_impl_partShape_12, jk_impl_partShape_13, jk_impl_partShape_14, jk_impl_partShape_15, jk_impl_partShape_16, jk_impl_partShape_17, jk_impl_partShape_18, jk_impl_partShape_19, jk_impl_partShape_20, jk_impl_partShape_21, jk_impl_partShape_22, jk_impl_partShape_23, jk_impl_partShape_24, jk_impl_partShape_25, jk_impl_partShape_26, S.all24, S.all25, S.all26, S.all28, S.is1, S.is2, S.base, S.v24, S.v27, S.at_, S.fin, bin_geq, bin_leq, bin_lss, bin_eql, lenV_str, part_rd4, part_rd5, part_rd6, part_rd7, bin_feq, bin_sub31, bin_sub41, fltSame]
  try all_goals ((repeat' split) <;> simp_all)
theorem ps_23 {p : LPart} {ks : List Int} {a1 : AV} (S : PSub D p ks a1) (n1 : ¬ (200 : Int) < ks.length) (n2 : ¬ (200 : Int) < p.names.length) (hk : p.kind = 23) (σ : Store) :
    sh_impl_partShape D (.agg (encPart p)) a1 σ = some (.bool (shapeEnd p true false false false (decide ((ks.length : Int) = 0)) 0 0), σ) := by
  have E1 : (p.kind = 1) = False := eq_false (by omega)
  have E2 : (p.kind = 2) = False := eq_false (by omega)
  have E3 : (p.kind = 3) = False := eq_false (by omega)
  have E4 : (p.kind = 4) = False := eq_false (by omega)
  have E5 : (p.kind = 5) = False := eq_false (by omega)
  have E6 : (p.kind = 6) = False := eq_false (by omega)
  have E7 : (p.kind = 7) = False := eq_false (by omega)
  have E8 : (p.kind = 8) = False := eq_false (by omega)
  have E9 : (p.kind = 9) = False := eq_false (by omega)
  have E10 : (p.kind = 10) = False := eq_false (by omega)
  have E11 : (p.kind = 11) = False := eq_false (by omega)
  have E12 : (p.kind = 12) = False := eq_false (by omega)
  have E13 : (p.kind = 13) = False := eq_false (by omega)
  have E14 : (p.kind = 14) = False := eq_false (by omega)
  have E15 : (p.kind = 15) = False := eq_false (by omega)
  have E16 : (p.kind = 16) = False := eq_false (by omega)
  have E20 : (p.kind = 20) = False := eq_false (by omega)
  have E21 : (p.kind = 21) = False := eq_false (by omega)
  have E22 : (p.kind = 22) = False := eq_false (by omega)
  have E23 : (p.kind = 23) = True := eq_true (by omega)
  have E24 : (p.kind = 24) = False := eq_false (by omega)
  have E25 : (p.kind = 25) = False := eq_false (by omega)
  have E26 : (p.kind = 26) = False := eq_false (by omega)
  have E27 : (p.kind = 27) = False := eq_false (by omega)
  have E28 : (p.kind = 28) = False := eq_false (by omega)
  have E29 : (p.kind = 29) = False := eq_false (by omega)
  have E30 : (p.kind = 30) = False := eq_false (by omega)
  have E31 : (p.kind = 31) = False := eq_false (by omega)
  have E32 : (p.kind = 32) = False := eq_false (by omega)
  have E33 : (p.kind = 33) = False := eq_false (by omega)
  have E34 : (p.kind = 34) = False := eq_false (by omega)
  have E35 : (p.kind = 35) = False := eq_false (by omega)
  have E36 : (p.kind = 36) = False := eq_false (by omega)
  have E37 : (p.kind = 37) = False := eq_false (by omega)
  have E40 : (p.kind = 40) = False := eq_false (by omega)
  have E41 : (p.kind = 41) = False := eq_false (by omega)
  have E42 : (p.kind = 42) = False := eq_false (by omega)
  unfold sh_impl_partShape jn
  simp only [jn, cells_agg, S.cells, rd1_p, List.getElem?_cons_zero, part_rd0, part_at0, S.lenV, len_encS, part_rd8, part_at8, Option.bind_some, bin_gtr, bin_eql, aCase_bool, n1, n2, E1, E2, E3, E4, E5, E6, E7, E8, E9, E10, E11, E12, E13, E14, E15, E16, E20, E21, E22, E23, E24, E25, E26, E27, E28, E29, E30, E31, E32, E33, E34, E35, E36, E37, E40, E41, E42, decide_false, decide_true, Bool.false_eq_true, if_false, if_true]
  unfold jb_impl_partShape_6 jn
  simp only [jn, cells_agg, S.cells, rd1_p, List.getElem?_cons_zero, part_rd0, part_at0, S.lenV, len_encS, part_rd8, part_at8, Option.bind_some, bin_gtr, bin_eql, aCase_bool, n1, n2, E1, E2, E3, E4, E5, E6, E7, E8, E9, E10, E11, E12, E13, E14, E15, E16, E20, E21, E22, E23, E24, E25, E26, E27, E28, E29, E30, E31, E32, E33, E34, E35, E36, E37, E40, E41, E42, decide_false, decide_true, Bool.false_eq_true, if_false, if_true]
  unfold jb_impl_partShape_5 jn
  simp only [jn, cells_agg, S.cells, rd1_p, List.getElem?_cons_zero, part_rd0, part_at0, S.lenV, len_encS, part_rd8, part_at8, Option.bind_some, bin_gtr, bin_eql, aCase_bool, n1, n2, E1, E2, E3, E4, E5, E6, E7, E8, E9, E10, E11, E12, E13, E14, E15, E16, E20, E21, E22, E23, E24, E25, E26, E27, E28, E29, E30, E31, E32, E33, E34, E35, E36, E37, E40, E41, E42, decide_false, decide_true, Bool.false_eq_true, if_false, if_true]
  unfold jb_impl_partShape_3 jn
  simp only [jn, cells_agg, S.cells, rd1_p, List.getElem?_cons_zero, part_rd0, part_at0, S.lenV, len_encS, part_rd8, part_at8, Option.bind_some, bin_gtr, bin_eql, aCase_bool, n1, n2, E1, E2, E3, E4, E5, E6, E7, E8, E9, E10, E11, E12, E13, E14, E15, E16, E20, E21, E22, E23, E24, E25, E26, E27, E28, E29, E30, E31, E32, E33, E34, E35, E36, E37, E40, E41, E42, decide_false, decide_true, Bool.false_eq_true, if_false, if_true]
  unfold jb_impl_partShape_2 jn
  simp only [jn, cells_agg, S.cells, rd1_p, List.getElem?_cons_zero, part_rd0, part_at0, S.lenV, len_encS, part_rd8, part_at8, Option.bind_some, bin_gtr, bin_eql, aCase_bool, n1, n2, E1, E2, E3, E4, E5, E6, E7, E8, E9, E10, E11, E12, E13, E14, E15, E16, E20, E21, E22, E23, E24, E25, E26, E27, E28, E29, E30, E31, E32, E33, E34, E35, E36, E37, E40, E41, E42, decide_false, decide_true, Bool.false_eq_true, if_false, if_true]
  simp [jb_impl_partShape_4, jk_impl_partShape_1, jk_impl_partShape_2, jk_impl_partShape_3, jk_impl_partShape_4, jk_impl_partShape_5, jk_impl_partShape_6, jk_impl_partShape_7, jk_impl_partShape_8, jk_impl_partShape_9, jk_impl_partShape_10, jk_impl_partShape_11, jk_impl_partShape_12, jk_impl_partShape_13, jk_impl_partShape_14, jk_impl_partShape_15, jk_impl_partShape_16, jk_impl_partShape_17, jk_impl_partShape_18, jk_impl_partShape_19, jk_impl_partShape_20, jk_impl_partShape_21, jk_impl_partShape_22, jk_impl_partShape_23, jk_impl_partShape_24, jk_impl_partShape_25, jk_impl_partShape_26, S.all24, S.all25, S.all26, S.all28, S.is1, S.is2, S.base, S.v24, S.v27, S.at_, S.fin, bin_geq, bin_leq, bin_lss, bin_eql, lenV_str, part_rd4, part_rd5, part_rd6, part_rd7, bin_feq, bin_sub31, bin_sub41, fltSame]
  try all_goals ((repeat' split) <;> simp_all)
theorem ps_24 {p : LPart} {ks : List Int} {a1 : AV} (S : PSub D p ks a1) (n1 : ¬ (200 : Int) < ks.length) (n2 : ¬ (200 : Int) < p.names.length) (hk : p.kind = 24) (σ : Store) :
    sh_impl_partShape D (.agg (encPart p)) a1 σ = some (.bool (shapeEnd p false true false false ((decide ((ks.length : Int) = 0) && fltSame p.flt)) 0 0), σ) := by
  have E1 : (p.kind = 1) = False := eq_false (by omega)
  have E2 : (p.kind = 2) = False := eq_false (by omega)
  have E3 : (p.kind = 3) = False := eq_false (by omega)
  have E4 : (p.kind = 4) = False := eq_false (by omega)
  have E5 : (p.kind = 5) = False := eq_false (by omega)
  have E6 : (p.kind = 6) = False := eq_false (by omega)
  have E7 : (p.kind = 7) = False := eq_false (by omega)
  have E8 : (p.kind = 8) = False := eq_false (by omega)
  have E9 : (p.kind = 9) = False := eq_false (by omega)
  have E10 : (p.kind = 10) = False := eq_false (by omega)
  have E11 : (p.kind = 11) = False := eq_false (by omega)
  have E12 : (p.kind = 12) = False := eq_false (by omega)
  have E13 : (p.kind = 13) = False := eq_false (by omega)
  have E14 : (p.kind = 14) = False := eq_false (by omega)
  have E15 : (p.kind = 15) = False := eq_false (by omega)
  have E16 : (p.kind = 16) = False := eq_false (by omega)
  have E20 : (p.kind = 20) = False := eq_false (by omega)
  have E21 : (p.kind = 21) = False := eq_false (by omega)
  have E22 : (p.kind = 22) = False := eq_false (by omega)
  have E23 : (p.kind = 23) = False := eq_false (by omega)
  have E24 : (p.kind = 24) = True := eq_true (by omega)
  have E25 : (p.kind = 25) = False := eq_false (by omega)
  have E26 : (p.kind = 26) = False := eq_false (by omega)
  have E27 : (p.kind = 27) = False := eq_false (by omega)
  have E28 : (p.kind = 28) = False := eq_false (by omega)
  have E29 : (p.kind = 29) = False := eq_false (by omega)
  have E30 : (p.kind = 30) = False := eq_false (by omega)
  have E31 : (p.kind = 31) = False := eq_false (by omega)
  have E32 : (p.kind = 32) = False := eq_false (by omega)
  have E33 : (p.kind = 33) = False := eq_false (by omega)
  have E34 : (p.kind = 34) = False := eq_false (by omega)
  have E35 : (p.kind = 35) = False := eq_false (by omega)
  have E36 : (p.kind = 36) = False := eq_false (by omega)
  have E37 : (p.kind = 37) = False := eq_false (by omega)
  have E40 : (p.kind = 40) = False := eq_false (by omega)
  have E41 : (p.kind = 41) = False := eq_false (by omega)
  have E42 : (p.kind = 42) = False := eq_false (by omega)
  unfold sh_impl_partShape jn
  simp only [jn, cells_agg, S.cells, rd1_p, List.getElem?_cons_zero, part_rd0, part_at0, S.lenV, len_encS, part_rd8, part_at8, Option.bind_some, bin_gtr, bin_eql, aCase_bool, n1, n2, E1, E2, E3, E4, E5, E6, E7, E8, E9, E10, E11, E12, E13, E14, E15, E16, E20, E21, E22, E23, E24, E25, E26, E27, E28, E29, E30, E31, E32, E33, E34, E35, E36, E37, E40, E41, E42, decide_false, decide_true, Bool.false_eq_true, if_false, if_true]
  unfold jb_impl_partShape_6 jn
  simp only [jn, cells_agg, S.cells, rd1_p, List.getElem?_cons_zero, part_rd0, part_at0, S.lenV, len_encS, part_rd8, part_at8, Option.bind_some, bin_gtr, bin_eql, aCase_bool, n1, n2, E1, E2, E3, E4, E5, E6, E7, E8, E9, E10, E11, E12, E13, E14, E15, E16, E20, E21, E22, E23, E24, E25, E26, E27, E28, E29, E30, E31, E32, E33, E34, E35, E36, E37, E40, E41, E42, decide_false, decide_true, Bool.false_eq_true, if_false, if_true]
  unfold jb_impl_partShape_5 jn
  simp only [jn, cells_agg, S.cells, rd1_p, List.getElem?_cons_zero, part_rd0, part_at0, S.lenV, len_encS, part_rd8, part_at8, Option.bind_some, bin_gtr, bin_eql, aCase_bool, n1, n2, E1, E2, E3, E4, E5, E6, E7, E8, E9, E10, E11, E12, E13, E14, E15, E16, E20, E21, E22, E23, E24, E25, E26, E27, E28, E29, E30, E31, E32, E33, E34, E35, E36, E37, E40, E41, E42, decide_false, decide_true, Bool.false_eq_true, if_false, if_true]
  unfold jb_impl_partShape_3 jn
  simp only [jn, cells_agg, S.cells, rd1_p, List.getElem?_cons_zero, part_rd0, part_at0, S.lenV, len_encS, part_rd8, part_at8, Option.bind_some, bin_gtr, bin_eql, aCase_bool, n1, n2, E1, E2, E3, E4, E5, E6, E7, E8, E9, E10, E11, E12, E13, E14, E15, E16, E20, E21, E22, E23, E24, E25, E26, E27, E28, E29, E30, E31, E32, E33, E34, E35, E36, E37, E40, E41, E42, decide_false, decide_true, Bool.false_eq_true, if_false, if_true]
  unfold jb_impl_partShape_2 jn
  simp only [jn, cells_agg, S.cells, rd1_p, List.getElem?_cons_zero, part_rd0, part_at0, S.lenV, len_encS, part_rd8, part_at8, Option.bind_some, bin_gtr, bin_eql, aCase_bool, n1, n2, E1, E2, E3, E4, E5, E6, E7, E8, E9, E10, E11, E12, E13, E14, E15, E16, E20, E21, E22, E23, E24, E25, E26, E27, E28, E29, E30, E31, E32, E33, E34, E35, E36, E37, E40, E41, E42, decide_false, decide_true, Bool.false_eq_true, if_false, if_true]
  by_cases c0 : (ks.length : Int) = 0
  · skip
    simp [jb_impl_partShape_4, jk_impl_partShape_1, jk_impl_partShape_2, jk_impl_partShape_3, jk_impl_partShape_4, jk_impl_partShape_5, jk_impl_partShape_6, jk_impl_partShape_7, jk_impl_partShape_8, jk_impl_partShape_9, jk_impl_partShape_10, jk_impl_partShape_11, jk_impl_partShape_12, jk_impl_partShape_13, jk_impl_partShape_14, jk_impl_partShape_15, jk_impl_partShape_16, jk_impl_partShape_17, jk_impl_partShape_18, jk_impl_partShape_19, jk_impl_partShape_20, jk_impl_partShape_21, jk_impl_partShape_22, jk_impl_partShape_23, jk_impl_partShape_24, jk_impl_partShape_25, jk_impl_partShape_26, S.all24, S.all25, S.all26, S.all28, S.is1, S.is2, S.base, S.v24, S.v27, S.at_, S.fin, bin_geq, bin_leq, bin_lss, bin_eql, lenV_str, part_rd4, part_rd5, part_rd6, part_rd7, bin_feq, bin_sub31, bin_sub41, fltSame, c0]
    try all_goals ((repeat' split) <;> simp_all)
  · skip
    simp [jb_impl_partShape_4, jk_impl_partShape_1, jk_impl_partShape_2, jk_impl_partShape_3, jk_impl_partShape_4, jk_impl_partShape_5, jk_impl_partShape_6, jk_impl_partShape_7, jk_impl_partShape_8, jk_impl_partShape_9, jk_impl_partShape_10, jk_impl_partShape_11, jk_impl_partShape_12, jk_impl_partShape_13, jk_impl_partShape_14, jk_impl_partShape_15, jk_impl_partShape_16, jk_impl_partShape_17, jk_impl_partShape_18, jk_impl_partShape_19, jk_impl_partShape_20, jk_impl_partShape_21, jk_impl_partShape_22, jk_impl_partShape_23, jk_impl_partShape_24, jk_impl_partShape_25, jk_impl_partShape_26, S.all24, S.all25, S.all26, S.all28, S.is1, S.is2, S.base, S.v24, S.v27, S.at_, S.fin, bin_geq, bin_leq, bin_lss, bin_eql, lenV_str, part_rd4, part_rd5, part_rd6, part_rd7, bin_feq, bin_sub31, bin_sub41, fltSame, c0]
    try all_goals ((repeat' split) <;> simp_all)
theorem ps_25 {p : LPart} {ks : List Int} {a1 : AV} (S : PSub D p ks a1) (n1 : ¬ (200 : Int) < ks.length) (n2 : ¬ (200 : Int) < p.names.length) (hk : p.kind = 25) (σ : Store) :
    sh_impl_partShape D (.agg (encPart p)) a1 σ = some (.bool (shapeEnd p false false true false ((decide ((ks.length : Int) = 0) && decide ((p.text.size : Int) ≤ 4000))) 0 0), σ) := by
  have E1 : (p.kind = 1) = False := eq_false (by omega)
  have E2 : (p.kind = 2) = False := eq_false (by omega)
  have E3 : (p.kind = 3) = False := eq_false (by omega)
  have E4 : (p.kind = 4) = False := eq_false (by omega)
  have E5 : (p.kind = 5) = False := eq_false (by omega)
  have E6 : (p.kind = 6) = False := eq_false (by omega)
  have E7 : (p.kind = 7) = False := eq_false (by omega)
  have E8 : (p.kind = 8) = False := eq_false (by omega)
  have E9 : (p.kind = 9) = False := eq_false (by omega)
  have E10 : (p.kind = 10) = False := eq_false (by omega)
  have E11 : (p.kind = 11) = False := eq_false (by omega)
  have E12 : (p.kind = 12) = False := eq_false (by omega)
  have E13 : (p.kind = 13) = False := eq_false (by omega)
  have E14 : (p.kind = 14) = False := eq_false (by omega)
  have E15 : (p.kind = 15) = False := eq_false (by omega)
  have E16 : (p.kind = 16) = False := eq_false (by omega)
  have E20 : (p.kind = 20) = False := eq_false (by omega)
  have E21 : (p.kind = 21) = False := eq_false (by omega)
  have E22 : (p.kind = 22) = False := eq_false (by omega)
  have E23 : (p.kind = 23) = False := eq_false (by omega)
  have E24 : (p.kind = 24) = False := eq_false (by omega)
  have E25 : (p.kind = 25) = True := eq_true (by omega)
  have E26 : (p.kind = 26) = False := eq_false (by omega)
  have E27 : (p.kind = 27) = False := eq_false (by omega)
  have E28 : (p.kind = 28) = False := eq_false (by omega)
  have E29 : (p.kind = 29) = False := eq_false (by omega)
  have E30 : (p.kind = 30) = False := eq_false (by omega)
  have E31 : (p.kind = 31) = False := eq_false (by omega)
  have E32 : (p.kind = 32) = False := eq_false (by omega)
  have E33 : (p.kind = 33) = False := eq_false (by omega)
  have E34 : (p.kind = 34) = False := eq_false (by omega)
  have E35 : (p.kind = 35) = False := eq_false (by omega)
  have E36 : (p.kind = 36) = False := eq_false (by omega)
  have E37 : (p.kind = 37) = False := eq_false (by omega)
  have E40 : (p.kind = 40) = False := eq_false (by omega)
  have E41 : (p.kind = 41) = False := eq_false (by omega)
  have E42 : (p.kind = 42) = False := eq_false (by omega)
  unfold sh_impl_partShape jn
  simp only [jn, cells_agg, S.cells, rd1_p, List.getElem?_cons_zero, part_rd0, part_at0, S.lenV, len_encS, part_rd8, part_at8, Option.bind_some, bin_gtr, bin_eql, aCase_bool, n1, n2, E1, E2, E3, E4, E5, E6, E7, E8, E9, E10, E11, E12, E13, E14, E15, E16, E20, E21, E22, E23, E24, E25, E26, E27, E28, E29, E30, E31, E32, E33, E34, E35, E36, E37, E40, E41, E42, decide_false, decide_true, Bool.false_eq_true, if_false, if_true]
  unfold jb_impl_partShape_6 jn
  simp only [jn, cells_agg, S.cells, rd1_p, List.getElem?_cons_zero, part_rd0, part_at0, S.lenV, len_encS, part_rd8, part_at8, Option.bind_some, bin_gtr, bin_eql, aCase_bool, n1, n2, E1, E2, E3, E4, E5, E6, E7, E8, E9, E10, E11, E12, E13, E14, E15, E16, E20, E21, E22, E23, E24, E25, E26, E27, E28, E29, E30, E31, E32, E33, E34, E35, E36, E37, E40, E41, E42, decide_false, decide_true, Bool.false_eq_true, if_false, if_true]
  unfold jb_impl_partShape_5 jn
  simp only [jn, cells_agg, S.cells, rd1_p, List.getElem?_cons_zero, part_rd0, part_at0, S.lenV, len_encS, part_rd8, part_at8, Option.bind_some, bin_gtr, bin_eql, aCase_bool, n1, n2, E1, E2, E3, E4, E5, E6, E7, E8, E9, E10, E11, E12, E13, E14, E15, E16, E20, E21, E22, E23, E24, E25, E26, E27, E28, E29, E30, E31, E32, E33, E34, E35, E36, E37, E40, E41, E42, decide_false, decide_true, Bool.false_eq_true, if_false, if_true]
  unfold jb_impl_partShape_3 jn
  simp only [jn, cells_agg, S.cells, rd1_p, List.getElem?_cons_zero, part_rd0, part_at0, S.lenV, len_encS, part_rd8, part_at8, Option.bind_some, bin_gtr, bin_eql, aCase_bool, n1, n2, E1, E2, E3, E4, E5, E6, E7, E8, E9, E10, E11, E12, E13, E14, E15, E16, E20, E21, E22, E23, E24, E25, E26, E27, E28, E29, E30, E31, E32, E33, E34, E35, E36, E37, E40, E41, E42, decide_false, decide_true, Bool.false_eq_true, if_false, if_true]
  unfold jb_impl_partShape_2 jn
  simp only [jn, cells_agg, S.cells, rd1_p, List.getElem?_cons_zero, part_rd0, part_at0, S.lenV, len_encS, part_rd8, part_at8, Option.bind_some, bin_gtr, bin_eql, aCase_bool, n1, n2, E1, E2, E3, E4, E5, E6, E7, E8, E9, E10, E11, E12, E13, E14, E15, E16, E20, E21, E22, E23, E24, E25, E26, E27, E28, E29, E30, E31, E32, E33, E34, E35, E36, E37, E40, E41, E42, decide_false, decide_true, Bool.false_eq_true, if_false, if_true]
  by_cases c0 : (ks.length : Int) = 0
  · skip
    simp [jb_impl_partShape_4, jk_impl_partShape_1, jk_impl_partShape_2, jk_impl_partShape_3, jk_impl_partShape_4, jk_impl_partShape_5, jk_impl_partShape_6, jk_impl_partShape_7, jk_impl_partShape_8, jk_impl_partShape_9, jk_impl_partShape_10, jk_impl_partShape_11, jk_impl_partShape_12, jk_impl_partShape_13, jk_impl_partShape_14, jk_impl_partShape_15, jk_impl_partShape_16, jk_impl_partShape_17, jk_impl_partShape_18, jk_impl_partShape_19, jk_impl_partShape_20, jk_impl_partShape_21, jk_impl_partShape_22, jk_impl_partShape_23, jk_impl_partShape_24, jk_impl_partShape_25, jk_impl_partShape_26, S.all24, S.all25, S.all26, S.all28, S.is1, S.is2, S.base, S.v24, S.v27, S.at_, S.fin, bin_geq, bin_leq, bin_lss, bin_eql, lenV_str, part_rd4, part_rd5, part_rd6, part_rd7, bin_feq, bin_sub31, bin_sub41, fltSame, c0]
    try all_goals ((repeat' split) <;> simp_all)
  · skip
    simp [jb_impl_partShape_4, jk_impl_partShape_1, jk_impl_partShape_2, jk_impl_partShape_3, jk_impl_partShape_4, jk_impl_partShape_5, jk_impl_partShape_6, jk_impl_partShape_7, jk_impl_partShape_8, jk_impl_partShape_9, jk_impl_partShape_10, jk_impl_partShape_11, jk_impl_partShape_12, jk_impl_partShape_13, jk_impl_partShape_14, jk_impl_partShape_15, jk_impl_partShape_16, jk_impl_partShape_17, jk_impl_partShape_18, jk_impl_partShape_19, jk_impl_partShape_20, jk_impl_partShape_21, jk_impl_partShape_22, jk_impl_partShape_23, jk_impl_partShape_24, jk_impl_partShape_25, jk_impl_partShape_26, S.all24, S.all25, S.all26, S.all28, S.is1, S.is2, S.base, S.v24, S.v27, S.at_, S.fin, bin_geq, bin_leq, bin_lss, bin_eql, lenV_str, part_rd4, part_rd5, part_rd6, part_rd7, bin_feq, bin_sub31, bin_sub41, fltSame, c0]
    try all_goals ((repeat' split) <;> simp_all)
theorem ps_26 {p : LPart} {ks : List Int} {a1 : AV} (S : PSub D p ks a1) (n1 : ¬ (200 : Int) < ks.length) (n2 : ¬ (200 : Int) < p.names.length) (hk : p.kind = 26) (σ : Store) :
    sh_impl_partShape D (.agg (encPart p)) a1 σ = some (.bool (shapeEnd p false false true false ((decide ((ks.length : Int) = 0) && nameOk p.text)) 0 0), σ) := by
  have E1 : (p.kind = 1) = False := eq_false (by omega)
  have E2 : (p.kind = 2) = False := eq_false (by omega)
  have E3 : (p.kind = 3) = False := eq_false (by omega)
  have E4 : (p.kind = 4) = False := eq_false (by omega)
  have E5 : (p.kind = 5) = False := eq_false (by omega)
  have E6 : (p.kind = 6) = False := eq_false (by omega)
  have E7 : (p.kind = 7) = False := eq_false (by omega)
  have E8 : (p.kind = 8) = False := eq_false (by omega)
  have E9 : (p.kind = 9) = False := eq_false (by omega)
  have E10 : (p.kind = 10) = False := eq_false (by omega)
  have E11 : (p.kind = 11) = False := eq_false (by omega)
  have E12 : (p.kind = 12) = False := eq_false (by omega)
  have E13 : (p.kind = 13) = False := eq_false (by omega)
  have E14 : (p.kind = 14) = False := eq_false (by omega)
  have E15 : (p.kind = 15) = False := eq_false (by omega)
  have E16 : (p.kind = 16) = False := eq_false (by omega)
  have E20 : (p.kind = 20) = False := eq_false (by omega)
  have E21 : (p.kind = 21) = False := eq_false (by omega)
  have E22 : (p.kind = 22) = False := eq_false (by omega)
  have E23 : (p.kind = 23) = False := eq_false (by omega)
  have E24 : (p.kind = 24) = False := eq_false (by omega)
  have E25 : (p.kind = 25) = False := eq_false (by omega)
  have E26 : (p.kind = 26) = True := eq_true (by omega)
  have E27 : (p.kind = 27) = False := eq_false (by omega)
  have E28 : (p.kind = 28) = False := eq_false (by omega)
  have E29 : (p.kind = 29) = False := eq_false (by omega)
  have E30 : (p.kind = 30) = False := eq_false (by omega)
  have E31 : (p.kind = 31) = False := eq_false (by omega)
  have E32 : (p.kind = 32) = False := eq_false (by omega)
  have E33 : (p.kind = 33) = False := eq_false (by omega)
  have E34 : (p.kind = 34) = False := eq_false (by omega)
  have E35 : (p.kind = 35) = False := eq_false (by omega)
  have E36 : (p.kind = 36) = False := eq_false (by omega)
  have E37 : (p.kind = 37) = False := eq_false (by omega)
  have E40 : (p.kind = 40) = False := eq_false (by omega)
  have E41 : (p.kind = 41) = False := eq_false (by omega)
  have E42 : (p.kind = 42) = False := eq_false (by omega)
  unfold sh_impl_partShape jn
  simp only [jn, cells_agg, S.cells, rd1_p, List.getElem?_cons_zero, part_rd0, part_at0, S.lenV, len_encS, part_rd8, part_at8, Option.bind_some, bin_gtr, bin_eql, aCase_bool, n1, n2, E1, E2, E3, E4, E5, E6, E7, E8, E9, E10, E11, E12, E13, E14, E15, E16, E20, E21, E22, E23, E24, E25, E26, E27, E28, E29, E30, E31, E32, E33, E34, E35, E36, E37, E40, E41, E42, decide_false, decide_true, Bool.false_eq_true, if_false, if_true]
  unfold jb_impl_partShape_6 jn
  simp only [jn, cells_agg, S.cells, rd1_p, List.getElem?_cons_zero, part_rd0, part_at0, S.lenV, len_encS, part_rd8, part_at8, Option.bind_some, bin_gtr, bin_eql, aCase_bool, n1, n2, E1, E2, E3, E4, E5, E6, E7, E8, E9, E10, E11, E12, E13, E14, E15, E16, E20, E21, E22, E23, E24, E25, E26, E27, E28, E29, E30, E31, E32, E33, E34, E35, E36, E37, E40, E41, E42, decide_false, decide_true, Bool.false_eq_true, if_false, if_true]
  unfold jb_impl_partShape_5 jn
  simp only [jn, cells_agg, S.cells, rd1_p, List.getElem?_cons_zero, part_rd0, part_at0, S.lenV, len_encS, part_rd8, part_at8, Option.bind_some, bin_gtr, bin_eql, aCase_bool, n1, n2, E1, E2, E3, E4, E5, E6, E7, E8, E9, E10, E11, E12, E13, E14, E15, E16, E20, E21, E22, E23, E24, E25, E26, E27, E28, E29, E30, E31, E32, E33, E34, E35, E36, E37, E40, E41, E42, decide_false, decide_true, Bool.false_eq_true, if_false, if_true]
  unfold jb_impl_partShape_3 jn
  simp only [jn, cells_agg, S.cells, rd1_p, List.getElem?_cons_zero, part_rd0, part_at0, S.lenV, len_encS, part_rd8, part_at8, Option.bind_some, bin_gtr, bin_eql, aCase_bool, n1, n2, E1, E2, E3, E4, E5, E6, E7, E8, E9, E10, E11, E12, E13, E14, E15, E16, E20, E21, E22, E23, E24, E25, E26, E27, E28, E29, E30, E31, E32, E33, E34, E35, E36, E37, E40, E41, E42, decide_false, decide_true, Bool.false_eq_true, if_false, if_true]
  unfold jb_impl_partShape_2 jn
  simp only [jn, cells_agg, S.cells, rd1_p, List.getElem?_cons_zero, part_rd0, part_at0, S.lenV, len_encS, part_rd8, part_at8, Option.bind_some, bin_gtr, bin_eql, aCase_bool, n1, n2, E1, E2, E3, E4, E5, E6, E7, E8, E9, E10, E11, E12, E13, E14, E15, E16, E20, E21, E22, E23, E24, E25, E26, E27, E28, E29, E30, E31, E32, E33, E34, E35, E36, E37, E40, E41, E42, decide_false, decide_true, Bool.false_eq_true, if_false, if_true]
  by_cases c0 : (ks.length : Int) = 0
  · skip
    simp [jb_impl_partShape_4, jk_impl_partShape_1, jk_impl_partShape_2, jk_impl_partShape_3, jk_impl_partShape_4, jk_impl_partShape_5, jk_impl_partShape_6, jk_impl_partShape_7, jk_impl_partShape_8, jk_impl_partShape_9, jk_impl_partShape_10, jk_impl_partShape_11, jk_impl_partShape_12, jk_impl_partShape_13, jk_impl_partShape_14, jk_impl_partShape_15, jk_impl_partShape_16, jk_impl_partShape_17, jk_impl_partShape_18, jk_impl_partShape_19, jk_impl_partShape_20, jk_impl_partShape_21, jk_impl_partShape_22, jk_impl_partShape_23, jk_impl_partShape_24, jk_impl_partShape_25, jk_impl_partShape_26, S.all24, S.all25, S.all26, S.all28, S.is1, S.is2, S.base, S.v24, S.v27, S.at_, S.fin, bin_geq, bin_leq, bin_lss, bin_eql, lenV_str, part_rd4, part_rd5, part_rd6, part_rd7, bin_feq, bin_sub31, bin_sub41, fltSame, c0]
    try all_goals ((repeat' split) <;> simp_all)
  · skip
    simp [jb_impl_partShape_4, jk_impl_partShape_1, jk_impl_partShape_2, jk_impl_partShape_3, jk_impl_partShape_4, jk_impl_partShape_5, jk_impl_partShape_6, jk_impl_partShape_7, jk_impl_partShape_8, jk_impl_partShape_9, jk_impl_partShape_10, jk_impl_partShape_11, jk_impl_partShape_12, jk_impl_partShape_13, jk_impl_partShape_14, jk_impl_partShape_15, jk_impl_partShape_16, jk_impl_partShape_17, jk_impl_partShape_18, jk_impl_partShape_19, jk_impl_partShape_20, jk_impl_partShape_21, jk_impl_partShape_22, jk_impl_partShape_23, jk_impl_partShape_24, jk_impl_partShape_25, jk_impl_partShape_26, S.all24, S.all25, S.all26, S.all28, S.is1, S.is2, S.base, S.v24, S.v27, S.at_, S.fin, bin_geq, bin_leq, bin_lss, bin_eql, lenV_str, part_rd4, part_rd5, part_rd6, part_rd7, bin_feq, bin_sub31, bin_sub41, fltSame, c0]
    try all_goals ((repeat' split) <;> simp_all)
theorem ps_27 {p : LPart} {ks : List Int} {a1 : AV} (S : PSub D p ks a1) (n1 : ¬ (200 : Int) < ks.length) (n2 : ¬ (200 : Int) < p.names.length) (hk : p.kind = 27) (σ : Store) :
    sh_impl_partShape D (.agg (encPart p)) a1 σ = some (.bool (shapeEnd p false false false false (decide ((ks.length : Int) = 0)) 0 0), σ) := by
  have E1 : (p.kind = 1) = False := eq_false (by omega)
  have E2 : (p.kind = 2) = False := eq_false (by omega)
  have E3 : (p.kind = 3) = False := eq_false (by omega)
  have E4 : (p.kind = 4) = False := eq_false (by omega)
  have E5 : (p.kind = 5) = False := eq_false (by omega)
  have E6 : (p.kind = 6) = False := eq_false (by omega)
  have E7 : (p.kind = 7) = False := eq_false (by omega)
  have E8 : (p.kind = 8) = False := eq_false (by omega)
  have E9 : (p.kind = 9) = False := eq_false (by omega)
  have E10 : (p.kind = 10) = False := eq_false (by omega)
  have E11 : (p.kind = 11) = False := eq_false (by omega)
  have E12 : (p.kind = 12) = False := eq_false (by omega)
  have E13 : (p.kind = 13) = False := eq_false (by omega)
  have E14 : (p.kind = 14) = False := eq_false (by omega)
  have E15 : (p.kind = 15) = False := eq_false (by omega)
  have E16 : (p.kind = 16) = False := eq_false (by omega)
  have E20 : (p.kind = 20) = False := eq_false (by omega)
  have E21 : (p.kind = 21) = False := eq_false (by omega)
  have E22 : (p.kind = 22) = False := eq_false (by omega)
  have E23 : (p.kind = 23) = False := eq_false (by omega)
  have E24 : (p.kind = 24) = False := eq_false (by omega)
  have E25 : (p.kind = 25) = False := eq_false (by omega)
  have E26 : (p.kind = 26) = False := eq_false (by omega)
  have E27 : (p.kind = 27) = True := eq_true (by omega)
  have E28 : (p.kind = 28) = False := eq_false (by omega)
  have E29 : (p.kind = 29) = False := eq_false (by omega)
  have E30 : (p.kind = 30) = False := eq_false (by omega)
  have E31 : (p.kind = 31) = False := eq_false (by omega)
  have E32 : (p.kind = 32) = False := eq_false (by omega)
  have E33 : (p.kind = 33) = False := eq_false (by omega)
  have E34 : (p.kind = 34) = False := eq_false (by omega)
  have E35 : (p.kind = 35) = False := eq_false (by omega)
  have E36 : (p.kind = 36) = False := eq_false (by omega)
  have E37 : (p.kind = 37) = False := eq_false (by omega)
  have E40 : (p.kind = 40) = False := eq_false (by omega)
  have E41 : (p.kind = 41) = False := eq_false (by omega)
  have E42 : (p.kind = 42) = False := eq_false (by omega)
  unfold sh_impl_partShape jn
  simp only [jn, cells_agg, S.cells, rd1_p, List.getElem?_cons_zero, part_rd0, part_at0, S.lenV, len_encS, part_rd8, part_at8, Option.bind_some, bin_gtr, bin_eql, aCase_bool, n1, n2, E1, E2, E3, E4, E5, E6, E7, E8, E9, E10, E11, E12, E13, E14, E15, E16, E20, E21, E22, E23, E24, E25, E26, E27, E28, E29, E30, E31, E32, E33, E34, E35, E36, E37, E40, E41, E42, decide_false, decide_true, Bool.false_eq_true, if_false, if_true]
  unfold jb_impl_partShape_6 jn
  simp only [jn, cells_agg, S.cells, rd1_p, List.getElem?_cons_zero, part_rd0, part_at0, S.lenV, len_encS, part_rd8, part_at8, Option.bind_some, bin_gtr, bin_eql, aCase_bool, n1, n2, E1, E2, E3, E4, E5, E6, E7, E8, E9, E10, E11, E12, E13, E14, E15, E16, E20, E21, E22, E23, E24, E25, E26, E27, E28, E29, E30, E31, E32, E33, E34, E35, E36, E37, E40, E41, E42, decide_false, decide_true, Bool.false_eq_true, if_false, if_true]
  unfold jb_impl_partShape_5 jn
  simp only [jn, cells_agg, S.cells, rd1_p, List.getElem?_cons_zero, part_rd0, part_at0, S.lenV, len_encS, part_rd8, part_at8, Option.bind_some, bin_gtr, bin_eql, aCase_bool, n1, n2, E1, E2, E3, E4, E5, E6, E7, E8, E9, E10, E11, E12, E13, E14, E15, E16, E20, E21, E22, E23, E24, E25, E26, E27, E28, E29, E30, E31, E32, E33, E34, E35, E36, E37, E40, E41, E42, decide_false, decide_true, Bool.false_eq_true, if_false, if_true]
  unfold jb_impl_partShape_3 jn
  simp only [jn, cells_agg, S.cells, rd1_p, List.getElem?_cons_zero, part_rd0, part_at0, S.lenV, len_encS, part_rd8, part_at8, Option.bind_some, bin_gtr, bin_eql, aCase_bool, n1, n2, E1, E2, E3, E4, E5, E6, E7, E8, E9, E10, E11, E12, E13, E14, E15, E16, E20, E21, E22, E23, E24, E25, E26, E27, E28, E29, E30, E31, E32, E33, E34, E35, E36, E37, E40, E41, E42, decide_false, decide_true, Bool.false_eq_true, if_false, if_true]
  unfold jb_impl_partShape_2 jn
  simp only [jn, cells_agg, S.cells, rd1_p, List.getElem?_cons_zero, part_rd0, part_at0, S.lenV, len_encS, part_rd8, part_at8, Option.bind_some, bin_gtr, bin_eql, aCase_bool, n1, n2, E1, E2, E3, E4, E5, E6, E7, E8, E9, E10, E11, E12, E13, E14, E15, E16, E20, E21, E22, E23, E24, E25, E26, E27, E28, E29, E30, E31, E32, E33, E34, E35, E36, E37, E40, E41, E42, decide_false, decide_true, Bool.false_eq_true, if_false, if_true]
  simp [jb_impl_partShape_4, jk_impl_partShape_1, jk_impl_partShape_2, jk_impl_partShape_3, jk_impl_partShape_4, jk_impl_partShape_5, jk_impl_partShape_6, jk_impl_partShape_7, jk_impl_partShape_8, jk_impl_partShape_9, jk_impl_partShape_10, jk_impl_partShape_11, jk_impl_partShape_12, jk_impl_partShape_13, jk_impl_partShape_14, jk_impl_partShape_15, jk_impl_partShape_16, jk_impl_partShape_17, jk_impl_partShape_18, jk_impl_partShape_19, jk_impl_partShape_20, jk_impl_partShape_21, jk_impl_partShape_22, jk_impl_partShape_23, jk_impl_partShape_24, jk_impl_partShape_25, jk_impl_partShape_26, S.all24, S.all25, S.all26, S.all28, S.is1, S.is2, S.base, S.v24, S.v27, S.at_, S.fin, bin_geq, bin_leq, bin_lss, bin_eql, lenV_str, part_rd4, part_rd5, part_rd6, part_rd7, bin_feq, bin_sub31, bin_sub41, fltSame]
  try all_goals ((repeat' split) <;> simp_all)
theorem ps_28 {p : LPart} {ks : List Int} {a1 : AV} (S : PSub D p ks a1) (n1 : ¬ (200 : Int) < ks.length) (n2 : ¬ (200 : Int) < p.names.length) (hk : p.kind = 28) (σ : Store) :
    sh_impl_partShape D (.agg (encPart p)) a1 σ = some (.bool (shapeEnd p false false false false ((decide ((ks.length : Int) = 2) && alls isExpr ks 0 2)) 0 0), σ) := by
  have E1 : (p.kind = 1) = False := eq_false (by omega)
  have E2 : (p.kind = 2) = False := eq_false (by omega)
  have E3 : (p.kind = 3) = False := eq_false (by omega)
  have E4 : (p.kind = 4) = False := eq_false (by omega)
  have E5 : (p.kind = 5) = False := eq_false (by omega)
  have E6 : (p.kind = 6) = False := eq_false (by omega)
  have E7 : (p.kind = 7) = False := eq_false (by omega)
  have E8 : (p.kind = 8) = False := eq_false (by omega)
  have E9 : (p.kind = 9) = False := eq_false (by omega)
  have E10 : (p.kind = 10) = False := eq_false (by omega)
  have E11 : (p.kind = 11) = False := eq_false (by omega)
  have E12 : (p.kind = 12) = False := eq_false (by omega)
  have E13 : (p.kind = 13) = False := eq_false (by omega)
  have E14 : (p.kind = 14) = False := eq_false (by omega)
  have E15 : (p.kind = 15) = False := eq_false (by omega)
  have E16 : (p.kind = 16) = False := eq_false (by omega)
  have E20 : (p.kind = 20) = False := eq_false (by omega)
  have E21 : (p.kind = 21) = False := eq_false (by omega)
  have E22 : (p.kind = 22) = False := eq_false (by omega)
  have E23 : (p.kind = 23) = False := eq_false (by omega)
  have E24 : (p.kind = 24) = False := eq_false (by omega)
  have E25 : (p.kind = 25) = False := eq_false (by omega)
  have E26 : (p.kind = 26) = False := eq_false (by omega)
  have E27 : (p.kind = 27) = False := eq_false (by omega)
  have E28 : (p.kind = 28) = True := eq_true (by omega)
  have E29 : (p.kind = 29) = False := eq_false (by omega)
  have E30 : (p.kind = 30) = False := eq_false (by omega)
  have E31 : (p.kind = 31) = False := eq_false (by omega)
  have E32 : (p.kind = 32) = False := eq_false (by omega)
  have E33 : (p.kind = 33) = False := eq_false (by omega)
  have E34 : (p.kind = 34) = False := eq_false (by omega)
  have E35 : (p.kind = 35) = False := eq_false (by omega)
  have E36 : (p.kind = 36) = False := eq_false (by omega)
  have E37 : (p.kind = 37) = False := eq_false (by omega)
  have E40 : (p.kind = 40) = False := eq_false (by omega)
  have E41 : (p.kind = 41) = False := eq_false (by omega)
  have E42 : (p.kind = 42) = False := eq_false (by omega)
  unfold sh_impl_partShape jn
  simp only [jn, cells_agg, S.cells, rd1_p, List.getElem?_cons_zero, part_rd0, part_at0, S.lenV, len_encS, part_rd8, part_at8, Option.bind_some, bin_gtr, bin_eql, aCase_bool, n1, n2, E1, E2, E3, E4, E5, E6, E7, E8, E9, E10, E11, E12, E13, E14, E15, E16, E20, E21, E22, E23, E24, E25, E26, E27, E28, E29, E30, E31, E32, E33, E34, E35, E36, E37, E40, E41, E42, decide_false, decide_true, Bool.false_eq_true, if_false, if_true]
  unfold jb_impl_partShape_6 jn
  simp only [jn, cells_agg, S.cells, rd1_p, List.getElem?_cons_zero, part_rd0, part_at0, S.lenV, len_encS, part_rd8, part_at8, Option.bind_some, bin_gtr, bin_eql, aCase_bool, n1, n2, E1, E2, E3, E4, E5, E6, E7, E8, E9, E10, E11, E12, E13, E14, E15, E16, E20, E21, E22, E23, E24, E25, E26, E27, E28, E29, E30, E31, E32, E33, E34, E35, E36, E37, E40, E41, E42, decide_false, decide_true, Bool.false_eq_true, if_false, if_true]
  unfold jb_impl_partShape_5 jn
  simp only [jn, cells_agg, S.cells, rd1_p, List.getElem?_cons_zero, part_rd0, part_at0, S.lenV, len_encS, part_rd8, part_at8, Option.bind_some, bin_gtr, bin_eql, aCase_bool, n1, n2, E1, E2, E3, E4, E5, E6, E7, E8, E9, E10, E11, E12, E13, E14, E15, E16, E20, E21, E22, E23, E24, E25, E26, E27, E28, E29, E30, E31, E32, E33, E34, E35, E36, E37, E40, E41, E42, decide_false, decide_true, Bool.false_eq_true, if_false, if_true]
  unfold jb_impl_partShape_3 jn
  simp only [jn, cells_agg, S.cells, rd1_p, List.getElem?_cons_zero, part_rd0, part_at0, S.lenV, len_encS, part_rd8, part_at8, Option.bind_some, bin_gtr, bin_eql, aCase_bool, n1, n2, E1, E2, E3, E4, E5, E6, E7, E8, E9, E10, E11, E12, E13, E14, E15, E16, E20, E21, E22, E23, E24, E25, E26, E27, E28, E29, E30, E31, E32, E33, E34, E35, E36, E37, E40, E41, E42, decide_false, decide_true, Bool.false_eq_true, if_false, if_true]
  unfold jb_impl_partShape_2 jn
  simp only [jn, cells_agg, S.cells, rd1_p, List.getElem?_cons_zero, part_rd0, part_at0, S.lenV, len_encS, part_rd8, part_at8, Option.bind_some, bin_gtr, bin_eql, aCase_bool, n1, n2, E1, E2, E3, E4, E5, E6, E7, E8, E9, E10, E11, E12, E13, E14, E15, E16, E20, E21, E22, E23, E24, E25, E26, E27, E28, E29, E30, E31, E32, E33, E34, E35, E36, E37, E40, E41, E42, decide_false, decide_true, Bool.false_eq_true, if_false, if_true]
  unfold jb_impl_partShape_1 jn
  simp only [jn, cells_agg, S.cells, rd1_p, List.getElem?_cons_zero, part_rd0, part_at0, S.lenV, len_encS, part_rd8, part_at8, Option.bind_some, bin_gtr, bin_eql, aCase_bool, n1, n2, E1, E2, E3, E4, E5, E6, E7, E8, E9, E10, E11, E12, E13, E14, E15, E16, E20, E21, E22, E23, E24, E25, E26, E27, E28, E29, E30, E31, E32, E33, E34, E35, E36, E37, E40, E41, E42, decide_false, decide_true, Bool.false_eq_true, if_false, if_true]
  by_cases c2 : (ks.length : Int) = 2
  · skip
    simp [jb_impl_partShape_4, jk_impl_partShape_1, jk_impl_partShape_2, jk_impl_partShape_3, jk_impl_partShape_4, jk_impl_partShape_5, jk_impl_partShape_6, jk_impl_partShape_7, jk_impl_partShape_8, jk_impl_partShape_9, jk_impl_partShape_10, jk_impl_partShape_11, jk_impl_partShape_12, jk_impl_partShape_13, jk_impl_partShape_14, jk_impl_partShape_15, jk_impl_partShape_16, jk_impl_partShape_17, jk_impl_partShape_18, jk_impl_partShape_19, jk_impl_partShape_20, jk_impl_partShape_21, jk_impl_partShape_22, jk_impl_partShape_23, jk_impl_partShape_24, jk_impl_partShape_25, jk_impl_partShape_26, S.all24, S.all25, S.all26, S.all28, S.is1, S.is2, S.base, S.v24, S.v27, S.at_, S.fin, bin_geq, bin_leq, bin_lss, bin_eql, lenV_str, part_rd4, part_rd5, part_rd6, part_rd7, bin_feq, bin_sub31, bin_sub41, fltSame, c2]
    try all_goals ((repeat' split) <;> simp_all)
  · skip
    simp [jb_impl_partShape_4, jk_impl_partShape_1, jk_impl_partShape_2, jk_impl_partShape_3, jk_impl_partShape_4, jk_impl_partShape_5, jk_impl_partShape_6, jk_impl_partShape_7, jk_impl_partShape_8, jk_impl_partShape_9, jk_impl_partShape_10, jk_impl_partShape_11, jk_impl_partShape_12, jk_impl_partShape_13, jk_impl_partShape_14, jk_impl_partShape_15, jk_impl_partShape_16, jk_impl_partShape_17, jk_impl_partShape_18, jk_impl_partShape_19, jk_impl_partShape_20, jk_impl_partShape_21, jk_impl_partShape_22, jk_impl_partShape_23, jk_impl_partShape_24, jk_impl_partShape_25, jk_impl_partShape_26, S.all24, S.all25, S.all26, S.all28, S.is1, S.is2, S.base, S.v24, S.v27, S.at_, S.fin, bin_geq, bin_leq, bin_lss, bin_eql, lenV_str, part_rd4, part_rd5, part_rd6, part_rd7, bin_feq, bin_sub31, bin_sub41, fltSame, c2]
    try all_goals ((repeat' split) <;> simp_all)
theorem ps_29 {p : LPart} {ks : List Int} {a1 : AV} (S : PSub D p ks a1) (n1 : ¬ (200 : Int) < ks.length) (n2 : ¬ (200 : Int) < p.names.length) (hk : p.kind = 29) (σ : Store) :
    sh_impl_partShape D (.agg (encPart p)) a1 σ = some (.bool (shapeEnd p false false false false ((decide ((ks.length : Int) = 2) && alls isExpr ks 0 2)) 0 0), σ) := by
  have E1 : (p.kind = 1) = False := eq_false (by omega)
  have E2 : (p.kind = 2) = False := eq_false (by omega)
  have E3 : (p.kind = 3) = False := eq_false (by omega)
  have E4 : (p.kind = 4) = False := eq_false (by omega)
  have E5 : (p.kind = 5) = False := eq_false (by omega)
  have E6 : (p.kind = 6) = False := eq_false (by omega)
  have E7 : (p.kind = 7) = False := eq_false (by omega)
  have E8 : (p.kind = 8) = False := eq_false (by omega)
  have E9 : (p.kind = 9) = False := eq_false (by omega)
  have E10 : (p.kind = 10) = False := eq_false (by omega)
  have E11 : (p.kind = 11) = False := eq_false (by omega)
  have E12 : (p.kind = 12) = False := eq_false (by omega)
  have E13 : (p.kind = 13) = False := eq_false (by omega)
  have E14 : (p.kind = 14) = False := eq_false (by omega)
  have E15 : (p.kind = 15) = False := eq_false (by omega)
  have E16 : (p.kind = 16) = False := eq_false (by omega)
  have E20 : (p.kind = 20) = False := eq_false (by omega)
  have E21 : (p.kind = 21) = False := eq_false (by omega)
  have E22 : (p.kind = 22) = False := eq_false (by omega)
  have E23 : (p.kind = 23) = False := eq_false (by omega)
  have E24 : (p.kind = 24) = False := eq_false (by omega)
  have E25 : (p.kind = 25) = False := eq_false (by omega)
  have E26 : (p.kind = 26) = False := eq_false (by omega)
  have E27 : (p.kind = 27) = False := eq_false (by omega)
  have E28 : (p.kind = 28) = False := eq_false (by omega)
  have E29 : (p.kind = 29) = True := eq_true (by omega)
  have E30 : (p.kind = 30) = False := eq_false (by omega)
  have E31 : (p.kind = 31) = False := eq_false (by omega)
  have E32 : (p.kind = 32) = False := eq_false (by omega)
  have E33 : (p.kind = 33) = False := eq_false (by omega)
  have E34 : (p.kind = 34) = False := eq_false (by omega)
  have E35 : (p.kind = 35) = False := eq_false (by omega)
  have E36 : (p.kind = 36) = False := eq_false (by omega)
  have E37 : (p.kind = 37) = False := eq_false (by omega)
  have E40 : (p.kind = 40) = False := eq_false (by omega)
  have E41 : (p.kind = 41) = False := eq_false (by omega)
  have E42 : (p.kind = 42) = False := eq_false (by omega)
  unfold sh_impl_partShape jn
  simp only [jn, cells_agg, S.cells, rd1_p, List.getElem?_cons_zero, part_rd0, part_at0, S.lenV, len_encS, part_rd8, part_at8, Option.bind_some, bin_gtr, bin_eql, aCase_bool, n1, n2, E1, E2, E3, E4, E5, E6, E7, E8, E9, E10, E11, E12, E13, E14, E15, E16, E20, E21, E22, E23, E24, E25, E26, E27, E28, E29, E30, E31, E32, E33, E34, E35, E36, E37, E40, E41, E42, decide_false, decide_true, Bool.false_eq_true, if_false, if_true]
  unfold jb_impl_partShape_6 jn
  simp only [jn, cells_agg, S.cells, rd1_p, List.getElem?_cons_zero, part_rd0, part_at0, S.lenV, len_encS, part_rd8, part_at8, Option.bind_some, bin_gtr, bin_eql, aCase_bool, n1, n2, E1, E2, E3, E4, E5, E6, E7, E8, E9, E10, E11, E12, E13, E14, E15, E16, E20, E21, E22, E23, E24, E25, E26, E27, E28, E29, E30, E31, E32, E33, E34, E35, E36, E37, E40, E41, E42, decide_false, decide_true, Bool.false_eq_true, if_false, if_true]
  unfold jb_impl_partShape_5 jn
  simp only [jn, cells_agg, S.cells, rd1_p, List.getElem?_cons_zero, part_rd0, part_at0, S.lenV, len_encS, part_rd8, part_at8, Option.bind_some, bin_gtr, bin_eql, aCase_bool, n1, n2, E1, E2, E3, E4, E5, E6, E7, E8, E9, E10, E11, E12, E13, E14, E15, E16, E20, E21, E22, E23, E24, E25, E26, E27, E28, E29, E30, E31, E32, E33, E34, E35, E36, E37, E40, E41, E42, decide_false, decide_true, Bool.false_eq_true, if_false, if_true]
  unfold jb_impl_partShape_3 jn
  simp only [jn, cells_agg, S.cells, rd1_p, List.getElem?_cons_zero, part_rd0, part_at0, S.lenV, len_encS, part_rd8, part_at8, Option.bind_some, bin_gtr, bin_eql, aCase_bool, n1, n2, E1, E2, E3, E4, E5, E6, E7, E8, E9, E10, E11, E12, E13, E14, E15, E16, E20, E21, E22, E23, E24, E25, E26, E27, E28, E29, E30, E31, E32, E33, E34, E35, E36, E37, E40, E41, E42, decide_false, decide_true, Bool.false_eq_true, if_false, if_true]
  unfold jb_impl_partShape_2 jn
  simp only [jn, cells_agg, S.cells, rd1_p, List.getElem?_cons_zero, part_rd0, part_at0, S.lenV, len_encS, part_rd8, part_at8, Option.bind_some, bin_gtr, bin_eql, aCase_bool, n1, n2, E1, E2, E3, E4, E5, E6, E7, E8, E9, E10, E11, E12, E13, E14, E15, E16, E20, E21, E22, E23, E24, E25, E26, E27, E28, E29, E30, E31, E32, E33, E34, E35, E36, E37, E40, E41, E42, decide_false, decide_true, Bool.false_eq_true, if_false, if_true]
  unfold jb_impl_partShape_1 jn
  simp only [jn, cells_agg, S.cells, rd1_p, List.getElem?_cons_zero, part_rd0, part_at0, S.lenV, len_encS, part_rd8, part_at8, Option.bind_some, bin_gtr, bin_eql, aCase_bool, n1, n2, E1, E2, E3, E4, E5, E6, E7, E8, E9, E10, E11, E12, E13, E14, E15, E16, E20, E21, E22, E23, E24, E25, E26, E27, E28, E29, E30, E31, E32, E33, E34, E35, E36, E37, E40, E41, E42, decide_false, decide_true, Bool.false_eq_true, if_false, if_true]
  by_cases c2 : (ks.length : Int) = 2
  · skip
    simp [jb_impl_partShape_4, jk_impl_partShape_1, jk_impl_partShape_2, jk_impl_partShape_3, jk_impl_partShape_4, jk_impl_partShape_5, jk_impl_partShape_6, jk_impl_partShape_7, jk_impl_partShape_8, jk_impl_partShape_9, jk_impl_partShape_10, jk_impl_partShape_11, jk_impl_partShape_12, jk_impl_partShape_13, jk_impl_partShape_14, jk_impl_partShape_15, jk_impl_partShape_16, jk_impl_partShape_17, jk_impl_partShape_18, jk_impl_partShape_19, jk_impl_partShape_20, jk_impl_partShape_21, jk_impl_partShape_22, jk_impl_partShape_23, jk_impl_partShape_24, jk_impl_partShape_25, jk_impl_partShape_26, S.all24, S.all25, S.all26, S.all28, S.is1, S.is2, S.base, S.v24, S.v27, S.at_, S.fin, bin_geq, bin_leq, bin_lss, bin_eql, lenV_str, part_rd4, part_rd5, part_rd6, part_rd7, bin_feq, bin_sub31, bin_sub41, fltSame, c2]
    try all_goals ((repeat' split) <;> simp_all)
  · skip
    simp [jb_impl_partShape_4, jk_impl_partShape_1, jk_impl_partShape_2, jk_impl_partShape_3, jk_impl_partShape_4, jk_impl_partShape_5, jk_impl_partShape_6, jk_impl_partShape_7, jk_impl_partShape_8, jk_impl_partShape_9, jk_impl_partShape_10, jk_impl_partShape_11, jk_impl_partShape_12, jk_impl_partShape_13, jk_impl_partShape_14, jk_impl_partShape_15, jk_impl_partShape_16, jk_impl_partShape_17, jk_impl_partShape_18, jk_impl_partShape_19, jk_impl_partShape_20, jk_impl_partShape_21, jk_impl_partShape_22, jk_impl_partShape_23, jk_impl_partShape_24, jk_impl_partShape_25, jk_impl_partShape_26, S.all24, S.all25, S.all26, S.all28, S.is1, S.is2, S.base, S.v24, S.v27, S.at_, S.fin, bin_geq, bin_leq, bin_lss, bin_eql, lenV_str, part_rd4, part_rd5, part_rd6, part_rd7, bin_feq, bin_sub31, bin_sub41, fltSame, c2]
    try all_goals ((repeat' split) <;> simp_all)
theorem ps_30 {p : LPart} {ks : List Int} {a1 : AV} (S : PSub D p ks a1) (n1 : ¬ (200 : Int) < ks.length) (n2 : ¬ (200 : Int) < p.names.length) (hk : p.kind = 30) (σ : Store) :
    sh_impl_partShape D (.agg (encPart p)) a1 σ = some (.bool (shapeEnd p false false false true ((decide ((ks.length : Int) = 1) && isExpr (kd ks 0) && decide (19 ≤ p.op) && decide (p.op ≤ 22))) 0 0), σ) := by
  have E1 : (p.kind = 1) = False := eq_false (by omega)
  have E2 : (p.kind = 2) = False := eq_false (by omega)
  have E3 : (p.kind = 3) = False := eq_false (by omega)
  have E4 : (p.kind = 4) = False := eq_false (by omega)
  have E5 : (p.kind = 5) = False := eq_false (by omega)
  have E6 : (p.kind = 6) = False := eq_false (by omega)
  have E7 : (p.kind = 7) = False := eq_false (by omega)
  have E8 : (p.kind = 8) = False := eq_false (by omega)
  have E9 : (p.kind = 9) = False := eq_false (by omega)
  have E10 : (p.kind = 10) = False := eq_false (by omega)
  have E11 : (p.kind = 11) = False := eq_false (by omega)
  have E12 : (p.kind = 12) = False := eq_false (by omega)
  have E13 : (p.kind = 13) = False := eq_false (by omega)
  have E14 : (p.kind = 14) = False := eq_false (by omega)
  have E15 : (p.kind = 15) = False := eq_false (by omega)
  have E16 : (p.kind = 16) = False := eq_false (by omega)
  have E20 : (p.kind = 20) = False := eq_false (by omega)
  have E21 : (p.kind = 21) = False := eq_false (by omega)
  have E22 : (p.kind = 22) = False := eq_false (by omega)
  have E23 : (p.kind = 23) = False := eq_false (by omega)
  have E24 : (p.kind = 24) = False := eq_false (by omega)
  have E25 : (p.kind = 25) = False := eq_false (by omega)
  have E26 : (p.kind = 26) = False := eq_false (by omega)
  have E27 : (p.kind = 27) = False := eq_false (by omega)
  have E28 : (p.kind = 28) = False := eq_false (by omega)
  have E29 : (p.kind = 29) = False := eq_false (by omega)
  have E30 : (p.kind = 30) = True := eq_true (by omega)
  have E31 : (p.kind = 31) = False := eq_false (by omega)
  have E32 : (p.kind = 32) = False := eq_false (by omega)
  have E33 : (p.kind = 33) = False := eq_false (by omega)
  have E34 : (p.kind = 34) = False := eq_false (by omega)
  have E35 : (p.kind = 35) = False := eq_false (by omega)
  have E36 : (p.kind = 36) = False := eq_false (by omega)
  have E37 : (p.kind = 37) = False := eq_false (by omega)
  have E40 : (p.kind = 40) = False := eq_false (by omega)
  have E41 : (p.kind = 41) = False := eq_false (by omega)
  have E42 : (p.kind = 42) = False := eq_false (by omega)
  unfold sh_impl_partShape jn
  simp only [jn, cells_agg, S.cells, rd1_p, List.getElem?_cons_zero, part_rd0, part_at0, S.lenV, len_encS, part_rd8, part_at8, Option.bind_some, bin_gtr, bin_eql, aCase_bool, n1, n2, E1, E2, E3, E4, E5, E6, E7, E8, E9, E10, E11, E12, E13, E14, E15, E16, E20, E21, E22, E23, E24, E25, E26, E27, E28, E29, E30, E31, E32, E33, E34, E35, E36, E37, E40, E41, E42, decide_false, decide_true, Bool.false_eq_true, if_false, if_true]
  unfold jb_impl_partShape_6 jn
  simp only [jn, cells_agg, S.cells, rd1_p, List.getElem?_cons_zero, part_rd0, part_at0, S.lenV, len_encS, part_rd8, part_at8, Option.bind_some, bin_gtr, bin_eql, aCase_bool, n1, n2, E1, E2, E3, E4, E5, E6, E7, E8, E9, E10, E11, E12, E13, E14, E15, E16, E20, E21, E22, E23, E24, E25, E26, E27, E28, E29, E30, E31, E32, E33, E34, E35, E36, E37, E40, E41, E42, decide_false, decide_true, Bool.false_eq_true, if_false, if_true]
  unfold jb_impl_partShape_5 jn
  simp only [jn, cells_agg, S.cells, rd1_p, List.getElem?_cons_zero, part_rd0, part_at0, S.lenV, len_encS, part_rd8, part_at8, Option.bind_some, bin_gtr, bin_eql, aCase_bool, n1, n2, E1, E2, E3, E4, E5, E6, E7, E8, E9, E10, E11, E12, E13, E14, E15, E16, E20, E21, E22, E23, E24, E25, E26, E27, E28, E29, E30, E31, E32, E33, E34, E35, E36, E37, E40, E41, E42, decide_false, decide_true, Bool.false_eq_true, if_false, if_true]
  unfold jb_impl_partShape_3 jn
  simp only [jn, cells_agg, S.cells, rd1_p, List.getElem?_cons_zero, part_rd0, part_at0, S.lenV, len_encS, part_rd8, part_at8, Option.bind_some, bin_gtr, bin_eql, aCase_bool, n1, n2, E1, E2, E3, E4, E5, E6, E7, E8, E9, E10, E11, E12, E13, E14, E15, E16, E20, E21, E22, E23, E24, E25, E26, E27, E28, E29, E30, E31, E32, E33, E34, E35, E36, E37, E40, E41, E42, decide_false, decide_true, Bool.false_eq_true, if_false, if_true]
  unfold jb_impl_partShape_2 jn
  simp only [jn, cells_agg, S.cells, rd1_p, List.getElem?_cons_zero, part_rd0, part_at0, S.lenV, len_encS, part_rd8, part_at8, Option.bind_some, bin_gtr, bin_eql, aCase_bool, n1, n2, E1, E2, E3, E4, E5, E6, E7, E8, E9, E10, E11, E12, E13, E14, E15, E16, E20, E21, E22, E23, E24, E25, E26, E27, E28, E29, E30, E31, E32, E33, E34, E35, E36, E37, E40, E41, E42, decide_false, decide_true, Bool.false_eq_true, if_false, if_true]
  unfold jb_impl_partShape_1 jn
  simp only [jn, cells_agg, S.cells, rd1_p, List.getElem?_cons_zero, part_rd0, part_at0, S.lenV, len_encS, part_rd8, part_at8, Option.bind_some, bin_gtr, bin_eql, aCase_bool, n1, n2, E1, E2, E3, E4, E5, E6, E7, E8, E9, E10, E11, E12, E13, E14, E15, E16, E20, E21, E22, E23, E24, E25, E26, E27, E28, E29, E30, E31, E32, E33, E34, E35, E36, E37, E40, E41, E42, decide_false, decide_true, Bool.false_eq_true, if_false, if_true]
  by_cases c1 : (ks.length : Int) = 1
  · skip
    simp [jb_impl_partShape_4, jk_impl_partShape_1, jk_impl_partShape_2, jk_impl_partShape_3, jk_impl_partShape_4, jk_impl_partShape_5, jk_impl_partShape_6, jk_impl_partShape_7, jk_impl_partShape_8, jk_impl_partShape_9, jk_impl_partShape_10, jk_impl_partShape_11, jk_impl_partShape_12, jk_impl_partShape_13, jk_impl_partShape_14, jk_impl_partShape_15, jk_impl_partShape_16, jk_impl_partShape_17, jk_impl_partShape_18, jk_impl_partShape_19, jk_impl_partShape_20, jk_impl_partShape_21, jk_impl_partShape_22, jk_impl_partShape_23, jk_impl_partShape_24, jk_impl_partShape_25, jk_impl_partShape_26, S.all24, S.all25, S.all26, S.all28, S.is1, S.is2, S.base, S.v24, S.v27, S.at_, S.fin, bin_geq, bin_leq, bin_lss, bin_eql, lenV_str, part_rd4, part_rd5, part_rd6, part_rd7, bin_feq, bin_sub31, bin_sub41, fltSame, c1]
    try all_goals ((repeat' split) <;> simp_all)
    try (rw [show decide (19 ≤ p.op) = false by simp; omega]; rfl)
  · skip
    simp [jb_impl_partShape_4, jk_impl_partShape_1, jk_impl_partShape_2, jk_impl_partShape_3, jk_impl_partShape_4, jk_impl_partShape_5, jk_impl_partShape_6, jk_impl_partShape_7, jk_impl_partShape_8, jk_impl_partShape_9, jk_impl_partShape_10, jk_impl_partShape_11, jk_impl_partShape_12, jk_impl_partShape_13, jk_impl_partShape_14, jk_impl_partShape_15, jk_impl_partShape_16, jk_impl_partShape_17, jk_impl_partShape_18, jk_impl_partShape_19, jk_impl_partShape_20, jk_impl_partShape_21, jk_impl_partShape_22, jk_impl_partShape_23, jk_impl_partShape_24, jk_impl_partShape_25, jk_impl_partShape_26, S.all24, S.all25, S.all26, S.all28, S.is1, S.is2, S.base, S.v24, S.v27, S.at_, S.fin, bin_geq, bin_leq, bin_lss, bin_eql, lenV_str, part_rd4, part_rd5, part_rd6, part_rd7, bin_feq, bin_sub31, bin_sub41, fltSame, c1]
    try all_goals ((repeat' split) <;> simp_all)
    try (rw [show decide (19 ≤ p.op) = false by simp; omega]; rfl)
theorem ps_31 {p : LPart} {ks : List Int} {a1 : AV} (S : PSub D p ks a1) (n1 : ¬ (200 : Int) < ks.length) (n2 : ¬ (200 : Int) < p.names.length) (hk : p.kind = 31) (σ : Store) :
    sh_impl_partShape D (.agg (encPart p)) a1 σ = some (.bool (shapeEnd p false false false true ((decide ((ks.length : Int) = 2) && alls isExpr ks 0 2 && decide (1 ≤ p.op) && decide (p.op ≤ 18))) 0 0), σ) := by
  have E1 : (p.kind = 1) = False := eq_false (by omega)
  have E2 : (p.kind = 2) = False := eq_false (by omega)
  have E3 : (p.kind = 3) = False := eq_false (by omega)
  have E4 : (p.kind = 4) = False := eq_false (by omega)
  have E5 : (p.kind = 5) = False := eq_false (by omega)
  have E6 : (p.kind = 6) = False := eq_false (by omega)
  have E7 : (p.kind = 7) = False := eq_false (by omega)
  have E8 : (p.kind = 8) = False := eq_false (by omega)
  have E9 : (p.kind = 9) = False := eq_false (by omega)
  have E10 : (p.kind = 10) = False := eq_false (by omega)
  have E11 : (p.kind = 11) = False := eq_false (by omega)
  have E12 : (p.kind = 12) = False := eq_false (by omega)
  have E13 : (p.kind = 13) = False := eq_false (by omega)
  have E14 : (p.kind = 14) = False := eq_false (by omega)
  have E15 : (p.kind = 15) = False := eq_false (by omega)
  have E16 : (p.kind = 16) = False := eq_false (by omega)
  have E20 : (p.kind = 20) = False := eq_false (by omega)
  have E21 : (p.kind = 21) = False := eq_false (by omega)
  have E22 : (p.kind = 22) = False := eq_false (by omega)
  have E23 : (p.kind = 23) = False := eq_false (by omega)
  have E24 : (p.kind = 24) = False := eq_false (by omega)
  have E25 : (p.kind = 25) = False := eq_false (by omega)
  have E26 : (p.kind = 26) = False := eq_false (by omega)
  have E27 : (p.kind = 27) = False := eq_false (by omega)
  have E28 : (p.kind = 28) = False := eq_false (by omega)
  have E29 : (p.kind = 29) = False := eq_false (by omega)
  have E30 : (p.kind = 30) = False := eq_false (by omega)
  have E31 : (p.kind = 31) = True := eq_true (by omega)
  have E32 : (p.kind = 32) = False := eq_false (by omega)
  have E33 : (p.kind = 33) = False := eq_false (by omega)
  have E34 : (p.kind = 34) = False := eq_false (by omega)
  have E35 : (p.kind = 35) = False := eq_false (by omega)
  have E36 : (p.kind = 36) = False := eq_false (by omega)
  have E37 : (p.kind = 37) = False := eq_false (by omega)
  have E40 : (p.kind = 40) = False := eq_false (by omega)
  have E41 : (p.kind = 41) = False := eq_false (by omega)
  have E42 : (p.kind = 42) = False := eq_false (by omega)
  unfold sh_impl_partShape jn
  simp only [jn, cells_agg, S.cells, rd1_p, List.getElem?_cons_zero, part_rd0, part_at0, S.lenV, len_encS, part_rd8, part_at8, Option.bind_some, bin_gtr, bin_eql, aCase_bool, n1, n2, E1, E2, E3, E4, E5, E6, E7, E8, E9, E10, E11, E12, E13, E14, E15, E16, E20, E21, E22, E23, E24, E25, E26, E27, E28, E29, E30, E31, E32, E33, E34, E35, E36, E37, E40, E41, E42, decide_false, decide_true, Bool.false_eq_true, if_false, if_true]
  unfold jb_impl_partShape_6 jn
  simp only [jn, cells_agg, S.cells, rd1_p, List.getElem?_cons_zero, part_rd0, part_at0, S.lenV, len_encS, part_rd8, part_at8, Option.bind_some, bin_gtr, bin_eql, aCase_bool, n1, n2, E1, E2, E3, E4, E5, E6, E7, E8, E9, E10, E11, E12, E13, E14, E15, E16, E20, E21, E22, E23, E24, E25, E26, E27, E28, E29, E30, E31, E32, E33, E34, E35, E36, E37, E40, E41, E42, decide_false, decide_true, Bool.false_eq_true, if_false, if_true]
  unfold jb_impl_partShape_5 jn
  simp only [jn, cells_agg, S.cells, rd1_p, List.getElem?_cons_zero, part_rd0, part_at0, S.lenV, len_encS, part_rd8, part_at8, Option.bind_some, bin_gtr, bin_eql, aCase_bool, n1, n2, E1, E2, E3, E4, E5, E6, E7, E8, E9, E10, E11, E12, E13, E14, E15, E16, E20, E21, E22, E23, E24, E25, E26, E27, E28, E29, E30, E31, E32, E33, E34, E35, E36, E37, E40, E41, E42, decide_false, decide_true, Bool.false_eq_true, if_false, if_true]
  unfold jb_impl_partShape_3 jn
  simp only [jn, cells_agg, S.cells, rd1_p, List.getElem?_cons_zero, part_rd0, part_at0, S.lenV, len_encS, part_rd8, part_at8, Option.bind_some, bin_gtr, bin_eql, aCase_bool, n1, n2, E1, E2, E3, E4, E5, E6, E7, E8, E9, E10, E11, E12, E13, E14, E15, E16, E20, E21, E22, E23, E24, E25, E26, E27, E28, E29, E30, E31, E32, E33, E34, E35, E36, E37, E40, E41, E42, decide_false, decide_true, Bool.false_eq_true, if_false, if_true]
  unfold jb_impl_partShape_2 jn
  simp only [jn, cells_agg, S.cells, rd1_p, List.getElem?_cons_zero, part_rd0, part_at0, S.lenV, len_encS, part_rd8, part_at8, Option.bind_some, bin_gtr, bin_eql, aCase_bool, n1, n2, E1, E2, E3, E4, E5, E6, E7, E8, E9, E10, E11, E12, E13, E14, E15, E16, E20, E21, E22, E23, E24, E25, E26, E27, E28, E29, E30, E31, E32, E33, E34, E35, E36, E37, E40, E41, E42, decide_false, decide_true, Bool.false_eq_true, if_false, if_true]
  unfold jb_impl_partShape_1 jn
  simp only [jn, cells_agg, S.cells, rd1_p, List.getElem?_cons_zero, part_rd0, part_at0, S.lenV, len_encS, part_rd8, part_at8, Option.bind_some, bin_gtr, bin_eql, aCase_bool, n1, n2, E1, E2, E3, E4, E5, E6, E7, E8, E9, E10, E11, E12, E13, E14, E15, E16, E20, E21, E22, E23, E24, E25, E26, E27, E28, E29, E30, E31, E32, E33, E34, E35, E36, E37, E40, E41, E42, decide_false, decide_true, Bool.false_eq_true, if_false, if_true]
  by_cases c2 : (ks.length : Int) = 2
  · skip
    simp [jb_impl_partShape_4, jk_impl_partShape_1, jk_impl_partShape_2, jk_impl_partShape_3, jk_impl_partShape_4, jk_impl_partShape_5, jk_impl_partShape_6, jk_impl_partShape_7, jk_impl_partShape_8, jk_impl_partShape_9, jk_impl_partShape_10, jk_impl_partShape_11, jk_impl_partShape_12, jk_impl_partShape_13, jk_impl_partShape_14, jk_impl_partShape_15, jk_impl_partShape_16, jk_impl_partShape_17, jk_impl_partShape_18, jk_impl_partShape_19, jk_impl_partShape_20, jk_impl_partShape_21, jk_impl_partShape_22, jk_impl_partShape_23, jk_impl_partShape_24, jk_impl_partShape_25, jk_impl_partShape_26, S.all24, S.all25, S.all26, S.all28, S.is1, S.is2, S.base, S.v24, S.v27, S.at_, S.fin, bin_geq, bin_leq, bin_lss, bin_eql, lenV_str, part_rd4, part_rd5, part_rd6, part_rd7, bin_feq, bin_sub31, bin_sub41, fltSame, c2]
    try all_goals ((repeat' split) <;> simp_all)
    try (rw [show decide (1 ≤ p.op) = false by simp; omega]; rfl)
  · skip
    simp [jb_impl_partShape_4, jk_impl_partShape_1, jk_impl_partShape_2, jk_impl_partShape_3, jk_impl_partShape_4, jk_impl_partShape_5, jk_impl_partShape_6, jk_impl_partShape_7, jk_impl_partShape_8, jk_impl_partShape_9, jk_impl_partShape_10, jk_impl_partShape_11, jk_impl_partShape_12, jk_impl_partShape_13, jk_impl_partShape_14, jk_impl_partShape_15, jk_impl_partShape_16, jk_impl_partShape_17, jk_impl_partShape_18, jk_impl_partShape_19, jk_impl_partShape_20, jk_impl_partShape_21, jk_impl_partShape_22, jk_impl_partShape_23, jk_impl_partShape_24, jk_impl_partShape_25, jk_impl_partShape_26, S.all24, S.all25, S.all26, S.all28, S.is1, S.is2, S.base, S.v24, S.v27, S.at_, S.fin, bin_geq, bin_leq, bin_lss, bin_eql, lenV_str, part_rd4, part_rd5, part_rd6, part_rd7, bin_feq, bin_sub31, bin_sub41, fltSame, c2]
    try all_goals ((repeat' split) <;> simp_all)
    try (rw [show decide (1 ≤ p.op) = false by simp; omega]; rfl)
theorem ps_32 {p : LPart} {ks : List Int} {a1 : AV} (S : PSub D p ks a1) (n1 : ¬ (200 : Int) < ks.length) (n2 : ¬ (200 : Int) < p.names.length) (hk : p.kind = 32) (σ : Store) :
    sh_impl_partShape D (.agg (encPart p)) a1 σ = some (.bool (shapeEnd p false false false false ((decide ((ks.length : Int) = 2) && isBase (kd ks 0) && isExpr (kd ks 1))) 0 0), σ) := by
  have E1 : (p.kind = 1) = False := eq_false (by omega)
  have E2 : (p.kind = 2) = False := eq_false (by omega)
  have E3 : (p.kind = 3) = False := eq_false (by omega)
  have E4 : (p.kind = 4) = False := eq_false (by omega)
  have E5 : (p.kind = 5) = False := eq_false (by omega)
  have E6 : (p.kind = 6) = False := eq_false (by omega)
  have E7 : (p.kind = 7) = False := eq_false (by omega)
  have E8 : (p.kind = 8) = False := eq_false (by omega)
  have E9 : (p.kind = 9) = False := eq_false (by omega)
  have E10 : (p.kind = 10) = False := eq_false (by omega)
  have E11 : (p.kind = 11) = False := eq_false (by omega)
  have E12 : (p.kind = 12) = False := eq_false (by omega)
  have E13 : (p.kind = 13) = False := eq_false (by omega)
  have E14 : (p.kind = 14) = False := eq_false (by omega)
  have E15 : (p.kind = 15) = False := eq_false (by omega)
  have E16 : (p.kind = 16) = False := eq_false (by omega)
  have E20 : (p.kind = 20) = False := eq_false (by omega)
  have E21 : (p.kind = 21) = False := eq_false (by omega)
  have E22 : (p.kind = 22) = False := eq_false (by omega)
  have E23 : (p.kind = 23) = False := eq_false (by omega)
  have E24 : (p.kind = 24) = False := eq_false (by omega)
  have E25 : (p.kind = 25) = False := eq_false (by omega)
  have E26 : (p.kind = 26) = False := eq_false (by omega)
  have E27 : (p.kind = 27) = False := eq_false (by omega)
  have E28 : (p.kind = 28) = False := eq_false (by omega)
  have E29 : (p.kind = 29) = False := eq_false (by omega)
  have E30 : (p.kind = 30) = False := eq_false (by omega)
  have E31 : (p.kind = 31) = False := eq_false (by omega)
  have E32 : (p.kind = 32) = True := eq_true (by omega)
  have E33 : (p.kind = 33) = False := eq_false (by omega)
  have E34 : (p.kind = 34) = False := eq_false (by omega)
  have E35 : (p.kind = 35) = False := eq_false (by omega)
  have E36 : (p.kind = 36) = False := eq_false (by omega)
  have E37 : (p.kind = 37) = False := eq_false (by omega)
  have E40 : (p.kind = 40) = False := eq_false (by omega)
  have E41 : (p.kind = 41) = False := eq_false (by omega)
  have E42 : (p.kind = 42) = False := eq_false (by omega)
  unfold sh_impl_partShape jn
  simp only [jn, cells_agg, S.cells, rd1_p, List.getElem?_cons_zero, part_rd0, part_at0, S.lenV, len_encS, part_rd8, part_at8, Option.bind_some, bin_gtr, bin_eql, aCase_bool, n1, n2, E1, E2, E3, E4, E5, E6, E7, E8, E9, E10, E11, E12, E13, E14, E15, E16, E20, E21, E22, E23, E24, E25, E26, E27, E28, E29, E30, E31, E32, E33, E34, E35, E36, E37, E40, E41, E42, decide_false, decide_true, Bool.false_eq_true, if_false, if_true]
  unfold jb_impl_partShape_6 jn
  simp only [jn, cells_agg, S.cells, rd1_p, List.getElem?_cons_zero, part_rd0, part_at0, S.lenV, len_encS, part_rd8, part_at8, Option.bind_some, bin_gtr, bin_eql, aCase_bool, n1, n2, E1, E2, E3, E4, E5, E6, E7, E8, E9, E10, E11, E12, E13, E14, E15, E16, E20, E21, E22, E23, E24, E25, E26, E27, E28, E29, E30, E31, E32, E33, E34, E35, E36, E37, E40, E41, E42, decide_false, decide_true, Bool.false_eq_true, if_false, if_true]
  unfold jb_impl_partShape_5 jn
  simp only [jn, cells_agg, S.cells, rd1_p, List.getElem?_cons_zero, part_rd0, part_at0, S.lenV, len_encS, part_rd8, part_at8, Option.bind_some, bin_gtr, bin_eql, aCase_bool, n1, n2, E1, E2, E3, E4, E5, E6, E7, E8, E9, E10, E11, E12, E13, E14, E15, E16, E20, E21, E22, E23, E24, E25, E26, E27, E28, E29, E30, E31, E32, E33, E34, E35, E36, E37, E40, E41, E42, decide_false, decide_true, Bool.false_eq_true, if_false, if_true]
  unfold jb_impl_partShape_3 jn
  simp only [jn, cells_agg, S.cells, rd1_p, List.getElem?_cons_zero, part_rd0, part_at0, S.lenV, len_encS, part_rd8, part_at8, Option.bind_some, bin_gtr, bin_eql, aCase_bool, n1, n2, E1, E2, E3, E4, E5, E6, E7, E8, E9, E10, E11, E12, E13, E14, E15, E16, E20, E21, E22, E23, E24, E25, E26, E27, E28, E29, E30, E31, E32, E33, E34, E35, E36, E37, E40, E41, E42, decide_false, decide_true, Bool.false_eq_true, if_false, if_true]
  unfold jb_impl_partShape_2 jn
  simp only [jn, cells_agg, S.cells, rd1_p, List.getElem?_cons_zero, part_rd0, part_at0, S.lenV, len_encS, part_rd8, part_at8, Option.bind_some, bin_gtr, bin_eql, aCase_bool, n1, n2, E1, E2, E3, E4, E5, E6, E7, E8, E9, E10, E11, E12, E13, E14, E15, E16, E20, E21, E22, E23, E24, E25, E26, E27, E28, E29, E30, E31, E32, E33, E34, E35, E36, E37, E40, E41, E42, decide_false, decide_true, Bool.false_eq_true, if_false, if_true]
  unfold jb_impl_partShape_1 jn
  simp only [jn, cells_agg, S.cells, rd1_p, List.getElem?_cons_zero, part_rd0, part_at0, S.lenV, len_encS, part_rd8, part_at8, Option.bind_some, bin_gtr, bin_eql, aCase_bool, n1, n2, E1, E2, E3, E4, E5, E6, E7, E8, E9, E10, E11, E12, E13, E14, E15, E16, E20, E21, E22, E23, E24, E25, E26, E27, E28, E29, E30, E31, E32, E33, E34, E35, E36, E37, E40, E41, E42, decide_false, decide_true, Bool.false_eq_true, if_false, if_true]
  by_cases c2 : (ks.length : Int) = 2
  · skip
    simp [jb_impl_partShape_4, jk_impl_partShape_1, jk_impl_partShape_2, jk_impl_partShape_3, jk_impl_partShape_4, jk_impl_partShape_5, jk_impl_partShape_6, jk_impl_partShape_7, jk_impl_partShape_8, jk_impl_partShape_9, jk_impl_partShape_10, jk_impl_partShape_11, jk_impl_partShape_12, jk_impl_partShape_13, jk_impl_partShape_14, jk_impl_partShape_15, jk_impl_partShape_16, jk_impl_partShape_17, jk_impl_partShape_18, jk_impl_partShape_19, jk_impl_partShape_20, jk_impl_partShape_21, jk_impl_partShape_22, jk_impl_partShape_23, jk_impl_partShape_24, jk_impl_partShape_25, jk_impl_partShape_26, S.all24, S.all25, S.all26, S.all28, S.is1, S.is2, S.base, S.v24, S.v27, S.at_, S.fin, bin_geq, bin_leq, bin_lss, bin_eql, lenV_str, part_rd4, part_rd5, part_rd6, part_rd7, bin_feq, bin_sub31, bin_sub41, fltSame, c2]
    try all_goals ((repeat' split) <;> simp_all)
  · skip
    simp [jb_impl_partShape_4, jk_impl_partShape_1, jk_impl_partShape_2, jk_impl_partShape_3, jk_impl_partShape_4, jk_impl_partShape_5, jk_impl_partShape_6, jk_impl_partShape_7, jk_impl_partShape_8, jk_impl_partShape_9, jk_impl_partShape_10, jk_impl_partShape_11, jk_impl_partShape_12, jk_impl_partShape_13, jk_impl_partShape_14, jk_impl_partShape_15, jk_impl_partShape_16, jk_impl_partShape_17, jk_impl_partShape_18, jk_impl_partShape_19, jk_impl_partShape_20, jk_impl_partShape_21, jk_impl_partShape_22, jk_impl_partShape_23, jk_impl_partShape_24, jk_impl_partShape_25, jk_impl_partShape_26, S.all24, S.all25, S.all26, S.all28, S.is1, S.is2, S.base, S.v24, S.v27, S.at_, S.fin, bin_geq, bin_leq, bin_lss, bin_eql, lenV_str, part_rd4, part_rd5, part_rd6, part_rd7, bin_feq, bin_sub31, bin_sub41, fltSame, c2]
    try all_goals ((repeat' split) <;> simp_all)
theorem ps_33 {p : LPart} {ks : List Int} {a1 : AV} (S : PSub D p ks a1) (n1 : ¬ (200 : Int) < ks.length) (n2 : ¬ (200 : Int) < p.names.length) (hk : p.kind = 33) (σ : Store) :
    sh_impl_partShape D (.agg (encPart p)) a1 σ = some (.bool (shapeEnd p false false true false ((decide ((ks.length : Int) = 1) && isBase (kd ks 0) && nameOk p.text)) 0 0), σ) := by
  have E1 : (p.kind = 1) = False := eq_false (by omega)
  have E2 : (p.kind = 2) = False := eq_false (by omega)
  have E3 : (p.kind = 3) = False := eq_false (by omega)
  have E4 : (p.kind = 4) = False := eq_false (by omega)
  have E5 : (p.kind = 5) = False := eq_false (by omega)
  have E6 : (p.kind = 6) = False := eq_false (by omega)
  have E7 : (p.kind = 7) = False := eq_false (by omega)
  have E8 : (p.kind = 8) = False := eq_false (by omega)
  have E9 : (p.kind = 9) = False := eq_false (by omega)
  have E10 : (p.kind = 10) = False := eq_false (by omega)
  have E11 : (p.kind = 11) = False := eq_false (by omega)
  have E12 : (p.kind = 12) = False := eq_false (by omega)
  have E13 : (p.kind = 13) = False := eq_false (by omega)
  have E14 : (p.kind = 14) = False := eq_false (by omega)
  have E15 : (p.kind = 15) = False := eq_false (by omega)
  have E16 : (p.kind = 16) = False := eq_false (by omega)
  have E20 : (p.kind = 20) = False := eq_false (by omega)
  have E21 : (p.kind = 21) = False := eq_false (by omega)
  have E22 : (p.kind = 22) = False := eq_false (by omega)
  have E23 : (p.kind = 23) = False := eq_false (by omega)
  have E24 : (p.kind = 24) = False := eq_false (by omega)
  have E25 : (p.kind = 25) = False := eq_false (by omega)
  have E26 : (p.kind = 26) = False := eq_false (by omega)
  have E27 : (p.kind = 27) = False := eq_false (by omega)
  have E28 : (p.kind = 28) = False := eq_false (by omega)
  have E29 : (p.kind = 29) = False := eq_false (by omega)
  have E30 : (p.kind = 30) = False := eq_false (by omega)
  have E31 : (p.kind = 31) = False := eq_false (by omega)
  have E32 : (p.kind = 32) = False := eq_false (by omega)
  have E33 : (p.kind = 33) = True := eq_true (by omega)
  have E34 : (p.kind = 34) = False := eq_false (by omega)
  have E35 : (p.kind = 35) = False := eq_false (by omega)
  have E36 : (p.kind = 36) = False := eq_false (by omega)
  have E37 : (p.kind = 37) = False := eq_false (by omega)
  have E40 : (p.kind = 40) = False := eq_false (by omega)
  have E41 : (p.kind = 41) = False := eq_false (by omega)
  have E42 : (p.kind = 42) = False := eq_false (by omega)
  unfold sh_impl_partShape jn
  simp only [jn, cells_agg, S.cells, rd1_p, List.getElem?_cons_zero, part_rd0, part_at0, S.lenV, len_encS, part_rd8, part_at8, Option.bind_some, bin_gtr, bin_eql, aCase_bool, n1, n2, E1, E2, E3, E4, E5, E6, E7, E8, E9, E10, E11, E12, E13, E14, E15, E16, E20, E21, E22, E23, E24, E25, E26, E27, E28, E29, E30, E31, E32, E33, E34, E35, E36, E37, E40, E41, E42, decide_false, decide_true, Bool.false_eq_true, if_false, if_true]
  unfold jb_impl_partShape_6 jn
  simp only [jn, cells_agg, S.cells, rd1_p, List.getElem?_cons_zero, part_rd0, part_at0, S.lenV, len_encS, part_rd8, part_at8, Option.bind_some, bin_gtr, bin_eql, aCase_bool, n1, n2, E1, E2, E3, E4, E5, E6, E7, E8, E9, E10, E11, E12, E13, E14, E15, E16, E20, E21, E22, E23, E24, E25, E26, E27, E28, E29, E30, E31, E32, E33, E34, E35, E36, E37, E40, E41, E42, decide_false, decide_true, Bool.false_eq_true, if_false, if_true]
  unfold jb_impl_partShape_5 jn
  simp only [jn, cells_agg, S.cells, rd1_p, List.getElem?_cons_zero, part_rd0, part_at0, S.lenV, len_encS, part_rd8, part_at8, Option.bind_some, bin_gtr, bin_eql, aCase_bool, n1, n2, E1, E2, E3, E4, E5, E6, E7, E8, E9, E10, E11, E12, E13, E14, E15, E16, E20, E21, E22, E23, E24, E25, E26, E27, E28, E29, E30, E31, E32, E33, E34, E35, E36, E37, E40, E41, E42, decide_false, decide_true, Bool.false_eq_true, if_false, if_true]
  unfold jb_impl_partShape_3 jn
  simp only [jn, cells_agg, S.cells, rd1_p, List.getElem?_cons_zero, part_rd0, part_at0, S.lenV, len_encS, part_rd8, part_at8, Option.bind_some, bin_gtr, bin_eql, aCase_bool, n1, n2, E1, E2, E3, E4, E5, E6, E7, E8, E9, E10, E11, E12, E13, E14, E15, E16, E20, E21, E22, E23, E24, E25, E26, E27, E28, E29, E30, E31, E32, E33, E34, E35, E36, E37, E40, E41, E42, decide_false, decide_true, Bool.false_eq_true, if_false, if_true]
  unfold jb_impl_partShape_2 jn
  simp only [jn, cells_agg, S.cells, rd1_p, List.getElem?_cons_zero, part_rd0, part_at0, S.lenV, len_encS, part_rd8, part_at8, Option.bind_some, bin_gtr, bin_eql, aCase_bool, n1, n2, E1, E2, E3, E4, E5, E6, E7, E8, E9, E10, E11, E12, E13, E14, E15, E16, E20, E21, E22, E23, E24, E25, E26, E27, E28, E29, E30, E31, E32, E33, E34, E35, E36, E37, E40, E41, E42, decide_false, decide_true, Bool.false_eq_true, if_false, if_true]
  unfold jb_impl_partShape_1 jn
  simp only [jn, cells_agg, S.cells, rd1_p, List.getElem?_cons_zero, part_rd0, part_at0, S.lenV, len_encS, part_rd8, part_at8, Option.bind_some, bin_gtr, bin_eql, aCase_bool, n1, n2, E1, E2, E3, E4, E5, E6, E7, E8, E9, E10, E11, E12, E13, E14, E15, E16, E20, E21, E22, E23, E24, E25, E26, E27, E28, E29, E30, E31, E32, E33, E34, E35, E36, E37, E40, E41, E42, decide_false, decide_true, Bool.false_eq_true, if_false, if_true]
  by_cases c1 : (ks.length : Int) = 1
  · skip
    simp [jb_impl_partShape_4, jk_impl_partShape_1, jk_impl_partShape_2, jk_impl_partShape_3, jk_impl_partShape_4, jk_impl_partShape_5, jk_impl_partShape_6, jk_impl_partShape_7, jk_impl_partShape_8, jk_impl_partShape_9, jk_impl_partShape_10, jk_impl_partShape_11, jk_impl_partShape_12, jk_impl_partShape_13, jk_impl_partShape_14, jk_impl_partShape_15, jk_impl_partShape_16, jk_impl_partShape_17, jk_impl_partShape_18, jk_impl_partShape_19, jk_impl_partShape_20, jk_impl_partShape_21, jk_impl_partShape_22, jk_impl_partShape_23, jk_impl_partShape_24, jk_impl_partShape_25, jk_impl_partShape_26, S.all24, S.all25, S.all26, S.all28, S.is1, S.is2, S.base, S.v24, S.v27, S.at_, S.fin, bin_geq, bin_leq, bin_lss, bin_eql, lenV_str, part_rd4, part_rd5, part_rd6, part_rd7, bin_feq, bin_sub31, bin_sub41, fltSame, c1]
    try all_goals ((repeat' split) <;> simp_all)
  · skip
    simp [jb_impl_partShape_4, jk_impl_partShape_1, jk_impl_partShape_2, jk_impl_partShape_3, jk_impl_partShape_4, jk_impl_partShape_5, jk_impl_partShape_6, jk_impl_partShape_7, jk_impl_partShape_8, jk_impl_partShape_9, jk_impl_partShape_10, jk_impl_partShape_11, jk_impl_partShape_12, jk_impl_partShape_13, jk_impl_partShape_14, jk_impl_partShape_15, jk_impl_partShape_16, jk_impl_partShape_17, jk_impl_partShape_18, jk_impl_partShape_19, jk_impl_partShape_20, jk_impl_partShape_21, jk_impl_partShape_22, jk_impl_partShape_23, jk_impl_partShape_24, jk_impl_partShape_25, jk_impl_partShape_26, S.all24, S.all25, S.all26, S.all28, S.is1, S.is2, S.base, S.v24, S.v27, S.at_, S.fin, bin_geq, bin_leq, bin_lss, bin_eql, lenV_str, part_rd4, part_rd5, part_rd6, part_rd7, bin_feq, bin_sub31, bin_sub41, fltSame, c1]
    try all_goals ((repeat' split) <;> simp_all)
theorem ps_34 {p : LPart} {ks : List Int} {a1 : AV} (S : PSub D p ks a1) (n1 : ¬ (200 : Int) < ks.length) (n2 : ¬ (200 : Int) < p.names.length) (hk : p.kind = 34) (σ : Store) :
    sh_impl_partShape D (.agg (encPart p)) a1 σ = some (.bool (shapeEnd p false false false false ((decide (1 ≤ (ks.length : Int)) && isBase (kd ks 0) && alls isExpr ks 1 ks.length)) 0 0), σ) := by
  have E1 : (p.kind = 1) = False := eq_false (by omega)
  have E2 : (p.kind = 2) = False := eq_false (by omega)
  have E3 : (p.kind = 3) = False := eq_false (by omega)
  have E4 : (p.kind = 4) = False := eq_false (by omega)
  have E5 : (p.kind = 5) = False := eq_false (by omega)
  have E6 : (p.kind = 6) = False := eq_false (by omega)
  have E7 : (p.kind = 7) = False := eq_false (by omega)
  have E8 : (p.kind = 8) = False := eq_false (by omega)
  have E9 : (p.kind = 9) = False := eq_false (by omega)
  have E10 : (p.kind = 10) = False := eq_false (by omega)
  have E11 : (p.kind = 11) = False := eq_false (by omega)
  have E12 : (p.kind = 12) = False := eq_false (by omega)
  have E13 : (p.kind = 13) = False := eq_false (by omega)
  have E14 : (p.kind = 14) = False := eq_false (by omega)
  have E15 : (p.kind = 15) = False := eq_false (by omega)
  have E16 : (p.kind = 16) = False := eq_false (by omega)
  have E20 : (p.kind = 20) = False := eq_false (by omega)
  have E21 : (p.kind = 21) = False := eq_false (by omega)
  have E22 : (p.kind = 22) = False := eq_false (by omega)
  have E23 : (p.kind = 23) = False := eq_false (by omega)
  have E24 : (p.kind = 24) = False := eq_false (by omega)
  have E25 : (p.kind = 25) = False := eq_false (by omega)
  have E26 : (p.kind = 26) = False := eq_false (by omega)
  have E27 : (p.kind = 27) = False := eq_false (by omega)
  have E28 : (p.kind = 28) = False := eq_false (by omega)
  have E29 : (p.kind = 29) = False := eq_false (by omega)
  have E30 : (p.kind = 30) = False := eq_false (by omega)
  have E31 : (p.kind = 31) = False := eq_false (by omega)
  have E32 : (p.kind = 32) = False := eq_false (by omega)
  have E33 : (p.kind = 33) = False := eq_false (by omega)
  have E34 : (p.kind = 34) = True := eq_true (by omega)
  have E35 : (p.kind = 35) = False := eq_false (by omega)
  have E36 : (p.kind = 36) = False := eq_false (by omega)
  have E37 : (p.kind = 37) = False := eq_false (by omega)
  have E40 : (p.kind = 40) = False := eq_false (by omega)
  have E41 : (p.kind = 41) = False := eq_false (by omega)
  have E42 : (p.kind = 42) = False := eq_false (by omega)
  unfold sh_impl_partShape jn
  simp only [jn, cells_agg, S.cells, rd1_p, List.getElem?_cons_zero, part_rd0, part_at0, S.lenV, len_encS, part_rd8, part_at8, Option.bind_some, bin_gtr, bin_eql, aCase_bool, n1, n2, E1, E2, E3, E4, E5, E6, E7, E8, E9, E10, E11, E12, E13, E14, E15, E16, E20, E21, E22, E23, E24, E25, E26, E27, E28, E29, E30, E31, E32, E33, E34, E35, E36, E37, E40, E41, E42, decide_false, decide_true, Bool.false_eq_true, if_false, if_true]
  unfold jb_impl_partShape_6 jn
  simp only [jn, cells_agg, S.cells, rd1_p, List.getElem?_cons_zero, part_rd0, part_at0, S.lenV, len_encS, part_rd8, part_at8, Option.bind_some, bin_gtr, bin_eql, aCase_bool, n1, n2, E1, E2, E3, E4, E5, E6, E7, E8, E9, E10, E11, E12, E13, E14, E15, E16, E20, E21, E22, E23, E24, E25, E26, E27, E28, E29, E30, E31, E32, E33, E34, E35, E36, E37, E40, E41, E42, decide_false, decide_true, Bool.false_eq_true, if_false, if_true]
  unfold jb_impl_partShape_5 jn
  simp only [jn, cells_agg, S.cells, rd1_p, List.getElem?_cons_zero, part_rd0, part_at0, S.lenV, len_encS, part_rd8, part_at8, Option.bind_some, bin_gtr, bin_eql, aCase_bool, n1, n2, E1, E2, E3, E4, E5, E6, E7, E8, E9, E10, E11, E12, E13, E14, E15, E16, E20, E21, E22, E23, E24, E25, E26, E27, E28, E29, E30, E31, E32, E33, E34, E35, E36, E37, E40, E41, E42, decide_false, decide_true, Bool.false_eq_true, if_false, if_true]
  unfold jb_impl_partShape_3 jn
  simp only [jn, cells_agg, S.cells, rd1_p, List.getElem?_cons_zero, part_rd0, part_at0, S.lenV, len_encS, part_rd8, part_at8, Option.bind_some, bin_gtr, bin_eql, aCase_bool, n1, n2, E1, E2, E3, E4, E5, E6, E7, E8, E9, E10, E11, E12, E13, E14, E15, E16, E20, E21, E22, E23, E24, E25, E26, E27, E28, E29, E30, E31, E32, E33, E34, E35, E36, E37, E40, E41, E42, decide_false, decide_true, Bool.false_eq_true, if_false, if_true]
  unfold jb_impl_partShape_2 jn
  simp only [jn, cells_agg, S.cells, rd1_p, List.getElem?_cons_zero, part_rd0, part_at0, S.lenV, len_encS, part_rd8, part_at8, Option.bind_some, bin_gtr, bin_eql, aCase_bool, n1, n2, E1, E2, E3, E4, E5, E6, E7, E8, E9, E10, E11, E12, E13, E14, E15, E16, E20, E21, E22, E23, E24, E25, E26, E27, E28, E29, E30, E31, E32, E33, E34, E35, E36, E37, E40, E41, E42, decide_false, decide_true, Bool.false_eq_true, if_false, if_true]
  unfold jb_impl_partShape_1 jn
  simp only [jn, cells_agg, S.cells, rd1_p, List.getElem?_cons_zero, part_rd0, part_at0, S.lenV, len_encS, part_rd8, part_at8, Option.bind_some, bin_gtr, bin_eql, aCase_bool, n1, n2, E1, E2, E3, E4, E5, E6, E7, E8, E9, E10, E11, E12, E13, E14, E15, E16, E20, E21, E22, E23, E24, E25, E26, E27, E28, E29, E30, E31, E32, E33, E34, E35, E36, E37, E40, E41, E42, decide_false, decide_true, Bool.false_eq_true, if_false, if_true]
  by_cases c1 : (1 : Int) ≤ ks.length
  · have c2 : (0 : Int) < ks.length := by omega
    simp [S.at_ 0 (by omega) (by omega), jb_impl_partShape_4, jk_impl_partShape_1, jk_impl_partShape_2, jk_impl_partShape_3, jk_impl_partShape_4, jk_impl_partShape_5, jk_impl_partShape_6, jk_impl_partShape_7, jk_impl_partShape_8, jk_impl_partShape_9, jk_impl_partShape_10, jk_impl_partShape_11, jk_impl_partShape_12, jk_impl_partShape_13, jk_impl_partShape_14, jk_impl_partShape_15, jk_impl_partShape_16, jk_impl_partShape_17, jk_impl_partShape_18, jk_impl_partShape_19, jk_impl_partShape_20, jk_impl_partShape_21, jk_impl_partShape_22, jk_impl_partShape_23, jk_impl_partShape_24, jk_impl_partShape_25, jk_impl_partShape_26, S.all24, S.all25, S.all26, S.all28, S.is1, S.is2, S.base, S.v24, S.v27, S.at_, S.fin, bin_geq, bin_leq, bin_lss, bin_eql, lenV_str, part_rd4, part_rd5, part_rd6, part_rd7, bin_feq, bin_sub31, bin_sub41, fltSame, c1, c2]
    try all_goals ((repeat' split) <;> simp_all)
  · skip
    simp [jb_impl_partShape_4, jk_impl_partShape_1, jk_impl_partShape_2, jk_impl_partShape_3, jk_impl_partShape_4, jk_impl_partShape_5, jk_impl_partShape_6, jk_impl_partShape_7, jk_impl_partShape_8, jk_impl_partShape_9, jk_impl_partShape_10, jk_impl_partShape_11, jk_impl_partShape_12, jk_impl_partShape_13, jk_impl_partShape_14, jk_impl_partShape_15, jk_impl_partShape_16, jk_impl_partShape_17, jk_impl_partShape_18, jk_impl_partShape_19, jk_impl_partShape_20, jk_impl_partShape_21, jk_impl_partShape_22, jk_impl_partShape_23, jk_impl_partShape_24, jk_impl_partShape_25, jk_impl_partShape_26, S.all24, S.all25, S.all26, S.all28, S.is1, S.is2, S.base, S.v24, S.v27, S.at_, S.fin, bin_geq, bin_leq, bin_lss, bin_eql, lenV_str, part_rd4, part_rd5, part_rd6, part_rd7, bin_feq, bin_sub31, bin_sub41, fltSame, c1]
    try all_goals ((repeat' split) <;> simp_all)
theorem ps_35 {p : LPart} {ks : List Int} {a1 : AV} (S : PSub D p ks a1) (n1 : ¬ (200 : Int) < ks.length) (n2 : ¬ (200 : Int) < p.names.length) (hk : p.kind = 35) (σ : Store) :
    sh_impl_partShape D (.agg (encPart p)) a1 σ = some (.bool (shapeEnd p false false false false (alls isEntry ks 0 ks.length) 0 0), σ) := by
  have E1 : (p.kind = 1) = False := eq_false (by omega)
  have E2 : (p.kind = 2) = False := eq_false (by omega)
  have E3 : (p.kind = 3) = False := eq_false (by omega)
  have E4 : (p.kind = 4) = False := eq_false (by omega)
  have E5 : (p.kind = 5) = False := eq_false (by omega)
  have E6 : (p.kind = 6) = False := eq_false (by omega)
  have E7 : (p.kind = 7) = False := eq_false (by omega)
  have E8 : (p.kind = 8) = False := eq_false (by omega)
  have E9 : (p.kind = 9) = False := eq_false (by omega)
  have E10 : (p.kind = 10) = False := eq_false (by omega)
  have E11 : (p.kind = 11) = False := eq_false (by omega)
  have E12 : (p.kind = 12) = False := eq_false (by omega)
  have E13 : (p.kind = 13) = False := eq_false (by omega)
  have E14 : (p.kind = 14) = False := eq_false (by omega)
  have E15 : (p.kind = 15) = False := eq_false (by omega)
  have E16 : (p.kind = 16) = False := eq_false (by omega)
  have E20 : (p.kind = 20) = False := eq_false (by omega)
  have E21 : (p.kind = 21) = False := eq_false (by omega)
  have E22 : (p.kind = 22) = False := eq_false (by omega)
  have E23 : (p.kind = 23) = False := eq_false (by omega)
  have E24 : (p.kind = 24) = False := eq_false (by omega)
  have E25 : (p.kind = 25) = False := eq_false (by omega)
  have E26 : (p.kind = 26) = False := eq_false (by omega)
  have E27 : (p.kind = 27) = False := eq_false (by omega)
  have E28 : (p.kind = 28) = False := eq_false (by omega)
  have E29 : (p.kind = 29) = False := eq_false (by omega)
  have E30 : (p.kind = 30) = False := eq_false (by omega)
  have E31 : (p.kind = 31) = False := eq_false (by omega)
  have E32 : (p.kind = 32) = False := eq_false (by omega)
  have E33 : (p.kind = 33) = False := eq_false (by omega)
  have E34 : (p.kind = 34) = False := eq_false (by omega)
  have E35 : (p.kind = 35) = True := eq_true (by omega)
  have E36 : (p.kind = 36) = False := eq_false (by omega)
  have E37 : (p.kind = 37) = False := eq_false (by omega)
  have E40 : (p.kind = 40) = False := eq_false (by omega)
  have E41 : (p.kind = 41) = False := eq_false (by omega)
  have E42 : (p.kind = 42) = False := eq_false (by omega)
  unfold sh_impl_partShape jn
  simp only [jn, cells_agg, S.cells, rd1_p, List.getElem?_cons_zero, part_rd0, part_at0, S.lenV, len_encS, part_rd8, part_at8, Option.bind_some, bin_gtr, bin_eql, aCase_bool, n1, n2, E1, E2, E3, E4, E5, E6, E7, E8, E9, E10, E11, E12, E13, E14, E15, E16, E20, E21, E22, E23, E24, E25, E26, E27, E28, E29, E30, E31, E32, E33, E34, E35, E36, E37, E40, E41, E42, decide_false, decide_true, Bool.false_eq_true, if_false, if_true]
  unfold jb_impl_partShape_6 jn
  simp only [jn, cells_agg, S.cells, rd1_p, List.getElem?_cons_zero, part_rd0, part_at0, S.lenV, len_encS, part_rd8, part_at8, Option.bind_some, bin_gtr, bin_eql, aCase_bool, n1, n2, E1, E2, E3, E4, E5, E6, E7, E8, E9, E10, E11, E12, E13, E14, E15, E16, E20, E21, E22, E23, E24, E25, E26, E27, E28, E29, E30, E31, E32, E33, E34, E35, E36, E37, E40, E41, E42, decide_false, decide_true, Bool.false_eq_true, if_false, if_true]
  unfold jb_impl_partShape_5 jn
  simp only [jn, cells_agg, S.cells, rd1_p, List.getElem?_cons_zero, part_rd0, part_at0, S.lenV, len_encS, part_rd8, part_at8, Option.bind_some, bin_gtr, bin_eql, aCase_bool, n1, n2, E1, E2, E3, E4, E5, E6, E7, E8, E9, E10, E11, E12, E13, E14, E15, E16, E20, E21, E22, E23, E24, E25, E26, E27, E28, E29, E30, E31, E32, E33, E34, E35, E36, E37, E40, E41, E42, decide_false, decide_true, Bool.false_eq_true, if_false, if_true]
  unfold jb_impl_partShape_3 jn
  simp only [jn, cells_agg, S.cells, rd1_p, List.getElem?_cons_zero, part_rd0, part_at0, S.lenV, len_encS, part_rd8, part_at8, Option.bind_some, bin_gtr, bin_eql, aCase_bool, n1, n2, E1, E2, E3, E4, E5, E6, E7, E8, E9, E10, E11, E12, E13, E14, E15, E16, E20, E21, E22, E23, E24, E25, E26, E27, E28, E29, E30, E31, E32, E33, E34, E35, E36, E37, E40, E41, E42, decide_false, decide_true, Bool.false_eq_true, if_false, if_true]
  unfold jb_impl_partShape_2 jn
  simp only [jn, cells_agg, S.cells, rd1_p, List.getElem?_cons_zero, part_rd0, part_at0, S.lenV, len_encS, part_rd8, part_at8, Option.bind_some, bin_gtr, bin_eql, aCase_bool, n1, n2, E1, E2, E3, E4, E5, E6, E7, E8, E9, E10, E11, E12, E13, E14, E15, E16, E20, E21, E22, E23, E24, E25, E26, E27, E28, E29, E30, E31, E32, E33, E34, E35, E36, E37, E40, E41, E42, decide_false, decide_true, Bool.false_eq_true, if_false, if_true]
  unfold jb_impl_partShape_1 jn
  simp only [jn, cells_agg, S.cells, rd1_p, List.getElem?_cons_zero, part_rd0, part_at0, S.lenV, len_encS, part_rd8, part_at8, Option.bind_some, bin_gtr, bin_eql, aCase_bool, n1, n2, E1, E2, E3, E4, E5, E6, E7, E8, E9, E10, E11, E12, E13, E14, E15, E16, E20, E21, E22, E23, E24, E25, E26, E27, E28, E29, E30, E31, E32, E33, E34, E35, E36, E37, E40, E41, E42, decide_false, decide_true, Bool.false_eq_true, if_false, if_true]
  simp [jb_impl_partShape_4, jk_impl_partShape_1, jk_impl_partShape_2, jk_impl_partShape_3, jk_impl_partShape_4, jk_impl_partShape_5, jk_impl_partShape_6, jk_impl_partShape_7, jk_impl_partShape_8, jk_impl_partShape_9, jk_impl_partShape_10, jk_impl_partShape_11, jk_impl_partShape_12, jk_impl_partShape_13, jk_impl_partShape_14, jk_impl_partShape_15, jk_impl_partShape_16, jk_impl_partShape_17, jk_impl_partShape_18, jk_impl_partShape_19, jk_impl_partShape_20, jk_impl_partShape_21, jk_impl_partShape_22, jk_impl_partShape_23, jk_impl_partShape_24, jk_impl_partShape_25, jk_impl_partShape_26, S.all24, S.all25, S.all26, S.all28, S.is1, S.is2, S.base, S.v24, S.v27, S.at_, S.fin, bin_geq, bin_leq, bin_lss, bin_eql, lenV_str, part_rd4, part_rd5, part_rd6, part_rd7, bin_feq, bin_sub31, bin_sub41, fltSame]
  try all_goals ((repeat' split) <;> simp_all)
theorem ps_36 {p : LPart} {ks : List Int} {a1 : AV} (S : PSub D p ks a1) (n1 : ¬ (200 : Int) < ks.length) (n2 : ¬ (200 : Int) < p.names.length) (hk : p.kind = 36) (σ : Store) :
    sh_impl_partShape D (.agg (encPart p)) a1 σ = some (.bool (shapeEnd p false false false true ((decide ((ks.length : Int) = 1) && decide (kd ks 0 = 1) && (decide (p.op = 0) || decide (p.op = 1)))) 0 9223372036854775807), σ) := by
  have E1 : (p.kind = 1) = False := eq_false (by omega)
  have E2 : (p.kind = 2) = False := eq_false (by omega)
  have E3 : (p.kind = 3) = False := eq_false (by omega)
  have E4 : (p.kind = 4) = False := eq_false (by omega)
  have E5 : (p.kind = 5) = False := eq_false (by omega)
  have E6 : (p.kind = 6) = False := eq_false (by omega)
  have E7 : (p.kind = 7) = False := eq_false (by omega)
  have E8 : (p.kind = 8) = False := eq_false (by omega)
  have E9 : (p.kind = 9) = False := eq_false (by omega)
  have E10 : (p.kind = 10) = False := eq_false (by omega)
  have E11 : (p.kind = 11) = False := eq_false (by omega)
  have E12 : (p.kind = 12) = False := eq_false (by omega)
  have E13 : (p.kind = 13) = False := eq_false (by omega)
  have E14 : (p.kind = 14) = False := eq_false (by omega)
  have E15 : (p.kind = 15) = False := eq_false (by omega)
  have E16 : (p.kind = 16) = False := eq_false (by omega)
  have E20 : (p.kind = 20) = False := eq_false (by omega)
  have E21 : (p.kind = 21) = False := eq_false (by omega)
  have E22 : (p.kind = 22) = False := eq_false (by omega)
  have E23 : (p.kind = 23) = False := eq_false (by omega)
  have E24 : (p.kind = 24) = False := eq_false (by omega)
  have E25 : (p.kind = 25) = False := eq_false (by omega)
  have E26 : (p.kind = 26) = False := eq_false (by omega)
  have E27 : (p.kind = 27) = False := eq_false (by omega)
  have E28 : (p.kind = 28) = False := eq_false (by omega)
  have E29 : (p.kind = 29) = False := eq_false (by omega)
  have E30 : (p.kind = 30) = False := eq_false (by omega)
  have E31 : (p.kind = 31) = False := eq_false (by omega)
  have E32 : (p.kind = 32) = False := eq_false (by omega)
  have E33 : (p.kind = 33) = False := eq_false (by omega)
  have E34 : (p.kind = 34) = False := eq_false (by omega)
  have E35 : (p.kind = 35) = False := eq_false (by omega)
  have E36 : (p.kind = 36) = True := eq_true (by omega)
  have E37 : (p.kind = 37) = False := eq_false (by omega)
  have E40 : (p.kind = 40) = False := eq_false (by omega)
  have E41 : (p.kind = 41) = False := eq_false (by omega)
  have E42 : (p.kind = 42) = False := eq_false (by omega)
  unfold sh_impl_partShape jn
  simp only [jn, cells_agg, S.cells, rd1_p, List.getElem?_cons_zero, part_rd0, part_at0, S.lenV, len_encS, part_rd8, part_at8, Option.bind_some, bin_gtr, bin_eql, aCase_bool, n1, n2, E1, E2, E3, E4, E5, E6, E7, E8, E9, E10, E11, E12, E13, E14, E15, E16, E20, E21, E22, E23, E24, E25, E26, E27, E28, E29, E30, E31, E32, E33, E34, E35, E36, E37, E40, E41, E42, decide_false, decide_true, Bool.false_eq_true, if_false, if_true]
  unfold jb_impl_partShape_6 jn
  simp only [jn, cells_agg, S.cells, rd1_p, List.getElem?_cons_zero, part_rd0, part_at0, S.lenV, len_encS, part_rd8, part_at8, Option.bind_some, bin_gtr, bin_eql, aCase_bool, n1, n2, E1, E2, E3, E4, E5, E6, E7, E8, E9, E10, E11, E12, E13, E14, E15, E16, E20, E21, E22, E23, E24, E25, E26, E27, E28, E29, E30, E31, E32, E33, E34, E35, E36, E37, E40, E41, E42, decide_false, decide_true, Bool.false_eq_true, if_false, if_true]
  unfold jb_impl_partShape_5 jn
  simp only [jn, cells_agg, S.cells, rd1_p, List.getElem?_cons_zero, part_rd0, part_at0, S.lenV, len_encS, part_rd8, part_at8, Option.bind_some, bin_gtr, bin_eql, aCase_bool, n1, n2, E1, E2, E3, E4, E5, E6, E7, E8, E9, E10, E11, E12, E13, E14, E15, E16, E20, E21, E22, E23, E24, E25, E26, E27, E28, E29, E30, E31, E32, E33, E34, E35, E36, E37, E40, E41, E42, decide_false, decide_true, Bool.false_eq_true, if_false, if_true]
  unfold jb_impl_partShape_3 jn
  simp only [jn, cells_agg, S.cells, rd1_p, List.getElem?_cons_zero, part_rd0, part_at0, S.lenV, len_encS, part_rd8, part_at8, Option.bind_some, bin_gtr, bin_eql, aCase_bool, n1, n2, E1, E2, E3, E4, E5, E6, E7, E8, E9, E10, E11, E12, E13, E14, E15, E16, E20, E21, E22, E23, E24, E25, E26, E27, E28, E29, E30, E31, E32, E33, E34, E35, E36, E37, E40, E41, E42, decide_false, decide_true, Bool.false_eq_true, if_false, if_true]
  unfold jb_impl_partShape_2 jn
  simp only [jn, cells_agg, S.cells, rd1_p, List.getElem?_cons_zero, part_rd0, part_at0, S.lenV, len_encS, part_rd8, part_at8, Option.bind_some, bin_gtr, bin_eql, aCase_bool, n1, n2, E1, E2, E3, E4, E5, E6, E7, E8, E9, E10, E11, E12, E13, E14, E15, E16, E20, E21, E22, E23, E24, E25, E26, E27, E28, E29, E30, E31, E32, E33, E34, E35, E36, E37, E40, E41, E42, decide_false, decide_true, Bool.false_eq_true, if_false, if_true]
  unfold jb_impl_partShape_1 jn
  simp only [jn, cells_agg, S.cells, rd1_p, List.getElem?_cons_zero, part_rd0, part_at0, S.lenV, len_encS, part_rd8, part_at8, Option.bind_some, bin_gtr, bin_eql, aCase_bool, n1, n2, E1, E2, E3, E4, E5, E6, E7, E8, E9, E10, E11, E12, E13, E14, E15, E16, E20, E21, E22, E23, E24, E25, E26, E27, E28, E29, E30, E31, E32, E33, E34, E35, E36, E37, E40, E41, E42, decide_false, decide_true, Bool.false_eq_true, if_false, if_true]
  by_cases c1 : (ks.length : Int) = 1
  · skip
    simp [jb_impl_partShape_4, jk_impl_partShape_1, jk_impl_partShape_2, jk_impl_partShape_3, jk_impl_partShape_4, jk_impl_partShape_5, jk_impl_partShape_6, jk_impl_partShape_7, jk_impl_partShape_8, jk_impl_partShape_9, jk_impl_partShape_10, jk_impl_partShape_11, jk_impl_partShape_12, jk_impl_partShape_13, jk_impl_partShape_14, jk_impl_partShape_15, jk_impl_partShape_16, jk_impl_partShape_17, jk_impl_partShape_18, jk_impl_partShape_19, jk_impl_partShape_20, jk_impl_partShape_21, jk_impl_partShape_22, jk_impl_partShape_23, jk_impl_partShape_24, jk_impl_partShape_25, jk_impl_partShape_26, S.all24, S.all25, S.all26, S.all28, S.is1, S.is2, S.base, S.v24, S.v27, S.at_, S.fin, bin_geq, bin_leq, bin_lss, bin_eql, lenV_str, part_rd4, part_rd5, part_rd6, part_rd7, bin_feq, bin_sub31, bin_sub41, fltSame, c1]
    try all_goals ((repeat' split) <;> simp_all)
  · skip
    simp [jb_impl_partShape_4, jk_impl_partShape_1, jk_impl_partShape_2, jk_impl_partShape_3, jk_impl_partShape_4, jk_impl_partShape_5, jk_impl_partShape_6, jk_impl_partShape_7, jk_impl_partShape_8, jk_impl_partShape_9, jk_impl_partShape_10, jk_impl_partShape_11, jk_impl_partShape_12, jk_impl_partShape_13, jk_impl_partShape_14, jk_impl_partShape_15, jk_impl_partShape_16, jk_impl_partShape_17, jk_impl_partShape_18, jk_impl_partShape_19, jk_impl_partShape_20, jk_impl_partShape_21, jk_impl_partShape_22, jk_impl_partShape_23, jk_impl_partShape_24, jk_impl_partShape_25, jk_impl_partShape_26, S.all24, S.all25, S.all26, S.all28, S.is1, S.is2, S.base, S.v24, S.v27, S.at_, S.fin, bin_geq, bin_leq, bin_lss, bin_eql, lenV_str, part_rd4, part_rd5, part_rd6, part_rd7, bin_feq, bin_sub31, bin_sub41, fltSame, c1]
    try all_goals ((repeat' split) <;> simp_all)
theorem ps_37 {p : LPart} {ks : List Int} {a1 : AV} (S : PSub D p ks a1) (n1 : ¬ (200 : Int) < ks.length) (n2 : ¬ (200 : Int) < p.names.length) (hk : p.kind = 37) (σ : Store) :
    sh_impl_partShape D (.agg (encPart p)) a1 σ = some (.bool (shapeEnd p false false false false ((decide ((ks.length : Int) = 1) && (decide (kd ks 0 = 34) || decide (kd ks 0 = 27)))) 0 0), σ) := by
  have E1 : (p.kind = 1) = False := eq_false (by omega)
  have E2 : (p.kind = 2) = False := eq_false (by omega)
  have E3 : (p.kind = 3) = False := eq_false (by omega)
  have E4 : (p.kind = 4) = False := eq_false (by omega)
  have E5 : (p.kind = 5) = False := eq_false (by omega)
  have E6 : (p.kind = 6) = False := eq_false (by omega)
  have E7 : (p.kind = 7) = False := eq_false (by omega)
  have E8 : (p.kind = 8) = False := eq_false (by omega)
  have E9 : (p.kind = 9) = False := eq_false (by omega)
  have E10 : (p.kind = 10) = False := eq_false (by omega)
  have E11 : (p.kind = 11) = False := eq_false (by omega)
  have E12 : (p.kind = 12) = False := eq_false (by omega)
  have E13 : (p.kind = 13) = False := eq_false (by omega)
  have E14 : (p.kind = 14) = False := eq_false (by omega)
  have E15 : (p.kind = 15) = False := eq_false (by omega)
  have E16 : (p.kind = 16) = False := eq_false (by omega)
  have E20 : (p.kind = 20) = False := eq_false (by omega)
  have E21 : (p.kind = 21) = False := eq_false (by omega)
  have E22 : (p.kind = 22) = False := eq_false (by omega)
  have E23 : (p.kind = 23) = False := eq_false (by omega)
  have E24 : (p.kind = 24) = False := eq_false (by omega)
  have E25 : (p.kind = 25) = False := eq_false (by omega)
  have E26 : (p.kind = 26) = False := eq_false (by omega)
  have E27 : (p.kind = 27) = False := eq_false (by omega)
  have E28 : (p.kind = 28) = False := eq_false (by omega)
  have E29 : (p.kind = 29) = False := eq_false (by omega)
  have E30 : (p.kind = 30) = False := eq_false (by omega)
  have E31 : (p.kind = 31) = False := eq_false (by omega)
  have E32 : (p.kind = 32) = False := eq_false (by omega)
  have E33 : (p.kind = 33) = False := eq_false (by omega)
  have E34 : (p.kind = 34) = False := eq_false (by omega)
  have E35 : (p.kind = 35) = False := eq_false (by omega)
  have E36 : (p.kind = 36) = False := eq_false (by omega)
  have E37 : (p.kind = 37) = True := eq_true (by omega)
  have E40 : (p.kind = 40) = False := eq_false (by omega)
  have E41 : (p.kind = 41) = False := eq_false (by omega)
  have E42 : (p.kind = 42) = False := eq_false (by omega)
  unfold sh_impl_partShape jn
  simp only [jn, cells_agg, S.cells, rd1_p, List.getElem?_cons_zero, part_rd0, part_at0, S.lenV, len_encS, part_rd8, part_at8, Option.bind_some, bin_gtr, bin_eql, aCase_bool, n1, n2, E1, E2, E3, E4, E5, E6, E7, E8, E9, E10, E11, E12, E13, E14, E15, E16, E20, E21, E22, E23, E24, E25, E26, E27, E28, E29, E30, E31, E32, E33, E34, E35, E36, E37, E40, E41, E42, decide_false, decide_true, Bool.false_eq_true, if_false, if_true]
  unfold jb_impl_partShape_6 jn
  simp only [jn, cells_agg, S.cells, rd1_p, List.getElem?_cons_zero, part_rd0, part_at0, S.lenV, len_encS, part_rd8, part_at8, Option.bind_some, bin_gtr, bin_eql, aCase_bool, n1, n2, E1, E2, E3, E4, E5, E6, E7, E8, E9, E10, E11, E12, E13, E14, E15, E16, E20, E21, E22, E23, E24, E25, E26, E27, E28, E29, E30, E31, E32, E33, E34, E35, E36, E37, E40, E41, E42, decide_false, decide_true, Bool.false_eq_true, if_false, if_true]
  unfold jb_impl_partShape_5 jn
  simp only [jn, cells_agg, S.cells, rd1_p, List.getElem?_cons_zero, part_rd0, part_at0, S.lenV, len_encS, part_rd8, part_at8, Option.bind_some, bin_gtr, bin_eql, aCase_bool, n1, n2, E1, E2, E3, E4, E5, E6, E7, E8, E9, E10, E11, E12, E13, E14, E15, E16, E20, E21, E22, E23, E24, E25, E26, E27, E28, E29, E30, E31, E32, E33, E34, E35, E36, E37, E40, E41, E42, decide_false, decide_true, Bool.false_eq_true, if_false, if_true]
  unfold jb_impl_partShape_3 jn
  simp only [jn, cells_agg, S.cells, rd1_p, List.getElem?_cons_zero, part_rd0, part_at0, S.lenV, len_encS, part_rd8, part_at8, Option.bind_some, bin_gtr, bin_eql, aCase_bool, n1, n2, E1, E2, E3, E4, E5, E6, E7, E8, E9, E10, E11, E12, E13, E14, E15, E16, E20, E21, E22, E23, E24, E25, E26, E27, E28, E29, E30, E31, E32, E33, E34, E35, E36, E37, E40, E41, E42, decide_false, decide_true, Bool.false_eq_true, if_false, if_true]
  unfold jb_impl_partShape_2 jn
  simp only [jn, cells_agg, S.cells, rd1_p, List.getElem?_cons_zero, part_rd0, part_at0, S.lenV, len_encS, part_rd8, part_at8, Option.bind_some, bin_gtr, bin_eql, aCase_bool, n1, n2, E1, E2, E3, E4, E5, E6, E7, E8, E9, E10, E11, E12, E13, E14, E15, E16, E20, E21, E22, E23, E24, E25, E26, E27, E28, E29, E30, E31, E32, E33, E34, E35, E36, E37, E40, E41, E42, decide_false, decide_true, Bool.false_eq_true, if_false, if_true]
  unfold jb_impl_partShape_1 jn
  simp only [jn, cells_agg, S.cells, rd1_p, List.getElem?_cons_zero, part_rd0, part_at0, S.lenV, len_encS, part_rd8, part_at8, Option.bind_some, bin_gtr, bin_eql, aCase_bool, n1, n2, E1, E2, E3, E4, E5, E6, E7, E8, E9, E10, E11, E12, E13, E14, E15, E16, E20, E21, E22, E23, E24, E25, E26, E27, E28, E29, E30, E31, E32, E33, E34, E35, E36, E37, E40, E41, E42, decide_false, decide_true, Bool.false_eq_true, if_false, if_true]
  by_cases c1 : (ks.length : Int) = 1
  · skip
    simp [jb_impl_partShape_4, jk_impl_partShape_1, jk_impl_partShape_2, jk_impl_partShape_3, jk_impl_partShape_4, jk_impl_partShape_5, jk_impl_partShape_6, jk_impl_partShape_7, jk_impl_partShape_8, jk_impl_partShape_9, jk_impl_partShape_10, jk_impl_partShape_11, jk_impl_partShape_12, jk_impl_partShape_13, jk_impl_partShape_14, jk_impl_partShape_15, jk_impl_partShape_16, jk_impl_partShape_17, jk_impl_partShape_18, jk_impl_partShape_19, jk_impl_partShape_20, jk_impl_partShape_21, jk_impl_partShape_22, jk_impl_partShape_23, jk_impl_partShape_24, jk_impl_partShape_25, jk_impl_partShape_26, S.all24, S.all25, S.all26, S.all28, S.is1, S.is2, S.base, S.v24, S.v27, S.at_, S.fin, bin_geq, bin_leq, bin_lss, bin_eql, lenV_str, part_rd4, part_rd5, part_rd6, part_rd7, bin_feq, bin_sub31, bin_sub41, fltSame, c1]
    try all_goals ((repeat' split) <;> simp_all)
  · skip
    simp [jb_impl_partShape_4, jk_impl_partShape_1, jk_impl_partShape_2, jk_impl_partShape_3, jk_impl_partShape_4, jk_impl_partShape_5, jk_impl_partShape_6, jk_impl_partShape_7, jk_impl_partShape_8, jk_impl_partShape_9, jk_impl_partShape_10, jk_impl_partShape_11, jk_impl_partShape_12, jk_impl_partShape_13, jk_impl_partShape_14, jk_impl_partShape_15, jk_impl_partShape_16, jk_impl_partShape_17, jk_impl_partShape_18, jk_impl_partShape_19, jk_impl_partShape_20, jk_impl_partShape_21, jk_impl_partShape_22, jk_impl_partShape_23, jk_impl_partShape_24, jk_impl_partShape_25, jk_impl_partShape_26, S.all24, S.all25, S.all26, S.all28, S.is1, S.is2, S.base, S.v24, S.v27, S.at_, S.fin, bin_geq, bin_leq, bin_lss, bin_eql, lenV_str, part_rd4, part_rd5, part_rd6, part_rd7, bin_feq, bin_sub31, bin_sub41, fltSame, c1]
    try all_goals ((repeat' split) <;> simp_all)
theorem ps_40 {p : LPart} {ks : List Int} {a1 : AV} (S : PSub D p ks a1) (n1 : ¬ (200 : Int) < ks.length) (n2 : ¬ (200 : Int) < p.names.length) (hk : p.kind = 40) (σ : Store) :
    sh_impl_partShape D (.agg (encPart p)) a1 σ = some (.bool (shapeEnd p false false false false ((decide ((ks.length : Int) = 1) && isExpr (kd ks 0))) 0 0), σ) := by
  have E1 : (p.kind = 1) = False := eq_false (by omega)
  have E2 : (p.kind = 2) = False := eq_false (by omega)
  have E3 : (p.kind = 3) = False := eq_false (by omega)
  have E4 : (p.kind = 4) = False := eq_false (by omega)
  have E5 : (p.kind = 5) = False := eq_false (by omega)
  have E6 : (p.kind = 6) = False := eq_false (by omega)
  have E7 : (p.kind = 7) = False := eq_false (by omega)
  have E8 : (p.kind = 8) = False := eq_false (by omega)
  have E9 : (p.kind = 9) = False := eq_false (by omega)
  have E10 : (p.kind = 10) = False := eq_false (by omega)
  have E11 : (p.kind = 11) = False := eq_false (by omega)
  have E12 : (p.kind = 12) = False := eq_false (by omega)
  have E13 : (p.kind = 13) = False := eq_false (by omega)
  have E14 : (p.kind = 14) = False := eq_false (by omega)
  have E15 : (p.kind = 15) = False := eq_false (by omega)
  have E16 : (p.kind = 16) = False := eq_false (by omega)
  have E20 : (p.kind = 20) = False := eq_false (by omega)
  have E21 : (p.kind = 21) = False := eq_false (by omega)
  have E22 : (p.kind = 22) = False := eq_false (by omega)
  have E23 : (p.kind = 23) = False := eq_false (by omega)
  have E24 : (p.kind = 24) = False := eq_false (by omega)
  have E25 : (p.kind = 25) = False := eq_false (by omega)
  have E26 : (p.kind = 26) = False := eq_false (by omega)
  have E27 : (p.kind = 27) = False := eq_false (by omega)
  have E28 : (p.kind = 28) = False := eq_false (by omega)
  have E29 : (p.kind = 29) = False := eq_false (by omega)
  have E30 : (p.kind = 30) = False := eq_false (by omega)
  have E31 : (p.kind = 31) = False := eq_false (by omega)
  have E32 : (p.kind = 32) = False := eq_false (by omega)
  have E33 : (p.kind = 33) = False := eq_false (by omega)
  have E34 : (p.kind = 34) = False := eq_false (by omega)
  have E35 : (p.kind = 35) = False := eq_false (by omega)
  have E36 : (p.kind = 36) = False := eq_false (by omega)
  have E37 : (p.kind = 37) = False := eq_false (by omega)
  have E40 : (p.kind = 40) = True := eq_true (by omega)
  have E41 : (p.kind = 41) = False := eq_false (by omega)
  have E42 : (p.kind = 42) = False := eq_false (by omega)
  unfold sh_impl_partShape jn
  simp only [jn, cells_agg, S.cells, rd1_p, List.getElem?_cons_zero, part_rd0, part_at0, S.lenV, len_encS, part_rd8, part_at8, Option.bind_some, bin_gtr, bin_eql, aCase_bool, n1, n2, E1, E2, E3, E4, E5, E6, E7, E8, E9, E10, E11, E12, E13, E14, E15, E16, E20, E21, E22, E23, E24, E25, E26, E27, E28, E29, E30, E31, E32, E33, E34, E35, E36, E37, E40, E41, E42, decide_false, decide_true, Bool.false_eq_true, if_false, if_true]
  unfold jb_impl_partShape_6 jn
  simp only [jn, cells_agg, S.cells, rd1_p, List.getElem?_cons_zero, part_rd0, part_at0, S.lenV, len_encS, part_rd8, part_at8, Option.bind_some, bin_gtr, bin_eql, aCase_bool, n1, n2, E1, E2, E3, E4, E5, E6, E7, E8, E9, E10, E11, E12, E13, E14, E15, E16, E20, E21, E22, E23, E24, E25, E26, E27, E28, E29, E30, E31, E32, E33, E34, E35, E36, E37, E40, E41, E42, decide_false, decide_true, Bool.false_eq_true, if_false, if_true]
  unfold jb_impl_partShape_5 jn
  simp only [jn, cells_agg, S.cells, rd1_p, List.getElem?_cons_zero, part_rd0, part_at0, S.lenV, len_encS, part_rd8, part_at8, Option.bind_some, bin_gtr, bin_eql, aCase_bool, n1, n2, E1, E2, E3, E4, E5, E6, E7, E8, E9, E10, E11, E12, E13, E14, E15, E16, E20, E21, E22, E23, E24, E25, E26, E27, E28, E29, E30, E31, E32, E33, E34, E35, E36, E37, E40, E41, E42, decide_false, decide_true, Bool.false_eq_true, if_false, if_true]
  unfold jb_impl_partShape_3 jn
  simp only [jn, cells_agg, S.cells, rd1_p, List.getElem?_cons_zero, part_rd0, part_at0, S.lenV, len_encS, part_rd8, part_at8, Option.bind_some, bin_gtr, bin_eql, aCase_bool, n1, n2, E1, E2, E3, E4, E5, E6, E7, E8, E9, E10, E11, E12, E13, E14, E15, E16, E20, E21, E22, E23, E24, E25, E26, E27, E28, E29, E30, E31, E32, E33, E34, E35, E36, E37, E40, E41, E42, decide_false, decide_true, Bool.false_eq_true, if_false, if_true]
  unfold jb_impl_partShape_2 jn
  simp only [jn, cells_agg, S.cells, rd1_p, List.getElem?_cons_zero, part_rd0, part_at0, S.lenV, len_encS, part_rd8, part_at8, Option.bind_some, bin_gtr, bin_eql, aCase_bool, n1, n2, E1, E2, E3, E4, E5, E6, E7, E8, E9, E10, E11, E12, E13, E14, E15, E16, E20, E21, E22, E23, E24, E25, E26, E27, E28, E29, E30, E31, E32, E33, E34, E35, E36, E37, E40, E41, E42, decide_false, decide_true, Bool.false_eq_true, if_false, if_true]
  unfold jb_impl_partShape_1 jn
  simp only [jn, cells_agg, S.cells, rd1_p, List.getElem?_cons_zero, part_rd0, part_at0, S.lenV, len_encS, part_rd8, part_at8, Option.bind_some, bin_gtr, bin_eql, aCase_bool, n1, n2, E1, E2, E3, E4, E5, E6, E7, E8, E9, E10, E11, E12, E13, E14, E15, E16, E20, E21, E22, E23, E24, E25, E26, E27, E28, E29, E30, E31, E32, E33, E34, E35, E36, E37, E40, E41, E42, decide_false, decide_true, Bool.false_eq_true, if_false, if_true]
  by_cases c1 : (ks.length : Int) = 1
  · skip
    simp [jb_impl_partShape_4, jk_impl_partShape_1, jk_impl_partShape_2, jk_impl_partShape_3, jk_impl_partShape_4, jk_impl_partShape_5, jk_impl_partShape_6, jk_impl_partShape_7, jk_impl_partShape_8, jk_impl_partShape_9, jk_impl_partShape_10, jk_impl_partShape_11, jk_impl_partShape_12, jk_impl_partShape_13, jk_impl_partShape_14, jk_impl_partShape_15, jk_impl_partShape_16, jk_impl_partShape_17, jk_impl_partShape_18, jk_impl_partShape_19, jk_impl_partShape_20, jk_impl_partShape_21, jk_impl_partShape_22, jk_impl_partShape_23, jk_impl_partShape_24, jk_impl_partShape_25, jk_impl_partShape_26, S.all24, S.all25, S.all26, S.all28, S.is1, S.is2, S.base, S.v24, S.v27, S.at_, S.fin, bin_geq, bin_leq, bin_lss, bin_eql, lenV_str, part_rd4, part_rd5, part_rd6, part_rd7, bin_feq, bin_sub31, bin_sub41, fltSame, c1]
    try all_goals ((repeat' split) <;> simp_all)
  · skip
    simp [jb_impl_partShape_4, jk_impl_partShape_1, jk_impl_partShape_2, jk_impl_partShape_3, jk_impl_partShape_4, jk_impl_partShape_5, jk_impl_partShape_6, jk_impl_partShape_7, jk_impl_partShape_8, jk_impl_partShape_9, jk_impl_partShape_10, jk_impl_partShape_11, jk_impl_partShape_12, jk_impl_partShape_13, jk_impl_partShape_14, jk_impl_partShape_15, jk_impl_partShape_16, jk_impl_partShape_17, jk_impl_partShape_18, jk_impl_partShape_19, jk_impl_partShape_20, jk_impl_partShape_21, jk_impl_partShape_22, jk_impl_partShape_23, jk_impl_partShape_24, jk_impl_partShape_25, jk_impl_partShape_26, S.all24, S.all25, S.all26, S.all28, S.is1, S.is2, S.base, S.v24, S.v27, S.at_, S.fin, bin_geq, bin_leq, bin_lss, bin_eql, lenV_str, part_rd4, part_rd5, part_rd6, part_rd7, bin_feq, bin_sub31, bin_sub41, fltSame, c1]
    try all_goals ((repeat' split) <;> simp_all)
theorem ps_41 {p : LPart} {ks : List Int} {a1 : AV} (S : PSub D p ks a1) (n1 : ¬ (200 : Int) < ks.length) (n2 : ¬ (200 : Int) < p.names.length) (hk : p.kind = 41) (σ : Store) :
    sh_impl_partShape D (.agg (encPart p)) a1 σ = some (.bool (shapeEnd p false false false false ((decide ((ks.length : Int) = 2) && alls isExpr ks 0 2)) 0 0), σ) := by
  have E1 : (p.kind = 1) = False := eq_false (by omega)
  have E2 : (p.kind = 2) = False := eq_false (by omega)
  have E3 : (p.kind = 3) = False := eq_false (by omega)
  have E4 : (p.kind = 4) = False := eq_false (by omega)
  have E5 : (p.kind = 5) = False := eq_false (by omega)
  have E6 : (p.kind = 6) = False := eq_false (by omega)
  have E7 : (p.kind = 7) = False := eq_false (by omega)
  have E8 : (p.kind = 8) = False := eq_false (by omega)
  have E9 : (p.kind = 9) = False := eq_false (by omega)
  have E10 : (p.kind = 10) = False := eq_false (by omega)
  have E11 : (p.kind = 11) = False := eq_false (by omega)
  have E12 : (p.kind = 12) = False := eq_false (by omega)
  have E13 : (p.kind = 13) = False := eq_false (by omega)
  have E14 : (p.kind = 14) = False := eq_false (by omega)
  have E15 : (p.kind = 15) = False := eq_false (by omega)
  have E16 : (p.kind = 16) = False := eq_false (by omega)
  have E20 : (p.kind = 20) = False := eq_false (by omega)
  have E21 : (p.kind = 21) = False := eq_false (by omega)
  have E22 : (p.kind = 22) = False := eq_false (by omega)
  have E23 : (p.kind = 23) = False := eq_false (by omega)
  have E24 : (p.kind = 24) = False := eq_false (by omega)
  have E25 : (p.kind = 25) = False := eq_false (by omega)
  have E26 : (p.kind = 26) = False := eq_false (by omega)
  have E27 : (p.kind = 27) = False := eq_false (by omega)
  have E28 : (p.kind = 28) = False := eq_false (by omega)
  have E29 : (p.kind = 29) = False := eq_false (by omega)
  have E30 : (p.kind = 30) = False := eq_false (by omega)
  have E31 : (p.kind = 31) = False := eq_false (by omega)
  have E32 : (p.kind = 32) = False := eq_false (by omega)
  have E33 : (p.kind = 33) = False := eq_false (by omega)
  have E34 : (p.kind = 34) = False := eq_false (by omega)
  have E35 : (p.kind = 35) = False := eq_false (by omega)
  have E36 : (p.kind = 36) = False := eq_false (by omega)
  have E37 : (p.kind = 37) = False := eq_false (by omega)
  have E40 : (p.kind = 40) = False := eq_false (by omega)
  have E41 : (p.kind = 41) = True := eq_true (by omega)
  have E42 : (p.kind = 42) = False := eq_false (by omega)
  unfold sh_impl_partShape jn
  simp only [jn, cells_agg, S.cells, rd1_p, List.getElem?_cons_zero, part_rd0, part_at0, S.lenV, len_encS, part_rd8, part_at8, Option.bind_some, bin_gtr, bin_eql, aCase_bool, n1, n2, E1, E2, E3, E4, E5, E6, E7, E8, E9, E10, E11, E12, E13, E14, E15, E16, E20, E21, E22, E23, E24, E25, E26, E27, E28, E29, E30, E31, E32, E33, E34, E35, E36, E37, E40, E41, E42, decide_false, decide_true, Bool.false_eq_true, if_false, if_true]
  unfold jb_impl_partShape_6 jn
  simp only [jn, cells_agg, S.cells, rd1_p, List.getElem?_cons_zero, part_rd0, part_at0, S.lenV, len_encS, part_rd8, part_at8, Option.bind_some, bin_gtr, bin_eql, aCase_bool, n1, n2, E1, E2, E3, E4, E5, E6, E7, E8, E9, E10, E11, E12, E13, E14, E15, E16, E20, E21, E22, E23, E24, E25, E26, E27, E28, E29, E30, E31, E32, E33, E34, E35, E36, E37, E40, E41, E42, decide_false, decide_true, Bool.false_eq_true, if_false, if_true]
  unfold jb_impl_partShape_5 jn
  simp only [jn, cells_agg, S.cells, rd1_p, List.getElem?_cons_zero, part_rd0, part_at0, S.lenV, len_encS, part_rd8, part_at8, Option.bind_some, bin_gtr, bin_eql, aCase_bool, n1, n2, E1, E2, E3, E4, E5, E6, E7, E8, E9, E10, E11, E12, E13, E14, E15, E16, E20, E21, E22, E23, E24, E25, E26, E27, E28, E29, E30, E31, E32, E33, E34, E35, E36, E37, E40, E41, E42, decide_false, decide_true, Bool.false_eq_true, if_false, if_true]
  unfold jb_impl_partShape_3 jn
  simp only [jn, cells_agg, S.cells, rd1_p, List.getElem?_cons_zero, part_rd0, part_at0, S.lenV, len_encS, part_rd8, part_at8, Option.bind_some, bin_gtr, bin_eql, aCase_bool, n1, n2, E1, E2, E3, E4, E5, E6, E7, E8, E9, E10, E11, E12, E13, E14, E15, E16, E20, E21, E22, E23, E24, E25, E26, E27, E28, E29, E30, E31, E32, E33, E34, E35, E36, E37, E40, E41, E42, decide_false, decide_true, Bool.false_eq_true, if_false, if_true]
  unfold jb_impl_partShape_2 jn
  simp only [jn, cells_agg, S.cells, rd1_p, List.getElem?_cons_zero, part_rd0, part_at0, S.lenV, len_encS, part_rd8, part_at8, Option.bind_some, bin_gtr, bin_eql, aCase_bool, n1, n2, E1, E2, E3, E4, E5, E6, E7, E8, E9, E10, E11, E12, E13, E14, E15, E16, E20, E21, E22, E23, E24, E25, E26, E27, E28, E29, E30, E31, E32, E33, E34, E35, E36, E37, E40, E41, E42, decide_false, decide_true, Bool.false_eq_true, if_false, if_true]
  unfold jb_impl_partShape_1 jn
  simp only [jn, cells_agg, S.cells, rd1_p, List.getElem?_cons_zero, part_rd0, part_at0, S.lenV, len_encS, part_rd8, part_at8, Option.bind_some, bin_gtr, bin_eql, aCase_bool, n1, n2, E1, E2, E3, E4, E5, E6, E7, E8, E9, E10, E11, E12, E13, E14, E15, E16, E20, E21, E22, E23, E24, E25, E26, E27, E28, E29, E30, E31, E32, E33, E34, E35, E36, E37, E40, E41, E42, decide_false, decide_true, Bool.false_eq_true, if_false, if_true]
  by_cases c2 : (ks.length : Int) = 2
  · skip
    simp [jb_impl_partShape_4, jk_impl_partShape_1, jk_impl_partShape_2, jk_impl_partShape_3, jk_impl_partShape_4, jk_impl_partShape_5, jk_impl_partShape_6, jk_impl_partShape_7, jk_impl_partShape_8, jk_impl_partShape_9, jk_impl_partShape_10, jk_impl_partShape_11, jk_impl_partShape_12, jk_impl_partShape_13, jk_impl_partShape_14, jk_impl_partShape_15, jk_impl_partShape_16, jk_impl_partShape_17, jk_impl_partShape_18, jk_impl_partShape_19, jk_impl_partShape_20, jk_impl_partShape_21, jk_impl_partShape_22, jk_impl_partShape_23, jk_impl_partShape_24, jk_impl_partShape_25, jk_impl_partShape_26, S.all24, S.all25, S.all26, S.all28, S.is1, S.is2, S.base, S.v24, S.v27, S.at_, S.fin, bin_geq, bin_leq, bin_lss, bin_eql, lenV_str, part_rd4, part_rd5, part_rd6, part_rd7, bin_feq, bin_sub31, bin_sub41, fltSame, c2]
    try all_goals ((repeat' split) <;> simp_all)
  · skip
    simp [jb_impl_partShape_4, jk_impl_partShape_1, jk_impl_partShape_2, jk_impl_partShape_3, jk_impl_partShape_4, jk_impl_partShape_5, jk_impl_partShape_6, jk_impl_partShape_7, jk_impl_partShape_8, jk_impl_partShape_9, jk_impl_partShape_10, jk_impl_partShape_11, jk_impl_partShape_12, jk_impl_partShape_13, jk_impl_partShape_14, jk_impl_partShape_15, jk_impl_partShape_16, jk_impl_partShape_17, jk_impl_partShape_18, jk_impl_partShape_19, jk_impl_partShape_20, jk_impl_partShape_21, jk_impl_partShape_22, jk_impl_partShape_23, jk_impl_partShape_24, jk_impl_partShape_25, jk_impl_partShape_26, S.all24, S.all25, S.all26, S.all28, S.is1, S.is2, S.base, S.v24, S.v27, S.at_, S.fin, bin_geq, bin_leq, bin_lss, bin_eql, lenV_str, part_rd4, part_rd5, part_rd6, part_rd7, bin_feq, bin_sub31, bin_sub41, fltSame, c2]
    try all_goals ((repeat' split) <;> simp_all)
theorem ps_42 {p : LPart} {ks : List Int} {a1 : AV} (S : PSub D p ks a1) (n1 : ¬ (200 : Int) < ks.length) (n2 : ¬ (200 : Int) < p.names.length) (hk : p.kind = 42) (σ : Store) :
    sh_impl_partShape D (.agg (encPart p)) a1 σ = some (.bool (shapeEnd p false false true false ((decide ((ks.length : Int) = 1) && isExpr (kd ks 0) && nameOk p.text)) 0 0), σ) := by
  have E1 : (p.kind = 1) = False := eq_false (by omega)
  have E2 : (p.kind = 2) = False := eq_false (by omega)
  have E3 : (p.kind = 3) = False := eq_false (by omega)
  have E4 : (p.kind = 4) = False := eq_false (by omega)
  have E5 : (p.kind = 5) = False := eq_false (by omega)
  have E6 : (p.kind = 6) = False := eq_false (by omega)
  have E7 : (p.kind = 7) = False := eq_false (by omega)
  have E8 : (p.kind = 8) = False := eq_false (by omega)
  have E9 : (p.kind = 9) = False := eq_false (by omega)
  have E10 : (p.kind = 10) = False := eq_false (by omega)
  have E11 : (p.kind = 11) = False := eq_false (by omega)
  have E12 : (p.kind = 12) = False := eq_false (by omega)
  have E13 : (p.kind = 13) = False := eq_false (by omega)
  have E14 : (p.kind = 14) = False := eq_false (by omega)
  have E15 : (p.kind = 15) = False := eq_false (by omega)
  have E16 : (p.kind = 16) = False := eq_false (by omega)
  have E20 : (p.kind = 20) = False := eq_false (by omega)
  have E21 : (p.kind = 21) = False := eq_false (by omega)
  have E22 : (p.kind = 22) = False := eq_false (by omega)
  have E23 : (p.kind = 23) = False := eq_false (by omega)
  have E24 : (p.kind = 24) = False := eq_false (by omega)
  have E25 : (p.kind = 25) = False := eq_false (by omega)
  have E26 : (p.kind = 26) = False := eq_false (by omega)
  have E27 : (p.kind = 27) = False := eq_false (by omega)
  have E28 : (p.kind = 28) = False := eq_false (by omega)
  have E29 : (p.kind = 29) = False := eq_false (by omega)
  have E30 : (p.kind = 30) = False := eq_false (by omega)
  have E31 : (p.kind = 31) = False := eq_false (by omega)
  have E32 : (p.kind = 32) = False := eq_false (by omega)
  have E33 : (p.kind = 33) = False := eq_false (by omega)
  have E34 : (p.kind = 34) = False := eq_false (by omega)
  have E35 : (p.kind = 35) = False := eq_false (by omega)
  have E36 : (p.kind = 36) = False := eq_false (by omega)
  have E37 : (p.kind = 37) = False := eq_false (by omega)
  have E40 : (p.kind = 40) = False := eq_false (by omega)
  have E41 : (p.kind = 41) = False := eq_false (by omega)
  have E42 : (p.kind = 42) = True := eq_true (by omega)
  unfold sh_impl_partShape jn
  simp only [jn, cells_agg, S.cells, rd1_p, List.getElem?_cons_zero, part_rd0, part_at0, S.lenV, len_encS, part_rd8, part_at8, Option.bind_some, bin_gtr, bin_eql, aCase_bool, n1, n2, E1, E2, E3, E4, E5, E6, E7, E8, E9, E10, E11, E12, E13, E14, E15, E16, E20, E21, E22, E23, E24, E25, E26, E27, E28, E29, E30, E31, E32, E33, E34, E35, E36, E37, E40, E41, E42, decide_false, decide_true, Bool.false_eq_true, if_false, if_true]
  unfold jb_impl_partShape_6 jn
  simp only [jn, cells_agg, S.cells, rd1_p, List.getElem?_cons_zero, part_rd0, part_at0, S.lenV, len_encS, part_rd8, part_at8, Option.bind_some, bin_gtr, bin_eql, aCase_bool, n1, n2, E1, E2, E3, E4, E5, E6, E7, E8, E9, E10, E11, E12, E13, E14, E15, E16, E20, E21, E22, E23, E24, E25, E26, E27, E28, E29, E30, E31, E32, E33, E34, E35, E36, E37, E40, E41, E42, decide_false, decide_true, Bool.false_eq_true, if_false, if_true]
  unfold jb_impl_partShape_5 jn
  simp only [jn, cells_agg, S.cells, rd1_p, List.getElem?_cons_zero, part_rd0, part_at0, S.lenV, len_encS, part_rd8, part_at8, Option.bind_some, bin_gtr, bin_eql, aCase_bool, n1, n2, E1, E2, E3, E4, E5, E6, E7, E8, E9, E10, E11, E12, E13, E14, E15, E16, E20, E21, E22, E23, E24, E25, E26, E27, E28, E29, E30, E31, E32, E33, E34, E35, E36, E37, E40, E41, E42, decide_false, decide_true, Bool.false_eq_true, if_false, if_true]
  unfold jb_impl_partShape_3 jn
  simp only [jn, cells_agg, S.cells, rd1_p, List.getElem?_cons_zero, part_rd0, part_at0, S.lenV, len_encS, part_rd8, part_at8, Option.bind_some, bin_gtr, bin_eql, aCase_bool, n1, n2, E1, E2, E3, E4, E5, E6, E7, E8, E9, E10, E11, E12, E13, E14, E15, E16, E20, E21, E22, E23, E24, E25, E26, E27, E28, E29, E30, E31, E32, E33, E34, E35, E36, E37, E40, E41, E42, decide_false, decide_true, Bool.false_eq_true, if_false, if_true]
  unfold jb_impl_partShape_2 jn
  simp only [jn, cells_agg, S.cells, rd1_p, List.getElem?_cons_zero, part_rd0, part_at0, S.lenV, len_encS, part_rd8, part_at8, Option.bind_some, bin_gtr, bin_eql, aCase_bool, n1, n2, E1, E2, E3, E4, E5, E6, E7, E8, E9, E10, E11, E12, E13, E14, E15, E16, E20, E21, E22, E23, E24, E25, E26, E27, E28, E29, E30, E31, E32, E33, E34, E35, E36, E37, E40, E41, E42, decide_false, decide_true, Bool.false_eq_true, if_false, if_true]
  unfold jb_impl_partShape_1 jn
  simp only [jn, cells_agg, S.cells, rd1_p, List.getElem?_cons_zero, part_rd0, part_at0, S.lenV, len_encS, part_rd8, part_at8, Option.bind_some, bin_gtr, bin_eql, aCase_bool, n1, n2, E1, E2, E3, E4, E5, E6, E7, E8, E9, E10, E11, E12, E13, E14, E15, E16, E20, E21, E22, E23, E24, E25, E26, E27, E28, E29, E30, E31, E32, E33, E34, E35, E36, E37, E40, E41, E42, decide_false, decide_true, Bool.false_eq_true, if_false, if_true]
  by_cases c1 : (ks.length : Int) = 1
  · skip
    simp [jb_impl_partShape_4, jk_impl_partShape_1, jk_impl_partShape_2, jk_impl_partShape_3, jk_impl_partShape_4, jk_impl_partShape_5, jk_impl_partShape_6, jk_impl_partShape_7, jk_impl_partShape_8, jk_impl_partShape_9, jk_impl_partShape_10, jk_impl_partShape_11, jk_impl_partShape_12, jk_impl_partShape_13, jk_impl_partShape_14, jk_impl_partShape_15, jk_impl_partShape_16, jk_impl_partShape_17, jk_impl_partShape_18, jk_impl_partShape_19, jk_impl_partShape_20, jk_impl_partShape_21, jk_impl_partShape_22, jk_impl_partShape_23, jk_impl_partShape_24, jk_impl_partShape_25, jk_impl_partShape_26, S.all24, S.all25, S.all26, S.all28, S.is1, S.is2, S.base, S.v24, S.v27, S.at_, S.fin, bin_geq, bin_leq, bin_lss, bin_eql, lenV_str, part_rd4, part_rd5, part_rd6, part_rd7, bin_feq, bin_sub31, bin_sub41, fltSame, c1]
    try all_goals ((repeat' split) <;> simp_all)
  · skip
    simp [jb_impl_partShape_4, jk_impl_partShape_1, jk_impl_partShape_2, jk_impl_partShape_3, jk_impl_partShape_4, jk_impl_partShape_5, jk_impl_partShape_6, jk_impl_partShape_7, jk_impl_partShape_8, jk_impl_partShape_9, jk_impl_partShape_10, jk_impl_partShape_11, jk_impl_partShape_12, jk_impl_partShape_13, jk_impl_partShape_14, jk_impl_partShape_15, jk_impl_partShape_16, jk_impl_partShape_17, jk_impl_partShape_18, jk_impl_partShape_19, jk_impl_partShape_20, jk_impl_partShape_21, jk_impl_partShape_22, jk_impl_partShape_23, jk_impl_partShape_24, jk_impl_partShape_25, jk_impl_partShape_26, S.all24, S.all25, S.all26, S.all28, S.is1, S.is2, S.base, S.v24, S.v27, S.at_, S.fin, bin_geq, bin_leq, bin_lss, bin_eql, lenV_str, part_rd4, part_rd5, part_rd6, part_rd7, bin_feq, bin_sub31, bin_sub41, fltSame, c1]
    try all_goals ((repeat' split) <;> simp_all)
theorem ps_5 {p : LPart} {ks : List Int} {a1 : AV} (S : PSub D p ks a1) (n1 : ¬ (200 : Int) < ks.length) (n2 : ¬ (200 : Int) < p.names.length) (hk : p.kind = 5) (σ : Store) :
    sh_impl_partShape D (.agg (encPart p)) a1 σ = some (.bool (decide (1 ≤ p.num) && decide (p.num < (ks.length : Int)) && shapeEnd p true false false false (alls isTarget ks 0 p.num && alls isExpr ks p.num ks.length) 0 0), σ) := by
  have E1 : (p.kind = 1) = False := eq_false (by omega)
  have E2 : (p.kind = 2) = False := eq_false (by omega)
  have E3 : (p.kind = 3) = False := eq_false (by omega)
  have E4 : (p.kind = 4) = False := eq_false (by omega)
  have E5 : (p.kind = 5) = True := eq_true (by omega)
  unfold sh_impl_partShape jn
  simp only [cells_agg, S.cells, rd1_p, List.getElem?_cons_zero, part_rd0, part_at0, S.lenV, len_encS, part_rd8, part_at8, Option.bind_some, bin_gtr, bin_eql, aCase_bool, n1, n2, decide_false, decide_true, Bool.false_eq_true, if_false, if_true]
  unfold jb_impl_partShape_6 jn
  simp only [cells_agg, S.cells, rd1_p, List.getElem?_cons_zero, part_at0, part_at5, part_rd5, S.lenV, Option.bind_some, bin_lss, bin_geq, bin_eql, aCase_bool, E1, E2, E3, E4, E5, decide_false, decide_true, Bool.false_eq_true, if_false, if_true, jb_impl_partShape_4, jk_impl_partShape_1, jk_impl_partShape_2, jk_impl_partShape_3, jk_impl_partShape_4, jk_impl_partShape_5, jk_impl_partShape_6, jk_impl_partShape_7, jk_impl_partShape_8, jk_impl_partShape_9, jk_impl_partShape_10, jk_impl_partShape_11, jk_impl_partShape_12, jk_impl_partShape_13, jk_impl_partShape_14, jk_impl_partShape_15, jk_impl_partShape_16, jk_impl_partShape_17, jk_impl_partShape_18, jk_impl_partShape_19, jk_impl_partShape_20, jk_impl_partShape_21, jk_impl_partShape_22, jk_impl_partShape_23, jk_impl_partShape_24, jk_impl_partShape_25, jk_impl_partShape_26, S.fin]
  by_cases h1 : p.num < 1
  · have : ¬ 1 ≤ p.num := by omega
    simp [h1, this]
  · by_cases h2 : (ks.length : Int) ≤ p.num
    · have : ¬ p.num < ks.length := by omega
      simp [h1, h2, this]
    · have g1 : 1 ≤ p.num := by omega
      have g2 : p.num < ks.length := by omega
      have a1 := S.all26 0 p.num σ (by omega) (by omega) (by omega)
      have a2 := S.all24 p.num ks.length σ (by omega) (by omega) (by omega)
      simp only [h1, h2, g1, g2, decide_false, decide_true, Bool.false_eq_true, if_false, if_true, a1, a2, Option.bind_some, aCase_bool, S.fin, Bool.true_and, jb_impl_partShape_4, jk_impl_partShape_1, jk_impl_partShape_2, jk_impl_partShape_3, jk_impl_partShape_4, jk_impl_partShape_5, jk_impl_partShape_6, jk_impl_partShape_7, jk_impl_partShape_8, jk_impl_partShape_9, jk_impl_partShape_10, jk_impl_partShape_11, jk_impl_partShape_12, jk_impl_partShape_13, jk_impl_partShape_14, jk_impl_partShape_15, jk_impl_partShape_16, jk_impl_partShape_17, jk_impl_partShape_18, jk_impl_partShape_19, jk_impl_partShape_20, jk_impl_partShape_21, jk_impl_partShape_22, jk_impl_partShape_23, jk_impl_partShape_24, jk_impl_partShape_25, jk_impl_partShape_26]
      cases alls isTarget ks 0 p.num <;> simp [S.fin]
theorem ps_none {p : LPart} {ks : List Int} {a1 : AV} (S : PSub D p ks a1) (n1 : ¬ (200 : Int) < ks.length) (n2 : ¬ (200 : Int) < p.names.length) (hk : ¬ (1 ≤ p.kind ∧ p.kind ≤ 16)) (hk2 : ¬ (20 ≤ p.kind ∧ p.kind ≤ 37)) (hk3 : ¬ (40 ≤ p.kind ∧ p.kind ≤ 42)) (σ : Store) :
    sh_impl_partShape D (.agg (encPart p)) a1 σ = some (.bool (shapeEnd p false false false false false 0 0), σ) := by
  have E1 : (p.kind = 1) = False := eq_false (by omega)
  have E2 : (p.kind = 2) = False := eq_false (by omega)
  have E3 : (p.kind = 3) = False := eq_false (by omega)
  have E4 : (p.kind = 4) = False := eq_false (by omega)
  have E5 : (p.kind = 5) = False := eq_false (by omega)
  have E6 : (p.kind = 6) = False := eq_false (by omega)
  have E7 : (p.kind = 7) = False := eq_false (by omega)
  have E8 : (p.kind = 8) = False := eq_false (by omega)
  have E9 : (p.kind = 9) = False := eq_false (by omega)
  have E10 : (p.kind = 10) = False := eq_false (by omega)
  have E11 : (p.kind = 11) = False := eq_false (by omega)
  have E12 : (p.kind = 12) = False := eq_false (by omega)
  have E13 : (p.kind = 13) = False := eq_false (by omega)
  have E14 : (p.kind = 14) = False := eq_false (by omega)
  have E15 : (p.kind = 15) = False := eq_false (by omega)
  have E16 : (p.kind = 16) = False := eq_false (by omega)
  have E20 : (p.kind = 20) = False := eq_false (by omega)
  have E21 : (p.kind = 21) = False := eq_false (by omega)
  have E22 : (p.kind = 22) = False := eq_false (by omega)
  have E23 : (p.kind = 23) = False := eq_false (by omega)
  have E24 : (p.kind = 24) = False := eq_false (by omega)
  have E25 : (p.kind = 25) = False := eq_false (by omega)
  have E26 : (p.kind = 26) = False := eq_false (by omega)
  have E27 : (p.kind = 27) = False := eq_false (by omega)
  have E28 : (p.kind = 28) = False := eq_false (by omega)
  have E29 : (p.kind = 29) = False := eq_false (by omega)
  have E30 : (p.kind = 30) = False := eq_false (by omega)
  have E31 : (p.kind = 31) = False := eq_false (by omega)
  have E32 : (p.kind = 32) = False := eq_false (by omega)
  have E33 : (p.kind = 33) = False := eq_false (by omega)
  have E34 : (p.kind = 34) = False := eq_false (by omega)
  have E35 : (p.kind = 35) = False := eq_false (by omega)
  have E36 : (p.kind = 36) = False := eq_false (by omega)
  have E37 : (p.kind = 37) = False := eq_false (by omega)
  have E40 : (p.kind = 40) = False := eq_false (by omega)
  have E41 : (p.kind = 41) = False := eq_false (by omega)
  have E42 : (p.kind = 42) = False := eq_false (by omega)
  unfold sh_impl_partShape jn
  simp only [cells_agg, S.cells, rd1_p, List.getElem?_cons_zero, part_rd0, part_at0, S.lenV, len_encS, part_rd8, part_at8, Option.bind_some, bin_gtr, bin_eql, aCase_bool, n1, n2, E1, E2, E3, E4, E5, E6, E7, E8, E9, E10, E11, E12, E13, E14, E15, E16, E20, E21, E22, E23, E24, E25, E26, E27, E28, E29, E30, E31, E32, E33, E34, E35, E36, E37, E40, E41, E42, decide_false, decide_true, Bool.false_eq_true, if_false, if_true]
  unfold jb_impl_partShape_6 jn
  simp only [cells_agg, S.cells, rd1_p, List.getElem?_cons_zero, part_rd0, part_at0, S.lenV, len_encS, part_rd8, part_at8, Option.bind_some, bin_gtr, bin_eql, aCase_bool, n1, n2, E1, E2, E3, E4, E5, E6, E7, E8, E9, E10, E11, E12, E13, E14, E15, E16, E20, E21, E22, E23, E24, E25, E26, E27, E28, E29, E30, E31, E32, E33, E34, E35, E36, E37, E40, E41, E42, decide_false, decide_true, Bool.false_eq_true, if_false, if_true]
  unfold jb_impl_partShape_5 jn
  simp only [cells_agg, S.cells, rd1_p, List.getElem?_cons_zero, part_rd0, part_at0, S.lenV, len_encS, part_rd8, part_at8, Option.bind_some, bin_gtr, bin_eql, aCase_bool, n1, n2, E1, E2, E3, E4, E5, E6, E7, E8, E9, E10, E11, E12, E13, E14, E15, E16, E20, E21, E22, E23, E24, E25, E26, E27, E28, E29, E30, E31, E32, E33, E34, E35, E36, E37, E40, E41, E42, decide_false, decide_true, Bool.false_eq_true, if_false, if_true]
  unfold jb_impl_partShape_3 jn
  simp only [cells_agg, S.cells, rd1_p, List.getElem?_cons_zero, part_rd0, part_at0, S.lenV, len_encS, part_rd8, part_at8, Option.bind_some, bin_gtr, bin_eql, aCase_bool, n1, n2, E1, E2, E3, E4, E5, E6, E7, E8, E9, E10, E11, E12, E13, E14, E15, E16, E20, E21, E22, E23, E24, E25, E26, E27, E28, E29, E30, E31, E32, E33, E34, E35, E36, E37, E40, E41, E42, decide_false, decide_true, Bool.false_eq_true, if_false, if_true]
  unfold jb_impl_partShape_2 jn
  simp only [cells_agg, S.cells, rd1_p, List.getElem?_cons_zero, part_rd0, part_at0, S.lenV, len_encS, part_rd8, part_at8, Option.bind_some, bin_gtr, bin_eql, aCase_bool, n1, n2, E1, E2, E3, E4, E5, E6, E7, E8, E9, E10, E11, E12, E13, E14, E15, E16, E20, E21, E22, E23, E24, E25, E26, E27, E28, E29, E30, E31, E32, E33, E34, E35, E36, E37, E40, E41, E42, decide_false, decide_true, Bool.false_eq_true, if_false, if_true]
  unfold jb_impl_partShape_1 jn
  simp only [cells_agg, S.cells, rd1_p, List.getElem?_cons_zero, part_rd0, part_at0, S.lenV, len_encS, part_rd8, part_at8, Option.bind_some, bin_gtr, bin_eql, aCase_bool, n1, n2, E1, E2, E3, E4, E5, E6, E7, E8, E9, E10, E11, E12, E13, E14, E15, E16, E20, E21, E22, E23, E24, E25, E26, E27, E28, E29, E30, E31, E32, E33, E34, E35, E36, E37, E40, E41, E42, decide_false, decide_true, Bool.false_eq_true, if_false, if_true, S.fin, jb_impl_partShape_4, jk_impl_partShape_1, jk_impl_partShape_2, jk_impl_partShape_3, jk_impl_partShape_4, jk_impl_partShape_5, jk_impl_partShape_6, jk_impl_partShape_7, jk_impl_partShape_8, jk_impl_partShape_9, jk_impl_partShape_10, jk_impl_partShape_11, jk_impl_partShape_12, jk_impl_partShape_13, jk_impl_partShape_14, jk_impl_partShape_15, jk_impl_partShape_16, jk_impl_partShape_17, jk_impl_partShape_18, jk_impl_partShape_19, jk_impl_partShape_20, jk_impl_partShape_21, jk_impl_partShape_22, jk_impl_partShape_23, jk_impl_partShape_24, jk_impl_partShape_25, jk_impl_partShape_26]
/-- How partShape judges a part by its kids' kinds. -/
def shapeOk (p : LPart) (ks : List Int) : Bool := decide ((ks.length : Int) ≤ 200) && decide ((p.names.length : Int) ≤ 200) && shapeMid p ks
theorem jb6_true {a0 a1 t2 : AV} (σ : Store) : jb_impl_partShape_6 D a0 a1 t2 (.bool true) σ = some (.bool false, σ) := by
  unfold jb_impl_partShape_6
  exact aCase_bool _ _ _
theorem partShape_1 {p : LPart} {ks : List Int} {a1 : AV} (S : PSub D p ks a1) (n1 : (200 : Int) < ks.length) (σ : Store) : sh_impl_partShape D (.agg (encPart p)) a1 σ = some (.bool false, σ) := by
  unfold sh_impl_partShape jn
  simp only [S.cells, rd1_p, List.getElem?_cons_zero, S.lenV, Option.bind_some, bin_gtr, aCase_bool]
  rw [if_pos (by simpa using n1)]
  exact jb6_true σ
theorem partShape_2 {p : LPart} {ks : List Int} {a1 : AV} (S : PSub D p ks a1) (n1 : ¬ (200 : Int) < ks.length) (n2 : (200 : Int) < p.names.length) (σ : Store) : sh_impl_partShape D (.agg (encPart p)) a1 σ = some (.bool false, σ) := by
  unfold sh_impl_partShape jn
  simp only [S.cells, cells_agg, part_at8, len_encS, rd1_p, List.getElem?_cons_zero, S.lenV, Option.bind_some, bin_gtr, aCase_bool]
  rw [if_neg (by simpa using n1), decide_eq_true n2]
  exact jb6_true σ
theorem partShape_3 {p : LPart} {ks : List Int} {a1 : AV} (S : PSub D p ks a1) (n1 : ¬ (200 : Int) < ks.length) (n2 : ¬ (200 : Int) < p.names.length) (σ : Store) : sh_impl_partShape D (.agg (encPart p)) a1 σ = some (.bool (shapeMid p ks), σ) := by
  unfold shapeMid
  by_cases h1 : p.kind = 1
  · rw [if_pos h1]; exact ps_1 S n1 n2 h1 σ
  rw [if_neg h1]
  by_cases h2 : p.kind = 2
  · rw [if_pos h2]; exact ps_2 S n1 n2 h2 σ
  rw [if_neg h2]
  by_cases h3 : p.kind = 3
  · rw [if_pos h3]; exact ps_3 S n1 n2 h3 σ
  rw [if_neg h3]
  by_cases h4 : p.kind = 4
  · rw [if_pos h4]; exact ps_4 S n1 n2 h4 σ
  rw [if_neg h4]
  by_cases h5 : p.kind = 5
  · rw [if_pos h5]; exact ps_5 S n1 n2 h5 σ
  rw [if_neg h5]
  by_cases h6 : p.kind = 6
  · rw [if_pos h6]; exact ps_6 S n1 n2 h6 σ
  rw [if_neg h6]
  by_cases h7 : p.kind = 7
  · rw [if_pos h7]; exact ps_7 S n1 n2 h7 σ
  rw [if_neg h7]
  by_cases h8 : p.kind = 8
  · rw [if_pos h8]; exact ps_8 S n1 n2 h8 σ
  rw [if_neg h8]
  by_cases h9 : p.kind = 9
  · rw [if_pos h9]; exact ps_9 S n1 n2 h9 σ
  rw [if_neg h9]
  by_cases h10 : p.kind = 10
  · rw [if_pos h10]; exact ps_10 S n1 n2 h10 σ
  rw [if_neg h10]
  by_cases h11 : p.kind = 11
  · rw [if_pos h11]; exact ps_11 S n1 n2 h11 σ
  rw [if_neg h11]
  by_cases h12 : p.kind = 12
  · rw [if_pos h12]; exact ps_12 S n1 n2 h12 σ
  rw [if_neg h12]
  by_cases h13 : p.kind = 13
  · rw [if_pos h13]; exact ps_13 S n1 n2 h13 σ
  rw [if_neg h13]
  by_cases h14 : p.kind = 14
  · rw [if_pos h14]; exact ps_14 S n1 n2 h14 σ
  rw [if_neg h14]
  by_cases h15 : p.kind = 15
  · rw [if_pos h15]; exact ps_15 S n1 n2 h15 σ
  rw [if_neg h15]
  by_cases h16 : p.kind = 16
  · rw [if_pos h16]; exact ps_16 S n1 n2 h16 σ
  rw [if_neg h16]
  by_cases h20 : p.kind = 20
  · rw [if_pos h20]; exact ps_20 S n1 n2 h20 σ
  rw [if_neg h20]
  by_cases h21 : p.kind = 21
  · rw [if_pos h21]; exact ps_21 S n1 n2 h21 σ
  rw [if_neg h21]
  by_cases h22 : p.kind = 22
  · rw [if_pos h22]; exact ps_22 S n1 n2 h22 σ
  rw [if_neg h22]
  by_cases h23 : p.kind = 23
  · rw [if_pos h23]; exact ps_23 S n1 n2 h23 σ
  rw [if_neg h23]
  by_cases h24 : p.kind = 24
  · rw [if_pos h24]; exact ps_24 S n1 n2 h24 σ
  rw [if_neg h24]
  by_cases h25 : p.kind = 25
  · rw [if_pos h25]; exact ps_25 S n1 n2 h25 σ
  rw [if_neg h25]
  by_cases h26 : p.kind = 26
  · rw [if_pos h26]; exact ps_26 S n1 n2 h26 σ
  rw [if_neg h26]
  by_cases h27 : p.kind = 27
  · rw [if_pos h27]; exact ps_27 S n1 n2 h27 σ
  rw [if_neg h27]
  by_cases h28 : p.kind = 28
  · rw [if_pos h28]; exact ps_28 S n1 n2 h28 σ
  rw [if_neg h28]
  by_cases h29 : p.kind = 29
  · rw [if_pos h29]; exact ps_29 S n1 n2 h29 σ
  rw [if_neg h29]
  by_cases h30 : p.kind = 30
  · rw [if_pos h30]; exact ps_30 S n1 n2 h30 σ
  rw [if_neg h30]
  by_cases h31 : p.kind = 31
  · rw [if_pos h31]; exact ps_31 S n1 n2 h31 σ
  rw [if_neg h31]
  by_cases h32 : p.kind = 32
  · rw [if_pos h32]; exact ps_32 S n1 n2 h32 σ
  rw [if_neg h32]
  by_cases h33 : p.kind = 33
  · rw [if_pos h33]; exact ps_33 S n1 n2 h33 σ
  rw [if_neg h33]
  by_cases h34 : p.kind = 34
  · rw [if_pos h34]; exact ps_34 S n1 n2 h34 σ
  rw [if_neg h34]
  by_cases h35 : p.kind = 35
  · rw [if_pos h35]; exact ps_35 S n1 n2 h35 σ
  rw [if_neg h35]
  by_cases h36 : p.kind = 36
  · rw [if_pos h36]; exact ps_36 S n1 n2 h36 σ
  rw [if_neg h36]
  by_cases h37 : p.kind = 37
  · rw [if_pos h37]; exact ps_37 S n1 n2 h37 σ
  rw [if_neg h37]
  by_cases h40 : p.kind = 40
  · rw [if_pos h40]; exact ps_40 S n1 n2 h40 σ
  rw [if_neg h40]
  by_cases h41 : p.kind = 41
  · rw [if_pos h41]; exact ps_41 S n1 n2 h41 σ
  rw [if_neg h41]
  by_cases h42 : p.kind = 42
  · rw [if_pos h42]; exact ps_42 S n1 n2 h42 σ
  rw [if_neg h42]
  rw [ps_none S n1 n2 (by omega) (by omega) (by omega)]
theorem partShape_sh {p : LPart} {ks : List Int} {a1 : AV} (S : PSub D p ks a1) (σ : Store) : sh_impl_partShape D (.agg (encPart p)) a1 σ = some (.bool (shapeOk p ks), σ) := by
  by_cases n1 : (200 : Int) < ks.length
  · have m1 : ¬ (ks.length : Int) ≤ 200 := by omega
    rw [partShape_1 S n1]
    simp only [shapeOk, m1, decide_false, Bool.false_and]
  by_cases n2 : (200 : Int) < p.names.length
  · have m2 : ¬ (p.names.length : Int) ≤ 200 := by omega
    rw [partShape_2 S n1 n2]
    simp only [shapeOk, m2, decide_false, Bool.false_and, Bool.and_false]
  have m1 : (ks.length : Int) ≤ 200 := by omega
  have m2 : (p.names.length : Int) ≤ 200 := by omega
  rw [partShape_3 S n1 n2]
  simp only [shapeOk, m1, m2, decide_true, Bool.true_and]
theorem partShape (H : Door D) (hG : KeyWords D.G) (p : LPart) (hp : p.Small) (hs : ∀ s ∈ p.names, s.size ≤ 1048576) (ks : List Int) (hn : ks.length ≤ 1048576) (σ : Store) : D.call 14 [.agg (encPart p), encI ks] σ = some (.bool (shapeOk p ks), σ) := by
  rw [H.f14]
  exact partShape_sh (psub H hG p hp hs ks hn) σ
theorem partShape0 (H : Door D) (hG : KeyWords D.G) (p : LPart) (hp : p.Small) (hs : ∀ s ∈ p.names, s.size ≤ 1048576) (σ : Store) : D.call 14 [.agg (encPart p), .pslice 0 []] σ = some (.bool (shapeOk p []), σ) := by
  rw [H.f14]
  exact partShape_sh (psub0 H hG p hp hs) σ

end
end Go.Asm.DoorF