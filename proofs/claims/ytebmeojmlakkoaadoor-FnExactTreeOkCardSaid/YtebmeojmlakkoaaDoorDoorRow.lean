import Derived.Test.YtebmeojmlakkoaaDoorDoorP20
import Derived.Test.YtebmeojmlakkoaaDoorDoorC
import Derived.Test.YtebmeojmlakkoaaDoorAsm27
import Derived.Test.YtebmeojmlakkoaaDoorTie
import Derived.Test.YtebmeojmlakkoaaDoorCards
import Derived.LaidMore
import Derived.WideKeyElems2
import Derived.WideKeyArgs
import Derived.Stop.Joined
set_option linter.all false
namespace Go.Proofs.YtebmeojmlakkoaaDoor
open Go Go.Asm Go.Asm.DoorF Go.ChangeShapes Go.WideShapes Go.ChangeAt Go.RowKit

theorem own : ownKnob Tryd.prog.godebug = none := by kernel_rfl
theorem laidOut : laidOutB Tryd.prog = true := by kernel_rfl
theorem gWords : Tryd.prog.globalNamed "loop.example/reed/impl.keyWords" = some 0 := by kernel_rfl
theorem tWords : (Tryd.prog.globals[0]?).map (·.type) = some 64 := by kernel_rfl
theorem c1 : Tryd.prog.cellsOf 3 = 1 := by kernel_rfl
theorem c2 : Tryd.prog.cellsOf 2 = 1 := by kernel_rfl
theorem c9 : Tryd.prog.cellsOf 9 = 1 := by kernel_rfl
theorem c37 : Tryd.prog.cellsOf 37 = 1 := by kernel_rfl
theorem c38 : Tryd.prog.cellsOf 38 = 1 := by kernel_rfl
theorem c39 : Tryd.prog.cellsOf 39 = 1 := by kernel_rfl
theorem c48 : Tryd.prog.cellsOf 48 = 10 := by kernel_rfl
theorem c24 : Tryd.prog.cellsOf 24 = 1 := by kernel_rfl
theorem c22 : Tryd.prog.cellsOf 22 = 1 := by kernel_rfl

section
variable {H : Type} {enc : TypeId × Value → H} {W : World} {sp : Nat → Bool} {held : Bool} {base fuel : Nat}
/-- A part among the arguments. -/
theorem rel_part {cs : List Value} {x : DataW H × List MemPlace} (hl : cs.length = 10) (h : DataW.trod enc Tryd.prog W base sp held fuel 48 cs = some x) :
    ∃ p : LPart, p.Fits ∧ ∀ (j : Nat) v, (encPart p)[j]? = some v → ∃ c, cs[j]? = some c ∧ c.oneCell' = true ∧ VRel W.heap (G0 W) v c := by
  obtain ⟨xs, n, _, _, _, hn, hf⟩ := DataW.trod_struct Tryd.underlying48 h
  match cs, hl with
  | [v0, v1, v2, v3, v4, v5, v6, v7, v8, v9], _ =>
    have hs : ∀ i, i < 10 → ∃ y, xs[i]? = some y := fun i hi => ⟨xs[i]'(by rw [hn]; exact hi), List.getElem?_eq_getElem _⟩
    obtain ⟨y0, e0⟩ := hs 0 (by omega)
    obtain ⟨y1, e1⟩ := hs 1 (by omega)
    obtain ⟨y2, e2⟩ := hs 2 (by omega)
    obtain ⟨y3, e3⟩ := hs 3 (by omega)
    obtain ⟨y4, e4⟩ := hs 4 (by omega)
    obtain ⟨y5, e5⟩ := hs 5 (by omega)
    obtain ⟨y6, e6⟩ := hs 6 (by omega)
    obtain ⟨y7, e7⟩ := hs 7 (by omega)
    obtain ⟨y8, e8⟩ := hs 8 (by omega)
    obtain ⟨y9, e9⟩ := hs 9 (by omega)
    have f0 := hf 0 _ rfl
    have f1 := hf 1 _ rfl
    have f2 := hf 2 _ rfl
    have f3 := hf 3 _ rfl
    have f4 := hf 4 _ rfl
    have f5 := hf 5 _ rfl
    have f6 := hf 6 _ rfl
    have f7 := hf 7 _ rfl
    have f8 := hf 8 _ rfl
    have f9 := hf 9 _ rfl
    simp only [c1, List.drop_zero, List.take_succ_cons, List.take_zero, e0] at f0
    simp only [c1, List.drop_succ_cons, List.drop_zero, List.take_succ_cons, List.take_zero, e1] at f1
    simp only [c1, List.drop_succ_cons, List.drop_zero, List.take_succ_cons, List.take_zero, e2] at f2
    simp only [c1, List.drop_succ_cons, List.drop_zero, List.take_succ_cons, List.take_zero, e3] at f3
    simp only [c1, List.drop_succ_cons, List.drop_zero, List.take_succ_cons, List.take_zero, e4] at f4
    simp only [c2, List.drop_succ_cons, List.drop_zero, List.take_succ_cons, List.take_zero, e5] at f5
    simp only [c37, List.drop_succ_cons, List.drop_zero, List.take_succ_cons, List.take_zero, e6] at f6
    simp only [c9, List.drop_succ_cons, List.drop_zero, List.take_succ_cons, List.take_zero, e7] at f7
    simp only [c38, List.drop_succ_cons, List.drop_zero, List.take_succ_cons, List.take_zero, e8] at f8
    simp only [c39, List.drop_succ_cons, List.drop_zero, List.take_succ_cons, List.take_zero, e9] at f9
    obtain ⟨n0, r0, _, _⟩ := DataW.trod_int Tryd.underlying3 f0
    obtain ⟨n1, r1, _, _⟩ := DataW.trod_int Tryd.underlying3 f1
    obtain ⟨n2, r2, _, _⟩ := DataW.trod_int Tryd.underlying3 f2
    obtain ⟨n3, r3, _, _⟩ := DataW.trod_int Tryd.underlying3 f3
    obtain ⟨n4, r4, _, _⟩ := DataW.trod_int Tryd.underlying3 f4
    obtain ⟨n5, r5, _, _⟩ := DataW.trod_int Tryd.underlying2 f5
    obtain ⟨n6, r6⟩ := trod_flt Tryd.underlying37 f6
    obtain ⟨s7, r7, _, z7⟩ := DataW.trod_string Tryd.underlying9 f7
    obtain ⟨l8, z8, w8, q8, o8⟩ := rel_strs Tryd.underlying38 Tryd.underlying9 c9 f8
    obtain ⟨l9, z9, q9, o9⟩ := rel_ints Tryd.underlying39 Tryd.underlying3 c1 f9
    cases r0; cases r1; cases r2; cases r3; cases r4; cases r5; cases r6; cases r7
    have hm : maxLen ≤ 9223372036854775807 := by decide
    refine ⟨⟨n0, n1, n2, n3, n4, n5, n6, s7, l8, l9⟩, ⟨Nat.le_trans z7 hm, Nat.le_trans z8 hm, fun s hs => Nat.le_trans (w8 s hs) hm, Nat.le_trans z9 hm⟩, fun j v hj => ?_⟩
    match j, hj with
    | 0, hj => cases hj; exact ⟨_, rfl, rfl, .int⟩
    | 1, hj => cases hj; exact ⟨_, rfl, rfl, .int⟩
    | 2, hj => cases hj; exact ⟨_, rfl, rfl, .int⟩
    | 3, hj => cases hj; exact ⟨_, rfl, rfl, .int⟩
    | 4, hj => cases hj; exact ⟨_, rfl, rfl, .int⟩
    | 5, hj => cases hj; exact ⟨_, rfl, rfl, .int⟩
    | 6, hj => cases hj; exact ⟨_, rfl, rfl, .flt (.inl rfl)⟩
    | 7, hj => cases hj; exact ⟨_, rfl, rfl, .str⟩
    | 8, hj => cases hj; exact ⟨_, rfl, o8, q8⟩
    | 9, hj => cases hj; exact ⟨_, rfl, o9, q9⟩
/-- The tree among the arguments. -/
theorem rel_tree {v : Value} {d : DataW H} {ps : List MemPlace} (hv : Value.okWide Tryd.prog W .any base 24 v) (h : DataW.Trod enc Tryd.prog W 0 sp held 24 v d ps) :
    ∃ l : List LPart, (∀ p ∈ l, p.Fits) ∧ l.length ≤ 9223372036854775807 ∧ VRel W.heap (G0 W) (encTree l) v := by
  obtain ⟨fuel, hf⟩ := h
  have hv' : ∃ cs, v = .agg cs ∧ cs.size = 1 := by
    unfold Value.okWide at hv
    rw [Tryd.underlying24] at hv
    obtain ⟨cs, h1, h2, _⟩ := hv
    exact ⟨cs, h1, h2.trans c24⟩
  obtain ⟨⟨cs⟩, rfl, hsz⟩ := hv'
  match cs, hsz with
  | [c], _ =>
    obtain ⟨xs, n, _, _, _, hn, hff⟩ := DataW.trod_struct Tryd.underlying24 hf
    have f0 := hff 0 _ rfl
    have e0 : xs[0]? = some (xs[0]'(by rw [hn]; decide)) := List.getElem?_eq_getElem _
    rw [e0] at f0
    have f0' : DataW.trod enc Tryd.prog W 0 sp held n 22 [c] = some (xs[0]'(by rw [hn]; decide)) := by
      rw [← f0]
      simp [c22, Value.cells]
    have hm : maxLen ≤ 9223372036854775807 := by decide
    have key : ∃ l : List LPart, (∀ p ∈ l, p.Fits) ∧ l.length ≤ 9223372036854775807 ∧ VRel W.heap (G0 W) (encParts l) c ∧ c.oneCell' = true := by
      rcases DataW.trod_slice Tryd.underlying22 f0' with ⟨h1, _⟩ | ⟨a, len, cap, elems, rest, m, _, h1, _, _, h2, h3, h4, h5, _⟩
      · cases h1
        exact ⟨[], by simp, by simp, .pnil, rfl⟩
      · cases h1
        obtain ⟨l, q1, q2, q3⟩ := rel_slice (W := W) encPart (sz := 10) encPart_len LPart.Fits (a := a) (len := len) (cap := cap) h2 (fun i hi => by
          have h6 := h5 i hi
          rw [List.getElem?_eq_getElem (by omega)] at h6
          obtain ⟨cs, k1, k2, k3⟩ := elem_cells c48 h6
          obtain ⟨p, hp, hr⟩ := rel_part k1 k3
          refine ⟨p, hp, fun j v hj => ?_⟩
          obtain ⟨c, g1, g2, g3⟩ := hr j v hj
          have hj10 : j < 10 := (List.getElem?_eq_some_iff.1 hj).1
          exact ⟨c, (k2 j hj10).trans g1, g2, g3⟩)
        exact ⟨l, q2, by omega, q3, rfl⟩
    obtain ⟨l, q1, q2, q3, q4⟩ := key
    refine ⟨l, q1, q2, ?_⟩
    refine VRels.agg (VRels.cons q3 VRels.nil) (fun u hu => ?_)
    simp at hu
    subst hu
    exact q4
end
end Go.Proofs.YtebmeojmlakkoaaDoor
