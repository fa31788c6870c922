import Derived.Test.YtebmeojmlakkoaaDoorAsm26
import Derived.ProofKit
import Derived.ChangeSame
import Derived.ChangeVars
set_option linter.all false
/- From a row's data to the machine's values, and back: the start of a law's run. -/
namespace Go.Asm
open Go Go.ChangeShapes Go.WideShapes Go.RowKit

/-- All that is there is immutable for the run. -/
def G0 (W : World) : Gh := ⟨fun g => g < W.heap.size, fun _ => none⟩
theorem HI.start (W : World) (Gl : Nat → Option AV) (hg : ∀ g v, Gl g = some v → g < W.heap.size ∧ ∃ c, cellOf W.heap ⟨g, 0, none⟩ = some c ∧ VRel W.heap (G0 W) v c) :
    HI (here W (G0 W) Store.empty Gl) W (G0 W) (fun _ => none) [] Store.empty where
  fzlt := fun g h => h
  blk := fun x b h => by cases h
  inj := fun x y h => by simp [Store.empty] at h
  next := fun x _ => ⟨rfl, rfl⟩
  lrel := fun s n cs h => by cases h
  linj := fun s t h => by simp [Loc.get_nil] at h
  ldis := fun s h => by simp [Loc.get_nil] at h
  os := rfl
  tape := rfl
  output := rfl
  size := Nat.le_refl _
  keep := fun _ _ _ => rfl
  fresh := fun x b h => by cases h
  lfresh := fun s h => by simp [Loc.get_nil] at h
  fzfresh := fun g h => .inl h
  fz0 := fun g h => h
  bm0 := fun x p h => h
  bmlt := fun x g m h => by cases h
  glob := fun g v h => hg g v h

/-- What a law that gives true leaves: nothing that was there has turned. -/
theorem law_run {P : Program} {Gl : Nat → Option AV} {f : Nat} {v : AV} {σ' : Store} (Dn : Den P Gl f [v] Store.empty (.bool true, σ')) {W : World} {c : Value}
    (hg : ∀ g v, Gl g = some v → g < W.heap.size ∧ ∃ c, cellOf W.heap ⟨g, 0, none⟩ = some c ∧ VRel W.heap (G0 W) v c) (hc : VRel W.heap (G0 W) v c) :
    Calls P f #[c] W fun e W' => e = .returned (.bool true) ∧ Below W.heap.size W W' := by
  have := Dn.run W (G0 W) [c] (HI.start W Gl hg) (VRels.cons hc VRels.nil)
  refine this.mono fun e W' h => ?_
  cases e with
  | returned u =>
    obtain ⟨G', H, r⟩ := h
    have : u = .bool true := by cases r; rfl
    subst this
    exact ⟨rfl, H.os, H.tape, H.output, H.size, fun k hk => H.keep k hk fun ⟨x, b, m, hb, _⟩ => by cases hb⟩
  | _ => exact h.elim

section
variable {H : Type} {enc : TypeId × Value → H} {P : Program} {W : World} {sp : Nat → Bool} {held : Bool}

/-- `post` where old memory alone is known to be as it was. -/
theorem post_of_old {f : Func} {s : ChangeSpec} {apart fresh handsOn again : Bool} {W W' : World} {args : Array Value} {v : Value} {ds gs : List (DataW H)} {before pa pv : List MemPlace}
    (hW : DataW.Whole enc P f.params.toList s.vars apart W args.toList ds gs before)
    (hres : ∀ (b : Nat) (sp : Nat → Bool) (hd : Bool), DataW.TrodAll enc P W' b sp hd f.resultTypes.toList (v.resultList f.resultTypes.size) (s.fn H (ds ++ gs)).results [])
    (hargs : ∀ sp : Nat → Bool, (∀ p ∈ before, sp p.block = true) → DataW.TrodAll enc P W' 0 sp true f.params.toList args.toList (s.fn H (ds ++ gs)).args pa)
    (hvars : ∀ sp : Nat → Bool, (∀ p ∈ before, sp p.block = true) → DataW.TrodVars enc P W' sp s.vars (s.fn H (ds ++ gs)).vars pv)
    (hps : before = pa ++ pv) (hb : Below W.heap.size W W')
    (hok : ∀ (j : Nat) (t : TypeId) (r : Value), f.resultTypes[j]? = some t → (v.resultList f.resultTypes.size)[j]? = some r → Value.okWide P W' .any 0 t r) :
    s.post enc P f apart fresh handsOn again W args v W' := by
  have hlt : ∀ p ∈ before, p.block < W.heap.size := fun p hp => by simpa using hW.lt p hp
  have hold : ∀ p ∈ before, (fun b => decide (b < W.heap.size)) p.block = true := fun p hp => by simpa using hlt p hp
  refine ⟨ds, gs, before, [], pa, pv, hW, hres _ _ _, hargs _ hold, hvars _ hold, World.keptBut_mono (fun p hp => ⟨hp, ?_⟩) (hb.frame (· ∈ before)), fun _ => ?_⟩
  · rw [hps, List.mem_append] at hp
    exact Or.inr hp
  · obtain ⟨_, _, _, _, _, hz, hn⟩ := hW
    refine ⟨hok, _, _, ([] ++ pa) ++ pv, ⟨[] ++ pa, pv, trodAll_append (hargs _ (fun _ _ => rfl)) (hres _ _ _), hvars _ (fun _ _ => rfl), rfl, ?_, ?_⟩, ?_⟩
    · intro b off hp
      have hp' : MemPlace.cell b off ∈ before := by rw [hps]; simpa using hp
      rw [hb.frozen (p := ⟨b, off, none⟩) (hlt _ hp')]
      exact hz b off hp'
    · intro ha
      have := hn ha
      rw [hps] at this
      simpa using this
    · intro p hp _
      rw [hps]
      simpa using hp

/-! ### opening -/
theorem trod_flt {t : TypeId} (ht : P.underlying t = some (.float .f64)) {base fuel : Nat} {cs : List Value} {x : DataW H × List MemPlace} (h : DataW.trod enc P W base sp held fuel t cs = some x) : ∃ b, cs = [.float .f64 b] := by
  cases fuel with
  | zero => simp [DataW.trod] at h
  | succ n =>
    unfold DataW.trod at h
    rw [ht] at h
    split at h <;> simp_all
theorem choose_list {α : Type} {n : Nat} {R : Nat → α → Prop} (h : ∀ i, i < n → ∃ x, R i x) : ∃ l : List α, l.length = n ∧ ∀ i x, l[i]? = some x → R i x := by
  induction n with
  | zero => exact ⟨[], rfl, fun i x h => by simp at h⟩
  | succ n ih =>
    obtain ⟨l, h1, h2⟩ := ih fun i hi => h i (by omega)
    obtain ⟨x, hx⟩ := h n (by omega)
    refine ⟨l ++ [x], by simp [h1], fun i y hy => ?_⟩
    rw [List.getElem?_append] at hy
    split at hy
    · exact h2 i y hy
    · have : i = n := by
        have := (List.getElem?_eq_some_iff.1 hy).1
        simp at this; omega
      subst this
      rw [h1] at hy
      simp at hy
      subst hy
      exact hx
theorem cell_lt {a : Addr} {c : Value} (h : W.cell? a = some c) : a.block < W.heap.size := by
  rw [cell_cellOf] at h
  unfold cellOf at h
  split at h
  · rename_i h1; exact lt_of_get h1
  · cases h
/-- A slice of the arguments' as immutable data. -/
theorem rel_slice {α : Type} (encR : α → List AV) {sz : Nat} (hsz : ∀ x, (encR x).length = sz) (Q : α → Prop) {a : Addr} {len cap : Nat} (hlen : len ≤ cap)
    (h : ∀ i, i < len → ∃ x : α, Q x ∧ ∀ j v, (encR x)[j]? = some v → ∃ c, W.cell? (a.add (i * sz + j)) = some c ∧ c.oneCell' = true ∧ VRel W.heap (G0 W) v c) :
    ∃ l : List α, l.length = len ∧ (∀ x ∈ l, Q x) ∧ VRel W.heap (G0 W) (.pslice sz (l.map fun x => .agg (encR x))) (.slice (some a) len cap) := by
  obtain ⟨l, hl, hR⟩ := choose_list h
  have key : ∀ (i : Nat) (row : List AV) (j : Nat) (v : AV), (l.map fun x => AV.agg (encR x))[i]? = some (AV.agg row) → row[j]? = some v → ∃ c, W.cell? (a.add (i * sz + j)) = some c ∧ c.oneCell' = true ∧ VRel W.heap (G0 W) v c := by
    intro i row j v hi hj
    simp only [List.getElem?_map, Option.map_eq_some_iff] at hi
    obtain ⟨x, hx, e⟩ := hi
    cases e
    exact (hR i x hx).2 j v hj
  refine ⟨l, hl, fun x hx => ?_, ?_⟩
  · obtain ⟨i, hi⟩ := List.getElem?_of_mem hx
    exact (hR i x hi).1
  · have hL : (l.map fun x => AV.agg (encR x)).length = len := by simp [hl]
    rw [← hL]
    refine .pslice a cap (fun i j => (W.cell? (a.add (i * sz + j))).getD undef) (fun hp => ?_) (by omega) (fun i r hi => ?_) (fun i row j v hi hj => ?_) (fun i row j v hi hj => ?_)
    · have h0 : 0 < (l.map fun x => AV.agg (encR x)).length := Nat.pos_of_mul_pos_right hp
      have h1 : 0 < sz := Nat.pos_of_mul_pos_left hp
      simp at h0
      match l, h0 with
      | x :: r, _ =>
        cases hq : encR x with
        | nil => have := hsz x; rw [hq] at this; simp at this; omega
        | cons v r =>
          obtain ⟨c, hc, _⟩ := (hR 0 x rfl).2 0 v (by rw [hq]; rfl)
          have := cell_lt hc
          rw [add_block] at this
          exact this
    · simp only [List.getElem?_map, Option.map_eq_some_iff] at hi
      obtain ⟨x, hx, rfl⟩ := hi
      exact ⟨_, rfl, hsz x⟩
    · obtain ⟨c, h1, h2, h3⟩ := key i row j v hi hj
      rw [← cell_cellOf, h1]
      exact ⟨rfl, h2⟩
    · obtain ⟨c, h1, h2, h3⟩ := key i row j v hi hj
      rw [h1]
      exact h3

/-- The cells of one element. -/
theorem elem_cells {e : TypeId} {n base : Nat} {a : Addr} {i sz : Nat} {y : DataW H × List MemPlace} (hsz : P.cellsOf e = sz)
    (h : (W.cells? base (a.add (i * P.cellsOf e)) (P.cellsOf e)).bind (DataW.trod enc P W base sp held n e) = some y) :
    ∃ cs, cs.length = sz ∧ (∀ j, j < sz → W.cell? (a.add (i * sz + j)) = cs[j]?) ∧ DataW.trod enc P W base sp held n e cs = some y := by
  rw [hsz] at h
  cases hc : W.cells? base (a.add (i * sz)) sz with
  | none => rw [hc] at h; cases h
  | some cs =>
    rw [hc] at h
    obtain ⟨_, h1, h2⟩ := World.cells?_some hc
    exact ⟨cs, h1, fun j hj => by rw [← add_add]; exact h2 j hj, h⟩

theorem rel_strs {t e : TypeId} (ht : P.underlying t = some (.slice e)) (he : P.underlying e = some .string) (hsz : P.cellsOf e = 1) {base fuel : Nat} {c : Value} {x : DataW H × List MemPlace} (h : DataW.trod enc P W base sp held fuel t [c] = some x) :
    ∃ l : List ByteArray, l.length ≤ maxLen ∧ (∀ s ∈ l, s.size ≤ maxLen) ∧ VRel W.heap (G0 W) (encS l) c ∧ c.oneCell' = true := by
  rcases DataW.trod_slice ht h with ⟨h1, _⟩ | ⟨a, len, cap, elems, rest, n, _, h1, _, _, h2, h3, h4, h5, _⟩
  · cases h1
    exact ⟨[], by simp, fun s hs => by simp at hs, .pnil, rfl⟩
  · cases h1
    obtain ⟨l, q1, q2, q3⟩ := rel_slice (W := W) (fun s : ByteArray => [AV.str s]) (sz := 1) (fun _ => rfl) (fun s => s.size ≤ maxLen) (a := a) (len := len) (cap := cap) h2 (fun i hi => by
      have h6 := h5 i hi
      rw [List.getElem?_eq_getElem (by omega)] at h6
      obtain ⟨cs, c1, c2, c3⟩ := elem_cells hsz h6
      obtain ⟨s, rfl, _, h7⟩ := DataW.trod_string he c3
      refine ⟨s, h7, fun j v hj => ?_⟩
      cases j with
      | zero =>
        simp at hj; subst hj
        exact ⟨_, (c2 0 (by omega)), rfl, .str⟩
      | succ j => simp at hj)
    exact ⟨l, by omega, q2, q3, rfl⟩
theorem rel_ints {t e : TypeId} (ht : P.underlying t = some (.slice e)) (he : P.underlying e = some (.int .i64)) (hsz : P.cellsOf e = 1) {base fuel : Nat} {c : Value} {x : DataW H × List MemPlace} (h : DataW.trod enc P W base sp held fuel t [c] = some x) :
    ∃ l : List Int, l.length ≤ maxLen ∧ VRel W.heap (G0 W) (encI l) c ∧ c.oneCell' = true := by
  rcases DataW.trod_slice ht h with ⟨h1, _⟩ | ⟨a, len, cap, elems, rest, n, _, h1, _, _, h2, h3, h4, h5, _⟩
  · cases h1
    exact ⟨[], by simp, .pnil, rfl⟩
  · cases h1
    obtain ⟨l, q1, _, q3⟩ := rel_slice (W := W) (fun s : Int => [AV.int .i64 s]) (sz := 1) (fun _ => rfl) (fun _ => True) (a := a) (len := len) (cap := cap) h2 (fun i hi => by
      have h6 := h5 i hi
      rw [List.getElem?_eq_getElem (by omega)] at h6
      obtain ⟨cs, c1, c2, c3⟩ := elem_cells hsz h6
      obtain ⟨s, rfl, _, h7⟩ := DataW.trod_int he c3
      refine ⟨s, trivial, fun j v hj => ?_⟩
      cases j with
      | zero =>
        simp at hj; subst hj
        exact ⟨_, (c2 0 (by omega)), rfl, .int⟩
      | succ j => simp at hj)
    exact ⟨l, by omega, q3, rfl⟩
end
end Go.Asm
