import Derived.Test.YtebmeojmlakkoaaDoorAsm24
set_option linter.all false
/- Rows in the store: filling them, and their views. -/
namespace Go.Asm

theorem set_eq_setL (cs : List AV) (off : Nat) (vs : List AV) (h : off + vs.length ≤ cs.length) : setL cs off vs = cs.take off ++ vs ++ cs.drop (off + vs.length) := by
  induction vs generalizing cs off with
  | nil => simp [setL]
  | cons v vs ih =>
    simp only [List.length_cons] at h
    rw [setL, ih _ _ (by simp; omega)]
    apply List.ext_getElem?
    intro i
    simp only [List.getElem?_append, List.length_append, List.length_take, List.length_set, List.length_cons, List.getElem?_take, List.getElem?_drop, List.getElem?_set]
    have h1 : min (off + 1) cs.length = off + 1 := by omega
    have h2 : min off cs.length = off := by omega
    rw [h1, h2]
    by_cases c1 : i < off
    · have : i < off + 1 + vs.length := by omega
      have : i < off + 1 := by omega
      have : i < off + (vs.length + 1) := by omega
      have : ¬ off = i := by omega
      simp [*]
    · by_cases c2 : i = off
      · subst c2
        have : i < i + 1 + vs.length := by omega
        have : i < i + (vs.length + 1) := by omega
        have : i < cs.length := by omega
        simp [*]
      · by_cases c3 : i < off + 1 + vs.length
        · have e1 : ¬ i < off + 1 := by omega
          have e2 : i < off + (vs.length + 1) := by omega
          have e3 : i - off = (i - (off + 1)) + 1 := by omega
          simp [c1, c3, e1, e2, e3]
        · have e1 : ¬ i < off + (vs.length + 1) := by omega
          have e2 : off + 1 + vs.length + (i - (off + 1 + vs.length)) = off + (vs.length + 1) + (i - (off + (vs.length + 1))) := by omega
          have e3 : ¬ off = off + 1 + vs.length + (i - (off + 1 + vs.length)) := by omega
          simp only [if_neg c3, if_neg e1, if_neg e3]
          rw [e2]

theorem flatten_len {sz : Nat} : ∀ {rows : List (List AV)}, (∀ r ∈ rows, r.length = sz) → rows.flatten.length = rows.length * sz
  | [], _ => by simp
  | r :: rows, h => by
    rw [List.flatten_cons, List.length_append, h r (by simp), flatten_len fun q hq => h q (by simp [hq])]
    simp [Nat.add_mul]; omega

theorem setL_flatten {sz : Nat} : ∀ {rows : List (List AV)} {i : Nat} {row : List AV}, (∀ r ∈ rows, r.length = sz) → row.length = sz → i < rows.length → setL rows.flatten (i * sz) row = (rows.set i row).flatten
  | [], i, row, _, _, h => by simp at h
  | r :: rows, 0, row, h, hr, _ => by
    have h0 := h r (by simp)
    rw [set_eq_setL _ _ _ (by rw [flatten_len h]; simp [Nat.add_mul]; omega)]
    simp [hr, ← h0]
  | r :: rows, i + 1, row, h, hr, hi => by
    have h0 := h r (by simp)
    have ih := setL_flatten (rows := rows) (i := i) (row := row) (fun q hq => h q (by simp [hq])) hr (by simpa using hi)
    have hl := flatten_len (rows := rows) fun q hq => h q (by simp [hq])
    have hi' : i < rows.length := by simpa using hi
    have hb : (i + 1) * sz ≤ rows.length * sz := Nat.mul_le_mul_right _ hi'
    rw [Nat.add_mul] at hb
    rw [set_eq_setL _ _ _ (by rw [hl, hr]; omega)] at ih
    rw [set_eq_setL _ _ _ (by rw [flatten_len h]; simp [Nat.add_mul]; omega)]
    rw [List.set_cons_succ, List.flatten_cons, List.flatten_cons, ← ih]
    have e1 : (i + 1) * sz = r.length + i * sz := by rw [Nat.add_mul, h0]; omega
    rw [e1, List.take_length_add_append, Nat.add_assoc, List.drop_length_add_append]
    simp

theorem mkRows_eq (z : List AV) (n : Nat) : mkRows z n = (List.replicate n z).flatten := by
  induction n with
  | zero => rfl
  | succ n ih => simp [mkRows, ih, List.replicate_succ]

theorem splitRows_flatten {sz : Nat} : ∀ {rows : List (List AV)}, (∀ r ∈ rows, r.length = sz) → splitRows sz rows.length rows.flatten = rows
  | [], _ => rfl
  | r :: rows, h => by
    have h0 := h r (by simp)
    simp only [List.length_cons, splitRows, List.flatten_cons]
    rw [← h0, List.take_left, List.drop_left, h0, splitRows_flatten fun q hq => h q (by simp [hq])]

theorem mapM_agg {f : AV → Option AV} : ∀ {rows : List (List AV)}, (∀ r ∈ rows, ∀ v ∈ r, f v = some v) → rows.mapM (fun row => (row.mapM f).map AV.agg) = some (rows.map AV.agg)
  | [], _ => rfl
  | r :: rows, h => by
    have hr : r.mapM f = some r := by
      have := h r (by simp)
      clear h
      induction r with
      | nil => rfl
      | cons v r ih => simp [List.mapM_cons, this v (by simp), ih fun u hu => this u (by simp [hu])]
    have ih := mapM_agg (rows := rows) fun q hq => h q (List.mem_cons_of_mem _ hq)
    simp only [List.mapM_cons, hr, Option.map_some, Option.bind_eq_bind, Option.bind_some, ih, Option.pure_def, List.map_cons]

section
variable {σ : Store}
theorem rdN_rows {sz x : Nat} {rows : List (List AV)} (hb : σ.blk x = some (.cells rows.flatten)) (hr : ∀ r ∈ rows, r.length = sz) : rdN (rows.length * sz) (.hptr x 0) σ = some rows.flatten := by
  have h1 := flatten_len hr
  simp only [rdN, hb, Nat.zero_add]
  rw [if_pos (by omega), List.drop_zero, ← h1, List.take_length]
/-- A row of the store, seen as immutable data. -/
theorem view_h {sz x d : Nat} {rows : List (List AV)} (hb : σ.blk x = some (.cells rows.flatten)) (hr : ∀ r ∈ rows, r.length = sz) (hv : ∀ r ∈ rows, ∀ v ∈ r, view σ d v = some v) :
    view σ (d + 1) (.hslice sz x 0 rows.length) = some (.pslice sz (rows.map .agg)) := by
  rw [view, rdN_rows hb hr]
  simp only [Option.bind_some, splitRows_flatten hr, mapM_agg hv, Option.map_some]
/-- A whole row is written. -/
theorem wr_rows {sz x i : Nat} {rows : List (List AV)} {row : List AV} (hb : σ.blk x = some (.cells rows.flatten)) (hr : ∀ r ∈ rows, r.length = sz) (hrow : row.length = sz) (hi : i < rows.length) :
    wr (.hptr x (i * sz)) row σ = some (σ.upd x (some (.cells (rows.set i row).flatten))) := by
  have h1 := flatten_len hr
  have hb2 : (i + 1) * sz ≤ rows.length * sz := Nat.mul_le_mul_right _ hi
  rw [Nat.add_mul] at hb2
  have : i * sz + row.length ≤ rows.flatten.length := by rw [h1, hrow]; omega
  simp only [wr, hb, if_pos this, setL_flatten hr hrow hi]
theorem take_set {rows : List (List AV)} {i : Nat} {row : List AV} (hi : i < rows.length) : (rows.set i row).take (i + 1) = rows.take i ++ [row] := by
  apply List.ext_getElem?
  intro j
  simp only [List.getElem?_take, List.getElem?_set, List.getElem?_append, List.length_take]
  have : min i rows.length = i := by omega
  rw [this]
  by_cases c1 : j < i
  · have : j < i + 1 := by omega
    have : ¬ i = j := by omega
    simp [*]
  · by_cases c2 : j = i
    · subst c2; simp [hi]
    · have : ¬ j < i + 1 := by omega
      have e : j - i = (j - i - 1) + 1 := by omega
      simp only [if_neg this, if_neg c1]
      rw [e]; simp
theorem mkSlice_new {z : List AV} {n : Nat} (h : n ≤ 4294967296) : mkSlice z (.int .i64 n) σ = some (.hslice z.length σ.next 0 n, σ.add (.cells (List.replicate n z).flatten)) := by
  have h1 : 0 ≤ (n : Int) ∧ (n : Int) ≤ (maxLen' : Nat) := ⟨by omega, by simp only [maxLen']; omega⟩
  simp only [mkSlice, if_pos h1, mkRows_eq]
  simp
end
end Go.Asm
