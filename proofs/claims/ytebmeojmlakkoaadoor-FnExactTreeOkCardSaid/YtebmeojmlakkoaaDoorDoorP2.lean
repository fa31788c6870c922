import Derived.Test.YtebmeojmlakkoaaDoorDoorP1
import Derived.Test.YtebmeojmlakkoaaDoorAsm25
set_option linter.all false
namespace Go.Asm.DoorF
open Go Go.Asm
section
variable {D : Ctx} (H : Door D)

theorem row_upd {σ : Store} {x : Nat} {b : Option Blk} : (σ.upd x b).blk x = b := by simp [Store.upd]

theorem toStringS_loop (l : List ByteArray) (k : Cur 0) (t : Store) (hn : l.length ≤ 1048576) : ∀ (n i : Nat) (σ : Store) (rows : List (List AV)), n = l.length - i → i ≤ l.length → rows.length = l.length → (∀ r ∈ rows, r.length = 1) →
    σ.blk 0 = some (.cells rows.flatten) →
    ∃ σ', lpFix 1 (lp_laws_toStringS_1 D (encS l) (.hslice 1 0 0 l.length, t) k) (.int .i64 i) σ = k σ' ∧ σ'.blk 0 = some (.cells (rows.take i ++ (l.drop i).map fun s => [AV.str s]).flatten) := by
  intro n
  induction n with
  | zero =>
    intro i σ rows hi h1 h2 h3 hb
    have e : i = l.length := by omega
    refine ⟨σ, ?_, ?_⟩
    · rw [lpFix_eq (lp_laws_toStringS_1_mono _ _ _ _)]
      have : ¬ (i < l.length) := by omega
      simp [lp_laws_toStringS_1, this]
    · subst e
      rw [hb, List.take_of_length_le (by omega), List.drop_length]; simp
  | succ n ih =>
    intro i σ rows hi h1 h2 h3 hb
    have hil : i < l.length := by omega
    have hs : l[i]? = some l[i] := List.getElem?_eq_getElem hil
    have hw := wr_rows (row := [.str l[i]]) hb h3 rfl (show i < rows.length by omega)
    obtain ⟨σ', h4, h5⟩ := ih (i + 1) (σ.upd 0 (some (.cells (rows.set i [.str l[i]]).flatten))) (rows.set i [.str l[i]]) (by omega) (by omega) (by simpa using h2)
      (fun r hr => by rcases List.mem_or_eq_of_mem_set hr with h | h
                      · exact h3 r h
                      · subst h; rfl) row_upd
    refine ⟨σ', ?_, ?_⟩
    · rw [lpFix_eq (lp_laws_toStringS_1_mono _ _ _ _)]
      simp [lp_laws_toStringS_1, hil, idx_encS hs, idx_h hil]
      rw [Nat.mul_one] at hw
      simp [hw, bin_add (a := i) (b := 1) (by omega) (by omega)]
      exact h4
    · rw [h5, take_set (by omega), List.drop_eq_getElem_cons hil, List.map_cons, List.append_assoc, List.singleton_append]

theorem toIntS_loop (l : List Int) (k : Cur 0) (t : Store) (hn : l.length ≤ 1048576) : ∀ (n i : Nat) (σ : Store) (rows : List (List AV)), n = l.length - i → i ≤ l.length → rows.length = l.length → (∀ r ∈ rows, r.length = 1) →
    σ.blk 0 = some (.cells rows.flatten) →
    ∃ σ', lpFix 1 (lp_laws_toIntS_1 D (encI l) (.hslice 1 0 0 l.length, t) k) (.int .i64 i) σ = k σ' ∧ σ'.blk 0 = some (.cells (rows.take i ++ (l.drop i).map fun s => [AV.int .i64 s]).flatten) := by
  intro n
  induction n with
  | zero =>
    intro i σ rows hi h1 h2 h3 hb
    have e : i = l.length := by omega
    refine ⟨σ, ?_, ?_⟩
    · rw [lpFix_eq (lp_laws_toIntS_1_mono _ _ _ _)]
      have : ¬ (i < l.length) := by omega
      simp [lp_laws_toIntS_1, this]
    · subst e
      rw [hb, List.take_of_length_le (by omega), List.drop_length]; simp
  | succ n ih =>
    intro i σ rows hi h1 h2 h3 hb
    have hil : i < l.length := by omega
    have hs : l[i]? = some l[i] := List.getElem?_eq_getElem hil
    have hw := wr_rows (row := [.int .i64 l[i]]) hb h3 rfl (show i < rows.length by omega)
    obtain ⟨σ', h4, h5⟩ := ih (i + 1) (σ.upd 0 (some (.cells (rows.set i [.int .i64 l[i]]).flatten))) (rows.set i [.int .i64 l[i]]) (by omega) (by omega) (by simpa using h2)
      (fun r hr => by rcases List.mem_or_eq_of_mem_set hr with h | h
                      · exact h3 r h
                      · subst h; rfl) row_upd
    refine ⟨σ', ?_, ?_⟩
    · rw [lpFix_eq (lp_laws_toIntS_1_mono _ _ _ _)]
      simp [lp_laws_toIntS_1, hil, idx_encI hs, idx_h hil]
      rw [Nat.mul_one] at hw
      simp [hw, bin_add (a := i) (b := 1) (by omega) (by omega)]
      exact h4
    · rw [h5, take_set (by omega), List.drop_eq_getElem_cons hil, List.map_cons, List.append_assoc, List.singleton_append]
theorem toStringS (H : Door D) (l : List ByteArray) (hn : l.length ≤ 1048576) : callP D 38 [encS l] = some (encS l) := by
  obtain ⟨σ', h1, h2⟩ := toStringS_loop (D := D) l (fun s => some (.hslice 1 0 0 l.length, s)) (Store.empty.add (.cells (List.replicate l.length [AV.str ⟨#[]⟩]).flatten)) hn l.length 0
    (Store.empty.add (.cells (List.replicate l.length [AV.str ⟨#[]⟩]).flatten)) (List.replicate l.length [.str ⟨#[]⟩]) (by omega) (by omega) (by simp) (fun r hr => by rw [(List.mem_replicate.1 hr).2]; rfl) rfl
  have hc : D.call 38 [encS l] Store.empty = some (.hslice 1 0 0 l.length, σ') := by
    rw [H.f38]
    unfold sh_laws_toStringS
    simp only [len_encS, Option.bind_some, mkSlice_new (show l.length ≤ 4294967296 by omega)]
    exact h1
  refine callP_eq (by simp [depth]) hc ?_
  have := view_h (d := 11) (sz := 1) (rows := l.map fun s => [AV.str s]) (by simpa using h2) (fun r hr => by obtain ⟨s, _, rfl⟩ := List.mem_map.1 hr; rfl) (fun r hr v hv => by
    obtain ⟨s, _, rfl⟩ := List.mem_map.1 hr
    simp at hv; subst hv; rfl)
  simp at this
  rw [show depth = 11 + 1 from rfl, this, encS]
  rfl
theorem toIntS (H : Door D) (l : List Int) (hn : l.length ≤ 1048576) : callP D 39 [encI l] = some (encI l) := by
  obtain ⟨σ', h1, h2⟩ := toIntS_loop (D := D) l (fun s => some (.hslice 1 0 0 l.length, s)) (Store.empty.add (.cells (List.replicate l.length [AV.int .i64 0]).flatten)) hn l.length 0
    (Store.empty.add (.cells (List.replicate l.length [AV.int .i64 0]).flatten)) (List.replicate l.length [.int .i64 0]) (by omega) (by omega) (by simp) (fun r hr => by rw [(List.mem_replicate.1 hr).2]; rfl) rfl
  have hc : D.call 39 [encI l] Store.empty = some (.hslice 1 0 0 l.length, σ') := by
    rw [H.f39]
    unfold sh_laws_toIntS
    simp only [len_encI, Option.bind_some, mkSlice_new (show l.length ≤ 4294967296 by omega)]
    exact h1
  refine callP_eq (by simp [depth]) hc ?_
  have := view_h (d := 11) (sz := 1) (rows := l.map fun s => [AV.int .i64 s]) (by simpa using h2) (fun r hr => by obtain ⟨s, _, rfl⟩ := List.mem_map.1 hr; rfl) (fun r hr v hv => by
    obtain ⟨s, _, rfl⟩ := List.mem_map.1 hr
    simp at hv; subst hv; rfl)
  simp at this
  rw [show depth = 11 + 1 from rfl, this, encI]
  rfl
theorem toPart (H : Door D) (p : LPart) (hp : p.Small) : callP D 20 [.agg (encPart p)] = some (.agg (encPart p)) := by
  refine callP_eq (σ' := Store.empty) (v := .agg (encPart p)) (by simp [depth]) ?_ (by simp [depth])
  rw [H.f20]
  unfold sh_laws_toPart
  simp [encPart, toStringS H p.names hp.names, toIntS H p.kids hp.kids]

theorem toPartS_loop (H : Door D) (l : List LPart) (hl : ∀ p ∈ l, p.Small) (k : Cur 0) (t : Store) (hn : l.length ≤ 1048576) : ∀ (n i : Nat) (σ : Store) (rows : List (List AV)), n = l.length - i → i ≤ l.length → rows.length = l.length → (∀ r ∈ rows, r.length = 10) →
    σ.blk 0 = some (.cells rows.flatten) →
    ∃ σ', lpFix 1 (lp_laws_toPartS_1 D (encParts l) (.hslice 10 0 0 l.length, t) k) (.int .i64 i) σ = k σ' ∧ σ'.blk 0 = some (.cells (rows.take i ++ (l.drop i).map encPart).flatten) := by
  intro n
  induction n with
  | zero =>
    intro i σ rows hi h1 h2 h3 hb
    have e : i = l.length := by omega
    refine ⟨σ, ?_, ?_⟩
    · rw [lpFix_eq (lp_laws_toPartS_1_mono _ _ _ _)]
      have : ¬ (i < l.length) := by omega
      simp [lp_laws_toPartS_1, this]
    · subst e
      rw [hb, List.take_of_length_le (by omega), List.drop_length]; simp
  | succ n ih =>
    intro i σ rows hi h1 h2 h3 hb
    have hil : i < l.length := by omega
    have hs : l[i]? = some l[i] := List.getElem?_eq_getElem hil
    have hw := wr_rows (row := encPart l[i]) hb h3 rfl (show i < rows.length by omega)
    obtain ⟨σ', h4, h5⟩ := ih (i + 1) (σ.upd 0 (some (.cells (rows.set i (encPart l[i])).flatten))) (rows.set i (encPart l[i])) (by omega) (by omega) (by simpa using h2)
      (fun r hr => by rcases List.mem_or_eq_of_mem_set hr with h | h
                      · exact h3 r h
                      · subst h; rfl) row_upd
    refine ⟨σ', ?_, ?_⟩
    · rw [lpFix_eq (lp_laws_toPartS_1_mono _ _ _ _)]
      have ha : asplit 10 (.agg (encPart l[i])) = some (encPart l[i]) := rfl
      simp [lp_laws_toPartS_1, hil, idx_encParts hs, idx_h hil, toPart H l[i] (hl _ (List.getElem_mem hil)), ha, hw, bin_add (a := i) (b := 1) (by omega) (by omega)]
      exact h4
    · rw [h5, take_set (by omega), List.drop_eq_getElem_cons hil, List.map_cons, List.append_assoc, List.singleton_append]
theorem toPartS (H : Door D) (l : List LPart) (hl : SmallTree l) : callP D 13 [encParts l] = some (encParts l) := by
  have hn := hl.len
  let z : List AV := [.int .i64 0, .int .i64 0, .int .i64 0, .int .i64 0, .int .i64 0, .int .i64 0, .flt 0, .str ⟨#[]⟩, .nilslice, .nilslice]
  obtain ⟨σ', h1, h2⟩ := toPartS_loop H l hl.part (fun s => some (.hslice 10 0 0 l.length, s)) (Store.empty.add (.cells (List.replicate l.length z).flatten)) hn l.length 0
    (Store.empty.add (.cells (List.replicate l.length z).flatten)) (List.replicate l.length z) (by omega) (by omega) (by simp) (fun r hr => by rw [(List.mem_replicate.1 hr).2]; rfl) rfl
  have hc : D.call 13 [encParts l] Store.empty = some (.hslice 10 0 0 l.length, σ') := by
    rw [H.f13]
    unfold sh_laws_toPartS
    simp only [len_encParts, Option.bind_some, mkSlice_new (show l.length ≤ 4294967296 by omega)]
    exact h1
  refine callP_eq (by simp [depth]) hc ?_
  have := view_h (d := 11) (sz := 10) (rows := l.map encPart) (by simpa using h2) (fun r hr => by obtain ⟨s, _, rfl⟩ := List.mem_map.1 hr; rfl) (fun r hr v hv => by
    obtain ⟨p, _, rfl⟩ := List.mem_map.1 hr
    simp only [encPart, List.mem_cons, List.not_mem_nil, or_false] at hv
    rcases hv with rfl | rfl | rfl | rfl | rfl | rfl | rfl | rfl | rfl | rfl <;> simp)
  rw [List.length_map] at this
  rw [show depth = 11 + 1 from rfl, this, encParts, List.map_map]
  rfl
theorem toTree (H : Door D) (l : List LPart) (hl : SmallTree l) : callP D 6 [encTree l] = some (encTree l) := by
  refine callP_eq (σ' := Store.empty) (v := encTree l) (by simp [depth]) ?_ (by simp [depth])
  rw [H.f6]
  unfold sh_laws_toTree
  simp [encTree, toPartS H l hl]
end
end Go.Asm.DoorF
