import Derived.Test.YtebmeojmlakkoaaDoorAsm9
set_option linter.all false
/- What each operation comes to: sixth part. -/
namespace Go.Asm

section
variable {ρ : Type} {P : Program} {Z : Base} {N : Nat} {w : World} {G : Gh} {lm : Nat → Option Nat} {env : Env} {loc : Loc} {σ : Store} {a : Act}
  {k : Env → Loc → Store → Option ρ} {x : ρ} {K : Act → World → Prop} {Q : Exit → Act → World → Prop} {o : Oper} {D : Ctx}

def isStr (P : Program) (t : Nat) : Bool :=
  match P.underlying t with
  | some .string => true
  | _ => false
theorem isStr_inv {t : Nat} (h : isStr P t = true) : P.underlying t = some .string := by
  unfold isStr at h
  split at h
  · assumption
  · cases h

theorem sound_idxS (S : St Z N w G lm env loc σ a) (C : Cont Z N k x G lm w a o.dst.toList K) (hd : ∀ t, o.dst = some t → t < N) {t : Nat} {y z : Operand} {y0 z0 : Opd}
    (ho : o.op = .index t y z) (hy : opdOk y y0 = true) (hz : opdOk z z0 = true) (ht : isStr P t = true)
    (h : opK D o.dst (.idxS y0 z0) env loc σ k = some x) : o.wp P a w K Q := by
  obtain ⟨v, hv, h⟩ := val_some h
  obtain ⟨v2, hv2, h⟩ := val_some h
  obtain ⟨u, hu, h⟩ := bind_some h
  have hr := val_rel S hy hv
  have hr2 := val_rel S hz hv2
  have hte := isStr_inv ht
  unfold idxS at hu
  split at hu
  · rename_i s kd i
    split at hu
    · rename_i hi
      rw [Option.map_eq_some_iff] at hu
      obtain ⟨b, hb, rfl⟩ := hu
      refine op_val (e := .v _) (c := .int .u8 b.toNat) S C hd ?_ .int h
      unfold execOp
      simp only [ho, hr.str_inv, hr2.int_inv, Instr.index, asIntOf, Sem.run_bind, Sem.run_pure, Result.andThen_ok, run_underlying hte, if_pos hi, hb]
    · cases hu
  · cases hu

theorem sound_sliceS (S : St Z N w G lm env loc σ a) (C : Cont Z N k x G lm w a o.dst.toList K) (hd : ∀ t, o.dst = some t → t < N) {t : Nat} {y : Operand} {y0 : Opd} {lo hi : Option Operand} {lo0 hi0 : Option Opd}
    (ho : o.op = .slice t y lo hi none) (hy : opdOk y y0 = true) (hlo : opdOOk lo lo0 = true) (hhi : opdOOk hi hi0 = true) (ht : isStr P t = true)
    (h : opK D o.dst (.sliceS y0 lo0 hi0) env loc σ k = some x) : o.wp P a w K Q := by
  obtain ⟨v, hv, ha⟩ := val_some h
  clear h
  obtain ⟨lo1, hb, hl1⟩ := valO_some S hlo ha
  clear ha
  obtain ⟨hi1, hc, hh1⟩ := valO_some S hhi hb
  clear hb
  obtain ⟨u, hu, h⟩ := bind_some hc
  clear hc
  have hte := isStr_inv ht
  have hr := val_rel S hy hv
  unfold sliceS at hu
  split at hu
  · rename_i s
    obtain ⟨l, hl, hu1⟩ := bind_some hu
    clear hu
    obtain ⟨m, hm, hu⟩ := bind_some hu1
    clear hu1
    split at hu
    · rename_i hc
      obtain ⟨h0, h1, h2⟩ := hc
      cases hu
      refine op_val (e := .v _) (c := .string (s.extract l.toNat m.toNat)) S C hd ?_ .str h
      have hb := run_bounds (P := P) (w := w) (isS := false) (hl1 _ _ hl) (hh1 _ _ hm) h0 h1 h2
      unfold execOp
      simp only [ho, hr.str_inv, Instr.sliceAt, Instr.slice, Sem.run_bind, Sem.run_pure, Result.andThen_ok, run_underlying hte, Option.map_none, Option.isSome_none, Bool.false_eq_true, if_false, hb]
    · cases hu
  · cases hu

theorem sound_mkIface (S : St Z N w G lm env loc σ a) (C : Cont Z N k x G lm w a o.dst.toList K) (hd : ∀ t, o.dst = some t → t < N) {t : Nat} {y : Operand} {y0 : Opd}
    (ho : o.op = .makeInterface t y) (hy : opdOk y y0 = true) (ht : (match P.underlying t with
      | some (.interface _) => false
      | some _ => true
      | none => false) = true)
    (h : opK D o.dst (.mkIface t y0) env loc σ k = some x) : o.wp P a w K Q := by
  obtain ⟨v, hv, h⟩ := val_some h
  refine op_val (e := .v (.iface t v)) (c := .iface t (a.eval y)) S C hd ?_ (.iface (val_rel S hy hv)) h
  unfold execOp
  simp only [ho, Instr.makeInterface]
  cases hu : P.underlying t with
  | none => simp [hu] at ht
  | some d => cases d <;> simp_all [run_underlying hu]

theorem sound_mkFunc (S : St Z N w G lm env loc σ a) (C : Cont Z N k x G lm w a o.dst.toList K) (hd : ∀ t, o.dst = some t → t < N) {f : Nat} {first captured : Array Operand} {first0 captured0 : List Opd}
    (ho : o.op = .makeFunc (.func f) first captured) (h1 : opdsOk first.toList first0 = true) (h2 : opdsOk captured.toList captured0 = true)
    (h : opK D o.dst (.mkFunc f first0 captured0) env loc σ k = some x) : o.wp P a w K Q := by
  obtain ⟨vs, hvs, h⟩ := vals_some S h1 h
  obtain ⟨us, hus, h⟩ := vals_some S h2 h
  refine op_val (e := .v (.func f vs us)) (c := .func (.func f) (first.map a.eval) (captured.map a.eval)) S C hd ?_ ?_ h
  · unfold execOp
    simp only [ho, Instr.makeFunc, Sem.run_bind, Sem.run_pure, Result.andThen_ok]
  · refine .func (by have := hvs.1; simpa using this) (by have := hus.1; simpa using this) (fun i v c hv hc => hvs.2 i v c hv ?_) (fun i v c hv hc => hus.2 i v c hv ?_)
    · rw [← Array.toList_map, Array.getElem?_toList]; exact hc
    · rw [← Array.toList_map, Array.getElem?_toList]; exact hc

theorem sound_extr (S : St Z N w G lm env loc σ a) (C : Cont Z N k x G lm w a o.dst.toList K) (hd : ∀ t, o.dst = some t → t < N) {i : Nat} {y : Operand} {y0 : Opd}
    (ho : o.op = .extract y i) (hy : opdOk y y0 = true)
    (h : opK D o.dst (.extr y0 i) env loc σ k = some x) : o.wp P a w K Q := by
  obtain ⟨v, hv, h1⟩ := val_some h
  clear h
  obtain ⟨u, hu, h⟩ := bind_some h1
  clear h1
  have hr := val_rel S hy hv
  unfold extr at hu
  split at hu
  · rename_i vs
    generalize hyv : a.eval y = c at hr
    cases hr with
    | tuple h1 h2 =>
      rename_i arr
      obtain ⟨c, hc, hrc⟩ := VRels.arr (VRels.of_tuple (.tuple h1 h2)) i u hu
      refine op_val (e := .v u) (c := c) S C hd ?_ hrc h
      unfold execOp
      simp only [ho, hyv, Instr.extract, hc, Sem.run_bind, Sem.run_pure, Result.andThen_ok]
  · cases hu

/-! #### building -/
def partsOk (tot : Nat) (place : Nat → Option (Nat × Nat)) : List (Nat × Operand) → List (Nat × Nat × Bool × Opd) → Bool
  | [], [] => true
  | (i, o) :: r, (off, n, agg, p) :: r' => (match place i with
      | some (off', n') => off'.beq off && n'.beq n && (agg || n.beq 1) && !n.beq 0 && (off + n).ble tot
      | none => false) && opdOk o p && partsOk tot place r r'
  | _, _ => false

theorem foldl_setA (arr : Array Value) (off : Nat) (us : List Value) : ∀ (n : Nat), (us.zipIdx n).foldl (fun cs (c, j) => cs.setIfInBounds (off + j) c) arr = setA arr (off + n) us := by
  induction us generalizing arr with
  | nil => intro n; rfl
  | cons u us ih =>
    intro n
    simp only [List.zipIdx_cons, List.foldl_cons]
    rw [ih, setA]
    rfl
theorem zipIdx_foldl_setA (arr us : Array Value) (off : Nat) : us.zipIdx.foldl (fun cs (c, j) => cs.setIfInBounds (off + j) c) arr = setA arr off us.toList := by
  have := foldl_setA arr off us.toList 0
  rw [← Array.foldl_toList]
  simpa using this

theorem build_fill (S : St Z N w G lm env loc σ a) {place : Nat → Option (Nat × Nat)} : ∀ {ps : List (Nat × Operand)} {qs : List (Nat × Nat × Bool × Opd)} {cells : List AV} {arr : Array Value} {k : List AV → Option ρ} {r : ρ},
    partsOk arr.size place ps qs = true → VRels w.heap G cells arr.toList → Ones arr.toList → buildK env cells qs k = some r →
    ∃ arr' cells', Instr.fill place arr (ps.map fun p => (p.1, a.eval p.2)) = some arr' ∧ VRels w.heap G cells' arr'.toList ∧ Ones arr'.toList ∧ k cells' = some r
  | [], [], cells, arr, k, r, _, hr, ho, h => ⟨arr, cells, rfl, hr, ho, h⟩
  | (i, o) :: ps, (off, n, agg, p) :: qs, cells, arr, k, r, hp, hr, ho, h => by
    simp only [partsOk, Bool.and_eq_true] at hp
    obtain ⟨⟨hpl, hop⟩, hrest⟩ := hp
    split at hpl
    · rename_i off' n' hpi
      simp only [Bool.and_eq_true] at hpl
      obtain ⟨⟨⟨⟨e1, e2⟩, e3⟩, e4⟩, e5⟩ := hpl
      have e1 := Nat.eq_of_beq_eq_true e1
      have e2 := Nat.eq_of_beq_eq_true e2
      subst e1; subst e2
      obtain ⟨v, hv, h⟩ := val_some h
      have hvr := val_rel S hop hv
      have hpos : 0 < n' := by
        rcases Nat.eq_zero_or_pos n' with e | e
        · subst e; simp at e4
        · exact e
      obtain ⟨us, hk, hlen, hcl⟩ := cellsK_some h (fun hag => by subst hag; simpa using e3) hpos
      obtain ⟨q1, q2⟩ := hcl hvr
      have hsz : (a.eval o).cells.size = n' := by have := q1.1; rw [hlen] at this; simpa using this.symm
      have hfit := Nat.le_of_ble_eq_true e5
      have hset : VRels w.heap G (setL cells off' us) (setA arr off' (a.eval o).cells.toList).toList := by
        refine ⟨by rw [setL_length]; simpa [setA_size] using hr.1, fun j u c hu hc => ?_⟩
        have hP := PRel.setL (fun j u hj => VRels.arr hr j u hj) q1 off'
        obtain ⟨c', hc', hrel⟩ := hP j u hu
        rw [Array.getElem?_toList, hc'] at hc
        cases hc
        exact hrel
      obtain ⟨arr', cells', f1, f2, f3, f4⟩ := build_fill S (arr := setA arr off' (a.eval o).cells.toList) (by rw [setA_size]; exact hrest) hset (setA_ones ho q2) hk
      refine ⟨arr', cells', ?_, f2, f3, f4⟩
      simp only [List.map_cons, Instr.fill, hpi]
      rw [if_neg (by simp [hsz]; omega), zipIdx_foldl_setA]
      exact f1
    · cases hpl
  | [], _ :: _, _, _, _, _, hp, _, _, _ => by simp [partsOk] at hp
  | _ :: _, [], _, _, _, _, hp, _, _, _ => by simp [partsOk] at hp

/-- Where the parts of a struct or an array lie. -/
def placesL (P : Program) : List Field → Option (List (Nat × Nat))
  | [] => some []
  | f :: r => match P.info? f.type, placesL P r with
    | some i, some l => some ((f.offset, i.size) :: l)
    | _, _ => none
def buildOk (P : Program) (t : Nat) (zero : List AV) (ps : List (Nat × Operand)) (qs : List (Nat × Nat × Bool × Opd)) : Bool :=
  zeroOk P t zero &&
  match P.underlying t with
  | some (.struct fs) => match placesL P fs.toList with
    | some l => partsOk zero.length (l[·]?) ps qs
    | none => false
  | some (.array _ e) => match P.info? e with
    | some i => partsOk zero.length (fun j => some (j * i.size, i.size)) ps qs
    | none => false
  | _ => false
theorem run_places : ∀ (fs : List Field) (l : List (Nat × Nat)), placesL P fs = some l → (fs.mapM fun f => do pure (f.offset, ← sizeOf f.type) : Sem (List (Nat × Nat))).run P w = .ok l w
  | [], l, h => by cases h; simp
  | f :: fs, l, h => by
    simp only [placesL] at h
    split at h
    · rename_i i l' h1 h2
      cases h
      have ih := run_places fs l' h2
      have hs : (sizeOf f.type).run P w = .ok i.size w := by simp [sizeOf, typeInfo, h1]
      simp only [List.mapM_cons, Sem.run_bind, hs, Result.andThen_ok, Sem.run_pure, ih]
    · cases h

theorem sound_build (S : St Z N w G lm env loc σ a) (C : Cont Z N k x G lm w a o.dst.toList K) (hd : ∀ t, o.dst = some t → t < N) {t : Nat} {zero : List AV} {ps : Array (Nat × Operand)} {qs : List (Nat × Nat × Bool × Opd)}
    (ho : o.op = .build t ps) (hb : buildOk P t zero ps.toList qs = true) (h : opK D o.dst (.build zero qs) env loc σ k = some x) : o.wp P a w K Q := by
  simp only [buildOk, Bool.and_eq_true] at hb
  obtain ⟨hz, hb⟩ := hb
  obtain ⟨z, hz1, hz2, hz3⟩ := zero_run hz
  have hlen : zero.length = z.cells.size := by have := (hz3 w.heap G).1; simpa using this
  simp only [opK] at h
  have fin : ∀ place, partsOk zero.length place ps.toList qs = true →
      (∀ arr, Instr.fill place z.cells (ps.toList.map fun p => (p.1, a.eval p.2)) = some arr → (execOp a.eval o).run P w = .ok (.value (.agg arr)) w) → o.wp P a w K Q := by
    intro place hp hrun
    rw [hlen] at hp
    obtain ⟨arr', cells', f1, f2, f3, f4⟩ := build_fill S hp (hz3 w.heap G) hz2 h
    exact op_val (e := .v (.agg cells')) S C hd (hrun arr' f1) (f2.agg f3) f4
  have hps : ∀ arr place, Instr.fill place z.cells (ps.toList.map fun p => (p.1, a.eval p.2)) = some arr → Instr.fill place z.cells (ps.map fun (i, y) => (i, a.eval y)).toList = some arr := by
    intro arr place h
    rw [Array.toList_map]
    exact h
  split at hb
  · rename_i fs hu
    split at hb
    · rename_i l hl
      refine fin _ hb (fun arr harr => ?_)
      have hm : (fs.mapM fun f => do pure (f.offset, ← sizeOf f.type) : Sem (Array (Nat × Nat))).run P w = .ok l.toArray w := by
        rw [Array.mapM_eq_mapM_toList]
        simp only [Sem.run_map, run_places fs.toList l hl]
        rfl
      have := hps arr _ harr
      unfold execOp
      simp only [ho, Instr.build, Sem.run_bind, hz1, Result.andThen_ok, run_underlying hu, hm, List.getElem?_toArray, this, Sem.run_pure]
    · cases hb
  · rename_i len e hu
    split at hb
    · rename_i i hi
      refine fin _ hb (fun arr harr => ?_)
      have := hps arr _ harr
      unfold execOp
      simp only [ho, Instr.build, Sem.run_bind, hz1, Result.andThen_ok, run_underlying hu, sizeOf, typeInfo, run_program, hi, this, Sem.run_pure]
    · cases hb
  · cases hb

/-! #### slices of literals -/
def rpartsOk (len sz : Nat) : List (Nat × Operand) → List (Nat × Bool × Opd) → Bool
  | [], [] => true
  | (i, o) :: r, (j, agg, p) :: r' => i.beq j && (agg || sz.beq 1) && i.blt len && opdOk o p && rpartsOk len sz r r'
  | _, _ => false

/-- Rows of a slice being built, and the model's flat cells. -/
def RRel (h : Array Obj) (G : Gh) (sz : Nat) (rows : List AV) (arr : Array Value) : Prop :=
  arr.size = rows.length * sz ∧ (∀ (i : Nat) (r : AV), rows[i]? = some r → ∃ row : List AV, r = .agg row ∧ row.length = sz) ∧
  ∀ (i : Nat) (row : List AV) (j : Nat) (v : AV), rows[i]? = some (.agg row) → row[j]? = some v → ∃ c : Value, arr[i * sz + j]? = some c ∧ VRel h G v c

theorem setA_get_lt (arr : Array Value) (off : Nat) (us : List Value) (i : Nat) (h : i < off) : (setA arr off us)[i]? = arr[i]? := by
  induction us generalizing arr off with
  | nil => rfl
  | cons u us ih =>
    rw [setA, ih _ _ (by omega), Array.getElem?_setIfInBounds_ne (by omega)]
theorem setA_get_ge (arr : Array Value) (off : Nat) (us : List Value) (i : Nat) (h : off + us.length ≤ i) : (setA arr off us)[i]? = arr[i]? := by
  induction us generalizing arr off with
  | nil => rfl
  | cons u us ih =>
    simp only [List.length_cons] at h
    rw [setA, ih _ _ (by omega), Array.getElem?_setIfInBounds_ne (by omega)]
theorem setA_get_in (arr : Array Value) (off : Nat) (us : List Value) (j : Nat) (hj : j < us.length) (hfit : off + us.length ≤ arr.size) : (setA arr off us)[off + j]? = us[j]? := by
  induction us generalizing arr off j with
  | nil => simp at hj
  | cons u us ih =>
    simp only [List.length_cons] at hj hfit
    cases j with
    | zero =>
      rw [setA, setA_get_lt _ _ _ _ (by omega)]
      have : off < arr.size := by omega
      simp [this]
    | succ j =>
      rw [setA, show off + (j + 1) = (off + 1) + j by omega, ih _ _ _ (by omega) (by simp; omega)]
      simp

theorem RRel.set {h : Array Obj} {sz : Nat} {rows : List AV} {arr : Array Value} (r : RRel h G sz rows arr) {i : Nat} (hi : i < rows.length) {us : List AV} {cs : List Value} (hus : us.length = sz) (q : VRels h G us cs) :
    RRel h G sz (rows.set i (.agg us)) (setA arr (i * sz) cs) := by
  obtain ⟨h1, h2, h3⟩ := r
  have hcs : cs.length = sz := by rw [← q.1]; exact hus
  have hfit : i * sz + cs.length ≤ arr.size := by
    rw [h1, hcs]
    have : (i + 1) * sz ≤ rows.length * sz := Nat.mul_le_mul_right _ hi
    rw [Nat.add_mul] at this; omega
  refine ⟨by rw [setA_size, List.length_set]; exact h1, fun j r hj => ?_, fun j row m v hj hm => ?_⟩
  · rw [List.getElem?_set] at hj
    by_cases e : i = j
    · rw [if_pos e, if_pos hi] at hj
      cases hj; exact ⟨us, rfl, hus⟩
    · rw [if_neg e] at hj; exact h2 j r hj
  · rw [List.getElem?_set] at hj
    by_cases e : i = j
    · subst e
      rw [if_pos rfl, if_pos hi] at hj
      cases hj
      have hml := (List.getElem?_eq_some_iff.1 hm).1
      obtain ⟨c, hc, hr⟩ := q.get hm
      exact ⟨c, by rw [setA_get_in _ _ _ _ (by omega) hfit]; exact hc, hr⟩
    · rw [if_neg e] at hj
      obtain ⟨c, hc, hr⟩ := h3 j row m v hj hm
      obtain ⟨row', e1, e2⟩ := h2 j _ hj
      cases e1
      have hml := (List.getElem?_eq_some_iff.1 hm).1
      refine ⟨c, ?_, hr⟩
      rcases Nat.lt_or_gt_of_ne e with hlt | hgt
      · have : (i + 1) * sz ≤ j * sz := Nat.mul_le_mul_right _ hlt
        rw [Nat.add_mul] at this
        rw [setA_get_ge _ _ _ _ (by omega)]; exact hc
      · have : (j + 1) * sz ≤ i * sz := Nat.mul_le_mul_right _ hgt
        rw [Nat.add_mul] at this
        rw [setA_get_lt _ _ _ _ (by omega)]; exact hc

theorem rows_fill (S : St Z N w G lm env loc σ a) {sz : Nat} (hsz : 0 < sz) : ∀ {ps : List (Nat × Operand)} {qs : List (Nat × Bool × Opd)} {rows : List AV} {arr : Array Value} {k : List AV → Option ρ} {r : ρ},
    rpartsOk rows.length sz ps qs = true → RRel w.heap G sz rows arr → Ones arr.toList → rowsK env sz rows qs k = some r →
    ∃ arr' rows', Instr.fill (fun i => some (i * sz, sz)) arr (ps.map fun p => (p.1, a.eval p.2)) = some arr' ∧ RRel w.heap G sz rows' arr' ∧ Ones arr'.toList ∧ rows'.length = rows.length ∧ k rows' = some r
  | [], [], rows, arr, k, r, _, hr, ho, h => ⟨arr, rows, rfl, hr, ho, rfl, h⟩
  | (i, o) :: ps, (j, agg, p) :: qs, rows, arr, k, r, hp, hr, ho, h => by
    simp only [rpartsOk, Bool.and_eq_true] at hp
    obtain ⟨⟨⟨⟨e1, e3⟩, e4⟩, hop⟩, hrest⟩ := hp
    have e1 := Nat.eq_of_beq_eq_true e1
    subst e1
    have e4 : i < rows.length := Nat.le_of_ble_eq_true e4
    obtain ⟨v, hv, h⟩ := val_some h
    have hvr := val_rel S hop hv
    obtain ⟨us, hk, hlen, hcl⟩ := cellsK_some h (fun hag => by subst hag; simpa using e3) hsz
    obtain ⟨q1, q2⟩ := hcl hvr
    have hcs : (a.eval o).cells.size = sz := by have := q1.1; rw [hlen] at this; simpa using this.symm
    obtain ⟨arr', rows', f1, f2, f3, f4, f5⟩ := rows_fill S hsz (rows := rows.set i (.agg us)) (by rw [List.length_set]; exact hrest) (hr.set e4 hlen q1) (setA_ones ho q2) hk
    refine ⟨arr', rows', ?_, f2, f3, by rw [f4, List.length_set], f5⟩
    simp only [List.map_cons, Instr.fill]
    have hfit : (i + 1) * sz ≤ rows.length * sz := Nat.mul_le_mul_right _ e4
    rw [Nat.add_mul] at hfit
    rw [if_neg (by simp [hcs, hr.1]; omega), zipIdx_foldl_setA]
    exact f1
  | [], _ :: _, _, _, _, _, hp, _, _, _ => by simp [rpartsOk] at hp
  | _ :: _, [], _, _, _, _, hp, _, _, _ => by simp [rpartsOk] at hp

def bsliceOk (P : Program) (t sz : Nat) (zero : List AV) (len : Nat) (ps : List (Nat × Operand)) (qs : List (Nat × Bool × Opd)) : Bool :=
  match P.underlying t with
  | some (.slice e) => szOk P e sz && !sz.beq 0 && (len * sz).ble 16777216 && (if len = 0 then true else zeroOk P e zero && zero.length.beq sz) && rpartsOk len sz ps qs
  | _ => false

theorem zeros_get (zero : List AV) : ∀ (n i : Nat), (zeros zero n)[i]? = if i < n then some (.agg zero) else none
  | 0, i => by simp [zeros]
  | n + 1, 0 => by simp [zeros]
  | n + 1, i + 1 => by simp [zeros, zeros_get zero n i]
theorem zeros_length (zero : List AV) (n : Nat) : (zeros zero n).length = n := by
  induction n with
  | zero => rfl
  | succ n ih => simp [zeros, ih]

/-- The zero cells of n elements. -/
theorem made_rel {zero : List AV} {z : Value} {sz : Nat} (hz : ∀ hp G, VRels hp G zero z.cells.toList) (ho : Ones z.cells.toList) (hzl : zero.length = sz) (hsz : 0 < sz) (n : Nat) :
    RRel w.heap G sz (zeros zero n) (madeCells z.cells (n * sz)) ∧ Ones (madeCells z.cells (n * sz)).toList := by
  have hzs : z.cells.size = sz := by have := (hz w.heap G).1; rw [hzl] at this; simpa using this.symm
  have hget : ∀ i, i < n * sz → (madeCells z.cells (n * sz))[i]? = z.cells[i % sz]? := by
    intro i hi
    have hm : i % sz < z.cells.size := by rw [hzs]; exact Nat.mod_lt _ hsz
    simp [madeCells, hi, hzs]
    rw [getElem!_pos z.cells (i % sz) hm]
    simp [hm]
  refine ⟨⟨by rw [size_madeCells, zeros_length], fun i r hi => ?_, fun i row j v hi hj => ?_⟩, Ones.of fun i c hi => ?_⟩
  · rw [zeros_get] at hi
    split at hi
    · cases hi; exact ⟨zero, rfl, hzl⟩
    · cases hi
  · rw [zeros_get] at hi
    split at hi
    · rename_i hin
      cases hi
      have hjl := (List.getElem?_eq_some_iff.1 hj).1
      obtain ⟨c, hc, hr⟩ := VRels.arr (hz w.heap G) j v hj
      refine ⟨c, ?_, hr⟩
      have : (i + 1) * sz ≤ n * sz := Nat.mul_le_mul_right _ hin
      rw [Nat.add_mul] at this
      rw [hget _ (by omega), Nat.add_comm, Nat.add_mul_mod_self_right, Nat.mod_eq_of_lt (by omega)]
      exact hc
    · cases hi
  · rw [Array.getElem?_toList] at hi
    have hil := (Array.getElem?_eq_some_iff.1 hi).1
    rw [size_madeCells] at hil
    rw [hget _ hil, ← Array.getElem?_toList] at hi
    exact ho.get hi

theorem run_bslice {t e len sz : Nat} {ps : Array (Nat × Operand)} {z : Value} {zc : Array Value} {arr : Array Value} (ho : o.op = .buildSlice t len ps) (hu : P.underlying t = some (.slice e)) (hsz : szOk P e sz = true) (h24 : len * sz ≤ 16777216)
    (hzc : zc = madeCells z.cells (len * sz)) (hz : len * sz ≠ 0 → (zeroValue e).run P w = .ok z w)
    (hf : Instr.fill (fun i => some (i * sz, sz)) zc (ps.toList.map fun p => (p.1, a.eval p.2)) = some arr) :
    (execOp a.eval o).run P w = .ok (.value (.slice (some ⟨w.heap.size, 0, none⟩) len len)) (w.alloc (.cells arr e)) := by
  have h24' : ¬ (16777216 < len * sz) := by omega
  have hps : Instr.fill (fun i => some (i * sz, sz)) zc (ps.map fun (i, y) => (i, a.eval y)).toList = some arr := by rw [Array.toList_map]; exact hf
  subst hzc
  have key : (Instr.buildSlice t len (ps.map fun (i, y) => (i, a.eval y))).run P w = .ok (.slice (some ⟨w.heap.size, 0, none⟩) len len) (w.alloc (.cells arr e)) := by
    simp only [Instr.buildSlice, Sem.run_bind, run_underlying hu, Result.andThen_ok, run_sizeOf hsz]
    rw [if_neg (by simpa using h24')]
    by_cases h0 : len * sz = 0
    · have e0 : (Array.range (len * sz)).map (fun i => (#[] : Array Value)[i % (#[] : Array Value).size]!) = madeCells z.cells (len * sz) := by simp [h0, madeCells]
      rw [if_pos h0]
      simp only [Sem.run_bind, Sem.run_pure, Result.andThen_ok, e0, hps, newRow, run_newObj]
      rfl
    · rw [if_neg h0]
      simp only [Sem.run_bind, Sem.run_pure, Result.andThen_ok, hz h0, newRow, run_newObj]
      rw [show (Array.range (len * sz)).map (fun i => z.cells[i % z.cells.size]!) = madeCells z.cells (len * sz) from rfl, hps]
      simp only [Sem.run_bind, Sem.run_pure, Result.andThen_ok, run_newObj]
      rfl
  unfold execOp
  simp only [ho, Sem.run_bind, key, Result.andThen_ok, Sem.run_pure]

theorem bslice_parts {t sz len : Nat} {zero : List AV} {ps : Array (Nat × Operand)} {qs : List (Nat × Bool × Opd)} (S : St Z N w G lm env loc σ a) (ho : o.op = .buildSlice t len ps) (hb : bsliceOk P t sz zero len ps.toList qs = true)
    {k : List AV → Option ρ} {r : ρ} (h : rowsK env sz (zeros zero len) qs k = some r) :
    ∃ arr e rows, (execOp a.eval o).run P w = .ok (.value (.slice (some ⟨w.heap.size, 0, none⟩) len len)) (w.alloc (.cells arr e)) ∧ RRel w.heap G sz rows arr ∧ Ones arr.toList ∧ rows.length = len ∧ k rows = some r ∧ 0 < sz := by
  unfold bsliceOk at hb
  split at hb
  · rename_i e hu
    simp only [Bool.and_eq_true] at hb
    obtain ⟨⟨⟨⟨b1, b2⟩, b3⟩, b4⟩, b5⟩ := hb
    have hpos : 0 < sz := by
      rcases Nat.eq_zero_or_pos sz with q | q
      · subst q; simp at b2
      · exact q
    have h24 := Nat.le_of_ble_eq_true b3
    have hstart : ∃ z : Value, (len * sz ≠ 0 → (zeroValue e).run P w = .ok z w) ∧ RRel w.heap G sz (zeros zero len) (madeCells z.cells (len * sz)) ∧ Ones (madeCells z.cells (len * sz)).toList := by
      split at b4
      · rename_i h0
        subst h0
        refine ⟨undef, fun h => absurd (Nat.zero_mul _) h, ⟨by simp [size_madeCells, zeros], fun i r hi => by simp [zeros] at hi, fun i row j v hi => by simp [zeros] at hi⟩, fun c hc => by simp [madeCells] at hc⟩
      · simp only [Bool.and_eq_true] at b4
        obtain ⟨z, z1, z2, z3⟩ := zero_run b4.1
        obtain ⟨r1, r2⟩ := made_rel (w := w) (G := G) z3 z2 (Nat.eq_of_beq_eq_true b4.2) hpos len
        exact ⟨z, fun _ => z1 w, r1, r2⟩
    obtain ⟨z, z1, z2, z3⟩ := hstart
    obtain ⟨arr, rows, f1, f2, f3, f4, f5⟩ := rows_fill S hpos (by rw [zeros_length]; exact b5) z2 z3 h
    exact ⟨arr, e, rows, run_bslice ho hu b1 h24 rfl z1 f1, f2, f3, by rw [f4, zeros_length], f5, hpos⟩
  · cases hb

theorem sound_pslice (S : St Z N w G lm env loc σ a) (C : Cont Z N k x G lm w a o.dst.toList K) (hd : ∀ t, o.dst = some t → t < N) {t sz len : Nat} {zero : List AV} {ps : Array (Nat × Operand)} {qs : List (Nat × Bool × Opd)}
    (ho : o.op = .buildSlice t len ps) (hb : bsliceOk P t sz zero len ps.toList qs = true) (h : opK D o.dst (.pslice sz zero len qs) env loc σ k = some x) : o.wp P a w K Q := by
  obtain ⟨arr, e, rows, hrun, hr, hone, hlen, hk, hpos⟩ := bslice_parts S ho hb h
  obtain ⟨H', le⟩ := S.hi.garbage (.cells arr e)
  refine op_done S C (.inl hrun) H' le hd (e := .v (.pslice sz rows)) ?_ hk
  rw [← hlen]
  refine .pslice _ _ (fun i j => arr.toList.getD (i * sz + j) undef) (fun _ => .inr rfl) (Nat.le_refl _) hr.2.1 (fun i row j v hi hj => ?_) (fun i row j v hi hj => ?_)
  · obtain ⟨c, hc, _⟩ := hr.2.2 i row j v hi hj
    rw [add_mk, cellOf_mk (show (w.alloc (.cells arr e)).heap[w.heap.size]? = some (.cells arr e) from get_push_new)]
    rw [← Array.getElem?_toList] at hc
    simp only [Nat.zero_add]
    rw [← Array.getElem?_toList, hc, List.getD_eq_getElem?_getD, hc]
    exact ⟨rfl, hone.get hc⟩
  · obtain ⟨c, hc, hrc⟩ := hr.2.2 i row j v hi hj
    rw [← Array.getElem?_toList] at hc
    rw [List.getD_eq_getElem?_getD, hc]
    exact hrc.mono le

theorem flatRows_get {sz : Nat} : ∀ {rows : List AV}, (∀ (i : Nat) (r : AV), rows[i]? = some r → ∃ row : List AV, r = .agg row ∧ row.length = sz) →
    (flatRows rows).length = rows.length * sz ∧ ∀ (i : Nat) (v : AV), (flatRows rows)[i]? = some v → ∃ (q j : Nat) (row : List AV), i = q * sz + j ∧ rows[q]? = some (.agg row) ∧ row[j]? = some v
  | [], _ => ⟨by simp [flatRows], fun i v h => by simp [flatRows] at h⟩
  | r :: rows, h => by
    obtain ⟨row, rfl, hrow⟩ := h 0 r rfl
    obtain ⟨ih1, ih2⟩ := flatRows_get (rows := rows) (fun i r hi => h (i + 1) r (by simpa using hi))
    refine ⟨by simp [flatRows, AV.cells, ih1, hrow, Nat.add_mul]; omega, fun i v hi => ?_⟩
    simp only [flatRows, AV.cells] at hi
    by_cases hlt : i < row.length
    · rw [List.getElem?_append_left hlt] at hi
      exact ⟨0, i, row, by simp, rfl, hi⟩
    · rw [List.getElem?_append_right (by omega)] at hi
      obtain ⟨q, j, row', e1, e2, e3⟩ := ih2 _ v hi
      exact ⟨q + 1, j, row', by rw [Nat.add_mul]; omega, by simpa using e2, e3⟩

theorem sound_hslice (S : St Z N w G lm env loc σ a) (C : Cont Z N k x G lm w a o.dst.toList K) (hd : ∀ t, o.dst = some t → t < N) {t sz len : Nat} {zero : List AV} {ps : Array (Nat × Operand)} {qs : List (Nat × Bool × Opd)}
    (ho : o.op = .buildSlice t len ps) (hb : bsliceOk P t sz zero len ps.toList qs = true) (h : opK D o.dst (.hslice sz zero len qs) env loc σ k = some x) : o.wp P a w K Q := by
  obtain ⟨arr, e, rows, hrun, hr, hone, hlen, hk, hpos⟩ := bslice_parts S ho hb h
  obtain ⟨l1, l2⟩ := flatRows_get hr.2.1
  refine op_heap (cs := flatRows rows) (e := .hslice sz σ.next 0 len) S C hd hrun ⟨by rw [l1]; simpa using hr.1.symm, fun i v c hi hc => ?_⟩ hone ?_ hk
  · obtain ⟨q, j, row, rfl, e2, e3⟩ := l2 i v hi
    obtain ⟨c', hc', hrc⟩ := hr.2.2 q row j v e2 e3
    rw [Array.getElem?_toList, hc'] at hc
    cases hc
    exact hrc
  · exact .hslice (m := arr.size) (by simp [Gh.add]) (Nat.le_refl _) (by rw [hr.1, hlen]; simp)
end
end Go.Asm
