import Derived.Test.YtebmeojmlakkoaaDoorAsm5
set_option linter.all false
/- What each operation comes to: second part. -/
namespace Go.Asm

theorem VRel.one_cell {h G v c} (r : VRel h G v c) (hv : v.cells = [v]) : c.oneCell' = true ∧ c.cells = #[c] := by
  cases r <;> first | exact ⟨rfl, rfl⟩ | (simp [AV.cells] at hv; done) | (simp only [AV.cells] at hv; have := congrArg (fun l : List AV => SizeOf.sizeOf l) hv; simp at this; omega)

/-! #### stores -/
theorem setL_length (cs : List AV) (off : Nat) (vs : List AV) : (setL cs off vs).length = cs.length := by
  induction vs generalizing cs off with
  | nil => rfl
  | cons v vs ih => simp [setL, ih]

/-- The array behind a row of stores. -/
def setA (arr : Array Value) (off : Nat) : List Value → Array Value
  | [] => arr
  | v :: r => setA (arr.setIfInBounds off v) (off + 1) r
theorem setA_size (arr : Array Value) (off : Nat) (vs : List Value) : (setA arr off vs).size = arr.size := by
  induction vs generalizing arr off with
  | nil => rfl
  | cons v vs ih => simp [setA, ih]
theorem setA_ones {arr : Array Value} {off : Nat} {vs : List Value} (h1 : Ones arr.toList) (h2 : Ones vs) : Ones (setA arr off vs).toList := by
  induction vs generalizing arr off with
  | nil => exact h1
  | cons v vs ih =>
    refine ih ?_ (fun c hc => h2 c (List.mem_cons_of_mem _ hc))
    intro c hc
    simp at hc
    rcases List.mem_or_eq_of_mem_set hc with h | h
    · exact h1 c h
    · subst h; exact h2 c (by simp)
/-- A prefix of cells, related; written alike. -/
def PRel (h : Array Obj) (G : Gh) (cs : List AV) (arr : Array Value) : Prop := ∀ (i : Nat) (v : AV), cs[i]? = some v → ∃ c : Value, arr[i]? = some c ∧ VRel h G v c
theorem PRel.setL {h G cs} {arr : Array Value} {vs : List AV} {us : List Value} (r : PRel h G cs arr) (q : VRels h G vs us) (off : Nat) : PRel h G (setL cs off vs) (setA arr off us) := by
  induction vs generalizing cs arr us off with
  | nil => cases us with
    | nil => exact r
    | cons => exact absurd q.1 (by simp)
  | cons v vs ih => cases us with
    | nil => exact absurd q.1 (by simp)
    | cons u us =>
      refine ih (fun i w hw => ?_) q.tail (off + 1)
      rw [List.getElem?_set] at hw
      by_cases e : off = i
      · subst e
        rw [if_pos rfl] at hw
        split at hw
        · rename_i hlt
          cases hw
          obtain ⟨c, hc, _⟩ := r off _ (List.getElem?_eq_getElem hlt)
          have hsz : off < arr.size := (Array.getElem?_eq_some_iff.1 hc).1
          exact ⟨u, by simp [Array.getElem?_setIfInBounds, hsz], q.head⟩
        · cases hw
      · rw [if_neg e] at hw
        obtain ⟨c, h1, h2⟩ := r i w hw
        exact ⟨c, by simpa [Array.getElem?_setIfInBounds, e] using h1, h2⟩

theorem run_storeCells {P : Program} (g : Nat) (elem : TypeId) : ∀ (us : List Value) (off i : Nat) (w : World) (arr : Array Value), w.heap[g]? = some (.cells arr elem (0, 0)) → Ones us → off + i + us.length ≤ arr.size →
    ∃ w', (storeCells ⟨g, off, none⟩ us i).run P w = .ok () w' ∧ Upd w w' g (.cells (setA arr (off + i) us) elem (0, 0))
  | [], off, i, w, arr, h, _, _ => ⟨w, rfl, .refl h⟩
  | u :: us, off, i, w, arr, h, ho, hl => by
    have hcell : ∃ c, w.cell? ⟨g, off + i, none⟩ = some c := by
      rw [cell_cellOf, cellOf_mk h]
      exact ⟨_, Array.getElem?_eq_getElem (by simp at hl; omega)⟩
    obtain ⟨c, hc⟩ := hcell
    have hfr : w.frozen? ⟨g, off + i, none⟩ = false := by simp [World.frozen?, h]
    have u1 := upd_setCell (i := off + i) h u
    obtain ⟨w', r1, r2⟩ := run_storeCells g elem us off (i + 1) _ _ u1.at_ (fun d hd => ho d (List.mem_cons_of_mem _ hd)) (by simp at hl ⊢; omega)
    refine ⟨w', ?_, ?_⟩
    · simp only [storeCells, Sem.run_bind]
      rw [add_mk, run_store P w _ u _ (ho u (by simp)), hc]
      simp only [hfr, Bool.false_eq_true, if_false, Result.andThen_ok]
      exact r1
    · have := u1.trans r2
      simpa [setA, Nat.add_assoc] using this

theorem run_storeOp {P : Program} {o : Oper} {a : Act} {w : World} {t n : Nat} {y z : Operand} {g off : Nat} {elem : TypeId} {arr : Array Value} (ho : o.op = .store t y z) (ht : szOk P t n = true)
    (hy : a.eval y = .pointer (some ⟨g, off, none⟩)) (hz : (a.eval z).cells.toList.length = n) (hone : Ones (a.eval z).cells.toList) (h : w.heap[g]? = some (.cells arr elem (0, 0))) (hl : off + n ≤ arr.size) :
    ∃ w', (execOp a.eval o).run P w = .ok .skip w' ∧ Upd w w' g (.cells (setA arr off (a.eval z).cells.toList) elem (0, 0)) := by
  obtain ⟨w', h1, h2⟩ := run_storeCells (P := P) g elem (a.eval z).cells.toList off 0 w arr h hone (by omega)
  refine ⟨w', ?_, by simpa using h2⟩
  have hsz : (a.eval z).cells.size = n := by simpa using hz
  simp [execOp, ho, Instr.storeAt, Instr.sureAddr, hy, storeVar, run_sizeOf ht, hsz, h1]

section
variable {ρ : Type} {P : Program} {Z : Base} {N : Nat} {w : World} {G : Gh} {lm : Nat → Option Nat} {env : Env} {loc : Loc} {σ : Store} {a : Act}
  {k : Env → Loc → Store → Option ρ} {x : ρ} {K : Act → World → Prop} {Q : Exit → Act → World → Prop} {o : Oper} {D : Ctx}

theorem undef_rel {h : Array Obj} {G : Gh} : VRel h G (.tuple []) undef := VRels.tuple .nil

theorem sound_store (S : St Z N w G lm env loc σ a) (C : Cont Z N k x G lm w a o.dst.toList K) (hd : ∀ t, o.dst = some t → t < N) {t n : Nat} {agg : Bool} {y z : Operand} {y0 z0 : Opd}
    (ho : o.op = .store t y z) (ht : szOk P t n = true) (hn : agg = false → n = 1) (hp : 0 < n) (hy : opdOk y y0 = true) (hz : opdOk z z0 = true)
    (h : opK D o.dst (.store agg n y0 z0) env loc σ k = some x) : o.wp P a w K Q := by
  simp only [opK] at h
  obtain ⟨v, hv, h⟩ := val_some h
  obtain ⟨vs, h, hlen, hr⟩ := cellsK_some h hn hp
  obtain ⟨hvs, hone⟩ := hr (val_rel S hz hv)
  have hclen : (a.eval z).cells.toList.length = n := by rw [← hvs.1, hlen]
  have her := ent_rel S hy
  split at h
  · rename_i s off he
    rw [he] at her
    split at h
    · rename_i m cs hl
      obtain ⟨h0, g, hg, hf, hb⟩ := S.hi.lrel s m cs hl
      obtain ⟨arr, elem, b1, b2, b3, b3', b4⟩ := hb
      have hc := her g hg
      have key : off + n ≤ m → k (put env o.dst (.v (.tuple []))) (loc.set s (setL cs off vs)) σ = some x → o.wp P a w K Q := fun hle h => by
        obtain ⟨w', r1, r2⟩ := run_storeOp ho ht hc hclen hone b1 (by omega)
        obtain ⟨H', le⟩ := S.hi.lstore (cs' := setL cs off vs) hl hg r2 (by rw [setA_size]; exact b2) (by rw [setL_length]; exact h0) (setA_ones b3' hone)
          (PRel.setL (fun i v hv => b4 i v hv) hvs off)
        exact op_done (e := .v (.tuple [])) S C (.inr ⟨r1, rfl⟩) H' le hd undef_rel h
      cases hb1 : (off.beq 0 && n.beq m && agg) with
      | true =>
        rw [hb1] at h
        simp only [Bool.and_eq_true] at hb1
        have e1 := Nat.eq_of_beq_eq_true hb1.1.1
        have e2 := Nat.eq_of_beq_eq_true hb1.1.2
        subst e1; subst e2
        refine key (by omega) ?_
        have : setL cs 0 vs = vs := by
          clear h key hr hvs
          have gen : ∀ (vs cs pre : List AV), cs.length = vs.length → setL (pre ++ cs) pre.length vs = pre ++ vs := by
            intro vs
            induction vs with
            | nil => intro cs pre hl; have : cs = [] := List.eq_nil_of_length_eq_zero (by simpa using hl); subst this; simp [setL]
            | cons v vs ih =>
              intro cs pre hl
              cases cs with
              | nil => simp at hl
              | cons c cs =>
                simp only [setL]
                rw [List.set_append_right _ _ (Nat.le_refl _), Nat.sub_self, List.set_cons_zero]
                have := ih cs (pre ++ [v]) (by simpa using hl)
                simpa using this
          simpa using gen vs cs [] (by omega)
        rw [this]; exact h
      | false =>
        rw [hb1] at h
        simp only [cond_false] at h
        cases hb2 : (off + n).ble m with
        | true =>
          rw [hb2] at h
          exact key (Nat.le_of_ble_eq_true hb2) h
        | false => rw [hb2] at h; cases h
    · cases h
  · rename_i p he
    rw [he] at her
    obtain ⟨σ', hw, h⟩ := bind_some h
    unfold wr at hw
    split at hw
    · rename_i y' off
      split at hw
      · rename_i cs hx
        split at hw
        · rename_i hle
          cases hw
          obtain ⟨g, m, h1, h2, h3⟩ := S.hi.blk _ _ hx
          have hpc : a.eval y = .pointer (some ⟨g, off, none⟩) := by
            generalize a.eval y = c at her
            cases her with
            | hptr e => rw [h1] at e; cases e; rfl
          obtain ⟨arr, elem, b1, b2, b3, b3', b4⟩ := h3
          obtain ⟨w', r1, r2⟩ := run_storeOp ho ht hpc hclen hone b1 (by omega)
          obtain ⟨H', le⟩ := S.hi.hstore (b' := .cells (setL cs off vs)) hx h1 r2 (fun le =>
            ⟨_, elem, r2.at_, by rw [setA_size]; exact b2, by rw [setL_length]; exact b3, setA_ones b3' hone, fun i v hi => by
              obtain ⟨c, c1, c2⟩ := PRel.setL (fun i v hv => b4 i v hv) hvs off i v hi
              exact ⟨c, c1, c2.mono le⟩⟩)
          exact op_done (e := .v (.tuple [])) S C (.inr ⟨r1, rfl⟩) H' le hd undef_rel h
        · cases hw
      · cases hw
    · cases hw

/-! #### addresses, fields, elements -/
theorem nnil_some {h : Array Obj} {G : Gh} {p q : AV} (e : nnil p = some q) {c : Value} (r : VRel h G p c) :
    q = p ∧ c ≠ .pointer none ∧ c ≠ .nilIface ∧ c ≠ .nilFunc ∧ ∀ m f g, c ≠ .func (.method m) f g := by
  unfold nnil at e
  split at e
  · cases e
  · cases e
  · cases e
  · cases e
  · rename_i h1 h2 h3 h4
    cases e
    refine ⟨rfl, ?_, ?_, ?_, ?_⟩ <;> intros <;> intro e' <;> subst e' <;> cases r <;> simp_all

theorem run_nilCheck {y : Operand} (ho : o.op = .nilCheck y) (h1 : a.eval y ≠ .pointer none) (h2 : a.eval y ≠ .nilIface) (h3 : a.eval y ≠ .nilFunc) (h4 : ∀ m f g, a.eval y ≠ .func (.method m) f g) :
    (execOp a.eval o).run P w = .ok (.value (a.eval y)) w := by
  simp only [execOp, ho]
  first | rfl | (split <;> first | contradiction | rfl | (rename_i heq; exact absurd heq (h4 _ _ _)))

theorem sound_nilCheck (S : St Z N w G lm env loc σ a) (C : Cont Z N k x G lm w a o.dst.toList K) (hd : ∀ t, o.dst = some t → t < N) {y : Operand} {y0 : Opd}
    (ho : o.op = .nilCheck y) (hy : opdOk y y0 = true)
    (h : opK D o.dst (.nilCheck y0) env loc σ k = some x) : o.wp P a w K Q := by
  have her := ent_rel S hy
  simp only [opK] at h
  split at h
  · rename_i s off he
    rw [he] at her
    split at h
    · rename_i q hl
      obtain ⟨m, cs⟩ := q
      obtain ⟨h0, g, hg, hf, hb⟩ := S.hi.lrel s m cs hl
      have hc := her g hg
      exact op_val S C hd (run_nilCheck ho (by rw [hc]; simp) (by rw [hc]; simp) (by rw [hc]; simp) (by rw [hc]; simp)) (e := .l s off) her h
    · cases h
  · rename_i p he
    rw [he] at her
    obtain ⟨q, hq, h5⟩ := bind_some h
    obtain ⟨e, h1, h2, h3, h4⟩ := nnil_some hq her
    subst e
    exact op_val (e := .v q) S C hd (run_nilCheck ho h1 h2 h3 h4) her h5

def fieldOk (P : Program) (t i off : Nat) : Bool :=
  match P.underlying t with
  | some (.struct fs) => match fs[i]? with
    | some f => f.offset.beq off && (match P.info? f.type with | some j => !(j.size.beq 0) | none => false)
    | none => false
  | _ => false
theorem run_fieldAddr {t i off : Nat} {y : Operand} {ad : Addr} (ho : o.op = .fieldAddr t y i) (ht : fieldOk P t i off = true) (hy : a.eval y = .pointer (some ad)) :
    (execOp a.eval o).run P w = .ok (.value (.pointer (some (ad.add off)))) w := by
  unfold fieldOk at ht
  cases hd : P.underlying t with
  | none => simp [hd] at ht
  | some d =>
    simp only [hd] at ht
    cases d with
    | struct fs =>
      simp only at ht
      cases hf : fs[i]? with
      | none => simp [hf] at ht
      | some f =>
        simp only [hf, Bool.and_eq_true] at ht
        have e := Nat.eq_of_beq_eq_true ht.1
        cases hi : P.info? f.type with
        | none => simp [hi] at ht
        | some j =>
          have hj : j.size ≠ 0 := fun e0 => by have := ht.2; simp [hi, e0] at this
          simp [execOp, ho, Instr.fieldAt, run_underlying hd, hf, Instr.sureAddr, hy, fieldPlace, sizeOf, typeInfo, hi, hj, e]
    | _ => simp at ht

theorem sound_fadd (S : St Z N w G lm env loc σ a) (C : Cont Z N k x G lm w a o.dst.toList K) (hd : ∀ t, o.dst = some t → t < N) {t i off : Nat} {y : Operand} {y0 : Opd}
    (ho : o.op = .fieldAddr t y i) (ht : fieldOk P t i off = true) (hy : opdOk y y0 = true)
    (h : opK D o.dst (.fadd off y0) env loc σ k = some x) : o.wp P a w K Q := by
  have her := ent_rel S hy
  simp only [opK] at h
  split at h
  · rename_i s o' he
    rw [he] at her
    split at h
    · rename_i q hl
      obtain ⟨m, cs⟩ := q
      obtain ⟨h0, g, hg, hf, hb⟩ := S.hi.lrel s m cs hl
      have hc := her g hg
      refine op_val (e := .l s (o' + off)) S C hd (run_fieldAddr ho ht hc) ?_ h
      intro g' hg'; rw [hg] at hg'; cases hg'; rw [add_mk]
    · cases h
  · rename_i p he
    rw [he] at her
    obtain ⟨q, hq, h5⟩ := bind_some h
    generalize hc : a.eval y = c at her
    unfold fadd at hq
    split at hq
    · cases hq
      cases her with
      | pptr ad f hf hce hv =>
        refine op_val (e := .v _) S C hd (run_fieldAddr ho ht hc) (.pptr _ (fun j => f (off + j)) (by rw [add_block]; exact hf) (fun j v hj => ?_) (fun j v hj => ?_)) h5
        · rw [add_add]; exact hce _ v (by rw [← hj]; congr 1; omega)
        · exact hv _ v (by rw [← hj]; congr 1; omega)
    · cases hq
      cases her with
      | hptr e =>
        refine op_val (e := .v _) S C hd (run_fieldAddr ho ht hc) ?_ h5
        rw [add_mk]; exact .hptr e
    · cases hq

def sliceOk (P : Program) (t sz : Nat) : Bool :=
  match P.underlying t with
  | some (.slice e) => szOk P e sz
  | _ => false
theorem sliceOk_inv {t sz : Nat} (h : sliceOk P t sz = true) : ∃ e, P.underlying t = some (.slice e) ∧ szOk P e sz = true := by
  unfold sliceOk at h
  split at h
  · exact ⟨_, by assumption, h⟩
  · cases h

theorem run_idx {t sz : Nat} {y z : Operand} {ad : Addr} {len cap : Nat} {kd : IntKind} {i : Int} (ho : o.op = .indexAddr t y z) (ht : sliceOk P t sz = true)
    (hy : a.eval y = .slice (some ad) len cap) (hz : a.eval z = .int kd i) (h0 : 0 ≤ i) (h1 : i < len) :
    (execOp a.eval o).run P w = .ok (.value (.pointer (some (ad.add (i.toNat * sz))))) w := by
  obtain ⟨e, h2, h3⟩ := sliceOk_inv ht
  simp [execOp, ho, Instr.indexAt, run_underlying h2, asIntOf, hy, hz, h0, h1, run_sizeOf h3]

theorem idx_some {sz : Nat} {p q u : AV} (hu : idx sz p q = some u) :
    (∃ rows kd i row, p = .pslice sz rows ∧ q = .int kd i ∧ 0 ≤ i ∧ rows[i.toNat]? = some (.agg row) ∧ u = .pptr row 0) ∨
    (∃ b off len kd i, p = .hslice sz b off len ∧ q = .int kd i ∧ 0 ≤ i ∧ i < (len : Int) ∧ u = .hptr b (off + i.toNat * sz)) := by
  unfold idx at hu
  split at hu
  · split at hu
    · rename_i hcond
      obtain ⟨hs, h0⟩ := hcond
      subst hs
      split at hu
      · cases hu; exact .inl ⟨_, _, _, _, rfl, rfl, h0, by assumption, rfl⟩
      · cases hu
    · cases hu
  · split at hu
    · rename_i hcond
      obtain ⟨hs, h0, h1⟩ := hcond
      subst hs
      cases hu; exact .inr ⟨_, _, _, _, _, rfl, rfl, h0, h1, rfl⟩
    · cases hu
  · cases hu

theorem sound_idx (S : St Z N w G lm env loc σ a) (C : Cont Z N k x G lm w a o.dst.toList K) (hd : ∀ t, o.dst = some t → t < N) {t sz : Nat} {y z : Operand} {y0 z0 : Opd}
    (ho : o.op = .indexAddr t y z) (ht : sliceOk P t sz = true) (hsz : 0 < sz) (hy : opdOk y y0 = true) (hz : opdOk z z0 = true)
    (h : opK D o.dst (.idx sz y0 z0) env loc σ k = some x) : o.wp P a w K Q := by
  obtain ⟨v1, hv1, h⟩ := val_some h
  obtain ⟨v2, hv2, h⟩ := val_some h
  obtain ⟨u, hu, h⟩ := bind_some h
  have r1 := val_rel S hy hv1
  have r2 := val_rel S hz hv2
  rcases idx_some hu with ⟨rows, kd, i, row, rfl, rfl, h0, hrow, rfl⟩ | ⟨b, off, len, kd, i, rfl, rfl, h0, h1, rfl⟩
  · have hz' := r2.int_inv
    generalize hc : a.eval y = c at r1
    cases r1 with
    | pnil => simp at hrow
    | pslice ad cap cs hf hcap hro hcell hval =>
      have hlt := (List.getElem?_eq_some_iff.1 hrow).1
      obtain ⟨row', e', hl'⟩ := hro _ _ hrow
      cases e'
      refine op_val (e := .v _) S C hd (run_idx ho ht hc hz' h0 (by omega)) (.pptr _ (cs i.toNat) ?_ (fun j v hj => ?_) (fun j v hj => ?_)) h
      · rw [add_block]; exact hf (Nat.mul_pos (by omega) hsz)
      · rw [add_add]; exact hcell _ _ _ _ hrow (by simpa using hj)
      · exact hval _ _ _ _ hrow (by simpa using hj)
  · have hz' := r2.int_inv
    generalize hc : a.eval y = c at r1
    cases r1 with
    | hslice e h2 h3 =>
      refine op_val (e := .v _) S C hd (run_idx ho ht hc hz' h0 h1) ?_ h
      rw [add_mk]; exact .hptr e
end
end Go.Asm
