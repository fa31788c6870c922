import Derived.Test.YtebmeojmlakkoaaDoorAsm4
set_option linter.all false
/- What each operation comes to: first part. -/
namespace Go.Asm

theorem one_some {v u : AV} (h : one v = some u) : u = v ∧ v.cells = [v] ∧ v ≠ .undef := by
  unfold one at h
  split at h
  · cases h
  · cases h
  · cases h
  · rename_i h1 h2 h3
    cases h
    refine ⟨rfl, ?_, h3⟩
    cases v <;> simp_all [AV.cells]

theorem cellsK_some {ρ : Type} {agg : Bool} {n : Nat} {v : AV} {k : List AV → Option ρ} {r : ρ} (h : cellsK agg n v k = some r) (hn : agg = false → n = 1) (hpos : 0 < n) :
    ∃ cs, k cs = some r ∧ cs.length = n ∧ ∀ {hp G c}, VRel hp G v c → VRels hp G cs c.cells.toList ∧ Ones c.cells.toList := by
  unfold cellsK at h
  cases agg with
  | true =>
    obtain ⟨cs, h1, h2⟩ := bind_some h
    unfold asplit at h1
    split at h1
    · rename_i hl
      cases h1
      refine ⟨_, h2, hl, fun r => r.cells_rel fun e => ?_⟩
      rw [e] at hl; simp at hl; omega
    · cases h1
  | false =>
    obtain ⟨u, h1, h2⟩ := bind_some h
    obtain ⟨rfl, hc, hu⟩ := one_some h1
    refine ⟨_, h2, by rw [hn rfl]; rfl, fun r => ?_⟩
    have := r.cells_rel (by rw [hc]; simp)
    rwa [hc] at this

theorem VRels.at_ {h G vs cs} (r : VRels h G vs cs) : ∀ (i : Nat) (v : AV), vs[i]? = some v → ∃ c : Value, cs[i]? = some c ∧ VRel h G v c := fun _ _ hv => r.get hv
theorem VRels.arr {h G vs} {arr : Array Value} (r : VRels h G vs arr.toList) : ∀ (i : Nat) (v : AV), vs[i]? = some v → ∃ c : Value, arr[i]? = some c ∧ VRel h G v c := fun i v hv => by
  obtain ⟨c, a, b⟩ := r.get hv
  exact ⟨c, by simpa using a, b⟩

/-- A block of related cells. -/
theorem BRel.get {h G cs g m} (r : BRel h G (.cells cs) g m) : ∃ arr elem, h[g]? = some (.cells arr elem (0, 0)) ∧ arr.size = m ∧ cs.length ≤ m ∧ Ones arr.toList ∧ ∀ (i : Nat) (v : AV), cs[i]? = some v → ∃ c : Value, arr[i]? = some c ∧ VRel h G v c := r

theorem cellOf_mk {h : Array Obj} {g o : Nat} {arr : Array Value} {elem fr} (e : h[g]? = some (.cells arr elem fr)) : cellOf h ⟨g, o, none⟩ = arr[o]? := by
  simp [cellOf, e]

section
variable {ρ : Type} {P : Program} {Z : Base} {N : Nat} {w : World} {G : Gh} {lm : Nat → Option Nat} {env : Env} {loc : Loc} {σ : Store} {a : Act}
  {k : Env → Loc → Store → Option ρ} {x : ρ} {K : Act → World → Prop} {Q : Exit → Act → World → Prop} {o : Oper} {D : Ctx}

/-- A step that only computes. -/
theorem op_val (S : St Z N w G lm env loc σ a) (C : Cont Z N k x G lm w a o.dst.toList K) (hd : ∀ t, o.dst = some t → t < N) {c : Value} {e : Ent}
    (hrun : (execOp a.eval o).run P w = .ok (.value c) w) (he : ERel w.heap G lm e c) (hk : k (put env o.dst e) loc σ = some x) : o.wp P a w K Q :=
  op_done S C (.inl hrun) S.hi (Le.refl _ _) hd he hk
/-- The same, after answers drawn from the tape. -/
theorem op_val' (S : St Z N w G lm env loc σ a) (C : Cont Z N k x G lm w a o.dst.toList K) (hd : ∀ t, o.dst = some t → t < N) {c : Value} {e : Ent} {w' : World}
    (hrun : (execOp a.eval o).run P w = .ok (.value c) w') (hw : w'.heap = w.heap ∧ w'.os = w.os ∧ w'.tape = w.tape ∧ w'.output = w.output)
    (he : ERel w.heap G lm e c) (hk : k (put env o.dst e) loc σ = some x) : o.wp P a w K Q :=
  op_done S C (.inl hrun) (S.hi.draw w' hw.1 hw.2.1 hw.2.2.1 hw.2.2.2) (by rw [hw.1]; exact Le.refl _ _) hd (by rw [hw.1]; exact he) hk

theorem sound_mv (S : St Z N w G lm env loc σ a) (C : Cont Z N k x G lm w a o.dst.toList K) (hd : ∀ t, o.dst = some t → t < N) {y : Operand} {x0 : Opd}
    (ho : o.op = .move y ∨ o.op = .assign y) (hy : opdOk y x0 = true) (h : opK D o.dst (.mv x0) env loc σ k = some x) : o.wp P a w K Q := by
  refine op_val S C hd (c := a.eval y) ?_ (ent_rel S hy) h
  rcases ho with e | e <;> simp [execOp, e]

theorem run_pick {c y z : Operand} {b : Bool} (ho : o.op = .pick c y z) (hc : a.eval c = .bool b) : (execOp a.eval o).run P w = .ok (.value (if b then a.eval y else a.eval z)) w := by
  simp [execOp, ho, hc, asBool]

theorem sound_pick (S : St Z N w G lm env loc σ a) (C : Cont Z N k x G lm w a o.dst.toList K) (hd : ∀ t, o.dst = some t → t < N) {c y z : Operand} {c0 y0 z0 : Opd}
    (ho : o.op = .pick c y z) (hc : opdOk c c0 = true) (hy : opdOk y y0 = true) (hz : opdOk z z0 = true) (h : opK D o.dst (.pick c0 y0 z0) env loc σ k = some x) : o.wp P a w K Q := by
  obtain ⟨v, hv, h⟩ := val_some h
  have hr := val_rel S hc hv
  rcases aCase_some h with ⟨rfl, h⟩ | ⟨rfl, h⟩
  · exact op_val S C hd (run_pick ho hr.bool_inv) (ent_rel S hy) h
  · exact op_val S C hd (run_pick ho hr.bool_inv) (ent_rel S hz) h

theorem sound_pickv (S : St Z N w G lm env loc σ a) (C : Cont Z N k x G lm w a o.dst.toList K) (hd : ∀ t, o.dst = some t → t < N) {c y z : Operand} {c0 y0 z0 : Opd}
    (ho : o.op = .pick c y z) (hc : opdOk c c0 = true) (hy : opdOk y y0 = true) (hz : opdOk z z0 = true) (h : opK D o.dst (.pickv c0 y0 z0) env loc σ k = some x) : o.wp P a w K Q := by
  obtain ⟨v, hv, h⟩ := val_some h
  obtain ⟨v1, hv1, h⟩ := val_some h
  obtain ⟨v2, hv2, h⟩ := val_some h
  obtain ⟨u, hu, h⟩ := bind_some h
  have hr := val_rel S hc hv
  unfold pickV at hu
  split at hu
  · cases hu; exact op_val (e := .v v1) S C hd (run_pick ho hr.bool_inv) (val_rel S hy hv1) h
  · cases hu; exact op_val (e := .v v2) S C hd (run_pick ho hr.bool_inv) (val_rel S hz hv2) h
  · cases hu

/-! #### new boxes -/
def zeroOk (P : Program) (t : Nat) (zero : List AV) : Bool :=
  match P.info? t with
  | some i => match i.zero with
    | some z => cvOkL z.cells.toList zero
    | none => false
  | none => false
theorem zero_run {t : Nat} {zero : List AV} (h : zeroOk P t zero = true) : ∃ z : Value, (∀ w : World, (zeroValue t).run P w = .ok z w) ∧ Ones z.cells.toList ∧ ∀ hp G, VRels hp G zero z.cells.toList := by
  unfold zeroOk at h
  cases hi : P.info? t with
  | none => simp [hi] at h
  | some i =>
    simp only [hi] at h
    cases hz : i.zero with
    | none => simp [hz] at h
    | some z =>
      simp only [hz] at h
      exact ⟨z, fun w => by simp [zeroValue, typeInfo, hi, hz], cvOkL_ones h, fun hp G => cvOkL_rel h⟩

theorem run_newVar (t : Nat) (v : Value) : (newVar t v).run P w = .ok ⟨w.heap.size, 0, none⟩ (w.alloc (.cells v.cells t)) := by
  simp only [newVar, newRow, Sem.run_bind, run_newObj, Result.andThen_ok, Sem.run_pure]
  rfl

theorem run_alloc {t : Nat} {z : Value} (ho : o.op = .alloc t) (hz : ∀ w : World, (zeroValue t).run P w = .ok z w) :
    (execOp a.eval o).run P w = .ok (.value (.pointer (some ⟨w.heap.size, 0, none⟩))) (w.alloc (.cells z.cells t)) := by
  simp [execOp, ho, Instr.alloc, hz, run_newVar]
theorem run_box {t : Nat} {y : Operand} (ho : o.op = .box t y) :
    (execOp a.eval o).run P w = .ok (.value (.pointer (some ⟨w.heap.size, 0, none⟩))) (w.alloc (.cells (a.eval y).cells t)) := by
  simp [execOp, ho, Instr.box, run_newVar]

/-- A new box of the frame's own. -/
theorem op_local (S : St Z N w G lm env loc σ a) {s : Nat} (C : Cont Z N k x G lm w a [s] K) (hds : o.dst = some s) (hs : s < N) {cs : List AV} {n : Nat} {arr : Array Value} {t : Nat}
    (hrun : (execOp a.eval o).run P w = .ok (.value (.pointer (some ⟨w.heap.size, 0, none⟩))) (w.alloc (.cells arr t)))
    (hl : loc.get s = none) (hr : VRels w.heap G cs arr.toList) (hone : Ones arr.toList) (hn : cs.length = n)
    (hk : k ((s, .l s 0) :: env.purgeAt s) ((s, n, cs) :: loc) σ = some x) : o.wp P a w K Q := by
  have hsz : arr.size = n := by have := hr.1; simp at this; omega
  obtain ⟨H', le⟩ := S.hi.lalloc (elem := t) hl hsz hn hone hr.arr
  have hfin : K (a.put (some s) (.pointer (some ⟨w.heap.size, 0, none⟩))) (w.alloc (.cells arr t)) := by
    refine C _ _ _ _ _ _ _ hk ⟨H', fun u => ?_, by rw [put_defers]; exact S.df, by rw [put_size]; exact S.nt⟩ le (fun u hu => ?_) (fun u hu => ?_)
    · rw [getD_put (Nat.lt_of_lt_of_le hs S.nt), Env.get_cons]
      by_cases e : s = u
      · rw [if_pos e, if_pos e]
        intro g hg; simp only [if_true] at hg; cases hg; rfl
      · rw [if_neg e, if_neg e, Env.get_purgeAt]
        split
        · exact VRel.undef
        · rename_i hne
          refine (S.er u).mono le (fun s' o' he => ?_)
          show (if s' = s then _ else _) = _
          rw [if_neg]
          intro e'; subst e'; rw [he] at hne; simp [Ent.at] at hne
    · have hu : u ≠ s := fun e => hu (by simp [e])
      show (if u = s then _ else _) = _
      rw [if_neg hu]
    · have hu : s ≠ u := fun e => hu (by simp [e])
      rw [getD_put (Nat.lt_of_lt_of_le hs S.nt), if_neg hu]
  unfold Oper.wp
  rw [hrun]
  show K (a.put o.dst _) _
  rw [hds]; exact hfin

theorem sound_zalloc (S : St Z N w G lm env loc σ a) (C : Cont Z N k x G lm w a o.dst.toList K) (hd : ∀ t, o.dst = some t → t < N) {t : Nat} {zero : List AV}
    (ho : o.op = .alloc t) (hz : zeroOk P t zero = true) (h : opK D o.dst (.zalloc zero) env loc σ k = some x) : o.wp P a w K Q := by
  obtain ⟨z, hz1, hz3, hz2⟩ := zero_run hz
  cases hds : o.dst with
  | none => rw [hds] at h; simp [opK] at h
  | some s =>
    rw [hds] at h C
    simp only [opK] at h
    split at h
    · rename_i hl
      exact op_local S C hds (hd s hds) (run_alloc ho hz1) hl (hz2 _ _) hz3 rfl h
    · cases h

theorem sound_lbox (S : St Z N w G lm env loc σ a) (C : Cont Z N k x G lm w a o.dst.toList K) (hd : ∀ t, o.dst = some t → t < N) {t n : Nat} {agg : Bool} {y : Operand} {y0 : Opd}
    (ho : o.op = .box t y) (hy : opdOk y y0 = true) (hn : agg = false → n = 1) (hp : 0 < n) (h : opK D o.dst (.lbox agg n y0) env loc σ k = some x) : o.wp P a w K Q := by
  cases hds : o.dst with
  | none => rw [hds] at h; simp [opK] at h
  | some s =>
    rw [hds] at h C
    simp only [opK] at h
    split at h
    · rename_i hl
      obtain ⟨v, hv, h⟩ := val_some h
      obtain ⟨cs, h, hlen, hr⟩ := cellsK_some h hn hp
      exact op_local S C hds (hd s hds) (run_box ho) hl (hr (val_rel S hy hv)).1 (hr (val_rel S hy hv)).2 hlen h
    · cases h

/-- A new block of the store. -/
theorem op_heap (S : St Z N w G lm env loc σ a) (C : Cont Z N k x G lm w a o.dst.toList K) (hd : ∀ t, o.dst = some t → t < N) {cs : List AV} {arr : Array Value} {t : Nat} {c : Value} {e : AV}
    (hrun : (execOp a.eval o).run P w = .ok (.value c) (w.alloc (.cells arr t))) (hr : VRels w.heap G cs arr.toList) (hone : Ones arr.toList)
    (he : VRel (w.alloc (.cells arr t)).heap (G.add σ.next (w.heap.size, arr.size)) e c)
    (hk : k (put env o.dst (.v e)) loc (σ.add (.cells cs)) = some x) : o.wp P a w K Q := by
  have hlen : cs.length = arr.size := by have := hr.1; simpa using this
  obtain ⟨H', le⟩ := S.hi.halloc (o := .cells arr t) (b := .cells cs) (m := arr.size) (fun le => by
    refine ⟨arr, t, get_push_new, rfl, by omega, hone, fun i v hi => ?_⟩
    obtain ⟨c, h1, h2⟩ := hr.arr i v hi
    exact ⟨c, h1, h2.mono le⟩)
  exact op_done (e := .v e) S C (.inl hrun) H' le hd he hk

theorem new_hptr {arr : Array Value} {t m : Nat} : VRel (w.alloc (.cells arr t)).heap (G.add σ.next (w.heap.size, m)) (.hptr σ.next 0) (.pointer (some ⟨w.heap.size, 0, none⟩)) :=
  .hptr (m := m) (by simp [Gh.add])

theorem sound_halloc (S : St Z N w G lm env loc σ a) (C : Cont Z N k x G lm w a o.dst.toList K) (hd : ∀ t, o.dst = some t → t < N) {t : Nat} {zero : List AV}
    (ho : o.op = .alloc t) (hz : zeroOk P t zero = true) (h : opK D o.dst (.halloc zero) env loc σ k = some x) : o.wp P a w K Q := by
  obtain ⟨z, hz1, hz3, hz2⟩ := zero_run hz
  exact op_heap S C hd (run_alloc ho hz1) (hz2 _ _) hz3 new_hptr h

theorem sound_hbox (S : St Z N w G lm env loc σ a) (C : Cont Z N k x G lm w a o.dst.toList K) (hd : ∀ t, o.dst = some t → t < N) {t n : Nat} {agg : Bool} {y : Operand} {y0 : Opd}
    (ho : o.op = .box t y) (hy : opdOk y y0 = true) (hn : agg = false → n = 1) (hp : 0 < n) (h : opK D o.dst (.hbox agg n y0) env loc σ k = some x) : o.wp P a w K Q := by
  obtain ⟨v, hv, h⟩ := val_some h
  obtain ⟨cs, h, _, hr⟩ := cellsK_some h hn hp
  exact op_heap S C hd (run_box ho) (hr (val_rel S hy hv)).1 (hr (val_rel S hy hv)).2 new_hptr h

/-- The cells of a new immutable block. -/
theorem new_pptr {cs : List AV} {arr : Array Value} {t : Nat} (hr : VRels w.heap G cs arr.toList) (hone : Ones arr.toList)
    (le : Le w.heap (w.alloc (.cells arr t)).heap G ⟨fun g => G.Fz g ∨ g = w.heap.size, G.bm⟩) :
    VRel (w.alloc (.cells arr t)).heap ⟨fun g => G.Fz g ∨ g = w.heap.size, G.bm⟩ (.pptr cs 0) (.pointer (some ⟨w.heap.size, 0, none⟩)) := by
  refine .pptr _ (fun j => arr.toList.getD j undef) (.inr rfl) (fun j v hj => ?_) (fun j v hj => ?_)
  · obtain ⟨c, h1, _⟩ := hr.get (i := j) (v := v) (by simpa using hj)
    rw [add_mk, cellOf_mk (show (w.alloc (.cells arr t)).heap[w.heap.size]? = some (.cells arr t) from get_push_new)]
    simp only [Nat.zero_add]
    rw [← Array.getElem?_toList, h1, List.getD_eq_getElem?_getD, h1]; exact ⟨rfl, hone.get h1⟩
  · obtain ⟨c, h1, h2⟩ := hr.get (i := j) (v := v) (by simpa using hj)
    rw [List.getD_eq_getElem?_getD, h1]
    exact h2.mono le

theorem sound_pbox (S : St Z N w G lm env loc σ a) (C : Cont Z N k x G lm w a o.dst.toList K) (hd : ∀ t, o.dst = some t → t < N) {t : Nat} {y : Operand} {y0 : Opd}
    (ho : o.op = .box t y) (hy : opdOk y y0 = true) (h : opK D o.dst (.pbox y0) env loc σ k = some x) : o.wp P a w K Q := by
  obtain ⟨v, hv, h⟩ := val_some h
  have hr := val_rel S hy hv
  obtain ⟨H', le⟩ := S.hi.garbage (.cells (a.eval y).cells t)
  refine op_done S C (.inl (run_box ho)) H' le hd (e := .v (.pptr v.cells 0)) ?_ h
  by_cases hu : v.cells = []
  · rw [hu]
    exact .pptr _ (fun _ => undef) (.inr rfl) (fun j v hj => by simp at hj) (fun j v hj => by simp at hj)
  · exact new_pptr (hr.cells_rel hu).1 (hr.cells_rel hu).2 le

/-! #### reading -/
theorem run_load1 {t : Nat} {y : Operand} {ad : Addr} {c : Value} (ho : o.op = .load t y) (ht : tyOk P t false 1 = true) (hy : a.eval y = .pointer (some ad)) (hc : cellOf w.heap ad = some c) :
    (execOp a.eval o).run P w = .ok (.value c) w := by
  have hc' : w.cell? ad = some c := hc
  simp [execOp, ho, Instr.loadAt, Instr.sureAddr, hy, loadVar, run_isAgg ht, hc']
theorem run_loadN {t n : Nat} {y : Operand} {ad : Addr} {cs : List Value} (ho : o.op = .load t y) (ht : tyOk P t true n = true) (hy : a.eval y = .pointer (some ad)) (hn : cs.length = n)
    (hc : ∀ (j : Nat) v, cs[j]? = some v → cellOf w.heap (ad.add j) = some v) : (execOp a.eval o).run P w = .ok (.value (.agg ⟨cs⟩)) w := by
  have hl := run_loadCells_list (P := P) w ad cs hc
  rw [hn] at hl
  simp [execOp, ho, Instr.loadAt, Instr.sureAddr, hy, loadVar, run_isAgg ht, run_sizeOf (tyOk_sz ht), hl]

/-- The cells at an offset of a related block. -/
theorem block_cells {h : Array Obj} {cs : List AV} {g m : Nat} (hb : BRel h G (.cells cs) g m) {off n : Nat} (hn : off + n ≤ cs.length) :
    ∃ l : List Value, l.length = n ∧ (∀ (j : Nat) v, l[j]? = some v → cellOf h (Addr.add ⟨g, off, none⟩ j) = some v) ∧ VRels h G ((cs.drop off).take n) l ∧ Ones l := by
  obtain ⟨arr, elem, h1, h2, h3, h3', h4⟩ := hb
  have hl : ((arr.toList.drop off).take n).length = n := by simp; omega
  refine ⟨(arr.toList.drop off).take n, hl, fun j v hj => ?_, ⟨?_, fun i v c hv hc => ?_⟩, (h3'.drop _).take _⟩
  · rw [add_mk, cellOf_mk h1]
    rw [List.getElem?_take] at hj
    split at hj
    · rw [List.getElem?_drop] at hj; simpa using hj
    · cases hj
  · simp; omega
  · rw [List.getElem?_take] at hv hc
    split at hv
    · rename_i hi
      rw [if_pos hi] at hc
      rw [List.getElem?_drop] at hv hc
      obtain ⟨c', a1, a2⟩ := h4 _ _ hv
      simp at hc; rw [hc] at a1; cases a1; exact a2
    · cases hv
theorem row_cells {h : Array Obj} {row : List AV} {o n : Nat} {ad : Addr} {f : Nat → Value} (hc : ∀ (j : Nat) v, row[o + j]? = some v → cellOf h (ad.add j) = some (f j) ∧ (f j).oneCell' = true)
    (hv : ∀ (j : Nat) v, row[o + j]? = some v → VRel h G v (f j)) (hn : o + n ≤ row.length) :
    ∃ l : List Value, l.length = n ∧ (∀ (j : Nat) v, l[j]? = some v → cellOf h (ad.add j) = some v) ∧ VRels h G ((row.drop o).take n) l ∧ Ones l := by
  have key : ∀ j, j < n → ∃ v, row[o + j]? = some v := fun j hj => ⟨row[o + j]'(by omega), List.getElem?_eq_getElem (by omega)⟩
  refine ⟨(List.range n).map f, by simp, fun j v hj => ?_, ⟨by simp; omega, fun i v c h1 h2 => ?_⟩, fun c hm => ?_⟩
  · have hjn : j < n := by
      by_cases hjn : j < n
      · exact hjn
      · rw [List.getElem?_eq_none (by simp; omega)] at hj; cases hj
    simp only [List.getElem?_map, List.getElem?_range hjn, Option.map_some, Option.some.injEq] at hj
    obtain ⟨u, hu⟩ := key j hjn
    rw [(hc j u hu).1, hj]
  · have hi : i < n := by
      by_cases hin : i < n
      · exact hin
      · rw [List.getElem?_eq_none (by simp; omega)] at h1; cases h1
    rw [List.getElem?_take, if_pos hi, List.getElem?_drop] at h1
    simp only [List.getElem?_map, List.getElem?_range hi, Option.map_some, Option.some.injEq] at h2
    subst h2
    exact hv i v h1
  · obtain ⟨j, hj, rfl⟩ := List.mem_map.1 hm
    obtain ⟨u, hu⟩ := key j (by simpa using hj)
    exact (hc j u hu).2

theorem rdN_some (H : HI Z w G lm loc σ) {n : Nat} {p : AV} {cs : List AV} (hr : rdN n p σ = some cs) {c : Value} (hp : VRel w.heap G p c) :
    ∃ (ad : Addr) (l : List Value), c = .pointer (some ad) ∧ l.length = n ∧ (∀ (j : Nat) v, l[j]? = some v → cellOf w.heap (ad.add j) = some v) ∧ VRels w.heap G cs l ∧ Ones l := by
  unfold rdN at hr
  split at hr
  · split at hr
    · cases hr
      cases hp with
      | pptr ad f hf hc hv =>
        obtain ⟨l, h1, h2, h3⟩ := row_cells hc hv (by assumption)
        exact ⟨ad, l, rfl, h1, h2, h3⟩
    · cases hr
  · split at hr
    · rename_i hx
      split at hr
      · cases hr
        cases hp with
        | hptr e =>
          obtain ⟨g, m, h1, h2, h3⟩ := H.blk _ _ hx
          rw [e] at h1; cases h1
          obtain ⟨l, a1, a2, a3, a4⟩ := block_cells h3 (by assumption)
          exact ⟨_, l, rfl, a1, a2, a3, a4⟩
      · cases hr
    · cases hr
  · cases hr

theorem rd1_some (H : HI Z w G lm loc σ) (hG : D.G = Z.Gl) {p v : AV} (hr : rd1 D.G p σ = some v) {c : Value} (hp : VRel w.heap G p c) :
    ∃ (ad : Addr) (u : Value), c = .pointer (some ad) ∧ cellOf w.heap ad = some u ∧ VRel w.heap G v u := by
  unfold rd1 at hr
  split at hr
  · cases hp with
    | pptr ad f hf hc hv => exact ⟨ad, f 0, rfl, by simpa [add_zero] using (hc 0 v (by simpa using hr)).1, hv 0 v (by simpa using hr)⟩
  · split at hr
    · rename_i hx
      cases hp with
      | hptr e =>
        obtain ⟨g, m, h1, h2, h3⟩ := H.blk _ _ hx
        rw [e] at h1; cases h1
        obtain ⟨arr, elem, b1, b2, b3, b3', b4⟩ := h3
        obtain ⟨u, c1, c2⟩ := b4 _ _ hr
        exact ⟨_, u, rfl, by rw [cellOf_mk b1]; exact c1, c2⟩
    · cases hr
  · cases hp with
    | gptr =>
      rw [hG] at hr
      obtain ⟨h1, u, h2, h3⟩ := H.glob _ _ hr
      exact ⟨_, u, rfl, h2, VRel.mono (G := ⟨G.Fz, fun _ => none⟩) (G' := G) ⟨fun _ h => h, (fun _ _ h => (by cases h)), fun _ _ => rfl⟩ h3⟩
  · cases hr

theorem sound_load (S : St Z N w G lm env loc σ a) (C : Cont Z N k x G lm w a o.dst.toList K) (hd : ∀ t, o.dst = some t → t < N) (hG : D.G = Z.Gl) {t n : Nat} {agg : Bool} {y : Operand} {y0 : Opd}
    (ho : o.op = .load t y) (ht : tyOk P t agg n = true) (hy : opdOk y y0 = true) (h : opK D o.dst (.load agg n y0) env loc σ k = some x) : o.wp P a w K Q := by
  have her := ent_rel S hy
  simp only [opK] at h
  split at h
  · rename_i s off he
    rw [he] at her
    split at h
    · rename_i m cs hl
      obtain ⟨h0, g, hg, hf, hb⟩ := S.hi.lrel s m cs hl
      have hc := her g hg
      cases agg with
      | true =>
        simp only [cond_true] at h
        cases hb1 : (off.beq 0 && n.beq m) with
        | true =>
          rw [hb1] at h
          simp only [Bool.and_eq_true] at hb1
          have e1 := Nat.eq_of_beq_eq_true hb1.1
          have e2 := Nat.eq_of_beq_eq_true hb1.2
          subst e1; subst e2
          obtain ⟨l, a1, a2, a3, a4⟩ := block_cells hb (off := 0) (n := n) (by omega)
          rw [List.drop_zero, List.take_of_length_le (by omega)] at a3
          exact op_val (e := .v (.agg cs)) S C hd (run_loadN ho ht hc a1 a2) (a3.agg a4) h
        | false =>
          rw [hb1] at h
          simp only [cond_false] at h
          cases hb2 : (off + n).ble m with
          | true =>
            rw [hb2] at h
            have hle := Nat.le_of_ble_eq_true hb2
            obtain ⟨l, a1, a2, a3, a4⟩ := block_cells hb (off := off) (n := n) (by omega)
            exact op_val (e := .v (.agg _)) S C hd (run_loadN ho ht hc a1 a2) (a3.agg a4) h
          | false => rw [hb2] at h; cases h
      | false =>
        simp only [cond_false] at h
        obtain ⟨v, hv, h⟩ := bind_some h
        obtain ⟨arr, elem, b1, b2, b3, b3', b4⟩ := hb
        obtain ⟨u, c1, c2⟩ := b4 _ _ hv
        have := tyOk_one ht
        subst this
        exact op_val (e := .v v) S C hd (run_load1 ho ht hc (by rw [cellOf_mk b1]; exact c1)) c2 h
    · cases h
  · rename_i p he
    rw [he] at her
    cases agg with
    | true =>
      simp only [cond_true] at h
      obtain ⟨cs, hcs, h⟩ := bind_some h
      obtain ⟨ad, l, e1, e2, e3, e4, e5⟩ := rdN_some S.hi hcs her
      exact op_val (e := .v (.agg cs)) S C hd (run_loadN ho ht e1 e2 e3) (e4.agg e5) h
    | false =>
      simp only [cond_false] at h
      obtain ⟨v, hv, h⟩ := bind_some h
      obtain ⟨ad, u, e1, e2, e3⟩ := rd1_some S.hi hG hv her
      have := tyOk_one ht
      subst this
      exact op_val (e := .v v) S C hd (run_load1 ho ht e1 e2) e3 h
end
end Go.Asm
