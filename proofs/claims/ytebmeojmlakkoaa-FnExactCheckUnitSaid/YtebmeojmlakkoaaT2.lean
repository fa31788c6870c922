/- Part 2 of 8 of a proof. -/
import Derived.WideKeyRuns
import Derived.Maps.RangeRun
import Derived.Test.YtebmeojmlakkoaaT1
set_option linter.all false
/- What each operation comes to: seventh part: append, make. -/
namespace Go.Asm

section
variable {ρ : Type} {P : Program} {Z : Base} {N : Nat} {w : World} {G : Gh} {lm : Nat → Option Nat} {env : Env} {loc : Loc} {σ : Store} {a : Act}
 {k : Env → Loc → Store → Option ρ} {x : ρ} {K : Act → World → Prop} {Q : Exit → Act → World → Prop} {o : Oper} {D : Ctx}

/-- An element type of slices that are made or grown. -/
def elemOk (P : Program) (t : Nat) (zero : List AV) : Bool :=
 match P.underlying t with
 | some (.slice e) => zeroOk P e zero && (match P.info? e with
  | some i => i.size.beq zero.length && i.bytes.ble 16384
  | none => false) && !zero.length.beq 0
 | _ => false

theorem elemOk_inv {t : Nat} {zero : List AV} (h : elemOk P t zero = true) : ∃ (e : TypeId) (i : TypeInfo) (z : Value), P.underlying t = some (.slice e) ∧ P.info? e = some i ∧ i.zero = some z ∧ i.size = zero.length ∧ i.bytes ≤ 16384 ∧ 0 < zero.length ∧
  Ones z.cells.toList ∧ (∀ hp G, VRels hp G zero z.cells.toList) := by
 unfold elemOk at h
 split at h
 ·rename_i e hu
  simp only [Bae] at h
  obtain ⟨⟨h1, h2⟩, h3⟩ := h
  split at h2
  ·rename_i i hi
   simp only [Bae] at h2
   unfold zeroOk at h1
   simp only [hi] at h1
   cases hz : i.zero with
   | none => simp [hz] at h1
   | some z =>
    simp only [hz] at h1
    refine ⟨e, i, z, hu, hi, hz, Nat.eq_of_beq_eq_true h2.1, Nat.le_of_ble_eq_true h2.2, ?_, cvOkL_ones h1, fun hp G => cvOkL_rel h1⟩
    rcases Nat.eq_zero_or_pos zero.length with q | q
    ·rw [q] at h3; simp at h3
    ·exact q
  ·cases h2
 ·cases h

theorem flat_zeros (zero : List AV) (n : Nat) : flatRows (zeros zero n) = mkRows zero n := by
 induction n with
 | zero => rfl
 | succ n ih => simp [zeros, flatRows, mkRows, AV.cells, ih]

theorem RRel.flat {h : Array Obj} {sz : Nat} {rows : List AV} {arr : Array Value} (r : RRel h G sz rows arr) : VRels h G (flatRows rows) arr.toList := by
 obtain ⟨l1, l2⟩ := flatRows_get r.2.1
 refine ⟨by rw [l1]; simpa using r.1.symm, fun i v c hi hc => ?_⟩
 obtain ⟨q, j, row, rfl, e2, e3⟩ := l2 i v hi
 obtain ⟨c', hc', hrc⟩ := r.2.2 q row j v e2 e3
 rw [Array.getElem?_toList, hc'] at hc
 cases hc
 exact hrc

theorem sound_mkSlice (S : St Z N w G lm env loc σ a) (C : Cont Z N k x G lm w a o.dst.toList K) (hd : ∀ t, o.dst = some t → t < N) {t : Nat} {zero : List AV} {y z : Operand} {y0 : Opd}
  (ho : o.op = .makeSlice t y z) (hy : opdOk y y0 = true) (hz : opdOk z y0 = true) (he : elemOk P t zero = true)
  (h : opK D o.dst (.mkSlice zero y0) env loc σ k = some x) : o.wp P a w K Q := by
 obtain ⟨v, hv, ha⟩ := val_some h
 clear h
 obtain ⟨r, hr, h⟩ := bind_some ha
 clear ha
 have r1 := val_rel S hy hv
 have r2 := val_rel S hz hv
 unfold mkSlice at hr
 split at hr
 ·rename_i kd n
  split at hr
  ·rename_i hn
   obtain ⟨e, i, zv, hu, hi, hzv, hsz, hby, hpos, hone, hrel⟩ := elemOk_inv he
   have hmax := hn.2
   simp only [maxLen'] at hmax
   have hb : (i.bytes : Int) * n ≤ 281474976710656 := by
    have h1 : (i.bytes : Int) * n ≤ 16384 * n := Int.mul_le_mul_of_nonneg_right (by omega) hn.1
    omega
   have hrun := run_make (P := P) w t e i zv hu hi hzv kd kd n n hn.1 (Int.le_refl _) hb (by omega)
   obtain ⟨m1, m2⟩ := made_rel (w := w) (G := G) hrel hone rfl hpos n.toNat
   rw [← hsz] at m1 m2
   have hfl := m1.flat
   rw [flat_zeros] at hfl
   cases hr
   refine op_heap (t := e) (cs := mkRows zero n.toNat) (e := .hslice zero.length σ.next 0 n.toNat) S C hd (c := .slice (some ⟨w.heap.size, 0, none⟩) n.toNat n.toNat) ?_ hfl m2 ?_ h
   ·unfold execOp
    simp only [ho, r1.int_inv, r2.int_inv]
    simp only [Sem.run_bind, hrun, Result.andThen_ok, Sem.run_pure]
   ·exact .hslice (m := (madeCells zv.cells (n.toNat * i.size)).size) (by simp [Gh.add]) (Nat.le_refl _) (by rw [size_madeCells, hsz]; simp)
  ·cases hr
 ·cases hr

theorem sound_mkMap (S : St Z N w G lm env loc σ a) (C : Cont Z N k x G lm w a o.dst.toList K) (hd : ∀ t, o.dst = some t → t < N) {t : Nat}
  {kk : KK} (ho : o.op = .makeMap t none) (h : opK D o.dst (.mkMap kk) env loc σ k = some x) : o.wp P a w K Q := by
 obtain ⟨H', le⟩ := S.hi.halloc (o := .map #[] 0) (b := .map kk fun _ => none) (m := 0) (fun _ => ⟨#[], 0, get_push_new, fun e h => by simp at h, fun k h => absurd rfl h, by simp, fun e h => by simp at h, by simp⟩)
 refine op_done (c := .map (some w.heap.size)) (e := .v (.hmap σ.next)) S C (.inl ?_) H' le hd (.hmap (m := 0) (by simp [Gh.add])) h
 unfold execOp
 simp only [ho, Option.map_none, Sem.run_bind]
 rfl

/-- The cells of what is appended. -/
theorem rows_cells {h : Array Obj} {sz : Nat} : ∀ {rows : List AV} {l : List AV} {ad : Addr} {cs : Nat → Nat → Value},
  (∀ (i : Nat) (r : AV), rows[i]? = some r → ∃ row : List AV, r = AV.agg row ∧ row.length = sz) →
  (∀ (i : Nat) (row : List AV) (j : Nat) (v : AV), rows[i]? = some (AV.agg row) → row[j]? = some v → cellOf h (ad.add (i * sz + j)) = some (cs i j) ∧ (cs i j).oneCell' = true) →
  (∀ (i : Nat) (row : List AV) (j : Nat) (v : AV), rows[i]? = some (AV.agg row) → row[j]? = some v → VRel h G v (cs i j)) → rowsCells sz rows = some l →
  ∃ news : List Value, news.length = rows.length * sz ∧ (∀ (j : Nat) v, news[j]? = some v → cellOf h (ad.add j) = some v) ∧ VRels h G l news ∧ Ones news
 | [], l, ad, cs, _, _, _, hl => by
  cases hl
  exact ⟨[], by simp, fun j v h => by simp at h, .nil, fun c h => by cases h⟩
 | r :: rows, l, ad, cs, h1, h2, h3, hl => by
  obtain ⟨row, rfl, hrow⟩ := h1 0 r rfl
  simp only [rowsCells, hrow, if_true] at hl
  rw [Option.map_eq_some_iff] at hl
  obtain ⟨l', hl', rfl⟩ := hl
  obtain ⟨n1, a1, a2, a3, a4⟩ := row_cells (h := h) (G := G) (row := row) (o := 0) (n := sz) (ad := ad) (f := fun j => cs 0 j)
   (fun j v hj => by have := h2 0 row j v rfl (by simpa using hj); simpa using this) (fun j v hj => h3 0 row j v rfl (by simpa using hj)) (by omega)
  obtain ⟨n2, b1, b2, b3, b4⟩ := rows_cells (rows := rows) (l := l') (ad := ad.add sz) (cs := fun i j => cs (i + 1) j) (fun i r hi => h1 (i + 1) r (by simpa using hi))
   (fun i row j v hi hj => by
    rw [add_add]
    have := h2 (i + 1) row j v (by simpa using hi) hj
    rwa [show (i + 1) * sz + j = sz + (i * sz + j) by rw [Nat.add_mul]; omega] at this)
   (fun i row j v hi hj => h3 (i + 1) row j v (by simpa using hi) hj) hl'
  refine ⟨n1 ++ n2, by simp [a1, b1, Nat.add_mul]; omega, fun j v hj => ?_, ?_, a4.append b4⟩
  ·by_cases hlt : j < n1.length
   ·rw [List.getElem?_append_left hlt] at hj; exact a2 j v hj
   ·rw [List.getElem?_append_right (by omega)] at hj
    have := b2 _ v hj
    rw [add_add] at this
    rwa [show sz + (j - n1.length) = j by omega] at this
  ·have : (row.drop 0).take sz = row := by simp [← hrow]
   rw [this] at a3
   exact a3.append b3

theorem contents_some (H : HI Z w G lm loc σ) {sz n : Nat} {v : AV} {l : List AV} (hv : contents sz v σ = some (n, l)) (hn : 0 < n) {c : Value} (hc : VRel w.heap G v c) :
  ∃ (ad : Addr) (cap : Nat) (news : List Value), c = .slice (some ad) n cap ∧ news.length = n * sz ∧ (∀ (j : Nat) v, news[j]? = some v → cellOf w.heap (ad.add j) = some v) ∧ VRels w.heap G l news ∧ Ones news := by
 unfold contents at hv
 split at hv
 ·cases hv; omega
 ·split at hv
  ·rename_i hs
   subst hs
   rw [Option.map_eq_some_iff] at hv
   obtain ⟨l', hl', e⟩ := hv
   cases e
   cases hc with
   | pnil => simp at hn
   | pslice ad cap cs hf hcap hrow hcell hrel =>
    obtain ⟨news, n1, n2, n3, n4⟩ := rows_cells hrow hcell hrel hl'
    exact ⟨ad, cap, news, rfl, n1, n2, n3, n4⟩
  ·cases hv
 ·split at hv
  ·rename_i hs
   subst hs
   rw [Option.map_eq_some_iff] at hv
   obtain ⟨l', hl', e⟩ := hv
   cases e
   cases hc with
   | hslice hg h1 h2 =>
    obtain ⟨ad, news, e1, n1, n2, n3, n4⟩ := rdN_some H hl' (.hptr hg)
    cases e1
    exact ⟨_, _, news, rfl, n1, n2, n3, n4⟩
  ·cases hv
 ·cases hv

theorem run_appendOp {t : Nat} {y z : Operand} (ho : o.op = .call { callee := .builtin .append, args := #[y, z], argTypes := #[t, t] }) {c : Value} {w' : World}
  (h : (Builtin.append_ #[t, t] o.type #[a.eval y, a.eval z]).run P w = .ok c w') : (execOp a.eval o).run P w = .ok (.value c) w' := by
 unfold execOp
 simp only [ho, resolve, invoke, builtin, Sem.run_bind, Sem.run_pure, Result.andThen_ok, List.map_toArray, List.map_cons, List.map_nil, h]

theorem upd_setRow {g : Nat} {cur arr : Array Value} {e : TypeId} (h : w.heap[g]? = some (.cells cur e (0, 0))) : Upd w (w.setRow g arr) g (.cells arr e (0, 0)) := by
 refine ⟨by simp [World.setRow], fun b hb => ?_, ?_, rfl, rfl, rfl⟩
 ·simp [World.setRow, Array.getElem?_modify, Ne.symm hb]
 ·simp [World.setRow, Array.getElem?_modify, h]

theorem Drew.drew (w : World) : Drew w w.drew := ⟨rfl, rfl, rfl, rfl⟩

theorem sound_app (S : St Z N w G lm env loc σ a) (C : Cont Z N k x G lm w a o.dst.toList K) (hd : ∀ t, o.dst = some t → t < N) {t : Nat} {zero : List AV} {y z : Operand} {y0 z0 : Opd}
  (ho : o.op = .call { callee := .builtin .append, args := #[y, z], argTypes := #[t, t] }) (hy : opdOk y y0 = true) (hz : opdOk z z0 = true) (he : elemOk P t zero = true)
  (h : opK D o.dst (.app zero.length y0 z0) env loc σ k = some x) : o.wp P a w K Q := by
 obtain ⟨s, hs, ha⟩ := val_some h
 clear h
 obtain ⟨v, hv, hb⟩ := val_some ha
 clear ha
 obtain ⟨r, hr, h⟩ := bind_some hb
 clear hb
 have r1 := val_rel S hy hs
 have r2 := val_rel S hz hv
 obtain ⟨e, i, zv, hu, hi, hzv, hsz, hby, hpos, hone, hrel⟩ := elemOk_inv he
 unfold app at hr
 obtain ⟨⟨n, new⟩, hcon, hr0⟩ := bind_some hr
 clear hr
 have hr := hr0
 clear hr0
 simp only at hr
 have hzs : zv.cells.size = zero.length := by have := (hrel w.heap G).1; simpa using this.symm
 have hzo : ∀ n, Ones (Builtin.zeroCells zv.cells n).toList := fun n => by
  have := (made_rel (w := w) (G := G) hrel hone rfl hpos n).2
  rw [← hzs] at this
  exact this
 split at hr
 ·-- onto nil
  split at hr
  ·rename_i hn
   obtain ⟨ad, cap, news, e1, n1, n2, n3, n4⟩ := contents_some S.hi hcon hn.2 r2
   cases hr
   generalize hyv : a.eval y = c at r1
   cases r1
   have hmax := hn.1
   simp only [maxLen'] at hmax
   have hrun := run_append_nil (P := P) w t o.type e i zv hu hi hzv ad n cap news (by rw [n1, hsz]) (fun j v hj => n2 j v hj) hn.2 (by omega) (by
    have : n * i.bytes ≤ n * 16384 := Nat.mul_le_mul_left _ hby
    omega)
   have hrun2 : (execOp a.eval o).run P w = _ := run_appendOp ho (by rw [hyv, e1]; exact hrun)
   have hge := grownCap_ge w n 0 e
   obtain ⟨H', le⟩ := (S.hi.draw w.drew rfl rfl rfl rfl).halloc (o := .cells (news.toArray ++ Builtin.zeroCells zv.cells (grownCap w n 0 e - n)) e) (b := .cells new) (m := grownCap w n 0 e * zero.length) (fun le => by
    refine ⟨_, e, get_push_new, ?_, ?_, ?_, fun j u hj => ?_⟩
    ·simp only [Array.size_append, List.size_toArray, n1, size_zeroCells, hzs]
     rw [← Nat.add_mul]; congr 1; omega
    ·rw [n3.1, n1]; exact Nat.mul_le_mul_right _ hge
    ·rw [Array.toList_append]; exact n4.append (hzo _)
    ·obtain ⟨c, c1, c2⟩ := n3.get hj
     have hjl := (List.getElem?_eq_some_iff.1 c1).1
     refine ⟨c, ?_, c2.mono le⟩
     rw [Array.getElem?_append_left (by simpa using hjl)]
     simpa using c1)
   refine op_done (e := .v (.hslice zero.length σ.next 0 n)) S C (.inl hrun2) H' le hd ?_ h
   exact .hslice (m := grownCap w n 0 e * zero.length) (by simp [Gh.add]) hge (by simp)
  ·cases hr
 ·-- onto a row of the call's own
  rename_i s' b off len
  split at hr
  ·rename_i hc
   obtain ⟨rfl, rfl, hmax, hn⟩ := hc
   simp only [maxLen'] at hmax
   split at hr
   ·rename_i cs hbk
    split at hr
    ·rename_i hlen
     obtain ⟨ad, ncap, news, e1, n1, n2, n3, n4⟩ := contents_some S.hi hcon hn r2
     cases hr
     generalize hyv : a.eval y = c at r1
     cases r1 with
     | hslice hg h1 h2 =>
     rename_i g m cap
     obtain ⟨g', m', q1, hfz, q3⟩ := S.hi.blk _ _ hbk
     rw [hg] at q1; cases q1
     obtain ⟨arr, elem, d1, d2, d3, d4, d5⟩ := q3
     have e9 : len * i.size = len * zero.length := by rw [hsz]
     have hln : new.length = n * zero.length := by rw [n3.1, n1]
     by_cases hroom : len + n ≤ cap
     ·-- in place
      have hcapm : (len + n) * zero.length ≤ m := by
       have := Nat.mul_le_mul_right zero.length hroom
       omega
      rw [Nat.add_mul] at hcapm
      have hfit : len * i.size + news.length ≤ arr.size := by rw [n1, hsz, d2]; exact hcapm
      have hel : w.heap[g]? = some (.cells arr elem (0, 0)) := d1
      have hrun : (Builtin.append_ #[t, t] o.type #[.slice (some ⟨g, 0, none⟩) len cap, .slice (some ad) n ncap]).run P w =
       .ok (.slice (some ⟨g, 0, none⟩) (len + n) cap) (w.setRow g (arr.toList.take (len * i.size) ++ news ++ arr.toList.drop (len * i.size + news.length)).toArray) := by
       have hf := run_firstCells_some (P := P) w i.size n ad n ncap news (by rw [n1, hsz]) (fun j v hj => n2 j v hj)
       have hst := run_storeCells_at P g (len * i.size) elem news 0 arr w hel (by simpa using hfit) n4
       simp only [Nat.add_zero] at hst
       simp [Builtin.append_, run_underlying hu, sizeOf, typeInfo, hi, Builtin.lenOf, hroom, hf, Addr.add_lit, hst]
      have hrun2 := run_appendOp (P := P) (w := w) ho (by rw [hyv, e1]; exact hrun)
      have hu' := upd_setRow (arr := (arr.toList.take (len * i.size) ++ news ++ arr.toList.drop (len * i.size + news.length)).toArray) hel
      have hsize : (arr.toList.take (len * i.size) ++ news ++ arr.toList.drop (len * i.size + news.length)).length = m := by
       simp only [List.length_append, List.length_take, List.length_drop, Array.length_toList]
       omega
      obtain ⟨H1, le1⟩ := S.hi.hstore (b' := .cells (cs.take (len * zero.length) ++ new)) hbk hg hu' (fun le => by
       refine ⟨_, elem, hu'.at_, by simpa using hsize, ?_, ?_, fun j u hj => ?_⟩
       ·simp only [List.length_append, List.length_take, hln]; omega
       ·exact ((Ones.take d4 _).append n4).append (Ones.drop d4 _)
       ·have htl : (cs.take (len * zero.length)).length = len * zero.length := by simp; omega
        have htl' : (arr.toList.take (len * i.size)).length = len * zero.length := by simp [hsz]; omega
        simp only [List.getElem?_toArray]
        by_cases hlt : j < len * zero.length
        ·rw [List.getElem?_append_left (by omega), List.getElem?_take, if_pos hlt] at hj
         obtain ⟨c, c1, c2⟩ := d5 j u hj
         refine ⟨c, ?_, c2.mono le⟩
         rw [List.append_assoc, List.getElem?_append_left (by omega), List.getElem?_take, if_pos (by omega)]
         simpa using c1
        ·rw [List.getElem?_append_right (by omega), htl] at hj
         obtain ⟨c, c1, c2⟩ := n3.get hj
         have hjl := (List.getElem?_eq_some_iff.1 c1).1
         refine ⟨c, ?_, c2.mono le⟩
         rw [List.append_assoc, List.getElem?_append_right (by omega), htl', List.getElem?_append_left hjl]
         exact c1)
      obtain ⟨H2, le2⟩ := H1.rename (x := b) (b := .cells (cs.take (len * zero.length) ++ new)) (by simp [Store.upd]) hg
      have hσ : ((σ.upd b (some (.cells (cs.take (len * zero.length) ++ new)))).upd b none).add (.cells (cs.take (len * zero.length) ++ new)) = (σ.upd b none).add (.cells (cs.take (len * zero.length) ++ new)) := by
       simp only [Store.add, Store.upd]
       congr 1
       funext q
       by_cases e : q = b <;> simp [e]
      rw [hσ] at H2
      refine op_done (e := .v (.hslice zero.length σ.next 0 (len + n))) S C (.inl hrun2) H2 (le1.trans le2) hd ?_ h
      exact .hslice (m := m) (by simp [Gh.add, Store.upd]) hroom (by simpa using h2)
     ·-- grown
      have hlo : ((arr.toList.take (len * zero.length))).length = len * i.size := by simp [hsz]; omega
      have hrun := run_append_grow (P := P) w t o.type e i zv hu hi hzv ⟨g, 0, none⟩ len cap (arr.toList.take (len * zero.length)) hlo (fun j v hj => by
        rw [add_mk, cell_cellOf, cellOf_mk d1]
        rw [List.getElem?_take] at hj
        split at hj
        ·simpa using hj
        ·cases hj) ad n ncap news (by rw [n1, hsz]) (fun j v hj => n2 j v hj) (by omega) (by omega) (growslice_fits (by omega) (by
         have : (len + n) * i.bytes ≤ (len + n) * 16384 := Nat.mul_le_mul_left _ hby
         omega))
      have hrun2 := run_appendOp (P := P) (w := w) ho (by rw [hyv, e1]; exact hrun)
      have hge := grownCap_ge w (len + n) cap e
      obtain ⟨H', le⟩ := ((S.hi.kill b).draw w.drew rfl rfl rfl rfl).halloc (o := .cells ((arr.toList.take (len * zero.length)).toArray ++ news.toArray ++ Builtin.zeroCells zv.cells (grownCap w (len + n) cap e - (len + n))) e)
        (b := .cells (cs.take (len * zero.length) ++ new)) (m := grownCap w (len + n) cap e * zero.length) (fun le => by
       refine ⟨_, e, get_push_new, ?_, ?_, ?_, fun j u hj => ?_⟩
       ·simp only [Array.size_append, List.size_toArray, n1, size_zeroCells, hzs, hlo, hsz]
        rw [← Nat.add_mul, ← Nat.add_mul]; congr 1; omega
       ·simp only [List.length_append, List.length_take, hln]
        have := Nat.mul_le_mul_right zero.length hge
        rw [Nat.add_mul] at this
        omega
       ·rw [Array.toList_append, Array.toList_append]; exact ((Ones.take d4 _).append n4).append (hzo _)
       ·have htl : (cs.take (len * zero.length)).length = len * zero.length := by simp; omega
        rw [hsz] at hlo
        by_cases hlt : j < len * zero.length
        ·rw [List.getElem?_append_left (by omega), List.getElem?_take, if_pos hlt] at hj
         obtain ⟨c, c1, c2⟩ := d5 j u hj
         refine ⟨c, ?_, c2.mono le⟩
         rw [Array.append_assoc, Array.getElem?_append_left (by simp only [List.size_toArray]; omega)]
         simp only [List.getElem?_toArray]
         rw [List.getElem?_take, if_pos hlt]
         simpa using c1
        ·rw [List.getElem?_append_right (by omega), htl] at hj
         obtain ⟨c, c1, c2⟩ := n3.get hj
         have hjl := (List.getElem?_eq_some_iff.1 c1).1
         refine ⟨c, ?_, c2.mono le⟩
         rw [Array.append_assoc, Array.getElem?_append_right (by simp only [List.size_toArray]; omega)]
         simp only [List.size_toArray, hlo]
         rw [Array.getElem?_append_left (by simpa using hjl)]
         simpa using c1)
      refine op_done (e := .v (.hslice zero.length σ.next 0 (len + n))) S C (.inl hrun2) H' le hd ?_ h
      exact .hslice (m := grownCap w (len + n) cap e * zero.length) (by simp [Gh.add, Store.upd]) hge (by simp)
    ·cases hr
   ·cases hr
  ·cases hr
 ·cases hr
end
end Go.Asm
/- Keys of maps: plain ones, and rows of plain ones (structs, arrays). -/
namespace Go.Asm
open Go.MapKept (IsKey sameNow_of_keys run_checkKey run_findKey run_setObj_map run_keyThatStays)

theorem fits1_cases {kk : KK} {v : AV} (h : kk.fits1 v = true) : (∃ k n, kk = .int k ∧ v = .int k n) ∨ (∃ s, kk = .str ∧ v = .str s) ∨ ∃ b, kk = .bool ∧ v = .bool b := by
 unfold KK.fits1 at h
 split at h
 ·simp at h; subst h; exact .inl ⟨_, _, rfl, rfl⟩
 ·exact .inr (.inl ⟨_, rfl, rfl⟩)
 ·exact .inr (.inr ⟨_, rfl, rfl⟩)
 ·cases h
theorem same1_eq {a b : KK} (h : a.same1 b = true) : a = b := by
 unfold KK.same1 at h
 split at h <;> simp_all
theorem sameL_eq : ∀ {a b : List KK}, KK.sameL a b = true → a = b
 | [], [], _ => rfl
 | [], _ :: _, h => by simp [KK.sameL] at h
 | _ :: _, [], h => by simp [KK.sameL] at h
 | a :: l, b :: m, h => by
  simp only [KK.sameL, Bae] at h
  rw [same1_eq h.1, sameL_eq h.2]
theorem same_eq {a b : KK} (h : a.same b = true) : a = b := by
 unfold KK.same at h
 split at h
 ·rw [sameL_eq h]
 ·exact same1_eq h

theorem str_ext {s t : ByteArray} (h : Value.string s = Value.string t) : s = t := by cases h; rfl
theorem kval1_inj {kk : KK} {u v : AV} (hu : kk.fits1 u = true) (hv : kk.fits1 v = true) (h : kval1 u = kval1 v) : u = v := by
 rcases fits1_cases hu with ⟨k, n, rfl, rfl⟩ | ⟨s, rfl, rfl⟩ | ⟨b, rfl, rfl⟩
 ·obtain ⟨m, rfl⟩ := fits1_int hv
  simp only [kval1, Value.int.injEq] at h; rw [h.2]
 ·obtain ⟨m, rfl⟩ := fits1_str hv
  simp only [kval1, Value.string.injEq] at h; rw [h]
 ·obtain ⟨m, rfl⟩ := fits1_bool hv
  simp only [kval1, Value.bool.injEq] at h; rw [h]
theorem kvalL_inj : ∀ {ks : List KK} {us vs : List AV}, KK.fitsL ks us = true → KK.fitsL ks vs = true → us.map kval1 = vs.map kval1 → us = vs
 | [], [], [], _, _, _ => rfl
 | [], _ :: _, _, h, _, _ => by simp [KK.fitsL] at h
 | [], [], _ :: _, _, h, _ => by simp [KK.fitsL] at h
 | _ :: _, [], _, h, _, _ => by simp [KK.fitsL] at h
 | _ :: _, _ :: _, [], _, h, _ => by simp [KK.fitsL] at h
 | k :: ks, u :: us, v :: vs, h1, h2, h => by
  simp only [KK.fitsL, Bae] at h1 h2
  simp only [List.map_cons, List.cons.injEq] at h
  rw [kval1_inj h1.1 h2.1 h.1, kvalL_inj h1.2 h2.2 h.2]
theorem fits_cases {kk : KK} {v : AV} (h : kk.fits v = true) : (∃ ks us, kk = .agg ks ∧ v = .agg us ∧ KK.fitsL ks us = true) ∨ (kk.fits1 v = true ∧ kval v = kval1 v) := by
 unfold KK.fits at h
 split at h
 ·exact .inl ⟨_, _, rfl, rfl, h⟩
 ·refine .inr ⟨h, ?_⟩
  rcases fits1_cases h with ⟨k, n, rfl, rfl⟩ | ⟨s, rfl, rfl⟩ | ⟨b, rfl, rfl⟩ <;> rfl
theorem kval_inj {kk : KK} {u v : AV} (hu : kk.fits u = true) (hv : kk.fits v = true) (h : kval u = kval v) : u = v := by
 rcases fits_cases hu with ⟨ks, us, rfl, rfl, h1⟩ | ⟨h1, e1⟩
 ·rcases fits_cases hv with ⟨ks', vs, e, rfl, h2⟩ | ⟨h2, _⟩
  ·cases e
   simp only [kval, Value.agg.injEq] at h
   rw [kvalL_inj h1 h2 (by simpa using congrArg Array.toList h)]
  ·cases v <;> simp [KK.fits1] at h2
 ·rcases fits_cases hv with ⟨ks, vs, rfl, rfl, h2⟩ | ⟨h2, e2⟩
  ·cases u <;> simp [KK.fits1] at h1
  ·rw [e1, e2] at h; exact kval1_inj h1 h2 h

section
variable {P : Program} {w : World} {G : Gh} {h : Array Obj}

theorem kval1_rel {kk : KK} {v : AV} (hf : kk.fits1 v = true) : VRel h G v (kval1 v) := by
 rcases fits1_cases hf with ⟨k, n, rfl, rfl⟩ | ⟨s, rfl, rfl⟩ | ⟨b, rfl, rfl⟩ <;> constructor
theorem kval1_one {kk : KK} {v : AV} (hf : kk.fits1 v = true) : (kval1 v).oneCell' = true := by
 rcases fits1_cases hf with ⟨k, n, rfl, rfl⟩ | ⟨s, rfl, rfl⟩ | ⟨b, rfl, rfl⟩ <;> rfl
theorem kval1_of {kk : KK} {v : AV} {c : Value} (hf : kk.fits1 v = true) (r : VRel h G v c) : c = kval1 v := by
 rcases fits1_cases hf with ⟨k, n, rfl, rfl⟩ | ⟨s, rfl, rfl⟩ | ⟨b, rfl, rfl⟩
 ·exact r.int_inv
 ·exact r.str_inv
 ·exact r.bool_inv
theorem kvalL_rel : ∀ {ks : List KK} {us : List AV}, KK.fitsL ks us = true → VRels h G us (us.map kval1) ∧ Ones (us.map kval1)
 | [], [], _ => ⟨.nil, fun c hc => by simp at hc⟩
 | [], _ :: _, hf => by simp [KK.fitsL] at hf
 | _ :: _, [], hf => by simp [KK.fitsL] at hf
 | k :: ks, u :: us, hf => by
  simp only [KK.fitsL, Bae] at hf
  obtain ⟨a, b⟩ := kvalL_rel hf.2
  refine ⟨.cons (kval1_rel hf.1) a, fun c hc => ?_⟩
  rcases List.mem_cons.1 hc with rfl | hc
  ·exact kval1_one hf.1
  ·exact b c hc
theorem kval_rel {kk : KK} {v : AV} (hf : kk.fits v = true) : VRel h G v (kval v) := by
 rcases fits_cases hf with ⟨ks, us, rfl, rfl, h1⟩ | ⟨h1, e1⟩
 ·obtain ⟨a, b⟩ := kvalL_rel (h := h) (G := G) h1
  have := VRels.agg a b
  simpa [kval, List.toArray] using this
 ·rw [e1]; exact kval1_rel h1
theorem kvalL_of : ∀ {ks : List KK} {us : List AV} {cs : List Value}, KK.fitsL ks us = true → VRels h G us cs → cs = us.map kval1
 | [], [], cs, _, r => by
  have : cs = [] := List.length_eq_zero_iff.1 (by simpa using r.1.symm)
  simpa using this
 | [], _ :: _, _, hf, _ => by simp [KK.fitsL] at hf
 | _ :: _, [], _, hf, _ => by simp [KK.fitsL] at hf
 | k :: ks, u :: us, [], _, r => by simp [VRels] at r
 | k :: ks, u :: us, c :: cs, hf, r => by
  simp only [KK.fitsL, Bae] at hf
  rw [kval1_of hf.1 r.head, kvalL_of hf.2 r.tail]; rfl
theorem kval_of {kk : KK} {v : AV} {c : Value} (hf : kk.fits v = true) (r : VRel h G v c) : c = kval v := by
 rcases fits_cases hf with ⟨ks, us, rfl, rfl, h1⟩ | ⟨h1, e1⟩
 ·cases r with
  | agg h0 h2 h3 =>
   rename_i arr
   have := kvalL_of (cs := arr.toList) h1 (VRels.of_agg (.agg h0 h2 h3))
   simp only [kval]
   rw [← this]
 ·rw [e1]; exact kval1_of h1 r

/-- A type of keys, checked. -/
def keyOk (P : Program) (t : Nat) (kk : KK) : Bool :=
 match kk with
 | .agg ks => (match P.underlying t with
  | some (.struct fs) => flatOk P 0 fs.toList ks && !P.stoodInHeld t
  | some (.array n e) => n.beq ks.length && ks.all (kindOk1 P e) && szOk P e 1
  | _ => false)
 | kk => kindOk1 P t kk

theorem plain_check {t : Nat} {kk : KK} (hk : kindOk1 P t kk = true) {v : AV} (hf : kk.fits1 v = true) (b : Bool) (n : Nat) : (Instr.checkKey b (n + 1) t (kval1 v)).run P w = .ok () w := by
 unfold Instr.checkKey
 rcases kind1_und hk with ⟨k, rfl, ht⟩ | ⟨rfl, ht⟩ | ⟨rfl, ht⟩
 ·obtain ⟨m, rfl⟩ := fits1_int hf
  simp [kval1, Sem.run_bind, run_underlying ht]
 ·obtain ⟨m, rfl⟩ := fits1_str hf
  simp [kval1, Sem.run_bind, run_underlying ht]
 ·obtain ⟨m, rfl⟩ := fits1_bool hf
  simp [kval1, Sem.run_bind, run_underlying ht]
theorem plain_agg {t : Nat} {kk : KK} (hk : kindOk1 P t kk = true) : (isAgg t).run P w = .ok false w := by
 rcases kind1_und hk with ⟨k, rfl, ht⟩ | ⟨rfl, ht⟩ | ⟨rfl, ht⟩ <;> simp [isAgg, run_underlying ht]
theorem plain_part {t off : Nat} {kk : KK} (hk : kindOk1 P t kk = true) {xs : Array Value} {c : Value} (hx : xs[off]? = some c) : (part t xs off).run P w = .ok c w := by
 simp [part, plain_agg hk, hx]
theorem flat_check {xs : Array Value} (b : Bool) (n : Nat) : ∀ (fs : List Field) (ks : List KK) (i : Nat) (us : List AV), flatOk P i fs ks = true → KK.fitsL ks us = true →
  (∀ (j : Nat) u, us[j]? = some u → xs[i + j]? = some (kval1 u)) →
  (forIn fs PUnit.unit fun f _ => do
   if f.name ≠ "_" then do
    Instr.checkKey b (n + 1) f.type (← part f.type xs f.offset)
    pure (ForInStep.yield PUnit.unit)
   else pure (ForInStep.yield PUnit.unit) : Sem PUnit).run P w = .ok () w
 | [], _, _, _, _, _, _ => by simp
 | f :: fs, [], i, us, hf, _, _ => by simp [flatOk] at hf
 | f :: fs, k :: ks, i, [], _, hf, _ => by simp [KK.fitsL] at hf
 | f :: fs, k :: ks, i, u :: us, h1, h2, hx => by
  simp only [flatOk, Bae] at h1
  simp only [KK.fitsL, Bae] at h2
  have hoff := Nat.eq_of_beq_eq_true h1.1.1.1
  have hnm : f.name ≠ "_" := by simpa using h1.1.1.2
  have h0 : xs[i]? = some (kval1 u) := hx 0 u rfl
  simp only [List.forIn_cons, Sem.run_bind, if_pos hnm, hoff, plain_part h1.1.2 h0, Result.andThen_ok, plain_check h1.1.2 h2.1, Sem.run_pure]
  exact flat_check b n fs ks (i + 1) us h1.2 h2.2 fun j u hj => by
   have := hx (j + 1) u (by simpa using hj)
   rwa [show i + 1 + j = i + (j + 1) by omega]
theorem key_check {t : Nat} {kk : KK} (hk : keyOk P t kk = true) {v : AV} (hf : kk.fits v = true) (b : Bool) (n : Nat) : (Instr.checkKey b (n + 2) t (kval v)).run P w = .ok () w := by
 rcases fits_cases hf with ⟨ks, us, rfl, rfl, h1⟩ | ⟨h1, e1⟩
 ·have hat : ∀ (j : Nat) u, us[j]? = some u → (us.map kval1).toArray[0 + j]? = some (kval1 u) := fun j u hj => by simp [hj]
  simp only [keyOk] at hk
  split at hk
  ·rename_i fs hu
   simp only [Bae] at hk
   rw [Instr.checkKey]
   simp only [kval, Sem.run_bind, run_underlying hu, Result.andThen_ok]
   rw [← Array.forIn_toList]
   have := flat_check (w := w) b n fs.toList ks 0 us hk.1 h1 hat
   rw [this]; simp
  ·rename_i m e hu
   simp only [Bae] at hk
   obtain ⟨⟨hm, ha⟩, hs⟩ := hk
   have hm := Nat.eq_of_beq_eq_true hm
   rw [Instr.checkKey]
   simp only [kval, Sem.run_bind, run_underlying hu, Result.andThen_ok]
   simp only [Std.Legacy.Range.forIn_eq_forIn_range', Std.Legacy.Range.size, Nat.sub_zero, Nat.add_one_sub_one, Nat.div_one]
   have key : ∀ (ks : List KK) (us : List AV) (i : Nat), ks.all (kindOk1 P e) = true → KK.fitsL ks us = true → (∀ (j : Nat) u, us[j]? = some u → ∀ xs : Array Value, (∀ (j : Nat) u, us[j]? = some u → xs[i + j]? = some (kval1 u)) → xs[i + j]? = some (kval1 u)) →
     ∀ xs : Array Value, (∀ (j : Nat) u, us[j]? = some u → xs[i + j]? = some (kval1 u)) →
     (forIn (List.range' i ks.length) PUnit.unit fun j _ => do
      Instr.checkKey b (n + 1) e (← part e xs (j * (← sizeOf e)))
      pure (ForInStep.yield PUnit.unit) : Sem PUnit).run P w = .ok () w := by
    intro ks
    induction ks with
    | nil => intro us i _ _ _ xs _; simp
    | cons k ks ih =>
     intro us i hall hfit hh xs hx
     cases us with
     | nil => simp [KK.fitsL] at hfit
     | cons u us =>
      simp only [List.all_cons, Bae] at hall
      simp only [KK.fitsL, Bae] at hfit
      have h0 : xs[i]? = some (kval1 u) := hx 0 u rfl
      rw [List.length_cons, List.range'_succ]
      simp only [List.forIn_cons, Sem.run_bind, run_sizeOf hs, Nat.mul_one, plain_part hall.1 h0, Result.andThen_ok, plain_check hall.1 hfit.1, Sem.run_pure]
      refine ih us (i + 1) hall.2 hfit.2 (fun j u hj xs hx => hx j u hj) xs fun j u hj => ?_
      have := hx (j + 1) u (by simpa using hj)
      rwa [show i + 1 + j = i + (j + 1) by omega]
   rw [hm]
   have := key ks us 0 ha h1 (fun j u hj xs hx => hx j u hj) _ hat
   rw [this]; simp
  ·cases hk
 ·rw [e1]
  cases kk with
  | agg ks => cases v <;> simp [KK.fits1] at h1
  | int k => exact plain_check (kk := .int k) hk h1 b (n + 1)
  | str => exact plain_check (kk := .str) hk h1 b (n + 1)
  | bool => exact plain_check (kk := .bool) hk h1 b (n + 1)

theorem ceq_fits {kk : KK} {u v : AV} (hu : kk.fits1 u = true) (hv : kk.fits1 v = true) : ∃ b, ceq u v = some b ∧ (b = true ↔ u = v) := by
 rcases fits1_cases hu with ⟨k, n, rfl, rfl⟩ | ⟨s, rfl, rfl⟩ | ⟨b, rfl, rfl⟩
 ·obtain ⟨m, rfl⟩ := fits1_int hv
  exact ⟨decide (n = m), by simp [ceq], by simp⟩
 ·obtain ⟨m, rfl⟩ := fits1_str hv
  refine ⟨decide (s.toList = m.toList), by simp [ceq], ?_⟩
  rw [ByteArray.toList_eq, ByteArray.toList_eq]
  obtain ⟨⟨p⟩⟩ := s
  obtain ⟨⟨q⟩⟩ := m
  simp
 ·obtain ⟨m, rfl⟩ := fits1_bool hv
  exact ⟨decide (b = m), by simp [ceq], by simp⟩
theorem ceqL_fits : ∀ {ks : List KK} {us vs : List AV}, KK.fitsL ks us = true → KK.fitsL ks vs = true → ∃ b, ceqL us vs = some b ∧ (b = true ↔ us = vs)
 | [], [], [], _, _ => ⟨true, rfl, by simp⟩
 | [], _ :: _, _, h, _ => by simp [KK.fitsL] at h
 | [], [], _ :: _, _, h => by simp [KK.fitsL] at h
 | _ :: _, [], _, h, _ => by simp [KK.fitsL] at h
 | _ :: _, _ :: _, [], _, h => by simp [KK.fitsL] at h
 | k :: ks, u :: us, v :: vs, h1, h2 => by
  simp only [KK.fitsL, Bae] at h1 h2
  obtain ⟨b, hb, ib⟩ := ceq_fits h1.1 h2.1
  obtain ⟨c, hc, ic⟩ := ceqL_fits h1.2 h2.2
  refine ⟨b && c, by simp [ceqL, hb, hc], ?_⟩
  simp only [Bae, ib, ic, List.cons.injEq]
theorem key_equal {t : Nat} {kk : KK} (hk : keyOk P t kk = true) {u v : AV} (hu : kk.fits u = true) (hv : kk.fits v = true) : ∃ b, (Op.equal t (kval u) (kval v)).run P w = .ok b w ∧ (b = true ↔ u = v) := by
 rcases fits_cases hu with ⟨ks, us, rfl, rfl, h1⟩ | ⟨h1, e1⟩
 ·obtain ⟨vs, rfl, h2⟩ : ∃ vs, v = .agg vs ∧ KK.fitsL ks vs = true := by
   rcases fits_cases hv with ⟨ks', vs, e, rfl, h2⟩ | ⟨h2, _⟩
   ·cases e; exact ⟨vs, rfl, h2⟩
   ·cases v <;> simp [KK.fits1] at h2
  simp only [keyOk] at hk
  split at hk
  ·rename_i fs hud
   simp only [Bae, Bool.not_eq_true'] at hk
   have hfo : P.fieldsOf t = fs := by simp [Program.fieldsOf, hud]
   obtain ⟨b, hb, ib⟩ := ceqL_fits h1 h2
   refine ⟨b, ?_, by rw [ib]; simp⟩
   show (Op.equalIn (9998 + 1 + 1) t _ _).run P w = _
   simp only [kval]
   rw [run_equalIn_struct w (9998 + 1) t _ _ (by rw [hfo]; exact hud) hk.2, hfo]
   refine run_flat (G := ⟨fun _ => False, fun _ => none⟩) (n := 9998) fs.toList ks 0 us vs b hk.1 h1 h2 hb (fun j u hj => ⟨kval1 u, by simp [hj], ?_⟩) (fun j u hj => ⟨kval1 u, by simp [hj], ?_⟩)
   ·obtain ⟨a, _⟩ := kvalL_rel (h := w.heap) (G := ⟨fun _ => False, fun _ => none⟩) h1
    exact a.2 j u _ hj (by simp [hj])
   ·obtain ⟨a, _⟩ := kvalL_rel (h := w.heap) (G := ⟨fun _ => False, fun _ => none⟩) h2
    exact a.2 j u _ hj (by simp [hj])
  ·rename_i m e hud
   simp only [Bae] at hk
   obtain ⟨⟨hm, ha⟩, hs⟩ := hk
   have hm := Nat.eq_of_beq_eq_true hm
   have hi : ∃ i, P.info? e = some i ∧ i.size = 1 := by
    unfold szOk at hs
    split at hs
    ·rename_i i hi; exact ⟨i, hi, Nat.eq_of_beq_eq_true hs⟩
    ·cases hs
   obtain ⟨i, hi, hsz⟩ := hi
   have hc : P.cellsOf e = 1 := by simp [Program.cellsOf, hi, hsz]
   have key : ∀ (ks : List KK) (us vs : List AV) (i : Nat), ks.all (kindOk1 P e) = true → KK.fitsL ks us = true → KK.fitsL ks vs = true →
     ∀ xs ys : Array Value, (∀ (j : Nat) u, us[j]? = some u → xs[i + j]? = some (kval1 u)) → (∀ (j : Nat) u, vs[j]? = some u → ys[i + j]? = some (kval1 u)) →
     ∃ b, (Op.eqItems (9998 + 1) e 1 xs ys (List.range' i ks.length)).run P w = .ok b w ∧ (b = true ↔ us = vs) := by
    intro ks
    induction ks with
    | nil =>
     intro us vs i _ h1 h2 xs ys _ _
     cases us <;> cases vs <;> simp [KK.fitsL] at h1 h2
     exact ⟨true, by simp [Op.eqItems], by simp⟩
    | cons k ks ih =>
     intro us vs i hall h1 h2 xs ys hx hy
     cases us with
     | nil => simp [KK.fitsL] at h1
     | cons u us =>
     cases vs with
     | nil => simp [KK.fitsL] at h2
     | cons v vs =>
      simp only [List.all_cons, Bae] at hall
      simp only [KK.fitsL, Bae] at h1 h2
      have hx0 : xs[i]? = some (kval1 u) := hx 0 u rfl
      have hy0 : ys[i]? = some (kval1 v) := hy 0 v rfl
      obtain ⟨b, hb, ib⟩ := ceq_fits h1.1 h2.1
      obtain ⟨he, _, _, _⟩ := run_ceq (w := w) (G := ⟨fun _ => False, fun _ => none⟩) (n := 9998) hall.1 h1.1 h2.1 hb (kval1_rel h1.1) (kval1_rel h2.1) w
      obtain ⟨c, hc, ic⟩ := ih us vs (i + 1) hall.2 h1.2 h2.2 xs ys
       (fun j u hj => by have := hx (j + 1) u (by simpa using hj); rwa [show i + 1 + j = i + (j + 1) by omega])
       (fun j u hj => by have := hy (j + 1) u (by simpa using hj); rwa [show i + 1 + j = i + (j + 1) by omega])
      rw [List.length_cons, List.range'_succ]
      simp only [Op.eqItems, Sem.run_bind, Nat.mul_one, plain_part hall.1 hx0, plain_part hall.1 hy0, Result.andThen_ok, he]
      cases b
      ·refine ⟨false, by simp, ?_⟩
       have : u ≠ v := fun e => by have := ib.2 e; cases this
       simp [this]
      ·refine ⟨c, by simpa using hc, ?_⟩
       rw [ic]
       simp [ib.1 rfl]
   obtain ⟨b, hb, ib⟩ := key ks us vs 0 ha h1 h2 (us.map kval1).toArray (vs.map kval1).toArray (fun j u hj => by simp [hj]) (fun j u hj => by simp [hj])
   refine ⟨b, ?_, by rw [ib]; simp⟩
   show (Op.equalIn (9998 + 1 + 1) t _ _).run P w = _
   simp only [kval]
   rw [run_equalIn_array w (9998 + 1) _ _ hud hi, hc, List.range_eq_range', hm]
   exact hb
  ·cases hk
 ·rcases fits_cases hv with ⟨ks, vs, rfl, rfl, h2⟩ | ⟨h2, e2⟩
  ·cases u <;> simp [KK.fits1] at h1
  have hk : kindOk1 P t kk = true := by
   cases kk with
   | agg ks => cases u <;> simp [KK.fits1] at h1
   | int k => exact hk
   | str => exact hk
   | bool => exact hk
  rw [e1, e2]
  obtain ⟨b, hb, ib⟩ := ceq_fits h1 h2
  obtain ⟨he, _⟩ := run_ceq (w := w) (G := ⟨fun _ => False, fun _ => none⟩) (n := 9999) hk h1 h2 hb (kval1_rel h1) (kval1_rel h2) w
  exact ⟨b, he, ib⟩

theorem key_ask {t : Nat} {kk : KK} (hk : keyOk P t kk = true) {v : AV} (hv : kk.fits v = true) : ∀ (es : List MapEntry) (i : Nat), (∀ e ∈ es, ∃ k, kk.fits k = true ∧ e.key = kval k) →
  ∃ r, (Instr.findAsking t (kval v) es i).run P w = .ok r w ∧ ((r = none ∧ ∀ e ∈ es, e.key ≠ kval v) ∨ ∃ j e, r = some (i + j, e.val) ∧ es[j]? = some e ∧ e.key = kval v)
 | [], i, _ => ⟨none, by simp [Instr.findAsking], .inl ⟨rfl, by simp⟩⟩
 | e :: es, i, hall => by
  obtain ⟨k, hf, hkey⟩ := hall e (by simp)
  obtain ⟨b, hb, ib⟩ := key_equal (w := w) hk hv hf
  rw [← hkey] at hb
  cases b
  ·have hne : e.key ≠ kval v := fun h => by
    rw [hkey] at h
    have := ib.2 (kval_inj hf hv h).symm
    cases this
   obtain ⟨r, hr, hc⟩ := key_ask hk hv es (i + 1) fun e he => hall e (by simp [he])
   refine ⟨r, by simp [Instr.findAsking, hb, hr], ?_⟩
   rcases hc with ⟨h1, h2⟩ | ⟨j, e', h1, h2, h3⟩
   ·refine .inl ⟨h1, fun y hy => ?_⟩
    rcases List.mem_cons.1 hy with rfl | hy
    ·exact hne
    ·exact h2 y hy
   ·exact .inr ⟨j + 1, e', by rw [h1]; congr 2; omega, by simpa using h2, h3⟩
  ·refine ⟨some (i, e.val), by simp [Instr.findAsking, hb], .inr ⟨0, e, rfl, rfl, ?_⟩⟩
   rw [hkey, ib.1 rfl]

theorem key_find {t : Nat} {kk : KK} (hk : keyOk P t kk = true) {v : AV} (hv : kk.fits v = true) {es : List MapEntry} (hall : ∀ e ∈ es, ∃ k, kk.fits k = true ∧ e.key = kval k) :
  ∃ r, (Instr.findKey t (kval v) es).run P w = .ok r w ∧ ((r = none ∧ ∀ e ∈ es, e.key ≠ kval v) ∨ ∃ j e, r = some (j, e.val) ∧ es[j]? = some e ∧ e.key = kval v) := by
 rcases fits_cases hv with ⟨ks, us, rfl, rfl, h1⟩ | ⟨h1, e1⟩
 ·obtain ⟨r, hr, hc⟩ := key_ask (w := w) hk hv es 0 hall
  refine ⟨r, ?_, by simpa using hc⟩
  rw [run_findKey_eq w ?_ _ es]
  ·exact hr
  ·simp only [keyOk] at hk
   split at hk
   ·rename_i hu; simp [hu]
   ·rename_i hu; simp [hu]
   ·cases hk
 ·have hk1 : kindOk1 P t kk = true := by
   cases kk with
   | agg ks => cases v <;> simp [KK.fits1] at h1
   | int k => exact hk
   | str => exact hk
   | bool => exact hk
  obtain ⟨d, hd, hik⟩ : ∃ d, P.underlying t = some d ∧ ∀ q : AV, kk.fits q = true → IsKey d (kval q) := by
   rcases kind1_und hk1 with ⟨k, rfl, ht⟩ | ⟨rfl, ht⟩ | ⟨rfl, ht⟩
   ·refine ⟨_, ht, fun q hq => ?_⟩
    rcases fits_cases hq with ⟨_, _, e, _⟩ | ⟨hq, e⟩
    ·cases e
    ·rw [e]; obtain ⟨m, rfl⟩ := fits1_int hq; rfl
   ·refine ⟨_, ht, fun q hq => ?_⟩
    rcases fits_cases hq with ⟨_, _, e, _⟩ | ⟨hq, e⟩
    ·cases e
    ·rw [e]; obtain ⟨m, rfl⟩ := fits1_str hq; trivial
   ·refine ⟨_, ht, fun q hq => ?_⟩
    rcases fits_cases hq with ⟨_, _, e, _⟩ | ⟨hq, e⟩
    ·cases e
    ·rw [e]; obtain ⟨m, rfl⟩ := fits1_bool hq; trivial
  have key : ∀ (es : List MapEntry) (i : Nat), (∀ e ∈ es, ∃ k, kk.fits k = true ∧ e.key = kval k) →
    ∃ r, Instr.findNow d (kval v) es i = some r ∧ ((r = none ∧ ∀ e ∈ es, e.key ≠ kval v) ∨ ∃ j e, r = some (i + j, e.val) ∧ es[j]? = some e ∧ e.key = kval v) := by
   intro es
   induction es with
   | nil => intro i _; exact ⟨none, rfl, .inl ⟨rfl, by simp⟩⟩
   | cons e es ih =>
    intro i hall
    obtain ⟨k, hf, hkey⟩ := hall e (by simp)
    obtain ⟨b, hb, ib⟩ := sameNow_of_keys (hik v hv) (hkey ▸ hik k hf)
    cases b
    ·have hne : e.key ≠ kval v := fun h => by have := ib.2 h.symm; cases this
     obtain ⟨r, hr, hc⟩ := ih (i + 1) fun e he => hall e (by simp [he])
     refine ⟨r, by simp [Instr.findNow, hb, hr], ?_⟩
     rcases hc with ⟨h1, h2⟩ | ⟨j, e', h1, h2, h3⟩
     ·refine .inl ⟨h1, fun y hy => ?_⟩
      rcases List.mem_cons.1 hy with rfl | hy
      ·exact hne
      ·exact h2 y hy
     ·exact .inr ⟨j + 1, e', by rw [h1]; congr 2; omega, by simpa using h2, h3⟩
    ·exact ⟨some (i, e.val), by simp [Instr.findNow, hb], .inr ⟨0, e, rfl, rfl, (ib.1 rfl).symm⟩⟩
  obtain ⟨r, hr, hc⟩ := key es 0 hall
  exact ⟨r, run_findKey hd hr, by simpa using hc⟩

theorem sameBits1 {kk : KK} {v : AV} (hf : kk.fits1 v = true) (n : Nat) : Instr.sameBits n (kval1 v) (kval1 v) = true := by
 rcases fits1_cases hf with ⟨k, m, rfl, rfl⟩ | ⟨s, rfl, rfl⟩ | ⟨b, rfl, rfl⟩
 ·simp [kval1, Instr.sameBits]
 ·have : (s == s) = true := by
   rw [beq_toListBytes]; simp
  simp [kval1, Instr.sameBits, this]
 ·simp [kval1, Instr.sameBits]
theorem sameBitsL : ∀ {ks : List KK} {us : List AV}, KK.fitsL ks us = true → ∀ n, (((us.map kval1).zip (us.map kval1)).all fun (x, y) => Instr.sameBits n x y) = true
 | [], [], _, n => rfl
 | [], _ :: _, h, _ => by simp [KK.fitsL] at h
 | _ :: _, [], h, _ => by simp [KK.fitsL] at h
 | k :: ks, u :: us, h, n => by
  simp only [KK.fitsL, Bae] at h
  simp only [List.map_cons, List.zip_cons_cons, List.all_cons, sameBits1 h.1, Bool.true_and]
  exact sameBitsL h.2 n
theorem key_stays {kk : KK} {v : AV} (hf : kk.fits v = true) : (Instr.keyThatStays (kval v) (kval v)).run P w = .ok (kval v) w := by
 have : Instr.sameBits 10000 (kval v) (kval v) = true := by
  rcases fits_cases hf with ⟨ks, us, rfl, rfl, h1⟩ | ⟨h1, e1⟩
  ·show Instr.sameBits (9999 + 1) (.agg (us.map kval1).toArray) (.agg (us.map kval1).toArray) = true
   simp only [Instr.sameBits, beq_self_eq_true, Bool.true_and]
   exact sameBitsL h1 9999
  ·rw [e1]; exact sameBits1 h1 _
 simp [Instr.keyThatStays, this]
end
end Go.Asm
/- What each operation comes to: eighth part: maps, fields, conversions. -/
namespace Go.Asm
open Go.MapKept (IsKey sameNow_of_keys run_checkKey run_findKey run_setObj_map run_keyThatStays)
def lkv (r : Option (Nat × Value)) (z : Value) : Value :=
 match r with
 | some (_, v) => v
 | none => z

section
variable {ρ : Type} {P : Program} {Z : Base} {N : Nat} {w : World} {G : Gh} {lm : Nat → Option Nat} {env : Env} {loc : Loc} {σ : Store} {a : Act}
 {k : Env → Loc → Store → Option ρ} {x : ρ} {K : Act → World → Prop} {Q : Exit → Act → World → Prop} {o : Oper} {D : Ctx}

/-- Kinds of keys that are one cell. -/
def kkDesc : KK → Option TypeDesc
 | .int k => some (.int k)
 | .str => some .string
 | .bool => some .bool
 | .agg _ => none
theorem key_fits {kk : KK} {d : TypeDesc} (hk : kkDesc kk = some d) {v : AV} (hf : kk.fits v = true) {h : Array Obj} {c : Value} (r : VRel h G v c) :
  IsKey d c ∧ ∀ {v' : AV} {h' : Array Obj} {G' : Gh} {c' : Value}, kk.fits v' = true → VRel h' G' v' c' → (keyEq v v' = true ↔ c = c') := by
 cases kk with
 | int kd =>
  cases hk
  have hf' : KK.fits1 (.int kd) v = true := by cases v <;> simp_all [KK.fits, KK.fits1]
  obtain ⟨n, rfl⟩ := fits1_int hf'
  have := r.int_inv
  subst this
  refine ⟨rfl, fun {v'} {h'} {G'} {c'} hf2 r2 => ?_⟩
  have hf2' : KK.fits1 (.int kd) v' = true := by cases v' <;> simp_all [KK.fits, KK.fits1]
  obtain ⟨m, rfl⟩ := fits1_int hf2'
  have := r2.int_inv
  subst this
  simp [keyEq, keyEq1]
 | str =>
  cases hk
  have hf' : KK.fits1 .str v = true := by cases v <;> simp_all [KK.fits, KK.fits1]
  obtain ⟨n, rfl⟩ := fits1_str hf'
  have := r.str_inv
  subst this
  refine ⟨trivial, fun {v'} {h'} {G'} {c'} hf2 r2 => ?_⟩
  have hf2' : KK.fits1 .str v' = true := by cases v' <;> simp_all [KK.fits, KK.fits1]
  obtain ⟨m, rfl⟩ := fits1_str hf2'
  have := r2.str_inv
  subst this
  simp only [keyEq, keyEq1, Dte, Value.string.injEq]
  rw [ByteArray.toList_eq, ByteArray.toList_eq]
  obtain ⟨⟨p⟩⟩ := n
  obtain ⟨⟨q⟩⟩ := m
  simp
 | bool =>
  cases hk
  have hf' : KK.fits1 .bool v = true := by cases v <;> simp_all [KK.fits, KK.fits1]
  obtain ⟨n, rfl⟩ := fits1_bool hf'
  have := r.bool_inv
  subst this
  refine ⟨trivial, fun {v'} {h'} {G'} {c'} hf2 r2 => ?_⟩
  have hf2' : KK.fits1 .bool v' = true := by cases v' <;> simp_all [KK.fits, KK.fits1]
  obtain ⟨m, rfl⟩ := fits1_bool hf2'
  have := r2.bool_inv
  subst this
  simp [keyEq, keyEq1]
 | agg => cases hk

theorem find_keys {kk : KK} {d : TypeDesc} (hk : kkDesc kk = some d) {kv : AV} (hf : kk.fits kv = true) {h : Array Obj} {kc : Value} (r : VRel h G kv kc) :
  ∀ (ks vs : List AV) (es : List MapEntry) (i : Nat), ks.length = es.length → vs.length = es.length → (∀ (i : Nat) u e, ks[i]? = some u → es[i]? = some e → VRel h G u e.key) → ks.all kk.fits = true →
  (Instr.findNow d kc es i = some none ∧ mget kv ks vs = none) ∨
   ∃ j e u, Instr.findNow d kc es i = some (some (i + j, e.val)) ∧ es[j]? = some e ∧ vs[j]? = some u ∧ mget kv ks vs = some u
 | [], vs, [], i, _, hv, _, _ => by
  have : vs = [] := List.length_eq_zero_iff.1 (by simpa using hv)
  subst this
  exact .inl ⟨rfl, rfl⟩
 | u :: ks, [], e :: es, i, _, hv, _, _ => by simp at hv
 | u :: ks, q :: vs, e :: es, i, h1, h2, h3, h4 => by
  simp only [List.all_cons, Bae] at h4
  have hu := h3 0 u e rfl rfl
  obtain ⟨hkc, heq⟩ := key_fits hk hf r
  obtain ⟨hke, _⟩ := key_fits hk h4.1 hu
  have hiff := heq h4.1 hu
  obtain ⟨b, hb, hbi⟩ := sameNow_of_keys hkc hke
  by_cases hc : keyEq kv u = true
  ·have hkk := hiff.1 hc
   have : b = true := hbi.2 hkk
   subst this
   exact .inr ⟨0, e, q, by simp [Instr.findNow, hb], rfl, rfl, by simp [mget, hc]⟩
  ·have hnk : ¬ kc = e.key := fun q => hc (hiff.2 q)
   have : b = false := by
    cases b
    ·rfl
    ·exact absurd (hbi.1 rfl) hnk
   subst this
   rcases find_keys hk hf r ks vs es (i + 1) (by simpa using h1) (by simpa using h2) (fun j u e a b => h3 (j + 1) u e (by simpa using a) (by simpa using b)) h4.2 with ⟨a1, a2⟩ | ⟨j, e', u', a1, a2, a4, a5⟩
   ·exact .inl ⟨by simp [Instr.findNow, hb, a1], by simp [mget, hc, a2]⟩
   ·exact .inr ⟨j + 1, e', u', by simp [Instr.findNow, hb, a1]; omega, by simpa using a2, by simpa using a4, by simp [mget, hc, a5]⟩
 | [], _, _ :: _, _, h1, _, _, _ => by simp at h1
 | _ :: _, _, [], _, h1, _, _, _ => by simp at h1

def mapOk (P : Program) (t : Nat) (kk : KK) : Bool :=
 match P.underlying t with
 | some (.map kt _) => keyOk P kt kk
 | _ => false
def lookOk (P : Program) (t : Nat) (kk : KK) (zero : AV) : Bool :=
 mapOk P t kk && match P.underlying t with
 | some (.map _ e) => (match P.info? e with
  | some i => (match i.zero with
   | some z => cvOk z zero
   | none => false)
  | none => false)
 | _ => false
theorem mapOk_inv {t : Nat} {kk : KK} (h : mapOk P t kk = true) : ∃ kt e, P.underlying t = some (.map kt e) ∧ keyOk P kt kk = true := by
 unfold mapOk at h
 split at h
 ·rename_i kt e hu; exact ⟨kt, e, hu, h⟩
 ·cases h
theorem lookOk_inv {t : Nat} {kk : KK} {zero : AV} (h : lookOk P t kk zero = true) : ∃ kt e z, P.underlying t = some (.map kt e) ∧ keyOk P kt kk = true ∧
  (∀ w : World, (zeroValue e).run P w = .ok z w) ∧ ∀ hp G, VRel hp G zero z := by
 simp only [lookOk, Bae] at h
 obtain ⟨kt, e, h1, h2⟩ := mapOk_inv h.1
 have h4 := h.2
 rw [h1] at h4
 simp only at h4
 split at h4
 ·rename_i i hi
  split at h4
  ·rename_i z hz
   exact ⟨kt, e, z, h1, h2, fun w => by simp [zeroValue, typeInfo, hi, hz], fun hp G => cvOk_rel h4⟩
  ·cases h4
 ·cases h4
theorem plain_desc {kt : Nat} {kk : KK} (hk : keyOk P kt kk = true) (hn : ∀ ks, kk ≠ .agg ks) : ∃ d, P.underlying kt = some d ∧ kkDesc kk = some d := by
 have h1 : kindOk1 P kt kk = true := by
  cases kk with
  | agg ks => exact absurd rfl (hn ks)
  | int k => exact hk
  | str => exact hk
  | bool => exact hk
 rcases kind1_und h1 with ⟨k, rfl, ht⟩ | ⟨rfl, ht⟩ | ⟨rfl, ht⟩ <;> exact ⟨_, ht, rfl⟩

theorem run_lookup {t kt e : TypeId} {z kc mc : Value} {ok : Bool} {es : Array MapEntry} {r : Option (Nat × Value)} (h1 : P.underlying t = some (.map kt e)) (hz : ∀ w : World, (zeroValue e).run P w = .ok z w)
  (hm : (mc = .map none ∧ es = #[]) ∨ ∃ g clock, mc = .map (some g) ∧ w.heap[g]? = some (.map es clock)) (hck : ∀ b, (Instr.checkKey b 10000 kt kc).run P w = .ok () w) (hfk : (Instr.findKey kt kc es.toList).run P w = .ok r w) :
  (Instr.lookup t mc kc ok).run P w = .ok (if ok then .tuple #[lkv r z, .bool r.isSome] else lkv r z) w := by
 unfold Instr.lookup
 rcases hm with ⟨rfl, rfl⟩ | ⟨g, clock, rfl, hg⟩
 ·cases r with
  | none => simp only [Sem.run_bind, run_underlying h1, Result.andThen_ok, Sem.run_pure, hck, hfk, hz]; rfl
  | some p => obtain ⟨i, v⟩ := p; simp only [Sem.run_bind, run_underlying h1, Result.andThen_ok, Sem.run_pure, hck, hfk]; rfl
 ·cases r with
  | none => simp only [Sem.run_bind, run_underlying h1, Result.andThen_ok, Sem.run_pure, run_getObj_map w g es clock hg, hck, hfk, hz]; rfl
  | some p => obtain ⟨i, v⟩ := p; simp only [Sem.run_bind, run_underlying h1, Result.andThen_ok, Sem.run_pure, run_getObj_map w g es clock hg, hck, hfk]; rfl

theorem lookL {kk : KK} {d : TypeDesc} (hk : kkDesc kk = some d) {zero kv : AV} {z kc : Value} (hz : VRel w.heap G zero z) (hf : kk.fits kv = true) (r : VRel w.heap G kv kc) {ks vs : List AV} {es : Array MapEntry}
  (h1 : ks.length = es.size) (h2 : vs.length = es.size) (h3 : ∀ (i : Nat) k e, ks[i]? = some k → es[i]? = some e → VRel w.heap G k e.key) (h4 : ∀ (i : Nat) v e, vs[i]? = some v → es[i]? = some e → VRel w.heap G v e.val)
  {u : AV} {b : Bool} (h : lookupL kk zero kv ks vs = some (u, b)) :
  ∃ q, Instr.findNow d kc es.toList 0 = some q ∧ b = q.isSome ∧ VRel w.heap G u (lkv q z) := by
 unfold lookupL at h
 split at h
 ·rename_i hall
  rcases find_keys hk hf r ks vs es.toList 0 (by simpa using h1) (by simpa using h2) (fun i u e a b => h3 i u e a (by simpa using b)) hall with ⟨a1, a2⟩ | ⟨j, e', u', a1, a2, a4, a5⟩
  ·rw [a2] at h; cases h
   exact ⟨_, a1, rfl, hz⟩
  ·rw [a5] at h; cases h
   exact ⟨_, a1, rfl, h4 j _ e' a4 (by simpa using a2)⟩
 ·cases h

theorem MapRel.keyed {kk : KK} {f : AV → Option AV} {es : Array MapEntry} {clock : Nat} {h : Array Obj} (M : MapRel h G kk f es clock) : ∀ e ∈ es.toList, ∃ k, kk.fits k = true ∧ e.key = kval k := fun e he =>
 let ⟨k, _, a, b, _⟩ := M.ent e he; ⟨k, a, b⟩
/-- What a search in a map's entries comes to. -/
theorem MapRel.find {kk : KK} {f : AV → Option AV} {es : Array MapEntry} {clock : Nat} (M : MapRel w.heap G kk f es clock) {kt : Nat} (hk : keyOk P kt kk = true) {v : AV} (hf : kk.fits v = true) :
  (f v = none ∧ (Instr.findKey kt (kval v) es.toList).run P w = .ok none w ∧ ∀ e ∈ es.toList, e.key ≠ kval v) ∨
   ∃ j e u, f v = some u ∧ (Instr.findKey kt (kval v) es.toList).run P w = .ok (some (j, e.val)) w ∧ es[j]? = some e ∧ e.key = kval v ∧ VRel w.heap G u e.val := by
 obtain ⟨r, hr, hc⟩ := key_find (w := w) hk hf M.keyed
 rcases hc with ⟨rfl, hno⟩ | ⟨j, e, rfl, he, hkey⟩
 ·left
  refine ⟨?_, hr, hno⟩
  cases hfv : f v with
  | none => rfl
  | some u =>
   obtain ⟨_, e, he, hkey⟩ := M.dom v (by rw [hfv]; simp)
   exact absurd hkey (hno e he)
 ·right
  obtain ⟨k, u, a1, a2, a3, a4⟩ := M.ent e (Lmg he)
  have : v = k := kval_inj hf a1 (by rw [← hkey, a2])
  subst this
  exact ⟨j, e, u, a3, hr, by simpa using he, hkey, a4⟩

theorem run_lookV (H : HI Z w G lm loc σ) {t : Nat} {kk : KK} {zero m kv u : AV} {b ok : Bool} (hl : lookOk P t kk zero = true) (h : lookupV kk zero m kv σ = some (u, b)) {mc kc : Value} (hm : VRel w.heap G m mc) (r : VRel w.heap G kv kc) :
  ∃ c, (Instr.lookup t mc kc ok).run P w = .ok (if ok then .tuple #[c, .bool b] else c) w ∧ VRel w.heap G u c := by
 obtain ⟨kt, e, z, h1, h3, h4, h5⟩ := lookOk_inv hl
 unfold lookupV at h
 split at h
 ·rename_i hf
  have hkc := kval_of hf r
  have hck : ∀ b, (Instr.checkKey b 10000 kt kc).run P w = .ok () w := fun b => by rw [hkc]; exact key_check (n := 9998) h3 hf b
  have nilc : mc = .map none → ∃ c, (Instr.lookup t mc kc ok).run P w = .ok (if ok then .tuple #[c, .bool false] else c) w ∧ VRel w.heap G zero c := by
   intro hmc
   obtain ⟨q, q1, q2⟩ := key_find (w := w) (es := []) h3 hf (fun e he => by simp at he)
   have hq : q = none := by
    rcases q2 with ⟨rfl, _⟩ | ⟨j, e, _, he, _⟩
    ·rfl
    ·simp at he
   subst hq
   refine ⟨z, ?_, h5 _ _⟩
   have := run_lookup (ok := ok) (r := none) h1 h4 (.inl ⟨hmc, rfl⟩) hck (by rw [hkc]; exact q1)
   simpa [lkv] using this
  split at h
  ·cases h
   cases hm
   exact nilc rfl
  ·rename_i ks vs
   split at h
   ·cases h
   rename_i hna
   obtain ⟨d, hd, hkd⟩ := plain_desc h3 (fun ks e => hna ks e)
   cases hm with
   | pmnil =>
    obtain ⟨q, q1, rfl, q3⟩ := lookL hkd (h5 _ _) hf r (es := #[]) rfl rfl (fun i k e h => by simp at h) (fun i k e h => by simp at h) h
    exact ⟨_, run_lookup h1 h4 (.inl ⟨rfl, rfl⟩) hck (run_findKey hd q1), q3⟩
   | pmap hfz he l1 l2 r1 r2 =>
    obtain ⟨q, q1, rfl, q3⟩ := lookL hkd (h5 _ _) hf r l1 l2 r1 r2 h
    exact ⟨_, run_lookup h1 h4 (.inr ⟨_, _, rfl, he⟩) hck (run_findKey hd q1), q3⟩
  ·split at h
   ·rename_i kk' f hb
    split at h
    ·rename_i hs
     have hs := same_eq hs
     subst hs
     cases hm with
     | hmap hg =>
      obtain ⟨g', m', q1, _, es, clock, he, M⟩ := H.blk _ _ hb
      rw [hg] at q1; cases q1
      rcases M.find (P := P) h3 hf with ⟨a1, a2, _⟩ | ⟨j, e', u', a1, a2, _, _, a5⟩
      ·rw [a1] at h
       cases h
       refine ⟨z, ?_, h5 _ _⟩
       have := run_lookup (ok := ok) (r := none) h1 h4 (.inr ⟨_, _, rfl, he⟩) hck (by rw [hkc]; exact a2)
       simpa [lkv] using this
      ·rw [a1] at h
       cases h
       refine ⟨e'.val, ?_, a5⟩
       have := run_lookup (ok := ok) (r := some (j, e'.val)) h1 h4 (.inr ⟨_, _, rfl, he⟩) hck (by rw [hkc]; exact a2)
       simpa [lkv] using this
    ·cases h
   ·cases h
  ·cases h
 ·cases h

theorem sound_look1 (S : St Z N w G lm env loc σ a) (C : Cont Z N k x G lm w a o.dst.toList K) (hd : ∀ t, o.dst = some t → t < N) {t : Nat} {kk : KK} {zero : AV} {y z : Operand} {y0 z0 : Opd}
  (ho : o.op = .lookup t y z false) (hy : opdOk y y0 = true) (hz : opdOk z z0 = true) (hl : lookOk P t kk zero = true)
  (h : opK D o.dst (.look1 kk zero y0 z0) env loc σ k = some x) : o.wp P a w K Q := by
 obtain ⟨m, hm, ha⟩ := val_some h
 clear h
 obtain ⟨v, hv, hb⟩ := val_some ha
 clear ha
 obtain ⟨r, hr, h⟩ := bind_some hb
 clear hb
 unfold lookup1 at hr
 rw [Option.map_eq_some_iff] at hr
 obtain ⟨⟨u, b⟩, hr, rfl⟩ := hr
 obtain ⟨c, hrun, hc⟩ := run_lookV (ok := false) S.hi hl hr (val_rel S hy hm) (val_rel S hz hv)
 refine op_val (e := .v u) (c := c) S C hd ?_ hc h
 unfold execOp
 simp only [ho, Sem.run_bind, hrun, Result.andThen_ok, Sem.run_pure]; rfl

theorem sound_look2 (S : St Z N w G lm env loc σ a) (C : Cont Z N k x G lm w a o.dst.toList K) (hd : ∀ t, o.dst = some t → t < N) {t : Nat} {kk : KK} {zero : AV} {y z : Operand} {y0 z0 : Opd}
  (ho : o.op = .lookup t y z true) (hy : opdOk y y0 = true) (hz : opdOk z z0 = true) (hl : lookOk P t kk zero = true)
  (h : opK D o.dst (.look2 kk zero y0 z0) env loc σ k = some x) : o.wp P a w K Q := by
 obtain ⟨m, hm, ha⟩ := val_some h
 clear h
 obtain ⟨v, hv, hb⟩ := val_some ha
 clear ha
 obtain ⟨r, hr, h⟩ := bind_some hb
 clear hb
 unfold lookup2 at hr
 rw [Option.map_eq_some_iff] at hr
 obtain ⟨⟨u, b⟩, hr, rfl⟩ := hr
 obtain ⟨c, hrun, hc⟩ := run_lookV (ok := true) S.hi hl hr (val_rel S hy hm) (val_rel S hz hv)
 refine op_val (e := .v (.tuple [u, .bool b])) (c := .tuple #[c, .bool b]) S C hd ?_ (VRels.tuple (l := [c, .bool b]) (.cons hc (.cons .bool .nil))) h
 unfold execOp
 simp only [ho, Sem.run_bind, hrun, Result.andThen_ok, Sem.run_pure]; rfl

theorem modify_at {es : Array MapEntry} {j : Nat} {f : MapEntry → MapEntry} (i : Nat) : (es.modify j f)[i]? = if j = i then (es[i]?).map f else es[i]? := by
 rw [Array.getElem?_modify]
theorem modify_map {α : Type} {es : Array MapEntry} {j : Nat} {f : MapEntry → MapEntry} {p : MapEntry → α} {e : MapEntry} (he : es[j]? = some e) (hf : p (f e) = p e) : (es.modify j f).toList.map p = es.toList.map p := by
 apply List.ext_getElem?
 intro i
 simp only [List.getElem?_map, Array.getElem?_toList, modify_at]
 by_cases h : j = i
 ·subst h; simp [he, hf]
 ·simp [h]
theorem modify_mem {es : Array MapEntry} {j : Nat} {f : MapEntry → MapEntry} {e x : MapEntry} (he : es[j]? = some e) (hx : x ∈ (es.modify j f).toList) : x = f e ∨ ∃ i, i ≠ j ∧ es[i]? = some x := by
 obtain ⟨i, hi⟩ := List.getElem?_of_mem hx
 rw [Array.getElem?_toList, modify_at] at hi
 by_cases h : j = i
 ·subst h; rw [if_pos rfl, he] at hi; cases hi; exact .inl rfl
 ·rw [if_neg h] at hi; exact .inr ⟨i, Ne.symm h, hi⟩

/-- A new key. -/
theorem MapRel.push {h : Array Obj} {kk : KK} {f : AV → Option AV} {es : Array MapEntry} {clock : Nat} (M : MapRel h G kk f es clock) {kv v : AV} {vc : Value} (hf : kk.fits kv = true) (hno : ∀ e ∈ es.toList, e.key ≠ kval kv) (hv : VRel h G v vc) :
  MapRel h G kk (mupd f kv v) (es.push { key := kval kv, val := vc, born := clock }) (clock + 1) := by
 have hmem : ∀ e, e ∈ (es.push { key := kval kv, val := vc, born := clock }).toList ↔ e ∈ es.toList ∨ e = { key := kval kv, val := vc, born := clock } := fun e => by simp
 refine ⟨fun e he => ?_, fun k hk => ?_, ?_, fun e he => ?_, ?_⟩
 ·rcases (hmem e).1 he with he | rfl
  ·obtain ⟨k, u, a1, a2, a3, a4⟩ := M.ent e he
   refine ⟨k, u, a1, a2, ?_, a4⟩
   have : k ≠ kv := fun h => hno e he (by rw [a2, h])
   simp [mupd, this, a3]
  ·exact ⟨kv, v, hf, rfl, by simp [mupd], hv⟩
 ·by_cases e : k = kv
  ·subst e; exact ⟨hf, _, (hmem _).2 (.inr rfl), rfl⟩
  ·obtain ⟨a, x, hx, hy⟩ := M.dom k (by simpa [mupd, e] using hk)
   exact ⟨a, x, (hmem _).2 (.inl hx), hy⟩
 ·simp only [Array.toList_push, List.map_append, List.map_cons, List.map_nil]
  rw [List.nodup_append]
  refine ⟨M.keys, by simp, fun a ha b hb => ?_⟩
  simp only [List.mem_singleton] at hb
  subst hb
  obtain ⟨e, he, rfl⟩ := List.mem_map.1 ha
  exact hno e he
 ·rcases (hmem e).1 he with he | rfl
  ·have := M.born e he; omega
  ·show clock < clock + 1; omega
 ·simp only [Array.toList_push, List.map_append, List.map_cons, List.map_nil]
  rw [List.nodup_append]
  refine ⟨M.stamps, by simp, fun a ha b hb => ?_⟩
  simp only [List.mem_singleton] at hb
  subst hb
  obtain ⟨e, he, rfl⟩ := List.mem_map.1 ha
  have := M.born e he; omega
/-- A key that is there. -/
theorem MapRel.modify {h : Array Obj} {kk : KK} {f : AV → Option AV} {es : Array MapEntry} {clock : Nat} (M : MapRel h G kk f es clock) {kv v : AV} {vc : Value} (hf : kk.fits kv = true) {j : Nat} {e : MapEntry} (he : es[j]? = some e) (hkey : e.key = kval kv) (hv : VRel h G v vc) :
  MapRel h G kk (mupd f kv v) (es.modify j fun e => { e with key := kval kv, val := vc }) clock := by
 have hem : e ∈ es.toList := Lmg (by rw [Array.getElem?_toList]; exact he)
 have hother : ∀ i x, i ≠ j → es[i]? = some x → x.key ≠ kval kv := fun i x hi hx h => by
  have e1 : (es.toList.map (·.key))[i]? = some (kval kv) := by simp [hx, h]
  have e2 : (es.toList.map (·.key))[j]? = some (kval kv) := by simp [he, hkey]
  exact hi ((List.getElem?_inj (List.getElem?_eq_some_iff.1 e1).1 M.keys).1 (e1.trans e2.symm))
 have hmem : ∀ x, (x = { e with key := kval kv, val := vc } ∨ ∃ i, i ≠ j ∧ es[i]? = some x) → x ∈ (es.modify j fun e => { e with key := kval kv, val := vc }).toList := fun x hx => by
  rcases hx with rfl | ⟨i, hi, hx⟩
  ·refine Lmg (i := j) ?_
   rw [Array.getElem?_toList, modify_at, if_pos rfl, he]; rfl
  ·refine Lmg (i := i) ?_
   rw [Array.getElem?_toList, modify_at, if_neg (Ne.symm hi)]; exact hx
 refine ⟨fun x hx => ?_, fun k hk => ?_, ?_, fun x hx => ?_, ?_⟩
 ·rcases modify_mem he hx with rfl | ⟨i, hi, hx⟩
  ·exact ⟨kv, v, hf, rfl, by simp [mupd], hv⟩
  ·obtain ⟨k, u, a1, a2, a3, a4⟩ := M.ent x (Lmg (by rw [Array.getElem?_toList]; exact hx))
   refine ⟨k, u, a1, a2, ?_, a4⟩
   have : k ≠ kv := fun h => hother i x hi hx (by rw [a2, h])
   simp [mupd, this, a3]
 ·by_cases ek : k = kv
  ·subst ek; exact ⟨hf, _, hmem _ (.inl rfl), rfl⟩
  ·obtain ⟨a, x, hx, hy⟩ := M.dom k (by simpa [mupd, ek] using hk)
   obtain ⟨i, hi⟩ := List.getElem?_of_mem hx
   rw [Array.getElem?_toList] at hi
   have hij : i ≠ j := fun h => by
    subst h
    rw [he] at hi; cases hi
    exact ek (kval_inj a hf (by rw [← hy, hkey]))
   exact ⟨a, x, hmem _ (.inr ⟨i, hij, hi⟩), hy⟩
 ·rw [modify_map he (by simp [hkey])]; exact M.keys
 ·rcases modify_mem he hx with rfl | ⟨i, hi, hx⟩
  ·exact M.born e hem
  ·exact M.born x (Lmg (by rw [Array.getElem?_toList]; exact hx))
 ·rw [modify_map he rfl]; exact M.stamps

theorem sound_mapSet (S : St Z N w G lm env loc σ a) (C : Cont Z N k x G lm w a o.dst.toList K) (hd : ∀ t, o.dst = some t → t < N) {t : Nat} {kk : KK} {y z u : Operand} {y0 z0 u0 : Opd}
  (ho : o.op = .mapUpdate t y z u ∨ o.op = .insert t y z u) (hy : opdOk y y0 = true) (hz : opdOk z z0 = true) (hu : opdOk u u0 = true) (hl : mapOk P t kk = true)
  (h : opK D o.dst (.mapSet kk y0 z0 u0) env loc σ k = some x) : o.wp P a w K Q := by
 obtain ⟨m, hm, ha⟩ := val_some h
 clear h
 obtain ⟨kv, hk, hb⟩ := val_some ha
 clear ha
 obtain ⟨v, hv, hc⟩ := val_some hb
 clear hb
 obtain ⟨σ', hr, h⟩ := bind_some hc
 clear hc
 have rm := val_rel S hy hm
 have rk := val_rel S hz hk
 have rv := val_rel S hu hv
 obtain ⟨kt, e, h1, h3⟩ := mapOk_inv hl
 unfold mapSet at hr
 split at hr
 ·rename_i hf
  have hkc := kval_of hf rk
  split at hr
  ·split at hr
   ·rename_i b kk' f hb
    split at hr
    ·rename_i hs
     have hs := same_eq hs
     subst hs
     cases hr
     generalize hyv : a.eval y = mc at rm
     cases rm with
     | hmap hg =>
     rename_i g gm
     obtain ⟨g', m', q1, hfz, es, clock, he, M⟩ := S.hi.blk _ _ hb
     rw [hg] at q1; cases q1
     have hck : (Instr.checkKey false 10000 kt (a.eval z)).run P w = .ok () w := by rw [hkc]; exact key_check (n := 9998) h3 hf false
     have hlt : g < w.heap.size := lt_of_get he
     have fin : ∀ (es' : Array MapEntry) (clock' : Nat), MapRel w.heap G kk (mupd f kv v) es' clock' →
       (Instr.mapUpdate t (.map (some g)) (a.eval z) (a.eval u)).run P w = .ok () { w with heap := w.heap.setIfInBounds g (.map es' clock') } → o.wp P a w K Q := by
      intro es' clock' M' hrun
      have hupd : Upd w { w with heap := w.heap.setIfInBounds g (.map es' clock') } g (.map es' clock') :=
       ⟨by simp, fun b hb => by simp [Ne.symm hb], by simp [hlt], rfl, rfl, rfl⟩
      obtain ⟨H', le⟩ := S.hi.hstore (b' := .map kk (mupd f kv v)) hb hg hupd (fun le => ⟨es', clock', hupd.at_, M'.mono le⟩)
      refine op_done (c := undef) (e := .v (.tuple [])) S C (.inr ⟨?_, rfl⟩) H' le hd undef_rel h
      unfold execOp
      rcases ho with ho | ho <;> simp only [ho, hyv, Sem.run_bind, hrun, Result.andThen_ok, Sem.run_pure]
     rcases M.find (P := P) h3 hf with ⟨_, a2, a3⟩ | ⟨j, e', u', _, a2, a3, a4, _⟩
     ·refine fin _ _ (M.push hf a3 rv) ?_
      unfold Instr.mapUpdate
      simp only [Sem.run_bind, run_underlying h1, Result.andThen_ok, run_getObj_map w g es clock he, hck]
      rw [hkc]
      simp only [a2, Result.andThen_ok, run_setObj_map _ he]
     ·refine fin _ _ (M.modify hf a3 a4 rv) ?_
      have hst : (Instr.keyThatStays (((es[j]?).map (·.key)).getD (kval kv)) (kval kv)).run P w = .ok (kval kv) w := by
       rw [a3]
       simp only [Option.map_some, Option.getD_some, a4]
       exact key_stays hf
      unfold Instr.mapUpdate
      simp only [Sem.run_bind, run_underlying h1, Result.andThen_ok, run_getObj_map w g es clock he, hck]
      rw [hkc]
      simp only [a2, Result.andThen_ok, Sem.run_bind, hst, run_setObj_map _ he]
    ·cases hr
   ·cases hr
  ·cases hr
 ·cases hr
end
end Go.Asm
/- Ranging over a map. -/
namespace Go.Asm
open Go.ChangeMaps (setBlock)

theorem agree_elim {ι ρ : Type} {p : ι → Prop} {K : ι → Option ρ} {r : ρ} (h : agree p K = some r) : ∀ i, p i → K i = some r := by
 unfold agree at h
 split at h
 ·rename_i he
  cases h
  exact he.choose_spec
 ·cases h
/-- Whatever is chosen, one thing comes of it. -/
theorem agree_intro {ι ρ : Type} {p : ι → Prop} {K : ι → Option ρ} {r : ρ} (h1 : ∃ i, p i) (h2 : ∀ i, p i → K i = some r) : agree p K = some r := by
 have he : ∃ r, ∀ i, p i → K i = some r := ⟨r, h2⟩
 unfold agree
 rw [dif_pos he]
 obtain ⟨i, hi⟩ := h1
 have := (he.choose_spec i hi).symm.trans (h2 i hi)
 exact this
theorem nodup_inj {α β : Type} {f : α → β} : ∀ {l : List α} {a b : α}, (l.map f).Nodup → a ∈ l → b ∈ l → f a = f b → a = b
 | x :: l, a, b, hn, ha, hb, e => by
  rw [List.map_cons, List.nodup_cons] at hn
  rcases List.mem_cons.1 ha with h1 | h1
  ·rcases List.mem_cons.1 hb with h2 | h2
   ·rw [h1, h2]
   ·exact absurd (List.mem_map.2 ⟨b, h2, by rw [← e, h1]⟩) hn.1
  ·rcases List.mem_cons.1 hb with h2 | h2
   ·exact absurd (List.mem_map.2 ⟨a, h1, by rw [e, h2]⟩) hn.1
   ·exact nodup_inj hn.2 h1 h2 e

section
variable {ρ : Type} {P : Program} {Z : Base} {N : Nat} {w : World} {G : Gh} {lm : Nat → Option Nat} {env : Env} {loc : Loc} {σ : Store} {a : Act}
 {k : Env → Loc → Store → Option ρ} {x : ρ} {K : Act → World → Prop} {Q : Exit → Act → World → Prop} {o : Oper} {D : Ctx}

open Classical in
/-- The stamps of a map's keys. -/
noncomputable def stampOf (es : Array MapEntry) (q : AV) : Nat := if h : ∃ e ∈ es.toList, e.key = kval q then h.choose.born else 0
theorem stampOf_eq {kk : KK} {f : AV → Option AV} {es : Array MapEntry} {clock : Nat} {h : Array Obj} (M : MapRel h G kk f es clock) {e : MapEntry} (he : e ∈ es.toList) {q : AV} (hk : e.key = kval q) : e.born = stampOf es q := by
 have hx : ∃ e ∈ es.toList, e.key = kval q := ⟨e, he, hk⟩
 unfold stampOf
 rw [dif_pos hx]
 obtain ⟨h1, h2⟩ := hx.choose_spec
 rw [nodup_inj M.keys he h1 (hk.trans h2.symm)]
theorem stamps_ok {kk : KK} {f : AV → Option AV} {es : Array MapEntry} {clock : Nat} {h : Array Obj} (M : MapRel h G kk f es clock) : Stamps f (stampOf es, clock) := by
 refine ⟨fun q hq => ?_, fun q r hq hr h => ?_⟩
 ·obtain ⟨_, e, he, hk⟩ := M.dom q hq
  show stampOf es q < clock
  rw [← stampOf_eq M he hk]
  exact M.born e he
 ·obtain ⟨f1, e, he, hk⟩ := M.dom q hq
  obtain ⟨f2, e', he', hk'⟩ := M.dom r hr
  have h : stampOf es q = stampOf es r := h
  rw [← stampOf_eq M he hk, ← stampOf_eq M he' hk'] at h
  have := nodup_inj M.stamps he he' h
  subst this
  exact kval_inj f1 f2 (hk.symm.trans hk')

def rangeOk (P : Program) (t : Nat) : Bool :=
 match P.underlying t with
 | some (.map _ _) => true
 | _ => false

theorem sound_range (S : St Z N w G lm env loc σ a) (C : Cont Z N k x G lm w a o.dst.toList K) (hd : ∀ t, o.dst = some t → t < N) {t : Nat} {y : Operand} {y0 : Opd}
  (ho : o.op = .range t y) (hy : opdOk y y0 = true) (ht : rangeOk P t = true) (h : opK D o.dst (.range y0) env loc σ k = some x) : o.wp P a w K Q := by
 obtain ⟨m, hm, h⟩ := val_some h
 have rm := val_rel S hy hm
 obtain ⟨kt, e, hu⟩ : ∃ kt e, P.underlying t = some (.map kt e) := by
  unfold rangeOk at ht
  split at ht
  ·exact ⟨_, _, by assumption⟩
  ·cases ht
 unfold rangeK at h
 split at h
 ·rename_i b
  split at h
  ·rename_i kk f hb
   generalize hyv : a.eval y = mc at rm
   cases rm with
   | hmap hg =>
   rename_i g gm
   obtain ⟨g', m', q1, hfz, es, clock, he, M⟩ := S.hi.blk _ _ hb
   rw [hg] at q1; cases q1
   have h := agree_elim h (stampOf es, clock) (stamps_ok M)
   simp only at h
   obtain ⟨H1, le1⟩ := S.hi.hstore (b' := .ranged kk f (stampOf es) clock) hb hg (Upd.refl he) (fun le => ⟨es, he, M.mono le, fun e he q _ hk => stampOf_eq M he hk⟩)
   obtain ⟨H2, le2⟩ := H1.halloc (o := .mapIter (some g) clock #[] clock) (b := .iter b clock [] .undef) (m := 0) (fun le => ⟨g, gm, #[], le.bm _ _ hg, get_push_new, rfl⟩)
   refine op_done (c := .pointer (some ⟨w.heap.size, 0, none⟩)) (e := .v (.hptr σ.next 0)) S C (.inl ?_) H2 (le1.trans le2) hd (.hptr (m := 0) (by simp [Gh.add, Store.upd])) h
   unfold execOp
   simp only [ho, hyv, Sem.run_bind, run_range_map w t kt e g es clock hu he, Result.andThen_ok, Sem.run_pure]
  ·cases h
 ·cases h

theorem sound_next (S : St Z N w G lm env loc σ a) (C : Cont Z N k x G lm w a o.dst.toList K) (hd : ∀ t, o.dst = some t → t < N) {y : Operand} {y0 : Opd}
  (ho : o.op = .next y false) (hy : opdOk y y0 = true) (h : opK D o.dst (.next y0) env loc σ k = some x) : o.wp P a w K Q := by
 obtain ⟨it, hm, h⟩ := val_some h
 have ri := val_rel S hy hm
 unfold nextK at h
 split at h
 ·rename_i b
  split at h
  ·rename_i bx n seen cur hb
   split at h
   ·rename_i kk f st n' hx
    split at h
    ·cases h
    rename_i hnn
    have hnn : n = n' := by simpa using hnn
    subst hnn
    generalize hyv : a.eval y = ic at ri
    cases ri with
    | hptr hg =>
    rename_i r rm
    obtain ⟨g', m', q1, hfz, gm, mm, sa, i1, i2, i3⟩ := S.hi.blk _ _ hb
    rw [hg] at q1; cases q1
    obtain ⟨g', m', q1, hfz', es, he, M, hst⟩ := S.hi.blk _ _ hx
    rw [i1] at q1; cases q1
    have hmem : ∀ s : Nat, sa.contains s = true ↔ s ∈ seen := fun s => by rw [← i3]; simp
    have hleft : ∀ e, e ∈ (leftOf es sa).toList ↔ e ∈ es.toList ∧ e.born ∉ seen := fun e => by
     have := hmem e.born
     simp only [leftOf, Array.toList_filter, List.mem_filter, Bool.not_eq_true']
     rw [← this]; simp
    rcases run_next_at (P := P) w o.type r gm n n sa es n i2 he M.born (Nat.le_refl _) with ⟨h0, hrun⟩ | ⟨e, hel, w1, hw1, hrun⟩
    ·have hno : ¬ ∃ q, f q ≠ none ∧ st q ∉ seen := by
      rintro ⟨q, hq, hs⟩
      obtain ⟨hf, e, he', hk⟩ := M.dom q hq
      have : e ∈ (leftOf es sa).toList := (hleft e).2 ⟨he', by rw [hst e he' q hf hk]; exact hs⟩
      have hne : (leftOf es sa).toList.length = 0 := by simpa using h0
      rw [List.length_eq_zero_iff.1 hne] at this
      cases this
     rw [if_neg hno] at h
     obtain ⟨H1, le1⟩ := S.hi.hstore (b' := .map kk f) hx i1 (Upd.refl he) (fun le => ⟨es, n, he, M.mono le⟩)
     refine op_done (c := .tuple #[.bool false]) (e := .v (.tuple [.bool false])) S C (.inl ?_) (H1.kill b) le1 hd (VRels.tuple (l := [.bool false]) (.cons .bool .nil)) h
     unfold execOp
     simp only [ho, hyv, Sem.run_bind, hrun, Result.andThen_ok, Sem.run_pure]
    ·obtain ⟨he', hns⟩ := (hleft e).1 hel
     obtain ⟨q, v, a1, a2, a3, a4⟩ := M.ent e he'
     have hq : f q ≠ none := by rw [a3]; simp
     have hs := hst e he' q a1 a2
     rw [if_pos ⟨q, hq, by rw [← hs]; exact hns⟩] at h
     have h := agree_elim h (q, v) ⟨a3, by rw [← hs]; exact hns⟩
     simp only at h
     have D1 : HI Z w1 G lm loc σ := by
      rcases hw1 with rfl | rfl
      ·exact S.hi
      ·exact S.hi.draw _ rfl rfl rfl rfl
     have hw1h : w1.heap = w.heap := by rcases hw1 with rfl | rfl <;> rfl
     have hlt : r < w1.heap.size := by rw [hw1h]; exact lt_of_get i2
     have hupd : Upd w1 (setBlock w1 r (.mapIter (some gm) n (sa.push e.born) n)) r (.mapIter (some gm) n (sa.push e.born) n) :=
      ⟨by simp [setBlock], fun c hc => by simp [setBlock, Ne.symm hc], by simp [setBlock, hlt], rfl, rfl, rfl⟩
     obtain ⟨H1, le1⟩ := D1.hstore (b' := .iter bx n (seen ++ [st q]) q) hb hg hupd (fun le => ⟨gm, mm, _, i1, hupd.at_, by simp [i3, hs]⟩)
     rw [hw1h] at le1
     refine op_done (c := .tuple #[.bool true, e.key, e.val]) (e := .v (.tuple [.bool true, q, v])) S C (.inl ?_) H1 le1 hd
      (VRels.tuple (l := [.bool true, e.key, e.val]) (.cons .bool (.cons (by rw [a2]; exact kval_rel a1) (.cons (a4.mono le1) .nil)))) h
     unfold execOp
     simp only [ho, hyv, Sem.run_bind, hrun, Result.andThen_ok, Sem.run_pure]
   ·cases h
  ·cases h
 ·cases h

theorem sound_entry (S : St Z N w G lm env loc σ a) (C : Cont Z N k x G lm w a o.dst.toList K) (hd : ∀ t, o.dst = some t → t < N) {y : Operand} {y0 : Opd}
  (ho : o.op = .entry y) (hy : opdOk y y0 = true) (h : opK D o.dst (.entry y0) env loc σ k = some x) : o.wp P a w K Q := by
 obtain ⟨it, hm, h⟩ := val_some h
 have ri := val_rel S hy hm
 obtain ⟨u, hr, h⟩ := bind_some h
 unfold entryV at hr
 split at hr
 ·rename_i b
  split at hr
  ·rename_i bx n seen q hb
   split at hr
   ·rename_i kk f st n' hx
    split at hr
    ·rename_i hc
     obtain ⟨rfl, hfit, hlast⟩ := hc
     simp only [Option.map_eq_some_iff] at hr
     obtain ⟨v, hv, rfl⟩ := hr
     generalize hyv : a.eval y = ic at ri
     cases ri with
     | hptr hg =>
     rename_i r rm
     obtain ⟨g', m', q1, hfz, gm, mm, sa, i1, i2, i3⟩ := S.hi.blk _ _ hb
     rw [hg] at q1; cases q1
     obtain ⟨g', m', q1, hfz', es, he, M, hst⟩ := S.hi.blk _ _ hx
     rw [i1] at q1; cases q1
     obtain ⟨hf, e, he', hk⟩ := M.dom q (by rw [hv]; simp)
     have hs := hst e he' q hf hk
     obtain ⟨q', v', a1, a2, a3, a4⟩ := M.ent e he'
     have : q = q' := kval_inj hf a1 (hk.symm.trans a2)
     subst this
     rw [hv] at a3; cases a3
     obtain ⟨pre, hpre⟩ : ∃ pre : Array Nat, sa = pre.push e.born := by
      have hl : sa.toList.getLast? = some e.born := by rw [i3, hlast, hs]
      have hne : sa.toList ≠ [] := fun h0 => by rw [h0] at hl; cases hl
      refine ⟨sa.toList.dropLast.toArray, ?_⟩
      apply Array.toList_inj.1
      rw [Array.toList_push, List.toList_toArray]
      have := List.dropLast_concat_getLast hne
      rw [List.getLast?_eq_some_getLast hne] at hl
      rw [← Option.some.inj hl]
      exact this.symm
     subst hpre
     refine op_done (c := .tuple #[e.key, e.val]) (e := .v (.tuple [q, v])) S C (.inl ?_) S.hi (.refl _ _) hd
      (VRels.tuple (l := [e.key, e.val]) (.cons (by rw [a2]; exact kval_rel a1) (.cons a4 .nil))) h
     unfold execOp
     simp only [ho, hyv, Sem.run_bind, run_entry_at (P := P) w r gm n pre es n e i2 he he' M.stamps, Result.andThen_ok, Sem.run_pure]
    ·cases hr
   ·cases hr
  ·cases hr
 ·cases hr
end
end Go.Asm
/- Calls: what a call of a function must come to, and how a caller goes on. -/
namespace Go.Asm

def here (w : World) (G : Gh) (σ : Store) (Gl : Nat → Option AV) : Base := ⟨w, fun g => ∃ x b m, σ.blk x = some b ∧ G.bm x = some (g, m), G, Gl⟩

/-- The call of f comes to r. -/
structure Den (P : Program) (Gl : Nat → Option AV) (f : Nat) (args : List AV) (σ : Store) (r : AV × Store) : Prop where
 fn : ∃ fn, P.funcs[f]? = some fn ∧ (fn.name == "runtime.NumGoroutine") = false ∧ fn.body.isNone = false
 run : ∀ (w : World) (G : Gh) (cs : List Value), HI (here w G σ Gl) w G (fun _ => none) [] σ → VRels w.heap G args cs →
  Calls P f cs.toArray w fun
   | .returned v, w' => ∃ G', HI (here w G σ Gl) w' G' (fun _ => none) [] r.2 ∧ VRel w'.heap G' r.1 v
   | _, _ => False

def CallOK (P : Program) (Gl : Nat → Option AV) (call : Nat → List AV → Store → Res) : Prop := ∀ f args σ r, call f args σ = some r → Den P Gl f args σ r

section
variable {ρ : Type} {P : Program} {Z : Base} {N : Nat} {w w' : World} {G G' : Gh} {lm : Nat → Option Nat} {env : Env} {loc : Loc} {σ σ' : Store} {a : Act}
 {k : Env → Loc → Store → Option ρ} {x : ρ} {K : Act → World → Prop} {Q : Exit → Act → World → Prop} {o : Oper} {D : Ctx}

theorem Loc.get_nil (s : Nat) : Loc.get [] s = none := rfl

theorem HI.enter (H : HI Z w G lm loc σ) : HI (here w G σ Z.Gl) w G (fun _ => none) [] σ where
 fzlt := H.fzlt
 blk := H.blk
 inj := H.inj
 next := H.next
 lrel := fun s n cs h => by cases h
 linj := fun s t h => by simp [Loc.get_nil] at h
 ldis := fun s h => by simp [Loc.get_nil] at h
 os := rfl
 tape := rfl
 output := rfl
 size := Nat.le_refl _
 keep := fun _ _ _ => rfl
 fresh := fun x b h g m hg => .inr ⟨x, b, m, h, hg⟩
 lfresh := fun s h => by simp [Loc.get_nil] at h
 fzfresh := fun g h => .inl h
 fz0 := fun g h => h
 bm0 := fun x p h => h
 bmlt := H.bmlt
 glob := H.glob

/-- What the callee leaves, in the caller's frame. -/
theorem HI.back (H : HI Z w G lm loc σ) (H' : HI (here w G σ Z.Gl) w' G' (fun _ => none) [] σ') : HI Z w' G' lm loc σ' ∧ Le w.heap w'.heap G G' := by
 have notown : ∀ g, G.Fz g → ¬ (here w G σ Z.Gl).own g := fun g hg ⟨x, b, m, hb, hm⟩ => by
  obtain ⟨g', m', h1, h2, _⟩ := H.blk x b hb
  rw [hm] at h1; cases h1
  exact h2 hg
 have le : Le w.heap w'.heap G G' := ⟨H'.fz0, H'.bm0, fun g hg => H'.keep g (H.fzlt g hg) (notown g hg)⟩
 have locold : ∀ s, (loc.get s).isSome = true → ∀ g, lm s = some g → g < w.heap.size ∧ ¬ (here w G σ Z.Gl).own g := fun s hs g hg => by
  obtain ⟨⟨n, cs⟩, hl⟩ := Option.isSome_iff_exists.1 hs
  obtain ⟨_, g', h1, _, h3⟩ := H.lrel s n cs hl
  rw [hg] at h1; cases h1
  exact ⟨h3.lt, fun ⟨x, b, m, hb, hm⟩ => H.ldis s hs g hg x b hb m hm⟩
 refine ⟨?_, le⟩
 exact
  {fzlt := H'.fzlt
   blk := H'.blk
   inj := H'.inj
   next := H'.next
   lrel := fun s n cs hl => by
    obtain ⟨h0, g, h1, h2, h3⟩ := H.lrel s n cs hl
    obtain ⟨o1, o2⟩ := locold s (by rw [hl]; rfl) g h1
    refine ⟨h0, g, h1, fun hf => ?_, h3.mono le (H'.keep g o1 o2)⟩
    rcases H'.fzfresh g hf with h | h | h
    ·exact h2 h
    ·exact absurd o1 (Nat.not_lt.2 h)
    ·exact o2 h
   linj := H.linj
   ldis := fun s hs g hg x b hb m hm => by
    obtain ⟨o1, o2⟩ := locold s hs g hg
    rcases H'.fresh x b hb g m hm with h | h
    ·exact absurd o1 (Nat.not_lt.2 h)
    ·exact o2 h
   os := H'.os.trans H.os
   tape := H'.tape.trans H.tape
   output := H'.output.trans H.output
   size := Nat.le_trans H.size H'.size
   keep := fun g hg ho => by
    rw [H'.keep g (Nat.lt_of_lt_of_le hg H.size) (fun ⟨x, b, m, hb, hm⟩ => by
     rcases H.fresh x b hb g m hm with h | h
     ·exact absurd hg (Nat.not_lt.2 h)
     ·exact ho h)]
    exact H.keep g hg ho
   fresh := fun x b hb g m hm => by
    rcases H'.fresh x b hb g m hm with h | ⟨y, c, n, hc, hn⟩
    ·exact .inl (Nat.le_trans H.size h)
    ·exact H.fresh y c hc g n hn
   lfresh := H.lfresh
   fzfresh := fun g hg => by
    rcases H'.fzfresh g hg with h | h | ⟨y, c, n, hc, hn⟩
    ·exact H.fzfresh g h
    ·exact .inr (.inl (Nat.le_trans H.size h))
    ·rcases H.fresh y c hc g n hn with h | h
     ·exact .inr (.inl h)
     ·exact .inr (.inr h)
   fz0 := fun g h => H'.fz0 g (H.fz0 g h)
   bm0 := fun x p h => H'.bm0 x p (H.bm0 x p h)
   bmlt := H'.bmlt
   glob := H'.glob }

/-- A call that could write nothing of the caller's: what it left may be frozen. -/
theorem HI.quiet (H : HI Z w G lm loc σ) (h1 : ∀ g, g < w.heap.size → w'.heap[g]? = w.heap[g]?) (h2 : w.heap.size ≤ w'.heap.size) (h3 : w'.os = w.os) (h4 : w'.tape = w.tape) (h5 : w'.output = w.output)
  (F : Nat → Prop) (hF : ∀ g, F g → w.heap.size ≤ g ∧ g < w'.heap.size) :
  HI Z w' ⟨fun g => G.Fz g ∨ F g, G.bm⟩ lm loc σ ∧ Le w.heap w'.heap G ⟨fun g => G.Fz g ∨ F g, G.bm⟩ := by
 have le : Le w.heap w'.heap G ⟨fun g => G.Fz g ∨ F g, G.bm⟩ := ⟨fun g h => .inl h, fun x p h => h, fun g h => h1 g (H.fzlt g h)⟩
 refine ⟨?_, le⟩
 have nf : ∀ g, ¬ G.Fz g → g < w.heap.size → ¬ (G.Fz g ∨ F g) := fun g h1 h2 h => by
  rcases h with h | h
  ·exact h1 h
  ·have := (hF g h).1; omega
 exact
  {fzlt := fun g h => by
    rcases h with h | h
    ·have := H.fzlt g h; omega
    ·exact (hF g h).2
   blk := fun x b hb => by
    obtain ⟨g, m, q1, q2, q3⟩ := H.blk x b hb
    exact ⟨g, m, q1, nf g q2 q3.lt, q3.mono le (h1 g q3.lt)⟩
   inj := H.inj
   next := H.next
   lrel := fun s n cs hl => by
    obtain ⟨q0, g, q1, q2, q3⟩ := H.lrel s n cs hl
    exact ⟨q0, g, q1, nf g q2 q3.lt, q3.mono le (h1 g q3.lt)⟩
   linj := H.linj
   ldis := H.ldis
   os := h3.trans H.os
   tape := h4.trans H.tape
   output := h5.trans H.output
   size := Nat.le_trans H.size h2
   keep := fun g hg ho => by rw [h1 g (Nat.lt_of_lt_of_le hg H.size)]; exact H.keep g hg ho
   fresh := H.fresh
   lfresh := H.lfresh
   fzfresh := fun g h => by
    rcases h with h | h
    ·exact H.fzfresh g h
    ·exact .inr (.inl (Nat.le_trans H.size (hF g h).1))
   fz0 := fun g h => .inl (H.fz0 g h)
   bm0 := H.bm0
   bmlt := fun x g m h => Nat.lt_of_lt_of_le (H.bmlt x g m h) h2
   glob := fun g v h => by
    obtain ⟨q1, c, q2, q3⟩ := H.glob g v h
    exact ⟨.inl q1, c, (cellOf_same (h1 g (H.fzlt g q1))).trans q2, q3.gmono (fun g h => Or.inl h) le.same⟩ }

/-! #### views -/
/-- The ghost with what a store holds frozen. -/
def frozen (G : Gh) (σ : Store) : Gh := ⟨fun g => G.Fz g ∨ ∃ x b m, σ.blk x = some b ∧ G.bm x = some (g, m), fun _ => none⟩

theorem mapM_some {α β : Type} {f : α → Option β} : ∀ {l : List α} {r : List β}, l.mapM f = some r → l.length = r.length ∧ ∀ (i : Nat) (u : β), r[i]? = some u → ∃ v, l[i]? = some v ∧ f v = some u
 | [], r, h => by
  simp at h; subst h
  exact ⟨rfl, fun i u h => by simp at h⟩
 | a :: l, r, h => by
  simp only [List.mapM_cons, Option.bind_eq_bind, Option.pure_def] at h
  obtain ⟨b, hb, h⟩ := bind_some h
  obtain ⟨r', hr', h⟩ := bind_some h
  cases h
  obtain ⟨ih1, ih2⟩ := mapM_some hr'
  refine ⟨by simp [ih1], fun i u hu => ?_⟩
  cases i with
  | zero => simp at hu; subst hu; exact ⟨a, rfl, hb⟩
  | succ i => exact ih2 i u (by simpa using hu)

theorem splitRows_get {sz : Nat} : ∀ (n : Nat) (cs : List AV), (splitRows sz n cs).length = n ∧ ∀ (i : Nat) (row : List AV), (splitRows sz n cs)[i]? = some row → i < n ∧ row = (cs.drop (i * sz)).take sz
 | 0, cs => ⟨rfl, fun i row h => by simp [splitRows] at h⟩
 | n + 1, cs => by
  obtain ⟨h1, h2⟩ := splitRows_get (sz := sz) n (cs.drop sz)
  refine ⟨by simp [splitRows, h1], fun i row h => ?_⟩
  cases i with
  | zero => simp [splitRows] at h; subst h; simp
  | succ i =>
   simp only [splitRows, List.getElem?_cons_succ] at h
   obtain ⟨q1, q2⟩ := h2 i row h
   refine ⟨by omega, ?_⟩
   rw [q2, List.drop_drop]
   congr 2
   rw [Nat.add_mul]; omega

theorem view_rel (H : ∀ x b, σ.blk x = some b → ∃ g m, G.bm x = some (g, m) ∧ ¬ G.Fz g ∧ BRel w.heap G b g m) : ∀ (n : Nat) {v u : AV} {c : Value}, view σ n v = some u → VRel w.heap G v c → VRel w.heap (frozen G σ) u c := by
 intro n
 induction n using Nat.strongRecOn with
 | _ n ih =>
 intro v u c h r
 cases n with
 | zero => cases h
 | succ n =>
  have own : ∀ {x g m b}, σ.blk x = some b → G.bm x = some (g, m) → (frozen G σ).Fz g := fun hb hm => .inr ⟨_, _, _, hb, hm⟩
  have ihn : ∀ {v u : AV} {c : Value}, view σ n v = some u → VRel w.heap G v c → VRel w.heap (frozen G σ) u c := fun h r => ih n (by omega) h r
  have ihp : ∀ {v u : AV} {c : Value}, view σ n.pred v = some u → VRel w.heap G v c → VRel w.heap (frozen G σ) u c := fun h r => ih n.pred (by have := Nat.pred_le n; omega) h r
  cases r with
  | undef => simp [view] at h
  | bool => cases h; exact .bool
  | int => cases h; exact .int
  | flt e => cases h; exact .flt e
  | str => cases h; exact .str
  | nilptr => cases h; exact .nilptr
  | hptr e => simp [view] at h
  | pptr ad cs hf hc hv =>
   rename_i row off
   simp only [view, Option.map_eq_some_iff] at h
   obtain ⟨row', hr, rfl⟩ := h
   obtain ⟨l1, l2⟩ := mapM_some hr
   refine .pptr ad cs (.inl hf) (fun j v hj => ?_) (fun j v hj => ?_)
   ·obtain ⟨v', h1, _⟩ := l2 _ _ hj; exact hc j v' h1
   ·obtain ⟨v', h1, h2⟩ := l2 _ _ hj; exact ihn h2 (hv j v' h1)
  | gptr => simp [view] at h
  | nilslice => cases h; exact .pnil
  | pnil =>
   simp only [view, Option.map_eq_some_iff] at h
   obtain ⟨rows, hr, rfl⟩ := h
   simp at hr; subst hr
   exact .pnil
  | pslice ad cap cs hf hcap hrow hc hv =>
   rename_i sz rows
   simp only [view, Option.map_eq_some_iff] at h
   obtain ⟨rows', hr, rfl⟩ := h
   obtain ⟨l1, l2⟩ := mapM_some hr
   have rowof : ∀ (i : Nat) (q : AV), rows'[i]? = some q → ∃ row row' : List AV, q = .agg row' ∧ rows[i]? = some (.agg row) ∧ row'.length = sz ∧ ∀ (j : Nat) (z : AV), row'[j]? = some z → ∃ y, row[j]? = some y ∧ view σ n.pred y = some z := by
    intro i q hq
    obtain ⟨y, h1, h2⟩ := l2 i q hq
    obtain ⟨row, rfl, hlen⟩ := hrow i y h1
    cases n with
    | zero => cases h2
    | succ n =>
     simp only [view, Option.map_eq_some_iff] at h2
     obtain ⟨row', h3, rfl⟩ := h2
     obtain ⟨m1, m2⟩ := mapM_some h3
     exact ⟨row, row', rfl, h1, by omega, m2⟩
   rw [l1]
   refine .pslice ad cap cs (fun hp => .inl (hf (by rw [l1]; exact hp))) (by omega) (fun i q hq => ?_) (fun i row j v hi hj => ?_) (fun i row j v hi hj => ?_)
   ·obtain ⟨row, row', e1, _, e3, _⟩ := rowof i q hq; exact ⟨row', e1, e3⟩
   ·obtain ⟨row0, row', e1, e2, e3, e4⟩ := rowof i _ hi
    cases e1
    obtain ⟨y, e5, _⟩ := e4 j v hj
    exact hc i row0 j y e2 e5
   ·obtain ⟨row0, row', e1, e2, e3, e4⟩ := rowof i _ hi
    cases e1
    obtain ⟨y, e5, e6⟩ := e4 j v hj
    exact ihp e6 (hv i row0 j y e2 e5)
  | hslice e h1 h2 =>
   rename_i sz x off len g m cap
   simp only [view] at h
   obtain ⟨cs, hcs, h⟩ := bind_some h
   simp only [Option.map_eq_some_iff] at h
   obtain ⟨rows, hr, rfl⟩ := h
   obtain ⟨l1, l2⟩ := mapM_some hr
   obtain ⟨s1, s2⟩ := splitRows_get (sz := sz) len cs
   simp only [rdN] at hcs
   split at hcs
   ·rename_i cells hb
    split at hcs
    ·rename_i hfit
     cases hcs
     obtain ⟨g', m', q1, _, arr, elem, q2, q3, q4, q5, q6⟩ := H _ _ hb
     rw [e] at q1; cases q1
     have hlen : rows.length = len := by omega
     have rowof : ∀ (i : Nat) (q : AV), rows[i]? = some q → ∃ row' : List AV, q = .agg row' ∧ i < len ∧ row'.length = sz ∧ ∀ (j : Nat) (z : AV), row'[j]? = some z → j < sz ∧ ∃ y, cells[off + (i * sz + j)]? = some y ∧ view σ n y = some z := by
      intro i q hq
      obtain ⟨y, h1, h2⟩ := l2 i q hq
      simp only [Option.map_eq_some_iff] at h2
      obtain ⟨row', h3, rfl⟩ := h2
      obtain ⟨m1, m2⟩ := mapM_some h3
      obtain ⟨t1, t2⟩ := s2 i y h1
      have hmul : (i + 1) * sz ≤ len * sz := Nat.mul_le_mul_right _ t1
      rw [Nat.add_mul] at hmul
      have hrl : y.length = sz := by
       rw [t2]
       simp only [List.length_take, List.length_drop]
       omega
      refine ⟨row', rfl, t1, by omega, fun j z hz => ?_⟩
      obtain ⟨y', h4, h5⟩ := m2 j z hz
      have hj := (List.getElem?_eq_some_iff.1 h4).1
      refine ⟨by omega, y', ?_, h5⟩
      rw [t2, List.getElem?_take, if_pos (by omega), List.getElem?_drop, List.getElem?_take, if_pos (by omega), List.getElem?_drop] at h4
      exact h4
     rw [← hlen]
     refine .pslice ⟨g, off, none⟩ cap (fun i j => arr.toList.getD (off + (i * sz + j)) undef) (fun _ => own hb e) (by omega) (fun i q hq => ?_) (fun i row j v hi hj => ?_) (fun i row j v hi hj => ?_)
     ·obtain ⟨row', e1, _, e3, _⟩ := rowof i q hq; exact ⟨row', e1, e3⟩
     ·obtain ⟨row', e1, _, _, e4⟩ := rowof i _ hi
      cases e1
      obtain ⟨_, y, e5, e6⟩ := e4 j v hj
      obtain ⟨c, c1, c2⟩ := q6 _ _ e5
      rw [← Array.getElem?_toList] at c1
      rw [add_mk, cellOf_mk q2, ← Array.getElem?_toList, c1, List.getD_eq_getElem?_getD, c1]
      exact ⟨rfl, q5.get c1⟩
     ·obtain ⟨row', e1, _, _, e4⟩ := rowof i _ hi
      cases e1
      obtain ⟨_, y, e5, e6⟩ := e4 j v hj
      obtain ⟨c, c1, c2⟩ := q6 _ _ e5
      rw [← Array.getElem?_toList] at c1
      rw [List.getD_eq_getElem?_getD, c1]
      exact ihn e6 c2
    ·cases hcs
   ·cases hcs
  | nilmap => cases h; exact .pmnil
  | pmnil =>
   simp [view] at h
   subst h
   exact .pmnil
  | pmap hf he h1 h2 r1 r2 =>
   simp only [view] at h
   obtain ⟨ks, hk, h⟩ := bind_some h
   simp only [Option.map_eq_some_iff] at h
   obtain ⟨vs, hv, rfl⟩ := h
   obtain ⟨a1, a2⟩ := mapM_some hk
   obtain ⟨b1, b2⟩ := mapM_some hv
   refine .pmap (.inl hf) he (by omega) (by omega) (fun i k e hi hj => ?_) (fun i k e hi hj => ?_)
   ·obtain ⟨y, y1, y2⟩ := a2 i k hi; exact ihn y2 (r1 i y e y1 hj)
   ·obtain ⟨y, y1, y2⟩ := b2 i k hi; exact ihn y2 (r2 i y e y1 hj)
  | hmap e => simp [view] at h
  | func => simp [view] at h
  | nilfunc => simp [view] at h
  | iface => simp [view] at h
  | niliface => simp [view] at h
  | agg ho h1 h2 =>
   simp only [view, Option.map_eq_some_iff] at h
   obtain ⟨row', hr, rfl⟩ := h
   obtain ⟨l1, l2⟩ := mapM_some hr
   refine .agg ho (by omega) (fun i v c hi hj => ?_)
   obtain ⟨y, y1, y2⟩ := l2 i v hi
   exact ihn y2 (h2 i y c y1 hj)
  | tuple h1 h2 =>
   simp only [view, Option.map_eq_some_iff] at h
   obtain ⟨row', hr, rfl⟩ := h
   obtain ⟨l1, l2⟩ := mapM_some hr
   refine .tuple (by omega) (fun i v c hi hj => ?_)
   obtain ⟨y, y1, y2⟩ := l2 i v hi
   exact ihn y2 (h2 i y c y1 hj)

/-- A value of plain kinds stands for the same anywhere. -/
theorem scal1_rel {v : AV} (hs : scal1 v = true) {h h' : Array Obj} {G G' : Gh} {c : Value} (r : VRel h G v c) : VRel h' G' v c := by
 cases r <;> first
  | (simp [scal1] at hs; done)
  | exact .bool
  | exact .int
  | (rename_i e; exact .flt e)
  | exact .str
  | exact .nilptr
theorem scal_agg {cs : List AV} (hs : cs.all scal1 = true) {h h' : Array Obj} {G G' : Gh} {c : Value} (r : VRel h G (.agg cs) c) : VRel h' G' (.agg cs) c := by
 cases r with
 | agg ho h1 h2 => exact .agg ho h1 fun i v c hi hj => scal1_rel (List.all_eq_true.1 hs v (Lmg hi)) (h2 i v c hi hj)
theorem scal_rel {v : AV} (hs : scal v = true) {h h' : Array Obj} {G G' : Gh} {c : Value} (r : VRel h G v c) : VRel h' G' v c := by
 unfold scal at hs
 split at hs
 ·exact scal_agg hs r
 ·cases r with
  | tuple h1 h2 =>
   refine .tuple h1 fun i v c hi hj => ?_
   have hq := List.all_eq_true.1 hs v (Lmg hi)
   split at hq
   ·exact scal_agg hq (h2 i _ c hi hj)
   ·exact scal1_rel hq (h2 i _ c hi hj)
 ·exact scal1_rel hs r

theorem views_rel (H : ∀ x b, σ.blk x = some b → ∃ g m, G.bm x = some (g, m) ∧ ¬ G.Fz g ∧ BRel w.heap G b g m) {n : Nat} {vs us : List AV} {cs : List Value} (h : vs.mapM (view σ n) = some us) (r : VRels w.heap G vs cs) : VRels w.heap (frozen G σ) us cs := by
 obtain ⟨l1, l2⟩ := mapM_some h
 refine ⟨by rw [← l1]; exact r.1, fun i u c hi hj => ?_⟩
 obtain ⟨v, h1, h2⟩ := l2 i u hi
 exact view_rel H n h2 (r.2 i v c h1 hj)

/-- Into a call that shares nothing of the store. -/
theorem HI.alone (H : HI Z w G lm loc σ) (τ : Store) : HI (here w (frozen G τ) Store.empty Z.Gl) w (frozen G τ) (fun _ => none) [] Store.empty where
 fzlt := fun g h => by
  rcases h with h | ⟨x, b, m, hb, hm⟩
  ·exact H.fzlt g h
  ·exact H.bmlt x g m hm
 blk := fun x b h => by cases h
 inj := fun x y h => by simp [Store.empty] at h
 next := fun x _ => ⟨rfl, rfl⟩
 lrel := fun s n cs h => by cases h
 linj := fun s t h => by simp [Loc.get_nil] at h
 ldis := fun s h => by simp [Loc.get_nil] at h
 os := rfl
 tape := rfl
 output := rfl
 size := Nat.le_refl _
 keep := fun _ _ _ => rfl
 fresh := fun x b h => by cases h
 lfresh := fun s h => by simp [Loc.get_nil] at h
 fzfresh := fun g h => .inl h
 fz0 := fun g h => h
 bm0 := fun x p h => h
 bmlt := fun x g m h => by cases h
 glob := fun g v h => by
  obtain ⟨h1, c, h2, h3⟩ := H.glob g v h
  exact ⟨.inl h1, c, h2, h3.gmono (fun g h => Or.inl h) (fun _ _ => rfl)⟩

theorem HI.alone_back (H : HI Z w G lm loc σ) {τ : Store} (H' : HI (here w (frozen G τ) Store.empty Z.Gl) w' G' (fun _ => none) [] σ') :
  ∃ G'', HI Z w' G'' lm loc σ ∧ Le w.heap w'.heap G G'' ∧ (∀ g, G''.Fz g ↔ G.Fz g ∨ (w.heap.size ≤ g ∧ (frozen G' σ').Fz g)) ∧ G''.bm = G.bm := by
 have h1 : ∀ g, g < w.heap.size → w'.heap[g]? = w.heap[g]? := fun g hg => H'.keep g hg (fun ⟨x, b, m, hb, _⟩ => by cases hb)
 have flt : ∀ g, (frozen G' σ').Fz g → g < w'.heap.size := fun g hg => by
  rcases hg with h | ⟨x, b, m, hb, hm⟩
  ·exact H'.fzlt g h
  ·exact H'.bmlt x g m hm
 obtain ⟨h, le⟩ := H.quiet h1 H'.size H'.os H'.tape H'.output (fun g => w.heap.size ≤ g ∧ (frozen G' σ').Fz g) (fun g hg => ⟨hg.1, flt g hg.2⟩)
 exact ⟨_, h, le, fun g => Iff.rfl, rfl⟩
end
end Go.Asm
/- What each operation comes to: ninth part: calls. -/
namespace Go.Asm

section
variable {ρ : Type} {P : Program} {Z : Base} {N : Nat} {w w' : World} {G G' : Gh} {lm : Nat → Option Nat} {env : Env} {loc : Loc} {σ σ' : Store} {a : Act}
 {k : Env → Loc → Store → Option ρ} {x : ρ} {K : Act → World → Prop} {Q : Exit → Act → World → Prop} {o : Oper} {D : Ctx}

/-- A call of f with these arguments, whatever may be captured. -/
theorem run_enter {f : Nat} {args first captured : Array Value} {argTypes : Array TypeId} {fv : Operand} {ops : Array Operand} (ho : o.op = .call { callee := .value fv, args := ops, argTypes := argTypes }) (hf : a.eval fv = .func (.func f) first captured)
  (hargs : ops.map a.eval = args) (hfn : ∃ fn, P.funcs[f]? = some fn ∧ (fn.name == "runtime.NumGoroutine") = false ∧ fn.body.isNone = false) :
  (execOp a.eval o).run P w = .ok (.enter f (first ++ args ++ captured)) w := by
 obtain ⟨fn, h1, h2, h3⟩ := hfn
 unfold execOp
 simp only [ho, resolve, hf, Deferred.ofValue, hargs, Sem.run_bind, Sem.run_pure, Result.andThen_ok, invoke, callFunc, run_program, h1, h2, h3, Bft, if_false]

theorem op_enter (S : St Z N w G lm env loc σ a) (C : Cont Z N k x G lm w a o.dst.toList K) (hd : ∀ t, o.dst = some t → t < N) {f : Nat} {args : Array Value} {e : AV}
  (hrun : (execOp a.eval o).run P w = .ok (.enter f args) w)
  (hc : Calls P f args w fun
   | .returned v, w' => ∃ G', HI Z w' G' lm loc σ' ∧ Le w.heap w'.heap G G' ∧ VRel w'.heap G' e v
   | _, _ => False)
  (hk : k (put env o.dst (.v e)) loc σ' = some x) : o.wp P a w K Q := by
 unfold Oper.wp
 rw [hrun]
 refine Calls.mono hc fun e' w' h => ?_
 cases e' with
 | returned v =>
  obtain ⟨G', H', le, hv⟩ := h
  refine C _ _ _ _ _ _ _ hk (S.put H' le hd (e := .v e) hv) le (fun _ _ => rfl) (fun t ht => ?_)
  cases hdst : o.dst with
  | none => rfl
  | some d =>
   rw [hdst] at ht
   have hne : d ≠ t := fun e => ht (by simp [e])
   rw [getD_put (Nat.lt_of_lt_of_le (hd d hdst) S.nt), if_neg hne]
 | panicked => exact h.elim
 | outgrown => exact h.elim

theorem den_calls (H : HI Z w G lm loc σ) {f : Nat} {args : List AV} {cs : List Value} {r : AV × Store} (h : Den P Z.Gl f args σ r) (hr : VRels w.heap G args cs) :
  Calls P f cs.toArray w fun
   | .returned v, w' => ∃ G', HI Z w' G' lm loc r.2 ∧ Le w.heap w'.heap G G' ∧ VRel w'.heap G' r.1 v
   | _, _ => False :=
 Calls.mono (h.run w G cs H.enter hr) fun e w' h => by
  cases e with
  | returned v =>
   obtain ⟨G', H', hv⟩ := h
   obtain ⟨h1, h2⟩ := H.back H'
   exact ⟨G', h1, h2, hv⟩
  | panicked => exact h
  | outgrown => exact h

theorem arr_map {ops : Array Operand} : ops.map a.eval = (ops.toList.map a.eval).toArray := by rw [← Array.toList_map, Array.toArray_toList]

theorem sound_callS (hcall : CallOK P Z.Gl D.call) (S : St Z N w G lm env loc σ a) (C : Cont Z N k x G lm w a o.dst.toList K) (hd : ∀ t, o.dst = some t → t < N) {f : Nat} {args : Array Operand} {args0 : List Opd} {argTypes : Array TypeId}
  (ho : o.op = .call { callee := .value (.func f), args := args, argTypes := argTypes }) (ha : opdsOk args.toList args0 = true)
  (h : opK D o.dst (.callS f args0) env loc σ k = some x) : o.wp P a w K Q := by
 obtain ⟨vs, hvs, h1⟩ := vals_some S ha h
 obtain ⟨r, hr, h2⟩ := bind_some h1
 have hden := hcall f vs σ r hr
 refine op_enter (e := r.1) (σ' := r.2) S C hd (run_enter ho rfl (arr_map) hden.fn) ?_ h2
 have := den_calls S.hi hden hvs
 simpa using this

theorem sound_callD (hcall : CallOK P Z.Gl D.call) (S : St Z N w G lm env loc σ a) (C : Cont Z N k x G lm w a o.dst.toList K) (hd : ∀ t, o.dst = some t → t < N) {fv : Operand} {f0 : Opd} {args : Array Operand} {args0 : List Opd} {argTypes : Array TypeId}
  (ho : o.op = .call { callee := .value fv, args := args, argTypes := argTypes }) (hf : opdOk fv f0 = true) (ha : opdsOk args.toList args0 = true)
  (h : opK D o.dst (.callD f0 args0) env loc σ k = some x) : o.wp P a w K Q := by
 obtain ⟨fa, hfa, h0⟩ := val_some h
 obtain ⟨vs, hvs, h1⟩ := vals_some S ha h0
 obtain ⟨r, hr, h2⟩ := bind_some h1
 have hfr := val_rel S hf hfa
 unfold callD at hr
 split at hr
 ·rename_i f first captured
  have hden := hcall f _ σ r hr
  generalize hfv : a.eval fv = fc at hfr
  cases hfr with
  | func e1 e2 r1 r2 =>
  rename_i cf cc
  refine op_enter (e := r.1) (σ' := r.2) S C hd (run_enter ho hfv (arr_map) hden.fn) ?_ h2
  have hfirst : VRels w.heap G first cf.toList := ⟨by simpa using e1, fun i v c hv hc => r1 i v c hv (by simpa using hc)⟩
  have hcap : VRels w.heap G captured cc.toList := ⟨by simpa using e2, fun i v c hv hc => r2 i v c hv (by simpa using hc)⟩
  have hc := den_calls S.hi hden ((hfirst.append hvs).append hcap)
  have e : (cf.toList ++ args.toList.map a.eval ++ cc.toList).toArray = cf ++ (args.toList.map a.eval).toArray ++ cc := by
   apply Array.ext'
   simp
  rw [e] at hc
  exact hc
 ·cases hr

theorem sound_callP (hcall : CallOK P Z.Gl D.call) (S : St Z N w G lm env loc σ a) (C : Cont Z N k x G lm w a o.dst.toList K) (hd : ∀ t, o.dst = some t → t < N) {f : Nat} {args : Array Operand} {args0 : List Opd} {argTypes : Array TypeId}
  (ho : o.op = .call { callee := .value (.func f), args := args, argTypes := argTypes }) (ha : opdsOk args.toList args0 = true)
  (h : opK D o.dst (.callP f args0) env loc σ k = some x) : o.wp P a w K Q := by
 obtain ⟨vs, hvs, h1⟩ := vals_some S ha h
 obtain ⟨u, hu, h2⟩ := bind_some h1
 unfold callP at hu
 obtain ⟨us, hus, hu1⟩ := bind_some hu
 obtain ⟨r, hr, hu2⟩ := bind_some hu1
 have hden := hcall f us Store.empty r hr
 refine op_enter (e := u) (σ' := σ) S C hd (run_enter ho rfl (arr_map) hden.fn) ?_ h2
 have hrel : VRels w.heap (frozen G Store.empty) us (args.toList.map a.eval) := views_rel (σ := Store.empty) (fun x b h => by cases h) hus hvs
 have := hden.run w (frozen G Store.empty) _ (S.hi.alone Store.empty) hrel
 refine Calls.mono (by simpa using this) fun e w' h => ?_
 cases e with
 | returned v =>
  obtain ⟨G', H', hv⟩ := h
  obtain ⟨G'', q1, q2, q3, q4⟩ := S.hi.alone_back H'
  refine ⟨G'', q1, q2, ?_⟩
  have hview := view_rel H'.blk _ hu2 hv
  have hle : Le w'.heap w'.heap (frozen G' r.2) G'' := by
   refine ⟨fun g hg => (q3 g).2 ?_, (fun x p h => (by cases h)), fun _ _ => rfl⟩
   have hg' := hg
   rcases hg with h | ⟨x, b, m, hb, hm⟩
   ·rcases H'.fzfresh g h with h | h | ⟨x, b, m, hb, _⟩
    ·rcases h with h | ⟨x, b, m, hb, _⟩
     ·exact .inl h
     ·cases hb
    ·exact .inr ⟨h, hg'⟩
    ·cases hb
   ·rcases H'.fresh x b hb g m hm with h | ⟨x, b, m, hb, _⟩
    ·exact .inr ⟨h, hg'⟩
    ·cases hb
  exact hview.mono hle
 | panicked => exact h
 | outgrown => exact h

theorem sound_callV (hcall : CallOK P Z.Gl D.call) (S : St Z N w G lm env loc σ a) (C : Cont Z N k x G lm w a o.dst.toList K) (hd : ∀ t, o.dst = some t → t < N) {f : Nat} {args : Array Operand} {args0 : List Opd} {argTypes : Array TypeId}
  (ho : o.op = .call { callee := .value (.func f), args := args, argTypes := argTypes }) (ha : opdsOk args.toList args0 = true)
  (h : opK D o.dst (.callV f args0) env loc σ k = some x) : o.wp P a w K Q := by
 obtain ⟨vs, hvs, h1⟩ := vals_some S ha h
 obtain ⟨u, hu, h2⟩ := bind_some h1
 unfold callV at hu
 obtain ⟨us, hus, hu1⟩ := bind_some hu
 obtain ⟨r, hr, hu2⟩ := bind_some hu1
 have hden := hcall f us Store.empty r hr
 refine op_enter (e := u) (σ' := σ) S C hd (run_enter ho rfl (arr_map) hden.fn) ?_ h2
 have hrel : VRels w.heap (frozen G σ) us (args.toList.map a.eval) := views_rel S.hi.blk hus hvs
 have := hden.run w (frozen G σ) _ (S.hi.alone σ) hrel
 refine Calls.mono (by simpa using this) fun e w' h => ?_
 cases e with
 | returned v =>
  obtain ⟨G', H', hv⟩ := h
  obtain ⟨G'', q1, q2, q3, q4⟩ := S.hi.alone_back H'
  refine ⟨G'', q1, q2, ?_⟩
  split at hu2
  ·rename_i hs
   cases hu2
   exact scal_rel hs hv
  ·cases hu2
 | panicked => exact h
 | outgrown => exact h
end
end Go.Asm
/- One operation of a region by its resolved form: the check, and that it is sound. -/
namespace Go.Asm

/-- A constant's abstract value, for what is plain. -/
def avOf : Value → AV
 | .bool b => .bool b
 | .int k n => .int k n
 | .float .f64 b => .flt b
 | .string s => .str s
 | .pointer none => .nilptr
 | .slice none 0 0 => .nilslice
 | .map none => .nilmap
 | .nilFunc => .nilfunc
 | .nilIface => .niliface
 | _ => .undef
def zeroOf (P : Program) (t : Nat) : List AV :=
 match P.underlying t with
 | some (.slice e) => (match P.info? e with
  | some i => (match i.zero with
   | some z => z.cells.toList.map avOf
   | none => [])
  | none => [])
 | _ => []
def fieldIx (P : Program) (t off : Nat) (i : Nat) : Bool := fieldOk P t i off

def opOk (P : Program) (o : Oper) (r : ROp) : Bool :=
 match r with
 | .mv x => (match o.op with
  | .move y => opdOk y x
  | .assign y => opdOk y x
  | _ => false)
 | .pick c a b => (match o.op with
  | .pick c' a' b' => opdOk c' c && opdOk a' a && opdOk b' b
  | _ => false)
 | .pickv c a b => (match o.op with
  | .pick c' a' b' => opdOk c' c && opdOk a' a && opdOk b' b
  | _ => false)
 | .zalloc zero => (match o.op with
  | .alloc t => zeroOk P t zero
  | _ => false)
 | .halloc zero => (match o.op with
  | .alloc t => zeroOk P t zero
  | _ => false)
 | .pbox x => (match o.op with
  | .box _ y => opdOk y x
  | _ => false)
 | .lbox agg n x => (match o.op with
  | .box _ y => opdOk y x && (agg || n.beq 1) && !n.beq 0
  | _ => false)
 | .hbox agg n x => (match o.op with
  | .box _ y => opdOk y x && (agg || n.beq 1) && !n.beq 0
  | _ => false)
 | .build zero parts => (match o.op with
  | .build t ps => buildOk P t zero ps.toList parts
  | _ => false)
 | .pslice sz zero len parts => (match o.op with
  | .buildSlice t len' ps => len'.beq len && bsliceOk P t sz zero len ps.toList parts
  | _ => false)
 | .hslice sz zero len parts => (match o.op with
  | .buildSlice t len' ps => len'.beq len && bsliceOk P t sz zero len ps.toList parts
  | _ => false)
 | .load agg n a => (match o.op with
  | .load t y => tyOk P t agg n && opdOk y a
  | _ => false)
 | .store agg n a x => (match o.op with
  | .store t y z => szOk P t n && (agg || n.beq 1) && !n.beq 0 && opdOk y a && opdOk z x
  | _ => false)
 | .nilCheck x => (match o.op with
  | .nilCheck y => opdOk y x
  | _ => false)
 | .bin op e x y => (match o.op with
  | .binOp op' t x' y' _ => (op' == op) && opdOk x' x && opdOk y' y && eqkOk P e t
  | _ => false)
 | .un op x => (match o.op with
  | .unOp op' _ y => (op' == op) && opdOk y x
  | _ => false)
 | .mkIface t x => (match o.op with
  | .makeInterface t' y => t'.beq t && opdOk y x && (match P.underlying t with
   | some (.interface _) => false
   | some _ => true
   | none => false)
  | _ => false)
 | .mkFunc f first captured => (match o.op with
  | .makeFunc (.func f') a b => f'.beq f && opdsOk a.toList first && opdsOk b.toList captured
  | _ => false)
 | .mkMap _ => (match o.op with
  | .makeMap _ none => true
  | _ => false)
 | .mkSlice zero n => (match o.op with
  | .makeSlice t y z => opdOk y n && opdOk z n && elemOk P t zero
  | _ => false)
 | .sliceS x lo hi => (match o.op with
  | .slice t y l h none => opdOk y x && opdOOk l lo && opdOOk h hi && isStr P t
  | _ => false)
 | .slice sz x lo hi => (match o.op with
  | .slice t y l h none => opdOk y x && opdOOk l lo && opdOOk h hi && sliceOk P t sz
  | _ => false)
 | .fadd off x => (match o.op with
  | .fieldAddr t y i => fieldOk P t i off && opdOk y x
  | _ => false)
 | .idx sz x i => (match o.op with
  | .indexAddr t y z => sliceOk P t sz && !sz.beq 0 && opdOk y x && opdOk z i
  | _ => false)
 | .idxS x i => (match o.op with
  | .index t y z => opdOk y x && opdOk z i && isStr P t
  | _ => false)
 | .look1 kk zero m k => (match o.op with
  | .lookup t y z false => opdOk y m && opdOk z k && lookOk P t kk zero
  | _ => false)
 | .look2 kk zero m k => (match o.op with
  | .lookup t y z true => opdOk y m && opdOk z k && lookOk P t kk zero
  | _ => false)
 | .mapSet kk m k x => (match o.op with
  | .mapUpdate t y z u => opdOk y m && opdOk z k && opdOk u x && mapOk P t kk
  | .insert t y z u => opdOk y m && opdOk z k && opdOk u x && mapOk P t kk
  | _ => false)
 | .range x => (match o.op with
  | .range t y => opdOk y x && rangeOk P t
  | _ => false)
 | .next x => (match o.op with
  | .next y false => opdOk y x
  | _ => false)
 | .entry x => (match o.op with
  | .entry y => opdOk y x
  | _ => false)
 | .extr x i => (match o.op with
  | .extract y j => opdOk y x && j.beq i
  | _ => false)
 | .len kd x => (match o.op with
  | .call { callee := .builtin .len, args := ⟨[y]⟩, argTypes := ⟨[t]⟩ } => opdOk y x && lenOk P t kd
  | _ => false)
 | .app sz s x => (match o.op with
  | .call { callee := .builtin .append, args := ⟨[y, z]⟩, argTypes := ⟨[t, t']⟩ } => t'.beq t && opdOk y s && opdOk z x && elemOk P t (zeroOf P t) && (zeroOf P t).length.beq sz
  | _ => false)
 | .callP f args => (match o.op with
  | .call { callee := .value (.func f'), args := as, argTypes := _ } => f'.beq f && opdsOk as.toList args
  | _ => false)
 | .callV f args => (match o.op with
  | .call { callee := .value (.func f'), args := as, argTypes := _ } => f'.beq f && opdsOk as.toList args
  | _ => false)
 | .callS f args => (match o.op with
  | .call { callee := .value (.func f'), args := as, argTypes := _ } => f'.beq f && opdsOk as.toList args
  | _ => false)
 | .callD f args => (match o.op with
  | .call { callee := .value y, args := as, argTypes := _ } => opdOk y f && opdsOk as.toList args
  | _ => false)
 | .conv _ _ => false
 | .field _ _ _ _ => false

section
variable {ρ : Type} {P : Program} {Z : Base} {N : Nat} {w w' : World} {G G' : Gh} {lm : Nat → Option Nat} {env : Env} {loc : Loc} {σ σ' : Store} {a : Act}
 {k : Env → Loc → Store → Option ρ} {x : ρ} {K : Act → World → Prop} {Q : Exit → Act → World → Prop} {o : Oper} {D : Ctx}

theorem pos_of_nb {n : Nat} (h : (!n.beq 0) = true) : 0 < n := by
 rcases Nat.eq_zero_or_pos n with q | q
 ·subst q; simp at h
 ·exact q
theorem one_of {agg : Bool} {n : Nat} (h : (agg || n.beq 1) = true) : agg = false → n = 1 := fun e => by subst e; simpa using h

theorem op_sound (hcall : CallOK P Z.Gl D.call) (hG : D.G = Z.Gl) {r : ROp} (hr : opOk P o r = true) (S : St Z N w G lm env loc σ a) (C : Cont Z N k x G lm w a o.dst.toList K) (hd : ∀ t, o.dst = some t → t < N)
  (h : opK D o.dst r env loc σ k = some x) : o.wp P a w K Q := by
 cases r with
 | mv x0 =>
  simp only [opOk] at hr
  split at hr
  ·exact sound_mv S C hd (.inl (by assumption)) hr h
  ·exact sound_mv S C hd (.inr (by assumption)) hr h
  ·cases hr
 | pick c y z =>
  simp only [opOk] at hr
  split at hr
  ·simp only [Bae] at hr
   exact sound_pick S C hd (by assumption) hr.1.1 hr.1.2 hr.2 h
  ·cases hr
 | pickv c y z =>
  simp only [opOk] at hr
  split at hr
  ·simp only [Bae] at hr
   exact sound_pickv S C hd (by assumption) hr.1.1 hr.1.2 hr.2 h
  ·cases hr
 | zalloc zero =>
  simp only [opOk] at hr
  split at hr
  ·exact sound_zalloc S C hd (by assumption) hr h
  ·cases hr
 | halloc zero =>
  simp only [opOk] at hr
  split at hr
  ·exact sound_halloc S C hd (by assumption) hr h
  ·cases hr
 | pbox x0 =>
  simp only [opOk] at hr
  split at hr
  ·exact sound_pbox S C hd (by assumption) hr h
  ·cases hr
 | lbox agg n x0 =>
  simp only [opOk] at hr
  split at hr
  ·simp only [Bae] at hr
   exact sound_lbox S C hd (by assumption) hr.1.1 (one_of hr.1.2) (pos_of_nb hr.2) h
  ·cases hr
 | hbox agg n x0 =>
  simp only [opOk] at hr
  split at hr
  ·simp only [Bae] at hr
   exact sound_hbox S C hd (by assumption) hr.1.1 (one_of hr.1.2) (pos_of_nb hr.2) h
  ·cases hr
 | build zero parts =>
  simp only [opOk] at hr
  split at hr
  ·exact sound_build S C hd (by assumption) hr h
  ·cases hr
 | pslice sz zero len parts =>
  simp only [opOk] at hr
  split at hr
  ·simp only [Bae] at hr
   have e := Nat.eq_of_beq_eq_true hr.1
   subst e
   exact sound_pslice S C hd (by assumption) hr.2 h
  ·cases hr
 | hslice sz zero len parts =>
  simp only [opOk] at hr
  split at hr
  ·simp only [Bae] at hr
   have e := Nat.eq_of_beq_eq_true hr.1
   subst e
   exact sound_hslice S C hd (by assumption) hr.2 h
  ·cases hr
 | load agg n a0 =>
  simp only [opOk] at hr
  split at hr
  ·simp only [Bae] at hr
   exact sound_load S C hd hG (by assumption) hr.1 hr.2 h
  ·cases hr
 | store agg n a0 x0 =>
  simp only [opOk] at hr
  split at hr
  ·simp only [Bae] at hr
   exact sound_store S C hd (by assumption) hr.1.1.1.1 (one_of hr.1.1.1.2) (pos_of_nb hr.1.1.2) hr.1.2 hr.2 h
  ·cases hr
 | nilCheck x0 =>
  simp only [opOk] at hr
  split at hr
  ·exact sound_nilCheck S C hd (by assumption) hr h
  ·cases hr
 | bin op e x0 y0 =>
  simp only [opOk] at hr
  split at hr
  ·simp only [Bae] at hr
   rename_i op' _ _ _ _ _
   have e1 : op' = op := by simpa using hr.1.1.1
   subst e1
   exact sound_bin S C hd (by assumption) hr.1.1.2 hr.1.2 hr.2 h
  ·cases hr
 | un op x0 =>
  simp only [opOk] at hr
  split at hr
  ·simp only [Bae] at hr
   rename_i op' _ _ _
   have e1 : op' = op := by simpa using hr.1
   subst e1
   exact sound_un S C hd (by assumption) hr.2 h
  ·cases hr
 | mkIface t x0 =>
  simp only [opOk] at hr
  split at hr
  ·simp only [Bae] at hr
   have e := Nat.eq_of_beq_eq_true hr.1.1
   subst e
   exact sound_mkIface S C hd (by assumption) hr.1.2 hr.2 h
  ·cases hr
 | mkFunc f first captured =>
  simp only [opOk] at hr
  split at hr
  ·simp only [Bae] at hr
   have e := Nat.eq_of_beq_eq_true hr.1.1
   subst e
   exact sound_mkFunc S C hd (by assumption) hr.1.2 hr.2 h
  ·cases hr
 | mkMap kk =>
  simp only [opOk] at hr
  split at hr
  ·exact sound_mkMap S C hd (by assumption) h
  ·cases hr
 | mkSlice zero n =>
  simp only [opOk] at hr
  split at hr
  ·simp only [Bae] at hr
   exact sound_mkSlice S C hd (by assumption) hr.1.1 hr.1.2 hr.2 h
  ·cases hr
 | sliceS x0 lo hi =>
  simp only [opOk] at hr
  split at hr
  ·simp only [Bae] at hr
   exact sound_sliceS S C hd (by assumption) hr.1.1.1 hr.1.1.2 hr.1.2 hr.2 h
  ·cases hr
 | slice sz x0 lo hi =>
  simp only [opOk] at hr
  split at hr
  ·simp only [Bae] at hr
   exact sound_slice S C hd (by assumption) hr.1.1.1 hr.1.1.2 hr.1.2 hr.2 h
  ·cases hr
 | fadd off x0 =>
  simp only [opOk] at hr
  split at hr
  ·simp only [Bae] at hr
   exact sound_fadd S C hd (by assumption) hr.1 hr.2 h
  ·cases hr
 | idx sz x0 i =>
  simp only [opOk] at hr
  split at hr
  ·simp only [Bae] at hr
   exact sound_idx S C hd (by assumption) hr.1.1.1 (pos_of_nb hr.1.1.2) hr.1.2 hr.2 h
  ·cases hr
 | idxS x0 i =>
  simp only [opOk] at hr
  split at hr
  ·simp only [Bae] at hr
   exact sound_idxS S C hd (by assumption) hr.1.1 hr.1.2 hr.2 h
  ·cases hr
 | look1 kk zero m q =>
  simp only [opOk] at hr
  split at hr
  ·simp only [Bae] at hr
   exact sound_look1 S C hd (by assumption) hr.1.1 hr.1.2 hr.2 h
  ·cases hr
 | look2 kk zero m q =>
  simp only [opOk] at hr
  split at hr
  ·simp only [Bae] at hr
   exact sound_look2 S C hd (by assumption) hr.1.1 hr.1.2 hr.2 h
  ·cases hr
 | mapSet kk m q x0 =>
  simp only [opOk] at hr
  split at hr
  ·simp only [Bae] at hr
   exact sound_mapSet S C hd (.inl (by assumption)) hr.1.1.1 hr.1.1.2 hr.1.2 hr.2 h
  ·simp only [Bae] at hr
   exact sound_mapSet S C hd (.inr (by assumption)) hr.1.1.1 hr.1.1.2 hr.1.2 hr.2 h
  ·cases hr
 | range x0 =>
  simp only [opOk] at hr
  split at hr
  ·simp only [Bae] at hr
   exact sound_range S C hd (by assumption) hr.1 hr.2 h
  ·cases hr
 | next x0 =>
  simp only [opOk] at hr
  split at hr
  ·exact sound_next S C hd (by assumption) hr h
  ·cases hr
 | entry x0 =>
  simp only [opOk] at hr
  split at hr
  ·exact sound_entry S C hd (by assumption) hr h
  ·cases hr
 | extr x0 i =>
  simp only [opOk] at hr
  split at hr
  ·simp only [Bae] at hr
   have e := Nat.eq_of_beq_eq_true hr.2
   subst e
   exact sound_extr S C hd (by assumption) hr.1 h
  ·cases hr
 | len kd x0 =>
  simp only [opOk] at hr
  split at hr
  ·simp only [Bae] at hr
   exact sound_len S C hd (by assumption) hr.1 hr.2 h
  ·cases hr
 | app sz s x0 =>
  simp only [opOk] at hr
  split at hr
  ·simp only [Bae] at hr
   have e := Nat.eq_of_beq_eq_true hr.1.1.1.1
   subst e
   have e2 := Nat.eq_of_beq_eq_true hr.2
   subst e2
   exact sound_app S C hd (by assumption) hr.1.1.1.2 hr.1.1.2 hr.1.2 h
  ·cases hr
 | callP f args =>
  simp only [opOk] at hr
  split at hr
  ·simp only [Bae] at hr
   have e := Nat.eq_of_beq_eq_true hr.1
   subst e
   exact sound_callP hcall S C hd (by assumption) hr.2 h
  ·cases hr
 | callV f args =>
  simp only [opOk] at hr
  split at hr
  ·simp only [Bae] at hr
   have e := Nat.eq_of_beq_eq_true hr.1
   subst e
   exact sound_callV hcall S C hd (by assumption) hr.2 h
  ·cases hr
 | callS f args =>
  simp only [opOk] at hr
  split at hr
  ·simp only [Bae] at hr
   have e := Nat.eq_of_beq_eq_true hr.1
   subst e
   exact sound_callS hcall S C hd (by assumption) hr.2 h
  ·cases hr
 | callD f args =>
  simp only [opOk] at hr
  split at hr
  ·simp only [Bae] at hr
   exact sound_callD hcall S C hd (by assumption) hr.1 hr.2 h
  ·cases hr
 | conv c x0 => cases hr
 | field b i n x0 => cases hr
end
end Go.Asm
/- Regions in the order of their text. -/
namespace Go.Asm

def gidx (ops : Array Oper) (o : Oper) (g : Nat) (w : Bool) : Bool :=
 match o.guard with
 | some (j, w') => (match (ops[j]?).bind (·.dst) with
  | some d => d.beq g
  | none => false) && w' == w
 | none => false
def dOk (N : Nat) (o : Oper) (d : Option Nat) : Bool :=
 match o.dst, d with
 | none, none => true
 | some a, some b => a.beq b && (a + 1).ble N
 | _, _ => false
def locFreeOp : ROp → Bool
 | .zalloc _ => false
 | .lbox _ _ _ => false
 | .store _ _ _ _ => false
 | _ => true
def locFree : RT → Bool
 | .done => true
 | .op _ r rest => locFreeOp r && locFree rest
 | .gop _ _ _ r rest => locFreeOp r && locFree rest
 | .freeze _ _ => false
 | .dia _ inner _ _ _ _ _ rest => locFree inner && locFree rest
def skipOk (ops : Array Oper) : List Nat → Nat → Nat → Bool
 | _, _, 0 => true
 | gs, i, n + 1 => match ops[i]? with
  | some o => (match o.guard with
   | some (j, _) => (match (ops[j]?).bind (·.dst) with
    | some t => memN t gs
    | none => false)
   | none => false) && skipOk ops (o.dst.toList ++ gs) (i + 1) n
  | none => false
def pickOk (o : Oper) (c a b : Opd) : Bool :=
 match o.op with
 | .pick c' a' b' => opdOk c' c && opdOk a' a && opdOk b' b
 | _ => false
def ogOk (ops : Array Oper) (o : Oper) (g i n : Nat) (w : List Nat) : Option (Nat × Bool) → Bool
 | none => o.guard.isNone
 | some (gg, ww) => gidx ops o gg ww && skipOk ops [g] i n && !memN gg w
def rtOk (P : Program) (N : Nat) (ops : Array Oper) : RT → Nat → Option Nat
 | .done, i => some i
 | .op d r rest, i => match ops[i]? with
  | some o => bif o.guard.isNone && dOk N o d && opOk P o r then rtOk P N ops rest (i + 1) else none
  | none => none
 | .gop g w d r rest, i => match ops[i]? with
  | some o => bif gidx ops o g w && dOk N o d && opOk P o r then rtOk P N ops rest (i + 1) else none
  | none => none
 | .freeze _ rest, i => rtOk P N ops rest i
 | .dia g inner d c a b og rest, i => match rtOk P N ops inner i with
  | some i' => match ops[i']? with
   | some o => bif pickOk o c a b && dOk N o (some d) && locFree inner && i.ble i' && ogOk ops o g i (i' - i) inner.writes og then rtOk P N ops rest (i' + 1) else none
   | none => none
  | none => none

section
variable {ρ : Type} {P : Program} {Z : Base} {N : Nat} {w w' : World} {G G' : Gh} {lm lm' : Nat → Option Nat} {env : Env} {loc : Loc} {σ σ' : Store} {a a' : Act}
 {k : Env → Loc → Store → Option ρ} {x : ρ} {K : Act → World → Prop} {Q : Exit → Act → World → Prop} {o : Oper} {D : Ctx} {ops : Array Oper}

theorem memN_iff {t : Nat} {l : List Nat} : memN t l = true ↔ t ∈ l := by
 induction l with
 | nil => simp [memN]
 | cons x l ih =>
  simp only [memN, Boe, ih, List.mem_cons]
  constructor
  ·rintro (h | h)
   ·exact .inl (Nat.eq_of_beq_eq_true h).symm
   ·exact .inr h
  ·rintro (h | h)
   ·subst h; exact .inl (beq_self _)
   ·exact .inr h

theorem Cont.step {W W1 W2 : List Nat} (C : Cont Z N k x G lm w a W K) (le : Le w.heap w'.heap G G') (hlm : ∀ s, s ∉ W1 → lm' s = lm s) (htm : ∀ t, t ∉ W1 → a'.tmps.getD t undef = a.tmps.getD t undef)
  (h1 : ∀ t, t ∈ W1 → t ∈ W) (h2 : ∀ t, t ∈ W2 → t ∈ W) : Cont Z N k x G' lm' w' a' W2 K := fun env' loc' σ' G2 lm2 w2 a2 hk S le2 hl2 ht2 =>
 C env' loc' σ' G2 lm2 w2 a2 hk S (le.trans le2) (fun s hs => (hl2 s fun h => hs (h2 s h)).trans (hlm s fun h => hs (h1 s h))) (fun t ht => (ht2 t fun h => ht (h2 t h)).trans (htm t fun h => ht (h1 t h)))

theorem St.skip (S : St Z N w G lm env loc σ a) {d : Option Nat} (hd : ∀ t, d = some t → t < N) : St Z N w G lm (Go.Asm.put env d (Ent.v (.tuple []))) loc σ (a.put d Go.undef) :=
 St.put S S.hi (.refl _ _) hd (e := .v (.tuple [])) undef_rel

theorem put_other {d : Option Nat} {c : Value} (hd : ∀ t, d = some t → t < a.tmps.size) : ∀ t, t ∉ d.toList → (a.put d c).tmps.getD t undef = a.tmps.getD t undef := by
 intro t ht
 cases d with
 | none => rfl
 | some d =>
  have hne : d ≠ t := fun e => ht (by simp [e])
  rw [getD_put (hd d rfl), if_neg hne]

theorem dOk_inv {d : Option Nat} (h : dOk N o d = true) : o.dst = d ∧ ∀ t, o.dst = some t → t < N := by
 unfold dOk at h
 split at h
 ·rename_i h1
  exact ⟨h1, fun t ht => by rw [h1] at ht; cases ht⟩
 ·rename_i h1
  simp only [Bae] at h
  have e := Nat.eq_of_beq_eq_true h.1
  subst e
  exact ⟨h1, fun t ht => by rw [h1] at ht; cases ht; exact Nat.le_of_ble_eq_true h.2⟩
 ·cases h

def from_ (ops : Array Oper) (i : Nat) : List Nat := List.range' i (ops.size - i)
theorem from_cons {i : Nat} {o : Oper} (h : ops[i]? = some o) : from_ ops i = i :: from_ ops (i + 1) := by
 have hlt := (Array.getElem?_eq_some_iff.1 h).1
 unfold from_
 rw [show ops.size - i = (ops.size - (i + 1)) + 1 by omega, List.range'_succ]

theorem wpOps_wanted {i : Nat} (h : ops[i]? = some o) (hw : Region.wanted o (yielded ops a.tmps) = true) (hh : o.wp P a w (fun a' w' => wpOps P ops Q (from_ ops (i + 1)) a' w') Q) : wpOps P ops Q (from_ ops i) a w := by
 rw [from_cons h]
 simp only [wpOps, h, hw, if_true]
 exact .inl hh
theorem wpOps_skip {i : Nat} (h : ops[i]? = some o) (hw : Region.wanted o (yielded ops a.tmps) = false) (hh : wpOps P ops Q (from_ ops (i + 1)) (a.put o.dst undef) w) : wpOps P ops Q (from_ ops i) a w := by
 rw [from_cons h]
 simp only [wpOps, h, hw, Bft, if_false]
 exact hh

theorem wanted_none (h : o.guard.isNone = true) {y : Nat → Option Bool} : Region.wanted o y = true := by
 unfold Region.wanted
 cases hg : o.guard with
 | none => rfl
 | some p => rw [hg] at h; cases h

theorem getD_lt {t : Nat} {c : Value} (h : a.tmps.getD t undef = c) (hc : c ≠ undef) : a.tmps[t]? = some c := by
 rw [Array.getD_eq_getD_getElem?] at h
 cases e : a.tmps[t]? with
 | none => rw [e] at h; exact absurd h.symm hc
 | some v => rw [e] at h; simpa using h

/-- Whether an operation with a guard is carried out. -/
theorem wanted_bool {g : Nat} {wd b : Bool} (hg : gidx ops o g wd = true) (ht : a.tmps.getD g undef = .bool b) : Region.wanted o (yielded ops a.tmps) = (b == wd) := by
 unfold gidx at hg
 split at hg
 ·rename_i j w' hgd
  simp only [Bae] at hg
  obtain ⟨h1, h2⟩ := hg
  split at h1
  ·rename_i d hd
   have e := Nat.eq_of_beq_eq_true h1
   subst e
   have e2 : w' = wd := by simpa using h2
   subst e2
   have := getD_lt ht (by simp [undef])
   simp only [Region.wanted, hgd, yielded, hd, Obs, this]
   cases b <;> cases w' <;> rfl
  ·cases h1
 ·cases hg
theorem wanted_undef' {t : Nat} {j : Nat} {wd : Bool} (hg : o.guard = some (j, wd)) (hj : (ops[j]?).bind (·.dst) = some t) (ht : a.tmps.getD t undef = undef) : Region.wanted o (yielded ops a.tmps) = false := by
 simp only [Region.wanted, hg, yielded, hj, Obs]
 cases e : a.tmps[t]? with
 | none => rfl
 | some v =>
  have : v = undef := by rw [Array.getD_eq_getD_getElem?, e] at ht; simpa using ht
  subst this
  rfl
theorem wanted_undef {g : Nat} {wd : Bool} (hg : gidx ops o g wd = true) (ht : a.tmps.getD g undef = undef) : Region.wanted o (yielded ops a.tmps) = false := by
 unfold gidx at hg
 split at hg
 ·rename_i j w' hgd
  simp only [Bae] at hg
  obtain ⟨h1, h2⟩ := hg
  split at h1
  ·rename_i d hd
   have e := Nat.eq_of_beq_eq_true h1
   subst e
   exact wanted_undef' hgd hd ht
  ·cases h1
 ·cases hg

theorem VRel.unit_inv {h : Array Obj} {c : Value} (r : VRel h G (.tuple []) c) : c = Go.undef := by
 cases r with
 | tuple h1 h2 =>
  rename_i arr
  have : arr = #[] := Array.eq_empty_of_size_eq_zero (by simpa using h1.symm)
  subst this
  rfl

/-- A row of guarded operations none of which is carried out. -/
theorem skip_all : ∀ (n i : Nat) (gs : List Nat) (a : Act), skipOk ops gs i n = true → (∀ t, t ∈ gs → a.tmps.getD t undef = undef) →
  (∀ a' : Act, a'.tmps.size = a.tmps.size → a'.defers = a.defers → (∀ t, a'.tmps.getD t undef = a.tmps.getD t undef ∨ (∃ j o, i ≤ j ∧ j < i + n ∧ ops[j]? = some o ∧ o.dst = some t)) → (∀ t, t ∈ gs → a'.tmps.getD t undef = undef) → wpOps P ops Q (from_ ops (i + n)) a' w) →
  wpOps P ops Q (from_ ops i) a w
 | 0, i, gs, a, _, hu, h => h a rfl rfl (fun t => .inl rfl) hu
 | n + 1, i, gs, a, hs, hu, h => by
  simp only [skipOk] at hs
  split at hs
  ·rename_i o ho
   simp only [Bae] at hs
   obtain ⟨h1, h2⟩ := hs
   split at h1
   ·rename_i j wd hg
    split at h1
    ·rename_i t ht
     have hmem := memN_iff.1 h1
     refine wpOps_skip ho (wanted_undef' hg ht (hu t hmem)) ?_
     have hput : ∀ u, u ∈ o.dst.toList ++ gs → (a.put o.dst undef).tmps.getD u undef = undef := by
      intro u hm
      cases hd : o.dst with
      | none => rw [hd] at hm; exact hu u (by simpa using hm)
      | some d =>
       rw [hd] at hm
       by_cases hdl : d < a.tmps.size
       ·rw [getD_put hdl]
        split
        ·rfl
        ·rename_i hne
         refine hu u ?_
         rcases List.mem_append.1 hm with q | q
         ·simp at q; exact absurd q.symm hne
         ·exact q
       ·have e1 : (a.put (some d) undef).tmps = a.tmps := by simp only [Act.put]; exact Array.setIfInBounds_eq_of_size_le (Nat.not_lt.1 hdl)
        rw [e1]
        rcases List.mem_append.1 hm with q | q
        ·simp at q; subst q
         rw [Array.getD_eq_getD_getElem?, Array.getElem?_eq_none (Nat.not_lt.1 hdl)]; rfl
        ·exact hu u q
     refine skip_all n (i + 1) (o.dst.toList ++ gs) (a.put o.dst undef) h2 hput (fun a' e1 e2 e3 e4 => ?_)
     rw [show i + 1 + n = i + (n + 1) by omega]
     refine h a' (by rw [e1, put_size]) (by rw [e2, put_defers]) (fun u => ?_) (fun u hm => e4 u (List.mem_append_right _ hm))
     rcases e3 u with q | ⟨j, o', q1, q2, q3, q4⟩
     ·by_cases hdu : o.dst = some u
      ·exact .inr ⟨i, o, Nat.le_refl _, by omega, ho, hdu⟩
      ·left
       rw [q]
       cases hd : o.dst with
       | none => rfl
       | some d =>
        rw [hd] at hdu
        have hne : d ≠ u := fun e => hdu (by rw [e])
        simp only [Act.put, Array.getD_eq_getD_getElem?, Array.getElem?_setIfInBounds_ne hne]
     ·exact .inr ⟨j, o', by omega, by omega, q3, q4⟩
    ·cases h1
   ·cases h1
  ·cases hs

/-! #### what the rest of an environment comes to -/
theorem get_purge (W : List Nat) (env : Env) (t : Nat) : (purge W env).get t = if t ∈ W then .v .undef else purgeE W (env.get t) := by
 induction env with
 | nil => simp [purge, Env.get_nil, purgeE]
 | cons p r ih =>
  obtain ⟨kk, e⟩ := p
  simp only [purge]
  cases hm : memN kk W with
  | true =>
   have := memN_iff.1 hm
   simp only [cond_true]
   rw [ih, Env.get_cons]
   by_cases h : kk = t
   ·subst h; rw [if_pos this, if_pos this]
   ·rw [if_neg h]
  | false =>
   have hn : kk ∉ W := fun h => by rw [memN_iff.2 h] at hm; cases hm
   simp only [cond_false]
   rw [Env.get_cons, ih, Env.get_cons]
   by_cases h : kk = t
   ·subst h; rw [if_pos rfl, if_pos rfl, if_neg hn]
   ·rw [if_neg h, if_neg h]

theorem get_freezeEnv (s : Nat) (cs : List AV) (env : Env) (t : Nat) : (freezeEnv s cs env).get t = freezeE s cs (env.get t) := by
 induction env with
 | nil => rfl
 | cons p r ih =>
  obtain ⟨kk, e⟩ := p
  simp only [freezeEnv]
  rw [Env.get_cons, ih, Env.get_cons]
  by_cases h : kk = t
  ·rw [if_pos h, if_pos h]
  ·rw [if_neg h, if_neg h]

/-- A state after which only W has turned: what an older environment still says. -/
theorem St.purge (S : St Z N w G lm env loc σ a) (H' : HI Z w' G' lm' loc σ') (le : Le w.heap w'.heap G G') {W : List Nat} (hlm : ∀ s, s ∉ W → lm' s = lm s)
  (htm : ∀ t, t ∉ W → a'.tmps.getD t undef = a.tmps.getD t undef) (hdf : a'.defers = []) (hnt : N ≤ a'.tmps.size) : St Z N w' G' lm' (Go.Asm.purge W env) loc σ' a' := by
 refine ⟨H', fun t => ?_, hdf, hnt⟩
 rw [get_purge]
 split
 ·exact VRel.undef
 ·rename_i ht
  rw [htm t ht]
  have her := S.er t
  cases he : env.get t with
  | v v => rw [he] at her; exact VRel.mono le her
  | l s o =>
   rw [he] at her
   simp only [purgeE]
   cases hm : memN s W with
   | true => exact VRel.undef
   | false =>
    have hn : s ∉ W := fun h => by rw [memN_iff.2 h] at hm; cases hm
    intro g hg
    rw [hlm s hn] at hg
    exact her g hg

theorem opK_congr {r : ROp} (hr : locFreeOp r = true) {d : Option Nat} {k k2 : Env → Loc → Store → Option ρ} (h : ∀ env σ, k env loc σ = k2 env loc σ) : opK D d r env loc σ k = opK D d r env loc σ k2 := by
 cases r <;> first
  | (simp [locFreeOp] at hr; done)
  | (simp only [opK, h])
theorem rtK_congr : ∀ (rt : RT) (env : Env) (σ : Store) (k k2 : Kn), locFree rt = true → (∀ env σ, k env loc σ = k2 env loc σ) → rtK D rt env loc σ k = rtK D rt env loc σ k2
 | .done, env, σ, k, k2, _, h => h env σ
 | .op d r rest, env, σ, k, k2, hf, h => by
  simp only [locFree, Bae] at hf
  simp only [rtK]
  exact opK_congr hf.1 fun env σ => rtK_congr rest env σ k k2 hf.2 h
 | .gop g wd d r rest, env, σ, k, k2, hf, h => by
  simp only [locFree, Bae] at hf
  have h1 : ∀ env σ, rtK D rest env loc σ k = rtK D rest env loc σ k2 := fun env σ => rtK_congr rest env σ k k2 hf.2 h
  simp only [rtK, h1, opK_congr hf.1 (k := fun env loc σ => rtK D rest env loc σ k) (k2 := fun env loc σ => rtK D rest env loc σ k2) h1]
 | .freeze s rest, env, σ, k, k2, hf, h => by cases hf
 | .dia g inner d c a b og rest, env, σ, k, k2, hf, h => by
  simp only [locFree, Bae] at hf
  have h1 : ∀ env σ, rtK D rest env loc σ k = rtK D rest env loc σ k2 := fun env σ => rtK_congr rest env σ k k2 hf.2 h
  simp only [rtK, h1]
end
end Go.Asm
/- Regions in the order of their text: soundness. -/
namespace Go.Asm
section
variable {ρ : Type} {P : Program} {Z : Base} {N : Nat} {w w' : World} {G G' : Gh} {lm lm' : Nat → Option Nat} {env : Env} {loc : Loc} {σ σ' : Store} {a a' : Act}
 {x : AV × Store} {Q : Exit → Act → World → Prop} {o : Oper} {D : Ctx} {ops : Array Oper}

theorem rtOk_dsts : ∀ (rt : RT) (i i' : Nat), rtOk P N ops rt i = some i' → ∀ j o t, i ≤ j → j < i' → ops[j]? = some o → o.dst = some t → t ∈ rt.writes
 | .done, i, i', h, j, o, t, h1, h2, _, _ => by cases h; omega
 | .op d r rest, i, i', h, j, o, t, h1, h2, h3, h4 => by
  simp only [rtOk] at h
  split at h
  ·rename_i o' ho
   cases hb : (o'.guard.isNone && dOk N o' d && opOk P o' r) with
   | false => rw [hb] at h; cases h
   | true =>
    rw [hb] at h
    simp only [Bae] at hb
    simp only [RT.writes, List.mem_append]
    by_cases e : j = i
    ·subst e
     rw [ho] at h3; cases h3
     left
     rw [← (dOk_inv hb.1.2).1, h4]; simp
    ·exact .inr (rtOk_dsts rest (i + 1) i' h j o t (by omega) h2 h3 h4)
  ·cases h
 | .gop g wd d r rest, i, i', h, j, o, t, h1, h2, h3, h4 => by
  simp only [rtOk] at h
  split at h
  ·rename_i o' ho
   cases hb : (gidx ops o' g wd && dOk N o' d && opOk P o' r) with
   | false => rw [hb] at h; cases h
   | true =>
    rw [hb] at h
    simp only [Bae] at hb
    simp only [RT.writes, List.mem_append]
    by_cases e : j = i
    ·subst e
     rw [ho] at h3; cases h3
     left
     rw [← (dOk_inv hb.1.2).1, h4]; simp
    ·exact .inr (rtOk_dsts rest (i + 1) i' h j o t (by omega) h2 h3 h4)
  ·cases h
 | .freeze s rest, i, i', h, j, o, t, h1, h2, h3, h4 => rtOk_dsts rest i i' h j o t h1 h2 h3 h4
 | .dia g inner d c p q og rest, i, i', h, j, o, t, h1, h2, h3, h4 => by
  simp only [rtOk] at h
  split at h
  ·rename_i i1 hi
   split at h
   ·rename_i o' ho
    cases hb : (pickOk o' c p q && dOk N o' (some d) && locFree inner && i.ble i1 && ogOk ops o' g i (i1 - i) inner.writes og) with
    | false => rw [hb] at h; cases h
    | true =>
     rw [hb] at h
     simp only [Bae] at hb
     simp only [RT.writes, List.mem_cons, List.mem_append]
     by_cases e1 : j < i1
     ·exact .inr (.inl (rtOk_dsts inner i i1 hi j o t h1 e1 h3 h4))
     ·by_cases e : j = i1
      ·subst e
       rw [ho] at h3; cases h3
       left
       have := (dOk_inv hb.1.1.1.2).1
       rw [h4] at this
       cases this; rfl
      ·exact .inr (.inr (rtOk_dsts rest (i1 + 1) i' h j o t (by omega) h2 h3 h4))
   ·cases h
  ·cases h

/-- What a bound entry says, laid ahead of an environment. -/
theorem St.cons (S : St Z N w G lm env loc σ a) {d : Nat} {v : AV} (hv : VRel w.heap G v (a.tmps.getD d undef)) : St Z N w G lm ((d, .v v) :: env) loc σ a := by
 refine ⟨S.hi, fun t => ?_, S.df, S.nt⟩
 rw [Env.get_cons]
 by_cases h : d = t
 ·subst h; rw [if_pos rfl]; exact hv
 ·rw [if_neg h]; exact S.er t

open Classical in
theorem rt_sound (hcall : CallOK P Z.Gl D.call) (hG : D.G = Z.Gl) : ∀ (rt : RT) (i i' : Nat) (env : Env) (loc : Loc) (σ : Store) (k : Kn) (G : Gh) (lm : Nat → Option Nat) (w : World) (a : Act),
  rtOk P N ops rt i = some i' → rtK D rt env loc σ k = some x → St Z N w G lm env loc σ a →
  Cont Z N k x G lm w a rt.writes (fun a' w' => wpOps P ops Q (from_ ops i') a' w') → wpOps P ops Q (from_ ops i) a w
 | .done, i, i', env, loc, σ, k, G, lm, w, a, h, hk, S, C => by
  cases h
  exact C env loc σ G lm w a hk S (.refl _ _) (fun _ _ => rfl) (fun _ _ => rfl)
 | .op d r rest, i, i', env, loc, σ, k, G, lm, w, a, h, hk, S, C => by
  simp only [rtOk] at h
  split at h
  ·rename_i o ho
   cases hb : (o.guard.isNone && dOk N o d && opOk P o r) with
   | false => rw [hb] at h; cases h
   | true =>
    rw [hb] at h
    simp only [cond_true] at h
    simp only [Bae] at hb
    obtain ⟨hd1, hd2⟩ := dOk_inv hb.1.2
    refine wpOps_wanted ho (wanted_none hb.1.1) ?_
    simp only [rtK] at hk
    rw [← hd1] at hk
    refine op_sound hcall hG hb.2 S (fun env' loc' σ' G' lm' w' a' hk' S' le hlm htm => ?_) hd2 hk
    exact rt_sound hcall hG rest (i + 1) i' env' loc' σ' k G' lm' w' a' h hk' S' (C.step le hlm htm (fun t ht => by simp only [RT.writes, List.mem_append]; rw [hd1] at ht; exact .inl ht) (fun t ht => by simp only [RT.writes, List.mem_append]; exact .inr ht))
  ·cases h
 | .gop g wd d r rest, i, i', env, loc, σ, k, G, lm, w, a, h, hk, S, C => by
  simp only [rtOk] at h
  split at h
  ·rename_i o ho
   cases hb : (gidx ops o g wd && dOk N o d && opOk P o r) with
   | false => rw [hb] at h; cases h
   | true =>
    rw [hb] at h
    simp only [cond_true] at h
    simp only [Bae] at hb
    obtain ⟨hd1, hd2⟩ := dOk_inv hb.1.2
    have skip : rtK D rest (put env d (.v (.tuple []))) loc σ k = some x → wpOps P ops Q (from_ ops (i + 1)) (a.put o.dst undef) w := fun hk' => by
     rw [← hd1] at hk'
     exact rt_sound hcall hG rest (i + 1) i' _ loc σ k G lm w _ h hk' (S.skip hd2) (C.step (.refl _ _) (fun _ _ => rfl) (put_other fun t ht => Nat.lt_of_lt_of_le (hd2 t ht) S.nt)
      (fun t ht => by simp only [RT.writes, List.mem_append]; rw [hd1] at ht; exact .inl ht) (fun t ht => by simp only [RT.writes, List.mem_append]; exact .inr ht))
    simp only [rtK] at hk
    split at hk
    ·rename_i b hg
     have htmp : a.tmps.getD g undef = .bool b := (S.val hg).bool_inv
     have hw := wanted_bool (o := o) hb.1.1 htmp
     cases hbw : (b == wd) with
     | true =>
      rw [hbw] at hk hw
      simp only [cond_true] at hk
      rw [← hd1] at hk
      refine wpOps_wanted ho hw ?_
      refine op_sound hcall hG hb.2 S (fun env' loc' σ' G' lm' w' a' hk' S' le hlm htm => ?_) hd2 hk
      exact rt_sound hcall hG rest (i + 1) i' env' loc' σ' k G' lm' w' a' h hk' S' (C.step le hlm htm (fun t ht => by simp only [RT.writes, List.mem_append]; rw [hd1] at ht; exact .inl ht) (fun t ht => by simp only [RT.writes, List.mem_append]; exact .inr ht))
     | false =>
      rw [hbw] at hk hw
      exact wpOps_skip ho hw (skip hk)
    ·rename_i hg
     have htmp : a.tmps.getD g undef = undef := (S.val hg).unit_inv
     exact wpOps_skip ho (wanted_undef hb.1.1 htmp) (skip hk)
    ·cases hk
  ·cases h
 | .freeze s rest, i, i', env, loc, σ, k, G, lm, w, a, h, hk, S, C => by
  simp only [rtK] at hk
  split at hk
  ·rename_i n cs hl
   obtain ⟨hlen, g, hg, hfz, hbr⟩ := S.hi.lrel s n cs hl
   obtain ⟨H', le⟩ := S.hi.freeze hl hg (loc.drop1 s) (fun t e he => by
    have hne : t ≠ s := fun q => by subst q; rw [Loc.get_drop1_self] at he; cases he
    rw [Loc.get_drop1 _ _ _ (Ne.symm hne)] at he
    exact ⟨hne, he⟩)
   obtain ⟨arr, elem, b1, b2, b3, b4, b5⟩ := hbr
   refine rt_sound hcall hG rest i i' _ _ σ k _ lm w a h hk ⟨H', fun t => ?_, S.df, S.nt⟩ (C.step le (W1 := []) (fun _ _ => rfl) (fun _ _ => rfl) (fun t ht => by cases ht) (fun t ht => ht))
   rw [get_freezeEnv]
   have her := S.er t
   cases he : env.get t with
   | v v => rw [he] at her; exact VRel.mono le her
   | l s' o' =>
    rw [he] at her
    simp only [freezeE]
    cases hs : s'.beq s with
    | false => exact her
    | true =>
     have e := Nat.eq_of_beq_eq_true hs
     subst e
     rw [her g hg]
     refine VRel.pptr _ (fun j => arr.toList.getD (o' + j) undef) (.inr rfl) (fun j v hj => ?_) (fun j v hj => ?_)
     ·obtain ⟨c, c1, _⟩ := b5 _ _ hj
      rw [← Array.getElem?_toList] at c1
      rw [add_mk, cellOf_mk b1, ← Array.getElem?_toList, c1, List.getD_eq_getElem?_getD, c1]
      exact ⟨rfl, b4.get c1⟩
     ·obtain ⟨c, c1, c2⟩ := b5 _ _ hj
      rw [← Array.getElem?_toList] at c1
      rw [List.getD_eq_getElem?_getD, c1]
      exact c2.mono le
  ·cases hk
 | .dia g inner d c p q og rest, i, i', env, loc, σ, k, G, lm, w, a, h, hk, S, C => by
  simp only [rtOk] at h
  split at h
  ·rename_i i1 hi
   split at h
   ·rename_i o ho
    cases hb : (pickOk o c p q && dOk N o (some d) && locFree inner && i.ble i1 && ogOk ops o g i (i1 - i) inner.writes og) with
    | false => rw [hb] at h; cases h
    | true =>
     rw [hb] at h
     simp only [cond_true] at h
     simp only [Bae] at hb
     obtain ⟨⟨⟨⟨hpick, hdok⟩, hfree⟩, hle⟩, hog⟩ := hb
     obtain ⟨hd1, hd2⟩ := dOk_inv hdok
     have hle := Nat.le_of_ble_eq_true hle
     have hW1 : ∀ t, t ∈ d :: inner.writes → t ∈ (RT.dia g inner d c p q og rest).writes := fun t ht => by
      simp only [RT.writes, List.mem_cons, List.mem_append] at ht ⊢
      rcases ht with h | h
      ·exact .inl h
      ·exact .inr (.inl h)
     have hW2 : ∀ t, t ∈ rest.writes → t ∈ (RT.dia g inner d c p q og rest).writes := fun t ht => by
      simp only [RT.writes, List.mem_cons, List.mem_append]
      exact .inr (.inr ht)
     simp only [rtK] at hk
     split at hk
     ·cases hk
     ·-- the diamond is passed by
      rename_i hogo
      split at hk
      ·rename_i hgt
       cases og with
       | none => cases hogo
       | some gw =>
       obtain ⟨gg, ww⟩ := gw
       simp only [ogOk, Bae] at hog
       obtain ⟨⟨hgx, hskip⟩, hnw⟩ := hog
       have hgu : a.tmps.getD g undef = undef := (S.val hgt).unit_inv
       refine skip_all (i1 - i) i [g] a hskip (fun t ht => by simp at ht; subst ht; exact hgu) (fun a' e1 e2 e3 _ => ?_)
       rw [show i + (i1 - i) = i1 by omega]
       have hsame : ∀ t, t ∉ inner.writes → a'.tmps.getD t undef = a.tmps.getD t undef := fun t ht => by
        rcases e3 t with h | ⟨j, o', q1, q2, q3, q4⟩
        ·exact h
        ·exact absurd (rtOk_dsts inner i i1 hi j o' t q1 (by omega) q3 q4) ht
       have hggw : gg ∉ inner.writes := fun h => by rw [memN_iff.2 h] at hnw; cases hnw
       have hskip2 : Region.wanted o (yielded ops a'.tmps) = false := by
        simp only [ogo] at hogo
        split at hogo
        ·rename_i b hb
         have hbw : (b == ww) = false := by simpa using hogo
         rw [wanted_bool hgx (by rw [hsame gg hggw]; exact (S.val hb).bool_inv), hbw]
        ·rename_i hb
         exact wanted_undef hgx (by rw [hsame gg hggw]; exact (S.val hb).unit_inv)
        ·cases hogo
       refine wpOps_skip ho hskip2 ?_
       have hnt : N ≤ a'.tmps.size := by rw [e1]; exact S.nt
       have hdlt : d < a'.tmps.size := Nat.lt_of_lt_of_le (hd2 d hd1) hnt
       rw [hd1]
       have htm2 : ∀ t, t ∉ d :: inner.writes → (a'.put (some d) undef).tmps.getD t undef = a.tmps.getD t undef := fun t ht => by
        have hne : d ≠ t := fun e => ht (by simp [e])
        rw [getD_put hdlt, if_neg hne]
        exact hsame t fun h => ht (List.mem_cons_of_mem _ h)
       have S2 := St.purge (W := d :: inner.writes) (a' := a'.put (some d) undef) S S.hi (.refl _ _) (fun _ _ => rfl) htm2 (by rw [put_defers, e2]; exact S.df) (by rw [put_size]; exact hnt)
       have S3 := S2.cons (d := d) (v := .tuple []) (by rw [getD_put hdlt, if_pos rfl]; exact undef_rel)
       exact rt_sound hcall hG rest (i1 + 1) i' _ loc σ k G lm w _ h hk S3 (C.step (.refl _ _) (fun _ _ => rfl) htm2 hW1 hW2)
      ·cases hk
     ·-- the diamond is taken
      rename_i hogo
      simp only [jn] at hk
      obtain ⟨xg, hxg, hk⟩ := val_some hk
      simp only [ent] at hxg
      have hwant : ∀ a' : Act, (∀ t, t ∉ inner.writes → a'.tmps.getD t undef = a.tmps.getD t undef) → Region.wanted o (yielded ops a'.tmps) = true := fun a' hsame => by
       cases og with
       | none => exact wanted_none hog
       | some gw =>
        obtain ⟨gg, ww⟩ := gw
        simp only [ogOk, Bae] at hog
        obtain ⟨⟨hgx, _⟩, hnw⟩ := hog
        have hggw : gg ∉ inner.writes := fun h => by rw [memN_iff.2 h] at hnw; cases hnw
        simp only [ogo] at hogo
        split at hogo
        ·rename_i b hb
         have hbw : (b == ww) = true := by simpa using hogo
         rw [wanted_bool hgx (by rw [hsame gg hggw]; exact (S.val hb).bool_inv), hbw]
        ·cases hogo
        ·cases hogo
      have main : ∀ b : Bool, xg = .bool b → rtK D inner ((g, .v (.bool b)) :: env) loc σ (fun env' _ σ' => val env' c fun c => aCase c
        (val env' p fun v => rtK D rest ((d, .v v) :: purge (d :: inner.writes) env) loc σ' k) (val env' q fun v => rtK D rest ((d, .v v) :: purge (d :: inner.writes) env) loc σ' k)) = some x →
        wpOps P ops Q (from_ ops i) a w := by
       intro b hxb hk1
       subst hxb
       have S1 := S.cons (d := g) (v := .bool b) (S.val hxg)
       rw [rtK_congr inner _ σ _ (fun env' loc' σ' => if loc' = loc then (val env' c fun c => aCase c
        (val env' p fun v => rtK D rest ((d, .v v) :: purge (d :: inner.writes) env) loc σ' k) (val env' q fun v => rtK D rest ((d, .v v) :: purge (d :: inner.writes) env) loc σ' k)) else none) hfree (fun env' σ' => by simp)] at hk1
       refine rt_sound hcall hG inner i i1 _ loc σ _ G lm w a hi hk1 S1 (fun env' loc' σ' G' lm' w' a' hk' S' le hlm htm => ?_)
       split at hk'
       ·rename_i hloc
        subst hloc
        refine wpOps_wanted ho (hwant a' htm) ?_
        unfold pickOk at hpick
        split at hpick
        ·rename_i c' p' q' hop
         simp only [Bae] at hpick
         obtain ⟨⟨hc, hp⟩, hq⟩ := hpick
         let k3 : Kn := fun env'' loc'' σ'' => if loc'' = loc' then (match env''.get d with
          | .v v => rtK D rest ((d, .v v) :: purge (d :: inner.writes) env) loc' σ'' k
          | .l _ _ => none) else none
         have hk3 : opK D o.dst (.pick c p q) env' loc' σ' k3 = some x := by
          obtain ⟨cv, hcv, hk'⟩ := val_some hk'
          have hcase : ∀ y : Opd, (val env' y fun v => rtK D rest ((d, .v v) :: purge (d :: inner.writes) env) loc' σ' k) = k3 (put env' o.dst (ent env' y)) loc' σ' := fun y => by
           simp only [k3, if_true, hd1, put, Env.get_cons, val]
           cases ent env' y <;> rfl
          rw [hcase, hcase] at hk'
          simp only [opK, val, hcv]
          exact hk'
         refine sound_pick S' (fun env'' loc'' σ'' G'' lm'' w'' a'' hk'' S'' le'' hlm'' htm'' => ?_) hd2 hop hc hp hq hk3
         simp only [k3] at hk''
         split at hk''
         ·rename_i hloc2
          subst hloc2
          split at hk''
          ·rename_i v hv
           have hl2 : ∀ s, s ∉ d :: inner.writes → lm'' s = lm s := fun s hs => (hlm'' s fun h => hs (by rw [hd1] at h; simp at h; simp [h])).trans (hlm s fun h => hs (List.mem_cons_of_mem _ h))
           have ht2 : ∀ t, t ∉ d :: inner.writes → a''.tmps.getD t undef = a.tmps.getD t undef := fun t ht => (htm'' t fun h => ht (by rw [hd1] at h; simp at h; simp [h])).trans (htm t fun h => ht (List.mem_cons_of_mem _ h))
           have S2 := St.purge (W := d :: inner.writes) (a' := a'') S S''.hi (le.trans le'') hl2 ht2 S''.df S''.nt
           have S3 := S2.cons (d := d) (v := v) (S''.val hv)
           exact rt_sound hcall hG rest (i1 + 1) i' _ _ σ'' k G'' lm'' w'' a'' h hk'' S3 (C.step (le.trans le'') hl2 ht2 hW1 hW2)
          ·cases hk''
         ·cases hk''
        ·cases hpick
       ·cases hk'
      rcases aCase_some hk with ⟨e, hk⟩ | ⟨e, hk⟩
      ·exact main true e hk
      ·exact main false e hk
   ·cases h
  ·cases h
end
end Go.Asm
/- Regions whose order is drawn: classes of operations, rows, the canonical run. -/
namespace Go.Asm

/-- Operations that turn neither the store nor the frame's boxes. -/
def softOp : ROp → Bool
 | .mv _ => true
 | .pick _ _ _ => true
 | .pickv _ _ _ => true
 | .pbox _ => true
 | .build _ _ => true
 | .pslice _ _ _ _ => true
 | .load _ _ _ => true
 | .nilCheck _ => true
 | .bin _ _ _ _ => true
 | .un _ _ => true
 | .conv _ _ => true
 | .mkIface _ _ => true
 | .mkFunc _ _ _ => true
 | .sliceS _ _ _ => true
 | .slice _ _ _ _ => true
 | .fadd _ _ => true
 | .field _ _ _ _ => true
 | .idx _ _ _ => true
 | .idxS _ _ => true
 | .look1 _ _ _ _ => true
 | .look2 _ _ _ _ => true
 | .extr _ _ => true
 | .len _ _ => true
 | .callP _ _ => true
 | .callV _ _ => true
 | _ => false
/-- Of these: those that do not look at the store. -/
def pureOp : ROp → Bool
 | .load _ _ _ => false
 | .conv _ _ => false
 | .look1 _ _ _ _ => false
 | .look2 _ _ _ _ => false
 | .callV _ _ => false
 | r => softOp r
/-- Operations that turn the store alone. -/
def hardOp : ROp → Bool
 | .halloc _ => true
 | .hbox _ _ _ => true
 | .mkMap _ => true
 | .mkSlice _ _ => true
 | .mapSet _ _ _ _ => true
 | .app _ _ _ => true
 | .callS _ _ => true
 | .callD _ _ => true
 | _ => false
def opds : ROp → List Opd
 | .mv x => [x]
 | .pick c a b => [c, a, b]
 | .pickv c a b => [c, a, b]
 | .pbox x => [x]
 | .build _ ps => ps.map (·.2.2.2)
 | .pslice _ _ _ ps => ps.map (·.2.2)
 | .load _ _ a => [a]
 | .nilCheck x => [x]
 | .bin _ _ x y => [x, y]
 | .un _ x => [x]
 | .conv _ x => [x]
 | .mkIface _ x => [x]
 | .mkFunc _ a b => a ++ b
 | .sliceS x lo hi => x :: (lo.toList ++ hi.toList)
 | .slice _ x lo hi => x :: (lo.toList ++ hi.toList)
 | .fadd _ x => [x]
 | .field _ _ _ x => [x]
 | .idx _ x i => [x, i]
 | .idxS x i => [x, i]
 | .look1 _ _ m k => [m, k]
 | .look2 _ _ m k => [m, k]
 | .extr x _ => [x]
 | .len _ x => [x]
 | .callP _ args => args
 | .callV _ args => args
 | .hbox _ _ x => [x]
 | .mkSlice _ n => [n]
 | .mapSet _ m k x => [m, k, x]
 | .app _ s x => [s, x]
 | .callS _ args => args
 | .callD f args => f :: args
 | _ => []
noncomputable def softE (D : Ctx) (r : ROp) (env : Env) (loc : Loc) (σ : Store) : Option Ent := opK D (some 0) r env loc σ fun env' _ _ => some (env'.get 0)
noncomputable def hardE (D : Ctx) (r : ROp) (env : Env) (loc : Loc) (σ : Store) : Option (Ent × Store) := opK D (some 0) r env loc σ fun env' _ σ' => some (env'.get 0, σ')

section
variable {ρ π : Type} {P : Program} {Z : Base} {N : Nat} {w w' : World} {G G' : Gh} {lm lm' : Nat → Option Nat} {env env' : Env} {loc loc' : Loc} {σ σ' : Store} {a a' : Act}
 {x : AV × Store} {Q : Exit → Act → World → Prop} {o : Oper} {D : Ctx} {ops : Array Oper}

theorem val_bind {y : Opd} {f : AV → Option ρ} {g : ρ → Option π} : (val env y f).bind g = val env y fun v => (f v).bind g := by
 unfold val; split <;> rfl
theorem valO_bind {y : Option Opd} {f : Option AV → Option ρ} {g : ρ → Option π} : (valO env y f).bind g = valO env y fun v => (f v).bind g := by
 cases y with
 | none => rfl
 | some y => exact val_bind
theorem vals_bind : ∀ {ys : List Opd} {f : List AV → Option ρ} {g : ρ → Option π}, (vals env ys f).bind g = vals env ys fun v => (f v).bind g
 | [], f, g => rfl
 | y :: ys, f, g => by simp only [vals, val_bind, vals_bind]
theorem aCase_bind {v : AV} {t f : Option ρ} {g : ρ → Option π} : (aCase v t f).bind g = aCase v (t.bind g) (f.bind g) := by
 unfold aCase; split <;> rfl
theorem cellsK_bind {agg : Bool} {n : Nat} {v : AV} {f : List AV → Option ρ} {g : ρ → Option π} : (cellsK agg n v f).bind g = cellsK agg n v fun l => (f l).bind g := by
 cases agg <;> simp only [cellsK, cond_true, cond_false, Option.bind_assoc]
theorem buildK_bind : ∀ {ps : List (Nat × Nat × Bool × Opd)} {cs : List AV} {f : List AV → Option ρ} {g : ρ → Option π}, (buildK env cs ps f).bind g = buildK env cs ps fun l => (f l).bind g
 | [], _, _, _ => rfl
 | (_, _, _, _) :: _, _, _, _ => by simp only [buildK, val_bind, cellsK_bind, buildK_bind]
theorem rowsK_bind {sz : Nat} : ∀ {ps : List (Nat × Bool × Opd)} {cs : List AV} {f : List AV → Option ρ} {g : ρ → Option π}, (rowsK env sz cs ps f).bind g = rowsK env sz cs ps fun l => (f l).bind g
 | [], _, _, _ => rfl
 | (_, _, _) :: _, _, _, _ => by simp only [rowsK, val_bind, cellsK_bind, rowsK_bind]
theorem val_ent {y : Opd} (h : ent env y = ent env' y) (f : AV → Option ρ) : val env y f = val env' y f := by simp only [val, h]
theorem vals_ent : ∀ {ys : List Opd}, (∀ y ∈ ys, ent env y = ent env' y) → ∀ (f : List AV → Option ρ), vals env ys f = vals env' ys f
 | [], _, f => rfl
 | y :: ys, h, f => by
  simp only [vals]
  rw [val_ent (h y (by simp))]
  congr 1
  funext v
  exact vals_ent (fun z hz => h z (by simp [hz])) _
theorem valO_ent {y : Option Opd} (h : ∀ z ∈ y.toList, ent env z = ent env' z) (f : Option AV → Option ρ) : valO env y f = valO env' y f := by
 cases y with
 | none => rfl
 | some y => exact val_ent (h y (by simp)) _
theorem buildK_ent : ∀ {ps : List (Nat × Nat × Bool × Opd)}, (∀ y ∈ ps.map (·.2.2.2), ent env y = ent env' y) → ∀ (cs : List AV) (f : List AV → Option ρ), buildK env cs ps f = buildK env' cs ps f
 | [], _, _, _ => rfl
 | (i, n, ag, y) :: ps, h, cs, f => by
  simp only [buildK]
  rw [val_ent (h y (by simp))]
  congr 1
  funext v
  congr 1
  funext l
  exact buildK_ent (fun z hz => h z (by simp at hz ⊢; exact .inr hz)) _ _
theorem rowsK_ent {sz : Nat} : ∀ {ps : List (Nat × Bool × Opd)}, (∀ y ∈ ps.map (·.2.2), ent env y = ent env' y) → ∀ (cs : List AV) (f : List AV → Option ρ), rowsK env sz cs ps f = rowsK env' sz cs ps f
 | [], _, _, _ => rfl
 | (i, ag, y) :: ps, h, cs, f => by
  simp only [rowsK]
  rw [val_ent (h y (by simp))]
  congr 1
  funext v
  congr 1
  funext l
  exact rowsK_ent (fun z hz => h z (by simp at hz ⊢; exact .inr hz)) _ _

theorem soft_eq {r : ROp} (hr : softOp r = true) {d : Option Nat} {k : Env → Loc → Store → Option ρ} : opK D d r env loc σ k = (softE D r env loc σ).bind fun e => k (put env d e) loc σ := by
 cases r with
 | load agg n a =>
  simp only [softE, opK]
  cases ent env a with
  | v p =>
   cases agg <;> simp only [cond_true, cond_false, Option.bind_assoc, put, Env.get_cons, if_true, Obs]
  | l s o' =>
   simp only []
   cases loc.get s with
   | none => rfl
   | some p =>
    obtain ⟨m, cs⟩ := p
    simp only []
    cases agg
    ·simp only [cond_false, Option.bind_assoc, put, Env.get_cons, if_true, Obs]
    ·simp only [cond_true]
     cases (o'.beq 0 && n.beq m)
     ·simp only [cond_false]
      cases ((o' + n).ble m)
      ·rfl
      ·simp only [cond_true, Obs, put, Env.get_cons, if_true]
     ·simp only [cond_true, Obs, put, Env.get_cons, if_true]
 | nilCheck y =>
  simp only [softE, opK]
  cases ent env y with
  | v p => simp only [Option.bind_assoc, put, Env.get_cons, if_true, Obs]
  | l s o' => simp only []; cases loc.get s <;> simp only [Obs, Option.bind_none, put, Env.get_cons, if_true]
 | fadd off y =>
  simp only [softE, opK]
  cases ent env y with
  | v p => simp only [Option.bind_assoc, put, Env.get_cons, if_true, Obs]
  | l s o' => simp only []; cases loc.get s <;> simp only [Obs, Option.bind_none, put, Env.get_cons, if_true]
 | _ => first
  | (simp [softOp] at hr; done)
  | (simp only [softE, opK, val_bind, valO_bind, vals_bind, aCase_bind, buildK_bind, rowsK_bind, Option.bind_assoc, Obs, put, Env.get_cons, if_true])

theorem soft_congr {r : ROp} (hr : softOp r = true) (h : ∀ y ∈ opds r, ent env y = ent env' y) : softE D r env loc σ = softE D r env' loc σ := by
 cases r with
 | load agg n a =>
  have := h a (by simp [opds])
  simp only [softE, opK, this, put, Env.get_cons, if_true]
 | nilCheck y =>
  have := h y (by simp [opds])
  simp only [softE, opK, this, put, Env.get_cons, if_true]
 | fadd off y =>
  have := h y (by simp [opds])
  simp only [softE, opK, this, put, Env.get_cons, if_true]
 | mv y => simp only [softE, opK, put, Env.get_cons, if_true, h y (by simp [opds])]
 | pick c p q => simp only [softE, opK, put, Env.get_cons, if_true, val_ent (h c (by simp [opds])), h p (by simp [opds]), h q (by simp [opds])]
 | pickv c p q => simp only [softE, opK, put, Env.get_cons, if_true, val_ent (h c (by simp [opds])), val_ent (h p (by simp [opds])), val_ent (h q (by simp [opds]))]
 | pbox y => simp only [softE, opK, put, Env.get_cons, if_true, val_ent (h y (by simp [opds]))]
 | build z ps => simp only [softE, opK, put, Env.get_cons, if_true]; exact buildK_ent h _ _
 | pslice sz z n ps => simp only [softE, opK, put, Env.get_cons, if_true]; exact rowsK_ent h _ _
 | bin op e y z => simp only [softE, opK, put, Env.get_cons, if_true, val_ent (h y (by simp [opds])), val_ent (h z (by simp [opds]))]
 | un op y => simp only [softE, opK, put, Env.get_cons, if_true, val_ent (h y (by simp [opds]))]
 | conv c y => simp only [softE, opK, put, Env.get_cons, if_true, val_ent (h y (by simp [opds]))]
 | mkIface t y => simp only [softE, opK, put, Env.get_cons, if_true, val_ent (h y (by simp [opds]))]
 | mkFunc f p q =>
  simp only [softE, opK, put, Env.get_cons, if_true]
  rw [vals_ent (fun y hy => h y (by simp [opds, hy]))]
  congr 1
  funext v
  exact vals_ent (fun y hy => h y (by simp [opds, hy])) _
 | sliceS y lo hi =>
  simp only [softE, opK, put, Env.get_cons, if_true, val_ent (h y (by simp [opds])), valO_ent (y := lo) (fun z hz => h z (by simp only [opds, List.mem_cons, List.mem_append]; exact .inr (.inl hz))),
   valO_ent (y := hi) (fun z hz => h z (by simp only [opds, List.mem_cons, List.mem_append]; exact .inr (.inr hz)))]
 | slice sz y lo hi =>
  simp only [softE, opK, put, Env.get_cons, if_true, val_ent (h y (by simp [opds])), valO_ent (y := lo) (fun z hz => h z (by simp only [opds, List.mem_cons, List.mem_append]; exact .inr (.inl hz))),
   valO_ent (y := hi) (fun z hz => h z (by simp only [opds, List.mem_cons, List.mem_append]; exact .inr (.inr hz)))]
 | field b i n y => simp only [softE, opK, put, Env.get_cons, if_true, val_ent (h y (by simp [opds]))]
 | idx sz y i => simp only [softE, opK, put, Env.get_cons, if_true, val_ent (h y (by simp [opds])), val_ent (h i (by simp [opds]))]
 | idxS y i => simp only [softE, opK, put, Env.get_cons, if_true, val_ent (h y (by simp [opds])), val_ent (h i (by simp [opds]))]
 | look1 kk z m q => simp only [softE, opK, put, Env.get_cons, if_true, val_ent (h m (by simp [opds])), val_ent (h q (by simp [opds]))]
 | look2 kk z m q => simp only [softE, opK, put, Env.get_cons, if_true, val_ent (h m (by simp [opds])), val_ent (h q (by simp [opds]))]
 | extr y i => simp only [softE, opK, put, Env.get_cons, if_true, val_ent (h y (by simp [opds]))]
 | len kd y => simp only [softE, opK, put, Env.get_cons, if_true, val_ent (h y (by simp [opds]))]
 | callP f args => simp only [softE, opK, put, Env.get_cons, if_true]; exact vals_ent h _
 | callV f args => simp only [softE, opK, put, Env.get_cons, if_true]; exact vals_ent h _
 | _ => simp [softOp] at hr

/-- A soft operation goes as before where there are more boxes. -/
theorem soft_loc {r : ROp} (hr : softOp r = true) (hl : ∀ s v, loc.get s = some v → loc'.get s = some v) {e : Ent} (h : softE D r env loc σ = some e) : softE D r env loc' σ = some e := by
 cases r with
 | load agg n a =>
  simp only [softE, opK] at h ⊢
  cases he : ent env a with
  | v p => rw [he] at h; exact h
  | l s o' =>
   rw [he] at h
   simp only at h ⊢
   cases hs : loc.get s with
   | none => rw [hs] at h; cases h
   | some p => rw [hs] at h; rw [hl s p hs]; exact h
 | nilCheck y =>
  simp only [softE, opK] at h ⊢
  cases he : ent env y with
  | v p => rw [he] at h; exact h
  | l s o' =>
   rw [he] at h
   simp only at h ⊢
   cases hs : loc.get s with
   | none => rw [hs] at h; cases h
   | some p => rw [hs] at h; rw [hl s p hs]; exact h
 | fadd off y =>
  simp only [softE, opK] at h ⊢
  cases he : ent env y with
  | v p => rw [he] at h; exact h
  | l s o' =>
   rw [he] at h
   simp only at h ⊢
   cases hs : loc.get s with
   | none => rw [hs] at h; cases h
   | some p => rw [hs] at h; rw [hl s p hs]; exact h
 | _ => first
  | exact h
  | (simp [softOp] at hr; done)
theorem lenV_any {k : LK} {v : AV} : lenV k v σ = lenV k v σ' := by
 unfold lenV; split <;> rfl
theorem soft_pure {r : ROp} (hr : pureOp r = true) : softE D r env loc σ = softE D r env loc σ' := by
 cases r with
 | len kd y => simp only [softE, opK, lenV_any (σ := σ) (σ' := σ'), put, Env.get_cons, if_true]
 | _ => first
  | (simp [pureOp, softOp] at hr; done)
  | rfl
theorem pure_soft {r : ROp} (hr : pureOp r = true) : softOp r = true := by
 cases r <;> first | rfl | (simp [pureOp] at hr; done) | exact hr
/-- Where a soft operation's result leads into a box, an operand does. -/
theorem soft_l {r : ROp} (hr : softOp r = true) {s i : Nat} (h : softE D r env loc σ = some (.l s i)) : ∃ y ∈ opds r, ∃ j, ent env y = .l s j := by
 have hv : ∀ {y : Opd} {f : AV → Option Ent}, val env y f = some (.l s i) → ∃ v, f v = some (.l s i) := fun h => by
  obtain ⟨v, _, h⟩ := val_some h; exact ⟨v, h⟩
 have hb : ∀ {α : Type} {q : Option α} {f : α → AV}, (q.bind fun v => some (Ent.v (f v))) = some (.l s i) → False := fun h => by
  obtain ⟨v, _, h⟩ := bind_some h; cases h
 have hvO : ∀ {y : Option Opd} {f : Option AV → Option Ent}, valO env y f = some (.l s i) → ∃ v, f v = some (.l s i) := fun {y f} h => by
  cases y with
  | none => exact ⟨none, h⟩
  | some y => obtain ⟨v, h⟩ := hv h; exact ⟨some v, h⟩
 have hvs : ∀ {ys : List Opd} {f : List AV → Option Ent}, vals env ys f = some (.l s i) → ∃ v, f v = some (.l s i) := fun {ys} => by
  induction ys with
  | nil => intro f h; exact ⟨[], h⟩
  | cons y ys ih => intro f h; obtain ⟨v, h⟩ := hv h; obtain ⟨l, h⟩ := ih h; exact ⟨v :: l, h⟩
 have hck : ∀ {agg : Bool} {n : Nat} {v : AV} {f : List AV → Option Ent}, cellsK agg n v f = some (.l s i) → ∃ l, f l = some (.l s i) := fun {agg n v f} h => by
  cases agg
  ·simp only [cellsK, cond_false] at h
   obtain ⟨u, _, h⟩ := bind_some h; exact ⟨_, h⟩
  ·simp only [cellsK, cond_true] at h
   obtain ⟨u, _, h⟩ := bind_some h; exact ⟨_, h⟩
 cases r with
 | mv y =>
  simp only [softE, opK, put, Env.get_cons, if_true] at h
  exact ⟨y, by simp [opds], i, by simpa using h⟩
 | pick c p q =>
  simp only [softE, opK, put, Env.get_cons, if_true] at h
  obtain ⟨v, h⟩ := hv h
  rcases aCase_some h with ⟨_, h⟩ | ⟨_, h⟩
  ·exact ⟨p, by simp [opds], i, by simpa using h⟩
  ·exact ⟨q, by simp [opds], i, by simpa using h⟩
 | nilCheck y =>
  simp only [softE, opK, put, Env.get_cons, if_true] at h
  cases he : ent env y with
  | v p => rw [he] at h; exact (hb h).elim
  | l s' o' =>
   rw [he] at h
   simp only at h
   split at h
   ·cases h; exact ⟨y, by simp [opds], _, he⟩
   ·cases h
 | fadd off y =>
  simp only [softE, opK, put, Env.get_cons, if_true] at h
  cases he : ent env y with
  | v p => rw [he] at h; exact (hb h).elim
  | l s' o' =>
   rw [he] at h
   simp only at h
   split at h
   ·cases h; exact ⟨y, by simp [opds], _, he⟩
   ·cases h
 | load agg n y =>
  simp only [softE, opK, put, Env.get_cons, if_true] at h
  cases he : ent env y with
  | v p =>
   rw [he] at h
   cases agg
   ·exact (hb h).elim
   ·exact (hb h).elim
  | l s' o' =>
   rw [he] at h
   simp only at h
   split at h
   ·cases agg
    ·exact (hb h).elim
    ·simp only [cond_true] at h
     rename_i m cs _
     cases hc : (o'.beq 0 && n.beq m) with
     | true => rw [hc] at h; cases h
     | false =>
      rw [hc] at h
      simp only [cond_false] at h
      cases hc2 : ((o' + n).ble m) with
      | true => rw [hc2] at h; cases h
      | false => rw [hc2] at h; cases h
   ·cases h
 | build z ps =>
  simp only [softE, opK, put, Env.get_cons, if_true] at h
  exfalso
  have : ∀ (ps : List (Nat × Nat × Bool × Opd)) (cs : List AV), (buildK env cs ps fun cs => some (Ent.v (.agg cs))) = some (.l s i) → False := by
   intro ps
   induction ps with
   | nil => intro cs h; cases h
   | cons p ps ih =>
    obtain ⟨i', n, ag, y⟩ := p
    intro cs h
    obtain ⟨v, h⟩ := hv h
    obtain ⟨l, h⟩ := hck h
    exact ih _ h
  exact this ps z h
 | pslice sz z n ps =>
  simp only [softE, opK, put, Env.get_cons, if_true] at h
  exfalso
  have : ∀ (ps : List (Nat × Bool × Opd)) (cs : List AV), (rowsK env sz cs ps fun rows => some (Ent.v (.pslice sz rows))) = some (.l s i) → False := by
   intro ps
   induction ps with
   | nil => intro cs h; cases h
   | cons p ps ih =>
    obtain ⟨i', ag, y⟩ := p
    intro cs h
    obtain ⟨v, h⟩ := hv h
    obtain ⟨l, h⟩ := hck h
    exact ih _ h
  exact this ps _ h
 | mkFunc f p q =>
  simp only [softE, opK, put, Env.get_cons, if_true] at h
  obtain ⟨v, h⟩ := hvs h
  obtain ⟨v, h⟩ := hvs h
  cases h
 | mkIface t y =>
  simp only [softE, opK, put, Env.get_cons, if_true] at h
  obtain ⟨v, h⟩ := hv h
  cases h
 | pbox y =>
  simp only [softE, opK, put, Env.get_cons, if_true] at h
  obtain ⟨v, h⟩ := hv h
  cases h
 | callP f args =>
  simp only [softE, opK, put, Env.get_cons, if_true] at h
  obtain ⟨v, h⟩ := hvs h
  exact (hb h).elim
 | callV f args =>
  simp only [softE, opK, put, Env.get_cons, if_true] at h
  obtain ⟨v, h⟩ := hvs h
  exact (hb h).elim
 | sliceS y lo hi =>
  simp only [softE, opK, put, Env.get_cons, if_true] at h
  obtain ⟨v, h⟩ := hv h
  obtain ⟨v, h⟩ := hvO h
  obtain ⟨v, h⟩ := hvO h
  exact (hb h).elim
 | slice sz y lo hi =>
  simp only [softE, opK, put, Env.get_cons, if_true] at h
  obtain ⟨v, h⟩ := hv h
  obtain ⟨v, h⟩ := hvO h
  obtain ⟨v, h⟩ := hvO h
  exact (hb h).elim
 | pickv c p q =>
  simp only [softE, opK, put, Env.get_cons, if_true] at h
  obtain ⟨v, h⟩ := hv h
  obtain ⟨v, h⟩ := hv h
  obtain ⟨v, h⟩ := hv h
  exact (hb h).elim
 | _ => first
  | (simp [softOp] at hr; done)
  | (
   simp only [softE, opK, put, Env.get_cons, if_true] at h
   obtain ⟨v, h⟩ := hv h
   first
    | exact (hb h).elim
    | (obtain ⟨v, h⟩ := hv h; exact (hb h).elim))

theorem hard_eq {r : ROp} (hr : hardOp r = true) {d : Option Nat} {k : Env → Loc → Store → Option ρ} : opK D d r env loc σ k = (hardE D r env loc σ).bind fun p => k (put env d p.1) loc p.2 := by
 cases r with
 | _ => first
  | (simp [hardOp] at hr; done)
  | (simp only [hardE, opK, val_bind, valO_bind, vals_bind, cellsK_bind, Option.bind_assoc, Obs, put, Env.get_cons, if_true])
theorem hard_congr {r : ROp} (hr : hardOp r = true) (h : ∀ y ∈ opds r, ent env y = ent env' y) : hardE D r env loc σ = hardE D r env' loc' σ := by
 cases r with
 | halloc z => rfl
 | mkMap kk => rfl
 | hbox agg n y => simp only [hardE, opK, put, Env.get_cons, if_true, val_ent (h y (by simp [opds]))]
 | mkSlice z y => simp only [hardE, opK, put, Env.get_cons, if_true, val_ent (h y (by simp [opds]))]
 | mapSet kk m q y => simp only [hardE, opK, put, Env.get_cons, if_true, val_ent (h m (by simp [opds])), val_ent (h q (by simp [opds])), val_ent (h y (by simp [opds]))]
 | app sz q y => simp only [hardE, opK, put, Env.get_cons, if_true, val_ent (h q (by simp [opds])), val_ent (h y (by simp [opds]))]
 | callS f args => simp only [hardE, opK, put, Env.get_cons, if_true]; exact vals_ent h _
 | callD f args =>
  simp only [hardE, opK, put, Env.get_cons, if_true]
  rw [val_ent (h f (by simp [opds]))]
  congr 1
  funext v
  exact vals_ent (fun y hy => h y (by simp [opds, hy])) _
 | _ => simp [hardOp] at hr
theorem hard_v {r : ROp} (hr : hardOp r = true) {e : Ent} (h : hardE D r env loc σ = some (e, σ')) : ∃ v, e = .v v := by
 have hv : ∀ {y : Opd} {f : AV → Option (Ent × Store)}, val env y f = some (e, σ') → ∃ v, f v = some (e, σ') := fun h => by
  obtain ⟨v, _, h⟩ := val_some h; exact ⟨v, h⟩
 have hb : ∀ {α : Type} {q : Option α} {f : α → AV} {g : α → Store}, (q.bind fun v => some (Ent.v (f v), g v)) = some (e, σ') → ∃ v, e = .v v := fun h => by
  obtain ⟨v, _, h⟩ := bind_some h; cases h; exact ⟨_, rfl⟩
 have hvs : ∀ {ys : List Opd} {f : List AV → Option (Ent × Store)}, vals env ys f = some (e, σ') → ∃ v, f v = some (e, σ') := fun {ys} => by
  induction ys with
  | nil => intro f h; exact ⟨[], h⟩
  | cons y ys ih => intro f h; obtain ⟨v, h⟩ := hv h; obtain ⟨l, h⟩ := ih h; exact ⟨v :: l, h⟩
 cases r with
 | halloc z => cases h; exact ⟨_, rfl⟩
 | mkMap kk => cases h; exact ⟨_, rfl⟩
 | hbox agg n y =>
  simp only [hardE, opK, put, Env.get_cons, if_true] at h
  obtain ⟨v, h⟩ := hv h
  cases agg
  ·simp only [cellsK, cond_false] at h; obtain ⟨u, _, h⟩ := bind_some h; cases h; exact ⟨_, rfl⟩
  ·simp only [cellsK, cond_true] at h; obtain ⟨u, _, h⟩ := bind_some h; cases h; exact ⟨_, rfl⟩
 | mkSlice z y =>
  simp only [hardE, opK, put, Env.get_cons, if_true] at h
  obtain ⟨v, h⟩ := hv h
  exact hb h
 | mapSet kk m q y =>
  simp only [hardE, opK, put, Env.get_cons, if_true] at h
  obtain ⟨v, h⟩ := hv h
  obtain ⟨v, h⟩ := hv h
  obtain ⟨v, h⟩ := hv h
  obtain ⟨u, _, h⟩ := bind_some h; cases h; exact ⟨_, rfl⟩
 | app sz q y =>
  simp only [hardE, opK, put, Env.get_cons, if_true] at h
  obtain ⟨v, h⟩ := hv h
  obtain ⟨v, h⟩ := hv h
  exact hb h
 | callS f args =>
  simp only [hardE, opK, put, Env.get_cons, if_true] at h
  obtain ⟨v, h⟩ := hvs h
  exact hb h
 | callD f args =>
  simp only [hardE, opK, put, Env.get_cons, if_true] at h
  obtain ⟨v, h⟩ := hv h
  obtain ⟨v, h⟩ := hvs h
  exact hb h
 | _ => simp [hardOp] at hr
end
end Go.Asm
/- Regions whose order is drawn: the canonical run, row by row. -/
namespace Go.Asm

structure DR where
 d : Nat
 r : ROp
 g : Option (Nat × Bool)
inductive TI where
 | row (q : DR)
 | chk (d : Nat) (r : ROp)
def flatT : DT → List TI
 | .done => []
 | .row d r rest => .row ⟨d, r, none⟩ :: flatT rest
 | .gop g w d r rest => .row ⟨d, r, some (g, w)⟩ :: flatT rest
 | .dia _ inner d c a b og rest => flatT inner ++ .row ⟨d, .pick c a b, og⟩ :: flatT rest
 | .chk d r rest => .chk d r :: flatT rest
def dstsI : List TI → List Nat
 | [] => []
 | .row q :: l => q.d :: dstsI l
 | .chk _ _ :: l => dstsI l
def hardsOf : List TI → List DR
 | [] => []
 | .row q :: l => bif hardOp q.r then q :: hardsOf l else hardsOf l
 | .chk _ _ :: l => hardsOf l
def waysOf : Nat → List TI → List (DR × Nat)
 | _, [] => []
 | j, .row q :: l => bif hardOp q.r then waysOf (j + 1) l else (q, j) :: waysOf j l
 | j, .chk d r :: l => (⟨d, r, none⟩, j) :: waysOf j l
noncomputable def rowE (D : Ctx) (q : DR) (env : Env) (loc : Loc) (σ : Store) : Option Ent :=
 match ogo q.g env with
 | some true => softE D q.r env loc σ
 | some false => some (.v (.tuple []))
 | none => none
inductive SeqI (D : Ctx) (loc : Loc) : Env → Store → List TI → Env → Store → Prop
 | nil {env σ} : SeqI D loc env σ [] env σ
 | soft {env σ q l e E σ'} : softOp q.r = true → rowE D q env loc σ = some e → SeqI D loc ((q.d, e) :: env) σ l E σ' → SeqI D loc env σ (.row q :: l) E σ'
 | hard {env σ q l e σ1 E σ'} : hardOp q.r = true → q.g = none → hardE D q.r env loc σ = some (e, σ1) → SeqI D loc ((q.d, e) :: env) σ1 l E σ' → SeqI D loc env σ (.row q :: l) E σ'
 | chk {env σ d r l E σ'} : softOp r = true → softE D r env loc σ = some (env.get d) → SeqI D loc env σ l E σ' → SeqI D loc env σ (.chk d r :: l) E σ'
theorem SeqI.append {D : Ctx} {loc : Loc} {env E F : Env} {σ σ' σ'' : Store} {l m : List TI} (a : SeqI D loc env σ l E σ') (b : SeqI D loc E σ' m F σ'') : SeqI D loc env σ (l ++ m) F σ'' := by
 induction a with
 | nil => exact b
 | soft h1 h2 _ ih => exact .soft h1 h2 (ih b)
 | hard h1 h2 h3 _ ih => exact .hard h1 h2 h3 (ih b)
 | chk h1 h2 _ ih => exact .chk h1 h2 (ih b)
theorem SeqI.other {D : Ctx} {loc : Loc} {env E : Env} {σ σ' : Store} {l : List TI} (a : SeqI D loc env σ l E σ') : ∀ t, t ∉ dstsI l → E.get t = env.get t := by
 induction a with
 | nil => intro t _; rfl
 | soft h1 h2 _ ih =>
  intro t ht
  simp only [dstsI, List.mem_cons, not_or] at ht
  rw [ih t ht.2, Env.get_cons, if_neg (Ne.symm ht.1)]
 | hard h1 h2 h3 _ ih =>
  intro t ht
  simp only [dstsI, List.mem_cons, not_or] at ht
  rw [ih t ht.2, Env.get_cons, if_neg (Ne.symm ht.1)]
 | chk h1 h2 _ ih => intro t ht; exact ih t ht
/-- No entry leads into a box of these. -/
def NoL (W : List Nat) (env : Env) : Prop := ∀ t s i, env.get t = .l s i → s ∉ W
theorem NoL.cons {W : List Nat} {env : Env} (h : NoL W env) {d : Nat} {e : Ent} (he : ∀ s i, e = .l s i → s ∉ W) : NoL W ((d, e) :: env) := by
 intro t s i ht
 rw [Env.get_cons] at ht
 split at ht
 ·exact he s i ht
 ·exact h t s i ht
theorem ent_l {env : Env} {W : List Nat} (h : NoL W env) {y : Opd} {s i : Nat} (he : ent env y = .l s i) : s ∉ W := by
 cases y with
 | t t => exact h t s i he
 | c v => cases he
theorem row_l {D : Ctx} {loc : Loc} {env : Env} {σ : Store} {W : List Nat} (h : NoL W env) {q : DR} (hq : softOp q.r = true) {e : Ent} (he : rowE D q env loc σ = some e) : ∀ s i, e = .l s i → s ∉ W := by
 intro s i hl
 subst hl
 unfold rowE at he
 split at he
 ·obtain ⟨y, _, j, hy⟩ := soft_l hq he
  exact ent_l h hy
 ·cases he
 ·cases he
theorem SeqI.noL {D : Ctx} {loc : Loc} {env E : Env} {σ σ' : Store} {l : List TI} {W : List Nat} (a : SeqI D loc env σ l E σ') (h : NoL W env) : NoL W E := by
 induction a with
 | nil => exact h
 | soft h1 h2 _ ih => exact ih (h.cons (row_l h h1 h2))
 | hard h1 h2 h3 _ ih =>
  obtain ⟨v, rfl⟩ := hard_v h1 h3
  exact ih (h.cons fun s i he => by cases he)
 | chk h1 h2 _ ih => exact ih h

/-! #### what the check asks of the written form -/
def opVis (V : List Nat) (r : ROp) : Bool := (opds r).all fun y => match y with
 | .t t => !memN t V
 | .c _ => true
/-- Rows none of which is carried out. -/
def skipRows : List Nat → List TI → Bool
 | _, [] => true
 | gs, .row q :: l => softOp q.r && (match q.g with
  | some (g, _) => memN g gs
  | none => false) && skipRows (q.d :: gs) l
 | _, .chk _ _ :: _ => false
def disjN : List Nat → List Nat → Bool
 | [], _ => true
 | a :: l, m => !memN a m && disjN l m
def ogFit (V : List Nat) (g : Nat) (inner : DT) : Option (Nat × Bool) → Bool
 | none => true
 | some (gg, _) => !memN gg V && !memN gg inner.writes && disjN [g] inner.writes && skipRows [g] (flatT inner)
/-- The temporaries that are hidden behind it, if all is well. -/
def dtOk : List Nat → DT → Option (List Nat)
 | V, .done => some V
 | V, .row _ r rest => bif (softOp r || hardOp r) && opVis V r then dtOk V rest else none
 | V, .gop g _ _ r rest => bif softOp r && opVis V r && !memN g V then dtOk V rest else none
 | V, .dia g inner d c a b og rest => match dtOk V inner with
  | some V1 => bif !memN g V && opVis V1 (.pick c a b) && !memN d (inner.writes ++ V) && ogFit V g inner og then dtOk (inner.writes ++ V1) rest else none
  | none => none
 | V, .chk d r rest => bif softOp r && opVis V r && !memN d V then dtOk V rest else none

theorem memN_false {t : Nat} {l : List Nat} : (!memN t l) = true ↔ t ∉ l := by
 rw [Bool.not_eq_true', ← Bool.not_eq_true, memN_iff]
theorem dsts_append (l m : List TI) : dstsI (l ++ m) = dstsI l ++ dstsI m := by
 induction l with
 | nil => rfl
 | cons x l ih => cases x <;> simp [dstsI, ih]
theorem flat_writes {t : Nat} : ∀ {dt : DT}, t ∈ dstsI (flatT dt) ↔ t ∈ dt.writes
 | .done => Iff.rfl
 | .row d r rest => by simp only [flatT, dstsI, DT.writes, List.mem_cons, flat_writes (dt := rest)]
 | .gop g w d r rest => by simp only [flatT, dstsI, DT.writes, List.mem_cons, flat_writes (dt := rest)]
 | .dia g inner d c a b og rest => by
  simp only [flatT, dsts_append, dstsI, DT.writes, List.mem_cons, List.mem_append, flat_writes (dt := rest), flat_writes (dt := inner)]
  constructor
  ·rintro (h | h | h)
   ·exact .inr (.inl h)
   ·exact .inl h
   ·exact .inr (.inr h)
  ·rintro (h | h | h)
   ·exact .inr (.inl h)
   ·exact .inl h
   ·exact .inr (.inr h)
 | .chk d r rest => flat_writes (dt := rest)

/-- What is known in one, and in the other. -/
def Vis (V : List Nat) (env F : Env) : Prop := (∀ t, t ∉ V → env.get t = F.get t) ∧ ∀ t, env.get t = F.get t ∨ env.get t = .v .undef
theorem Vis.cons {V : List Nat} {env F : Env} (h : Vis V env F) (d : Nat) (e : Ent) : Vis V ((d, e) :: env) ((d, e) :: F) := by
 constructor
 ·intro t ht
  rw [Env.get_cons, Env.get_cons]
  split
  ·rfl
  ·exact h.1 t ht
 ·intro t
  rw [Env.get_cons, Env.get_cons]
  split
  ·exact .inl rfl
  ·exact h.2 t
theorem Vis.ent {V : List Nat} {env F : Env} (h : Vis V env F) {r : ROp} (hr : opVis V r = true) : ∀ y ∈ opds r, Go.Asm.ent env y = Go.Asm.ent F y := by
 intro y hy
 have := List.all_eq_true.1 hr y hy
 cases y with
 | t t => exact h.1 t (memN_false.1 this)
 | c v => rfl
theorem Vis.noL {V W : List Nat} {env F : Env} (h : Vis V env F) (hf : NoL W F) : NoL W env := by
 intro t s i ht
 rcases h.2 t with e | e
 ·exact hf t s i (e ▸ ht)
 ·rw [e] at ht; cases ht
theorem ogo_eq {env F : Env} {og : Option (Nat × Bool)} (h : ∀ g w, og = some (g, w) → env.get g = F.get g) : ogo og env = ogo og F := by
 cases og with
 | none => rfl
 | some p =>
  obtain ⟨g, w⟩ := p
  simp only [ogo, h g w rfl]

section
variable {D : Ctx} {loc : Loc} {x : AV × Store}
theorem skip_seq : ∀ (l : List TI) (gs : List Nat) (F : Env) (σ : Store), skipRows gs l = true → (∀ t ∈ gs, F.get t = .v (.tuple [])) → ∃ E, SeqI D loc F σ l E σ
 | [], gs, F, σ, _, _ => ⟨F, .nil⟩
 | .row q :: l, gs, F, σ, h, hg => by
  simp only [skipRows, Bae] at h
  obtain ⟨⟨h1, h2⟩, h3⟩ := h
  have hrow : rowE D q F loc σ = some (.v (.tuple [])) := by
   unfold rowE
   split at h2
   ·rename_i g w hgd
    rw [hgd]
    simp only [ogo, hg g (memN_iff.1 h2)]
   ·cases h2
  obtain ⟨E, hE⟩ := skip_seq l (q.d :: gs) ((q.d, .v (.tuple [])) :: F) σ h3 (fun t ht => by
   rw [Env.get_cons]
   split
   ·rfl
   ·rename_i hne
    rcases List.mem_cons.1 ht with h | h
    ·exact absurd h.symm hne
    ·exact hg t h)
  exact ⟨E, .soft h1 hrow hE⟩
 | .chk d r :: l, gs, F, σ, h, _ => by cases h

theorem get_purge' {w : List Nat} {env : Env} {t : Nat} (h : ∀ s i, env.get t = .l s i → s ∉ w) (ht : t ∉ w) : (purge w env).get t = env.get t := by
 induction env with
 | nil => rfl
 | cons p r ih =>
  obtain ⟨kk, e⟩ := p
  rw [Env.get_cons] at h ⊢
  simp only [purge]
  by_cases hk : kk = t
  ·subst hk
   rw [if_pos rfl] at h ⊢
   have : memN kk w = false := by rw [← Bool.not_eq_true, memN_iff]; exact ht
   rw [this]
   simp only [cond_false]
   rw [Env.get_cons, if_pos rfl]
   cases e with
   | v a => rfl
   | l s i =>
    have hs := h s i rfl
    have : memN s w = false := by rw [← Bool.not_eq_true, memN_iff]; exact hs
    simp [purgeE, this]
  ·rw [if_neg hk] at h ⊢
   cases hm : memN kk w with
   | true => simp only [cond_true]; exact ih h
   | false => simp only [cond_false]; rw [Env.get_cons, if_neg hk]; exact ih h
theorem get_purge_in {w : List Nat} {env : Env} {t : Nat} (ht : t ∈ w) : (purge w env).get t = .v .undef := by
 induction env with
 | nil => rfl
 | cons p r ih =>
  obtain ⟨kk, e⟩ := p
  simp only [purge]
  cases hm : memN kk w with
  | true => simp only [cond_true]; exact ih
  | false =>
   simp only [cond_false]
   rw [Env.get_cons]
   by_cases hk : kk = t
   ·subst hk
    rw [memN_iff.2 ht] at hm; cases hm
   ·rw [if_neg hk]; exact ih
theorem get_purgeL {w : List Nat} {env : Env} {t : Nat} : (purgeL w env).get t = purgeE w (env.get t) := by
 induction env with
 | nil => rfl
 | cons p r ih =>
  obtain ⟨kk, e⟩ := p
  simp only [purgeL]
  rw [Env.get_cons, Env.get_cons]
  split
  ·rfl
  ·exact ih
theorem noL_purgeL {w : List Nat} {env : Env} : NoL w (purgeL w env) := by
 intro t s i h
 rw [get_purgeL] at h
 cases he : env.get t with
 | v a => rw [he] at h; cases h
 | l s' i' =>
  rw [he] at h
  simp only [purgeE] at h
  cases hm : memN s' w with
  | true => rw [hm] at h; cases h
  | false => rw [hm] at h; cases h; rw [← memN_iff, hm]; simp

theorem dtOk_grows : ∀ (dt : DT) (V V' : List Nat), dtOk V dt = some V' → ∀ t ∈ V, t ∈ V'
 | .done, V, V', h => by cases h; exact fun _ h => h
 | .row d r rest, V, V', h => by
  simp only [dtOk] at h
  cases hb : ((softOp r || hardOp r) && opVis V r) with
  | false => rw [hb] at h; cases h
  | true => rw [hb] at h; exact dtOk_grows rest V V' h
 | .gop g wd d r rest, V, V', h => by
  simp only [dtOk] at h
  cases hb : (softOp r && opVis V r && !memN g V) with
  | false => rw [hb] at h; cases h
  | true => rw [hb] at h; exact dtOk_grows rest V V' h
 | .dia g inner d c p q og rest, V, V', h => by
  simp only [dtOk] at h
  cases hi : dtOk V inner with
  | none => rw [hi] at h; cases h
  | some V1 =>
   rw [hi] at h
   simp only at h
   cases hb : (!memN g V && opVis V1 (.pick c p q) && !memN d (inner.writes ++ V) && ogFit V g inner og) with
   | false => rw [hb] at h; cases h
   | true =>
    rw [hb] at h
    exact fun t ht => dtOk_grows rest _ V' h t (List.mem_append_right _ (dtOk_grows inner V V1 hi t ht))
 | .chk d r rest, V, V', h => by
  simp only [dtOk] at h
  cases hb : (softOp r && opVis V r && !memN d V) with
  | false => rw [hb] at h; cases h
  | true => rw [hb] at h; exact dtOk_grows rest V V' h

theorem dr_flat (W : List Nat) : ∀ (dt : DT) (V V' : List Nat) (env F : Env) (σ : Store) (k : Kn), dtOk V dt = some V' → (∀ t ∈ dt.writes, t ∈ W) → Vis V env F → NoL W F → drK D dt env loc σ k = some x →
  ∃ E σ' env', SeqI D loc F σ (flatT dt) E σ' ∧ Vis V' env' E ∧ (∀ t ∈ V, t ∈ V') ∧ k env' loc σ' = some x
 | .done, V, V', env, F, σ, k, h, _, hv, _, hk => by
  cases h
  exact ⟨F, σ, env, .nil, hv, fun _ h => h, hk⟩
 | .row d r rest, V, V', env, F, σ, k, h, hW, hv, hn, hk => by
  simp only [dtOk] at h
  cases hb : ((softOp r || hardOp r) && opVis V r) with
  | false => rw [hb] at h; cases h
  | true =>
   rw [hb] at h
   simp only [cond_true] at h
   simp only [Bae, Boe] at hb
   have hent := hv.ent hb.2
   simp only [drK] at hk
   rcases hb.1 with hs | hh
   ·rw [soft_eq hs] at hk
    obtain ⟨e, he, hk⟩ := bind_some hk
    rw [soft_congr hs hent] at he
    have hrow : rowE D ⟨d, r, none⟩ F loc σ = some e := he
    obtain ⟨E, σ', env', h1, h2, h3, h4⟩ := dr_flat W rest V V' _ ((d, e) :: F) σ k h (fun t ht => hW t (List.mem_cons_of_mem _ ht)) (hv.cons d e) (hn.cons (row_l hn hs hrow)) hk
    exact ⟨E, σ', env', .soft hs hrow h1, h2, h3, h4⟩
   ·rw [hard_eq hh] at hk
    obtain ⟨⟨e, σ1⟩, he, hk⟩ := bind_some hk
    rw [hard_congr (loc' := loc) hh hent] at he
    obtain ⟨v, rfl⟩ := hard_v hh he
    obtain ⟨E, σ', env', h1, h2, h3, h4⟩ := dr_flat W rest V V' _ ((d, .v v) :: F) σ1 k h (fun t ht => hW t (List.mem_cons_of_mem _ ht)) (hv.cons d (.v v)) (hn.cons fun s i he => by cases he) hk
    exact ⟨E, σ', env', .hard hh rfl he h1, h2, h3, h4⟩
 | .gop g wd d r rest, V, V', env, F, σ, k, h, hW, hv, hn, hk => by
  simp only [dtOk] at h
  cases hb : (softOp r && opVis V r && !memN g V) with
  | false => rw [hb] at h; cases h
  | true =>
   rw [hb] at h
   simp only [cond_true] at h
   simp only [Bae] at hb
   obtain ⟨⟨hs, hvis⟩, hg⟩ := hb
   have hent := hv.ent hvis
   have hgg := hv.1 g (memN_false.1 hg)
   simp only [drK] at hk
   have run : ∀ e, rowE D ⟨d, r, some (g, wd)⟩ F loc σ = some e → drK D rest ((d, e) :: env) loc σ k = some x → _ := fun e hrow hk =>
    dr_flat W rest V V' _ ((d, e) :: F) σ k h (fun t ht => hW t (List.mem_cons_of_mem _ ht)) (hv.cons d e) (hn.cons (row_l hn (q := ⟨d, r, some (g, wd)⟩) hs hrow)) hk
   split at hk
   ·rename_i b hgv
    rw [hgg] at hgv
    cases hbw : (b == wd) with
    | true =>
     rw [hbw] at hk
     simp only [cond_true] at hk
     rw [soft_eq hs] at hk
     obtain ⟨e, he, hk⟩ := bind_some hk
     rw [soft_congr hs hent] at he
     have hrow : rowE D ⟨d, r, some (g, wd)⟩ F loc σ = some e := by simp only [rowE, ogo, hgv, hbw]; exact he
     obtain ⟨E, σ', env', h1, h2, h3, h4⟩ := run e hrow hk
     exact ⟨E, σ', env', .soft hs hrow h1, h2, h3, h4⟩
    | false =>
     rw [hbw] at hk
     simp only [cond_false] at hk
     have hrow : rowE D ⟨d, r, some (g, wd)⟩ F loc σ = some (.v (.tuple [])) := by simp only [rowE, ogo, hgv, hbw]
     obtain ⟨E, σ', env', h1, h2, h3, h4⟩ := run _ hrow hk
     exact ⟨E, σ', env', .soft hs hrow h1, h2, h3, h4⟩
   ·rename_i hgv
    rw [hgg] at hgv
    have hrow : rowE D ⟨d, r, some (g, wd)⟩ F loc σ = some (.v (.tuple [])) := by simp only [rowE, ogo, hgv]
    obtain ⟨E, σ', env', h1, h2, h3, h4⟩ := run _ hrow hk
    exact ⟨E, σ', env', .soft hs hrow h1, h2, h3, h4⟩
   ·cases hk
 | .dia g inner d c p q og rest, V, V', env, F, σ, k, h, hW, hv, hn, hk => by
  simp only [dtOk] at h
  cases hi : dtOk V inner with
  | none => rw [hi] at h; cases h
  | some V1 =>
  rw [hi] at h
  simp only at h
  cases hb : (!memN g V && opVis V1 (.pick c p q) && !memN d (inner.writes ++ V) && ogFit V g inner og) with
  | false => rw [hb] at h; cases h
  | true =>
  rw [hb] at h
  simp only [cond_true] at h
  simp only [Bae] at hb
  obtain ⟨⟨⟨hg, hpv⟩, hdn⟩, hog⟩ := hb
  have hgg := hv.1 g (memN_false.1 hg)
  have hdn := memN_false.1 hdn
  simp only [List.mem_append, not_or] at hdn
  have hWi : ∀ t ∈ inner.writes, t ∈ W := fun t ht => hW t (by simp only [DT.writes, List.mem_cons, List.mem_append]; exact .inr (.inl ht))
  have hWr : ∀ t ∈ rest.writes, t ∈ W := fun t ht => hW t (by simp only [DT.writes, List.mem_cons, List.mem_append]; exact .inr (.inr ht))
  have hWd : ∀ t ∈ d :: inner.writes, t ∈ W := fun t ht => hW t (by simp only [DT.writes, List.mem_cons, List.mem_append] at ht ⊢; exact ht.elim .inl fun h => .inr (.inl h))
  -- the rest, behind whatever the diamond left
  have go : ∀ (E1 : Env) (σ1 : Store) (e : AV), SeqI D loc F σ (flatT inner) E1 σ1 → rowE D ⟨d, .pick c p q, og⟩ E1 loc σ1 = some (.v e) → (∀ t ∈ V, t ∈ V1) →
    drK D rest ((d, .v e) :: purge (d :: inner.writes) env) loc σ1 k = some x →
    ∃ E σ' env', SeqI D loc F σ (flatT inner ++ .row ⟨d, .pick c p q, og⟩ :: flatT rest) E σ' ∧ Vis V' env' E ∧ (∀ t ∈ V, t ∈ V') ∧ k env' loc σ' = some x := by
   intro E1 σ1 e hs hrow hVV hk
   have hother := hs.other
   have hpur : ∀ t, t ∉ d :: inner.writes → (purge (d :: inner.writes) env).get t = env.get t := fun t ht => get_purge' (fun s i he hm => hv.noL hn t s i he (hWd s hm)) ht
   have hvis2 : Vis (inner.writes ++ V1) ((d, .v e) :: purge (d :: inner.writes) env) ((d, .v e) :: E1) := by
    constructor
    ·intro t ht
     simp only [List.mem_append, not_or] at ht
     rw [Env.get_cons, Env.get_cons]
     split
     ·rfl
     ·rename_i hne
      have h1 : t ∉ d :: inner.writes := fun h => by
       rcases List.mem_cons.1 h with h | h
       ·exact hne h.symm
       ·exact ht.1 h
      rw [hpur t h1, hother t (fun h => ht.1 (flat_writes.1 h))]
      exact hv.1 t fun h => ht.2 (hVV t h)
    ·intro t
     rw [Env.get_cons, Env.get_cons]
     split
     ·exact .inl rfl
     ·rename_i hne
      by_cases h1 : t ∈ d :: inner.writes
      ·exact .inr (get_purge_in h1)
      ·have h2 : t ∉ inner.writes := fun h => h1 (List.mem_cons_of_mem _ h)
       rw [hpur t h1, hother t (fun h => h2 (flat_writes.1 h))]
       exact hv.2 t
   obtain ⟨E, σ', env', a1, a2, a3, a4⟩ := dr_flat W rest _ V' _ ((d, .v e) :: E1) σ1 k h hWr hvis2 ((hs.noL hn).cons fun s i he => by cases he) hk
   exact ⟨E, σ', env', hs.append (.soft rfl hrow a1), a2, fun t ht => a3 t (List.mem_append_right _ (hVV t ht)), a4⟩
  simp only [drK] at hk
  split at hk
  ·cases hk
  ·-- passed by
   rename_i hogo
   split at hk
   ·rename_i hgt
    rw [hgg] at hgt
    cases og with
    | none => cases hogo
    | some gw =>
    obtain ⟨gg, ww⟩ := gw
    simp only [ogFit, Bae] at hog
    obtain ⟨⟨⟨o1, o2⟩, _⟩, o4⟩ := hog
    obtain ⟨E1, hE1⟩ := skip_seq (D := D) (loc := loc) (flatT inner) [g] F σ o4 (fun t ht => by simp at ht; subst ht; exact hgt)
    have hogE : ogo (some (gg, ww)) E1 = some false := by
     rw [← hogo]
     refine (ogo_eq fun g w he => ?_).symm
     cases he
     rw [hE1.other gg (fun h => memN_false.1 o2 (flat_writes.1 h))]
     exact hv.1 gg (memN_false.1 o1)
    -- inner's own hidden ones
    have hVV : ∀ t ∈ V, t ∈ V1 := dtOk_grows inner V V1 hi
    exact go E1 σ _ hE1 (by simp only [rowE, hogE]) hVV hk
   ·cases hk
  ·-- taken
   rename_i hogo
   simp only [jn] at hk
   obtain ⟨xg, hxg, hk⟩ := val_some hk
   simp only [ent] at hxg
   have main : ∀ b : Bool, xg = .bool b → drK D inner ((g, .v (.bool b)) :: env) loc σ (fun env' _ σ' => val env' c fun c => aCase c
     (val env' p fun v => drK D rest ((d, .v v) :: purge (d :: inner.writes) env) loc σ' k) (val env' q fun v => drK D rest ((d, .v v) :: purge (d :: inner.writes) env) loc σ' k)) = some x →
     ∃ E σ' env', SeqI D loc F σ (flatT inner ++ .row ⟨d, .pick c p q, og⟩ :: flatT rest) E σ' ∧ Vis V' env' E ∧ (∀ t ∈ V, t ∈ V') ∧ k env' loc σ' = some x := by
    intro b hxb hk1
    subst hxb
    have hvis1 : Vis V ((g, .v (.bool b)) :: env) F := by
     constructor
     ·intro t ht
      rw [Env.get_cons]
      split
      ·rename_i e; subst e; rw [← hgg, hxg]
      ·exact hv.1 t ht
     ·intro t
      rw [Env.get_cons]
      split
      ·rename_i e; subst e; left; rw [← hgg, hxg]
      ·exact hv.2 t
    obtain ⟨E1, σ1, env1, a1, a2, a3, a4⟩ := dr_flat W inner V V1 _ F σ _ hi hWi hvis1 hn hk1
    have hent := a2.ent hpv
    obtain ⟨cv, hcv, hk2⟩ := val_some a4
    have hogE : ogo og E1 = some true := by
     rw [← hogo]
     refine (ogo_eq fun g w he => ?_).symm
     subst he
     simp only [ogFit, Bae] at hog
     obtain ⟨⟨⟨o1, o2⟩, _⟩, _⟩ := hog
     rw [a1.other g (fun h => memN_false.1 o2 (flat_writes.1 h))]
     exact hv.1 g (memN_false.1 o1)
    rcases aCase_some hk2 with ⟨e, hk2⟩ | ⟨e, hk2⟩
    ·obtain ⟨v, hpv', hk3⟩ := val_some hk2
     refine go E1 σ1 v a1 ?_ a3 hk3
     simp only [rowE, hogE]
     rw [← soft_congr rfl hent]
     simp only [softE, opK, put, Env.get_cons, if_true, val, hcv, e, hpv']
     rfl
    ·obtain ⟨v, hpv', hk3⟩ := val_some hk2
     refine go E1 σ1 v a1 ?_ a3 hk3
     simp only [rowE, hogE]
     rw [← soft_congr rfl hent]
     simp only [softE, opK, put, Env.get_cons, if_true, val, hcv, e, hpv']
     rfl
   rcases aCase_some hk with ⟨e, hk⟩ | ⟨e, hk⟩
   ·exact main true e hk
   ·exact main false e hk
 | .chk d r rest, V, V', env, F, σ, k, h, hW, hv, hn, hk => by
  simp only [dtOk] at h
  cases hb : (softOp r && opVis V r && !memN d V) with
  | false => rw [hb] at h; cases h
  | true =>
   rw [hb] at h
   simp only [cond_true] at h
   simp only [Bae] at hb
   obtain ⟨⟨hs, hvis⟩, hd⟩ := hb
   have hent := hv.ent hvis
   have hdd := hv.1 d (memN_false.1 hd)
   simp only [drK] at hk
   rw [soft_eq hs] at hk
   obtain ⟨e, he, hk⟩ := bind_some hk
   rw [soft_congr hs hent] at he
   unfold chkE at hk
   split at hk
   ·rename_i heq
    have heq : e = env.get d := by rw [← heq]; show e = Env.get ((d, e) :: env) d; rw [Env.get_cons, if_pos rfl]
    obtain ⟨E, σ', env', h1, h2, h3, h4⟩ := dr_flat W rest V V' env F σ k h hW hv hn hk
    exact ⟨E, σ', env', .chk hs (by rw [he, heq, hdd]) h1, h2, h3, h4⟩
   ·cases hk
end
end Go.Asm
/- Regions whose order is drawn: the facts of the canonical run; the check. -/
namespace Go.Asm

/-- Nothing that a row looks at is written at it or behind it. -/
def ordI : List TI → Bool
 | [] => true
 | .row q :: l => opVis (q.d :: dstsI l) q.r && (match q.g with
  | none => true
  | some (g, _) => !memN g (q.d :: dstsI l)) && !memN q.d (dstsI l) && ordI l
 | .chk d r :: l => opVis (dstsI l) r && !memN d (dstsI l) && ordI l
theorem ways_ge : ∀ {l : List TI} {j : Nat} {p : DR × Nat}, p ∈ waysOf j l → j ≤ p.2
 | [], j, p, h => by cases h
 | .row q :: l, j, p, h => by
  simp only [waysOf] at h
  cases hh : hardOp q.r with
  | true => rw [hh] at h; have := ways_ge (l := l) h; omega
  | false =>
   rw [hh] at h
   rcases List.mem_cons.1 h with rfl | h
   ·exact Nat.le_refl _
   ·exact ways_ge (l := l) h
 | .chk d r :: l, j, p, h => by
  rcases List.mem_cons.1 h with rfl | h
  ·exact Nat.le_refl _
  ·exact ways_ge (l := l) h
theorem soft_not_hard {r : ROp} (h : softOp r = true) : hardOp r = false := by cases r <;> first | rfl | cases h
theorem opVis_ent {V : List Nat} {env F : Env} {r : ROp} (hr : opVis V r = true) (h : ∀ t, t ∉ V → env.get t = F.get t) : ∀ y ∈ opds r, ent env y = ent F y := by
 intro y hy
 have := List.all_eq_true.1 hr y hy
 cases y with
 | t t => exact h t (memN_false.1 this)
 | c v => rfl
section
variable {D : Ctx} {loc loc' : Loc}
theorem row_congr {q : DR} (hq : softOp q.r = true) {env F : Env} {σ : Store} (h : ∀ y ∈ opds q.r, ent env y = ent F y) (hg : ∀ g w, q.g = some (g, w) → env.get g = F.get g) : rowE D q env loc σ = rowE D q F loc σ := by
 unfold rowE
 rw [ogo_eq hg, soft_congr hq h]
theorem row_loc {q : DR} (hq : softOp q.r = true) {env : Env} {σ : Store} (hl : ∀ s v, loc.get s = some v → loc'.get s = some v) {e : Ent} (h : rowE D q env loc σ = some e) : rowE D q env loc' σ = some e := by
 unfold rowE at h ⊢
 split
 ·rename_i ho; rw [ho] at h; exact soft_loc hq hl h
 ·rename_i ho; rw [ho] at h; exact h
 ·rename_i ho; rw [ho] at h; exact h
theorem row_pure {q : DR} (hq : pureOp q.r = true) {env : Env} {σ σ' : Store} : rowE D q env loc σ = rowE D q env loc σ' := by
 unfold rowE
 rw [soft_pure hq]
/-- What the canonical run says of each row, in the words of its end. -/
theorem SeqI.facts {F E : Env} {σ σ' : Store} {l : List TI} (a : SeqI D loc F σ l E σ') : ordI l = true → ∀ j, ∃ σs : Nat → Store, σs j = σ ∧ σs (j + (hardsOf l).length) = σ' ∧
  (∀ p ∈ waysOf j l, rowE D p.1 E loc (σs p.2) = some (E.get p.1.d) ∧ softOp p.1.r = true) ∧ ∀ m q, (hardsOf l)[m]? = some q → hardE D q.r E loc (σs (j + m)) = some (E.get q.d, σs (j + m + 1)) ∧ hardOp q.r = true := by
 induction a with
 | @nil env σ => intro _ j; exact ⟨fun _ => σ, rfl, rfl, fun p hp => (by cases hp), fun m q h => (by simp [hardsOf] at h)⟩
 | @soft env σ q l e E σ' h1 h2 hs ih =>
  intro ho j
  simp only [ordI, Bae] at ho
  obtain ⟨⟨⟨o1, o2⟩, o3⟩, o4⟩ := ho
  obtain ⟨σs, s1, s2, s3, s4⟩ := ih o4 j
  have hh := soft_not_hard h1
  have hoth : ∀ t, t ∉ q.d :: dstsI l → env.get t = E.get t := fun t ht => by
   simp only [List.mem_cons, not_or] at ht
   rw [hs.other t ht.2, Env.get_cons, if_neg (Ne.symm ht.1)]
  have hd : E.get q.d = e := by rw [hs.other q.d (memN_false.1 o3), Env.get_cons, if_pos rfl]
  refine ⟨σs, s1, by simp only [hardsOf, hh, cond_false]; exact s2, fun p hp => ?_, fun m q' hq => s4 m q' (by simpa only [hardsOf, hh, cond_false] using hq)⟩
  simp only [waysOf, hh, cond_false] at hp
  rcases List.mem_cons.1 hp with rfl | hp
  ·refine ⟨?_, h1⟩
   simp only
   rw [s1, hd, ← h2]
   refine (row_congr h1 (opVis_ent o1 hoth) (fun g w hg => ?_)).symm
   rw [hg] at o2
   exact hoth g (memN_false.1 o2)
  ·exact s3 p hp
 | @hard env σ q l e σ1 E σ' h1 h2 h3 hs ih =>
  intro ho j
  simp only [ordI, Bae] at ho
  obtain ⟨⟨⟨o1, o2⟩, o3⟩, o4⟩ := ho
  obtain ⟨σs, s1, s2, s3, s4⟩ := ih o4 (j + 1)
  have hoth : ∀ t, t ∉ q.d :: dstsI l → env.get t = E.get t := fun t ht => by
   simp only [List.mem_cons, not_or] at ht
   rw [hs.other t ht.2, Env.get_cons, if_neg (Ne.symm ht.1)]
  have hd : E.get q.d = e := by rw [hs.other q.d (memN_false.1 o3), Env.get_cons, if_pos rfl]
  refine ⟨fun n => if n = j then σ else σs n, if_pos rfl, ?_, fun p hp => ?_, fun m q' hq => ?_⟩
  ·simp only [hardsOf, h1, cond_true, List.length_cons]
   rw [if_neg (by omega), ← s2]
   congr 1; omega
  ·simp only [waysOf, h1, cond_true] at hp
   have := ways_ge hp
   show rowE D p.1 E loc (if p.2 = j then σ else σs p.2) = _ ∧ _
   rw [if_neg (by omega)]
   exact s3 p hp
  ·simp only [hardsOf, h1, cond_true] at hq
   cases m with
   | zero =>
    simp at hq; subst hq
    refine ⟨?_, h1⟩
    simp only [Nat.add_zero, if_true]
    rw [if_neg (by omega), show σs (j + 1) = σ1 from s1, hd, ← h3]
    exact (hard_congr h1 (opVis_ent o1 hoth)).symm
   | succ m =>
    have := s4 m q' (by simpa using hq)
    show hardE D q'.r E loc (if j + (m + 1) = j then σ else σs (j + (m + 1))) = some (E.get q'.d, if j + (m + 1) + 1 = j then σ else σs (j + (m + 1) + 1)) ∧ _
    rw [if_neg (by omega), if_neg (by omega)]
    rw [show j + (m + 1) = j + 1 + m by omega]
    exact this
 | @chk env σ d r l E σ' h1 h2 hs ih =>
  intro ho j
  simp only [ordI, Bae] at ho
  obtain ⟨⟨o1, o2⟩, o3⟩ := ho
  obtain ⟨σs, s1, s2, s3, s4⟩ := ih o3 j
  have hoth : ∀ t, t ∉ dstsI l → env.get t = E.get t := fun t ht => (hs.other t ht).symm
  refine ⟨σs, s1, s2, fun p hp => ?_, s4⟩
  simp only [waysOf] at hp
  rcases List.mem_cons.1 hp with rfl | hp
  ·refine ⟨?_, h1⟩
   simp only
   rw [s1, ← hoth d (memN_false.1 o2), ← h2]
   show softE D r E loc σ = _
   exact (soft_congr h1 (opVis_ent o1 hoth)).symm
  ·exact s3 p hp
end

/-! #### the check of a drawn region -/
def edgeTo (o : Oper) (j : Nat) : Bool := o.after.toList.any fun e => Region.binds .any e && e.on.beq j
/-- The place of the operation that writes t. -/
def findD (t : Nat) : List Oper → Nat → Option Nat
 | [], _ => none
 | o :: r, i => match o.dst with
  | some d => bif d.beq t then some i else findD t r (i + 1)
  | none => findD t r (i + 1)
/-- What an operation waits for, directly or not. -/
inductive Reach (ops : Array Oper) : Nat → Nat → Prop
 | edge {i o e} : ops[i]? = some o → e ∈ o.after → Region.binds .any e = true → Reach ops i e.on
 | trans {i j k} : Reach ops i j → Reach ops j k → Reach ops i k
def insN (a : Nat) (l : List Nat) : List Nat := bif memN a l then l else a :: l
def insL : List Nat → List Nat → List Nat
 | [], m => m
 | a :: l, m => insL l (insN a m)
def depsT (tab : List (List Nat)) : List Edge → List Nat → List Nat
 | [], acc => acc
 | e :: r, acc => depsT tab r (bif Region.binds .any e then insL (e.on :: tab.getD e.on []) acc else acc)
def reachT : List Oper → List (List Nat) → List (List Nat)
 | [], tab => tab
 | o :: r, tab => reachT r (tab ++ [depsT tab o.after.toList []])
def inT (tab : List (List Nat)) (i j : Nat) : Bool := memN j (tab.getD i [])
theorem mem_insN {a x : Nat} {l : List Nat} : x ∈ insN a l → x = a ∨ x ∈ l := by
 unfold insN
 cases memN a l with
 | true => exact .inr
 | false => exact fun h => List.mem_cons.1 h
theorem mem_insL {x : Nat} : ∀ {l m : List Nat}, x ∈ insL l m → x ∈ l ∨ x ∈ m
 | [], m, h => .inr h
 | a :: l, m, h => by
  rcases mem_insL (l := l) h with h | h
  ·exact .inl (List.mem_cons_of_mem _ h)
  ·rcases mem_insN h with h | h
   ·subst h; exact .inl (List.mem_cons_self ..)
   ·exact .inr h
theorem deps_sound {ops : Array Oper} {tab : List (List Nat)} (ht : ∀ i j, j ∈ tab.getD i [] → Reach ops i j) {i : Nat} {o : Oper} (ho : ops[i]? = some o) : ∀ (es : List Edge) (acc : List Nat), (∀ e ∈ es, e ∈ o.after) → (∀ j ∈ acc, Reach ops i j) → ∀ j ∈ depsT tab es acc, Reach ops i j
 | [], acc, _, ha, j, hj => ha j hj
 | e :: es, acc, he, ha, j, hj => by
  refine deps_sound ht ho es _ (fun e' h => he e' (List.mem_cons_of_mem _ h)) (fun j hj => ?_) j hj
  cases hb : Region.binds .any e with
  | false => rw [hb] at hj; exact ha j hj
  | true =>
   rw [hb] at hj
   rcases mem_insL hj with h | h
   ·have h0 := Reach.edge ho (he e (List.mem_cons_self ..)) hb
    rcases List.mem_cons.1 h with h | h
    ·subst h; exact h0
    ·exact .trans h0 (ht _ _ h)
   ·exact ha j h
theorem reach_sound {ops : Array Oper} : ∀ (l : List Oper) (tab : List (List Nat)), (∀ n o, l[n]? = some o → ops[tab.length + n]? = some o) → (∀ i j, j ∈ tab.getD i [] → Reach ops i j) → ∀ i j, j ∈ (reachT l tab).getD i [] → Reach ops i j
 | [], tab, _, ht => ht
 | o :: l, tab, hl, ht => by
  have ho := hl 0 o rfl
  rw [Nat.add_zero] at ho
  refine reach_sound l _ (fun n o' h => ?_) (fun i j hj => ?_)
  ·have := hl (n + 1) o' (by simpa using h)
   rw [List.length_append, List.length_singleton]
   rwa [show tab.length + 1 + n = tab.length + (n + 1) by omega]
  ·rw [List.getD_eq_getElem?_getD, List.getElem?_append] at hj
   split at hj
   ·rw [← List.getD_eq_getElem?_getD] at hj; exact ht i j hj
   ·by_cases e : i = tab.length
    ·subst e
     simp at hj
     exact deps_sound ht ho _ [] (fun e he => Array.mem_toList_iff.1 he) (fun j hj => by cases hj) j hj
    ·have : i - tab.length ≠ 0 := by omega
     obtain ⟨n, hn⟩ : ∃ n, i - tab.length = n + 1 := ⟨i - tab.length - 1, by omega⟩
     rw [hn] at hj
     simp at hj
theorem findD_some {t : Nat} : ∀ {l : List Oper} {i j : Nat}, findD t l i = some j → i ≤ j ∧ ∃ o, l[j - i]? = some o ∧ o.dst = some t
 | [], i, j, h => by cases h
 | o :: r, i, j, h => by
  have again : findD t r (i + 1) = some j → i ≤ j ∧ ∃ o', (o :: r)[j - i]? = some o' ∧ o'.dst = some t := fun h => by
   obtain ⟨h1, o', h2, h3⟩ := findD_some h
   refine ⟨by omega, o', ?_, h3⟩
   rw [show j - i = (j - (i + 1)) + 1 by omega]
   simpa using h2
  simp only [findD] at h
  cases hd : o.dst with
  | none => rw [hd] at h; exact again h
  | some d =>
   rw [hd] at h
   simp only at h
   cases hb : d.beq t with
   | true =>
    rw [hb] at h; cases h
    have := Nat.eq_of_beq_eq_true hb
    subst this
    exact ⟨Nat.le_refl _, o, by simp, hd⟩
   | false => rw [hb] at h; exact again h
end Go.Asm
/- Regions whose order is drawn: soundness. -/
namespace Go.Asm

section
variable {Z : Base} {w : World} {G : Gh} {lm : Nat → Option Nat} {loc : Loc} {σ : Store}
/-- A box of the frame goes over to the store. -/
theorem HI.promote (H : HI Z w G lm loc σ) {s n g : Nat} {cs : List AV} (hl : loc.get s = some (n, cs)) (hg : lm s = some g) (loc' : Loc)
  (hlo : ∀ t e, loc'.get t = some e → t ≠ s ∧ loc.get t = some e) :
  HI Z w (G.add σ.next (g, n)) lm loc' (σ.add (.cells cs)) ∧ Le w.heap w.heap G (G.add σ.next (g, n)) := by
 have hnew := H.next σ.next (Nat.le_refl _)
 have bmne : ∀ y p, G.bm y = some p → y ≠ σ.next := fun y p h e => by subst e; rw [hnew.2] at h; cases h
 have le : Le w.heap w.heap G (G.add σ.next (g, n)) :=
  ⟨fun _ h => h, fun y p h => by simp only [Gh.add]; rw [if_neg (bmne y p h)]; exact h, fun _ _ => rfl⟩
 have hsome : (loc.get s).isSome = true := by rw [hl]; rfl
 obtain ⟨h0, g', hg', hfz, hb⟩ := H.lrel s n cs hl
 rw [hg] at hg'; cases hg'
 have hs : ∀ t, (loc'.get t).isSome = true → t ≠ s ∧ (loc.get t).isSome = true := fun t ht => by
  obtain ⟨e, he⟩ := Option.isSome_iff_exists.1 ht
  obtain ⟨a, b⟩ := hlo t e he
  exact ⟨a, by rw [b]; rfl⟩
 have hblk : ∀ y c, (σ.add (.cells cs)).blk y = some c → (y = σ.next ∧ c = .cells cs) ∨ (y ≠ σ.next ∧ σ.blk y = some c) := fun y c h => by
  change (if y = σ.next then some (.cells cs) else σ.blk y) = some c at h
  by_cases e : y = σ.next
  ·rw [if_pos e] at h; left; cases h; exact ⟨e, rfl⟩
  ·rw [if_neg e] at h; right; exact ⟨e, h⟩
 refine ⟨?_, le⟩
 exact
  {fzlt := H.fzlt
   blk := fun y c h => by
    rcases hblk y c h with ⟨e, e'⟩ | ⟨e, h⟩
    ·subst e; subst e'
     exact ⟨g, n, by simp [Gh.add], hfz, hb.mono le rfl⟩
    ·obtain ⟨k, m, h1, h2, h3⟩ := H.blk y c h
     exact ⟨k, m, le.bm _ _ h1, h2, h3.mono le rfl⟩
   inj := fun y z hy hz k m₁ m₂ h1 h2 => by
    obtain ⟨c, hc⟩ := Option.ne_none_iff_exists'.1 hy
    obtain ⟨d, hd⟩ := Option.ne_none_iff_exists'.1 hz
    simp only [Gh.add] at h1 h2
    rcases hblk y c hc with ⟨e, _⟩ | ⟨e, h⟩ <;> rcases hblk z d hd with ⟨e', _⟩ | ⟨e', h'⟩
    ·rw [e, e']
    ·rw [if_pos e] at h1; rw [if_neg e'] at h2; cases h1
     exact absurd h2 (H.ldis s hsome g hg z d h' m₂)
    ·rw [if_neg e] at h1; rw [if_pos e'] at h2; cases h2
     exact absurd h1 (H.ldis s hsome g hg y c h m₁)
    ·rw [if_neg e] at h1; rw [if_neg e'] at h2
     exact H.inj y z (by rw [h]; simp) (by rw [h']; simp) k m₁ m₂ h1 h2
   next := fun y h => by
    have hy : σ.next + 1 ≤ y := h
    have := H.next y (by omega)
    refine ⟨?_, ?_⟩
    ·show (if y = σ.next then some (.cells cs) else σ.blk y) = none
     rw [if_neg (by omega)]
     exact this.1
    ·simp only [Gh.add]
     rw [if_neg (by omega)]
     exact this.2
   lrel := fun t k ds ht => by
    obtain ⟨ht1, ht2⟩ := hlo t _ ht
    obtain ⟨a0, q, a1, a2, a3⟩ := H.lrel t k ds ht2
    exact ⟨a0, q, a1, a2, a3.mono le rfl⟩
   linj := fun a b ha hb => H.linj a b (hs a ha).2 (hs b hb).2
   ldis := fun t ht q hq y c h m hm => by
    simp only [Gh.add] at hm
    obtain ⟨ht1, ht2⟩ := hs t ht
    rcases hblk y c h with ⟨e, _⟩ | ⟨e, h⟩
    ·rw [if_pos e] at hm; cases hm
     exact ht1 (H.linj t s ht2 hsome _ hq hg)
    ·rw [if_neg e] at hm
     exact H.ldis t ht2 q hq y c h m hm
   os := H.os
   tape := H.tape
   output := H.output
   size := H.size
   keep := H.keep
   fresh := fun y c h k m hk => by
    simp only [Gh.add] at hk
    rcases hblk y c h with ⟨e, _⟩ | ⟨e, h⟩
    ·rw [if_pos e] at hk; cases hk; exact .inl (H.lfresh s hsome _ hg)
    ·rw [if_neg e] at hk; exact H.fresh y c h k m hk
   lfresh := fun a ha => H.lfresh a (hs a ha).2
   fzfresh := H.fzfresh
   fz0 := H.fz0
   bm0 := fun y p h => le.bm y p (H.bm0 y p h)
   bmlt := fun y k m h => by
    simp only [Gh.add] at h
    split at h
    ·cases h; exact hb.lt
    ·exact H.bmlt y k m h
   glob := fun q v h => by
    obtain ⟨h1, c, h2, h3⟩ := H.glob q v h
    exact ⟨h1, c, h2, h3⟩ }
end

theorem get_zsE_in {zs : List (Nat × List AV)} : ∀ {env : Env} {t : Nat}, t ∈ zsW zs → (zsE zs env).get t = .l t 0 := by
 induction zs with
 | nil => intro env t h; cases h
 | cons p zs ih =>
  obtain ⟨s, z⟩ := p
  intro env t h
  simp only [zsE]
  by_cases h2 : t ∈ zsW zs
  ·exact ih h2
  ·have : t = s := by
    rcases List.mem_cons.1 h with h | h
    ·exact h
    ·exact absurd h h2
   subst this
   have : ∀ {zs : List (Nat × List AV)} {env : Env}, t ∉ zsW zs → (zsE zs env).get t = env.get t := by
    intro zs
    induction zs with
    | nil => intro env _; rfl
    | cons p zs ih =>
     obtain ⟨s, z⟩ := p
     intro env h
     simp only [zsW, List.mem_cons, not_or] at h
     simp only [zsE]
     rw [ih h.2, Env.get_cons, if_neg (Ne.symm h.1)]
   rw [this h2, Env.get_cons, if_pos rfl]
theorem get_zsE_out {t : Nat} : ∀ {zs : List (Nat × List AV)} {env : Env}, t ∉ zsW zs → (zsE zs env).get t = env.get t := by
 intro zs
 induction zs with
 | nil => intro env _; rfl
 | cons p zs ih =>
  obtain ⟨s, z⟩ := p
  intro env h
  simp only [zsW, List.mem_cons, not_or] at h
  simp only [zsE]
  rw [ih h.2, Env.get_cons, if_neg (Ne.symm h.1)]
theorem get_zsL_out {t : Nat} : ∀ {zs : List (Nat × List AV)} {loc : Loc}, t ∉ zsW zs → (zsL zs loc).get t = loc.get t := by
 intro zs
 induction zs with
 | nil => intro loc _; rfl
 | cons p zs ih =>
  obtain ⟨s, z⟩ := p
  intro loc h
  simp only [zsW, List.mem_cons, not_or] at h
  simp only [zsL]
  rw [ih h.2, Loc.get_cons, if_neg (Ne.symm h.1)]
theorem get_zsL_in {t : Nat} {z : List AV} : ∀ {zs : List (Nat × List AV)} {loc : Loc}, (zsW zs).Nodup → (t, z) ∈ zs → (zsL zs loc).get t = some (z.length, z) := by
 intro zs
 induction zs with
 | nil => intro loc _ h; cases h
 | cons p zs ih =>
  obtain ⟨s, z'⟩ := p
  intro loc hn h
  simp only [zsW, List.nodup_cons] at hn
  simp only [zsL]
  rcases List.mem_cons.1 h with h | h
  ·cases h
   rw [get_zsL_out hn.1, Loc.get_cons, if_pos rfl]
  ·exact ih hn.2 h
theorem mem_zsW {t : Nat} : ∀ {zs : List (Nat × List AV)}, t ∈ zsW zs ↔ ∃ z, (t, z) ∈ zs
 | [] => by simp [zsW]
 | (s, z) :: zs => by
  simp only [zsW, List.mem_cons, mem_zsW (zs := zs), Prod.mk.injEq]
  constructor
  ·rintro (h | ⟨z', h⟩)
   ·exact ⟨z, .inl ⟨h, rfl⟩⟩
   ·exact ⟨z', .inr h⟩
  ·rintro ⟨z', ⟨h, _⟩ | h⟩
   ·exact .inl h
   ·exact .inr ⟨z', h⟩
theorem freeS_get {ss : List Nat} {loc : Loc} (h : freeS ss loc = true) : ∀ s ∈ ss, loc.get s = none := by
 induction ss with
 | nil => intro s hs; cases hs
 | cons a ss ih =>
  simp only [freeS, Bae] at h
  intro s hs
  rcases List.mem_cons.1 hs with rfl | hs
  ·have := h.1
   split at this
   ·assumption
   ·cases this
  ·exact ih h.2 s hs

def lstd (pre : List Oper) (listed : Array Bool) (d : Nat) : Bool := match findD d pre 0 with
 | some i => listed.getD i false
 | none => false

/-- What the check gives: of an operand of operation i. -/
def UseOk (ops : Array Oper) (pre : List Oper) (ps : List Nat) (zs : List (Nat × List AV)) (i : Nat) (o : Oper) (y : Opd) : Prop :=
 ∀ t, y = .t t → t ∉ zsW zs ∧ (∀ i', findD t pre 0 = some i' → edgeTo o i' = true) ∧ (t ∈ ps → ∀ p ∈ ps, ∃ ip, findD p pre 0 = some ip ∧ Reach ops i ip)
/-- Operation i can't come up at this level. -/
def Imposs (ops : Array Oper) (pre : List Oper) (Hs : List DR) (ps : List Nat) (i j : Nat) : Prop :=
 (ps = [] ∧ ((∃ n q h, n < j ∧ Hs[n]? = some q ∧ findD q.d pre 0 = some h ∧ Reach ops h i) ∨ ∃ n q h, j ≤ n ∧ Hs[n]? = some q ∧ findD q.d pre 0 = some h ∧ Reach ops i h)) ∨
  (ps ≠ [] ∧ ((j = 0 ∧ ∀ p ∈ ps, ∃ h, findD p pre 0 = some h ∧ Reach ops i h) ∨ (j = Hs.length ∧ ∃ p ∈ ps, ∃ h, findD p pre 0 = some h ∧ Reach ops h i) ∨ (j ≠ 0 ∧ j ≠ Hs.length)))
inductive Kind (P : Program) (ops : Array Oper) (pre : List Oper) (items : List TI) (ps : List Nat) (zs : List (Nat × List AV)) (i : Nat) (o : Oper) (d : Nat) : Prop
 | z (zero : List AV) : (d, zero) ∈ zs → o.guard.isNone = true → opOk P o (.zalloc zero) = true → Kind P ops pre items ps zs i o d
 | hard (n : Nat) (q : DR) : ps = [] → (hardsOf items)[n]? = some q → q.d = d → o.guard.isNone = true → opOk P o q.r = true → (∀ y ∈ opds q.r, UseOk ops pre ps zs i o y) →
   (∀ n' q', n' < n → (hardsOf items)[n']? = some q' → ∃ i', findD q'.d pre 0 = some i' ∧ Reach ops i i') → Kind P ops pre items ps zs i o d
 | pend (n : Nat) (q : DR) (zero : List AV) (y0 : Opd) : d ∈ ps → (hardsOf items)[n]? = some q → q.d = d → o.guard.isNone = true → opOk P o q.r = true → q.r = .mkSlice zero y0 → UseOk ops pre ps zs i o y0 → Kind P ops pre items ps zs i o d
 | soft : d ∈ dstsI items → d ∉ ps → (∀ q ∈ hardsOf items, q.d ≠ d) → (∀ j, j ≤ (hardsOf items).length → Imposs ops pre (hardsOf items) ps i j ∨ ∃ p ∈ waysOf 0 items, p.1.d = d ∧ (p.2 = j ∨ pureOp p.1.r = true) ∧
   opOk P o p.1.r = true ∧ (∀ y ∈ opds p.1.r, UseOk ops pre ps zs i o y) ∧ (match p.1.g with
    | none => o.guard.isNone = true
    | some (g, w) => gidx ops o g w = true ∧ UseOk ops pre ps zs i o (.t g))) → Kind P ops pre items ps zs i o d
structure DChk (P : Program) (N : Nat) (ops : Array Oper) (m : Nat) (items : List TI) (ps : List Nat) (zs : List (Nat × List AV)) : Prop where
 le : m ≤ ops.size
 dst : ∀ i, i < m → ∃ o d, ops[i]? = some o ∧ o.dst = some d ∧ d < N ∧ findD d (ops.toList.take m) 0 = some i
 back : ∀ i o, i < m → ops[i]? = some o → ∀ e ∈ o.after, Region.binds .any e = true → e.on < i
 rows : ∀ d, d ∈ dstsI items ∨ d ∈ zsW zs → ∃ i, i < m ∧ findD d (ops.toList.take m) 0 = some i
 zno : (zsW zs).Nodup
 zdis : ∀ d ∈ zsW zs, d ∉ dstsI items
 pdst : ∀ d ∈ ps, ∃ (n : Nat) (q : DR), (hardsOf items)[n]? = some q ∧ q.d = d
 hps : ps = [] ∨ ∀ q : DR, q ∈ hardsOf items → q.d ∈ ps
 hno : ∀ (n n' : Nat) (q q' : DR), (hardsOf items)[n]? = some q → (hardsOf items)[n']? = some q' → q.d = q'.d → n = n'
 hdst : ∀ q : DR, q ∈ hardsOf items → q.d ∈ dstsI items
 kinds : ∀ i o d, i < m → ops[i]? = some o → o.dst = some d → Kind P ops (ops.toList.take m) items ps zs i o d
 last : ∀ i o, m ≤ i → ops[i]? = some o → (∀ j, j < i → Reach ops i j) ∧ ∀ e ∈ o.after, Region.binds .any e = true → e.on < i

section
variable {P : Program} {Z : Base} {N : Nat} {w w' w0 : World} {G G' G0 : Gh} {lm lm' lm0 : Nat → Option Nat} {env env' E : Env} {loc : Loc} {σ σ' : Store} {a a' a0 : Act}
 {x : AV × Store} {Q : Exit → Act → World → Prop} {o : Oper} {D : Ctx} {ops : Array Oper} {m : Nat} {items : List TI} {ps : List Nat} {zs : List (Nat × List AV)}

theorem mem_ready {i : Nat} {listed : Array Bool} : i ∈ Region.ready .any ops listed ↔ listed.getD i true = false ∧ ∃ o, ops[i]? = some o ∧ ∀ e ∈ o.after, Region.binds .any e = true → listed.getD e.on false = true := by
 unfold Region.ready
 rw [List.mem_filter, List.mem_range]
 constructor
 ·rintro ⟨h1, h2⟩
  simp only [Bae, Bool.not_eq_true'] at h2
  obtain ⟨h2, h3⟩ := h2
  have ho : ops[i]? = some ops[i] := Array.getElem?_eq_getElem h1
  rw [ho] at h3
  simp only [Option.map_some, Option.getD_some] at h3
  refine ⟨h2, _, ho, fun e he hb => ?_⟩
  have := Array.all_eq_true_iff_forall_mem.1 h3 e he
  rw [hb] at this
  simpa using this
 ·rintro ⟨h1, o, ho, h3⟩
  have hlt := (Array.getElem?_eq_some_iff.1 ho).1
  refine ⟨hlt, ?_⟩
  simp only [Bae, Bool.not_eq_true']
  refine ⟨h1, ?_⟩
  rw [ho]
  simp only [Option.map_some, Option.getD_some]
  rw [Array.all_eq_true_iff_forall_mem]
  intro e he
  cases hb : Region.binds .any e with
  | false => rfl
  | true => simpa using h3 e he hb
theorem edge_of {j : Nat} (h : edgeTo o j = true) : ∃ e ∈ o.after, Region.binds .any e = true ∧ e.on = j := by
 simp only [edgeTo, List.any_eq_true, Bae] at h
 obtain ⟨e, he, h1, h2⟩ := h
 exact ⟨e, Array.mem_toList_iff.1 he, h1, Nat.eq_of_beq_eq_true h2⟩
theorem set_get {listed : Array Bool} {i j : Nat} (hi : i < listed.size) (d : Bool) : (listed.setIfInBounds i true).getD j d = if i = j then true else listed.getD j d := by
 by_cases h : i = j
 ·subst h
  simp [Array.getD_eq_getD_getElem?, hi]
 ·rw [if_neg h, getD_set_ne d h]
theorem getD_in {listed : Array Bool} {i : Nat} (hi : i < listed.size) (d d' : Bool) : listed.getD i d = listed.getD i d' := by
 simp [Array.getD_eq_getD_getElem?, hi]

/-- What is listed holds all that it waits for. -/
def Closed (ops : Array Oper) (listed : Array Bool) : Prop := ∀ i o, ops[i]? = some o → listed.getD i false = true → ∀ e ∈ o.after, Region.binds .any e = true → listed.getD e.on false = true
theorem reach_edge {listed : Array Bool} (hc : Closed ops listed) {i j : Nat} (h : Reach ops i j) : (∀ o, ops[i]? = some o → ∀ e ∈ o.after, Region.binds .any e = true → listed.getD e.on false = true) → listed.getD j false = true := by
 induction h with
 | edge h1 h2 h3 => intro h; exact h _ h1 _ h2 h3
 | trans _ _ ih1 ih2 =>
  intro h
  have hj := ih1 h
  exact ih2 fun o ho e he hb => hc _ o ho hj e he hb
theorem reach_listed {listed : Array Bool} (hc : Closed ops listed) {i j : Nat} (h : Reach ops i j) (hi : listed.getD i false = true) : listed.getD j false = true :=
 reach_edge hc h fun o ho e he hb => hc _ o ho hi e he hb

/-- The rest of a region, one operation after the other. -/
theorem any_seq (hlast : ∀ i o, m ≤ i → ops[i]? = some o → ∀ j, j < i → Reach ops i j) (hback : ∀ i o, ops[i]? = some o → ∀ e ∈ o.after, Region.binds .any e = true → e.on < i) :
  ∀ (fuel i : Nat) (listed : Array Bool) (a : Act) (w : World), m ≤ i → i ≤ ops.size → listed.size = ops.size → ops.size - i ≤ fuel → (∀ j, j < i → listed.getD j false = true) → (∀ j, i ≤ j → j < ops.size → listed.getD j true = false) →
   wpOps P ops Q (from_ ops i) a w → wpAny P .any ops Q fuel listed a w := by
 intro fuel
 have done : ∀ (listed : Array Bool), listed.size = ops.size → (∀ j, j < ops.size → listed.getD j false = true) → Region.ready .any ops listed = [] := by
  intro listed hsz h
  rw [List.eq_nil_iff_forall_not_mem]
  intro i hi
  obtain ⟨h1, o, h2, _⟩ := mem_ready.1 hi
  have hlt := (Array.getElem?_eq_some_iff.1 h2).1
  have := h i hlt
  rw [getD_in (by omega) false true, h1] at this
  cases this
 induction fuel with
 | zero =>
  intro i listed a w hm hi hsz hf hl hu hw
  have : i = ops.size := by omega
  subst this
  have e : from_ ops ops.size = [] := by simp [from_]
  rw [e] at hw
  exact ⟨done listed hsz hl, hw⟩
 | succ fuel ih =>
  intro i listed a w hm hi hsz hf hl hu hw
  by_cases hend : i = ops.size
  ·subst hend
   have e : from_ ops ops.size = [] := by simp [from_]
   rw [e] at hw
   refine ⟨fun _ => hw, fun k hk => ?_⟩
   rw [done listed hsz hl] at hk; cases hk
  ·have hlt : i < ops.size := by omega
   have ho : ops[i]? = some ops[i] := Array.getElem?_eq_getElem hlt
   have hr : i ∈ Region.ready .any ops listed := mem_ready.2 ⟨hu i (Nat.le_refl _) hlt, _, ho, fun e he hb => hl _ (hback i _ ho e he hb)⟩
   refine ⟨fun h => (by rw [h] at hr; cases hr), fun k hk => ?_⟩
   obtain ⟨k1, ok, k2, k3⟩ := mem_ready.1 hk
   have hkl := (Array.getElem?_eq_some_iff.1 k2).1
   have hki : k = i := by
    by_cases h1 : k < i
    ·have := hl k h1
     rw [getD_in (by omega) false true, k1] at this
     cases this
    ·by_cases h2 : k = i
     ·exact h2
     ·exfalso
      have hcl : Closed ops listed := fun k' ok' hk' hl' e he hb => by
       have := hback k' ok' hk' e he hb
       have hk'i : k' < i := by
        rcases Nat.lt_or_ge k' i with h | h
        ·exact h
        ·have hkl' := (Array.getElem?_eq_some_iff.1 hk').1
         rw [getD_in (by omega) false true, hu k' h hkl'] at hl'; cases hl'
       exact hl _ (by omega)
      have := reach_edge hcl (hlast k ok (by omega) k2 i (by omega)) fun o' ho' e he hb => by rw [k2] at ho'; cases ho'; exact k3 e he hb
      rw [getD_in (by omega) false true, hu i (Nat.le_refl _) hlt] at this
      cases this
   subst hki
   rw [from_cons ho, wpOps_cons] at hw
   refine wpOp_mono (fun a w h => ?_) hw
   refine ih (k + 1) _ a w (by omega) (by omega) (by simp [hsz]) (by omega) (fun j hj => ?_) (fun j hj hjl => ?_) h
   ·rw [set_get (by omega)]
    split
    ·rfl
    ·exact hl j (by omega)
   ·rw [set_get (by omega), if_neg (by omega)]
    exact hu j (by omega) hjl
end
end Go.Asm
