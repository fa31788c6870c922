import Derived.Test.YtebmeojmlakkoaaDoorAsm10
set_option linter.all false
/- What each operation comes to: seventh part: append, make. -/
namespace Go.Asm

section
variable {ρ : Type} {P : Program} {Z : Base} {N : Nat} {w : World} {G : Gh} {lm : Nat → Option Nat} {env : Env} {loc : Loc} {σ : Store} {a : Act}
  {k : Env → Loc → Store → Option ρ} {x : ρ} {K : Act → World → Prop} {Q : Exit → Act → World → Prop} {o : Oper} {D : Ctx}

/-- An element type of slices that are made or grown. -/
def elemOk (P : Program) (t : Nat) (zero : List AV) : Bool :=
  match P.underlying t with
  | some (.slice e) => zeroOk P e zero && (match P.info? e with
    | some i => i.size.beq zero.length && i.bytes.ble 16384
    | none => false) && !zero.length.beq 0
  | _ => false

theorem elemOk_inv {t : Nat} {zero : List AV} (h : elemOk P t zero = true) : ∃ (e : TypeId) (i : TypeInfo) (z : Value), P.underlying t = some (.slice e) ∧ P.info? e = some i ∧ i.zero = some z ∧ i.size = zero.length ∧ i.bytes ≤ 16384 ∧ 0 < zero.length ∧
    Ones z.cells.toList ∧ (∀ hp G, VRels hp G zero z.cells.toList) := by
  unfold elemOk at h
  split at h
  · rename_i e hu
    simp only [Bool.and_eq_true] at h
    obtain ⟨⟨h1, h2⟩, h3⟩ := h
    split at h2
    · rename_i i hi
      simp only [Bool.and_eq_true] at h2
      unfold zeroOk at h1
      simp only [hi] at h1
      cases hz : i.zero with
      | none => simp [hz] at h1
      | some z =>
        simp only [hz] at h1
        refine ⟨e, i, z, hu, hi, hz, Nat.eq_of_beq_eq_true h2.1, Nat.le_of_ble_eq_true h2.2, ?_, cvOkL_ones h1, fun hp G => cvOkL_rel h1⟩
        rcases Nat.eq_zero_or_pos zero.length with q | q
        · rw [q] at h3; simp at h3
        · exact q
    · cases h2
  · cases h

theorem flat_zeros (zero : List AV) (n : Nat) : flatRows (zeros zero n) = mkRows zero n := by
  induction n with
  | zero => rfl
  | succ n ih => simp [zeros, flatRows, mkRows, AV.cells, ih]

theorem RRel.flat {h : Array Obj} {sz : Nat} {rows : List AV} {arr : Array Value} (r : RRel h G sz rows arr) : VRels h G (flatRows rows) arr.toList := by
  obtain ⟨l1, l2⟩ := flatRows_get r.2.1
  refine ⟨by rw [l1]; simpa using r.1.symm, fun i v c hi hc => ?_⟩
  obtain ⟨q, j, row, rfl, e2, e3⟩ := l2 i v hi
  obtain ⟨c', hc', hrc⟩ := r.2.2 q row j v e2 e3
  rw [Array.getElem?_toList, hc'] at hc
  cases hc
  exact hrc

theorem sound_mkSlice (S : St Z N w G lm env loc σ a) (C : Cont Z N k x G lm w a o.dst.toList K) (hd : ∀ t, o.dst = some t → t < N) {t : Nat} {zero : List AV} {y z : Operand} {y0 : Opd}
    (ho : o.op = .makeSlice t y z) (hy : opdOk y y0 = true) (hz : opdOk z y0 = true) (he : elemOk P t zero = true)
    (h : opK D o.dst (.mkSlice zero y0) env loc σ k = some x) : o.wp P a w K Q := by
  obtain ⟨v, hv, ha⟩ := val_some h
  clear h
  obtain ⟨r, hr, h⟩ := bind_some ha
  clear ha
  have r1 := val_rel S hy hv
  have r2 := val_rel S hz hv
  unfold mkSlice at hr
  split at hr
  · rename_i kd n
    split at hr
    · rename_i hn
      obtain ⟨e, i, zv, hu, hi, hzv, hsz, hby, hpos, hone, hrel⟩ := elemOk_inv he
      have hmax := hn.2
      simp only [maxLen'] at hmax
      have hb : (i.bytes : Int) * n ≤ 281474976710656 := by
        have h1 : (i.bytes : Int) * n ≤ 16384 * n := Int.mul_le_mul_of_nonneg_right (by omega) hn.1
        omega
      have hrun := run_make (P := P) w t e i zv hu hi hzv kd kd n n hn.1 (Int.le_refl _) hb (by omega)
      obtain ⟨m1, m2⟩ := made_rel (w := w) (G := G) hrel hone rfl hpos n.toNat
      rw [← hsz] at m1 m2
      have hfl := m1.flat
      rw [flat_zeros] at hfl
      cases hr
      refine op_heap (t := e) (cs := mkRows zero n.toNat) (e := .hslice zero.length σ.next 0 n.toNat) S C hd (c := .slice (some ⟨w.heap.size, 0, none⟩) n.toNat n.toNat) ?_ hfl m2 ?_ h
      · unfold execOp
        simp only [ho, r1.int_inv, r2.int_inv]
        simp only [Sem.run_bind, hrun, Result.andThen_ok, Sem.run_pure]
      · exact .hslice (m := (madeCells zv.cells (n.toNat * i.size)).size) (by simp [Gh.add]) (Nat.le_refl _) (by rw [size_madeCells, hsz]; simp)
    · cases hr
  · cases hr

theorem sound_mkMap (S : St Z N w G lm env loc σ a) (C : Cont Z N k x G lm w a o.dst.toList K) (hd : ∀ t, o.dst = some t → t < N) {t : Nat}
    (ho : o.op = .makeMap t none) (h : opK D o.dst .mkMap env loc σ k = some x) : o.wp P a w K Q := by
  obtain ⟨H', le⟩ := S.hi.halloc (o := .map #[] 0) (b := .map [] []) (m := 0) (fun _ => ⟨#[], 0, get_push_new, rfl, rfl, fun i k e h => by simp at h, fun i k e h => by simp at h⟩)
  refine op_done (c := .map (some w.heap.size)) (e := .v (.hmap σ.next)) S C (.inl ?_) H' le hd (.hmap (m := 0) (by simp [Gh.add])) h
  unfold execOp
  simp only [ho, Option.map_none, Sem.run_bind]
  rfl

/-- The cells of what is appended. -/
theorem rows_cells {h : Array Obj} {sz : Nat} : ∀ {rows : List AV} {l : List AV} {ad : Addr} {cs : Nat → Nat → Value},
    (∀ (i : Nat) (r : AV), rows[i]? = some r → ∃ row : List AV, r = AV.agg row ∧ row.length = sz) →
    (∀ (i : Nat) (row : List AV) (j : Nat) (v : AV), rows[i]? = some (AV.agg row) → row[j]? = some v → cellOf h (ad.add (i * sz + j)) = some (cs i j) ∧ (cs i j).oneCell' = true) →
    (∀ (i : Nat) (row : List AV) (j : Nat) (v : AV), rows[i]? = some (AV.agg row) → row[j]? = some v → VRel h G v (cs i j)) → rowsCells sz rows = some l →
    ∃ news : List Value, news.length = rows.length * sz ∧ (∀ (j : Nat) v, news[j]? = some v → cellOf h (ad.add j) = some v) ∧ VRels h G l news ∧ Ones news
  | [], l, ad, cs, _, _, _, hl => by
    cases hl
    exact ⟨[], by simp, fun j v h => by simp at h, .nil, fun c h => by cases h⟩
  | r :: rows, l, ad, cs, h1, h2, h3, hl => by
    obtain ⟨row, rfl, hrow⟩ := h1 0 r rfl
    simp only [rowsCells, hrow, if_true] at hl
    rw [Option.map_eq_some_iff] at hl
    obtain ⟨l', hl', rfl⟩ := hl
    obtain ⟨n1, a1, a2, a3, a4⟩ := row_cells (h := h) (G := G) (row := row) (o := 0) (n := sz) (ad := ad) (f := fun j => cs 0 j)
      (fun j v hj => by have := h2 0 row j v rfl (by simpa using hj); simpa using this) (fun j v hj => h3 0 row j v rfl (by simpa using hj)) (by omega)
    obtain ⟨n2, b1, b2, b3, b4⟩ := rows_cells (rows := rows) (l := l') (ad := ad.add sz) (cs := fun i j => cs (i + 1) j) (fun i r hi => h1 (i + 1) r (by simpa using hi))
      (fun i row j v hi hj => by
        rw [add_add]
        have := h2 (i + 1) row j v (by simpa using hi) hj
        rwa [show (i + 1) * sz + j = sz + (i * sz + j) by rw [Nat.add_mul]; omega] at this)
      (fun i row j v hi hj => h3 (i + 1) row j v (by simpa using hi) hj) hl'
    refine ⟨n1 ++ n2, by simp [a1, b1, Nat.add_mul]; omega, fun j v hj => ?_, ?_, a4.append b4⟩
    · by_cases hlt : j < n1.length
      · rw [List.getElem?_append_left hlt] at hj; exact a2 j v hj
      · rw [List.getElem?_append_right (by omega)] at hj
        have := b2 _ v hj
        rw [add_add] at this
        rwa [show sz + (j - n1.length) = j by omega] at this
    · have : (row.drop 0).take sz = row := by simp [← hrow]
      rw [this] at a3
      exact a3.append b3

theorem contents_some (H : HI Z w G lm loc σ) {sz n : Nat} {v : AV} {l : List AV} (hv : contents sz v σ = some (n, l)) (hn : 0 < n) {c : Value} (hc : VRel w.heap G v c) :
    ∃ (ad : Addr) (cap : Nat) (news : List Value), c = .slice (some ad) n cap ∧ news.length = n * sz ∧ (∀ (j : Nat) v, news[j]? = some v → cellOf w.heap (ad.add j) = some v) ∧ VRels w.heap G l news ∧ Ones news := by
  unfold contents at hv
  split at hv
  · cases hv; omega
  · split at hv
    · rename_i hs
      subst hs
      rw [Option.map_eq_some_iff] at hv
      obtain ⟨l', hl', e⟩ := hv
      cases e
      cases hc with
      | pnil => simp at hn
      | pslice ad cap cs hf hcap hrow hcell hrel =>
        obtain ⟨news, n1, n2, n3, n4⟩ := rows_cells hrow hcell hrel hl'
        exact ⟨ad, cap, news, rfl, n1, n2, n3, n4⟩
    · cases hv
  · split at hv
    · rename_i hs
      subst hs
      rw [Option.map_eq_some_iff] at hv
      obtain ⟨l', hl', e⟩ := hv
      cases e
      cases hc with
      | hslice hg h1 h2 =>
        obtain ⟨ad, news, e1, n1, n2, n3, n4⟩ := rdN_some H hl' (.hptr hg)
        cases e1
        exact ⟨_, _, news, rfl, n1, n2, n3, n4⟩
    · cases hv
  · cases hv

theorem run_appendOp {t : Nat} {y z : Operand} (ho : o.op = .call { callee := .builtin .append, args := #[y, z], argTypes := #[t, t] }) {c : Value} {w' : World}
    (h : (Builtin.append_ #[t, t] o.type #[a.eval y, a.eval z]).run P w = .ok c w') : (execOp a.eval o).run P w = .ok (.value c) w' := by
  unfold execOp
  simp only [ho, resolve, invoke, builtin, Sem.run_bind, Sem.run_pure, Result.andThen_ok, List.map_toArray, List.map_cons, List.map_nil, h]

theorem upd_setRow {g : Nat} {cur arr : Array Value} {e : TypeId} (h : w.heap[g]? = some (.cells cur e (0, 0))) : Upd w (w.setRow g arr) g (.cells arr e (0, 0)) := by
  refine ⟨by simp [World.setRow], fun b hb => ?_, ?_, rfl, rfl, rfl⟩
  · simp [World.setRow, Array.getElem?_modify, Ne.symm hb]
  · simp [World.setRow, Array.getElem?_modify, h]

theorem Drew.drew (w : World) : Drew w w.drew := ⟨rfl, rfl, rfl, rfl⟩

theorem sound_app (S : St Z N w G lm env loc σ a) (C : Cont Z N k x G lm w a o.dst.toList K) (hd : ∀ t, o.dst = some t → t < N) {t : Nat} {zero : List AV} {y z : Operand} {y0 z0 : Opd}
    (ho : o.op = .call { callee := .builtin .append, args := #[y, z], argTypes := #[t, t] }) (hy : opdOk y y0 = true) (hz : opdOk z z0 = true) (he : elemOk P t zero = true)
    (h : opK D o.dst (.app zero.length y0 z0) env loc σ k = some x) : o.wp P a w K Q := by
  obtain ⟨s, hs, ha⟩ := val_some h
  clear h
  obtain ⟨v, hv, hb⟩ := val_some ha
  clear ha
  obtain ⟨r, hr, h⟩ := bind_some hb
  clear hb
  have r1 := val_rel S hy hs
  have r2 := val_rel S hz hv
  obtain ⟨e, i, zv, hu, hi, hzv, hsz, hby, hpos, hone, hrel⟩ := elemOk_inv he
  unfold app at hr
  obtain ⟨⟨n, new⟩, hcon, hr0⟩ := bind_some hr
  clear hr
  have hr := hr0
  clear hr0
  simp only at hr
  have hzs : zv.cells.size = zero.length := by have := (hrel w.heap G).1; simpa using this.symm
  have hzo : ∀ n, Ones (Builtin.zeroCells zv.cells n).toList := fun n => by
    have := (made_rel (w := w) (G := G) hrel hone rfl hpos n).2
    rw [← hzs] at this
    exact this
  split at hr
  · -- onto nil
    split at hr
    · rename_i hn
      obtain ⟨ad, cap, news, e1, n1, n2, n3, n4⟩ := contents_some S.hi hcon hn.2 r2
      cases hr
      generalize hyv : a.eval y = c at r1
      cases r1
      have hmax := hn.1
      simp only [maxLen'] at hmax
      have hrun := run_append_nil (P := P) w t o.type e i zv hu hi hzv ad n cap news (by rw [n1, hsz]) (fun j v hj => n2 j v hj) hn.2 (by omega) (by
        have : n * i.bytes ≤ n * 16384 := Nat.mul_le_mul_left _ hby
        omega)
      have hrun2 : (execOp a.eval o).run P w = _ := run_appendOp ho (by rw [hyv, e1]; exact hrun)
      have hge := grownCap_ge w n 0 e
      obtain ⟨H', le⟩ := (S.hi.draw w.drew rfl rfl rfl rfl).halloc (o := .cells (news.toArray ++ Builtin.zeroCells zv.cells (grownCap w n 0 e - n)) e) (b := .cells new) (m := grownCap w n 0 e * zero.length) (fun le => by
        refine ⟨_, e, get_push_new, ?_, ?_, ?_, fun j u hj => ?_⟩
        · simp only [Array.size_append, List.size_toArray, n1, size_zeroCells, hzs]
          rw [← Nat.add_mul]; congr 1; omega
        · rw [n3.1, n1]; exact Nat.mul_le_mul_right _ hge
        · rw [Array.toList_append]; exact n4.append (hzo _)
        · obtain ⟨c, c1, c2⟩ := n3.get hj
          have hjl := (List.getElem?_eq_some_iff.1 c1).1
          refine ⟨c, ?_, c2.mono le⟩
          rw [Array.getElem?_append_left (by simpa using hjl)]
          simpa using c1)
      refine op_done (e := .v (.hslice zero.length σ.next 0 n)) S C (.inl hrun2) H' le hd ?_ h
      exact .hslice (m := grownCap w n 0 e * zero.length) (by simp [Gh.add]) hge (by simp)
    · cases hr
  · -- onto a row of the call's own
    rename_i s' b off len
    split at hr
    · rename_i hc
      obtain ⟨rfl, rfl, hmax, hn⟩ := hc
      simp only [maxLen'] at hmax
      split at hr
      · rename_i cs hbk
        split at hr
        · rename_i hlen
          obtain ⟨ad, ncap, news, e1, n1, n2, n3, n4⟩ := contents_some S.hi hcon hn r2
          cases hr
          generalize hyv : a.eval y = c at r1
          cases r1 with
          | hslice hg h1 h2 =>
          rename_i g m cap
          obtain ⟨g', m', q1, hfz, q3⟩ := S.hi.blk _ _ hbk
          rw [hg] at q1; cases q1
          obtain ⟨arr, elem, d1, d2, d3, d4, d5⟩ := q3
          have e9 : len * i.size = len * zero.length := by rw [hsz]
          have hln : new.length = n * zero.length := by rw [n3.1, n1]
          by_cases hroom : len + n ≤ cap
          · -- in place
            have hcapm : (len + n) * zero.length ≤ m := by
              have := Nat.mul_le_mul_right zero.length hroom
              omega
            rw [Nat.add_mul] at hcapm
            have hfit : len * i.size + news.length ≤ arr.size := by rw [n1, hsz, d2]; exact hcapm
            have hel : w.heap[g]? = some (.cells arr elem (0, 0)) := d1
            have hrun : (Builtin.append_ #[t, t] o.type #[.slice (some ⟨g, 0, none⟩) len cap, .slice (some ad) n ncap]).run P w =
              .ok (.slice (some ⟨g, 0, none⟩) (len + n) cap) (w.setRow g (arr.toList.take (len * i.size) ++ news ++ arr.toList.drop (len * i.size + news.length)).toArray) := by
              have hf := run_firstCells_some (P := P) w i.size n ad n ncap news (by rw [n1, hsz]) (fun j v hj => n2 j v hj)
              have hst := run_storeCells_at P g (len * i.size) elem news 0 arr w hel (by simpa using hfit) n4
              simp only [Nat.add_zero] at hst
              simp [Builtin.append_, run_underlying hu, sizeOf, typeInfo, hi, Builtin.lenOf, hroom, hf, Addr.add_lit, hst]
            have hrun2 := run_appendOp (P := P) (w := w) ho (by rw [hyv, e1]; exact hrun)
            have hu' := upd_setRow (arr := (arr.toList.take (len * i.size) ++ news ++ arr.toList.drop (len * i.size + news.length)).toArray) hel
            have hsize : (arr.toList.take (len * i.size) ++ news ++ arr.toList.drop (len * i.size + news.length)).length = m := by
              simp only [List.length_append, List.length_take, List.length_drop, Array.length_toList]
              omega
            obtain ⟨H1, le1⟩ := S.hi.hstore (b' := .cells (cs.take (len * zero.length) ++ new)) hbk hg hu' (fun le => by
              refine ⟨_, elem, hu'.at_, by simpa using hsize, ?_, ?_, fun j u hj => ?_⟩
              · simp only [List.length_append, List.length_take, hln]; omega
              · exact ((Ones.take d4 _).append n4).append (Ones.drop d4 _)
              · have htl : (cs.take (len * zero.length)).length = len * zero.length := by simp; omega
                have htl' : (arr.toList.take (len * i.size)).length = len * zero.length := by simp [hsz]; omega
                simp only [List.getElem?_toArray]
                by_cases hlt : j < len * zero.length
                · rw [List.getElem?_append_left (by omega), List.getElem?_take, if_pos hlt] at hj
                  obtain ⟨c, c1, c2⟩ := d5 j u hj
                  refine ⟨c, ?_, c2.mono le⟩
                  rw [List.append_assoc, List.getElem?_append_left (by omega), List.getElem?_take, if_pos (by omega)]
                  simpa using c1
                · rw [List.getElem?_append_right (by omega), htl] at hj
                  obtain ⟨c, c1, c2⟩ := n3.get hj
                  have hjl := (List.getElem?_eq_some_iff.1 c1).1
                  refine ⟨c, ?_, c2.mono le⟩
                  rw [List.append_assoc, List.getElem?_append_right (by omega), htl', List.getElem?_append_left hjl]
                  exact c1)
            obtain ⟨H2, le2⟩ := H1.rename (x := b) (b := .cells (cs.take (len * zero.length) ++ new)) (by simp [Store.upd]) hg
            have hσ : ((σ.upd b (some (.cells (cs.take (len * zero.length) ++ new)))).upd b none).add (.cells (cs.take (len * zero.length) ++ new)) = (σ.upd b none).add (.cells (cs.take (len * zero.length) ++ new)) := by
              simp only [Store.add, Store.upd]
              congr 1
              funext q
              by_cases e : q = b <;> simp [e]
            rw [hσ] at H2
            refine op_done (e := .v (.hslice zero.length σ.next 0 (len + n))) S C (.inl hrun2) H2 (le1.trans le2) hd ?_ h
            exact .hslice (m := m) (by simp [Gh.add, Store.upd]) hroom (by simpa using h2)
          · -- grown
            have hlo : ((arr.toList.take (len * zero.length))).length = len * i.size := by simp [hsz]; omega
            have hrun := run_append_grow (P := P) w t o.type e i zv hu hi hzv ⟨g, 0, none⟩ len cap (arr.toList.take (len * zero.length)) hlo (fun j v hj => by
                rw [add_mk, cell_cellOf, cellOf_mk d1]
                rw [List.getElem?_take] at hj
                split at hj
                · simpa using hj
                · cases hj) ad n ncap news (by rw [n1, hsz]) (fun j v hj => n2 j v hj) (by omega) (by omega) (growslice_fits (by omega) (by
                  have : (len + n) * i.bytes ≤ (len + n) * 16384 := Nat.mul_le_mul_left _ hby
                  omega))
            have hrun2 := run_appendOp (P := P) (w := w) ho (by rw [hyv, e1]; exact hrun)
            have hge := grownCap_ge w (len + n) cap e
            obtain ⟨H', le⟩ := ((S.hi.kill b).draw w.drew rfl rfl rfl rfl).halloc (o := .cells ((arr.toList.take (len * zero.length)).toArray ++ news.toArray ++ Builtin.zeroCells zv.cells (grownCap w (len + n) cap e - (len + n))) e)
                (b := .cells (cs.take (len * zero.length) ++ new)) (m := grownCap w (len + n) cap e * zero.length) (fun le => by
              refine ⟨_, e, get_push_new, ?_, ?_, ?_, fun j u hj => ?_⟩
              · simp only [Array.size_append, List.size_toArray, n1, size_zeroCells, hzs, hlo, hsz]
                rw [← Nat.add_mul, ← Nat.add_mul]; congr 1; omega
              · simp only [List.length_append, List.length_take, hln]
                have := Nat.mul_le_mul_right zero.length hge
                rw [Nat.add_mul] at this
                omega
              · rw [Array.toList_append, Array.toList_append]; exact ((Ones.take d4 _).append n4).append (hzo _)
              · have htl : (cs.take (len * zero.length)).length = len * zero.length := by simp; omega
                rw [hsz] at hlo
                by_cases hlt : j < len * zero.length
                · rw [List.getElem?_append_left (by omega), List.getElem?_take, if_pos hlt] at hj
                  obtain ⟨c, c1, c2⟩ := d5 j u hj
                  refine ⟨c, ?_, c2.mono le⟩
                  rw [Array.append_assoc, Array.getElem?_append_left (by simp only [List.size_toArray]; omega)]
                  simp only [List.getElem?_toArray]
                  rw [List.getElem?_take, if_pos hlt]
                  simpa using c1
                · rw [List.getElem?_append_right (by omega), htl] at hj
                  obtain ⟨c, c1, c2⟩ := n3.get hj
                  have hjl := (List.getElem?_eq_some_iff.1 c1).1
                  refine ⟨c, ?_, c2.mono le⟩
                  rw [Array.append_assoc, Array.getElem?_append_right (by simp only [List.size_toArray]; omega)]
                  simp only [List.size_toArray, hlo]
                  rw [Array.getElem?_append_left (by simpa using hjl)]
                  simpa using c1)
            refine op_done (e := .v (.hslice zero.length σ.next 0 (len + n))) S C (.inl hrun2) H' le hd ?_ h
            exact .hslice (m := grownCap w (len + n) cap e * zero.length) (by simp [Gh.add, Store.upd]) hge (by simp)
        · cases hr
      · cases hr
    · cases hr
  · cases hr
end
end Go.Asm
