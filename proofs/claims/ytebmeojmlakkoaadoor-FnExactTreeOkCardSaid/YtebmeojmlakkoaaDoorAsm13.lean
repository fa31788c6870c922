import Derived.Test.YtebmeojmlakkoaaDoorAsm12
set_option linter.all false
/- Calls: what a call of a function must come to, and how a caller goes on. -/
namespace Go.Asm

def here (w : World) (G : Gh) (σ : Store) (Gl : Nat → Option AV) : Base := ⟨w, fun g => ∃ x b m, σ.blk x = some b ∧ G.bm x = some (g, m), G, Gl⟩

/-- The call of f comes to r. -/
structure Den (P : Program) (Gl : Nat → Option AV) (f : Nat) (args : List AV) (σ : Store) (r : AV × Store) : Prop where
  fn : ∃ fn, P.funcs[f]? = some fn ∧ (fn.name == "runtime.NumGoroutine") = false ∧ fn.body.isNone = false
  run : ∀ (w : World) (G : Gh) (cs : List Value), HI (here w G σ Gl) w G (fun _ => none) [] σ → VRels w.heap G args cs →
    Calls P f cs.toArray w fun
      | .returned v, w' => ∃ G', HI (here w G σ Gl) w' G' (fun _ => none) [] r.2 ∧ VRel w'.heap G' r.1 v
      | _, _ => False

def CallOK (P : Program) (Gl : Nat → Option AV) (call : Nat → List AV → Store → Res) : Prop := ∀ f args σ r, call f args σ = some r → Den P Gl f args σ r

section
variable {ρ : Type} {P : Program} {Z : Base} {N : Nat} {w w' : World} {G G' : Gh} {lm : Nat → Option Nat} {env : Env} {loc : Loc} {σ σ' : Store} {a : Act}
  {k : Env → Loc → Store → Option ρ} {x : ρ} {K : Act → World → Prop} {Q : Exit → Act → World → Prop} {o : Oper} {D : Ctx}

theorem Loc.get_nil (s : Nat) : Loc.get [] s = none := rfl

theorem HI.enter (H : HI Z w G lm loc σ) : HI (here w G σ Z.Gl) w G (fun _ => none) [] σ where
  fzlt := H.fzlt
  blk := H.blk
  inj := H.inj
  next := H.next
  lrel := fun s n cs h => by cases h
  linj := fun s t h => by simp [Loc.get_nil] at h
  ldis := fun s h => by simp [Loc.get_nil] at h
  os := rfl
  tape := rfl
  output := rfl
  size := Nat.le_refl _
  keep := fun _ _ _ => rfl
  fresh := fun x b h g m hg => .inr ⟨x, b, m, h, hg⟩
  lfresh := fun s h => by simp [Loc.get_nil] at h
  fzfresh := fun g h => .inl h
  fz0 := fun g h => h
  bm0 := fun x p h => h
  bmlt := H.bmlt
  glob := H.glob

/-- What the callee leaves, in the caller's frame. -/
theorem HI.back (H : HI Z w G lm loc σ) (H' : HI (here w G σ Z.Gl) w' G' (fun _ => none) [] σ') : HI Z w' G' lm loc σ' ∧ Le w.heap w'.heap G G' := by
  have notown : ∀ g, G.Fz g → ¬ (here w G σ Z.Gl).own g := fun g hg ⟨x, b, m, hb, hm⟩ => by
    obtain ⟨g', m', h1, h2, _⟩ := H.blk x b hb
    rw [hm] at h1; cases h1
    exact h2 hg
  have le : Le w.heap w'.heap G G' := ⟨H'.fz0, H'.bm0, fun g hg => H'.keep g (H.fzlt g hg) (notown g hg)⟩
  have locold : ∀ s, (loc.get s).isSome = true → ∀ g, lm s = some g → g < w.heap.size ∧ ¬ (here w G σ Z.Gl).own g := fun s hs g hg => by
    obtain ⟨⟨n, cs⟩, hl⟩ := Option.isSome_iff_exists.1 hs
    obtain ⟨_, g', h1, _, h3⟩ := H.lrel s n cs hl
    rw [hg] at h1; cases h1
    exact ⟨h3.lt, fun ⟨x, b, m, hb, hm⟩ => H.ldis s hs g hg x b hb m hm⟩
  refine ⟨?_, le⟩
  exact
    { fzlt := H'.fzlt
      blk := H'.blk
      inj := H'.inj
      next := H'.next
      lrel := fun s n cs hl => by
        obtain ⟨h0, g, h1, h2, h3⟩ := H.lrel s n cs hl
        obtain ⟨o1, o2⟩ := locold s (by rw [hl]; rfl) g h1
        refine ⟨h0, g, h1, fun hf => ?_, h3.mono le (H'.keep g o1 o2)⟩
        rcases H'.fzfresh g hf with h | h | h
        · exact h2 h
        · exact absurd o1 (Nat.not_lt.2 h)
        · exact o2 h
      linj := H.linj
      ldis := fun s hs g hg x b hb m hm => by
        obtain ⟨o1, o2⟩ := locold s hs g hg
        rcases H'.fresh x b hb g m hm with h | h
        · exact absurd o1 (Nat.not_lt.2 h)
        · exact o2 h
      os := H'.os.trans H.os
      tape := H'.tape.trans H.tape
      output := H'.output.trans H.output
      size := Nat.le_trans H.size H'.size
      keep := fun g hg ho => by
        rw [H'.keep g (Nat.lt_of_lt_of_le hg H.size) (fun ⟨x, b, m, hb, hm⟩ => by
          rcases H.fresh x b hb g m hm with h | h
          · exact absurd hg (Nat.not_lt.2 h)
          · exact ho h)]
        exact H.keep g hg ho
      fresh := fun x b hb g m hm => by
        rcases H'.fresh x b hb g m hm with h | ⟨y, c, n, hc, hn⟩
        · exact .inl (Nat.le_trans H.size h)
        · exact H.fresh y c hc g n hn
      lfresh := H.lfresh
      fzfresh := fun g hg => by
        rcases H'.fzfresh g hg with h | h | ⟨y, c, n, hc, hn⟩
        · exact H.fzfresh g h
        · exact .inr (.inl (Nat.le_trans H.size h))
        · rcases H.fresh y c hc g n hn with h | h
          · exact .inr (.inl h)
          · exact .inr (.inr h)
      fz0 := fun g h => H'.fz0 g (H.fz0 g h)
      bm0 := fun x p h => H'.bm0 x p (H.bm0 x p h)
      bmlt := H'.bmlt
      glob := H'.glob }

/-- A call that could write nothing of the caller's: what it left may be frozen. -/
theorem HI.quiet (H : HI Z w G lm loc σ) (h1 : ∀ g, g < w.heap.size → w'.heap[g]? = w.heap[g]?) (h2 : w.heap.size ≤ w'.heap.size) (h3 : w'.os = w.os) (h4 : w'.tape = w.tape) (h5 : w'.output = w.output)
    (F : Nat → Prop) (hF : ∀ g, F g → w.heap.size ≤ g ∧ g < w'.heap.size) :
    HI Z w' ⟨fun g => G.Fz g ∨ F g, G.bm⟩ lm loc σ ∧ Le w.heap w'.heap G ⟨fun g => G.Fz g ∨ F g, G.bm⟩ := by
  have le : Le w.heap w'.heap G ⟨fun g => G.Fz g ∨ F g, G.bm⟩ := ⟨fun g h => .inl h, fun x p h => h, fun g h => h1 g (H.fzlt g h)⟩
  refine ⟨?_, le⟩
  have nf : ∀ g, ¬ G.Fz g → g < w.heap.size → ¬ (G.Fz g ∨ F g) := fun g h1 h2 h => by
    rcases h with h | h
    · exact h1 h
    · have := (hF g h).1; omega
  exact
    { fzlt := fun g h => by
        rcases h with h | h
        · have := H.fzlt g h; omega
        · exact (hF g h).2
      blk := fun x b hb => by
        obtain ⟨g, m, q1, q2, q3⟩ := H.blk x b hb
        exact ⟨g, m, q1, nf g q2 q3.lt, q3.mono le (h1 g q3.lt)⟩
      inj := H.inj
      next := H.next
      lrel := fun s n cs hl => by
        obtain ⟨q0, g, q1, q2, q3⟩ := H.lrel s n cs hl
        exact ⟨q0, g, q1, nf g q2 q3.lt, q3.mono le (h1 g q3.lt)⟩
      linj := H.linj
      ldis := H.ldis
      os := h3.trans H.os
      tape := h4.trans H.tape
      output := h5.trans H.output
      size := Nat.le_trans H.size h2
      keep := fun g hg ho => by rw [h1 g (Nat.lt_of_lt_of_le hg H.size)]; exact H.keep g hg ho
      fresh := H.fresh
      lfresh := H.lfresh
      fzfresh := fun g h => by
        rcases h with h | h
        · exact H.fzfresh g h
        · exact .inr (.inl (Nat.le_trans H.size (hF g h).1))
      fz0 := fun g h => .inl (H.fz0 g h)
      bm0 := H.bm0
      bmlt := fun x g m h => Nat.lt_of_lt_of_le (H.bmlt x g m h) h2
      glob := fun g v h => by
        obtain ⟨q1, c, q2, q3⟩ := H.glob g v h
        exact ⟨.inl q1, c, (cellOf_same (h1 g (H.fzlt g q1))).trans q2, q3.gmono (fun g h => Or.inl h) le.same⟩ }

/-! #### views -/
/-- The ghost with what a store holds frozen. -/
def frozen (G : Gh) (σ : Store) : Gh := ⟨fun g => G.Fz g ∨ ∃ x b m, σ.blk x = some b ∧ G.bm x = some (g, m), fun _ => none⟩

theorem mapM_some {α β : Type} {f : α → Option β} : ∀ {l : List α} {r : List β}, l.mapM f = some r → l.length = r.length ∧ ∀ (i : Nat) (u : β), r[i]? = some u → ∃ v, l[i]? = some v ∧ f v = some u
  | [], r, h => by
    simp at h; subst h
    exact ⟨rfl, fun i u h => by simp at h⟩
  | a :: l, r, h => by
    simp only [List.mapM_cons, Option.bind_eq_bind, Option.pure_def] at h
    obtain ⟨b, hb, h⟩ := bind_some h
    obtain ⟨r', hr', h⟩ := bind_some h
    cases h
    obtain ⟨ih1, ih2⟩ := mapM_some hr'
    refine ⟨by simp [ih1], fun i u hu => ?_⟩
    cases i with
    | zero => simp at hu; subst hu; exact ⟨a, rfl, hb⟩
    | succ i => exact ih2 i u (by simpa using hu)

theorem splitRows_get {sz : Nat} : ∀ (n : Nat) (cs : List AV), (splitRows sz n cs).length = n ∧ ∀ (i : Nat) (row : List AV), (splitRows sz n cs)[i]? = some row → i < n ∧ row = (cs.drop (i * sz)).take sz
  | 0, cs => ⟨rfl, fun i row h => by simp [splitRows] at h⟩
  | n + 1, cs => by
    obtain ⟨h1, h2⟩ := splitRows_get (sz := sz) n (cs.drop sz)
    refine ⟨by simp [splitRows, h1], fun i row h => ?_⟩
    cases i with
    | zero => simp [splitRows] at h; subst h; simp
    | succ i =>
      simp only [splitRows, List.getElem?_cons_succ] at h
      obtain ⟨q1, q2⟩ := h2 i row h
      refine ⟨by omega, ?_⟩
      rw [q2, List.drop_drop]
      congr 2
      rw [Nat.add_mul]; omega

theorem view_rel (H : ∀ x b, σ.blk x = some b → ∃ g m, G.bm x = some (g, m) ∧ ¬ G.Fz g ∧ BRel w.heap G b g m) : ∀ (n : Nat) {v u : AV} {c : Value}, view σ n v = some u → VRel w.heap G v c → VRel w.heap (frozen G σ) u c := by
  intro n
  induction n using Nat.strongRecOn with
  | _ n ih =>
  intro v u c h r
  cases n with
  | zero => cases h
  | succ n =>
    have own : ∀ {x g m b}, σ.blk x = some b → G.bm x = some (g, m) → (frozen G σ).Fz g := fun hb hm => .inr ⟨_, _, _, hb, hm⟩
    have ihn : ∀ {v u : AV} {c : Value}, view σ n v = some u → VRel w.heap G v c → VRel w.heap (frozen G σ) u c := fun h r => ih n (by omega) h r
    have ihp : ∀ {v u : AV} {c : Value}, view σ n.pred v = some u → VRel w.heap G v c → VRel w.heap (frozen G σ) u c := fun h r => ih n.pred (by have := Nat.pred_le n; omega) h r
    cases r with
    | undef => simp [view] at h
    | bool => cases h; exact .bool
    | int => cases h; exact .int
    | flt e => cases h; exact .flt e
    | str => cases h; exact .str
    | nilptr => cases h; exact .nilptr
    | hptr e => simp [view] at h
    | pptr ad cs hf hc hv =>
      rename_i row off
      simp only [view, Option.map_eq_some_iff] at h
      obtain ⟨row', hr, rfl⟩ := h
      obtain ⟨l1, l2⟩ := mapM_some hr
      refine .pptr ad cs (.inl hf) (fun j v hj => ?_) (fun j v hj => ?_)
      · obtain ⟨v', h1, _⟩ := l2 _ _ hj; exact hc j v' h1
      · obtain ⟨v', h1, h2⟩ := l2 _ _ hj; exact ihn h2 (hv j v' h1)
    | gptr => simp [view] at h
    | nilslice => cases h; exact .pnil
    | pnil =>
      simp only [view, Option.map_eq_some_iff] at h
      obtain ⟨rows, hr, rfl⟩ := h
      simp at hr; subst hr
      exact .pnil
    | pslice ad cap cs hf hcap hrow hc hv =>
      rename_i sz rows
      simp only [view, Option.map_eq_some_iff] at h
      obtain ⟨rows', hr, rfl⟩ := h
      obtain ⟨l1, l2⟩ := mapM_some hr
      have rowof : ∀ (i : Nat) (q : AV), rows'[i]? = some q → ∃ row row' : List AV, q = .agg row' ∧ rows[i]? = some (.agg row) ∧ row'.length = sz ∧ ∀ (j : Nat) (z : AV), row'[j]? = some z → ∃ y, row[j]? = some y ∧ view σ n.pred y = some z := by
        intro i q hq
        obtain ⟨y, h1, h2⟩ := l2 i q hq
        obtain ⟨row, rfl, hlen⟩ := hrow i y h1
        cases n with
        | zero => cases h2
        | succ n =>
          simp only [view, Option.map_eq_some_iff] at h2
          obtain ⟨row', h3, rfl⟩ := h2
          obtain ⟨m1, m2⟩ := mapM_some h3
          exact ⟨row, row', rfl, h1, by omega, m2⟩
      rw [l1]
      refine .pslice ad cap cs (fun hp => .inl (hf (by rw [l1]; exact hp))) (by omega) (fun i q hq => ?_) (fun i row j v hi hj => ?_) (fun i row j v hi hj => ?_)
      · obtain ⟨row, row', e1, _, e3, _⟩ := rowof i q hq; exact ⟨row', e1, e3⟩
      · obtain ⟨row0, row', e1, e2, e3, e4⟩ := rowof i _ hi
        cases e1
        obtain ⟨y, e5, _⟩ := e4 j v hj
        exact hc i row0 j y e2 e5
      · obtain ⟨row0, row', e1, e2, e3, e4⟩ := rowof i _ hi
        cases e1
        obtain ⟨y, e5, e6⟩ := e4 j v hj
        exact ihp e6 (hv i row0 j y e2 e5)
    | hslice e h1 h2 =>
      rename_i sz x off len g m cap
      simp only [view] at h
      obtain ⟨cs, hcs, h⟩ := bind_some h
      simp only [Option.map_eq_some_iff] at h
      obtain ⟨rows, hr, rfl⟩ := h
      obtain ⟨l1, l2⟩ := mapM_some hr
      obtain ⟨s1, s2⟩ := splitRows_get (sz := sz) len cs
      simp only [rdN] at hcs
      split at hcs
      · rename_i cells hb
        split at hcs
        · rename_i hfit
          cases hcs
          obtain ⟨g', m', q1, _, arr, elem, q2, q3, q4, q5, q6⟩ := H _ _ hb
          rw [e] at q1; cases q1
          have hlen : rows.length = len := by omega
          have rowof : ∀ (i : Nat) (q : AV), rows[i]? = some q → ∃ row' : List AV, q = .agg row' ∧ i < len ∧ row'.length = sz ∧ ∀ (j : Nat) (z : AV), row'[j]? = some z → j < sz ∧ ∃ y, cells[off + (i * sz + j)]? = some y ∧ view σ n y = some z := by
            intro i q hq
            obtain ⟨y, h1, h2⟩ := l2 i q hq
            simp only [Option.map_eq_some_iff] at h2
            obtain ⟨row', h3, rfl⟩ := h2
            obtain ⟨m1, m2⟩ := mapM_some h3
            obtain ⟨t1, t2⟩ := s2 i y h1
            have hmul : (i + 1) * sz ≤ len * sz := Nat.mul_le_mul_right _ t1
            rw [Nat.add_mul] at hmul
            have hrl : y.length = sz := by
              rw [t2]
              simp only [List.length_take, List.length_drop]
              omega
            refine ⟨row', rfl, t1, by omega, fun j z hz => ?_⟩
            obtain ⟨y', h4, h5⟩ := m2 j z hz
            have hj := (List.getElem?_eq_some_iff.1 h4).1
            refine ⟨by omega, y', ?_, h5⟩
            rw [t2, List.getElem?_take, if_pos (by omega), List.getElem?_drop, List.getElem?_take, if_pos (by omega), List.getElem?_drop] at h4
            exact h4
          rw [← hlen]
          refine .pslice ⟨g, off, none⟩ cap (fun i j => arr.toList.getD (off + (i * sz + j)) undef) (fun _ => own hb e) (by omega) (fun i q hq => ?_) (fun i row j v hi hj => ?_) (fun i row j v hi hj => ?_)
          · obtain ⟨row', e1, _, e3, _⟩ := rowof i q hq; exact ⟨row', e1, e3⟩
          · obtain ⟨row', e1, _, _, e4⟩ := rowof i _ hi
            cases e1
            obtain ⟨_, y, e5, e6⟩ := e4 j v hj
            obtain ⟨c, c1, c2⟩ := q6 _ _ e5
            rw [← Array.getElem?_toList] at c1
            rw [add_mk, cellOf_mk q2, ← Array.getElem?_toList, c1, List.getD_eq_getElem?_getD, c1]
            exact ⟨rfl, q5.get c1⟩
          · obtain ⟨row', e1, _, _, e4⟩ := rowof i _ hi
            cases e1
            obtain ⟨_, y, e5, e6⟩ := e4 j v hj
            obtain ⟨c, c1, c2⟩ := q6 _ _ e5
            rw [← Array.getElem?_toList] at c1
            rw [List.getD_eq_getElem?_getD, c1]
            exact ihn e6 c2
        · cases hcs
      · cases hcs
    | nilmap => cases h; exact .pmnil
    | pmnil =>
      simp [view] at h
      subst h
      exact .pmnil
    | pmap hf he h1 h2 r1 r2 =>
      simp only [view] at h
      obtain ⟨ks, hk, h⟩ := bind_some h
      simp only [Option.map_eq_some_iff] at h
      obtain ⟨vs, hv, rfl⟩ := h
      obtain ⟨a1, a2⟩ := mapM_some hk
      obtain ⟨b1, b2⟩ := mapM_some hv
      refine .pmap (.inl hf) he (by omega) (by omega) (fun i k e hi hj => ?_) (fun i k e hi hj => ?_)
      · obtain ⟨y, y1, y2⟩ := a2 i k hi; exact ihn y2 (r1 i y e y1 hj)
      · obtain ⟨y, y1, y2⟩ := b2 i k hi; exact ihn y2 (r2 i y e y1 hj)
    | hmap e =>
      simp only [view] at h
      split at h
      · rename_i ks0 vs0 hb
        obtain ⟨ks, hk, h⟩ := bind_some h
        simp only [Option.map_eq_some_iff] at h
        obtain ⟨vs, hv, rfl⟩ := h
        obtain ⟨a1, a2⟩ := mapM_some hk
        obtain ⟨b1, b2⟩ := mapM_some hv
        obtain ⟨g', m', q1, _, es, clock, he, h1, h2, r1, r2⟩ := H _ _ hb
        rw [e] at q1; cases q1
        refine .pmap (own hb e) he (by omega) (by omega) (fun i k e hi hj => ?_) (fun i k e hi hj => ?_)
        · obtain ⟨y, y1, y2⟩ := a2 i k hi; exact ihn y2 (r1 i y e y1 hj)
        · obtain ⟨y, y1, y2⟩ := b2 i k hi; exact ihn y2 (r2 i y e y1 hj)
      · cases h
    | func => simp [view] at h
    | nilfunc => simp [view] at h
    | iface => simp [view] at h
    | niliface => simp [view] at h
    | agg ho h1 h2 =>
      simp only [view, Option.map_eq_some_iff] at h
      obtain ⟨row', hr, rfl⟩ := h
      obtain ⟨l1, l2⟩ := mapM_some hr
      refine .agg ho (by omega) (fun i v c hi hj => ?_)
      obtain ⟨y, y1, y2⟩ := l2 i v hi
      exact ihn y2 (h2 i y c y1 hj)
    | tuple h1 h2 =>
      simp only [view, Option.map_eq_some_iff] at h
      obtain ⟨row', hr, rfl⟩ := h
      obtain ⟨l1, l2⟩ := mapM_some hr
      refine .tuple (by omega) (fun i v c hi hj => ?_)
      obtain ⟨y, y1, y2⟩ := l2 i v hi
      exact ihn y2 (h2 i y c y1 hj)

/-- A value of plain kinds stands for the same anywhere. -/
theorem scal1_rel {v : AV} (hs : scal1 v = true) {h h' : Array Obj} {G G' : Gh} {c : Value} (r : VRel h G v c) : VRel h' G' v c := by
  cases r <;> first
    | (simp [scal1] at hs; done)
    | exact .bool
    | exact .int
    | (rename_i e; exact .flt e)
    | exact .str
    | exact .nilptr
theorem scal_agg {cs : List AV} (hs : cs.all scal1 = true) {h h' : Array Obj} {G G' : Gh} {c : Value} (r : VRel h G (.agg cs) c) : VRel h' G' (.agg cs) c := by
  cases r with
  | agg ho h1 h2 => exact .agg ho h1 fun i v c hi hj => scal1_rel (List.all_eq_true.1 hs v (List.mem_of_getElem? hi)) (h2 i v c hi hj)
theorem scal_rel {v : AV} (hs : scal v = true) {h h' : Array Obj} {G G' : Gh} {c : Value} (r : VRel h G v c) : VRel h' G' v c := by
  unfold scal at hs
  split at hs
  · exact scal_agg hs r
  · cases r with
    | tuple h1 h2 =>
      refine .tuple h1 fun i v c hi hj => ?_
      have hq := List.all_eq_true.1 hs v (List.mem_of_getElem? hi)
      split at hq
      · exact scal_agg hq (h2 i _ c hi hj)
      · exact scal1_rel hq (h2 i _ c hi hj)
  · exact scal1_rel hs r

theorem views_rel (H : ∀ x b, σ.blk x = some b → ∃ g m, G.bm x = some (g, m) ∧ ¬ G.Fz g ∧ BRel w.heap G b g m) {n : Nat} {vs us : List AV} {cs : List Value} (h : vs.mapM (view σ n) = some us) (r : VRels w.heap G vs cs) : VRels w.heap (frozen G σ) us cs := by
  obtain ⟨l1, l2⟩ := mapM_some h
  refine ⟨by rw [← l1]; exact r.1, fun i u c hi hj => ?_⟩
  obtain ⟨v, h1, h2⟩ := l2 i u hi
  exact view_rel H n h2 (r.2 i v c h1 hj)

/-- Into a call that shares nothing of the store. -/
theorem HI.alone (H : HI Z w G lm loc σ) (τ : Store) : HI (here w (frozen G τ) Store.empty Z.Gl) w (frozen G τ) (fun _ => none) [] Store.empty where
  fzlt := fun g h => by
    rcases h with h | ⟨x, b, m, hb, hm⟩
    · exact H.fzlt g h
    · exact H.bmlt x g m hm
  blk := fun x b h => by cases h
  inj := fun x y h => by simp [Store.empty] at h
  next := fun x _ => ⟨rfl, rfl⟩
  lrel := fun s n cs h => by cases h
  linj := fun s t h => by simp [Loc.get_nil] at h
  ldis := fun s h => by simp [Loc.get_nil] at h
  os := rfl
  tape := rfl
  output := rfl
  size := Nat.le_refl _
  keep := fun _ _ _ => rfl
  fresh := fun x b h => by cases h
  lfresh := fun s h => by simp [Loc.get_nil] at h
  fzfresh := fun g h => .inl h
  fz0 := fun g h => h
  bm0 := fun x p h => h
  bmlt := fun x g m h => by cases h
  glob := fun g v h => by
    obtain ⟨h1, c, h2, h3⟩ := H.glob g v h
    exact ⟨.inl h1, c, h2, h3.gmono (fun g h => Or.inl h) (fun _ _ => rfl)⟩

theorem HI.alone_back (H : HI Z w G lm loc σ) {τ : Store} (H' : HI (here w (frozen G τ) Store.empty Z.Gl) w' G' (fun _ => none) [] σ') :
    ∃ G'', HI Z w' G'' lm loc σ ∧ Le w.heap w'.heap G G'' ∧ (∀ g, G''.Fz g ↔ G.Fz g ∨ (w.heap.size ≤ g ∧ (frozen G' σ').Fz g)) ∧ G''.bm = G.bm := by
  have h1 : ∀ g, g < w.heap.size → w'.heap[g]? = w.heap[g]? := fun g hg => H'.keep g hg (fun ⟨x, b, m, hb, _⟩ => by cases hb)
  have flt : ∀ g, (frozen G' σ').Fz g → g < w'.heap.size := fun g hg => by
    rcases hg with h | ⟨x, b, m, hb, hm⟩
    · exact H'.fzlt g h
    · exact H'.bmlt x g m hm
  obtain ⟨h, le⟩ := H.quiet h1 H'.size H'.os H'.tape H'.output (fun g => w.heap.size ≤ g ∧ (frozen G' σ').Fz g) (fun g hg => ⟨hg.1, flt g hg.2⟩)
  exact ⟨_, h, le, fun g => Iff.rfl, rfl⟩
end
end Go.Asm
