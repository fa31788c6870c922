import Derived.Test.YtebmeojmlakkoaaDoorAsm7
set_option linter.all false
/- What each operation comes to: fourth part. -/
namespace Go.Asm

def kindOk1 (P : Program) (t : Nat) : KK → Bool
  | .int k => match P.underlying t with
    | some (.int k') => decide (k = k')
    | _ => false
  | .str => match P.underlying t with
    | some .string => true
    | _ => false
  | .bool => match P.underlying t with
    | some .bool => true
    | _ => false
  | .agg _ => false
def flatOk (P : Program) : Nat → List Field → List KK → Bool
  | _, [], [] => true
  | i, f :: r, k :: ks => f.offset.beq i && f.name != "_" && kindOk1 P f.type k && flatOk P (i + 1) r ks
  | _, _, _ => false
def eqkOk (P : Program) (e : EqK) (t : Nat) : Bool :=
  match e with
  | .num => true
  | .bool => match P.underlying t with
    | some .bool => true
    | _ => false
  | .ptr => match P.underlying t with
    | some (.pointer _) => true
    | _ => false
  | .flat ks => (match P.underlying t with
    | some (.struct fs) => flatOk P 0 fs.toList ks
    | _ => false) && !P.stoodInHeld t && !P.eqGuardType P.depth t

section
variable {ρ : Type} {P : Program} {Z : Base} {N : Nat} {w : World} {G : Gh} {lm : Nat → Option Nat} {env : Env} {loc : Loc} {σ : Store} {a : Act}
  {k : Env → Loc → Store → Option ρ} {x : ρ} {K : Act → World → Prop} {Q : Exit → Act → World → Prop} {o : Oper} {D : Ctx}

theorem kind1_und {t : Nat} {kd : KK} (h : kindOk1 P t kd = true) : (∃ k, kd = .int k ∧ P.underlying t = some (.int k)) ∨ (kd = .str ∧ P.underlying t = some .string) ∨ (kd = .bool ∧ P.underlying t = some .bool) := by
  unfold kindOk1 at h
  split at h
  · split at h
    · simp at h; subst h; exact .inl ⟨_, rfl, by assumption⟩
    · cases h
  · split at h
    · exact .inr (.inl ⟨rfl, by assumption⟩)
    · cases h
  · split at h
    · exact .inr (.inr ⟨rfl, by assumption⟩)
    · cases h
  · cases h
theorem fits1_int {k : IntKind} {v : AV} (h : KK.fits1 (.int k) v = true) : ∃ n, v = .int k n := by
  unfold KK.fits1 at h
  split at h <;> simp_all
theorem fits1_str {v : AV} (h : KK.fits1 .str v = true) : ∃ s, v = .str s := by
  unfold KK.fits1 at h
  split at h <;> simp_all
theorem fits1_bool {v : AV} (h : KK.fits1 .bool v = true) : ∃ b, v = .bool b := by
  unfold KK.fits1 at h
  split at h <;> simp_all

theorem run_ceq {u v : AV} {t n : Nat} {kd : KK} (hk : kindOk1 P t kd = true) (hu : kd.fits1 u = true) (hv : kd.fits1 v = true) {b : Bool} (h : ceq u v = some b) {c d : Value}
    (hc : VRel w.heap G u c) (hd : VRel w.heap G v d) (w' : World) : (Op.equalIn (n + 1) t c d).run P w' = .ok b w' ∧ c.oneCell' = true ∧ d.oneCell' = true ∧ (isAgg t).run P w' = .ok false w' := by
  rcases kind1_und hk with ⟨kk, rfl, ht⟩ | ⟨rfl, ht⟩ | ⟨rfl, ht⟩
  · obtain ⟨m, rfl⟩ := fits1_int hu
    obtain ⟨m', rfl⟩ := fits1_int hv
    have := hc.int_inv; have := hd.int_inv; subst_vars
    simp [ceq] at h; subst h
    refine ⟨?_, rfl, rfl, by simp [isAgg, run_underlying ht]⟩
    rw [run_equalIn_int w' n t _ _ _ _ ht]; rfl
  · obtain ⟨m, rfl⟩ := fits1_str hu
    obtain ⟨m', rfl⟩ := fits1_str hv
    have := hc.str_inv; have := hd.str_inv; subst_vars
    simp [ceq] at h; subst h
    refine ⟨?_, rfl, rfl, by simp [isAgg, run_underlying ht]⟩
    rw [run_equalIn_string w' n t _ _ ht, strEq]
  · obtain ⟨m, rfl⟩ := fits1_bool hu
    obtain ⟨m', rfl⟩ := fits1_bool hv
    have := hc.bool_inv; have := hd.bool_inv; subst_vars
    simp [ceq] at h; subst h
    refine ⟨?_, rfl, rfl, by simp [isAgg, run_underlying ht]⟩
    rw [run_equalIn_bool' w' n t _ _ ht]; rfl

theorem run_flat {n : Nat} {xs ys : Array Value} : ∀ (fs : List Field) (ks : List KK) (i : Nat) (us vs : List AV) (b : Bool), flatOk P i fs ks = true → KK.fitsL ks us = true → KK.fitsL ks vs = true →
    ceqL us vs = some b → (∀ (j : Nat) u, us[j]? = some u → ∃ c : Value, xs[i + j]? = some c ∧ VRel w.heap G u c) → (∀ (j : Nat) u, vs[j]? = some u → ∃ c : Value, ys[i + j]? = some c ∧ VRel w.heap G u c) →
    (Op.eqFields (n + 1) xs ys fs).run P w = .ok b w
  | [], [], i, us, vs, b, _, h1, h2, h, _, _ => by
    cases us <;> cases vs <;> simp_all [ceqL, KK.fitsL, Op.eqFields]
  | f :: fs, kd :: ks, i, [], _, b, _, h1, _, _, _, _ => by simp [KK.fitsL] at h1
  | f :: fs, kd :: ks, i, _, [], b, _, _, h1, _, _, _ => by simp [KK.fitsL] at h1
  | f :: fs, kd :: ks, i, u :: us, v :: vs, b, hf, h1, h2, h, hx, hy => by
    simp only [flatOk, Bool.and_eq_true] at hf
    simp only [KK.fitsL, Bool.and_eq_true] at h1 h2
    obtain ⟨b1, hb1, h⟩ := bind_some h
    obtain ⟨b2, hb2, h⟩ := bind_some h
    cases h
    obtain ⟨c, hc, rc⟩ := hx 0 u rfl
    obtain ⟨d, hd, rd⟩ := hy 0 v rfl
    have hoff := Nat.eq_of_beq_eq_true hf.1.1.1
    obtain ⟨he, o1, o2, ha⟩ := run_ceq (n := n) hf.1.2 h1.1 h2.1 hb1 rc rd w
    have hnm : f.name ≠ "_" := by simpa using hf.1.1.2
    have hp : ∀ (zs : Array Value) (z : Value), zs[i + 0]? = some z → (part f.type zs f.offset).run P w = .ok z w := by
      intro zs z hz
      rw [hoff]
      simp only [Nat.add_zero] at hz
      simp [part, ha, hz]
    simp only [Op.eqFields, if_pos hnm, Sem.run_bind, hp xs c hc, hp ys d hd, Result.andThen_ok, he]
    cases b1
    · simp
    · simp only [Bool.not_true, Bool.false_eq_true, if_false, Bool.true_and]
      exact run_flat fs ks (i + 1) us vs b2 hf.2 h1.2 h2.2 hb2 (fun j u hj => by have := hx (j + 1) u (by simpa using hj); rwa [show i + 1 + j = i + (j + 1) by omega])
        (fun j u hj => by have := hy (j + 1) u (by simpa using hj); rwa [show i + 1 + j = i + (j + 1) by omega])
  | [], _ :: _, _, _, _, _, h, _, _, _, _, _ => by simp [flatOk] at h
  | _ :: _, [], _, _, _, _, h, _, _, _, _, _ => by simp [flatOk] at h

theorem run_eqV {e : EqK} {t : Nat} (he : eqkOk P e t = true) {u v : AV} {b : Bool} (h : eqV e u v = some b) {c d : Value} (hc : VRel w.heap G u c) (hd : VRel w.heap G v d) {op : BinOp} {y z : Operand} :
    (Op.equal t c d).run P w = .ok b w ∧ (eqGuard op t y z c d).run P w = .ok () w ∧ (∀ k n k' m, ¬ (c = .int k n ∧ d = .int k' m)) ∧ (∀ k n k' m, ¬ (c = .float k n ∧ d = .float k' m)) ∧
      (∀ s r, ¬ (c = .string s ∧ d = .string r)) ∧ (∀ k m n k' m' n', ¬ (c = .complex k m n ∧ d = .complex k' m' n')) := by
  have eqm : ∀ x y, Op.equal t x y = Op.equalIn (9999 + 1) t x y := fun _ _ => rfl
  cases e with
  | num => cases h
  | bool =>
    simp only [eqV] at h
    split at h
    · cases h
      have := hc.bool_inv; have := hd.bool_inv; subst_vars
      simp only [eqkOk] at he
      split at he
      · rename_i ht
        refine ⟨?_, by simp [eqGuard], by simp, by simp, by simp, by simp⟩
        rw [eqm, run_equalIn_bool' w 9999 t _ _ ht]; rfl
      · cases he
    · cases h
  | ptr =>
    simp only [eqkOk] at he
    split at he
    · rename_i el ht
      simp only [eqV] at h
      have key : ∀ (p q : Option Addr), (p = none ∨ q = none) → (Op.equal t (.pointer p) (.pointer q)).run P w = .ok (p.isNone && q.isNone) w := by
        intro p q hpq
        rw [eqm]
        generalize 9999 = n9
        rcases hpq with rfl | rfl
        · simp [Op.equalIn, run_underlying ht]
        · cases p <;> simp [Op.equalIn, run_underlying ht]
      have fin : ∀ (p q : Option Addr), (p = none ∨ q = none) → c = .pointer p → d = .pointer q → b = (p.isNone && q.isNone) → _ := fun p q hpq hcp hdq hb =>
        (show (Op.equal t c d).run P w = .ok b w ∧ (eqGuard op t y z c d).run P w = .ok () w ∧ (∀ k n k' m, ¬ (c = .int k n ∧ d = .int k' m)) ∧ (∀ k n k' m, ¬ (c = .float k n ∧ d = .float k' m)) ∧
          (∀ s r, ¬ (c = .string s ∧ d = .string r)) ∧ (∀ k m n k' m' n', ¬ (c = .complex k m n ∧ d = .complex k' m' n')) from by
          subst hcp; subst hdq; subst hb
          exact ⟨key p q hpq, by simp [eqGuard], by simp, by simp, by simp, by simp⟩)
      split at h <;> cases h <;> cases hc <;> cases hd
      all_goals first
        | exact fin none none (.inl rfl) rfl rfl rfl
        | exact fin (some _) none (.inr rfl) rfl rfl rfl
        | exact fin none (some _) (.inl rfl) rfl rfl rfl
    · cases he
  | flat ks =>
    simp only [eqkOk, Bool.and_eq_true] at he
    simp only [eqV] at h
    split at h
    · split at h
      · rename_i hfit
        simp only [Bool.and_eq_true] at hfit
        obtain ⟨⟨he1, he2⟩, he3⟩ := he
        split at he1
        · rename_i fs ht
          have hfs : P.fieldsOf t = fs := by simp [Program.fieldsOf, ht]
          cases hc with
          | agg o1 l1 r1 => cases hd with
            | agg o2 l2 r2 =>
              refine ⟨?_, run_eqGuard_agg w op t y z _ _ (by simpa using he3), by simp, by simp, by simp, by simp⟩
              rw [eqm, run_equalIn_agg w 9999 t _ _ (by rw [hfs]; exact ht) (by simpa using he2), hfs]
              exact run_flat (n := 9998) _ ks 0 _ _ b he1 hfit.1 hfit.2 h
                (fun j u hj => by rw [Nat.zero_add]; exact VRels.arr (VRels.of_agg (.agg o1 l1 r1)) j u hj)
                (fun j u hj => by rw [Nat.zero_add]; exact VRels.arr (VRels.of_agg (.agg o2 l2 r2)) j u hj)
        · cases he1
      · cases h
    · cases h

theorem run_bin {op : BinOp} {e : EqK} {t : Nat} (he : eqkOk P e t = true) {u v q : AV} (h : bin op e u v = some q) {c d : Value} (hc : VRel w.heap G u c) (hd : VRel w.heap G v d) {y z : Operand} :
    ∃ r w', (do eqGuard op t y z c d; binOp op t c d : Sem Value).run P w = .ok r w' ∧ Drew w w' ∧ VRel w.heap G q r := by
  have lift : ∀ {r w'}, (eqGuard op t y z c d).run P w = .ok () w → (binOp op t c d).run P w = .ok r w' → (do eqGuard op t y z c d; binOp op t c d : Sem Value).run P w = .ok r w' := by
    intro r w' h1 h2
    rw [Sem.run_bind, h1]
    exact h2
  unfold bin at h
  split at h
  · -- ints
    have := hc.int_inv; have := hd.int_inv; subst_vars
    have hg : ∀ k n k' m, (eqGuard op t y z (.int k n) (.int k' m)).run P w = .ok () w := by intro k n k' m; cases op <;> simp [eqGuard]
    split at h
    · obtain ⟨r, h1, h2⟩ := run_shBin (P := P) (w := w) (G := G) (t := t) (kd' := by assumption) (.inl rfl) h
      exact ⟨r, w, lift (hg _ _ _ _) h1, .refl w, h2⟩
    · obtain ⟨r, h1, h2⟩ := run_shBin (P := P) (w := w) (G := G) (t := t) (kd' := by assumption) (.inr rfl) h
      exact ⟨r, w, lift (hg _ _ _ _) h1, .refl w, h2⟩
    · split at h
      · rename_i hk; subst hk
        obtain ⟨r, h1, h2⟩ := run_intBin (P := P) (w := w) (G := G) (t := t) h
        exact ⟨r, w, lift (hg _ _ _ _) h1, .refl w, h2⟩
      · cases h
  · obtain ⟨b, rfl, e1⟩ := hc.flt_inv
    obtain ⟨b', rfl, e2⟩ := hd.flt_inv
    obtain ⟨r, w', h1, h2, h3⟩ := run_fltBin (P := P) (w := w) (G := G) (t := t) h e1 e2
    exact ⟨r, w', lift (by cases op <;> simp [eqGuard]) h1, h2, h3⟩
  · have := hc.str_inv; have := hd.str_inv; subst_vars
    obtain ⟨r, h1, h2⟩ := run_strBin (P := P) (w := w) (G := G) (t := t) h
    exact ⟨r, w, lift (by cases op <;> simp [eqGuard]) h1, .refl w, h2⟩
  · split at h
    · rw [Option.map_eq_some_iff] at h
      obtain ⟨b, hb, rfl⟩ := h
      obtain ⟨h1, h2, h3, h4, h5, h6⟩ := run_eqV (w := w) (op := .eql) (y := y) (z := z) he hb hc hd
      refine ⟨.bool b, w, lift h2 ?_, .refl w, .bool⟩
      have hb' : binOp .eql t c d = (do pure (.bool (← Op.equal t c d))) := by
        unfold binOp
        split <;> first
          | rfl
          | exact absurd ⟨rfl, rfl⟩ (h3 _ _ _ _)
          | exact absurd ⟨rfl, rfl⟩ (h4 _ _ _ _)
          | exact absurd ⟨rfl, rfl⟩ (h5 _ _)
          | exact absurd ⟨rfl, rfl⟩ (h6 _ _ _ _ _ _)
          | simp_all
      rw [hb', Sem.run_bind, h1]; rfl
    · rw [Option.map_eq_some_iff] at h
      obtain ⟨b, hb, rfl⟩ := h
      obtain ⟨h1, h2, h3, h4, h5, h6⟩ := run_eqV (w := w) (op := .neq) (y := y) (z := z) he hb hc hd
      refine ⟨.bool !b, w, lift h2 ?_, .refl w, .bool⟩
      have hb' : binOp .neq t c d = (do pure (.bool (!(← Op.equal t c d)))) := by
        unfold binOp
        split <;> first
          | rfl
          | exact absurd ⟨rfl, rfl⟩ (h3 _ _ _ _)
          | exact absurd ⟨rfl, rfl⟩ (h4 _ _ _ _)
          | exact absurd ⟨rfl, rfl⟩ (h5 _ _)
          | exact absurd ⟨rfl, rfl⟩ (h6 _ _ _ _ _ _)
          | simp_all
      rw [hb', Sem.run_bind, h1]; rfl
    · cases h

/-- A step that leaves a value after some draws. -/
theorem op_drew (S : St Z N w G lm env loc σ a) (C : Cont Z N k x G lm w a o.dst.toList K) (hd : ∀ t, o.dst = some t → t < N) {c : Value} {v : AV} {w' : World}
    (hrun : (execOp a.eval o).run P w = .ok (.value c) w') (hw : Drew w w') (he : VRel w.heap G v c) (hk : k (put env o.dst (.v v)) loc σ = some x) : o.wp P a w K Q := by
  have le : Le w.heap w'.heap G G := by rw [hw.1]; exact .refl _ _
  exact op_done S C (.inl hrun) (S.hi.draw w' hw.1 hw.2.1 hw.2.2.1 hw.2.2.2) le hd (e := .v v) (he.mono le) hk

theorem sound_bin (S : St Z N w G lm env loc σ a) (C : Cont Z N k x G lm w a o.dst.toList K) (hd : ∀ t, o.dst = some t → t < N) {op : BinOp} {t : Nat} {ty : TypeId} {y z : Operand} {y0 z0 : Opd} {e : EqK}
    (ho : o.op = .binOp op t y z ty) (hy : opdOk y y0 = true) (hz : opdOk z z0 = true) (he : eqkOk P e t = true)
    (hk : opK D o.dst (.bin op e y0 z0) env loc σ k = some x) : o.wp P a w K Q := by
  simp only [opK] at hk
  obtain ⟨u, hu, hk⟩ := val_some hk
  obtain ⟨v, hv, hk⟩ := val_some hk
  obtain ⟨q, hq, hk⟩ := bind_some hk
  obtain ⟨r, w', h1, h2, h3⟩ := run_bin (P := P) (y := y) (z := z) he hq (val_rel S hy hu) (val_rel S hz hv)
  refine op_drew S C hd (w' := w') (c := r) ?_ h2 h3 hk
  unfold execOp
  simp only [ho]
  rw [Sem.run_bind, h1]; rfl

theorem sound_un (S : St Z N w G lm env loc σ a) (C : Cont Z N k x G lm w a o.dst.toList K) (hd : ∀ t, o.dst = some t → t < N) {op : UnOp} {ty : TypeId} {y : Operand} {y0 : Opd}
    (ho : o.op = .unOp op ty y) (hy : opdOk y y0 = true)
    (hk : opK D o.dst (.un op y0) env loc σ k = some x) : o.wp P a w K Q := by
  simp only [opK] at hk
  obtain ⟨u, hu, hk⟩ := val_some hk
  obtain ⟨q, hq, hk⟩ := bind_some hk
  have hr := val_rel S hy hu
  have key : ∃ r, (Op.unary op (a.eval y)).run P w = .ok r w ∧ VRel w.heap G q r := by
    unfold un at hq
    split at hq
    · cases hq; have e := hr.int_inv; rw [e]; exact ⟨_, by simp [Op.unary, Op.intArith], .int⟩
    · cases hq; have e := hr.int_inv; rw [e]; exact ⟨_, by simp [Op.unary, Op.intBits], .int⟩
    · cases hq
      obtain ⟨b, e, hn⟩ := hr.flt_inv
      rw [e]
      refine ⟨.float .f64 (Op.negFloat .f64 b), by simp [Op.unary], .flt ?_⟩
      rcases hn with rfl | ⟨h1, h2⟩
      · exact .inl rfl
      · exact .inr ⟨by rw [neg_nan]; exact h1, by rw [neg_nan]; exact h2⟩
    · cases hq; have e := hr.bool_inv; rw [e]; exact ⟨_, by simp [Op.unary], .bool⟩
    · cases hq
  obtain ⟨r, h1, h2⟩ := key
  refine op_drew S C hd (w' := w) (c := r) ?_ (.refl w) h2 hk
  unfold execOp
  simp only [ho]
  rw [Sem.run_bind, h1]; rfl
end
end Go.Asm
