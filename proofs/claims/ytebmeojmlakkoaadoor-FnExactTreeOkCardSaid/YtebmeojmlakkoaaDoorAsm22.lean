import Derived.Test.YtebmeojmlakkoaaDoorAsm21
set_option linter.all false
/- Functions: the check of a whole function, its calls, and the meaning of all of them. -/
namespace Go.Asm
section
variable {ρ : Type} {P : Program} {Z : Base} {N : Nat} {w w' : World} {G G' : Gh} {lm : Nat → Option Nat} {env : Env} {loc : Loc} {σ σ' : Store} {a : Act}
  {k : Env → Loc → Store → Option ρ} {x : ρ} {D : Ctx}

theorem run_lv1 {t : Nat} {ad : Addr} {c : Value} (ht : tyOk P t false 1 = true) (hc : cellOf w.heap ad = some c) : (loadVar t ad).run P w = .ok c w := by
  have hc' : w.cell? ad = some c := hc
  simp [loadVar, run_isAgg ht, hc']
theorem run_lvN {t n : Nat} {ad : Addr} {cs : List Value} (ht : tyOk P t true n = true) (hn : cs.length = n)
    (hc : ∀ (j : Nat) v, cs[j]? = some v → cellOf w.heap (ad.add j) = some v) : (loadVar t ad).run P w = .ok (.agg ⟨cs⟩) w := by
  have hl := run_loadCells_list (P := P) w ad cs hc
  rw [hn] at hl
  simp [loadVar, run_isAgg ht, run_sizeOf (tyOk_sz ht), hl]

theorem load_res (S : St Z N w G lm env loc σ a) (hG : D.G = Z.Gl) {d : Option Nat} {t n : Nat} {agg : Bool} {y : Operand} {y0 : Opd}
    (ht : tyOk P t agg n = true) (hy : opdOk y y0 = true) (h : opK D d (.load agg n y0) env loc σ k = some x) :
    ∃ (ad : Addr) (c : Value) (v : AV), a.eval y = .pointer (some ad) ∧ (loadVar t ad).run P w = .ok c w ∧ VRel w.heap G v c ∧ k (put env d (.v v)) loc σ = some x := by
  have her := ent_rel S hy
  simp only [opK] at h
  split at h
  · rename_i s off he
    rw [he] at her
    split at h
    · rename_i m cs hl
      obtain ⟨h0, g, hg, hf, hb⟩ := S.hi.lrel s m cs hl
      have hc := her g hg
      cases agg with
      | true =>
        simp only [cond_true] at h
        cases hb1 : (off.beq 0 && n.beq m) with
        | true =>
          rw [hb1] at h
          simp only [Bool.and_eq_true] at hb1
          have e1 := Nat.eq_of_beq_eq_true hb1.1
          have e2 := Nat.eq_of_beq_eq_true hb1.2
          subst e1; subst e2
          obtain ⟨l, a1, a2, a3, a4⟩ := block_cells hb (off := 0) (n := n) (by omega)
          rw [List.drop_zero, List.take_of_length_le (by omega)] at a3
          exact ⟨_, _, .agg cs, hc, run_lvN ht a1 a2, a3.agg a4, h⟩
        | false =>
          rw [hb1] at h
          simp only [cond_false] at h
          cases hb2 : (off + n).ble m with
          | true =>
            rw [hb2] at h
            have hle := Nat.le_of_ble_eq_true hb2
            obtain ⟨l, a1, a2, a3, a4⟩ := block_cells hb (off := off) (n := n) (by omega)
            exact ⟨_, _, .agg _, hc, run_lvN ht a1 a2, a3.agg a4, h⟩
          | false => rw [hb2] at h; cases h
      | false =>
        simp only [cond_false] at h
        obtain ⟨v, hv, h⟩ := bind_some h
        obtain ⟨arr, elem, b1, b2, b3, b3', b4⟩ := hb
        obtain ⟨u, c1, c2⟩ := b4 _ _ hv
        have := tyOk_one ht
        subst this
        exact ⟨_, _, v, hc, run_lv1 ht (by rw [cellOf_mk b1]; exact c1), c2, h⟩
    · cases h
  · rename_i p he
    rw [he] at her
    cases agg with
    | true =>
      simp only [cond_true] at h
      obtain ⟨cs, hcs, h⟩ := bind_some h
      obtain ⟨ad, l, e1, e2, e3, e4, e5⟩ := rdN_some S.hi hcs her
      exact ⟨ad, _, .agg cs, e1, run_lvN ht e2 e3, e4.agg e5, h⟩
    | false =>
      simp only [cond_false] at h
      obtain ⟨v, hv, h⟩ := bind_some h
      obtain ⟨ad, u, e1, e2, e3⟩ := rd1_some S.hi hG hv her
      have := tyOk_one ht
      subst this
      exact ⟨ad, u, v, e1, run_lv1 ht e2, e3, h⟩
end

def resOk (P : Program) : List ResultVar → List IRes → Bool
  | [], [] => true
  | .tmp t :: r, .tmp u :: r' => t.beq u && resOk P r r'
  | .cell a t :: r, .cell b agg n :: r' => a.beq b && tyOk P t agg n && resOk P r r'
  | _, _ => false
/-- The whole check of a function. -/
def fnOk (P : Program) (f : Nat) (ifn : IFn) : Bool :=
  match P.funcs[f]? with
  | some fn => (match fn.body with
    | some code => !(fn.name == "runtime.NumGoroutine") && okC P fn.ntmps ifn.body code && resOk P fn.results.toList ifn.res
    | none => false)
  | none => false

section
variable {P : Program} {Z : Base} {N : Nat} {w w' : World} {G G' : Gh} {lm : Nat → Option Nat} {env : Env} {loc : Loc} {σ σ' : Store} {a : Act} {x : AV × Store} {D : Ctx}

def rv (tmps : Array Value) : ResultVar → Sem Value
  | .tmp t => pure (tmps.getD t undef)
  | .cell q t => do loadVar t (← asAddr (tmps.getD q undef))
theorem results_eq (fn : Func) (tmps : Array Value) : results fn tmps = (do
    let vs ← fn.results.mapM (rv tmps)
    pure (if h : vs.size = 1 then vs[0] else .tuple vs)) := by
  have e : (fun x => match x with
    | ResultVar.tmp t => (pure (tmps.getD t undef) : Sem Value)
    | .cell a t => do loadVar t (← asAddr (tmps.getD a undef))) = rv tmps := by
    funext r; cases r <;> rfl
  unfold results
  rw [← e]
  rfl
theorem res_sound (S : St Z N w G lm env loc σ a) (hG : D.G = Z.Gl) : ∀ (vs : List ResultVar) (rs : List IRes) (k : List AV → Res), resOk P vs rs = true → resK D rs env loc σ k = some x →
    ∃ (us : List AV) (cs : List Value), (vs.mapM (rv a.tmps)).run P w = .ok cs w ∧ VRels w.heap G us cs ∧ k us = some x
  | [], [], k, _, hk => ⟨[], [], by simp, .nil, hk⟩
  | .tmp t :: vs, .tmp u :: rs, k, h, hk => by
    simp only [resOk, Bool.and_eq_true] at h
    have e := Nat.eq_of_beq_eq_true h.1
    subst e
    simp only [resK, resK1] at hk
    obtain ⟨v, hv, hk⟩ := val_some hk
    obtain ⟨us, cs, h1, h2, h3⟩ := res_sound S hG vs rs _ h.2 hk
    refine ⟨v :: us, a.tmps.getD t undef :: cs, ?_, .cons (S.val hv) h2, h3⟩
    have hA : (rv a.tmps (.tmp t)).run P w = .ok (a.tmps.getD t undef) w := rfl
    simp only [List.mapM_cons, Sem.run_bind, hA, Sem.run_pure, Result.andThen_ok, h1]
  | .cell q t :: vs, .cell b agg n :: rs, k, h, hk => by
    simp only [resOk, Bool.and_eq_true] at h
    have e := Nat.eq_of_beq_eq_true h.1.1
    subst e
    simp only [resK, resK1] at hk
    obtain ⟨ad, c, v, q1, q2, q3, q4⟩ := load_res (y := .tmp q) S hG h.1.2 (by simp [opdOk]) hk
    simp only [val, ent, put, Env.get_cons, if_true] at q4
    obtain ⟨us, cs, h1, h2, h3⟩ := res_sound S hG vs rs _ h.2 q4
    refine ⟨v :: us, c :: cs, ?_, .cons q3 h2, h3⟩
    have q1' : a.tmps.getD q undef = .pointer (some ad) := q1
    have hA : (rv a.tmps (.cell q t)).run P w = .ok c w := by
      have hB : (asAddr (a.tmps.getD q undef)).run P w = .ok ad w := by rw [q1']; rfl
      simp only [rv, Sem.run_bind, hB, Result.andThen_ok, q2]
    simp only [List.mapM_cons, Sem.run_bind, hA, Sem.run_pure, Result.andThen_ok, h1]
  | [], _ :: _, _, h, _ => by simp [resOk] at h
  | .tmp _ :: _, [], _, h, _ => by simp [resOk] at h
  | .cell _ _ :: _, [], _, h, _ => by simp [resOk] at h
  | .tmp _ :: _, .cell _ _ _ :: _, _, h, _ => by simp [resOk] at h
  | .cell _ _ :: _, .tmp _ :: _, _, h, _ => by simp [resOk] at h

theorem argEnv_get : ∀ (l : List AV) (i t : Nat), (argEnv i l).get t = match (if i ≤ t then l[t - i]? else none) with
    | some v => .v v
    | none => .v .undef
  | [], i, t => by simp [argEnv, Env.get_nil]
  | v :: l, i, t => by
    simp only [argEnv]
    rw [Env.get_cons, argEnv_get l (i + 1) t]
    by_cases h : i = t
    · subst h; simp
    · rw [if_neg h]
      by_cases h2 : i + 1 ≤ t
      · rw [if_pos h2, if_pos (by omega), show t - i = (t - (i + 1)) + 1 by omega]; simp
      · rw [if_neg h2, if_neg (by omega)]

theorem HI.relm (H : HI Z w G lm [] σ) (lm' : Nat → Option Nat) : HI Z w G lm' [] σ := by
  obtain ⟨a1, a2, a3, a4, a5, a6, a7, a8, a9, a10, a11, a12, a13, a14, a15, a16, a17, a18, a19⟩ := H
  exact ⟨a1, a2, a3, a4, (fun s n cs h => (by cases h)), (fun s t h => (by simp [Loc.get_nil] at h)), (fun s h => (by simp [Loc.get_nil] at h)), a8, a9, a10, a11, a12, a13, (fun s h => (by simp [Loc.get_nil] at h)), a15, a16, a17, a18, a19⟩

theorem fn_sound (hm : P.follows .mixedOrders = true) {f : Nat} {ifn : IFn} (hf : fnOk P f ifn = true) (hcall : CallOK P D.G D.call) {args : List AV} {r : AV × Store} (h : runFn D ifn args σ = some r) : Den P D.G f args σ r := by
  unfold fnOk at hf
  split at hf
  · rename_i fn hfn
    split at hf
    · rename_i code hbody
      simp only [Bool.and_eq_true] at hf
      obtain ⟨⟨h1, h2⟩, h3⟩ := hf
      refine ⟨⟨fn, hfn, by simpa using h1, by simp [hbody]⟩, fun w G cs H hr => ?_⟩
      refine calls_of_wp hfn hbody ?_
      have S : St (here w G σ D.G) fn.ntmps w G (fun _ => none) (argEnv 0 args) [] σ { tmps := cs.toArray ++ Array.replicate (fn.ntmps - cs.toArray.size) undef, defers := [] } := by
        refine ⟨H, fun t => ?_, rfl, by simp; omega⟩
        rw [argEnv_get]
        simp only [Nat.zero_le, if_true, Nat.sub_zero]
        cases ha : args[t]? with
        | none => exact VRel.undef
        | some v =>
          obtain ⟨c, c1, c2⟩ := hr.get ha
          have hlt := (List.getElem?_eq_some_iff.1 c1).1
          show VRel w.heap G v _
          rw [Array.getD_eq_getD_getElem?, Array.getElem?_append_left (by simpa using hlt)]
          simp only [List.getElem?_toArray, c1, Option.getD_some]
          exact c2
      have fin : ∀ env' loc' σ' G' lm' w' (a' : Act), retK D ifn.res env' loc' σ' = some r → St (here w G σ D.G) fn.ntmps w' G' lm' env' loc' σ' a' →
          a'.defers = [] ∧ ∃ v, (results fn a'.tmps).run P w' = .ok v w' ∧ ∃ G', HI (here w G σ D.G) w' G' (fun _ => none) [] r.2 ∧ VRel w'.heap G' r.1 v := by
        intro env' loc' σ' G' lm' w' a' hk S'
        obtain ⟨us, vs, q1, q2, q3⟩ := res_sound (x := r) S' rfl fn.results.toList ifn.res _ h3 hk
        have HH : HI (here w G σ D.G) w' G' (fun _ => none) [] σ' := (S'.hi.forget [] (fun s e h => by cases h)).relm _
        have hrun : (results fn a'.tmps).run P w' = .ok (if h : vs.toArray.size = 1 then vs.toArray[0] else .tuple vs.toArray) w' := by
          rw [results_eq, Sem.run_bind, Array.mapM_eq_mapM_toList, Sem.run_map, q1]
          rfl
        refine ⟨S'.df, _, hrun, G', ?_⟩
        split at q3
        · rename_i v
          cases q3
          obtain ⟨ql, qr⟩ := q2
          match vs, ql, qr with
          | [c], _, qr => exact ⟨HH, qr 0 v c rfl rfl⟩
        · rename_i l hne
          cases q3
          refine ⟨HH, ?_⟩
          split
          · rename_i hsz
            exfalso
            have hl1 : us.length = 1 := by rw [q2.1]; simpa using hsz
            obtain ⟨v, hv⟩ := List.length_eq_one_iff.1 hl1
            exact hne v hv
          · exact q2.tuple
      refine comp_sound hm hcall rfl ifn.body code (retK D ifn.res) [] (retK D ifn.res) (argEnv 0 args) [] σ G (fun _ => none) w _ _ h2 h S (fun e => ?_)
      cases e with
      | normal => exact fun env' loc' σ' G' lm' w' a' hk S' _ _ _ => fin env' loc' σ' G' lm' w' a' hk S'
      | ret => exact fun env' loc' σ' G' lm' w' a' hk S' _ _ _ => fin env' loc' σ' G' lm' w' a' hk S'
      | exit id => exact fun env' loc' σ' G' lm' w' a' hk S' _ _ _ => by cases hk
      | goto l => exact fun env' loc' σ' G' lm' w' a' hk S' _ _ _ => by cases hk
      | panic ch => exact fun env' loc' σ' G' lm' w' a' hk S' _ _ _ => by cases hk
      | outgrown => exact fun env' loc' σ' G' lm' w' a' hk S' _ _ _ => by cases hk
    · cases hf
  · cases hf
end
end Go.Asm
