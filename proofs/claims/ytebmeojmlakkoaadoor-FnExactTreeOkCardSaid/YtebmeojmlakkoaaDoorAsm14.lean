import Derived.Test.YtebmeojmlakkoaaDoorAsm13
set_option linter.all false
/- What each operation comes to: ninth part: calls. -/
namespace Go.Asm

section
variable {ρ : Type} {P : Program} {Z : Base} {N : Nat} {w w' : World} {G G' : Gh} {lm : Nat → Option Nat} {env : Env} {loc : Loc} {σ σ' : Store} {a : Act}
  {k : Env → Loc → Store → Option ρ} {x : ρ} {K : Act → World → Prop} {Q : Exit → Act → World → Prop} {o : Oper} {D : Ctx}

/-- A call of f with these arguments, whatever may be captured. -/
theorem run_enter {f : Nat} {args first captured : Array Value} {argTypes : Array TypeId} {fv : Operand} {ops : Array Operand} (ho : o.op = .call { callee := .value fv, args := ops, argTypes := argTypes }) (hf : a.eval fv = .func (.func f) first captured)
    (hargs : ops.map a.eval = args) (hfn : ∃ fn, P.funcs[f]? = some fn ∧ (fn.name == "runtime.NumGoroutine") = false ∧ fn.body.isNone = false) :
    (execOp a.eval o).run P w = .ok (.enter f (first ++ args ++ captured)) w := by
  obtain ⟨fn, h1, h2, h3⟩ := hfn
  unfold execOp
  simp only [ho, resolve, hf, Deferred.ofValue, hargs, Sem.run_bind, Sem.run_pure, Result.andThen_ok, invoke, callFunc, run_program, h1, h2, h3, Bool.false_eq_true, if_false]

theorem op_enter (S : St Z N w G lm env loc σ a) (C : Cont Z N k x G lm w a o.dst.toList K) (hd : ∀ t, o.dst = some t → t < N) {f : Nat} {args : Array Value} {e : AV}
    (hrun : (execOp a.eval o).run P w = .ok (.enter f args) w)
    (hc : Calls P f args w fun
      | .returned v, w' => ∃ G', HI Z w' G' lm loc σ' ∧ Le w.heap w'.heap G G' ∧ VRel w'.heap G' e v
      | _, _ => False)
    (hk : k (put env o.dst (.v e)) loc σ' = some x) : o.wp P a w K Q := by
  unfold Oper.wp
  rw [hrun]
  refine Calls.mono hc fun e' w' h => ?_
  cases e' with
  | returned v =>
    obtain ⟨G', H', le, hv⟩ := h
    refine C _ _ _ _ _ _ _ hk (S.put H' le hd (e := .v e) hv) le (fun _ _ => rfl) (fun t ht => ?_)
    cases hdst : o.dst with
    | none => rfl
    | some d =>
      rw [hdst] at ht
      have hne : d ≠ t := fun e => ht (by simp [e])
      rw [getD_put (Nat.lt_of_lt_of_le (hd d hdst) S.nt), if_neg hne]
  | panicked => exact h.elim
  | outgrown => exact h.elim

theorem den_calls (H : HI Z w G lm loc σ) {f : Nat} {args : List AV} {cs : List Value} {r : AV × Store} (h : Den P Z.Gl f args σ r) (hr : VRels w.heap G args cs) :
    Calls P f cs.toArray w fun
      | .returned v, w' => ∃ G', HI Z w' G' lm loc r.2 ∧ Le w.heap w'.heap G G' ∧ VRel w'.heap G' r.1 v
      | _, _ => False :=
  Calls.mono (h.run w G cs H.enter hr) fun e w' h => by
    cases e with
    | returned v =>
      obtain ⟨G', H', hv⟩ := h
      obtain ⟨h1, h2⟩ := H.back H'
      exact ⟨G', h1, h2, hv⟩
    | panicked => exact h
    | outgrown => exact h

theorem arr_map {ops : Array Operand} : ops.map a.eval = (ops.toList.map a.eval).toArray := by rw [← Array.toList_map, Array.toArray_toList]

theorem sound_callS (hcall : CallOK P Z.Gl D.call) (S : St Z N w G lm env loc σ a) (C : Cont Z N k x G lm w a o.dst.toList K) (hd : ∀ t, o.dst = some t → t < N) {f : Nat} {args : Array Operand} {args0 : List Opd} {argTypes : Array TypeId}
    (ho : o.op = .call { callee := .value (.func f), args := args, argTypes := argTypes }) (ha : opdsOk args.toList args0 = true)
    (h : opK D o.dst (.callS f args0) env loc σ k = some x) : o.wp P a w K Q := by
  obtain ⟨vs, hvs, h1⟩ := vals_some S ha h
  obtain ⟨r, hr, h2⟩ := bind_some h1
  have hden := hcall f vs σ r hr
  refine op_enter (e := r.1) (σ' := r.2) S C hd (run_enter ho rfl (arr_map) hden.fn) ?_ h2
  have := den_calls S.hi hden hvs
  simpa using this

theorem sound_callD (hcall : CallOK P Z.Gl D.call) (S : St Z N w G lm env loc σ a) (C : Cont Z N k x G lm w a o.dst.toList K) (hd : ∀ t, o.dst = some t → t < N) {fv : Operand} {f0 : Opd} {args : Array Operand} {args0 : List Opd} {argTypes : Array TypeId}
    (ho : o.op = .call { callee := .value fv, args := args, argTypes := argTypes }) (hf : opdOk fv f0 = true) (ha : opdsOk args.toList args0 = true)
    (h : opK D o.dst (.callD f0 args0) env loc σ k = some x) : o.wp P a w K Q := by
  obtain ⟨fa, hfa, h0⟩ := val_some h
  obtain ⟨vs, hvs, h1⟩ := vals_some S ha h0
  obtain ⟨r, hr, h2⟩ := bind_some h1
  have hfr := val_rel S hf hfa
  unfold callD at hr
  split at hr
  · rename_i f first captured
    have hden := hcall f _ σ r hr
    generalize hfv : a.eval fv = fc at hfr
    cases hfr with
    | func e1 e2 r1 r2 =>
    rename_i cf cc
    refine op_enter (e := r.1) (σ' := r.2) S C hd (run_enter ho hfv (arr_map) hden.fn) ?_ h2
    have hfirst : VRels w.heap G first cf.toList := ⟨by simpa using e1, fun i v c hv hc => r1 i v c hv (by simpa using hc)⟩
    have hcap : VRels w.heap G captured cc.toList := ⟨by simpa using e2, fun i v c hv hc => r2 i v c hv (by simpa using hc)⟩
    have hc := den_calls S.hi hden ((hfirst.append hvs).append hcap)
    have e : (cf.toList ++ args.toList.map a.eval ++ cc.toList).toArray = cf ++ (args.toList.map a.eval).toArray ++ cc := by
      apply Array.ext'
      simp
    rw [e] at hc
    exact hc
  · cases hr

theorem sound_callP (hcall : CallOK P Z.Gl D.call) (S : St Z N w G lm env loc σ a) (C : Cont Z N k x G lm w a o.dst.toList K) (hd : ∀ t, o.dst = some t → t < N) {f : Nat} {args : Array Operand} {args0 : List Opd} {argTypes : Array TypeId}
    (ho : o.op = .call { callee := .value (.func f), args := args, argTypes := argTypes }) (ha : opdsOk args.toList args0 = true)
    (h : opK D o.dst (.callP f args0) env loc σ k = some x) : o.wp P a w K Q := by
  obtain ⟨vs, hvs, h1⟩ := vals_some S ha h
  obtain ⟨u, hu, h2⟩ := bind_some h1
  unfold callP at hu
  obtain ⟨us, hus, hu1⟩ := bind_some hu
  obtain ⟨r, hr, hu2⟩ := bind_some hu1
  have hden := hcall f us Store.empty r hr
  refine op_enter (e := u) (σ' := σ) S C hd (run_enter ho rfl (arr_map) hden.fn) ?_ h2
  have hrel : VRels w.heap (frozen G Store.empty) us (args.toList.map a.eval) := views_rel (σ := Store.empty) (fun x b h => by cases h) hus hvs
  have := hden.run w (frozen G Store.empty) _ (S.hi.alone Store.empty) hrel
  refine Calls.mono (by simpa using this) fun e w' h => ?_
  cases e with
  | returned v =>
    obtain ⟨G', H', hv⟩ := h
    obtain ⟨G'', q1, q2, q3, q4⟩ := S.hi.alone_back H'
    refine ⟨G'', q1, q2, ?_⟩
    have hview := view_rel H'.blk _ hu2 hv
    have hle : Le w'.heap w'.heap (frozen G' r.2) G'' := by
      refine ⟨fun g hg => (q3 g).2 ?_, (fun x p h => (by cases h)), fun _ _ => rfl⟩
      have hg' := hg
      rcases hg with h | ⟨x, b, m, hb, hm⟩
      · rcases H'.fzfresh g h with h | h | ⟨x, b, m, hb, _⟩
        · rcases h with h | ⟨x, b, m, hb, _⟩
          · exact .inl h
          · cases hb
        · exact .inr ⟨h, hg'⟩
        · cases hb
      · rcases H'.fresh x b hb g m hm with h | ⟨x, b, m, hb, _⟩
        · exact .inr ⟨h, hg'⟩
        · cases hb
    exact hview.mono hle
  | panicked => exact h
  | outgrown => exact h

theorem sound_callV (hcall : CallOK P Z.Gl D.call) (S : St Z N w G lm env loc σ a) (C : Cont Z N k x G lm w a o.dst.toList K) (hd : ∀ t, o.dst = some t → t < N) {f : Nat} {args : Array Operand} {args0 : List Opd} {argTypes : Array TypeId}
    (ho : o.op = .call { callee := .value (.func f), args := args, argTypes := argTypes }) (ha : opdsOk args.toList args0 = true)
    (h : opK D o.dst (.callV f args0) env loc σ k = some x) : o.wp P a w K Q := by
  obtain ⟨vs, hvs, h1⟩ := vals_some S ha h
  obtain ⟨u, hu, h2⟩ := bind_some h1
  unfold callV at hu
  obtain ⟨us, hus, hu1⟩ := bind_some hu
  obtain ⟨r, hr, hu2⟩ := bind_some hu1
  have hden := hcall f us Store.empty r hr
  refine op_enter (e := u) (σ' := σ) S C hd (run_enter ho rfl (arr_map) hden.fn) ?_ h2
  have hrel : VRels w.heap (frozen G σ) us (args.toList.map a.eval) := views_rel S.hi.blk hus hvs
  have := hden.run w (frozen G σ) _ (S.hi.alone σ) hrel
  refine Calls.mono (by simpa using this) fun e w' h => ?_
  cases e with
  | returned v =>
    obtain ⟨G', H', hv⟩ := h
    obtain ⟨G'', q1, q2, q3, q4⟩ := S.hi.alone_back H'
    refine ⟨G'', q1, q2, ?_⟩
    split at hu2
    · rename_i hs
      cases hu2
      exact scal_rel hs hv
    · cases hu2
  | panicked => exact h
  | outgrown => exact h
end
end Go.Asm
