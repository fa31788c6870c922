import Derived.Test.YtebmeojmlakkoaaDoorAsm17
set_option linter.all false
/- Regions whose order is drawn, where no operation turns the store. -/
namespace Go.Asm

def softOp : ROp → Bool
  | .mv _ => true
  | .pickv _ _ _ => true
  | .pbox _ => true
  | .load _ _ _ => true
  | .nilCheck _ => true
  | .bin _ _ _ _ => true
  | .un _ _ => true
  | .sliceS _ _ _ => true
  | .slice _ _ _ _ => true
  | .fadd _ _ => true
  | .idx _ _ _ => true
  | .idxS _ _ => true
  | .look1 _ _ _ _ => true
  | .look2 _ _ _ _ => true
  | .extr _ _ => true
  | .len _ _ => true
  | .callP _ _ => true
  | .callV _ _ => true
  | _ => false
def opds : ROp → List Opd
  | .mv x => [x]
  | .pickv c a b => [c, a, b]
  | .pbox x => [x]
  | .load _ _ a => [a]
  | .nilCheck x => [x]
  | .bin _ _ x y => [x, y]
  | .un _ x => [x]
  | .sliceS x lo hi => x :: (lo.toList ++ hi.toList)
  | .slice _ x lo hi => x :: (lo.toList ++ hi.toList)
  | .fadd _ x => [x]
  | .idx _ x i => [x, i]
  | .idxS x i => [x, i]
  | .look1 _ _ m k => [m, k]
  | .look2 _ _ m k => [m, k]
  | .extr x _ => [x]
  | .len _ x => [x]
  | .callP _ args => args
  | .callV _ args => args
  | _ => []
def softE (D : Ctx) (r : ROp) (env : Env) (loc : Loc) (σ : Store) : Option Ent := opK D (some 0) r env loc σ fun env' _ _ => some (env'.get 0)

section
variable {ρ π : Type} {P : Program} {Z : Base} {N : Nat} {w w' : World} {G G' : Gh} {lm lm' : Nat → Option Nat} {env env' : Env} {loc : Loc} {σ σ' : Store} {a a' : Act}
  {x : AV × Store} {Q : Exit → Act → World → Prop} {o : Oper} {D : Ctx} {ops : Array Oper}

theorem val_bind {y : Opd} {f : AV → Option ρ} {g : ρ → Option π} : (val env y f).bind g = val env y fun v => (f v).bind g := by
  unfold val; split <;> rfl
theorem valO_bind {y : Option Opd} {f : Option AV → Option ρ} {g : ρ → Option π} : (valO env y f).bind g = valO env y fun v => (f v).bind g := by
  cases y with
  | none => rfl
  | some y => exact val_bind
theorem vals_bind : ∀ {ys : List Opd} {f : List AV → Option ρ} {g : ρ → Option π}, (vals env ys f).bind g = vals env ys fun v => (f v).bind g
  | [], f, g => rfl
  | y :: ys, f, g => by simp only [vals, val_bind, vals_bind]
theorem val_ent {y : Opd} (h : ent env y = ent env' y) (f : AV → Option ρ) : val env y f = val env' y f := by simp only [val, h]
theorem vals_ent : ∀ {ys : List Opd}, (∀ y ∈ ys, ent env y = ent env' y) → ∀ (f : List AV → Option ρ), vals env ys f = vals env' ys f
  | [], _, f => rfl
  | y :: ys, h, f => by
    simp only [vals]
    rw [val_ent (h y (by simp))]
    congr 1
    funext v
    exact vals_ent (fun z hz => h z (by simp [hz])) _
theorem valO_ent {y : Option Opd} (h : ∀ z ∈ y.toList, ent env z = ent env' z) (f : Option AV → Option ρ) : valO env y f = valO env' y f := by
  cases y with
  | none => rfl
  | some y => exact val_ent (h y (by simp)) _

theorem soft_eq {r : ROp} (hr : softOp r = true) {d : Option Nat} {k : Env → Loc → Store → Option ρ} : opK D d r env loc σ k = (softE D r env loc σ).bind fun e => k (put env d e) loc σ := by
  cases r with
  | load agg n a =>
    simp only [softE, opK]
    cases ent env a with
    | v p =>
      cases agg <;> simp only [cond_true, cond_false, Option.bind_assoc, put, Env.get_cons, if_true, Option.bind_some]
    | l s o' =>
      simp only []
      cases loc.get s with
      | none => rfl
      | some p =>
        obtain ⟨m, cs⟩ := p
        simp only []
        cases agg
        · simp only [cond_false, Option.bind_assoc, put, Env.get_cons, if_true, Option.bind_some]
        · simp only [cond_true]
          cases (o'.beq 0 && n.beq m)
          · simp only [cond_false]
            cases ((o' + n).ble m)
            · rfl
            · simp only [cond_true, Option.bind_some, put, Env.get_cons, if_true]
          · simp only [cond_true, Option.bind_some, put, Env.get_cons, if_true]
  | nilCheck y =>
    simp only [softE, opK]
    cases ent env y with
    | v p => simp only [Option.bind_assoc, put, Env.get_cons, if_true, Option.bind_some]
    | l s o' => simp only []; cases loc.get s <;> simp only [Option.bind_some, Option.bind_none, put, Env.get_cons, if_true]
  | fadd off y =>
    simp only [softE, opK]
    cases ent env y with
    | v p => simp only [Option.bind_assoc, put, Env.get_cons, if_true, Option.bind_some]
    | l s o' => simp only []; cases loc.get s <;> simp only [Option.bind_some, Option.bind_none, put, Env.get_cons, if_true]
  | _ => first
    | (simp [softOp] at hr; done)
    | (simp only [softE, opK, val_bind, valO_bind, vals_bind, Option.bind_assoc, Option.bind_some, put, Env.get_cons, if_true])

theorem soft_congr {r : ROp} (hr : softOp r = true) (h : ∀ y ∈ opds r, ent env y = ent env' y) : softE D r env loc σ = softE D r env' loc σ := by
  cases r with
  | load agg n a =>
    have := h a (by simp [opds])
    simp only [softE, opK, this, put, Env.get_cons, if_true]
  | nilCheck y =>
    have := h y (by simp [opds])
    simp only [softE, opK, this, put, Env.get_cons, if_true]
  | fadd off y =>
    have := h y (by simp [opds])
    simp only [softE, opK, this, put, Env.get_cons, if_true]
  | mv y => simp only [softE, opK, put, Env.get_cons, if_true, h y (by simp [opds])]
  | pickv c p q => simp only [softE, opK, put, Env.get_cons, if_true, val_ent (h c (by simp [opds])), val_ent (h p (by simp [opds])), val_ent (h q (by simp [opds]))]
  | pbox y => simp only [softE, opK, put, Env.get_cons, if_true, val_ent (h y (by simp [opds]))]
  | bin op e y z => simp only [softE, opK, put, Env.get_cons, if_true, val_ent (h y (by simp [opds])), val_ent (h z (by simp [opds]))]
  | un op y => simp only [softE, opK, put, Env.get_cons, if_true, val_ent (h y (by simp [opds]))]
  | sliceS y lo hi =>
    simp only [softE, opK, put, Env.get_cons, if_true, val_ent (h y (by simp [opds])), valO_ent (y := lo) (fun z hz => h z (by simp only [opds, List.mem_cons, List.mem_append]; exact .inr (.inl hz))),
      valO_ent (y := hi) (fun z hz => h z (by simp only [opds, List.mem_cons, List.mem_append]; exact .inr (.inr hz)))]
  | slice sz y lo hi =>
    simp only [softE, opK, put, Env.get_cons, if_true, val_ent (h y (by simp [opds])), valO_ent (y := lo) (fun z hz => h z (by simp only [opds, List.mem_cons, List.mem_append]; exact .inr (.inl hz))),
      valO_ent (y := hi) (fun z hz => h z (by simp only [opds, List.mem_cons, List.mem_append]; exact .inr (.inr hz)))]
  | idx sz y i => simp only [softE, opK, put, Env.get_cons, if_true, val_ent (h y (by simp [opds])), val_ent (h i (by simp [opds]))]
  | idxS y i => simp only [softE, opK, put, Env.get_cons, if_true, val_ent (h y (by simp [opds])), val_ent (h i (by simp [opds]))]
  | look1 kk z m q => simp only [softE, opK, put, Env.get_cons, if_true, val_ent (h m (by simp [opds])), val_ent (h q (by simp [opds]))]
  | look2 kk z m q => simp only [softE, opK, put, Env.get_cons, if_true, val_ent (h m (by simp [opds])), val_ent (h q (by simp [opds]))]
  | extr y i => simp only [softE, opK, put, Env.get_cons, if_true, val_ent (h y (by simp [opds]))]
  | len kd y => simp only [softE, opK, put, Env.get_cons, if_true, val_ent (h y (by simp [opds]))]
  | callP f args => simp only [softE, opK, put, Env.get_cons, if_true]; exact vals_ent h _
  | callV f args => simp only [softE, opK, put, Env.get_cons, if_true]; exact vals_ent h _
  | _ => simp [softOp] at hr
end

/-! #### the check of a drawn region -/
/-- The operations as a row, each with what it writes. -/
def flat : RT → Option (List (Nat × ROp))
  | .done => some []
  | .op (some d) r rest => (flat rest).map ((d, r) :: ·)
  | _ => none
def edgeTo (o : Oper) (j : Nat) : Bool := o.after.toList.any fun e => Region.binds .any e && e.on.beq j
/-- The place of the operation that writes t. -/
def wrote (t : Nat) : List (Nat × ROp) → Nat → Option Nat
  | [], _ => none
  | (d, _) :: r, i => bif d.beq t then some i else wrote t r (i + 1)
def usesOk (L : List (Nat × ROp)) (o : Oper) (i : Nat) : Opd → Bool
  | .t t => match wrote t L 0 with
    | some j => j.blt i && edgeTo o j
    | none => true
  | .c _ => true
def softRow (P : Program) (N : Nat) (ops : Array Oper) (L : List (Nat × ROp)) : List (Nat × ROp) → Nat → Bool
  | [], i => i.beq ops.size
  | (d, r) :: rest, i => (match ops[i]? with
    | some o => o.guard.isNone && dOk N o (some d) && opOk P o r && softOp r && (opds r).all (usesOk L o i) && o.after.all (fun e => !Region.binds .any e || e.on.blt i)
    | none => false) && softRow P N ops L rest (i + 1)
def nodup : List (Nat × ROp) → Bool
  | [] => true
  | (d, _) :: r => (wrote d r 0).isNone && nodup r
def drawOk (P : Program) (N : Nat) (ops : Array Oper) (rt : RT) : Bool :=
  match flat rt with
  | some L => softRow P N ops L L 0 && nodup L
  | none => false
end Go.Asm
