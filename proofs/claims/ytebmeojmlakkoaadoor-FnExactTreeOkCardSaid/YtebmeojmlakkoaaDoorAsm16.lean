import Derived.Test.YtebmeojmlakkoaaDoorAsm15
set_option linter.all false
/- Regions in the order of their text. -/
namespace Go.Asm

def gidx (ops : Array Oper) (o : Oper) (g : Nat) (w : Bool) : Bool :=
  match o.guard with
  | some (j, w') => (match (ops[j]?).bind (·.dst) with
    | some d => d.beq g
    | none => false) && w' == w
  | none => false
def dOk (N : Nat) (o : Oper) (d : Option Nat) : Bool :=
  match o.dst, d with
  | none, none => true
  | some a, some b => a.beq b && (a + 1).ble N
  | _, _ => false
def locFreeOp : ROp → Bool
  | .zalloc _ => false
  | .lbox _ _ _ => false
  | .store _ _ _ _ => false
  | _ => true
def locFree : RT → Bool
  | .done => true
  | .op _ r rest => locFreeOp r && locFree rest
  | .gop _ _ _ r rest => locFreeOp r && locFree rest
  | .freeze _ _ => false
  | .dia _ inner _ _ _ _ _ rest => locFree inner && locFree rest
def skipOk (ops : Array Oper) : List Nat → Nat → Nat → Bool
  | _, _, 0 => true
  | gs, i, n + 1 => match ops[i]? with
    | some o => (match o.guard with
      | some (j, _) => (match (ops[j]?).bind (·.dst) with
        | some t => memN t gs
        | none => false)
      | none => false) && skipOk ops (o.dst.toList ++ gs) (i + 1) n
    | none => false
def pickOk (o : Oper) (c a b : Opd) : Bool :=
  match o.op with
  | .pick c' a' b' => opdOk c' c && opdOk a' a && opdOk b' b
  | _ => false
def ogOk (ops : Array Oper) (o : Oper) (g i n : Nat) (w : List Nat) : Option (Nat × Bool) → Bool
  | none => o.guard.isNone
  | some (gg, ww) => gidx ops o gg ww && skipOk ops [g] i n && !memN gg w
def rtOk (P : Program) (N : Nat) (ops : Array Oper) : RT → Nat → Option Nat
  | .done, i => some i
  | .op d r rest, i => match ops[i]? with
    | some o => bif o.guard.isNone && dOk N o d && opOk P o r then rtOk P N ops rest (i + 1) else none
    | none => none
  | .gop g w d r rest, i => match ops[i]? with
    | some o => bif gidx ops o g w && dOk N o d && opOk P o r then rtOk P N ops rest (i + 1) else none
    | none => none
  | .freeze _ rest, i => rtOk P N ops rest i
  | .dia g inner d c a b og rest, i => match rtOk P N ops inner i with
    | some i' => match ops[i']? with
      | some o => bif pickOk o c a b && dOk N o (some d) && locFree inner && i.ble i' && ogOk ops o g i (i' - i) inner.writes og then rtOk P N ops rest (i' + 1) else none
      | none => none
    | none => none

section
variable {ρ : Type} {P : Program} {Z : Base} {N : Nat} {w w' : World} {G G' : Gh} {lm lm' : Nat → Option Nat} {env : Env} {loc : Loc} {σ σ' : Store} {a a' : Act}
  {k : Env → Loc → Store → Option ρ} {x : ρ} {K : Act → World → Prop} {Q : Exit → Act → World → Prop} {o : Oper} {D : Ctx} {ops : Array Oper}

theorem memN_iff {t : Nat} {l : List Nat} : memN t l = true ↔ t ∈ l := by
  induction l with
  | nil => simp [memN]
  | cons x l ih =>
    simp only [memN, Bool.or_eq_true, ih, List.mem_cons]
    constructor
    · rintro (h | h)
      · exact .inl (Nat.eq_of_beq_eq_true h).symm
      · exact .inr h
    · rintro (h | h)
      · subst h; exact .inl (beq_self _)
      · exact .inr h

theorem Cont.step {W W1 W2 : List Nat} (C : Cont Z N k x G lm w a W K) (le : Le w.heap w'.heap G G') (hlm : ∀ s, s ∉ W1 → lm' s = lm s) (htm : ∀ t, t ∉ W1 → a'.tmps.getD t undef = a.tmps.getD t undef)
    (h1 : ∀ t, t ∈ W1 → t ∈ W) (h2 : ∀ t, t ∈ W2 → t ∈ W) : Cont Z N k x G' lm' w' a' W2 K := fun env' loc' σ' G2 lm2 w2 a2 hk S le2 hl2 ht2 =>
  C env' loc' σ' G2 lm2 w2 a2 hk S (le.trans le2) (fun s hs => (hl2 s fun h => hs (h2 s h)).trans (hlm s fun h => hs (h1 s h))) (fun t ht => (ht2 t fun h => ht (h2 t h)).trans (htm t fun h => ht (h1 t h)))

theorem St.skip (S : St Z N w G lm env loc σ a) {d : Option Nat} (hd : ∀ t, d = some t → t < N) : St Z N w G lm (Go.Asm.put env d (Ent.v (.tuple []))) loc σ (a.put d Go.undef) :=
  St.put S S.hi (.refl _ _) hd (e := .v (.tuple [])) undef_rel

theorem put_other {d : Option Nat} {c : Value} (hd : ∀ t, d = some t → t < a.tmps.size) : ∀ t, t ∉ d.toList → (a.put d c).tmps.getD t undef = a.tmps.getD t undef := by
  intro t ht
  cases d with
  | none => rfl
  | some d =>
    have hne : d ≠ t := fun e => ht (by simp [e])
    rw [getD_put (hd d rfl), if_neg hne]

theorem dOk_inv {d : Option Nat} (h : dOk N o d = true) : o.dst = d ∧ ∀ t, o.dst = some t → t < N := by
  unfold dOk at h
  split at h
  · rename_i h1
    exact ⟨h1, fun t ht => by rw [h1] at ht; cases ht⟩
  · rename_i h1
    simp only [Bool.and_eq_true] at h
    have e := Nat.eq_of_beq_eq_true h.1
    subst e
    exact ⟨h1, fun t ht => by rw [h1] at ht; cases ht; exact Nat.le_of_ble_eq_true h.2⟩
  · cases h

def from_ (ops : Array Oper) (i : Nat) : List Nat := List.range' i (ops.size - i)
theorem from_cons {i : Nat} {o : Oper} (h : ops[i]? = some o) : from_ ops i = i :: from_ ops (i + 1) := by
  have hlt := (Array.getElem?_eq_some_iff.1 h).1
  unfold from_
  rw [show ops.size - i = (ops.size - (i + 1)) + 1 by omega, List.range'_succ]

theorem wpOps_wanted {i : Nat} (h : ops[i]? = some o) (hw : Region.wanted o (yielded ops a.tmps) = true) (hh : o.wp P a w (fun a' w' => wpOps P ops Q (from_ ops (i + 1)) a' w') Q) : wpOps P ops Q (from_ ops i) a w := by
  rw [from_cons h]
  simp only [wpOps, h, hw, if_true]
  exact .inl hh
theorem wpOps_skip {i : Nat} (h : ops[i]? = some o) (hw : Region.wanted o (yielded ops a.tmps) = false) (hh : wpOps P ops Q (from_ ops (i + 1)) (a.put o.dst undef) w) : wpOps P ops Q (from_ ops i) a w := by
  rw [from_cons h]
  simp only [wpOps, h, hw, Bool.false_eq_true, if_false]
  exact hh

theorem wanted_none (h : o.guard.isNone = true) {y : Nat → Option Bool} : Region.wanted o y = true := by
  unfold Region.wanted
  cases hg : o.guard with
  | none => rfl
  | some p => rw [hg] at h; cases h

theorem getD_lt {t : Nat} {c : Value} (h : a.tmps.getD t undef = c) (hc : c ≠ undef) : a.tmps[t]? = some c := by
  rw [Array.getD_eq_getD_getElem?] at h
  cases e : a.tmps[t]? with
  | none => rw [e] at h; exact absurd h.symm hc
  | some v => rw [e] at h; simpa using h

/-- Whether an operation with a guard is carried out. -/
theorem wanted_bool {g : Nat} {wd b : Bool} (hg : gidx ops o g wd = true) (ht : a.tmps.getD g undef = .bool b) : Region.wanted o (yielded ops a.tmps) = (b == wd) := by
  unfold gidx at hg
  split at hg
  · rename_i j w' hgd
    simp only [Bool.and_eq_true] at hg
    obtain ⟨h1, h2⟩ := hg
    split at h1
    · rename_i d hd
      have e := Nat.eq_of_beq_eq_true h1
      subst e
      have e2 : w' = wd := by simpa using h2
      subst e2
      have := getD_lt ht (by simp [undef])
      simp only [Region.wanted, hgd, yielded, hd, Option.bind_some, this]
      cases b <;> cases w' <;> rfl
    · cases h1
  · cases hg
theorem wanted_undef' {t : Nat} {j : Nat} {wd : Bool} (hg : o.guard = some (j, wd)) (hj : (ops[j]?).bind (·.dst) = some t) (ht : a.tmps.getD t undef = undef) : Region.wanted o (yielded ops a.tmps) = false := by
  simp only [Region.wanted, hg, yielded, hj, Option.bind_some]
  cases e : a.tmps[t]? with
  | none => rfl
  | some v =>
    have : v = undef := by rw [Array.getD_eq_getD_getElem?, e] at ht; simpa using ht
    subst this
    rfl
theorem wanted_undef {g : Nat} {wd : Bool} (hg : gidx ops o g wd = true) (ht : a.tmps.getD g undef = undef) : Region.wanted o (yielded ops a.tmps) = false := by
  unfold gidx at hg
  split at hg
  · rename_i j w' hgd
    simp only [Bool.and_eq_true] at hg
    obtain ⟨h1, h2⟩ := hg
    split at h1
    · rename_i d hd
      have e := Nat.eq_of_beq_eq_true h1
      subst e
      exact wanted_undef' hgd hd ht
    · cases h1
  · cases hg

theorem VRel.unit_inv {h : Array Obj} {c : Value} (r : VRel h G (.tuple []) c) : c = Go.undef := by
  cases r with
  | tuple h1 h2 =>
    rename_i arr
    have : arr = #[] := Array.eq_empty_of_size_eq_zero (by simpa using h1.symm)
    subst this
    rfl

/-- A row of guarded operations none of which is carried out. -/
theorem skip_all : ∀ (n i : Nat) (gs : List Nat) (a : Act), skipOk ops gs i n = true → (∀ t, t ∈ gs → a.tmps.getD t undef = undef) →
    (∀ a' : Act, a'.tmps.size = a.tmps.size → a'.defers = a.defers → (∀ t, a'.tmps.getD t undef = a.tmps.getD t undef ∨ (∃ j o, i ≤ j ∧ j < i + n ∧ ops[j]? = some o ∧ o.dst = some t)) → (∀ t, t ∈ gs → a'.tmps.getD t undef = undef) → wpOps P ops Q (from_ ops (i + n)) a' w) →
    wpOps P ops Q (from_ ops i) a w
  | 0, i, gs, a, _, hu, h => h a rfl rfl (fun t => .inl rfl) hu
  | n + 1, i, gs, a, hs, hu, h => by
    simp only [skipOk] at hs
    split at hs
    · rename_i o ho
      simp only [Bool.and_eq_true] at hs
      obtain ⟨h1, h2⟩ := hs
      split at h1
      · rename_i j wd hg
        split at h1
        · rename_i t ht
          have hmem := memN_iff.1 h1
          refine wpOps_skip ho (wanted_undef' hg ht (hu t hmem)) ?_
          have hput : ∀ u, u ∈ o.dst.toList ++ gs → (a.put o.dst undef).tmps.getD u undef = undef := by
            intro u hm
            cases hd : o.dst with
            | none => rw [hd] at hm; exact hu u (by simpa using hm)
            | some d =>
              rw [hd] at hm
              by_cases hdl : d < a.tmps.size
              · rw [getD_put hdl]
                split
                · rfl
                · rename_i hne
                  exact hu u (by rcases List.mem_append.1 hm with q | q; · simp at q; exact absurd q.symm hne
                                 · exact q)
              · have e1 : (a.put (some d) undef).tmps = a.tmps := by simp only [Act.put]; exact Array.setIfInBounds_eq_of_size_le (Nat.not_lt.1 hdl)
                rw [e1]
                rcases List.mem_append.1 hm with q | q
                · simp at q; subst q
                  rw [Array.getD_eq_getD_getElem?, Array.getElem?_eq_none (Nat.not_lt.1 hdl)]; rfl
                · exact hu u q
          refine skip_all n (i + 1) (o.dst.toList ++ gs) (a.put o.dst undef) h2 hput (fun a' e1 e2 e3 e4 => ?_)
          rw [show i + 1 + n = i + (n + 1) by omega]
          refine h a' (by rw [e1, put_size]) (by rw [e2, put_defers]) (fun u => ?_) (fun u hm => e4 u (List.mem_append_right _ hm))
          rcases e3 u with q | ⟨j, o', q1, q2, q3, q4⟩
          · by_cases hdu : o.dst = some u
            · exact .inr ⟨i, o, Nat.le_refl _, by omega, ho, hdu⟩
            · left
              rw [q]
              cases hd : o.dst with
              | none => rfl
              | some d =>
                rw [hd] at hdu
                have hne : d ≠ u := fun e => hdu (by rw [e])
                simp only [Act.put, Array.getD_eq_getD_getElem?, Array.getElem?_setIfInBounds_ne hne]
          · exact .inr ⟨j, o', by omega, by omega, q3, q4⟩
        · cases h1
      · cases h1
    · cases hs

/-! #### what the rest of an environment comes to -/
theorem get_purge (W : List Nat) (env : Env) (t : Nat) : (purge W env).get t = if t ∈ W then .v .undef else purgeE W (env.get t) := by
  induction env with
  | nil => simp [purge, Env.get_nil, purgeE]
  | cons p r ih =>
    obtain ⟨kk, e⟩ := p
    simp only [purge]
    cases hm : memN kk W with
    | true =>
      have := memN_iff.1 hm
      simp only [cond_true]
      rw [ih, Env.get_cons]
      by_cases h : kk = t
      · subst h; rw [if_pos this, if_pos this]
      · rw [if_neg h]
    | false =>
      have hn : kk ∉ W := fun h => by rw [memN_iff.2 h] at hm; cases hm
      simp only [cond_false]
      rw [Env.get_cons, ih, Env.get_cons]
      by_cases h : kk = t
      · subst h; rw [if_pos rfl, if_pos rfl, if_neg hn]
      · rw [if_neg h, if_neg h]

theorem get_freezeEnv (s : Nat) (cs : List AV) (env : Env) (t : Nat) : (freezeEnv s cs env).get t = freezeE s cs (env.get t) := by
  induction env with
  | nil => rfl
  | cons p r ih =>
    obtain ⟨kk, e⟩ := p
    simp only [freezeEnv]
    rw [Env.get_cons, ih, Env.get_cons]
    by_cases h : kk = t
    · rw [if_pos h, if_pos h]
    · rw [if_neg h, if_neg h]

/-- A state after which only W has turned: what an older environment still says. -/
theorem St.purge (S : St Z N w G lm env loc σ a) (H' : HI Z w' G' lm' loc σ') (le : Le w.heap w'.heap G G') {W : List Nat} (hlm : ∀ s, s ∉ W → lm' s = lm s)
    (htm : ∀ t, t ∉ W → a'.tmps.getD t undef = a.tmps.getD t undef) (hdf : a'.defers = []) (hnt : N ≤ a'.tmps.size) : St Z N w' G' lm' (Go.Asm.purge W env) loc σ' a' := by
  refine ⟨H', fun t => ?_, hdf, hnt⟩
  rw [get_purge]
  split
  · exact VRel.undef
  · rename_i ht
    rw [htm t ht]
    have her := S.er t
    cases he : env.get t with
    | v v => rw [he] at her; exact VRel.mono le her
    | l s o =>
      rw [he] at her
      simp only [purgeE]
      cases hm : memN s W with
      | true => exact VRel.undef
      | false =>
        have hn : s ∉ W := fun h => by rw [memN_iff.2 h] at hm; cases hm
        intro g hg
        rw [hlm s hn] at hg
        exact her g hg

theorem opK_congr {r : ROp} (hr : locFreeOp r = true) {d : Option Nat} {k k2 : Env → Loc → Store → Option ρ} (h : ∀ env σ, k env loc σ = k2 env loc σ) : opK D d r env loc σ k = opK D d r env loc σ k2 := by
  cases r <;> first
    | (simp [locFreeOp] at hr; done)
    | (simp only [opK, h])
theorem rtK_congr : ∀ (rt : RT) (env : Env) (σ : Store) (k k2 : Kn), locFree rt = true → (∀ env σ, k env loc σ = k2 env loc σ) → rtK D rt env loc σ k = rtK D rt env loc σ k2
  | .done, env, σ, k, k2, _, h => h env σ
  | .op d r rest, env, σ, k, k2, hf, h => by
    simp only [locFree, Bool.and_eq_true] at hf
    simp only [rtK]
    exact opK_congr hf.1 fun env σ => rtK_congr rest env σ k k2 hf.2 h
  | .gop g wd d r rest, env, σ, k, k2, hf, h => by
    simp only [locFree, Bool.and_eq_true] at hf
    have h1 : ∀ env σ, rtK D rest env loc σ k = rtK D rest env loc σ k2 := fun env σ => rtK_congr rest env σ k k2 hf.2 h
    simp only [rtK, h1, opK_congr hf.1 (k := fun env loc σ => rtK D rest env loc σ k) (k2 := fun env loc σ => rtK D rest env loc σ k2) h1]
  | .freeze s rest, env, σ, k, k2, hf, h => by cases hf
  | .dia g inner d c a b og rest, env, σ, k, k2, hf, h => by
    simp only [locFree, Bool.and_eq_true] at hf
    have h1 : ∀ env σ, rtK D rest env loc σ k = rtK D rest env loc σ k2 := fun env σ => rtK_congr rest env σ k k2 hf.2 h
    simp only [rtK, h1]
end
end Go.Asm
