import Derived.Test.YtebmeojmlakkoaaDoorAsm19
set_option linter.all false
/- A resolved code tree stands for the model's code: the check, and that it is sound. -/
namespace Go.Asm

def jOk (j : JH) (w : List Nat) : Bool := j.ss.all fun p => !memN p.1 w
def okC (P : Program) (N : Nat) : IR → Code → Bool
  | .skip, .skip => true
  | .reg rt, .region _ ops false => (match rtOk P N ops rt 0 with
    | some i => i.beq ops.size
    | none => false)
  | .reg rt, .region _ ops true => drawOk P N ops rt
  | .seq a b, .seq x y => okC P N a x && okC P N b y
  | .cond c none a b, .cond c' x y => opdOk c' c && okC P N a x && okC P N b y
  | .cond c (some j) a b, .cond c' x y => opdOk c' c && okC P N a x && okC P N b y && jOk j (a.writes ++ b.writes)
  | .block id none a, .block id' x => id.beq id' && okC P N a x
  | .block id (some j) a, .block id' x => id.beq id' && okC P N a x && jOk j a.writes
  | .loop j a, .loop x => okC P N a x && jOk j a.writes
  | .exit id, .exit id' => id.beq id'
  | .ret, .ret => true
  | _, _ => false

def kont (K : Kn) (X : List (Nat × Kn)) (R : Kn) : Exit → Kn
  | .normal => K
  | .exit id => exitK X id
  | .ret => R
  | _ => fun _ _ _ => none

section
variable {P : Program} {Z : Base} {N : Nat} {w w' w0 : World} {G G' G0 : Gh} {lm lm' lm0 : Nat → Option Nat} {env env' : Env} {loc loc' : Loc} {σ σ' : Store} {a a' a0 : Act}
  {x : AV × Store} {Q : Exit → Act → World → Prop} {D : Ctx} {ops : Array Oper} {K K' R : Kn} {X X' : List (Nat × Kn)}

/-- What the end of a piece of code must be good for. -/
def Post (Z : Base) (N : Nat) (K : Kn) (X : List (Nat × Kn)) (R : Kn) (x : AV × Store) (G : Gh) (lm : Nat → Option Nat) (w : World) (a : Act) (W : List Nat) (Q : Exit → Act → World → Prop) : Prop :=
  ∀ e, Cont Z N (kont K X R e) x G lm w a W (Q e)

theorem Post.step {W W1 W2 : List Nat} (C : Post Z N K X R x G lm w a W Q) (le : Le w.heap w'.heap G G') (hlm : ∀ s, s ∉ W1 → lm' s = lm s) (htm : ∀ t, t ∉ W1 → a'.tmps.getD t undef = a.tmps.getD t undef)
    (h1 : ∀ t, t ∈ W1 → t ∈ W) (h2 : ∀ t, t ∈ W2 → t ∈ W) : Post Z N K X R x G' lm' w' a' W2 Q := fun e => (C e).step le hlm htm h1 h2
theorem Post.sub {W W2 : List Nat} (C : Post Z N K X R x G lm w a W Q) (h2 : ∀ t, t ∈ W2 → t ∈ W) : Post Z N K X R x G lm w a W2 Q :=
  C.step (W1 := []) (.refl _ _) (fun _ _ => rfl) (fun _ _ => rfl) (fun t h => by cases h) h2

/-! #### joins -/
def gv (env : Env) (t : Nat) : AV := match env.get t with
  | .v a => a
  | .l .. => .undef
theorem gatherV_eq (env : Env) (ts : List Nat) : gatherV env ts = ts.map (gv env) := by
  induction ts with
  | nil => rfl
  | cons t ts ih => simp only [gatherV, ih, List.map_cons]; rfl

theorem get_append (E F : Env) (t : Nat) (h : ∀ p ∈ E, p.1 ≠ t) : Env.get (E ++ F) t = F.get t := by
  induction E with
  | nil => rfl
  | cons p E ih =>
    obtain ⟨k, e⟩ := p
    rw [List.cons_append, Env.get_cons, if_neg (h (k, e) (by simp)), ih fun q hq => h q (by simp [hq])]

theorem get_joinEnv (env F : Env) (l : List AV) : ∀ (ts : List Nat) (t : Nat), Env.get (joinEnv ts (ts.map (gv env) ++ l) ++ F) t = if t ∈ ts then .v (gv env t) else F.get t
  | [], t => by simp [joinEnv]
  | u :: ts, t => by
    simp only [List.map_cons, List.cons_append, joinEnv]
    rw [Env.get_cons, get_joinEnv env F l ts t]
    by_cases h : u = t
    · subst h; simp
    · simp [h, Ne.symm h]

theorem get_keepEnv (W : List Nat) (ss : List (Nat × Nat)) (env : Env) (t : Nat) : (keepEnv W ss env).get t = if t ∈ W then .v .undef else keepE ss (env.get t) := by
  induction env with
  | nil => simp [keepEnv, Env.get_nil, keepE]
  | cons p r ih =>
    obtain ⟨kk, e⟩ := p
    simp only [keepEnv]
    cases hm : memN kk W with
    | true =>
      have := memN_iff.1 hm
      simp only [cond_true]
      rw [ih, Env.get_cons]
      by_cases h : kk = t
      · subst h; rw [if_pos this, if_pos this]
      · rw [if_neg h]
    | false =>
      have hn : kk ∉ W := fun h => by rw [memN_iff.2 h] at hm; cases hm
      simp only [cond_false]
      rw [Env.get_cons, ih, Env.get_cons]
      by_cases h : kk = t
      · subst h; rw [if_pos rfl, if_pos rfl, if_neg hn]
      · rw [if_neg h, if_neg h]

theorem memS_iff {s : Nat} {ss : List (Nat × Nat)} : memS s ss = true ↔ ∃ p ∈ ss, p.1 = s := by
  induction ss with
  | nil => simp [memS]
  | cons q ss ih =>
    simp only [memS, Bool.or_eq_true, ih, List.mem_cons]
    constructor
    · rintro (h | ⟨p, h1, h2⟩)
      · exact ⟨q, .inl rfl, Nat.eq_of_beq_eq_true h⟩
      · exact ⟨p, .inr h1, h2⟩
    · rintro ⟨p, rfl | h1, h2⟩
      · subst h2; exact .inl (beq_self _)
      · exact .inr ⟨p, h1, h2⟩

theorem joinLoc_get : ∀ (ss : List (Nat × Nat)) (l : List AV), gatherS loc ss = some l → l.length = ss.length ∧ ∀ s e, (joinLoc ss l).get s = some e → loc.get s = some e
  | [], l, h => by
    cases h
    exact ⟨rfl, fun s e h => by cases h⟩
  | (s0, n) :: ss, l, h => by
    simp only [gatherS] at h
    split at h
    · rename_i m cs hl
      cases hb : m.beq n with
      | false => rw [hb] at h; cases h
      | true =>
        rw [hb] at h
        simp only [cond_true] at h
        split at h
        · rename_i l' hl'
          cases h
          have e := Nat.eq_of_beq_eq_true hb
          subst e
          obtain ⟨ih1, ih2⟩ := joinLoc_get ss l' hl'
          refine ⟨by simp [ih1], fun s e he => ?_⟩
          simp only [joinLoc, AV.cells] at he
          rw [Loc.get_cons] at he
          split at he
          · rename_i hs; subst hs; rw [hl]; exact he
          · exact ih2 s e he
        · cases h
    · cases h

theorem St.join (S : St Z N w G lm env loc σ a) (S' : St Z N w' G' lm' env' loc' σ' a') (le : Le w.heap w'.heap G G') {W : List Nat} (hlm : ∀ s, s ∉ W → lm' s = lm s)
    (htm : ∀ t, t ∉ W → a'.tmps.getD t undef = a.tmps.getD t undef) {j : JH} (hj : jOk j W = true) {l : List AV} (hl : gatherS loc' j.ss = some l) :
    St Z N w' G' lm' (joinEnv j.vs (gatherV env' j.vs ++ l) ++ keepEnv W j.ss env) (joinLoc j.ss ((gatherV env' j.vs ++ l).drop j.vs.length)) σ' a' := by
  obtain ⟨h1, h2⟩ := joinLoc_get j.ss l hl
  have hd : (gatherV env' j.vs ++ l).drop j.vs.length = l := by
    rw [gatherV_eq]
    exact List.drop_left' (by simp)
  rw [hd]
  refine ⟨S'.hi.forget _ h2, fun t => ?_, S'.df, S'.nt⟩
  rw [gatherV_eq, get_joinEnv]
  split
  · have := S'.er t
    simp only [gv]
    cases he : env'.get t with
    | v v => rw [he] at this; exact this
    | l s o => exact VRel.undef
  · rw [get_keepEnv]
    split
    · exact VRel.undef
    · rename_i ht
      rw [htm t ht]
      have her := S.er t
      cases he : env.get t with
      | v v => rw [he] at her; exact VRel.mono le her
      | l s o =>
        rw [he] at her
        simp only [keepE]
        cases hm : memS s j.ss with
        | false => exact VRel.undef
        | true =>
          obtain ⟨p, hp, hps⟩ := memS_iff.1 hm
          have hnw := List.all_eq_true.1 hj p hp
          have hns : s ∉ W := fun h => by rw [hps, memN_iff.2 h] at hnw; cases hnw
          intro g hg
          rw [hlm s hns] at hg
          exact her g hg

theorem Cur.app_mk : ∀ (m : Nat) (f : List AV → Store → Res) (l : List AV) (σ : Store), l.length = m → Cur.app m (Cur.mk m f) l σ = f l σ
  | 0, f, [], σ, _ => rfl
  | m + 1, f, v :: l, σ, h => Cur.app_mk m (fun l => f (v :: l)) l σ (by simpa using h)
  | 0, f, _ :: _, σ, h => by simp at h
  | m + 1, f, [], σ, h => by simp at h

theorem gatherK_some {j : JH} {F : List AV → Store → Res} (h : gatherK j (Cur.mk j.m F) env loc σ = some x) : ∃ l, gatherS loc j.ss = some l ∧ F (gatherV env j.vs ++ l) σ = some x := by
  unfold gatherK at h
  split at h
  · rename_i l hl
    refine ⟨l, hl, ?_⟩
    rw [Cur.app_mk] at h
    · exact h
    · rw [gatherV_eq, List.length_append, List.length_map, (joinLoc_get j.ss l hl).1]; rfl
  · cases h

/-- Ahead of a join: what the joined continuation is good for. -/
theorem Post.join {W V : List Nat} (C : Post Z N K X R x G lm w a W Q) (S : St Z N w G lm env loc σ a) {j : JH} (hj : jOk j V = true) (hV : ∀ t, t ∈ V → t ∈ W) :
    Post Z N (gatherK j (Cur.mk j.m (joinC j V env K))) X R x G lm w a V Q := by
  intro e
  cases e with
  | normal =>
    intro env' loc' σ' G' lm' w' a' hk S' le hlm htm
    obtain ⟨l, hl, hk⟩ := gatherK_some hk
    exact C .normal _ _ σ' G' lm' w' a' hk (S.join S' le hlm htm hj hl) le (fun s hs => hlm s fun h => hs (hV s h)) (fun t ht => htm t fun h => ht (hV t h))
  | exit id => exact (C (.exit id)).step (W1 := []) (.refl _ _) (fun _ _ => rfl) (fun _ _ => rfl) (fun t h => by cases h) hV
  | goto l => exact (C (.goto l)).step (W1 := []) (.refl _ _) (fun _ _ => rfl) (fun _ _ => rfl) (fun t h => by cases h) hV
  | ret => exact (C (.ret)).step (W1 := []) (.refl _ _) (fun _ _ => rfl) (fun _ _ => rfl) (fun t h => by cases h) hV
  | panic ch => exact (C (.panic ch)).step (W1 := []) (.refl _ _) (fun _ _ => rfl) (fun _ _ => rfl) (fun t h => by cases h) hV
  | outgrown => exact (C (.outgrown)).step (W1 := []) (.refl _ _) (fun _ _ => rfl) (fun _ _ => rfl) (fun t h => by cases h) hV

/-! #### loops -/
/-- A loop that stands at the head of a round. -/
def LoopIn (P : Program) (c : Code) (Q : Exit → Act → World → Prop) (a : Act) (w : World) : Prop :=
  ∀ (b : Frame) (k : List Item) (cs : List Frame), ∃ e a' w', Q e a' w' ∧ Arrives P (lone (b.at a (.code c :: .inLoop c :: k)) cs w) b k cs e a' w'
theorem wp_of_loopIn {c : Code} (h : LoopIn P c Q a w) : (Code.loop c).wp P Q a w := fun b k cs =>
  let ⟨e, a', w', q, r⟩ := h b k cs
  ⟨e, a', w', q, .of_steps (.one step_loop) r⟩
theorem loopIn_round {c : Code} (h : c.wp P (Exit.then (LoopIn P c Q) Q) a w) : LoopIn P c Q a w := by
  intro b k cs
  obtain ⟨e, a₁, w₁, hq, harr⟩ := h b (.inLoop c :: k) cs
  cases e with
  | normal =>
    obtain ⟨e₂, a₂, w₂, hq₂, harr₂⟩ := hq b k cs
    exact ⟨e₂, a₂, w₂, hq₂, .of_steps (Steps.trans harr (.one step_inLoop)) harr₂⟩
  | exit id => exact ⟨_, a₁, w₁, hq, .pass (x := .inLoop c) rfl (fun _ _ => .inl (by simp)) harr⟩
  | goto l => exact ⟨_, a₁, w₁, hq, .pass (x := .inLoop c) rfl (fun _ _ => .inl (by simp)) harr⟩
  | ret => exact ⟨_, a₁, w₁, hq, .pass (x := .inLoop c) rfl (fun _ _ => .inl (by simp)) harr⟩
  | panic ch => exact ⟨_, a₁, w₁, hq, .pass (x := .inLoop c) rfl (fun _ _ => .inl (by simp)) harr⟩
  | outgrown => exact ⟨_, a₁, w₁, hq, .pass (x := .inLoop c) rfl (fun _ _ => .inl (by simp)) harr⟩

theorem lfp_some {A B : Type} {F : (A → Option B) → A → Option B} {a : A} {r : B} (h : lfp F a = some r) : Lfp F a r := by
  unfold lfp at h
  split at h
  · rename_i hex
    cases h
    exact hex.choose_spec
  · cases h
/-- What the least fixed point gives has every property that a round keeps. -/
theorem lfp_ind {A B : Type} {F : (A → Option B) → A → Option B} (S : A → B → Prop) (h : ∀ (g : A → Option B) (a : A) (r : B), (∀ a' r', g a' = some r' → S a' r') → F g a = some r → S a r) {a : A} {r : B} (hr : lfp F a = some r) : S a r :=
  lfp_some hr S h
theorem Cur.app_len : ∀ {m : Nat} {k : Cur m} {l : List AV} {σ : Store} {r : AV × Store}, Cur.app m k l σ = some r → l.length = m
  | 0, _, [], _, _, _ => rfl
  | m + 1, k, v :: l, σ, r, h => by simp [Cur.app_len (m := m) h]
  | 0, _, _ :: _, _, _, h => by cases h
  | m + 1, _, [], _, _, h => by cases h
end
end Go.Asm
