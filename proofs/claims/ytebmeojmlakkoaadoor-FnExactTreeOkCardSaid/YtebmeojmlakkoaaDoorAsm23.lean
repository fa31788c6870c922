import Derived.Test.YtebmeojmlakkoaaDoorAsm22
set_option linter.all false
/- The meaning of all functions together: the least one. -/
namespace Go.Asm

def Ole {β : Type} (a b : Option β) : Prop := ∀ r, a = some r → b = some r

section
variable {β γ : Type} {D D' : Ctx} {env : Env} {loc : Loc} {σ : Store}

theorem Ole.refl (a : Option β) : Ole a a := fun _ h => h
theorem Ole.none {b : Option β} : Ole none b := fun _ h => by cases h
theorem Ole.bind {a b : Option β} {f g : β → Option γ} (h : Ole a b) (hf : ∀ v, Ole (f v) (g v)) : Ole (a.bind f) (b.bind g) := fun r hr => by
  obtain ⟨v, hv, hr⟩ := bind_some hr
  rw [h v hv]
  exact hf v r hr
theorem Ole.bindr {a : Option β} {f g : β → Option γ} (hf : ∀ v, Ole (f v) (g v)) : Ole (a.bind f) (a.bind g) := Ole.bind (.refl a) hf
theorem Ole.val {y : Opd} {f g : AV → Option β} (h : ∀ v, Ole (f v) (g v)) : Ole (val env y f) (val env y g) := by
  unfold Go.Asm.val; split
  · exact h _
  · exact .none
theorem Ole.valO {y : Option Opd} {f g : Option AV → Option β} (h : ∀ v, Ole (f v) (g v)) : Ole (valO env y f) (valO env y g) := by
  cases y with
  | none => exact h _
  | some y => exact Ole.val fun v => h _
theorem Ole.vals : ∀ {ys : List Opd} {f g : List AV → Option β}, (∀ v, Ole (f v) (g v)) → Ole (vals env ys f) (vals env ys g)
  | [], _, _, h => h _
  | _ :: _, _, _, h => Ole.val fun _ => Ole.vals fun _ => h _
theorem Ole.aCase {x : AV} {t t' f f' : Option β} (h1 : Ole t t') (h2 : Ole f f') : Ole (aCase x t f) (aCase x t' f') := by
  unfold Go.Asm.aCase; split
  · exact h1
  · exact h2
  · exact .none
theorem Ole.cond {b : Bool} {t t' f f' : Option β} (h1 : Ole t t') (h2 : Ole f f') : Ole (bif b then t else f) (bif b then t' else f') := by
  cases b
  · exact h2
  · exact h1
theorem Ole.cellsK {agg : Bool} {n : Nat} {v : AV} {f g : List AV → Option β} (h : ∀ v, Ole (f v) (g v)) : Ole (cellsK agg n v f) (cellsK agg n v g) := by
  unfold Go.Asm.cellsK
  exact Ole.cond (Ole.bindr h) (Ole.bindr fun v => h _)
theorem Ole.buildK : ∀ {ps : List (Nat × Nat × Bool × Opd)} {cs : List AV} {f g : List AV → Option β}, (∀ v, Ole (f v) (g v)) → Ole (buildK env cs ps f) (buildK env cs ps g)
  | [], _, _, _, h => h _
  | (_, _, _, _) :: _, _, _, _, h => Ole.val fun _ => Ole.cellsK fun _ => Ole.buildK h
theorem Ole.rowsK {sz : Nat} : ∀ {ps : List (Nat × Bool × Opd)} {cs : List AV} {f g : List AV → Option β}, (∀ v, Ole (f v) (g v)) → Ole (rowsK env sz cs ps f) (rowsK env sz cs ps g)
  | [], _, _, _, h => h _
  | (_, _, _) :: _, _, _, _, h => Ole.val fun _ => Ole.cellsK fun _ => Ole.rowsK h

structure CtxLe (D D' : Ctx) : Prop where
  call : ∀ f args σ, Ole (D.call f args σ) (D'.call f args σ)
  G : D.G = D'.G
theorem CtxLe.refl (D : Ctx) : CtxLe D D := ⟨fun _ _ _ => .refl _, rfl⟩

theorem callP_mono (hD : CtxLe D D') (f : Nat) (args : List AV) : Ole (callP D f args) (callP D' f args) := Ole.bindr fun _ => Ole.bind (hD.call _ _ _) fun _ => .refl _
theorem callV_mono (hD : CtxLe D D') (f : Nat) (args : List AV) : Ole (callV D f args σ) (callV D' f args σ) := Ole.bindr fun _ => Ole.bind (hD.call _ _ _) fun _ => .refl _
theorem callD_mono (hD : CtxLe D D') (f : AV) (args : List AV) : Ole (callD D f args σ) (callD D' f args σ) := by
  unfold callD; split
  · exact hD.call _ _ _
  · exact .none

theorem opK_mono (hD : CtxLe D D') {d : Option Nat} {r : ROp} {k k' : Env → Loc → Store → Option β} (h : ∀ env loc σ, Ole (k env loc σ) (k' env loc σ)) : Ole (opK D d r env loc σ k) (opK D' d r env loc σ k') := by
  cases r with
  | mv x => exact h _ _ _
  | pick c a b => exact Ole.val fun _ => Ole.aCase (h _ _ _) (h _ _ _)
  | pickv c a b => exact Ole.val fun _ => Ole.val fun _ => Ole.val fun _ => Ole.bindr fun _ => h _ _ _
  | zalloc zero =>
    simp only [opK]
    split
    · split
      · exact h _ _ _
      · exact .none
    · exact .none
  | halloc zero => exact h _ _ _
  | pbox x => exact Ole.val fun _ => h _ _ _
  | lbox agg n x =>
    simp only [opK]
    split
    · split
      · exact Ole.val fun _ => Ole.cellsK fun _ => h _ _ _
      · exact .none
    · exact .none
  | hbox agg n x => exact Ole.val fun _ => Ole.cellsK fun _ => h _ _ _
  | build zero parts => exact Ole.buildK fun _ => h _ _ _
  | pslice sz zero len parts => exact Ole.rowsK fun _ => h _ _ _
  | hslice sz zero len parts => exact Ole.rowsK fun _ => h _ _ _
  | load agg n a =>
    simp only [opK, hD.G]
    split
    · split
      · exact Ole.cond (Ole.cond (h _ _ _) (Ole.cond (h _ _ _) .none)) (Ole.bindr fun _ => h _ _ _)
      · exact .none
    · exact Ole.cond (Ole.bindr fun _ => h _ _ _) (Ole.bindr fun _ => h _ _ _)
  | store agg n a x =>
    simp only [opK]
    refine Ole.val fun _ => Ole.cellsK fun _ => ?_
    split
    · split
      · exact Ole.cond (h _ _ _) (Ole.cond (h _ _ _) .none)
      · exact .none
    · exact Ole.bindr fun _ => h _ _ _
  | nilCheck x =>
    simp only [opK]
    split
    · split
      · exact h _ _ _
      · exact .none
    · exact Ole.bindr fun _ => h _ _ _
  | bin op e x y => exact Ole.val fun _ => Ole.val fun _ => Ole.bindr fun _ => h _ _ _
  | un op x => exact Ole.val fun _ => Ole.bindr fun _ => h _ _ _
  | conv c x => exact Ole.val fun _ => Ole.bindr fun _ => h _ _ _
  | mkIface t x => exact Ole.val fun _ => h _ _ _
  | mkFunc f first captured => exact Ole.vals fun _ => Ole.vals fun _ => h _ _ _
  | mkMap => exact h _ _ _
  | mkSlice zero n => exact Ole.val fun _ => Ole.bindr fun _ => h _ _ _
  | sliceS x lo hi => exact Ole.val fun _ => Ole.valO fun _ => Ole.valO fun _ => Ole.bindr fun _ => h _ _ _
  | slice sz x lo hi => exact Ole.val fun _ => Ole.valO fun _ => Ole.valO fun _ => Ole.bindr fun _ => h _ _ _
  | fadd off x =>
    simp only [opK]
    split
    · split
      · exact h _ _ _
      · exact .none
    · exact Ole.bindr fun _ => h _ _ _
  | field agg off n x => exact Ole.val fun _ => Ole.bindr fun _ => h _ _ _
  | idx sz x i => exact Ole.val fun _ => Ole.val fun _ => Ole.bindr fun _ => h _ _ _
  | idxS x i => exact Ole.val fun _ => Ole.val fun _ => Ole.bindr fun _ => h _ _ _
  | look1 kk zero m x => exact Ole.val fun _ => Ole.val fun _ => Ole.bindr fun _ => h _ _ _
  | look2 kk zero m x => exact Ole.val fun _ => Ole.val fun _ => Ole.bindr fun _ => h _ _ _
  | mapSet kk m x y => exact Ole.val fun _ => Ole.val fun _ => Ole.val fun _ => Ole.bindr fun _ => h _ _ _
  | extr x i => exact Ole.val fun _ => Ole.bindr fun _ => h _ _ _
  | len kd x => exact Ole.val fun _ => Ole.bindr fun _ => h _ _ _
  | app sz s x => exact Ole.val fun _ => Ole.val fun _ => Ole.bindr fun _ => h _ _ _
  | callP f args => exact Ole.vals fun _ => Ole.bind (callP_mono hD _ _) fun _ => h _ _ _
  | callV f args => exact Ole.vals fun _ => Ole.bind (callV_mono hD _ _) fun _ => h _ _ _
  | callS f args => exact Ole.vals fun _ => Ole.bind (hD.call _ _ _) fun _ => h _ _ _
  | callD f args => exact Ole.val fun _ => Ole.vals fun _ => Ole.bind (callD_mono hD _ _) fun _ => h _ _ _

theorem rtK_mono (hD : CtxLe D D') : ∀ {rt : RT} {env : Env} {loc : Loc} {σ : Store} {k k' : Kn}, (∀ env loc σ, Ole (k env loc σ) (k' env loc σ)) → Ole (rtK D rt env loc σ k) (rtK D' rt env loc σ k')
  | .done, _, _, _, _, _, h => h _ _ _
  | .op d r rest, _, _, _, _, _, h => opK_mono hD fun _ _ _ => rtK_mono hD h
  | .gop g w d r rest, env, _, _, _, _, h => by
    simp only [rtK]
    split
    · exact Ole.cond (opK_mono hD fun _ _ _ => rtK_mono hD h) (rtK_mono hD h)
    · exact rtK_mono hD h
    · exact .none
  | .freeze s rest, _, _, _, _, _, h => by
    simp only [rtK]
    split
    · exact rtK_mono hD h
    · exact .none
  | .dia g inner d c a b og rest, env, _, _, _, _, h => by
    simp only [rtK]
    split
    · exact .none
    · split
      · exact rtK_mono hD h
      · exact .none
    · simp only [jn]
      refine Ole.val fun _ => Ole.aCase (rtK_mono hD fun _ _ _ => ?_) (rtK_mono hD fun _ _ _ => ?_)
      · exact Ole.val fun _ => Ole.aCase (Ole.val fun _ => rtK_mono hD h) (Ole.val fun _ => rtK_mono hD h)
      · exact Ole.val fun _ => Ole.aCase (Ole.val fun _ => rtK_mono hD h) (Ole.val fun _ => rtK_mono hD h)

/-! #### curried functions -/
def Cle {m : Nat} (k k' : Cur m) : Prop := ∀ (l : List AV) (σ : Store), Ole (Cur.app m k l σ) (Cur.app m k' l σ)
/-- A round that knows more gives no less. -/
def Mono {m : Nat} (F : Cur m → Cur m) : Prop := ∀ k k', Cle k k' → Cle (F k) (F k')
theorem Cur.app_mk_none : ∀ {m : Nat} {f : List AV → Store → Res} {l : List AV} {σ : Store}, l.length ≠ m → Cur.app m (Cur.mk m f) l σ = none
  | 0, _, [], _, h => absurd rfl h
  | m + 1, f, v :: l, σ, h => Cur.app_mk_none (m := m) (f := fun l => f (v :: l)) (by simpa using h)
  | 0, _, _ :: _, _, _ => rfl
  | m + 1, _, [], _, _ => rfl
theorem Cur.mk_le {m : Nat} {f g : List AV → Store → Res} (h : ∀ l σ, Ole (f l σ) (g l σ)) : Cle (Cur.mk m f) (Cur.mk m g) := fun l σ => by
  by_cases hl : l.length = m
  · rw [Cur.app_mk _ _ _ _ hl, Cur.app_mk _ _ _ _ hl]; exact h l σ
  · rw [Cur.app_mk_none hl]; exact .none
theorem Cur.mk_app : ∀ {m : Nat} (k : Cur m), Cur.mk m (fun l σ => Cur.app m k l σ) = k
  | 0, _ => rfl
  | m + 1, k => by
    funext v
    exact Cur.mk_app (m := m) (k v)
theorem Cur.ext {m : Nat} {k k' : Cur m} (h : ∀ l σ, Cur.app m k l σ = Cur.app m k' l σ) : k = k' := by
  rw [← Cur.mk_app k, ← Cur.mk_app k']
  congr 1
  funext l σ
  exact h l σ

theorem Cle.refl {m : Nat} (k : Cur m) : Cle k k := fun _ _ => .refl _
theorem Cle.succ {m : Nat} {k k' : Cur (m + 1)} (h : ∀ v, Cle (m := m) (k v) (k' v)) : Cle k k' := fun l σ => by
  cases l with
  | nil => exact .none
  | cons v l => exact h v l σ
theorem Cle.zero {k k' : Cur 0} (h : ∀ σ, Ole (k σ) (k' σ)) : Cle k k' := fun l σ => by
  cases l with
  | nil => exact h σ
  | cons v l => exact .none
theorem Cle.use0 {k k' : Cur 0} {σ : Store} (h : Cle k k') : Ole (k σ) (k' σ) := h [] σ
theorem Cle.use1 {k k' : Cur 1} {a : AV} {σ : Store} (h : Cle k k') : Ole (k a σ) (k' a σ) := h [a] σ
theorem Cle.use2 {k k' : Cur 2} {a b : AV} {σ : Store} (h : Cle k k') : Ole (k a b σ) (k' a b σ) := h [a, b] σ
theorem Cle.use3 {k k' : Cur 3} {a b c : AV} {σ : Store} (h : Cle k k') : Ole (k a b c σ) (k' a b c σ) := h [a, b, c] σ
theorem Cle.use4 {k k' : Cur 4} {a b c d : AV} {σ : Store} (h : Cle k k') : Ole (k a b c d σ) (k' a b c d σ) := h [a, b, c, d] σ
theorem Cle.use5 {k k' : Cur 5} {a b c d e : AV} {σ : Store} (h : Cle k k') : Ole (k a b c d e σ) (k' a b c d e σ) := h [a, b, c, d, e] σ
theorem Cle.use6 {k k' : Cur 6} {a b c d e f : AV} {σ : Store} (h : Cle k k') : Ole (k a b c d e f σ) (k' a b c d e f σ) := h [a, b, c, d, e, f] σ
theorem Cle.use7 {k k' : Cur 7} {a0 a1 a2 a3 a4 a5 a6 : AV} {σ : Store} (h : Cle k k') : Ole (k a0 a1 a2 a3 a4 a5 a6 σ) (k' a0 a1 a2 a3 a4 a5 a6 σ) := h [a0, a1, a2, a3, a4, a5, a6] σ
theorem Cle.use8 {k k' : Cur 8} {a0 a1 a2 a3 a4 a5 a6 a7 : AV} {σ : Store} (h : Cle k k') : Ole (k a0 a1 a2 a3 a4 a5 a6 a7 σ) (k' a0 a1 a2 a3 a4 a5 a6 a7 σ) := h [a0, a1, a2, a3, a4, a5, a6, a7] σ
theorem Cle.use9 {k k' : Cur 9} {a0 a1 a2 a3 a4 a5 a6 a7 a8 : AV} {σ : Store} (h : Cle k k') : Ole (k a0 a1 a2 a3 a4 a5 a6 a7 a8 σ) (k' a0 a1 a2 a3 a4 a5 a6 a7 a8 σ) := h [a0, a1, a2, a3, a4, a5, a6, a7, a8] σ
theorem Cle.use10 {k k' : Cur 10} {a0 a1 a2 a3 a4 a5 a6 a7 a8 a9 : AV} {σ : Store} (h : Cle k k') : Ole (k a0 a1 a2 a3 a4 a5 a6 a7 a8 a9 σ) (k' a0 a1 a2 a3 a4 a5 a6 a7 a8 a9 σ) := h [a0, a1, a2, a3, a4, a5, a6, a7, a8, a9] σ
theorem Cle.use11 {k k' : Cur 11} {a0 a1 a2 a3 a4 a5 a6 a7 a8 a9 a10 : AV} {σ : Store} (h : Cle k k') : Ole (k a0 a1 a2 a3 a4 a5 a6 a7 a8 a9 a10 σ) (k' a0 a1 a2 a3 a4 a5 a6 a7 a8 a9 a10 σ) := h [a0, a1, a2, a3, a4, a5, a6, a7, a8, a9, a10] σ
theorem Cle.use12 {k k' : Cur 12} {a0 a1 a2 a3 a4 a5 a6 a7 a8 a9 a10 a11 : AV} {σ : Store} (h : Cle k k') : Ole (k a0 a1 a2 a3 a4 a5 a6 a7 a8 a9 a10 a11 σ) (k' a0 a1 a2 a3 a4 a5 a6 a7 a8 a9 a10 a11 σ) := h [a0, a1, a2, a3, a4, a5, a6, a7, a8, a9, a10, a11] σ
theorem Cle.use13 {k k' : Cur 13} {a0 a1 a2 a3 a4 a5 a6 a7 a8 a9 a10 a11 a12 : AV} {σ : Store} (h : Cle k k') : Ole (k a0 a1 a2 a3 a4 a5 a6 a7 a8 a9 a10 a11 a12 σ) (k' a0 a1 a2 a3 a4 a5 a6 a7 a8 a9 a10 a11 a12 σ) := h [a0, a1, a2, a3, a4, a5, a6, a7, a8, a9, a10, a11, a12] σ
theorem Cle.use14 {k k' : Cur 14} {a0 a1 a2 a3 a4 a5 a6 a7 a8 a9 a10 a11 a12 a13 : AV} {σ : Store} (h : Cle k k') : Ole (k a0 a1 a2 a3 a4 a5 a6 a7 a8 a9 a10 a11 a12 a13 σ) (k' a0 a1 a2 a3 a4 a5 a6 a7 a8 a9 a10 a11 a12 a13 σ) := h [a0, a1, a2, a3, a4, a5, a6, a7, a8, a9, a10, a11, a12, a13] σ
theorem Ole.jn {m : Nat} {K K' : Cur m} {F F' : Cur m → Res} (h1 : Cle K K') (h2 : ∀ k k', Cle k k' → Ole (F k) (F' k')) : Ole (jn m K F) (jn m K' F') := h2 _ _ h1

theorem gatherK_mono {j : JH} {k k' : Cur j.m} (h : Cle k k') : ∀ env loc σ, Ole (gatherK j k env loc σ) (gatherK j k' env loc σ) := fun env loc σ => by
  unfold gatherK
  split
  · exact h _ _
  · exact .none
theorem joinC_mono {j : JH} {W : List Nat} {K K' : Kn} (h : ∀ env loc σ, Ole (K env loc σ) (K' env loc σ)) : Cle (Cur.mk j.m (joinC j W env K)) (Cur.mk j.m (joinC j W env K')) :=
  Cur.mk_le fun _ _ => h _ _ _

/-! #### least fixed points -/
section
variable {A B : Type} {F F' : (A → Option B) → A → Option B}
def MonoF (F : (A → Option B) → A → Option B) : Prop := ∀ g h, (∀ a, Ole (g a) (h a)) → ∀ a, Ole (F g a) (F h a)
theorem Lfp.close {g : A → Option B} {a : A} {r : B} (hg : ∀ a' r', g a' = some r' → Lfp F a' r') (h : F g a = some r) : Lfp F a r :=
  fun S hS => hS g a r (fun a' r' e => hg a' r' e S hS) h
theorem Lfp.inv {a : A} {r : B} (h : Lfp F a r) : ∃ g : A → Option B, (∀ a' r', g a' = some r' → Lfp F a' r') ∧ F g a = some r :=
  (h (fun a r => Lfp F a r ∧ ∃ g : A → Option B, (∀ a' r', g a' = some r' → Lfp F a' r') ∧ F g a = some r)
    (fun g _ _ hg hF => ⟨Lfp.close (fun a' r' e => (hg a' r' e).1) hF, g, fun a' r' e => (hg a' r' e).1, hF⟩)).2
theorem Lfp.unique (hF : MonoF F) {a : A} {r : B} (h : Lfp F a r) : ∀ r', Lfp F a r' → r' = r := by
  refine (h (fun a r => Lfp F a r ∧ ∀ r', Lfp F a r' → r' = r) (fun g a r hg hr => ⟨Lfp.close (fun a' r' e => (hg a' r' e).1) hr, fun r' h' => ?_⟩)).2
  obtain ⟨g', hg', hr'⟩ := h'.inv
  let u : A → Option B := fun a => match g a with
    | some r => some r
    | none => g' a
  have h1 : ∀ a, Ole (g a) (u a) := fun a r e => by simp only [u, e]
  have h2 : ∀ a, Ole (g' a) (u a) := fun a r e => by
    simp only [u]
    cases hga : g a with
    | none => exact e
    | some q => rw [(hg a q hga).2 r (hg' a r e)]
  have e1 := hF g u h1 a r hr
  have e2 := hF g' u h2 a r' hr'
  rw [e1] at e2
  cases e2
  rfl
theorem lfp_iff (hF : MonoF F) {a : A} {r : B} : lfp F a = some r ↔ Lfp F a r := by
  constructor
  · exact lfp_some
  · intro h
    unfold lfp
    have hex : ∃ r, Lfp F a r := ⟨r, h⟩
    rw [dif_pos hex, h.unique hF _ hex.choose_spec]
theorem lfp_eq (hF : MonoF F) : lfp F = F (lfp F) := by
  funext a
  apply Option.ext
  intro r
  rw [lfp_iff hF]
  constructor
  · intro h
    obtain ⟨g, hg, hr⟩ := h.inv
    exact hF g (lfp F) (fun a r e => (lfp_iff hF).2 (hg a r e)) a r hr
  · intro h
    exact Lfp.close (fun a' r' e => (lfp_iff hF).1 e) h
theorem lfp_mono (hF : MonoF F) (hF' : MonoF F') (h : ∀ g a, Ole (F g a) (F' g a)) (a : A) : Ole (lfp F a) (lfp F' a) := fun r hr => by
  refine lfp_ind (fun a r => lfp F' a = some r) (fun g a r hg hr => ?_) hr
  rw [lfp_eq hF']
  exact hF' g (lfp F') (fun a r e => hg a r e) a r (h g a r hr)
end

def unc (m : Nat) (F : Cur m → Cur m) : (List AV × Store → Option (AV × Store)) → List AV × Store → Option (AV × Store) := fun g p => Cur.app m (F (Cur.mk m fun l σ => g (l, σ))) p.1 p.2
theorem unc_mono {m : Nat} {F : Cur m → Cur m} (hF : Mono F) : MonoF (unc m F) := fun _ _ h p => hF _ _ (Cur.mk_le fun l σ => h (l, σ)) p.1 p.2
theorem lpFix_app {m : Nat} {F : Cur m → Cur m} {l : List AV} {σ : Store} (hl : l.length = m) : Cur.app m (lpFix m F) l σ = lfp (unc m F) (l, σ) := by
  unfold lpFix
  rw [Cur.app_mk _ _ _ _ hl]
  rfl
theorem lpFix_mono {m : Nat} {F F' : Cur m → Cur m} (hF : Mono F) (hF' : Mono F') (h : ∀ x, Cle (F x) (F' x)) : Cle (lpFix m F) (lpFix m F') :=
  Cur.mk_le fun l σ => lfp_mono (unc_mono hF) (unc_mono hF') (fun _ _ => h _ _ _) _
theorem lpFix_eq {m : Nat} {F : Cur m → Cur m} (hF : Mono F) : lpFix m F = F (lpFix m F) := by
  have h1 : ∀ l σ, Cur.app m (lpFix m F) l σ = lfp (unc m F) (l, σ) ∨ l.length ≠ m := fun l σ => by
    by_cases hl : l.length = m
    · exact .inl (lpFix_app hl)
    · exact .inr hl
  apply Cur.ext
  intro l σ
  by_cases hl : l.length = m
  · rw [lpFix_app hl]
    conv => lhs; rw [lfp_eq (unc_mono hF)]
    rfl
  · cases h : Cur.app m (F (lpFix m F)) l σ with
    | none =>
      unfold lpFix
      exact Cur.app_mk_none hl
    | some r => exact absurd (Cur.app_len h) hl

theorem comp_mono : ∀ {c : IR} {D D' : Ctx} (_ : CtxLe D D') {K K' R R' : Kn} {X X' : List (Nat × Kn)} {env : Env} {loc : Loc} {σ : Store}, (∀ env loc σ, Ole (K env loc σ) (K' env loc σ)) → (∀ id env loc σ, Ole (exitK X id env loc σ) (exitK X' id env loc σ)) →
    (∀ env loc σ, Ole (R env loc σ) (R' env loc σ)) → Ole (comp D c K X R env loc σ) (comp D' c K' X' R' env loc σ) := by
  intro c
  have hX1 : ∀ {id : Nat} {K K' : Kn} {X X' : List (Nat × Kn)}, (∀ env loc σ, Ole (K env loc σ) (K' env loc σ)) → (∀ id env loc σ, Ole (exitK X id env loc σ) (exitK X' id env loc σ)) → ∀ id' env loc σ, Ole (exitK ((id, K) :: X) id' env loc σ) (exitK ((id, K') :: X') id' env loc σ) := by
    intro id K K' X X' h1 h2 id' env loc σ
    simp only [exitK]
    cases id.beq id'
    · exact h2 _ _ _ _
    · exact h1 _ _ _
  induction c with
  | skip => intro D D' hD K K' R R' X X' env loc σ hK hX hR; exact hK _ _ _
  | reg rt => intro D D' hD K K' R R' X X' env loc σ hK hX hR; exact rtK_mono hD hK
  | seq a b iha ihb => intro D D' hD K K' R R' X X' env loc σ hK hX hR; exact iha hD (fun _ _ _ => ihb hD hK hX hR) hX hR
  | cond c j a b iha ihb =>
    intro D D' hD K K' R R' X X' env loc σ hK hX hR
    cases j with
    | none => exact Ole.val fun _ => Ole.aCase (iha hD hK hX hR) (ihb hD hK hX hR)
    | some j =>
      have hk := gatherK_mono (joinC_mono (j := j) (W := a.writes ++ b.writes) (env := env) hK)
      exact Ole.val fun _ => Ole.aCase (iha hD hk hX hR) (ihb hD hk hX hR)
  | block id j a iha =>
    intro D D' hD K K' R R' X X' env loc σ hK hX hR
    cases j with
    | none => exact iha hD hK (hX1 hK hX) hR
    | some j =>
      have hk := gatherK_mono (joinC_mono (j := j) (W := a.writes) (env := env) hK)
      exact iha hD hk (hX1 hk hX) hR
  | loop j a iha =>
    intro D D' hD K K' R R' X X' env loc σ hK hX hR
    refine gatherK_mono (lpFix_mono ?_ ?_ ?_) _ _ _
    · intro u v huv
      exact joinC_mono fun _ _ _ => iha (CtxLe.refl D) (gatherK_mono huv) (fun _ _ _ _ => .refl _) (fun _ _ _ => .refl _)
    · intro u v huv
      exact joinC_mono fun _ _ _ => iha (CtxLe.refl D') (gatherK_mono huv) (fun _ _ _ _ => .refl _) (fun _ _ _ => .refl _)
    · intro u
      exact joinC_mono fun _ _ _ => iha hD (fun _ _ _ => .refl _) hX hR
  | exit id => intro D D' hD K K' R R' X X' env loc σ hK hX hR; exact hX _ _ _ _
  | ret => intro D D' hD K K' R R' X X' env loc σ hK hX hR; exact hR _ _ _

theorem resK1_mono (hD : CtxLe D D') {r : IRes} {k k' : AV → Res} (h : ∀ v, Ole (k v) (k' v)) : Ole (resK1 D r env loc σ k) (resK1 D' r env loc σ k') := by
  cases r with
  | tmp t => exact Ole.val h
  | cell a agg n =>
    unfold resK1
    exact opK_mono hD fun _ _ _ => Ole.val h
theorem resK_mono (hD : CtxLe D D') : ∀ {rs : List IRes} {k k' : List AV → Res}, (∀ v, Ole (k v) (k' v)) → Ole (resK D rs env loc σ k) (resK D' rs env loc σ k')
  | [], _, _, h => h _
  | _ :: _, _, _, h => resK1_mono hD fun _ => resK_mono hD fun _ => h _
theorem runFn_mono (hD : CtxLe D D') {ifn : IFn} {args : List AV} : Ole (runFn D ifn args σ) (runFn D' ifn args σ) := by
  have hr : ∀ env loc σ, Ole (retK D ifn.res env loc σ) (retK D' ifn.res env loc σ) := fun env loc σ => resK_mono hD fun _ => .refl _
  exact comp_mono hD hr (fun _ _ _ _ => .refl _) hr

abbrev CallF := Nat → List AV → Store → Option (AV × Store)
noncomputable def stepF (fns : Nat → Option IFn) (G : Nat → Option AV) (g : Nat × List AV × Store → Option (AV × Store)) : Nat × List AV × Store → Option (AV × Store) := fun p => match fns p.1 with
  | some ifn => runFn ⟨fun f args σ => g (f, args, σ), G⟩ ifn p.2.1 p.2.2
  | none => none
theorem stepF_mono (fns : Nat → Option IFn) (G : Nat → Option AV) : MonoF (stepF fns G) := by
  intro u v huv p
  unfold stepF
  split
  · exact runFn_mono (D := ⟨fun f args σ => u (f, args, σ), G⟩) (D' := ⟨fun f args σ => v (f, args, σ), G⟩) ⟨fun f args σ => huv (f, args, σ), rfl⟩
  · exact .none
/-- What calls come to. -/
noncomputable def den (fns : Nat → Option IFn) (G : Nat → Option AV) : CallF := fun f args σ => lfp (stepF fns G) (f, args, σ)
noncomputable def Ctx.den (fns : Nat → Option IFn) (G : Nat → Option AV) : Ctx := ⟨Go.Asm.den fns G, G⟩
theorem den_eq (fns : Nat → Option IFn) (G : Nat → Option AV) {f : Nat} {ifn : IFn} (h : fns f = some ifn) (args : List AV) (σ : Store) :
    (Ctx.den fns G).call f args σ = runFn (Ctx.den fns G) ifn args σ := by
  show lfp (stepF fns G) (f, args, σ) = _
  rw [lfp_eq (stepF_mono fns G)]
  simp only [stepF, h]
  rfl
theorem den_sound {P : Program} (hm : P.follows .mixedOrders = true) {fns : Nat → Option IFn} (G : Nat → Option AV) (hok : ∀ f ifn, fns f = some ifn → fnOk P f ifn = true) : CallOK P G (Ctx.den fns G).call := by
  intro f args σ r hr
  refine lfp_ind (fun p r => Den P G p.1 p.2.1 p.2.2 r) (fun g p r hg hr => ?_) hr
  unfold stepF at hr
  split at hr
  · rename_i ifn hf
    exact fn_sound (D := ⟨fun f args σ => g (f, args, σ), G⟩) hm (hok _ ifn hf) (fun f args σ r h => hg (f, args, σ) r h) hr
  · cases hr
end
end Go.Asm
