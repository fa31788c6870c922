import Derived.Test.YtebmeojmlakkoaaDoorAsm20
set_option linter.all false
/- A resolved code tree stands for the model's code: soundness. -/
namespace Go.Asm
section
variable {P : Program} {Z : Base} {N : Nat} {x : AV × Store} {D : Ctx}

theorem Post.of {K K' R : Kn} {X : List (Nat × Kn)} {G : Gh} {lm : Nat → Option Nat} {w : World} {a : Act} {W : List Nat} {Q Q' : Exit → Act → World → Prop} (C : Post Z N K X R x G lm w a W Q)
    (hn : Cont Z N K' x G lm w a W (Q' .normal)) (hq : ∀ e a w, e ≠ .normal → Q e a w → Q' e a w) : Post Z N K' X R x G lm w a W Q' := by
  intro e
  cases e with
  | normal => exact hn
  | exit id => exact fun env' loc' σ' G' lm' w' a' hk S' le hl ht => hq _ _ _ (by simp) (C (.exit id) env' loc' σ' G' lm' w' a' hk S' le hl ht)
  | goto l => exact fun env' loc' σ' G' lm' w' a' hk S' le hl ht => hq _ _ _ (by simp) (C (.goto l) env' loc' σ' G' lm' w' a' hk S' le hl ht)
  | ret => exact fun env' loc' σ' G' lm' w' a' hk S' le hl ht => hq _ _ _ (by simp) (C .ret env' loc' σ' G' lm' w' a' hk S' le hl ht)
  | panic ch => exact fun env' loc' σ' G' lm' w' a' hk S' le hl ht => hq _ _ _ (by simp) (C (.panic ch) env' loc' σ' G' lm' w' a' hk S' le hl ht)
  | outgrown => exact fun env' loc' σ' G' lm' w' a' hk S' le hl ht => hq _ _ _ (by simp) (C .outgrown env' loc' σ' G' lm' w' a' hk S' le hl ht)

theorem Post.block {K R : Kn} {X : List (Nat × Kn)} {G : Gh} {lm : Nat → Option Nat} {w : World} {a : Act} {W : List Nat} {Q : Exit → Act → World → Prop} {id : Nat} (C : Post Z N K X R x G lm w a W Q) :
    Post Z N K ((id, K) :: X) R x G lm w a W (Exit.inBlock id Q) := by
  intro e
  cases e with
  | normal => exact C .normal
  | exit id' =>
    intro env' loc' σ' G' lm' w' a' hk S' le hl ht
    simp only [kont, exitK] at hk
    simp only [Exit.inBlock]
    by_cases h : id' = id
    · subst h
      rw [beq_self] at hk
      rw [if_pos rfl]
      exact C .normal env' loc' σ' G' lm' w' a' hk S' le hl ht
    · rw [beq_ne (Ne.symm h)] at hk
      rw [if_neg h]
      exact C (.exit id') env' loc' σ' G' lm' w' a' hk S' le hl ht
  | goto l => exact C (.goto l)
  | ret => exact C .ret
  | panic ch => exact C (.panic ch)
  | outgrown => exact C .outgrown

theorem memL {t : Nat} {l m : List Nat} (h : t ∈ l) : t ∈ l ++ m := List.mem_append_left _ h
theorem memR {t : Nat} {l m : List Nat} (h : t ∈ m) : t ∈ l ++ m := List.mem_append_right _ h

theorem comp_sound (hm : P.follows .mixedOrders = true) (hcall : CallOK P Z.Gl D.call) (hG : D.G = Z.Gl) : ∀ (c : IR) (code : Code) (K : Kn) (X : List (Nat × Kn)) (R : Kn) (env : Env) (loc : Loc) (σ : Store) (G : Gh) (lm : Nat → Option Nat) (w : World) (a : Act)
    (Q : Exit → Act → World → Prop), okC P N c code = true → comp D c K X R env loc σ = some x → St Z N w G lm env loc σ a → Post Z N K X R x G lm w a c.writes Q → code.wp P Q a w := by
  intro c
  induction c with
  | skip =>
    intro code K X R env loc σ G lm w a Q hc hk S C
    cases code <;> simp only [okC, Bool.false_eq_true] at hc
    exact wp_skip (C .normal env loc σ G lm w a hk S (.refl _ _) (fun _ _ => rfl) (fun _ _ => rfl))
  | reg rt =>
    intro code K X R env loc σ G lm w a Q hc hk S C
    cases code <;> (try simp only [okC, Bool.false_eq_true] at hc)
    rename_i id ops draw
    cases draw with
    | false =>
      simp only [okC] at hc
      split at hc
      · rename_i i hi
        have e := Nat.eq_of_beq_eq_true hc
        subst e
        refine wp_region ?_
        have h0 : List.range ops.size = from_ ops 0 := by simp [from_, List.range_eq_range']
        rw [h0]
        refine rt_sound hcall hG rt 0 ops.size env loc σ K G lm w a hi hk S (fun env' loc' σ' G' lm' w' a' hk' S' le hl ht => ?_)
        have h1 : from_ ops ops.size = [] := by simp [from_]
        rw [h1]
        exact C .normal env' loc' σ' G' lm' w' a' hk' S' le hl ht
      · cases hc
    | true =>
      simp only [okC] at hc
      exact draw_sound hm hcall hG hc hk S (C .normal)
  | seq p q ihp ihq =>
    intro code K X R env loc σ G lm w a Q hc hk S C
    cases code <;> simp only [okC, Bool.false_eq_true, Bool.and_eq_true] at hc
    rename_i u v
    refine wp_seq (ihp u _ X R env loc σ G lm w a _ hc.1 hk S ?_)
    refine (C.sub fun t h => memL h).of (fun env' loc' σ' G' lm' w' a' hk' S' le hl ht => ?_) (fun e a w he h => by cases e <;> first | exact absurd rfl he | exact h)
    exact ihq v K X R env' loc' σ' G' lm' w' a' Q hc.2 hk' S' (C.step le hl ht (fun t h => memL h) (fun t h => memR h))
  | cond c j p q ihp ihq =>
    intro code K X R env loc σ G lm w a Q hc hk S C
    cases j with
    | none =>
      cases code <;> simp only [okC, Bool.false_eq_true, Bool.and_eq_true] at hc
      rename_i c' u v
      obtain ⟨⟨h1, h2⟩, h3⟩ := hc
      simp only [comp] at hk
      obtain ⟨b, hb, hk⟩ := val_some hk
      have hr := val_rel S h1 hb
      rcases aCase_some hk with ⟨rfl, hk⟩ | ⟨rfl, hk⟩
      · exact wp_cond_true hr.bool_inv (ihp u K X R env loc σ G lm w a Q h2 hk S (C.sub fun t h => memL h))
      · exact wp_cond_false hr.bool_inv (ihq v K X R env loc σ G lm w a Q h3 hk S (C.sub fun t h => memR h))
    | some j =>
      cases code <;> simp only [okC, Bool.false_eq_true, Bool.and_eq_true] at hc
      rename_i c' u v
      obtain ⟨⟨⟨h1, h2⟩, h3⟩, h4⟩ := hc
      simp only [comp, jn] at hk
      obtain ⟨b, hb, hk⟩ := val_some hk
      have hr := val_rel S h1 hb
      have C2 := C.join S h4 (fun t h => h)
      rcases aCase_some hk with ⟨rfl, hk⟩ | ⟨rfl, hk⟩
      · exact wp_cond_true hr.bool_inv (ihp u _ X R env loc σ G lm w a Q h2 hk S (C2.sub fun t h => memL h))
      · exact wp_cond_false hr.bool_inv (ihq v _ X R env loc σ G lm w a Q h3 hk S (C2.sub fun t h => memR h))
  | block id j p ihp =>
    intro code K X R env loc σ G lm w a Q hc hk S C
    cases j with
    | none =>
      cases code <;> simp only [okC, Bool.false_eq_true, Bool.and_eq_true] at hc
      rename_i id' u
      have e := Nat.eq_of_beq_eq_true hc.1
      subst e
      exact wp_block (ihp u K _ R env loc σ G lm w a _ hc.2 hk S C.block)
    | some j =>
      cases code <;> simp only [okC, Bool.false_eq_true, Bool.and_eq_true] at hc
      rename_i id' u
      obtain ⟨⟨h1, h2⟩, h3⟩ := hc
      have e := Nat.eq_of_beq_eq_true h1
      subst e
      simp only [comp, jn] at hk
      exact wp_block (ihp u _ _ R env loc σ G lm w a _ h2 hk S (C.join S h3 (fun t h => h)).block)
  | loop j p ihp =>
    intro code K X R env loc σ G lm w a Q hc hk S C
    cases code <;> simp only [okC, Bool.false_eq_true, Bool.and_eq_true] at hc
    rename_i u
    obtain ⟨h1, h2⟩ := hc
    refine wp_of_loopIn ?_
    simp only [comp] at hk
    let F : Cur j.m → Cur j.m := fun self => Cur.mk j.m (joinC j p.writes env fun env loc σ => comp D p (gatherK j self) X R env loc σ)
    let S0 : List AV × Store → AV × Store → Prop := fun q r => r = x → ∀ (env' : Env) (loc' : Loc) (G' : Gh) (lm' : Nat → Option Nat) (w' : World) (a' : Act) (l : List AV), gatherS loc' j.ss = some l →
      St Z N w' G' lm' env' loc' q.2 a' → Le w.heap w'.heap G G' → (∀ s, s ∉ p.writes → lm' s = lm s) → (∀ t, t ∉ p.writes → a'.tmps.getD t undef = a.tmps.getD t undef) →
      q.1 = gatherV env' j.vs ++ l → LoopIn P u Q a' w'
    have hM : ∀ q r, lfp (fun (g : List AV × Store → Option (AV × Store)) p => Cur.app j.m (F (Cur.mk j.m fun l σ => g (l, σ))) p.1 p.2) q = some r → S0 q r := fun q r hq => by
      refine lfp_ind S0 (fun g q r hself hk' hr => ?_) hq
      subst hr
      intro env' loc' G' lm' w' a' l hl S' le hlm htm hq
      rw [hq] at hk'
      have hlen : (gatherV env' j.vs ++ l).length = j.m := by rw [gatherV_eq, List.length_append, List.length_map, (joinLoc_get j.ss l hl).1]; rfl
      simp only [F] at hk'
      rw [Cur.app_mk _ _ _ _ hlen] at hk'
      have SJ := S.join S' le hlm htm h2 hl
      refine loopIn_round (ihp u (gatherK j (Cur.mk j.m fun l σ => g (l, σ))) X R _ _ q.2 G' lm' w' a' _ h1 hk' SJ ?_)
      refine (C.step le hlm htm (fun t h => h) (fun t h => h)).of (fun env2 loc2 σ2 G2 lm2 w2 a2 hk2 S2 le2 hl2 ht2 => ?_) (fun e a w he h => by cases e <;> first | exact absurd rfl he | exact h)
      obtain ⟨l2, hl2', hk2⟩ := gatherK_some hk2
      exact hself (gatherV env2 j.vs ++ l2, σ2) _ hk2 rfl env2 loc2 G2 lm2 w2 a2 l2 hl2' S2 (le.trans le2) (fun s hs => (hl2 s hs).trans (hlm s hs)) (fun t ht => (ht2 t ht).trans (htm t ht)) rfl
    have hk' := hk
    unfold lpFix at hk'
    obtain ⟨l, hl, hk2⟩ := gatherK_some hk'
    exact hM _ _ hk2 rfl env loc G lm w a l hl S (.refl _ _) (fun _ _ => rfl) (fun _ _ => rfl) rfl
  | exit id =>
    intro code K X R env loc σ G lm w a Q hc hk S C
    cases code <;> simp only [okC, Bool.false_eq_true] at hc
    have e := Nat.eq_of_beq_eq_true hc
    subst e
    exact wp_exit (C (.exit _) env loc σ G lm w a hk S (.refl _ _) (fun _ _ => rfl) (fun _ _ => rfl))
  | ret =>
    intro code K X R env loc σ G lm w a Q hc hk S C
    cases code <;> simp only [okC, Bool.false_eq_true] at hc
    exact wp_ret (C .ret env loc σ G lm w a hk S (.refl _ _) (fun _ _ => rfl) (fun _ _ => rfl))
end
end Go.Asm
