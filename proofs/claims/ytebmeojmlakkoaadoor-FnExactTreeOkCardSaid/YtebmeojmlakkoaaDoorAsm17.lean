import Derived.Test.YtebmeojmlakkoaaDoorAsm16
set_option linter.all false
/- Regions in the order of their text: soundness. -/
namespace Go.Asm
section
variable {ρ : Type} {P : Program} {Z : Base} {N : Nat} {w w' : World} {G G' : Gh} {lm lm' : Nat → Option Nat} {env : Env} {loc : Loc} {σ σ' : Store} {a a' : Act}
  {x : AV × Store} {Q : Exit → Act → World → Prop} {o : Oper} {D : Ctx} {ops : Array Oper}

theorem rtOk_dsts : ∀ (rt : RT) (i i' : Nat), rtOk P N ops rt i = some i' → ∀ j o t, i ≤ j → j < i' → ops[j]? = some o → o.dst = some t → t ∈ rt.writes
  | .done, i, i', h, j, o, t, h1, h2, _, _ => by cases h; omega
  | .op d r rest, i, i', h, j, o, t, h1, h2, h3, h4 => by
    simp only [rtOk] at h
    split at h
    · rename_i o' ho
      cases hb : (o'.guard.isNone && dOk N o' d && opOk P o' r) with
      | false => rw [hb] at h; cases h
      | true =>
        rw [hb] at h
        simp only [Bool.and_eq_true] at hb
        simp only [RT.writes, List.mem_append]
        by_cases e : j = i
        · subst e
          rw [ho] at h3; cases h3
          left
          rw [← (dOk_inv hb.1.2).1, h4]; simp
        · exact .inr (rtOk_dsts rest (i + 1) i' h j o t (by omega) h2 h3 h4)
    · cases h
  | .gop g wd d r rest, i, i', h, j, o, t, h1, h2, h3, h4 => by
    simp only [rtOk] at h
    split at h
    · rename_i o' ho
      cases hb : (gidx ops o' g wd && dOk N o' d && opOk P o' r) with
      | false => rw [hb] at h; cases h
      | true =>
        rw [hb] at h
        simp only [Bool.and_eq_true] at hb
        simp only [RT.writes, List.mem_append]
        by_cases e : j = i
        · subst e
          rw [ho] at h3; cases h3
          left
          rw [← (dOk_inv hb.1.2).1, h4]; simp
        · exact .inr (rtOk_dsts rest (i + 1) i' h j o t (by omega) h2 h3 h4)
    · cases h
  | .freeze s rest, i, i', h, j, o, t, h1, h2, h3, h4 => rtOk_dsts rest i i' h j o t h1 h2 h3 h4
  | .dia g inner d c p q og rest, i, i', h, j, o, t, h1, h2, h3, h4 => by
    simp only [rtOk] at h
    split at h
    · rename_i i1 hi
      split at h
      · rename_i o' ho
        cases hb : (pickOk o' c p q && dOk N o' (some d) && locFree inner && i.ble i1 && ogOk ops o' g i (i1 - i) inner.writes og) with
        | false => rw [hb] at h; cases h
        | true =>
          rw [hb] at h
          simp only [Bool.and_eq_true] at hb
          simp only [RT.writes, List.mem_cons, List.mem_append]
          by_cases e1 : j < i1
          · exact .inr (.inl (rtOk_dsts inner i i1 hi j o t h1 e1 h3 h4))
          · by_cases e : j = i1
            · subst e
              rw [ho] at h3; cases h3
              left
              have := (dOk_inv hb.1.1.1.2).1
              rw [h4] at this
              cases this; rfl
            · exact .inr (.inr (rtOk_dsts rest (i1 + 1) i' h j o t (by omega) h2 h3 h4))
      · cases h
    · cases h

/-- What a bound entry says, laid ahead of an environment. -/
theorem St.cons (S : St Z N w G lm env loc σ a) {d : Nat} {v : AV} (hv : VRel w.heap G v (a.tmps.getD d undef)) : St Z N w G lm ((d, .v v) :: env) loc σ a := by
  refine ⟨S.hi, fun t => ?_, S.df, S.nt⟩
  rw [Env.get_cons]
  by_cases h : d = t
  · subst h; rw [if_pos rfl]; exact hv
  · rw [if_neg h]; exact S.er t

open Classical in
theorem rt_sound (hcall : CallOK P Z.Gl D.call) (hG : D.G = Z.Gl) : ∀ (rt : RT) (i i' : Nat) (env : Env) (loc : Loc) (σ : Store) (k : Kn) (G : Gh) (lm : Nat → Option Nat) (w : World) (a : Act),
    rtOk P N ops rt i = some i' → rtK D rt env loc σ k = some x → St Z N w G lm env loc σ a →
    Cont Z N k x G lm w a rt.writes (fun a' w' => wpOps P ops Q (from_ ops i') a' w') → wpOps P ops Q (from_ ops i) a w
  | .done, i, i', env, loc, σ, k, G, lm, w, a, h, hk, S, C => by
    cases h
    exact C env loc σ G lm w a hk S (.refl _ _) (fun _ _ => rfl) (fun _ _ => rfl)
  | .op d r rest, i, i', env, loc, σ, k, G, lm, w, a, h, hk, S, C => by
    simp only [rtOk] at h
    split at h
    · rename_i o ho
      cases hb : (o.guard.isNone && dOk N o d && opOk P o r) with
      | false => rw [hb] at h; cases h
      | true =>
        rw [hb] at h
        simp only [cond_true] at h
        simp only [Bool.and_eq_true] at hb
        obtain ⟨hd1, hd2⟩ := dOk_inv hb.1.2
        refine wpOps_wanted ho (wanted_none hb.1.1) ?_
        simp only [rtK] at hk
        rw [← hd1] at hk
        refine op_sound hcall hG hb.2 S (fun env' loc' σ' G' lm' w' a' hk' S' le hlm htm => ?_) hd2 hk
        exact rt_sound hcall hG rest (i + 1) i' env' loc' σ' k G' lm' w' a' h hk' S' (C.step le hlm htm (fun t ht => by simp only [RT.writes, List.mem_append]; rw [hd1] at ht; exact .inl ht) (fun t ht => by simp only [RT.writes, List.mem_append]; exact .inr ht))
    · cases h
  | .gop g wd d r rest, i, i', env, loc, σ, k, G, lm, w, a, h, hk, S, C => by
    simp only [rtOk] at h
    split at h
    · rename_i o ho
      cases hb : (gidx ops o g wd && dOk N o d && opOk P o r) with
      | false => rw [hb] at h; cases h
      | true =>
        rw [hb] at h
        simp only [cond_true] at h
        simp only [Bool.and_eq_true] at hb
        obtain ⟨hd1, hd2⟩ := dOk_inv hb.1.2
        have skip : rtK D rest (put env d (.v (.tuple []))) loc σ k = some x → wpOps P ops Q (from_ ops (i + 1)) (a.put o.dst undef) w := fun hk' => by
          rw [← hd1] at hk'
          exact rt_sound hcall hG rest (i + 1) i' _ loc σ k G lm w _ h hk' (S.skip hd2) (C.step (.refl _ _) (fun _ _ => rfl) (put_other fun t ht => Nat.lt_of_lt_of_le (hd2 t ht) S.nt)
            (fun t ht => by simp only [RT.writes, List.mem_append]; rw [hd1] at ht; exact .inl ht) (fun t ht => by simp only [RT.writes, List.mem_append]; exact .inr ht))
        simp only [rtK] at hk
        split at hk
        · rename_i b hg
          have htmp : a.tmps.getD g undef = .bool b := (S.val hg).bool_inv
          have hw := wanted_bool (o := o) hb.1.1 htmp
          cases hbw : (b == wd) with
          | true =>
            rw [hbw] at hk hw
            simp only [cond_true] at hk
            rw [← hd1] at hk
            refine wpOps_wanted ho hw ?_
            refine op_sound hcall hG hb.2 S (fun env' loc' σ' G' lm' w' a' hk' S' le hlm htm => ?_) hd2 hk
            exact rt_sound hcall hG rest (i + 1) i' env' loc' σ' k G' lm' w' a' h hk' S' (C.step le hlm htm (fun t ht => by simp only [RT.writes, List.mem_append]; rw [hd1] at ht; exact .inl ht) (fun t ht => by simp only [RT.writes, List.mem_append]; exact .inr ht))
          | false =>
            rw [hbw] at hk hw
            exact wpOps_skip ho hw (skip hk)
        · rename_i hg
          have htmp : a.tmps.getD g undef = undef := (S.val hg).unit_inv
          exact wpOps_skip ho (wanted_undef hb.1.1 htmp) (skip hk)
        · cases hk
    · cases h
  | .freeze s rest, i, i', env, loc, σ, k, G, lm, w, a, h, hk, S, C => by
    simp only [rtK] at hk
    split at hk
    · rename_i n cs hl
      obtain ⟨hlen, g, hg, hfz, hbr⟩ := S.hi.lrel s n cs hl
      obtain ⟨H', le⟩ := S.hi.freeze hl hg (loc.drop1 s) (fun t e he => by
        have hne : t ≠ s := fun q => by subst q; rw [Loc.get_drop1_self] at he; cases he
        rw [Loc.get_drop1 _ _ _ (Ne.symm hne)] at he
        exact ⟨hne, he⟩)
      obtain ⟨arr, elem, b1, b2, b3, b4, b5⟩ := hbr
      refine rt_sound hcall hG rest i i' _ _ σ k _ lm w a h hk ⟨H', fun t => ?_, S.df, S.nt⟩ (C.step le (W1 := []) (fun _ _ => rfl) (fun _ _ => rfl) (fun t ht => by cases ht) (fun t ht => ht))
      rw [get_freezeEnv]
      have her := S.er t
      cases he : env.get t with
      | v v => rw [he] at her; exact VRel.mono le her
      | l s' o' =>
        rw [he] at her
        simp only [freezeE]
        cases hs : s'.beq s with
        | false => exact her
        | true =>
          have e := Nat.eq_of_beq_eq_true hs
          subst e
          rw [her g hg]
          refine VRel.pptr _ (fun j => arr.toList.getD (o' + j) undef) (.inr rfl) (fun j v hj => ?_) (fun j v hj => ?_)
          · obtain ⟨c, c1, _⟩ := b5 _ _ hj
            rw [← Array.getElem?_toList] at c1
            rw [add_mk, cellOf_mk b1, ← Array.getElem?_toList, c1, List.getD_eq_getElem?_getD, c1]
            exact ⟨rfl, b4.get c1⟩
          · obtain ⟨c, c1, c2⟩ := b5 _ _ hj
            rw [← Array.getElem?_toList] at c1
            rw [List.getD_eq_getElem?_getD, c1]
            exact c2.mono le
    · cases hk
  | .dia g inner d c p q og rest, i, i', env, loc, σ, k, G, lm, w, a, h, hk, S, C => by
    simp only [rtOk] at h
    split at h
    · rename_i i1 hi
      split at h
      · rename_i o ho
        cases hb : (pickOk o c p q && dOk N o (some d) && locFree inner && i.ble i1 && ogOk ops o g i (i1 - i) inner.writes og) with
        | false => rw [hb] at h; cases h
        | true =>
          rw [hb] at h
          simp only [cond_true] at h
          simp only [Bool.and_eq_true] at hb
          obtain ⟨⟨⟨⟨hpick, hdok⟩, hfree⟩, hle⟩, hog⟩ := hb
          obtain ⟨hd1, hd2⟩ := dOk_inv hdok
          have hle := Nat.le_of_ble_eq_true hle
          have hW1 : ∀ t, t ∈ d :: inner.writes → t ∈ (RT.dia g inner d c p q og rest).writes := fun t ht => by
            simp only [RT.writes, List.mem_cons, List.mem_append] at ht ⊢
            rcases ht with h | h
            · exact .inl h
            · exact .inr (.inl h)
          have hW2 : ∀ t, t ∈ rest.writes → t ∈ (RT.dia g inner d c p q og rest).writes := fun t ht => by
            simp only [RT.writes, List.mem_cons, List.mem_append]
            exact .inr (.inr ht)
          simp only [rtK] at hk
          split at hk
          · cases hk
          · -- the diamond is passed by
            rename_i hogo
            split at hk
            · rename_i hgt
              cases og with
              | none => cases hogo
              | some gw =>
              obtain ⟨gg, ww⟩ := gw
              simp only [ogOk, Bool.and_eq_true] at hog
              obtain ⟨⟨hgx, hskip⟩, hnw⟩ := hog
              have hgu : a.tmps.getD g undef = undef := (S.val hgt).unit_inv
              refine skip_all (i1 - i) i [g] a hskip (fun t ht => by simp at ht; subst ht; exact hgu) (fun a' e1 e2 e3 _ => ?_)
              rw [show i + (i1 - i) = i1 by omega]
              have hsame : ∀ t, t ∉ inner.writes → a'.tmps.getD t undef = a.tmps.getD t undef := fun t ht => by
                rcases e3 t with h | ⟨j, o', q1, q2, q3, q4⟩
                · exact h
                · exact absurd (rtOk_dsts inner i i1 hi j o' t q1 (by omega) q3 q4) ht
              have hggw : gg ∉ inner.writes := fun h => by rw [memN_iff.2 h] at hnw; cases hnw
              have hskip2 : Region.wanted o (yielded ops a'.tmps) = false := by
                simp only [ogo] at hogo
                split at hogo
                · rename_i b hb
                  have hbw : (b == ww) = false := by simpa using hogo
                  rw [wanted_bool hgx (by rw [hsame gg hggw]; exact (S.val hb).bool_inv), hbw]
                · rename_i hb
                  exact wanted_undef hgx (by rw [hsame gg hggw]; exact (S.val hb).unit_inv)
                · cases hogo
              refine wpOps_skip ho hskip2 ?_
              have hnt : N ≤ a'.tmps.size := by rw [e1]; exact S.nt
              have hdlt : d < a'.tmps.size := Nat.lt_of_lt_of_le (hd2 d hd1) hnt
              rw [hd1]
              have htm2 : ∀ t, t ∉ d :: inner.writes → (a'.put (some d) undef).tmps.getD t undef = a.tmps.getD t undef := fun t ht => by
                have hne : d ≠ t := fun e => ht (by simp [e])
                rw [getD_put hdlt, if_neg hne]
                exact hsame t fun h => ht (List.mem_cons_of_mem _ h)
              have S2 := St.purge (W := d :: inner.writes) (a' := a'.put (some d) undef) S S.hi (.refl _ _) (fun _ _ => rfl) htm2 (by rw [put_defers, e2]; exact S.df) (by rw [put_size]; exact hnt)
              have S3 := S2.cons (d := d) (v := .tuple []) (by rw [getD_put hdlt, if_pos rfl]; exact undef_rel)
              exact rt_sound hcall hG rest (i1 + 1) i' _ loc σ k G lm w _ h hk S3 (C.step (.refl _ _) (fun _ _ => rfl) htm2 hW1 hW2)
            · cases hk
          · -- the diamond is taken
            rename_i hogo
            simp only [jn] at hk
            obtain ⟨xg, hxg, hk⟩ := val_some hk
            simp only [ent] at hxg
            have hwant : ∀ a' : Act, (∀ t, t ∉ inner.writes → a'.tmps.getD t undef = a.tmps.getD t undef) → Region.wanted o (yielded ops a'.tmps) = true := fun a' hsame => by
              cases og with
              | none => exact wanted_none hog
              | some gw =>
                obtain ⟨gg, ww⟩ := gw
                simp only [ogOk, Bool.and_eq_true] at hog
                obtain ⟨⟨hgx, _⟩, hnw⟩ := hog
                have hggw : gg ∉ inner.writes := fun h => by rw [memN_iff.2 h] at hnw; cases hnw
                simp only [ogo] at hogo
                split at hogo
                · rename_i b hb
                  have hbw : (b == ww) = true := by simpa using hogo
                  rw [wanted_bool hgx (by rw [hsame gg hggw]; exact (S.val hb).bool_inv), hbw]
                · cases hogo
                · cases hogo
            have main : ∀ b : Bool, xg = .bool b → rtK D inner ((g, .v (.bool b)) :: env) loc σ (fun env' _ σ' => val env' c fun c => aCase c
                (val env' p fun v => rtK D rest ((d, .v v) :: purge (d :: inner.writes) env) loc σ' k) (val env' q fun v => rtK D rest ((d, .v v) :: purge (d :: inner.writes) env) loc σ' k)) = some x →
                wpOps P ops Q (from_ ops i) a w := by
              intro b hxb hk1
              subst hxb
              have S1 := S.cons (d := g) (v := .bool b) (S.val hxg)
              rw [rtK_congr inner _ σ _ (fun env' loc' σ' => if loc' = loc then (val env' c fun c => aCase c
                (val env' p fun v => rtK D rest ((d, .v v) :: purge (d :: inner.writes) env) loc σ' k) (val env' q fun v => rtK D rest ((d, .v v) :: purge (d :: inner.writes) env) loc σ' k)) else none) hfree (fun env' σ' => by simp)] at hk1
              refine rt_sound hcall hG inner i i1 _ loc σ _ G lm w a hi hk1 S1 (fun env' loc' σ' G' lm' w' a' hk' S' le hlm htm => ?_)
              split at hk'
              · rename_i hloc
                subst hloc
                refine wpOps_wanted ho (hwant a' htm) ?_
                unfold pickOk at hpick
                split at hpick
                · rename_i c' p' q' hop
                  simp only [Bool.and_eq_true] at hpick
                  obtain ⟨⟨hc, hp⟩, hq⟩ := hpick
                  let k3 : Kn := fun env'' loc'' σ'' => if loc'' = loc' then (match env''.get d with
                    | .v v => rtK D rest ((d, .v v) :: purge (d :: inner.writes) env) loc' σ'' k
                    | .l _ _ => none) else none
                  have hk3 : opK D o.dst (.pick c p q) env' loc' σ' k3 = some x := by
                    obtain ⟨cv, hcv, hk'⟩ := val_some hk'
                    have hcase : ∀ y : Opd, (val env' y fun v => rtK D rest ((d, .v v) :: purge (d :: inner.writes) env) loc' σ' k) = k3 (put env' o.dst (ent env' y)) loc' σ' := fun y => by
                      simp only [k3, if_true, hd1, put, Env.get_cons, val]
                      cases ent env' y <;> rfl
                    rw [hcase, hcase] at hk'
                    simp only [opK, val, hcv]
                    exact hk'
                  refine sound_pick S' (fun env'' loc'' σ'' G'' lm'' w'' a'' hk'' S'' le'' hlm'' htm'' => ?_) hd2 hop hc hp hq hk3
                  simp only [k3] at hk''
                  split at hk''
                  · rename_i hloc2
                    subst hloc2
                    split at hk''
                    · rename_i v hv
                      have hl2 : ∀ s, s ∉ d :: inner.writes → lm'' s = lm s := fun s hs => (hlm'' s fun h => hs (by rw [hd1] at h; simp at h; simp [h])).trans (hlm s fun h => hs (List.mem_cons_of_mem _ h))
                      have ht2 : ∀ t, t ∉ d :: inner.writes → a''.tmps.getD t undef = a.tmps.getD t undef := fun t ht => (htm'' t fun h => ht (by rw [hd1] at h; simp at h; simp [h])).trans (htm t fun h => ht (List.mem_cons_of_mem _ h))
                      have S2 := St.purge (W := d :: inner.writes) (a' := a'') S S''.hi (le.trans le'') hl2 ht2 S''.df S''.nt
                      have S3 := S2.cons (d := d) (v := v) (S''.val hv)
                      exact rt_sound hcall hG rest (i1 + 1) i' _ _ σ'' k G'' lm'' w'' a'' h hk'' S3 (C.step (le.trans le'') hl2 ht2 hW1 hW2)
                    · cases hk''
                  · cases hk''
                · cases hpick
              · cases hk'
            rcases aCase_some hk with ⟨e, hk⟩ | ⟨e, hk⟩
            · exact main true e hk
            · exact main false e hk
      · cases h
    · cases h
end
end Go.Asm
