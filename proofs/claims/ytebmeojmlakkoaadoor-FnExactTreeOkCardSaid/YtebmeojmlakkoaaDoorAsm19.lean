import Derived.Test.YtebmeojmlakkoaaDoorAsm18
set_option linter.all false
/- Regions whose order is drawn: soundness. -/
namespace Go.Asm

inductive Seq (D : Ctx) (loc : Loc) (σ : Store) : Env → List (Nat × ROp) → List Ent → Env → Prop
  | nil {env} : Seq D loc σ env [] [] env
  | cons {env d r L e es env'} : softE D r env loc σ = some e → Seq D loc σ ((d, e) :: env) L es env' → Seq D loc σ env ((d, r) :: L) (e :: es) env'

section
variable {P : Program} {Z : Base} {N : Nat} {w w' w0 : World} {G G' G0 : Gh} {lm lm' lm0 : Nat → Option Nat} {env env' : Env} {loc : Loc} {σ σ' : Store} {a a' a0 : Act}
  {x : AV × Store} {Q : Exit → Act → World → Prop} {o : Oper} {D : Ctx} {ops : Array Oper}

theorem rt_seq : ∀ (rt : RT) (L : List (Nat × ROp)) (env : Env) (k : Kn), flat rt = some L → (∀ p ∈ L, softOp p.2 = true) → rtK D rt env loc σ k = some x →
    ∃ es env', Seq D loc σ env L es env' ∧ k env' loc σ = some x
  | .done, L, env, k, h, _, hk => by cases h; exact ⟨[], env, .nil, hk⟩
  | .op (some d) r rest, L, env, k, h, hs, hk => by
    simp only [flat, Option.map_eq_some_iff] at h
    obtain ⟨L', hL, rfl⟩ := h
    simp only [rtK] at hk
    rw [soft_eq (hs (d, r) (by simp))] at hk
    obtain ⟨e, he, hk⟩ := bind_some hk
    obtain ⟨es, env', h1, h2⟩ := rt_seq rest L' _ k hL (fun p hp => hs p (by simp [hp])) hk
    exact ⟨e :: es, env', .cons he h1, h2⟩
  | .op none r rest, L, env, k, h, _, hk => by cases h
  | .gop .., L, env, k, h, _, hk => by cases h
  | .freeze .., L, env, k, h, _, hk => by cases h
  | .dia .., L, env, k, h, _, hk => by cases h

theorem wrote_add (t : Nat) : ∀ (L : List (Nat × ROp)) (i : Nat), wrote t L i = (wrote t L 0).map (· + i)
  | [], i => rfl
  | (d, r) :: L, i => by
    simp only [wrote]
    cases d.beq t with
    | true => simp
    | false =>
      simp only [cond_false]
      rw [wrote_add t L (i + 1), wrote_add t L 1, Option.map_map]
      congr 1
      funext j
      simp only [Function.comp]
      omega

theorem wrote_take (t : Nat) : ∀ (L : List (Nat × ROp)) (i j : Nat), wrote t (L.take i) 0 = some j ↔ wrote t L 0 = some j ∧ j < i
  | [], i, j => by simp [wrote]
  | (d, r) :: L, 0, j => by simp [wrote]
  | (d, r) :: L, i + 1, j => by
    simp only [List.take_succ_cons, wrote]
    cases d.beq t with
    | true => simp; omega
    | false =>
      simp only [cond_false]
      rw [wrote_add t (L.take i) 1, wrote_add t L 1]
      have ih := wrote_take t L i
      cases j with
      | zero =>
        simp only [Option.map_eq_some_iff]
        constructor
        · rintro ⟨q, _, h⟩; omega
        · rintro ⟨⟨q, _, h⟩, _⟩; omega
      | succ j =>
        simp only [Option.map_eq_some_iff]
        constructor
        · rintro ⟨q, h1, h2⟩
          have e : q = j := by omega
          subst e
          obtain ⟨h3, h4⟩ := (ih q).1 h1
          exact ⟨⟨q, h3, rfl⟩, by omega⟩
        · rintro ⟨⟨q, h1, h2⟩, h3⟩
          have e : q = j := by omega
          subst e
          exact ⟨q, (ih q).2 ⟨h1, by omega⟩, rfl⟩

theorem wrote_at {t : Nat} : ∀ {L : List (Nat × ROp)} {j : Nat}, wrote t L 0 = some j → ∃ r, L[j]? = some (t, r)
  | [], j, h => by cases h
  | (d, r) :: L, j, h => by
    simp only [wrote] at h
    cases hb : d.beq t with
    | true =>
      rw [hb] at h
      cases h
      have e := Nat.eq_of_beq_eq_true hb
      subst e
      exact ⟨r, rfl⟩
    | false =>
      rw [hb] at h
      simp only [cond_false] at h
      rw [wrote_add] at h
      simp only [Option.map_eq_some_iff] at h
      obtain ⟨q, h1, h2⟩ := h
      have h2 : q + 1 = j := by omega
      subst h2
      obtain ⟨r', h3⟩ := wrote_at h1
      exact ⟨r', by simpa using h3⟩

theorem nodup_at : ∀ {L : List (Nat × ROp)} {j : Nat} {t : Nat} {r : ROp}, nodup L = true → L[j]? = some (t, r) → wrote t L 0 = some j
  | [], j, t, r, _, h => by simp at h
  | (d, r0) :: L, j, t, r, hn, h => by
    simp only [nodup, Bool.and_eq_true] at hn
    cases j with
    | zero => simp at h; obtain ⟨rfl, rfl⟩ := h; simp [wrote]
    | succ j =>
      have h' : L[j]? = some (t, r) := by simpa using h
      have ih := nodup_at hn.2 h'
      simp only [wrote]
      cases hb : d.beq t with
      | true =>
        have e := Nat.eq_of_beq_eq_true hb
        subst e
        rw [ih] at hn
        cases hn.1
      | false =>
        simp only [cond_false]
        rw [wrote_add, ih]; rfl

theorem nodup_take : ∀ (L : List (Nat × ROp)) (i : Nat), nodup L = true → nodup (L.take i) = true
  | [], i, _ => by simp [nodup]
  | (d, r) :: L, 0, _ => rfl
  | (d, r) :: L, i + 1, h => by
    simp only [nodup, List.take_succ_cons, Bool.and_eq_true] at h ⊢
    refine ⟨?_, nodup_take L i h.2⟩
    cases hw : wrote d (L.take i) 0 with
    | none => rfl
    | some j =>
      obtain ⟨h1, _⟩ := (wrote_take d L i j).1 hw
      rw [h1] at h
      cases h.1

theorem seq_len {L es} (h : Seq D loc σ env L es env') : es.length = L.length := by
  induction h with
  | nil => rfl
  | cons _ _ ih => simp [ih]

theorem seq_get {L es} (h : Seq D loc σ env L es env') (hn : nodup L = true) (t : Nat) : env'.get t = match wrote t L 0 with
    | some j => es.getD j default
    | none => env.get t := by
  induction h with
  | nil => rfl
  | cons he hs ih =>
    rename_i env d r L e es env'
    simp only [nodup, Bool.and_eq_true] at hn
    rw [ih hn.2, Env.get_cons]
    simp only [wrote]
    by_cases hdt : d = t
    · subst hdt
      simp only [beq_self, cond_true]
      cases hw : wrote d L 0 with
      | none => simp
      | some j => rw [hw] at hn; cases hn.1
    · rw [beq_ne hdt]
      simp only [cond_false]
      rw [wrote_add t L 1]
      cases hw : wrote t L 0 with
      | none => simp [hdt]
      | some j => simp

theorem seq_at {L es} (h : Seq D loc σ env L es env') : ∀ {i d r}, L[i]? = some (d, r) → ∃ env1 e, es[i]? = some e ∧ softE D r env1 loc σ = some e ∧ Seq D loc σ env (L.take i) (es.take i) env1 := by
  induction h with
  | nil => intro i d r h; simp at h
  | cons he hs ih =>
    intro i d r h
    cases i with
    | zero => simp at h; obtain ⟨rfl, rfl⟩ := h; exact ⟨_, _, rfl, he, .nil⟩
    | succ i =>
      obtain ⟨env1, e, h1, h2, h3⟩ := ih (by simpa using h)
      exact ⟨env1, e, by simpa using h1, h2, .cons he h3⟩

theorem softRow_at {L0 : List (Nat × ROp)} : ∀ {L : List (Nat × ROp)} {i : Nat}, softRow P N ops L0 L i = true → i + L.length = ops.size ∧ ∀ j d r, L[j]? = some (d, r) → ∃ o, ops[i + j]? = some o ∧ o.guard.isNone = true ∧ dOk N o (some d) = true ∧ opOk P o r = true ∧
    softOp r = true ∧ (opds r).all (usesOk L0 o (i + j)) = true ∧ o.after.all (fun e => !Region.binds .any e || e.on.blt (i + j)) = true
  | [], i, h => by
    have e := Nat.eq_of_beq_eq_true h
    exact ⟨by simpa using e, fun j d r h => by simp at h⟩
  | (d0, r0) :: L, i, h => by
    simp only [softRow, Bool.and_eq_true] at h
    obtain ⟨h1, h2⟩ := h
    obtain ⟨ih1, ih2⟩ := softRow_at h2
    refine ⟨by simp only [List.length_cons]; omega, fun j d r hj => ?_⟩
    cases j with
    | zero =>
      simp at hj; obtain ⟨rfl, rfl⟩ := hj
      split at h1
      · rename_i o ho
        simp only [Bool.and_eq_true] at h1
        obtain ⟨⟨⟨⟨⟨q1, q2⟩, q3⟩, q4⟩, q5⟩, q6⟩ := h1
        exact ⟨o, ho, q1, q2, q3, q4, q5, q6⟩
      · cases h1
    | succ j =>
      obtain ⟨o, q⟩ := ih2 j d r (by simpa using hj)
      rw [show i + 1 + j = i + (j + 1) by omega] at q
      exact ⟨o, q⟩

theorem set_get {listed : Array Bool} {i j : Nat} (hi : i < listed.size) (d : Bool) : (listed.setIfInBounds i true).getD j d = if i = j then true else listed.getD j d := by
  by_cases h : i = j
  · subst h
    simp [Array.getD_eq_getD_getElem?, hi]
  · rw [if_neg h, getD_set_ne d h]

/-- The invariant while operations are listed in whatever order. -/
structure DInv (Z : Base) (N : Nat) (L : List (Nat × ROp)) (es : List Ent) (env : Env) (loc : Loc) (σ : Store) (G0 : Gh) (lm0 : Nat → Option Nat) (w0 : World) (a0 : Act) (listed : Array Bool) (G : Gh) (lm : Nat → Option Nat) (w : World) (a : Act) : Prop where
  st : ∃ envL, St Z N w G lm envL loc σ a ∧ ∀ t, envL.get t = match wrote t L 0 with
    | some j => if listed.getD j false = true then es.getD j default else env.get t
    | none => env.get t
  le : Le w0.heap w.heap G0 G
  lm : ∀ s, s ∉ L.map (·.1) → lm s = lm0 s
  tm : ∀ t, t ∉ L.map (·.1) → a.tmps.getD t undef = a0.tmps.getD t undef

theorem draw_any (hcall : CallOK P Z.Gl D.call) (hG : D.G = Z.Gl) {L : List (Nat × ROp)} {es : List Ent} (hrow : softRow P N ops L L 0 = true) (hn : nodup L = true) (hseq : Seq D loc σ env L es env')
    (fin : ∀ G lm w a, DInv Z N L es env loc σ G0 lm0 w0 a0 (Array.replicate ops.size true) G lm w a → Q .normal a w) :
    ∀ (fuel : Nat) (listed : Array Bool) (G : Gh) (lm : Nat → Option Nat) (w : World) (a : Act), listed.size = ops.size → (List.range ops.size).countP (fun i => !listed.getD i true) ≤ fuel →
      DInv Z N L es env loc σ G0 lm0 w0 a0 listed G lm w a → wpAny P .any ops Q fuel listed a w := by
  obtain ⟨hlen, hat⟩ := softRow_at hrow
  simp only [Nat.zero_add] at hlen hat
  have full : ∀ (listed : Array Bool) (G : Gh) (lm : Nat → Option Nat) (w : World) (a : Act), listed.size = ops.size → Region.ready .any ops listed = [] → DInv Z N L es env loc σ G0 lm0 w0 a0 listed G lm w a → Q .normal a w := by
    intro listed G lm w a hsz hr I
    have all : ∀ i, i < ops.size → listed.getD i false = true := by
      intro i
      induction i using Nat.strongRecOn with
      | _ i ih =>
        intro hi
        cases hli : listed.getD i true with
        | true =>
          rw [Array.getD_eq_getD_getElem?] at hli ⊢
          rw [Array.getElem?_eq_getElem (by omega)] at hli ⊢
          exact hli
        | false =>
          exfalso
          obtain ⟨⟨d, r⟩, hdr⟩ : ∃ p, L[i]? = some p := ⟨L[i]'(by omega), List.getElem?_eq_getElem (by omega)⟩
          obtain ⟨o, q1, _, _, _, _, _, q7⟩ := hat i d r hdr
          have hmem : i ∈ Region.ready .any ops listed := mem_ready.2 ⟨hli, o, q1, fun e he hb => by
            have := Array.all_eq_true_iff_forall_mem.1 q7 e he
            rw [hb] at this
            simp only [Bool.not_true, Bool.false_or] at this
            have hlt : e.on < i := Nat.le_of_ble_eq_true this
            exact ih e.on hlt (by omega)⟩
          rw [hr] at hmem
          cases hmem
    refine fin G lm w a ⟨?_, I.le, I.lm, I.tm⟩
    obtain ⟨envL, h1, h2⟩ := I.st
    refine ⟨envL, h1, fun t => ?_⟩
    rw [h2 t]
    cases hw : wrote t L 0 with
    | none => rfl
    | some j =>
      obtain ⟨r, hr⟩ := wrote_at hw
      have hj : j < ops.size := by have := (List.getElem?_eq_some_iff.1 hr).1; omega
      simp only [all j hj, if_true]
      rw [if_pos]
      simp [Array.getD_eq_getD_getElem?, hj]
  intro fuel
  induction fuel with
  | zero =>
    intro listed G lm w a hsz hc I
    have hr : Region.ready .any ops listed = [] := by
      rw [List.eq_nil_iff_forall_not_mem]
      intro i hi
      obtain ⟨h1, o, h2, _⟩ := mem_ready.1 hi
      have hlt := (Array.getElem?_eq_some_iff.1 h2).1
      have : 0 < (List.range ops.size).countP (fun i => !listed.getD i true) := List.countP_pos_iff.2 ⟨i, List.mem_range.2 hlt, by simp [h1]⟩
      omega
    exact ⟨hr, full listed G lm w a hsz hr I⟩
  | succ fuel ih =>
    intro listed G lm w a hsz hc I
    refine ⟨fun hr => full listed G lm w a hsz hr I, fun i hi => ?_⟩
    obtain ⟨h1, o, h2, h3⟩ := mem_ready.1 hi
    have hlt := (Array.getElem?_eq_some_iff.1 h2).1
    obtain ⟨⟨d, r⟩, hdr⟩ : ∃ p, L[i]? = some p := ⟨L[i]'(by omega), List.getElem?_eq_getElem (by omega)⟩
    obtain ⟨o', q1, q2, q3, q4, q5, q6, q7⟩ := hat i d r hdr
    rw [h2] at q1; cases q1
    obtain ⟨hd1, hd2⟩ := dOk_inv q3
    obtain ⟨envL, hS, hget⟩ := I.st
    obtain ⟨env1, e, he1, he2, he3⟩ := seq_at hseq hdr
    have hg1 := seq_get he3 (nodup_take L i hn)
    have hents : ∀ y ∈ opds r, ent env1 y = ent envL y := by
      intro y hy
      have hu := List.all_eq_true.1 q6 y hy
      cases y with
      | c v => rfl
      | t t =>
        simp only [ent]
        simp only [usesOk] at hu
        rw [hg1 t, hget t]
        cases hw : wrote t L 0 with
        | none =>
          have : wrote t (L.take i) 0 = none := by
            cases hw2 : wrote t (L.take i) 0 with
            | none => rfl
            | some j => have := ((wrote_take t L i j).1 hw2).1; rw [hw] at this; cases this
          rw [this]
        | some j =>
          rw [hw] at hu
          simp only [Bool.and_eq_true] at hu
          obtain ⟨u1, u2⟩ := hu
          have hji : j < i := Nat.le_of_ble_eq_true u1
          rw [(wrote_take t L i j).2 ⟨hw, hji⟩]
          have hlj : listed.getD j false = true := by
            simp only [edgeTo, List.any_eq_true] at u2
            obtain ⟨ed, hed, hb⟩ := u2
            simp only [Bool.and_eq_true] at hb
            have := h3 ed (Array.mem_toList_iff.1 hed) hb.1
            rwa [Nat.eq_of_beq_eq_true hb.2] at this
          simp only [hlj, if_true]
          simp only [List.getD_eq_getElem?_getD, List.getElem?_take, if_pos hji]
    have hsoft : softE D r envL loc σ = some e := by rw [← soft_congr q5 hents]; exact he2
    unfold wpOp
    rw [h2]
    simp only [wanted_none q2, if_true]
    left
    have hop : opK D o.dst r envL loc σ (fun env loc σ => some (env, loc, σ)) = some (put envL o.dst e, loc, σ) := by rw [soft_eq q5, hsoft]; rfl
    refine op_sound hcall hG q4 hS (fun env2 loc2 σ2 G2 lm2 w2 a2 hk S2 le2 hl2 ht2 => ?_) hd2 hop
    cases hk
    have hdm : d ∈ L.map (·.1) := List.mem_map.2 ⟨(d, r), List.mem_of_getElem? hdr, rfl⟩
    rw [hd1] at hl2 ht2 S2
    refine ih (listed.setIfInBounds i true) G2 lm2 w2 a2 (by simp [hsz]) ?_ ⟨⟨_, S2, fun t => ?_⟩, I.le.trans le2, fun s hs => (hl2 s fun h => hs (by simp at h; subst h; exact hdm)).trans (I.lm s hs),
      fun t ht => (ht2 t fun h => ht (by simp at h; subst h; exact hdm)).trans (I.tm t ht)⟩
    · have hle : (List.range ops.size).countP (fun j => !(listed.setIfInBounds i true).getD j true) + 1 ≤ (List.range ops.size).countP (fun j => !listed.getD j true) := by
        rw [List.countP_eq_length_filter, List.countP_eq_length_filter]
        have hsub : (List.range ops.size).filter (fun j => !(listed.setIfInBounds i true).getD j true) = ((List.range ops.size).filter (fun j => !listed.getD j true)).filter (fun j => j != i) := by
          rw [List.filter_filter]
          apply List.filter_congr
          intro j _
          rw [set_get (by omega)]
          by_cases e : i = j
          · subst e; simp
          · simp [e, Ne.symm e]
        rw [hsub]
        have hmem : i ∈ (List.range ops.size).filter (fun j => !listed.getD j true) := List.mem_filter.2 ⟨List.mem_range.2 hlt, by simp [h1]⟩
        have := List.length_filter_lt_length_iff_exists (p := fun j => j != i).2 ⟨i, hmem, show ¬ ((i != i) = true) by simp⟩
        omega
      omega
    · show Env.get ((d, e) :: envL) t = _
      rw [Env.get_cons, hget t]
      by_cases hdt : d = t
      · subst hdt
        have hw := nodup_at hn hdr
        rw [if_pos rfl, hw]
        simp only [set_get (show i < listed.size by omega), if_true]
        simp [List.getD_eq_getElem?_getD, he1]
      · rw [if_neg hdt]
        cases hw : wrote t L 0 with
        | none => rfl
        | some j =>
          simp only [set_get (show i < listed.size by omega)]
          by_cases hij : i = j
          · subst hij
            obtain ⟨r', hr'⟩ := wrote_at hw
            rw [hdr] at hr'
            cases hr'
            exact absurd rfl hdt
          · simp only [if_neg hij]

theorem flat_writes : ∀ (rt : RT) (L : List (Nat × ROp)), flat rt = some L → rt.writes = L.map (·.1)
  | .done, L, h => by cases h; rfl
  | .op (some d) r rest, L, h => by
    simp only [flat, Option.map_eq_some_iff] at h
    obtain ⟨L', hL, rfl⟩ := h
    simp [RT.writes, flat_writes rest L' hL]
  | .op none r rest, L, h => by cases h
  | .gop .., L, h => by cases h
  | .freeze .., L, h => by cases h
  | .dia .., L, h => by cases h

theorem draw_sound (hm : P.follows .mixedOrders = true) (hcall : CallOK P Z.Gl D.call) (hG : D.G = Z.Gl) {rt : RT} {id : Nat} {k : Kn} (h : drawOk P N ops rt = true) (hk : rtK D rt env loc σ k = some x) (S : St Z N w G lm env loc σ a)
    (C : Cont Z N k x G lm w a rt.writes (fun a' w' => Q .normal a' w')) : (Code.region id ops true).wp P Q a w := by
  unfold drawOk at h
  split at h
  · rename_i L hL
    simp only [Bool.and_eq_true] at h
    obtain ⟨hrow, hn⟩ := h
    obtain ⟨_, hat⟩ := softRow_at hrow
    obtain ⟨es, env', hseq, hk'⟩ := rt_seq rt L env k hL (fun p hp => by
      obtain ⟨j, hj⟩ := List.getElem?_of_mem hp
      obtain ⟨d, r⟩ := p
      obtain ⟨o, _, _, _, _, q, _⟩ := hat j d r hj
      exact q) hk
    refine wp_region_any hm ?_
    let w1 : World := { w with drawn := w.drawn + 1 }
    have S1 : St Z N w1 G lm env loc σ a := ⟨S.hi.draw w1 rfl rfl rfl rfl, S.er, S.df, S.nt⟩
    refine draw_any (G0 := G) (lm0 := lm) (w0 := w) (a0 := a) hcall hG hrow hn hseq (fun G' lm' w' a' I => ?_) ops.size _ G lm w1 a (by simp) ?_ ⟨⟨env, S1, fun t => ?_⟩, .refl _ _, fun _ _ => rfl, fun _ _ => rfl⟩
    · obtain ⟨envL, h1, h2⟩ := I.st
      have hS : St Z N w' G' lm' env' loc σ a' := ⟨h1.hi, fun t => by
        have := h1.er t
        rw [h2 t] at this
        rw [seq_get hseq hn t]
        cases hw : wrote t L 0 with
        | none => rw [hw] at this; exact this
        | some j =>
          rw [hw] at this
          obtain ⟨r, hr⟩ := wrote_at hw
          have hj : j < ops.size := by have := (List.getElem?_eq_some_iff.1 hr).1; have := (softRow_at hrow).1; omega
          simp only at this
          rw [if_pos (by simp [Array.getD_eq_getD_getElem?, hj])] at this
          exact this, h1.df, h1.nt⟩
      exact C env' loc σ G' lm' w' a' hk' hS I.le (fun s hs => I.lm s (by rw [← flat_writes rt L hL]; exact hs)) (fun t ht => I.tm t (by rw [← flat_writes rt L hL]; exact ht))
    · exact Nat.le_trans List.countP_le_length (by simp)
    · cases hw : wrote t L 0 with
      | none => rfl
      | some j =>
        simp only []
        rw [if_neg]
        rw [Array.getD_eq_getD_getElem?]
        obtain ⟨r, hr⟩ := wrote_at hw
        have hj : j < ops.size := by have := (List.getElem?_eq_some_iff.1 hr).1; have := (softRow_at hrow).1; omega
        simp [hj]
  · cases h
end
end Go.Asm
