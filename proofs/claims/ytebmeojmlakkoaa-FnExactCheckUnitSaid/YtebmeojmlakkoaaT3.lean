/- Part 3 of 8 of a proof. -/
import Derived.Test.YtebmeojmlakkoaaT2
set_option linter.all false
/- Regions whose order is drawn: whatever order comes. -/
namespace Go.Asm

def Hid (pre : List Oper) (items : List TI) (ps : List Nat) (zs : List (Nat × List AV)) (listed : Array Bool) (j : Nat) (t : Nat) : Prop :=
 ((t ∈ dstsI items ∨ t ∈ zsW zs) ∧ lstd pre listed t = false) ∨ (t ∈ ps ∧ j ≠ (hardsOf items).length)
def PendAt (E : Env) (σs : Nat → Store) (n : Nat) (q : DR) (locL : Loc) (lm : Nat → Option Nat) (a : Act) : Prop :=
 ∃ (zero : List AV) (nn g : Nat), σs (n + 1) = (σs n).add (.cells (mkRows zero nn)) ∧ E.get q.d = .v (.hslice zero.length (σs n).next 0 nn) ∧
  locL.get q.d = some (nn * zero.length, mkRows zero nn) ∧ lm q.d = some g ∧ a.tmps.getD q.d undef = .slice (some ⟨g, 0, none⟩) nn nn
structure DI (Z : Base) (N : Nat) (ops : Array Oper) (m : Nat) (items : List TI) (ps : List Nat) (zs : List (Nat × List AV)) (E : Env) (loc : Loc) (σs : Nat → Store) (W : List Nat)
  (G0 : Gh) (lm0 : Nat → Option Nat) (w0 : World) (a0 : Act) (listed : Array Bool) (j : Nat) (G : Gh) (lm : Nat → Option Nat) (w : World) (a : Act) : Prop where
 cl : Closed ops listed
 levA : ps = [] → j ≤ (hardsOf items).length ∧ ∀ n (q : DR), (hardsOf items)[n]? = some q → (lstd (ops.toList.take m) listed q.d = true ↔ n < j)
 levB : ps ≠ [] → (j = 0 ∧ ∃ p ∈ ps, lstd (ops.toList.take m) listed p = false) ∨ (j = (hardsOf items).length ∧ ∀ p ∈ ps, lstd (ops.toList.take m) listed p = true)
 st : ∃ envL locL, St Z N w G lm envL locL (σs j) a ∧ (∀ t, Hid (ops.toList.take m) items ps zs listed j t → envL.get t = .v .undef) ∧ (∀ t, ¬ Hid (ops.toList.take m) items ps zs listed j t → envL.get t = (zsE zs E).get t) ∧
  (∀ t, t ∉ zsW zs → t ∉ ps → locL.get t = loc.get t) ∧ (∀ t ∈ zsW zs, lstd (ops.toList.take m) listed t = true → locL.get t = (zsL zs loc).get t) ∧ (∀ t ∈ zsW zs, lstd (ops.toList.take m) listed t = false → locL.get t = none) ∧
  (∀ t ∈ ps, j = (hardsOf items).length ∨ lstd (ops.toList.take m) listed t = false → locL.get t = none) ∧
  (j ≠ (hardsOf items).length → ∀ n (q : DR), (hardsOf items)[n]? = some q → q.d ∈ ps → lstd (ops.toList.take m) listed q.d = true → PendAt E σs n q locL lm a)
 le : Le w0.heap w.heap G0 G
 lm : ∀ s, s ∉ W → lm s = lm0 s
 tm : ∀ t, t ∉ W → a.tmps.getD t undef = a0.tmps.getD t undef

section
variable {P : Program} {Z : Base} {N : Nat} {w w' w0 : World} {G G' G0 : Gh} {lm lm' lm0 : Nat → Option Nat} {env env' E : Env} {loc : Loc} {σ σ' : Store} {a a' a0 : Act}
 {x : AV × Store} {Q : Exit → Act → World → Prop} {o : Oper} {D : Ctx} {ops : Array Oper} {m : Nat} {items : List TI} {ps : List Nat} {zs : List (Nat × List AV)} {σs : Nat → Store} {W : List Nat}
 {listed : Array Bool} {j : Nat}

theorem findD_at {t i : Nat} (h : findD t (ops.toList.take m) 0 = some i) : i < m ∧ ∃ o, ops[i]? = some o ∧ o.dst = some t := by
 obtain ⟨_, o, h2, h3⟩ := findD_some h
 rw [Nat.sub_zero, List.getElem?_take] at h2
 split at h2
 ·rename_i hi; exact ⟨hi, o, by simpa using h2, h3⟩
 ·cases h2
theorem lstd_set (hsz : listed.size = ops.size) {i : Nat} {d : Nat} (hi : i < m) (ho : ops[i]? = some o) (hd : o.dst = some d) (hf : findD d (ops.toList.take m) 0 = some i) (t : Nat) :
  lstd (ops.toList.take m) (listed.setIfInBounds i true) t = if t = d then true else lstd (ops.toList.take m) listed t := by
 have hlt : i < listed.size := by rw [hsz]; exact (Array.getElem?_eq_some_iff.1 ho).1
 unfold lstd
 by_cases h : t = d
 ·subst h; rw [hf, if_pos rfl]; simp [set_get hlt]
 ·rw [if_neg h]
  cases hft : findD t (ops.toList.take m) 0 with
  | none => rfl
  | some i' =>
   simp only [set_get hlt]
   rw [if_neg]
   intro e; subst e
   obtain ⟨_, o', h1, h2⟩ := findD_at hft
   rw [ho] at h1; cases h1
   rw [hd] at h2; cases h2
   exact h rfl
theorem closed_set (hc : Closed ops listed) (hsz : listed.size = ops.size) {i : Nat} (hr : i ∈ Region.ready .any ops listed) : Closed ops (listed.setIfInBounds i true) := by
 obtain ⟨h1, o, h2, h3⟩ := mem_ready.1 hr
 have hlt : i < listed.size := by rw [hsz]; exact (Array.getElem?_eq_some_iff.1 h2).1
 intro k ok hk hl e he hb
 rw [set_get hlt] at hl ⊢
 split
 ·rfl
 ·split at hl
  ·rename_i e1; subst e1
   rw [h2] at hk; cases hk
   exact h3 e he hb
  ·exact hc k ok hk hl e he hb

/-- An operand that the check lets pass is known. -/
theorem use_ent (C : DChk P N ops m items ps zs) (I : DI Z N ops m items ps zs E loc σs W G0 lm0 w0 a0 listed j G lm w a) {i : Nat} (hr : i ∈ Region.ready .any ops listed) (ho : ops[i]? = some o)
  {envL : Env} (hin : ∀ t, ¬ Hid (ops.toList.take m) items ps zs listed j t → envL.get t = (zsE zs E).get t) {y : Opd} (hy : UseOk ops (ops.toList.take m) ps zs i o y) : ent envL y = ent E y := by
 obtain ⟨r1, o', r2, r3⟩ := mem_ready.1 hr
 rw [ho] at r2; cases r2
 cases y with
 | c v => rfl
 | t t =>
  obtain ⟨u1, u2, u3⟩ := hy t rfl
  have hl : ∀ i', findD t (ops.toList.take m) 0 = some i' → listed.getD i' false = true := fun i' h => by
   obtain ⟨e, he, hb, hon⟩ := edge_of (u2 i' h)
   rw [← hon]; exact r3 e he hb
  have hnh : ¬ Hid (ops.toList.take m) items ps zs listed j t := by
   rintro (⟨h1, h2⟩ | ⟨h1, h2⟩)
   ·obtain ⟨i', _, hf⟩ := C.rows t h1
    unfold lstd at h2
    rw [hf] at h2
    have := hl i' hf
    simp only at h2
    rw [this] at h2; cases h2
   ·have hne : ps ≠ [] := fun e => by rw [e] at h1; cases h1
    rcases I.levB hne with ⟨_, p, hp, hpl⟩ | ⟨hj, _⟩
    ·obtain ⟨ip, hip, hreach⟩ := u3 h1 p hp
     have := reach_edge I.cl hreach fun o' ho' e he hb => by rw [ho] at ho'; cases ho'; exact r3 e he hb
     unfold lstd at hpl
     rw [hip] at hpl
     simp only at hpl
     rw [this] at hpl; cases hpl
    ·exact h2 hj
  show envL.get t = E.get t
  rw [hin t hnh, get_zsE_out u1]
theorem not_imposs (C : DChk P N ops m items ps zs) (I : DI Z N ops m items ps zs E loc σs W G0 lm0 w0 a0 listed j G lm w a) (hsz : listed.size = ops.size) {i : Nat} (hr : i ∈ Region.ready .any ops listed) : ¬ Imposs ops (ops.toList.take m) (hardsOf items) ps i j := by
 obtain ⟨r1, o, ho, r3⟩ := mem_ready.1 hr
 have hlt : i < listed.size := by rw [hsz]; exact (Array.getElem?_eq_some_iff.1 ho).1
 have hun : listed.getD i false = false := by rw [getD_in hlt false true]; exact r1
 have hed : ∀ o', ops[i]? = some o' → ∀ e ∈ o'.after, Region.binds .any e = true → listed.getD e.on false = true := fun o' ho' e he hb => by rw [ho] at ho'; cases ho'; exact r3 e he hb
 have up : ∀ {t h : Nat}, findD t (ops.toList.take m) 0 = some h → lstd (ops.toList.take m) listed t = true → listed.getD h false = true := fun hf hl => by unfold lstd at hl; rw [hf] at hl; exact hl
 have dn : ∀ {t h : Nat}, findD t (ops.toList.take m) 0 = some h → listed.getD h false = true → lstd (ops.toList.take m) listed t = true := fun hf hl => by unfold lstd; rw [hf]; exact hl
 rintro (⟨hp, h⟩ | ⟨hp, h⟩)
 ·obtain ⟨_, hl⟩ := I.levA hp
  rcases h with ⟨n, q, h, h1, h2, h3, h4⟩ | ⟨n, q, h, h1, h2, h3, h4⟩
  ·have := reach_listed I.cl h4 (up h3 ((hl n q h2).2 h1))
   rw [hun] at this; cases this
  ·have := (hl n q h2).1 (dn h3 (reach_edge I.cl h4 hed))
   omega
 ·rcases h with ⟨hj, h⟩ | ⟨hj, p, hp1, h, h1, h2⟩ | ⟨h1, h2⟩
  ·rcases I.levB hp with ⟨_, p, hp1, hpl⟩ | ⟨hj', hpl⟩
   ·obtain ⟨k, h1, h2⟩ := h p hp1
    rw [dn h1 (reach_edge I.cl h2 hed)] at hpl; cases hpl
   ·obtain ⟨p, hp1⟩ := List.exists_mem_of_ne_nil ps hp
    obtain ⟨n, q, hq, _⟩ := C.pdst p hp1
    have := (List.getElem?_eq_some_iff.1 hq).1
    omega
  ·rcases I.levB hp with ⟨hj', p', hp1', hpl⟩ | ⟨_, hpl⟩
   ·obtain ⟨n, q, hq, _⟩ := C.pdst p hp1
    have := (List.getElem?_eq_some_iff.1 hq).1
    omega
   ·have := reach_listed I.cl h2 (up h1 (hpl p hp1))
    rw [hun] at this; cases this
  ·rcases I.levB hp with ⟨h, _⟩ | ⟨h, _⟩
   ·exact h1 h
   ·exact h2 h
end
end Go.Asm
/- Regions whose order is drawn: one step, of each kind. -/
namespace Go.Asm
section
variable {P : Program} {Z : Base} {N : Nat} {w w' w0 : World} {G G' G0 : Gh} {lm lm' lm0 : Nat → Option Nat} {env env' E : Env} {loc : Loc} {σ σ' : Store} {a a' a0 : Act}
 {x : AV × Store} {Q : Exit → Act → World → Prop} {o : Oper} {D : Ctx} {ops : Array Oper} {m : Nat} {items : List TI} {ps : List Nat} {zs : List (Nat × List AV)} {σs : Nat → Store} {W : List Nat}
 {listed : Array Bool} {j : Nat} {KK : Act → World → Prop}

theorem hid_set {j' : Nat} (hsz : listed.size = ops.size) {i d : Nat} (hi : i < m) (ho : ops[i]? = some o) (hd : o.dst = some d) (hf : findD d (ops.toList.take m) 0 = some i) {t : Nat} (ht : t ≠ d)
  (hj : t ∈ ps → (j' ≠ (hardsOf items).length ↔ j ≠ (hardsOf items).length)) : Hid (ops.toList.take m) items ps zs (listed.setIfInBounds i true) j' t ↔ Hid (ops.toList.take m) items ps zs listed j t := by
 unfold Hid
 rw [lstd_set hsz hi ho hd hf t, if_neg ht]
 constructor
 ·rintro (h | ⟨h, h'⟩)
  ·exact .inl h
  ·exact .inr ⟨h, (hj h).1 h'⟩
 ·rintro (h | ⟨h, h'⟩)
  ·exact .inl h
  ·exact .inr ⟨h, (hj h).2 h'⟩
theorem pend_keep {E : Env} {n : Nat} {q : DR} {locL locL' : Loc} {a a' : Act} (h : PendAt E σs n q locL lm a) (h1 : locL'.get q.d = locL.get q.d) (h2 : lm' q.d = lm q.d) (h3 : a'.tmps.getD q.d undef = a.tmps.getD q.d undef) : PendAt E σs n q locL' lm' a' := by
 obtain ⟨z, nn, g, p1, p2, p3, p4, p5⟩ := h
 exact ⟨z, nn, g, p1, p2, h1.trans p3, h2.trans p4, h3.trans p5⟩

theorem step_soft (hcall : CallOK P Z.Gl D.call) (hG : D.G = Z.Gl) (C : DChk P N ops m items ps zs) (hWs : ∀ p ∈ waysOf 0 items, rowE D p.1 E loc (σs p.2) = some (E.get p.1.d) ∧ softOp p.1.r = true)
  (hfree : ∀ s, s ∈ ps ∨ s ∈ zsW zs → loc.get s = none) (hW : ∀ t, t ∈ dstsI items ∨ t ∈ zsW zs → t ∈ W) (hsz : listed.size = ops.size)
  (I : DI Z N ops m items ps zs E loc σs W G0 lm0 w0 a0 listed j G lm w a) {i d : Nat} (hi : i < m) (hr : i ∈ Region.ready .any ops listed) (ho : ops[i]? = some o) (hd : o.dst = some d) (hdN : d < N) (hf : findD d (ops.toList.take m) 0 = some i)
  (hdi : d ∈ dstsI items) (hdp : d ∉ ps) (hdh : ∀ q ∈ hardsOf items, q.d ≠ d)
  (hk : ∀ j, j ≤ (hardsOf items).length → Imposs ops (ops.toList.take m) (hardsOf items) ps i j ∨ ∃ p ∈ waysOf 0 items, p.1.d = d ∧ (p.2 = j ∨ pureOp p.1.r = true) ∧
   opOk P o p.1.r = true ∧ (∀ y ∈ opds p.1.r, UseOk ops (ops.toList.take m) ps zs i o y) ∧ (match p.1.g with
    | none => o.guard.isNone = true
    | some (g, w) => gidx ops o g w = true ∧ UseOk ops (ops.toList.take m) ps zs i o (.t g)))
  (K : ∀ G' lm' w' a', DI Z N ops m items ps zs E loc σs W G0 lm0 w0 a0 (listed.setIfInBounds i true) j G' lm' w' a' → KK a' w') : wpOp P ops Q i KK a w := by
 have hdz : d ∉ zsW zs := fun h => C.zdis d h hdi
 have hjM : j ≤ (hardsOf items).length := by
  by_cases hp : ps = []
  ·exact (I.levA hp).1
  ·rcases I.levB hp with ⟨h, _⟩ | ⟨h, _⟩ <;> omega
 rcases hk j hjM with himp | ⟨p, hp, hpd, hpj, hop, hus, hgd⟩
 ·exact absurd himp (not_imposs C I hsz hr)
 obtain ⟨hrow, hsoft⟩ := hWs p hp
 obtain ⟨envL, locL, S, s1, s2, s3, s4, s5, s6, s7⟩ := I.st
 have hrow : rowE D p.1 E loc (σs j) = some (E.get d) := by
  rw [hpd] at hrow
  rcases hpj with h | h
  ·rw [← h]; exact hrow
  ·rw [row_pure h (σ' := σs p.2)]; exact hrow
 have hll : ∀ s v, loc.get s = some v → locL.get s = some v := fun s v h => by
  rw [s3 s (fun hz => by rw [hfree s (.inr hz)] at h; cases h) (fun hz => by rw [hfree s (.inl hz)] at h; cases h)]
  exact h
 have hrow : rowE D p.1 envL locL (σs j) = some (E.get d) := by
  refine row_loc hsoft hll ?_
  rw [← hrow]
  refine row_congr hsoft (fun y hy => use_ent C I hr ho s2 (hus y hy)) (fun g wd hg => ?_)
  rw [hg] at hgd
  exact use_ent C I hr ho s2 hgd.2
 -- what is known behind it
 have fin : ∀ (envL' : Env) G' lm' w' a', St Z N w' G' lm' envL' locL (σs j) a' → (∀ t, envL'.get t = if d = t then E.get d else envL.get t) → Le w.heap w'.heap G G' → (∀ s, s ≠ d → lm' s = lm s) → (∀ t, t ≠ d → a'.tmps.getD t undef = a.tmps.getD t undef) → KK a' w' := by
  intro envL' G' lm' w' a' S' he le hl ht
  have hWd : d ∈ W := hW d (.inl hdi)
  have nps : ∀ t, t ∈ ps → t ≠ d := fun t h e => hdp (by rw [← e]; exact h)
  have nzs : ∀ t, t ∈ zsW zs → t ≠ d := fun t h e => hdz (by rw [← e]; exact h)
  refine K G' lm' w' a' ⟨closed_set I.cl hsz hr, fun hp0 => ⟨hjM, fun n q hq => ?_⟩, fun hp0 => ?_, ⟨envL', locL, S', fun t h => ?_, fun t h => ?_, s3, fun t h1 h2 => ?_, fun t h1 h2 => ?_, fun t h1 h2 => ?_, fun h n q hq hqp hql => ?_⟩, I.le.trans le,
   fun s hs => (hl s fun e => hs (by rw [e]; exact hWd)).trans (I.lm s hs), fun t h => (ht t fun e => h (by rw [e]; exact hWd)).trans (I.tm t h)⟩
  ·rw [lstd_set hsz hi ho hd hf, if_neg (hdh q (Lmg hq))]
   exact (I.levA hp0).2 n q hq
  ·rcases I.levB hp0 with ⟨h, p', h1, h2⟩ | ⟨h, h1⟩
   ·exact .inl ⟨h, p', h1, by rw [lstd_set hsz hi ho hd hf, if_neg (nps _ h1)]; exact h2⟩
   ·exact .inr ⟨h, fun p' hp' => by rw [lstd_set hsz hi ho hd hf, if_neg (nps _ hp')]; exact h1 p' hp'⟩
  ·have hne : t ≠ d := by
    rintro rfl
    rcases h with ⟨_, h⟩ | ⟨h, _⟩
    ·rw [lstd_set hsz hi ho hd hf, if_pos rfl] at h; cases h
    ·exact hdp h
   rw [he t, if_neg (Ne.symm hne)]
   exact s1 t ((hid_set hsz hi ho hd hf hne (fun _ => Iff.rfl)).1 h)
  ·by_cases hne : t = d
   ·subst hne
    rw [he t, if_pos rfl, get_zsE_out hdz]
   ·rw [he t, if_neg (Ne.symm hne)]
    exact s2 t (fun h' => h ((hid_set hsz hi ho hd hf hne (fun _ => Iff.rfl)).2 h'))
  ·rw [lstd_set hsz hi ho hd hf, if_neg (nzs _ h1)] at h2
   exact s4 t h1 h2
  ·rw [lstd_set hsz hi ho hd hf, if_neg (nzs _ h1)] at h2
   exact s5 t h1 h2
  ·rw [lstd_set hsz hi ho hd hf, if_neg (nps _ h1)] at h2
   exact s6 t h1 h2
  ·have hqd : q.d ≠ d := nps _ hqp
   rw [lstd_set hsz hi ho hd hf, if_neg hqd] at hql
   exact pend_keep (s7 h n q hq hqp hql) rfl (hl _ hqd) (ht _ hqd)
 have exec : softE D p.1.r envL locL (σs j) = some (E.get d) → Region.wanted o (yielded ops a.tmps) = true → wpOp P ops Q i KK a w := by
  intro hs hw
  unfold wpOp
  rw [ho]
  simp only [hw, if_true]
  left
  have hopK : opK D o.dst p.1.r envL locL (σs j) (fun env loc σ => some (env, loc, σ)) = some (put envL o.dst (E.get d), locL, σs j) := by rw [soft_eq hsoft, hs]; rfl
  refine op_sound hcall hG hop S (fun env2 loc2 σ2 G2 lm2 w2 a2 hk2 S2 le2 hl2 ht2 => ?_) (fun t ht => by rw [hd] at ht; cases ht; exact hdN) hopK
  cases hk2
  rw [hd] at S2 hl2 ht2
  refine fin _ G2 lm2 w2 a2 S2 (fun t => ?_) le2 (fun s hs => hl2 s (by simpa using hs)) (fun t ht => ht2 t (by simpa using ht))
  show Env.get ((d, E.get d) :: envL) t = _
  rw [Env.get_cons]
 have skip : E.get d = .v (.tuple []) → Region.wanted o (yielded ops a.tmps) = false → wpOp P ops Q i KK a w := by
  intro hE hw
  unfold wpOp
  rw [ho]
  simp only [hw, Bft, if_false]
  rw [hd]
  refine fin _ G lm w _ (S.skip (d := some d) (fun t ht => by cases ht; exact hdN)) (fun t => ?_) (.refl _ _) (fun _ _ => rfl) (fun t ht => put_other (d := some d) (fun t ht => by cases ht; exact Nat.lt_of_lt_of_le hdN S.nt) t (by simpa using ht))
  show Env.get ((d, .v (.tuple [])) :: envL) t = _
  rw [Env.get_cons, hE]
 cases hg : p.1.g with
 | none =>
  rw [hg] at hgd
  simp only [rowE, hg, ogo] at hrow
  exact exec hrow (wanted_none hgd)
 | some gw =>
  obtain ⟨g, wd⟩ := gw
  rw [hg] at hgd
  simp only at hgd
  simp only [rowE, hg, ogo] at hrow
  split at hrow
  ·rename_i hgo
   split at hgo
   ·rename_i b hgv
    have hbw : (b == wd) = true := by simpa using hgo
    refine exec hrow ?_
    rw [wanted_bool hgd.1 (S.val hgv).bool_inv, hbw]
   ·cases hgo
   ·cases hgo
  ·rename_i hgo
   refine skip (by simpa using hrow.symm) ?_
   split at hgo
   ·rename_i b hgv
    have hbw : (b == wd) = false := by simpa using hgo
    rw [wanted_bool hgd.1 (S.val hgv).bool_inv, hbw]
   ·rename_i hgv
    exact wanted_undef hgd.1 (S.val hgv).unit_inv
   ·cases hgo
  ·cases hrow
end
end Go.Asm
/- Regions whose order is drawn: boxes, and operations that turn the store. -/
namespace Go.Asm
section
variable {P : Program} {Z : Base} {N : Nat} {w w' w0 : World} {G G' G0 : Gh} {lm lm' lm0 : Nat → Option Nat} {env env' E : Env} {loc : Loc} {σ σ' : Store} {a a' a0 : Act}
 {x : AV × Store} {Q : Exit → Act → World → Prop} {o : Oper} {D : Ctx} {ops : Array Oper} {m : Nat} {items : List TI} {ps : List Nat} {zs : List (Nat × List AV)} {σs : Nat → Store} {W : List Nat}
 {listed : Array Bool} {j : Nat} {KK : Act → World → Prop}

theorem unlisted (hsz : listed.size = ops.size) {i d : Nat} (hr : i ∈ Region.ready .any ops listed) (hf : findD d (ops.toList.take m) 0 = some i) : lstd (ops.toList.take m) listed d = false := by
 obtain ⟨r1, o, ho, _⟩ := mem_ready.1 hr
 have hlt : i < listed.size := by rw [hsz]; exact (Array.getElem?_eq_some_iff.1 ho).1
 unfold lstd
 rw [hf]
 simp only
 rw [getD_in hlt false true]; exact r1
theorem DI.jM (C : DChk P N ops m items ps zs) (I : DI Z N ops m items ps zs E loc σs W G0 lm0 w0 a0 listed j G lm w a) : j ≤ (hardsOf items).length := by
 by_cases hp : ps = []
 ·exact (I.levA hp).1
 ·rcases I.levB hp with ⟨h, _⟩ | ⟨h, _⟩ <;> omega

theorem step_z (D : Ctx) (C : DChk P N ops m items ps zs)
  (hfree : ∀ s, s ∈ ps ∨ s ∈ zsW zs → loc.get s = none) (hW : ∀ t, t ∈ dstsI items ∨ t ∈ zsW zs → t ∈ W) (hnl : NoL W E) (hsz : listed.size = ops.size)
  (I : DI Z N ops m items ps zs E loc σs W G0 lm0 w0 a0 listed j G lm w a) {i d : Nat} (hi : i < m) (hr : i ∈ Region.ready .any ops listed) (ho : ops[i]? = some o) (hd : o.dst = some d) (hdN : d < N) (hf : findD d (ops.toList.take m) 0 = some i)
  {zero : List AV} (hz : (d, zero) ∈ zs) (hg : o.guard.isNone = true) (hop : opOk P o (.zalloc zero) = true)
  (K : ∀ G' lm' w' a', DI Z N ops m items ps zs E loc σs W G0 lm0 w0 a0 (listed.setIfInBounds i true) j G' lm' w' a' → KK a' w') : wpOp P ops Q i KK a w := by
 have hdz : d ∈ zsW zs := mem_zsW.2 ⟨zero, hz⟩
 have hdi : d ∉ dstsI items := C.zdis d hdz
 have hdp : d ∉ ps := fun h => by
  obtain ⟨n, q, hq, hqd⟩ := C.pdst d h
  exact hdi (hqd ▸ C.hdst q (Lmg hq))
 have hdh : ∀ q ∈ hardsOf items, q.d ≠ d := fun q hq e => hdi (e ▸ C.hdst q hq)
 have hun := unlisted (m := m) hsz hr hf
 obtain ⟨envL, locL, S, s1, s2, s3, s4, s5, s6, s7⟩ := I.st
 have hl0 := s5 d hdz hun
 unfold wpOp
 rw [ho]
 simp only [wanted_none hg, if_true]
 left
 have hopK : opK D o.dst (.zalloc zero) envL locL (σs j) (fun env loc σ => some (env, loc, σ)) = some ((d, .l d 0) :: envL.purgeAt d, (d, zero.length, zero) :: locL, σs j) := by rw [hd]; simp only [opK, hl0]
 simp only [opOk] at hop
 split at hop
 ·refine sound_zalloc S (fun env2 loc2 σ2 G2 lm2 w2 a2 hk2 S2 le2 hl2 ht2 => ?_) (fun t ht => by rw [hd] at ht; cases ht; exact hdN) (by assumption) hop hopK
  cases hk2
  rw [hd] at hl2 ht2
  have hl2 : ∀ s, s ≠ d → lm2 s = lm s := fun s hs => hl2 s (by simpa using hs)
  have ht2 : ∀ t, t ≠ d → a2.tmps.getD t undef = a.tmps.getD t undef := fun t ht => ht2 t (by simpa using ht)
  have hWd : d ∈ W := hW d (.inr hdz)
  have nps : ∀ t, t ∈ ps → t ≠ d := fun t h e => hdp (by rw [← e]; exact h)
  have hge : ∀ t, t ≠ d → Env.get ((d, .l d 0) :: envL.purgeAt d) t = envL.get t := fun t ht => by
   rw [Env.get_cons, if_neg (Ne.symm ht), Env.get_purgeAt]
   rw [if_neg]
   intro hat
   by_cases hh : Hid (ops.toList.take m) items ps zs listed j t
   ·rw [s1 t hh] at hat; simp [Ent.at] at hat
   ·rw [s2 t hh] at hat
    by_cases htz : t ∈ zsW zs
    ·rw [get_zsE_in htz] at hat
     simp only [Ent.at] at hat
     exact ht (Nat.eq_of_beq_eq_true hat)
    ·rw [get_zsE_out htz] at hat
     cases he : E.get t with
     | v v => rw [he] at hat; simp [Ent.at] at hat
     | l s' o' =>
      rw [he] at hat
      simp only [Ent.at] at hat
      have := Nat.eq_of_beq_eq_true hat
      subst this
      exact hnl t _ _ he hWd
  refine K G2 lm2 w2 a2 ⟨closed_set I.cl hsz hr, fun hp0 => ⟨I.jM C, fun n q hq => ?_⟩, fun hp0 => ?_, ⟨_, _, S2, fun t h => ?_, fun t h => ?_, fun t h1 h2 => ?_, fun t h1 h2 => ?_, fun t h1 h2 => ?_, fun t h1 h2 => ?_, fun h n q hq hqp hql => ?_⟩, I.le.trans le2,
   fun s hs => (hl2 s fun e => hs (by rw [e]; exact hWd)).trans (I.lm s hs), fun t h => (ht2 t fun e => h (by rw [e]; exact hWd)).trans (I.tm t h)⟩
  ·rw [lstd_set hsz hi ho hd hf, if_neg (hdh q (Lmg hq))]
   exact (I.levA hp0).2 n q hq
  ·rcases I.levB hp0 with ⟨h, p', h1, h2⟩ | ⟨h, h1⟩
   ·exact .inl ⟨h, p', h1, by rw [lstd_set hsz hi ho hd hf, if_neg (nps _ h1)]; exact h2⟩
   ·exact .inr ⟨h, fun p' hp' => by rw [lstd_set hsz hi ho hd hf, if_neg (nps _ hp')]; exact h1 p' hp'⟩
  ·have hne : t ≠ d := by
    rintro rfl
    rcases h with ⟨_, h⟩ | ⟨h, _⟩
    ·rw [lstd_set hsz hi ho hd hf, if_pos rfl] at h; cases h
    ·exact hdp h
   rw [hge t hne]
   exact s1 t ((hid_set hsz hi ho hd hf hne (fun _ => Iff.rfl)).1 h)
  ·by_cases hne : t = d
   ·subst hne
    rw [Env.get_cons, if_pos rfl, get_zsE_in hdz]
   ·rw [hge t hne]
    exact s2 t (fun h' => h ((hid_set hsz hi ho hd hf hne (fun _ => Iff.rfl)).2 h'))
  ·rw [Loc.get_cons, if_neg (fun e => h1 (by rw [← e]; exact hdz))]
   exact s3 t h1 h2
  ·by_cases hne : t = d
   ·subst hne
    rw [Loc.get_cons, if_pos rfl, get_zsL_in C.zno hz]
   ·rw [lstd_set hsz hi ho hd hf, if_neg hne] at h2
    rw [Loc.get_cons, if_neg (Ne.symm hne)]
    exact s4 t h1 h2
  ·have hne : t ≠ d := fun e => by rw [lstd_set hsz hi ho hd hf, if_pos e] at h2; cases h2
   rw [lstd_set hsz hi ho hd hf, if_neg hne] at h2
   rw [Loc.get_cons, if_neg (Ne.symm hne)]
   exact s5 t h1 h2
  ·rw [lstd_set hsz hi ho hd hf, if_neg (nps _ h1)] at h2
   rw [Loc.get_cons, if_neg (Ne.symm (nps _ h1))]
   exact s6 t h1 h2
  ·have hqd : q.d ≠ d := nps _ hqp
   rw [lstd_set hsz hi ho hd hf, if_neg hqd] at hql
   exact pend_keep (s7 h n q hq hqp hql) (by rw [Loc.get_cons, if_neg (Ne.symm hqd)]) (hl2 _ hqd) (ht2 _ hqd)
 ·cases hop

theorem step_hard (hcall : CallOK P Z.Gl D.call) (hG : D.G = Z.Gl) (C : DChk P N ops m items ps zs)
  (hHs : ∀ n (q : DR), (hardsOf items)[n]? = some q → hardE D q.r E loc (σs n) = some (E.get q.d, σs (n + 1)) ∧ hardOp q.r = true)
  (hfree : ∀ s, s ∈ ps ∨ s ∈ zsW zs → loc.get s = none) (hW : ∀ t, t ∈ dstsI items ∨ t ∈ zsW zs → t ∈ W) (hsz : listed.size = ops.size)
  (I : DI Z N ops m items ps zs E loc σs W G0 lm0 w0 a0 listed j G lm w a) {i d : Nat} (hi : i < m) (hr : i ∈ Region.ready .any ops listed) (ho : ops[i]? = some o) (hd : o.dst = some d) (hdN : d < N) (hf : findD d (ops.toList.take m) 0 = some i)
  {n : Nat} {q : DR} (hps : ps = []) (hq : (hardsOf items)[n]? = some q) (hqd : q.d = d) (hg : o.guard.isNone = true) (hop : opOk P o q.r = true) (hus : ∀ y ∈ opds q.r, UseOk ops (ops.toList.take m) ps zs i o y)
  (hch : ∀ n' q', n' < n → (hardsOf items)[n']? = some q' → ∃ i', findD q'.d (ops.toList.take m) 0 = some i' ∧ Reach ops i i')
  (K : ∀ G' lm' w' a', DI Z N ops m items ps zs E loc σs W G0 lm0 w0 a0 (listed.setIfInBounds i true) (j + 1) G' lm' w' a' → KK a' w') : wpOp P ops Q i KK a w := by
 have hdi : d ∈ dstsI items := hqd ▸ C.hdst q (Lmg hq)
 have hdz : d ∉ zsW zs := fun h => C.zdis d h hdi
 have hdp : d ∉ ps := by rw [hps]; simp
 have hun := unlisted (m := m) hsz hr hf
 obtain ⟨r1, o', ho', r3⟩ := mem_ready.1 hr
 rw [ho] at ho'; cases ho'
 obtain ⟨hjM, hlev⟩ := I.levA hps
 have hnj : n = j := by
  have h1 : ¬ n < j := fun h => by
   have := (hlev n q hq).2 h
   rw [hqd, hun] at this; cases this
  have h2 : ∀ n', n' < n → n' < j := fun n' hn' => by
   have hnl := (List.getElem?_eq_some_iff.1 hq).1
   have hq' : (hardsOf items)[n']? = some (hardsOf items)[n'] := Lge (by omega)
   obtain ⟨i', hf', hre⟩ := hch n' _ hn' hq'
   refine (hlev n' _ hq').1 ?_
   unfold lstd
   rw [hf']
   exact reach_edge I.cl hre fun o'' ho'' e he hb => by rw [ho] at ho''; cases ho''; exact r3 e he hb
  rcases Nat.lt_or_ge j n with h | h
  ·have := h2 j h; omega
  ·omega
 subst hnj
 obtain ⟨hrow, hhard⟩ := hHs n q hq
 obtain ⟨envL, locL, S, s1, s2, s3, s4, s5, s6, s7⟩ := I.st
 have hrow : hardE D q.r envL locL (σs n) = some (E.get d, σs (n + 1)) := by
  rw [hqd] at hrow
  rw [← hrow]
  exact hard_congr hhard fun y hy => use_ent C I hr ho s2 (hus y hy)
 unfold wpOp
 rw [ho]
 simp only [wanted_none hg, if_true]
 left
 have hopK : opK D o.dst q.r envL locL (σs n) (fun env loc σ => some (env, loc, σ)) = some (put envL o.dst (E.get d), locL, σs (n + 1)) := by rw [hard_eq hhard, hrow]; rfl
 refine op_sound hcall hG hop S (fun env2 loc2 σ2 G2 lm2 w2 a2 hk2 S2 le2 hl2 ht2 => ?_) (fun t ht => by rw [hd] at ht; cases ht; exact hdN) hopK
 cases hk2
 rw [hd] at S2 hl2 ht2
 have hl2 : ∀ s, s ≠ d → lm2 s = lm s := fun s hs => hl2 s (by simpa using hs)
 have ht2 : ∀ t, t ≠ d → a2.tmps.getD t undef = a.tmps.getD t undef := fun t ht => ht2 t (by simpa using ht)
 have hge : ∀ t, (put envL (some d) (E.get d)).get t = if d = t then E.get d else envL.get t := fun t => by
  show Env.get ((d, E.get d) :: envL) t = _
  rw [Env.get_cons]
 have hWd : d ∈ W := hW d (.inl hdi)
 have nzs : ∀ t, t ∈ zsW zs → t ≠ d := fun t h e => hdz (by rw [← e]; exact h)
 have hnl := (List.getElem?_eq_some_iff.1 hq).1
 refine K G2 lm2 w2 a2 ⟨closed_set I.cl hsz hr, fun hp0 => ⟨by omega, fun n' q' hq' => ?_⟩, fun hp0 => absurd hps hp0, ⟨_, locL, S2, fun t h => ?_, fun t h => ?_, s3, fun t h1 h2 => ?_, fun t h1 h2 => ?_, fun t h1 h2 => ?_, fun h n' q' hq' hqp hql => ?_⟩, I.le.trans le2,
   fun s hs => (hl2 s fun e => hs (by rw [e]; exact hWd)).trans (I.lm s hs), fun t h => (ht2 t fun e => h (by rw [e]; exact hWd)).trans (I.tm t h)⟩
 ·rw [lstd_set hsz hi ho hd hf]
  by_cases e : n' = n
  ·subst e
   rw [hq] at hq'; cases hq'
   rw [if_pos hqd]
   simp
  ·rw [if_neg (fun e2 => e (C.hno n' n q' q hq' hq (e2.trans hqd.symm))), hlev n' q' hq']
   omega
 ·have hne : t ≠ d := by
   rintro rfl
   rcases h with ⟨_, h⟩ | ⟨h, _⟩
   ·rw [lstd_set hsz hi ho hd hf, if_pos rfl] at h; cases h
   ·exact hdp h
  rw [hge t, if_neg (Ne.symm hne)]
  exact s1 t ((hid_set hsz hi ho hd hf hne (fun h => by rw [hps] at h; cases h)).1 h)
 ·by_cases hne : t = d
  ·subst hne
   rw [hge t, if_pos rfl, get_zsE_out hdz]
  ·rw [hge t, if_neg (Ne.symm hne)]
   exact s2 t (fun h' => h ((hid_set hsz hi ho hd hf hne (fun h => by rw [hps] at h; cases h)).2 h'))
 ·rw [lstd_set hsz hi ho hd hf, if_neg (nzs _ h1)] at h2
  exact s4 t h1 h2
 ·rw [lstd_set hsz hi ho hd hf, if_neg (nzs _ h1)] at h2
  exact s5 t h1 h2
 ·rw [hps] at h1; cases h1
 ·rw [hps] at hqp; cases hqp
end
end Go.Asm
/- Regions whose order is drawn: several new slices, in whatever order; the whole. -/
namespace Go.Asm
section
variable {P : Program} {Z : Base} {N : Nat} {w w' w0 : World} {G G' G0 : Gh} {lm lm' lm0 : Nat → Option Nat} {env env' E : Env} {loc : Loc} {σ σ' σ1 : Store} {a a' a0 : Act}
 {x : AV × Store} {Q : Exit → Act → World → Prop} {o : Oper} {D : Ctx} {ops : Array Oper} {m : Nat} {items : List TI} {ps : List Nat} {zs : List (Nat × List AV)} {σs : Nat → Store} {W : List Nat}
 {listed : Array Bool} {j : Nat} {KK : Act → World → Prop}

theorem mkRows_len (z : List AV) (n : Nat) : (mkRows z n).length = n * z.length := by
 induction n with
 | zero => simp [mkRows]
 | succ n ih => simp only [mkRows, List.length_append, ih, Nat.add_mul]; omega
theorem pend_run (S : St Z N w G lm env loc σ a) {zero : List AV} {y0 : Opd} (hop : opOk P o (.mkSlice zero y0) = true) {e : Ent} {loc1 : Loc} (h : hardE D (.mkSlice zero y0) env loc1 σ1 = some (e, σ')) :
  ∃ (nn : Nat) (arr : Array Value) (el : TypeId), e = .v (.hslice zero.length σ1.next 0 nn) ∧ σ' = σ1.add (.cells (mkRows zero nn)) ∧ (execOp a.eval o).run P w = .ok (.value (.slice (some ⟨w.heap.size, 0, none⟩) nn nn)) (w.alloc (.cells arr el)) ∧
   VRels w.heap G (mkRows zero nn) arr.toList ∧ Ones arr.toList := by
 simp only [opOk] at hop
 split at hop
 ·rename_i t y z ho
  simp only [Bae] at hop
  obtain ⟨⟨hy, hz⟩, he⟩ := hop
  simp only [hardE, opK, put, Env.get_cons, if_true] at h
  obtain ⟨v, hv, ha⟩ := val_some h
  obtain ⟨r, hr, h⟩ := bind_some ha
  have r1 := val_rel S hy hv
  have r2 := val_rel S hz hv
  unfold mkSlice at hr
  split at hr
  ·rename_i kd n
   split at hr
   ·rename_i hn
    obtain ⟨e', i, zv, hu, hi, hzv, hsz, hby, hpos, hone, hrel⟩ := elemOk_inv he
    have hmax := hn.2
    simp only [maxLen'] at hmax
    have hb : (i.bytes : Int) * n ≤ 281474976710656 := by
     have h1 : (i.bytes : Int) * n ≤ 16384 * n := Int.mul_le_mul_of_nonneg_right (by omega) hn.1
     omega
    have hrun := run_make (P := P) w t e' i zv hu hi hzv kd kd n n hn.1 (Int.le_refl _) hb (by omega)
    obtain ⟨m1, m2⟩ := made_rel (w := w) (G := G) hrel hone rfl hpos n.toNat
    rw [← hsz] at m1 m2
    have hfl := m1.flat
    rw [flat_zeros] at hfl
    cases hr
    cases h
    refine ⟨n.toNat, _, e', rfl, rfl, ?_, hfl, m2⟩
    unfold execOp
    simp only [ho, r1.int_inv, r2.int_inv]
    simp only [Sem.run_bind, hrun, Result.andThen_ok, Sem.run_pure]
   ·cases hr
  ·cases hr
 ·cases hop

theorem exists_env (F : Env) : ∀ (l : List Nat) (env : Env), ∃ env' : Env, ∀ t, (t ∈ l → env'.get t = F.get t) ∧ (t ∉ l → env'.get t = env.get t)
 | [], env => ⟨env, fun t => ⟨fun h => (by cases h), fun _ => rfl⟩⟩
 | s :: l, env => by
  obtain ⟨e1, h1⟩ := exists_env F l env
  refine ⟨(s, F.get s) :: e1, fun t => ?_⟩
  rw [Env.get_cons]
  by_cases h : s = t
  ·subst h; rw [if_pos rfl]; exact ⟨fun _ => rfl, fun h => absurd (List.mem_cons_self ..) h⟩
  ·rw [if_neg h]
   refine ⟨fun ht => ?_, fun ht => ?_⟩
   ·rcases List.mem_cons.1 ht with e | ht
    ·exact absurd e.symm h
    ·exact (h1 t).1 ht
   ·exact (h1 t).2 fun h => ht (List.mem_cons_of_mem _ h)

theorem promote_all {locL : Loc} {Hs : List DR} (hno : ∀ (n n' : Nat) (q q' : DR), Hs[n]? = some q → Hs[n']? = some q' → q.d = q'.d → n = n') (H : HI Z w G lm locL (σs 0))
  (hp : ∀ n (q : DR), Hs[n]? = some q → PendAt E σs n q locL lm a) : ∀ k, k ≤ Hs.length → ∃ (G' : Gh) (loc' : Loc), HI Z w G' lm loc' (σs k) ∧ Le w.heap w.heap G G' ∧
   (∀ n (q : DR), n < k → Hs[n]? = some q → VRel w.heap G' (match E.get q.d with | .v v => v | _ => .undef) (a.tmps.getD q.d undef) ∧ loc'.get q.d = none) ∧ (∀ t, (∀ n (q : DR), n < k → Hs[n]? = some q → q.d ≠ t) → loc'.get t = locL.get t) := by
 intro k
 induction k with
 | zero => intro _; exact ⟨G, locL, H, .refl _ _, fun n q h => by omega, fun t _ => rfl⟩
 | succ k ih =>
  intro hk
  obtain ⟨G1, loc1, H1, le1, v1, l1⟩ := ih (by omega)
  have hq : Hs[k]? = some Hs[k] := Lge (by omega)
  obtain ⟨zero, nn, g, p1, p2, p3, p4, p5⟩ := hp k _ hq
  have hl : loc1.get Hs[k].d = some (nn * zero.length, mkRows zero nn) := by
   rw [l1 _ fun n q hn hqn e => ?_]
   ·exact p3
   ·have := hno n k q _ hqn hq e; omega
  obtain ⟨H2, le2⟩ := H1.promote hl p4 (loc1.drop1 Hs[k].d) (fun t e he => by
   have hne : t ≠ Hs[k].d := fun q => by subst q; rw [Loc.get_drop1_self] at he; cases he
   rw [Loc.get_drop1 _ _ _ (Ne.symm hne)] at he
   exact ⟨hne, he⟩)
  rw [← p1] at H2
  refine ⟨_, _, H2, le1.trans le2, fun n q hn hqn => ?_, fun t ht => ?_⟩
  ·by_cases e : n = k
   ·subst e
    rw [hq] at hqn; cases hqn
    refine ⟨?_, Loc.get_drop1_self _ _⟩
    rw [p2, p5]
    exact .hslice (m := nn * zero.length) (by simp [Gh.add]) (Nat.le_refl _) (by omega)
   ·have hne : Hs[k].d ≠ q.d := fun e2 => e (hno n k q _ hqn hq e2.symm)
    obtain ⟨a1, a2⟩ := v1 n q (by omega) hqn
    exact ⟨a1.mono le2, by rw [Loc.get_drop1 _ _ _ hne]; exact a2⟩
  ·have hne : Hs[k].d ≠ t := ht k _ (by omega) hq
   rw [Loc.get_drop1 _ _ _ hne]
   exact l1 t fun n q hn => ht n q (by omega)

theorem step_pend (C : DChk P N ops m items ps zs)
  (hHs : ∀ n (q : DR), (hardsOf items)[n]? = some q → hardE D q.r E loc (σs n) = some (E.get q.d, σs (n + 1)) ∧ hardOp q.r = true)
  (hW : ∀ t, t ∈ dstsI items ∨ t ∈ zsW zs → t ∈ W) (hnl : NoL W E) (hsz : listed.size = ops.size)
  (I : DI Z N ops m items ps zs E loc σs W G0 lm0 w0 a0 listed j G lm w a) {i d : Nat} (hi : i < m) (hr : i ∈ Region.ready .any ops listed) (ho : ops[i]? = some o) (hd : o.dst = some d) (hdN : d < N) (hf : findD d (ops.toList.take m) 0 = some i)
  {n : Nat} {q : DR} {zero : List AV} {y0 : Opd} (hdps : d ∈ ps) (hq : (hardsOf items)[n]? = some q) (hqd : q.d = d) (hg : o.guard.isNone = true) (hop : opOk P o q.r = true) (hqr : q.r = .mkSlice zero y0) (hus : UseOk ops (ops.toList.take m) ps zs i o y0)
  (K : ∀ j' G' lm' w' a', DI Z N ops m items ps zs E loc σs W G0 lm0 w0 a0 (listed.setIfInBounds i true) j' G' lm' w' a' → KK a' w') : wpOp P ops Q i KK a w := by
 have hdi : d ∈ dstsI items := hqd ▸ C.hdst q (Lmg hq)
 have hdz : d ∉ zsW zs := fun h => C.zdis d h hdi
 have hpne : ps ≠ [] := fun e => by rw [e] at hdps; cases hdps
 have hall : ∀ q : DR, q ∈ hardsOf items → q.d ∈ ps := by
  rcases C.hps with h | h
  ·exact absurd h hpne
  ·exact h
 have hun := unlisted (m := m) hsz hr hf
 have hj0 : j = 0 := by
  rcases I.levB hpne with ⟨h, _⟩ | ⟨_, h⟩
  ·exact h
  ·rw [h d hdps] at hun; cases hun
 have hM : 0 < (hardsOf items).length := by have := (List.getElem?_eq_some_iff.1 hq).1; omega
 subst hj0
 obtain ⟨hrow, hhard⟩ := hHs n q hq
 obtain ⟨envL, locL, S, s1, s2, s3, s4, s5, s6, s7⟩ := I.st
 have s7 := s7 (by omega)
 have hrow : hardE D q.r envL locL (σs n) = some (E.get d, σs (n + 1)) := by
  rw [hqd] at hrow
  rw [← hrow]
  refine hard_congr hhard fun y hy => ?_
  rw [hqr] at hy
  simp only [opds, List.mem_singleton] at hy
  subst hy
  exact use_ent C I hr ho s2 hus
 rw [hqr] at hrow hop
 obtain ⟨nn, arr, el, e1, e2, hrun, hrel, hone⟩ := pend_run S hop hrow
 have hlen : arr.size = nn * zero.length := by have := hrel.1; rw [mkRows_len] at this; simpa using this.symm
 have hl0 : locL.get d = none := s6 d hdps (.inr hun)
 obtain ⟨H1, le1⟩ := S.hi.lalloc (elem := el) hl0 hlen (mkRows_len zero nn) hone hrel.arr
 have hWd : d ∈ W := hW d (.inl hdi)
 have nzs : ∀ t, t ∈ zsW zs → t ≠ d := fun t h e => hdz (by rw [← e]; exact h)
 have hidd : envL.get d = .v .undef := s1 d (.inl ⟨.inl hdi, hun⟩)
 -- the state behind it
 generalize hw1 : w.alloc (.cells arr el) = w1 at H1 le1 hrun
 generalize hlm1 : (fun t => if t = d then some w.heap.size else lm t) = lm1 at H1
 generalize ha1 : a.put (some d) (.slice (some ⟨w.heap.size, 0, none⟩) nn nn) = a1
 have hlmo : ∀ s, s ≠ d → lm1 s = lm s := fun s hs => by rw [← hlm1]; simp [hs]
 have htm : ∀ t, a1.tmps.getD t undef = if d = t then .slice (some ⟨w.heap.size, 0, none⟩) nn nn else a.tmps.getD t undef := fun t => by rw [← ha1, getD_put (Nat.lt_of_lt_of_le hdN S.nt)]
 have S1 : St Z N w1 G lm1 envL ((d, nn * zero.length, mkRows zero nn) :: locL) (σs 0) a1 := by
  refine ⟨H1, fun t => ?_, by rw [← ha1, put_defers]; exact S.df, by rw [← ha1, put_size]; exact S.nt⟩
  rw [htm t]
  by_cases e : d = t
  ·subst e; rw [hidd]; exact VRel.undef
  ·rw [if_neg e]
   refine (S.er t).mono le1 (fun s' o' he => hlmo s' fun e' => ?_)
   subst e'
   by_cases hh : Hid (ops.toList.take m) items ps zs listed 0 t
   ·rw [s1 t hh] at he; cases he
   ·rw [s2 t hh] at he
    by_cases htz : t ∈ zsW zs
    ·rw [get_zsE_in htz] at he; cases he; exact e rfl
    ·rw [get_zsE_out htz] at he
     exact hnl t _ _ he hWd
 have pnew : PendAt E σs n q ((d, nn * zero.length, mkRows zero nn) :: locL) lm1 a1 := by
  refine ⟨zero, nn, w.heap.size, e2, by rw [hqd]; exact e1, ?_, ?_, ?_⟩
  ·rw [hqd, Loc.get_cons, if_pos rfl]
  ·rw [hqd, ← hlm1]; simp
  ·rw [hqd, htm d, if_pos rfl]
 have pall : ∀ n' (q' : DR), (hardsOf items)[n']? = some q' → lstd (ops.toList.take m) (listed.setIfInBounds i true) q'.d = true → PendAt E σs n' q' ((d, nn * zero.length, mkRows zero nn) :: locL) lm1 a1 := by
  intro n' q' hq' hl'
  by_cases e : n' = n
  ·subst e; rw [hq] at hq'; cases hq'; exact pnew
  ·have hne : q'.d ≠ d := fun e2 => e (C.hno n' n q' q hq' hq (e2.trans hqd.symm))
   rw [lstd_set hsz hi ho hd hf, if_neg hne] at hl'
   exact pend_keep (s7 n' q' hq' (hall q' (Lmg hq')) hl') (by rw [Loc.get_cons, if_neg (Ne.symm hne)]) (hlmo _ hne) (by rw [htm, if_neg (Ne.symm hne)])
 unfold wpOp
 rw [ho]
 simp only [wanted_none hg, if_true]
 left
 unfold Oper.wp
 rw [hrun]
 show KK (a.put o.dst _) _
 rw [hd, ha1]
 have hle0 : Le w0.heap w1.heap G0 G := I.le.trans le1
 have hlm0 : ∀ s, s ∉ W → lm1 s = lm0 s := fun s hs => (hlmo s fun e => hs (by rw [e]; exact hWd)).trans (I.lm s hs)
 have htm0 : ∀ t, t ∉ W → a1.tmps.getD t undef = a0.tmps.getD t undef := fun t h => by
  rw [htm t, if_neg (fun e => h (by rw [← e]; exact hWd))]; exact I.tm t h
 by_cases hfull : ∀ p ∈ ps, lstd (ops.toList.take m) (listed.setIfInBounds i true) p = true
 ·-- the last of them: all go over to the store
  obtain ⟨G2, loc2, H2, le2, v2, l2⟩ := promote_all C.hno S1.hi (fun n' q' hq' => pall n' q' hq' (hfull _ (hall q' (Lmg hq')))) (hardsOf items).length (Nat.le_refl _)
  obtain ⟨envN, hN⟩ := exists_env E ps envL
  have hpsE : ∀ t ∈ ps, ∃ v, E.get t = .v v ∧ VRel w1.heap G2 v (a1.tmps.getD t undef) ∧ loc2.get t = none := fun t ht => by
   obtain ⟨n', q', hq', hqd'⟩ := C.pdst t ht
   obtain ⟨z', nn', g', p1, p2, _⟩ := pall n' q' hq' (hfull _ (hqd' ▸ ht))
   obtain ⟨a1', a2'⟩ := v2 n' q' ((List.getElem?_eq_some_iff.1 hq').1) hq'
   rw [p2] at a1'
   rw [hqd'] at a1' a2' p2
   exact ⟨_, p2, a1', a2'⟩
  have hlo : ∀ t, t ∉ ps → loc2.get t = locL.get t := fun t ht => by
   rw [l2 t fun n' q' _ hq' e => ht (e ▸ hall q' (Lmg hq')), Loc.get_cons, if_neg (fun e => ht (by rw [← e]; exact hdps))]
  refine K (hardsOf items).length G2 lm1 w1 a1 ⟨closed_set I.cl hsz hr, fun hp0 => absurd hp0 hpne, fun _ => .inr ⟨rfl, hfull⟩,
   ⟨envN, loc2, ⟨H2, fun t => ?_, S1.df, S1.nt⟩, fun t h => ?_, fun t h => ?_, fun t h1 h2 => ?_, fun t h1 h2 => ?_, fun t h1 h2 => ?_, fun t h1 h2 => ?_, fun h => absurd rfl h⟩, hle0.trans le2, hlm0, htm0⟩
  ·by_cases ht : t ∈ ps
   ·obtain ⟨v, hv, hr', _⟩ := hpsE t ht
    rw [(hN t).1 ht, hv]; exact hr'
   ·rw [(hN t).2 ht]
    exact (S1.er t).mono le2 (fun _ _ _ => rfl)
  ·have hne : t ∉ ps := fun hp => by
    rcases h with ⟨_, h⟩ | ⟨_, h⟩
    ·rw [hfull t hp] at h; cases h
    ·exact h rfl
   rw [(hN t).2 hne]
   refine s1 t ?_
   rcases h with ⟨h, h'⟩ | ⟨h, _⟩
   ·rw [lstd_set hsz hi ho hd hf, if_neg (fun e => hne (by rw [e]; exact hdps))] at h'
    exact .inl ⟨h, h'⟩
   ·exact absurd h hne
  ·by_cases ht : t ∈ ps
   ·obtain ⟨n', q', hq', hqd'⟩ := C.pdst t ht
    have : t ∉ zsW zs := fun hz => C.zdis t hz (hqd' ▸ C.hdst q' (Lmg hq'))
    rw [(hN t).1 ht, get_zsE_out this]
   ·rw [(hN t).2 ht]
    refine s2 t fun h' => h ?_
    rcases h' with ⟨h1, h2⟩ | ⟨h1, _⟩
    ·refine .inl ⟨h1, ?_⟩
     rw [lstd_set hsz hi ho hd hf, if_neg (fun e => ht (by rw [e]; exact hdps))]
     exact h2
    ·exact absurd h1 ht
  ·rw [hlo t h2]; exact s3 t h1 h2
  ·have hnp : t ∉ ps := fun hp => by
    obtain ⟨n', q', hq', hqd'⟩ := C.pdst t hp
    exact C.zdis t h1 (hqd' ▸ C.hdst q' (Lmg hq'))
   rw [lstd_set hsz hi ho hd hf, if_neg (nzs _ h1)] at h2
   rw [hlo t hnp]; exact s4 t h1 h2
  ·have hnp : t ∉ ps := fun hp => by
    obtain ⟨n', q', hq', hqd'⟩ := C.pdst t hp
    exact C.zdis t h1 (hqd' ▸ C.hdst q' (Lmg hq'))
   rw [lstd_set hsz hi ho hd hf, if_neg (nzs _ h1)] at h2
   rw [hlo t hnp]; exact s5 t h1 h2
  ·exact (hpsE t h1).choose_spec.2.2
 ·obtain ⟨p, hp, hpl⟩ : ∃ p ∈ ps, lstd (ops.toList.take m) (listed.setIfInBounds i true) p = false := by
   by_cases hx : ∃ p ∈ ps, lstd (ops.toList.take m) (listed.setIfInBounds i true) p = false
   ·exact hx
   ·exfalso
    refine hfull fun p hp => ?_
    cases h : lstd (ops.toList.take m) (listed.setIfInBounds i true) p with
    | true => rfl
    | false => exact absurd ⟨p, hp, h⟩ hx
  refine K 0 G lm1 w1 a1 ⟨closed_set I.cl hsz hr, fun hp0 => absurd hp0 hpne, fun _ => .inl ⟨rfl, p, hp, hpl⟩, ⟨envL, _, S1, fun t h => ?_, fun t h => ?_, fun t h1 h2 => ?_, fun t h1 h2 => ?_, fun t h1 h2 => ?_, fun t h1 h2 => ?_, fun _ n' q' hq' _ hl' => pall n' q' hq' hl'⟩,
   hle0, hlm0, htm0⟩
  ·by_cases hne : t = d
   ·subst hne; exact hidd
   ·exact s1 t ((hid_set hsz hi ho hd hf hne (fun _ => Iff.rfl)).1 h)
  ·have hne : t ≠ d := fun e => h (by subst e; exact .inr ⟨hdps, by omega⟩)
   exact s2 t (fun h' => h ((hid_set hsz hi ho hd hf hne (fun _ => Iff.rfl)).2 h'))
  ·rw [Loc.get_cons, if_neg (fun e => h2 (by rw [← e]; exact hdps))]
   exact s3 t h1 h2
  ·rw [lstd_set hsz hi ho hd hf, if_neg (nzs _ h1)] at h2
   rw [Loc.get_cons, if_neg (Ne.symm (nzs _ h1))]
   exact s4 t h1 h2
  ·rw [lstd_set hsz hi ho hd hf, if_neg (nzs _ h1)] at h2
   rw [Loc.get_cons, if_neg (Ne.symm (nzs _ h1))]
   exact s5 t h1 h2
  ·have hne : t ≠ d := fun e => by
    rcases h2 with h2 | h2
    ·omega
    ·rw [lstd_set hsz hi ho hd hf, if_pos e] at h2; cases h2
   rw [lstd_set hsz hi ho hd hf, if_neg hne] at h2
   rw [Loc.get_cons, if_neg (Ne.symm hne)]
   exact s6 t h1 h2
end
end Go.Asm
/- Regions whose order is drawn: the check, and that it is sound. -/
namespace Go.Asm

def useOkB (tab : List (List Nat)) (pre : List Oper) (ps : List Nat) (zs : List (Nat × List AV)) (i : Nat) (o : Oper) : Opd → Bool
 | .c _ => true
 | .t t => !memN t (zsW zs) && (match findD t pre 0 with
  | some i' => edgeTo o i'
  | none => true) && (!memN t ps || ps.all fun p => match findD p pre 0 with
   | some ip => inT tab i ip
   | none => false)
def impA (tab : List (List Nat)) (pre : List Oper) (i j : Nat) : List DR → Nat → Bool
 | [], _ => false
 | q :: r, n => (match findD q.d pre 0 with
  | some h => (n.blt j && inT tab h i) || (j.ble n && inT tab i h)
  | none => false) || impA tab pre i j r (n + 1)
def impB (tab : List (List Nat)) (pre : List Oper) (ps : List Nat) (M i j : Nat) : Bool :=
 (j.beq 0 && ps.all fun p => match findD p pre 0 with
  | some h => inT tab i h
  | none => false) || (j.beq M && ps.any fun p => match findD p pre 0 with
  | some h => inT tab h i
  | none => false) || (!j.beq 0 && !j.beq M)
def impossB (tab : List (List Nat)) (pre : List Oper) (Hs : List DR) (ps : List Nat) (i j : Nat) : Bool :=
 bif ps.isEmpty then impA tab pre i j Hs 0 else impB tab pre ps Hs.length i j
def findH (d : Nat) : List DR → Nat → Option (Nat × DR)
 | [], _ => none
 | q :: r, n => bif q.d.beq d then some (n, q) else findH d r (n + 1)
def findZ (d : Nat) : List (Nat × List AV) → Option (List AV)
 | [] => none
 | (s, z) :: r => bif s.beq d then some z else findZ d r
def isMk : ROp → Bool
 | .mkSlice _ _ => true
 | _ => false
def chainB (tab : List (List Nat)) (pre : List Oper) (i : Nat) : Nat → List DR → Bool
 | 0, _ => true
 | _, [] => true
 | n + 1, q :: r => (match findD q.d pre 0 with
  | some i' => inT tab i i'
  | none => false) && chainB tab pre i n r
def wayB (P : Program) (tab : List (List Nat)) (ops : Array Oper) (pre : List Oper) (ps : List Nat) (zs : List (Nat × List AV)) (i : Nat) (o : Oper) (d j : Nat) (p : DR × Nat) : Bool :=
 p.1.d.beq d && (p.2.beq j || pureOp p.1.r) && opOk P o p.1.r && (opds p.1.r).all (useOkB tab pre ps zs i o) && (match p.1.g with
  | none => o.guard.isNone
  | some (g, w) => gidx ops o g w && useOkB tab pre ps zs i o (.t g))
def kindB (P : Program) (tab : List (List Nat)) (ops : Array Oper) (pre : List Oper) (items : List TI) (ps : List Nat) (zs : List (Nat × List AV)) (i : Nat) (o : Oper) (d : Nat) : Bool :=
 match findZ d zs with
 | some zero => o.guard.isNone && opOk P o (.zalloc zero)
 | none => match findH d (hardsOf items) 0 with
  | some (n, q) => o.guard.isNone && opOk P o q.r && (opds q.r).all (useOkB tab pre ps zs i o) && (bif memN d ps then isMk q.r else ps.isEmpty && chainB tab pre i n (hardsOf items))
  | none => memN d (dstsI items) && !memN d ps && (List.range ((hardsOf items).length + 1)).all fun j => impossB tab pre (hardsOf items) ps i j || (waysOf 0 items).any (wayB P tab ops pre ps zs i o d j)
def nodupN : List Nat → Bool
 | [] => true
 | a :: l => !memN a l && nodupN l
def backB (o : Oper) (i : Nat) : Bool := o.after.all fun e => !Region.binds .any e || e.on.blt i
def drwOk (P : Program) (N : Nat) (ops : Array Oper) (dt : DT) (ps : List Nat) (zs : List (Nat × List AV)) (last : RT) : Bool :=
 let items := flatT dt
 let m := (dstsI items).length + (zsW zs).length
 let pre := ops.toList.take m
 let tab := reachT ops.toList []
 m.ble ops.size && (dtOk [] dt).isSome && ordI items &&
  (List.range m).all (fun i => match ops[i]? with
   | some o => (match o.dst with
    | some d => (d + 1).ble N && (match findD d pre 0 with
     | some i' => i'.beq i
     | none => false) && backB o i && kindB P tab ops pre items ps zs i o d
    | none => false)
   | none => false) &&
  (dstsI items ++ zsW zs).all (fun d => (findD d pre 0).isSome) && nodupN (zsW zs) && (zsW zs).all (fun d => !memN d (dstsI items)) && ps.all (fun d => (findH d (hardsOf items) 0).isSome) &&
  (ps.isEmpty || (hardsOf items).all fun q => memN q.d ps) && nodupN ((hardsOf items).map (·.d)) &&
  (List.range' m (ops.size - m)).all (fun i => match ops[i]? with
   | some o => (List.range i).all (inT tab i) && backB o i
   | none => false) &&
  (match rtOk P N ops last m with
   | some i => i.beq ops.size
   | none => false)

section
variable {P : Program} {Z : Base} {N : Nat} {w w' w0 : World} {G G' G0 : Gh} {lm lm' lm0 : Nat → Option Nat} {env env' E : Env} {loc loc' : Loc} {σ σ' : Store} {a a' a0 : Act}
 {x : AV × Store} {Q : Exit → Act → World → Prop} {o : Oper} {D : Ctx} {ops : Array Oper} {m : Nat} {items : List TI} {ps : List Nat} {zs : List (Nat × List AV)} {σs : Nat → Store} {W : List Nat}
 {tab : List (List Nat)} {pre : List Oper}

theorem inT_reach (ht : ∀ i j, j ∈ tab.getD i [] → Reach ops i j) {i j : Nat} (h : inT tab i j = true) : Reach ops i j := ht i j (memN_iff.1 h)
theorem useOk_of (ht : ∀ i j, j ∈ tab.getD i [] → Reach ops i j) {i : Nat} {y : Opd} (h : useOkB tab pre ps zs i o y = true) : UseOk ops pre ps zs i o y := by
 intro t hy
 subst hy
 simp only [useOkB, Bae] at h
 obtain ⟨⟨h1, h2⟩, h3⟩ := h
 refine ⟨memN_false.1 h1, fun i' hi => by rw [hi] at h2; exact h2, fun htp p hp => ?_⟩
 simp only [Boe, memN_false] at h3
 rcases h3 with h3 | h3
 ·exact absurd htp h3
 ·have := List.all_eq_true.1 h3 p hp
  split at this
  ·rename_i ip hip; exact ⟨ip, hip, inT_reach ht this⟩
  ·cases this
theorem impA_of (ht : ∀ i j, j ∈ tab.getD i [] → Reach ops i j) {i j : Nat} : ∀ {Hs : List DR} {n : Nat}, impA tab pre i j Hs n = true →
  (∃ k q h, n + k < j ∧ Hs[k]? = some q ∧ findD q.d pre 0 = some h ∧ Reach ops h i) ∨ ∃ k q h, j ≤ n + k ∧ Hs[k]? = some q ∧ findD q.d pre 0 = some h ∧ Reach ops i h
 | [], n, h => by cases h
 | q :: r, n, h => by
  simp only [impA, Boe] at h
  rcases h with h | h
  ·split at h
   ·rename_i k hk
    simp only [Boe, Bae] at h
    rcases h with ⟨h1, h2⟩ | ⟨h1, h2⟩
    ·exact .inl ⟨0, q, k, Nat.le_of_ble_eq_true h1, rfl, hk, inT_reach ht h2⟩
    ·exact .inr ⟨0, q, k, Nat.le_of_ble_eq_true h1, rfl, hk, inT_reach ht h2⟩
   ·cases h
  ·rcases impA_of ht h with ⟨k, q', h', a1, a2, a3, a4⟩ | ⟨k, q', h', a1, a2, a3, a4⟩
   ·exact .inl ⟨k + 1, q', h', by omega, by simpa using a2, a3, a4⟩
   ·exact .inr ⟨k + 1, q', h', by omega, by simpa using a2, a3, a4⟩
theorem imposs_of (ht : ∀ i j, j ∈ tab.getD i [] → Reach ops i j) {Hs : List DR} {i j : Nat} (h : impossB tab pre Hs ps i j = true) : Imposs ops pre Hs ps i j := by
 unfold impossB at h
 cases ps with
 | nil =>
  simp only [List.isEmpty_nil, cond_true] at h
  refine .inl ⟨rfl, ?_⟩
  rcases impA_of ht h with ⟨k, q', h', a1, a2⟩ | ⟨k, q', h', a1, a2⟩
  ·exact .inl ⟨k, q', h', by omega, a2⟩
  ·exact .inr ⟨k, q', h', by omega, a2⟩
 | cons p0 ps =>
  simp only [List.isEmpty_cons, cond_false, impB, Boe, Bae] at h
  refine .inr ⟨by simp, ?_⟩
  rcases h with (⟨h1, h2⟩ | ⟨h1, h2⟩) | ⟨h1, h2⟩
  ·refine .inl ⟨Nat.eq_of_beq_eq_true h1, fun p hp => ?_⟩
   have := List.all_eq_true.1 h2 p hp
   split at this
   ·rename_i k hk; exact ⟨k, hk, inT_reach ht this⟩
   ·cases this
  ·refine .inr (.inl ⟨Nat.eq_of_beq_eq_true h1, ?_⟩)
   obtain ⟨p, hp, h⟩ := List.any_eq_true.1 h2
   split at h
   ·rename_i k hk; exact ⟨p, hp, k, hk, inT_reach ht h⟩
   ·cases h
  ·refine .inr (.inr ⟨fun e => ?_, fun e => ?_⟩)
   ·subst e; simp at h1
   ·subst e; simp at h2
theorem findH_some {d : Nat} : ∀ {Hs : List DR} {n k : Nat} {q : DR}, findH d Hs n = some (k, q) → n ≤ k ∧ Hs[k - n]? = some q ∧ q.d = d
 | [], n, k, q, h => by cases h
 | q0 :: r, n, k, q, h => by
  simp only [findH] at h
  cases hb : q0.d.beq d with
  | true => rw [hb] at h; cases h; exact ⟨Nat.le_refl _, by simp, Nat.eq_of_beq_eq_true hb⟩
  | false =>
   rw [hb] at h
   obtain ⟨h1, h2, h3⟩ := findH_some (Hs := r) h
   refine ⟨by omega, ?_, h3⟩
   rw [show k - n = (k - (n + 1)) + 1 by omega]
   simpa using h2
theorem findH_none {d : Nat} : ∀ {Hs : List DR} {n : Nat}, findH d Hs n = none → ∀ q ∈ Hs, q.d ≠ d
 | [], n, _, q, hq => by cases hq
 | q0 :: r, n, h, q, hq => by
  simp only [findH] at h
  cases hb : q0.d.beq d with
  | true => rw [hb] at h; cases h
  | false =>
   rw [hb] at h
   rcases List.mem_cons.1 hq with rfl | hq
   ·intro e; subst e; simp at hb
   ·exact findH_none h q hq
theorem findZ_some {d : Nat} {z : List AV} : ∀ {zs : List (Nat × List AV)}, findZ d zs = some z → (d, z) ∈ zs
 | [], h => by cases h
 | (s, z') :: r, h => by
  simp only [findZ] at h
  cases hb : s.beq d with
  | true =>
   rw [hb] at h; cases h
   have := Nat.eq_of_beq_eq_true hb
   subst this
   exact List.mem_cons_self ..
  | false => rw [hb] at h; exact List.mem_cons_of_mem _ (findZ_some h)
theorem chain_of (ht : ∀ i j, j ∈ tab.getD i [] → Reach ops i j) {i : Nat} : ∀ {n : Nat} {Hs : List DR}, chainB tab pre i n Hs = true → ∀ n' (q' : DR), n' < n → Hs[n']? = some q' → ∃ i', findD q'.d pre 0 = some i' ∧ Reach ops i i'
 | 0, _, _, n', q', h, _ => by omega
 | n + 1, [], _, n', q', _, h => by simp at h
 | n + 1, q :: r, h, n', q', hn, hq => by
  simp only [chainB, Bae] at h
  cases n' with
  | zero =>
   simp at hq; subst hq
   have := h.1
   split at this
   ·rename_i k hk; exact ⟨k, hk, inT_reach ht this⟩
   ·cases this
  | succ n' => exact chain_of ht h.2 n' q' (by omega) (by simpa using hq)
theorem kind_of (ht : ∀ i j, j ∈ tab.getD i [] → Reach ops i j) {i d : Nat} (h : kindB P tab ops pre items ps zs i o d = true) : Kind P ops pre items ps zs i o d := by
 unfold kindB at h
 split at h
 ·rename_i zero hz
  simp only [Bae] at h
  exact .z zero (findZ_some hz) h.1 h.2
 ·split at h
  ·rename_i n q hq
   obtain ⟨_, h2, h3⟩ := findH_some hq
   rw [Nat.sub_zero] at h2
   simp only [Bae] at h
   obtain ⟨⟨⟨g1, g2⟩, g3⟩, g4⟩ := h
   have hus : ∀ y ∈ opds q.r, UseOk ops pre ps zs i o y := fun y hy => useOk_of ht (List.all_eq_true.1 g3 y hy)
   cases hm : memN d ps with
   | true =>
    rw [hm] at g4
    simp only [cond_true] at g4
    cases hr : q.r with
    | mkSlice zero y0 => exact .pend n q zero y0 (memN_iff.1 hm) h2 h3 g1 g2 hr (hus y0 (by rw [hr]; simp [opds]))
    | _ => rw [hr] at g4; cases g4
   | false =>
    rw [hm] at g4
    simp only [cond_false, Bae] at g4
    exact .hard n q (List.isEmpty_iff.1 g4.1) h2 h3 g1 g2 hus (chain_of ht g4.2)
  ·rename_i hn
   simp only [Bae] at h
   obtain ⟨⟨g1, g2⟩, g3⟩ := h
   refine .soft (memN_iff.1 g1) (memN_false.1 g2) (findH_none hn) fun j hj => ?_
   have := List.all_eq_true.1 g3 j (List.mem_range.2 (by omega))
   simp only [Boe] at this
   rcases this with h | h
   ·exact .inl (imposs_of ht h)
   ·obtain ⟨p, hp, h⟩ := List.any_eq_true.1 h
    simp only [wayB, Bae, Boe] at h
    obtain ⟨⟨⟨⟨w1, w2⟩, w3⟩, w4⟩, w5⟩ := h
    refine .inr ⟨p, hp, Nat.eq_of_beq_eq_true w1, w2.imp Nat.eq_of_beq_eq_true id, w3, fun y hy => useOk_of ht (List.all_eq_true.1 w4 y hy), ?_⟩
    cases hg : p.1.g with
    | none => rw [hg] at w5; exact w5
    | some gw =>
     obtain ⟨g, wd⟩ := gw
     rw [hg] at w5
     simp only [Bae] at w5
     exact ⟨w5.1, useOk_of ht w5.2⟩
theorem nodupN_iff : ∀ {l : List Nat}, nodupN l = true → l.Nodup
 | [], _ => List.nodup_nil
 | a :: l, h => by
  simp only [nodupN, Bae] at h
  exact List.nodup_cons.2 ⟨memN_false.1 h.1, nodupN_iff h.2⟩
theorem hards_dst : ∀ {l : List TI} {q : DR}, q ∈ hardsOf l → q.d ∈ dstsI l
 | .row q0 :: l, q, h => by
  simp only [hardsOf] at h
  simp only [dstsI, List.mem_cons]
  cases hh : hardOp q0.r with
  | true =>
   rw [hh] at h
   rcases List.mem_cons.1 h with rfl | h
   ·exact .inl rfl
   ·exact .inr (hards_dst h)
  | false => rw [hh] at h; exact .inr (hards_dst h)
 | .chk _ _ :: l, q, h => hards_dst (l := l) h
theorem back_of {i : Nat} (h : backB o i = true) : ∀ e ∈ o.after, Region.binds .any e = true → e.on < i := fun e he hb => by
 have := Array.all_eq_true_iff_forall_mem.1 h e he
 rw [hb] at this
 simpa using this

theorem drwOk_inv {dt : DT} {last : RT} (h : drwOk P N ops dt ps zs last = true) : ∃ V', dtOk [] dt = some V' ∧ ordI (flatT dt) = true ∧ DChk P N ops ((dstsI (flatT dt)).length + (zsW zs).length) (flatT dt) ps zs ∧
  rtOk P N ops last ((dstsI (flatT dt)).length + (zsW zs).length) = some ops.size := by
 simp only [drwOk, Bae] at h
 obtain ⟨⟨⟨⟨⟨⟨⟨⟨⟨⟨⟨h1, h2⟩, h3⟩, h4⟩, h5⟩, h6⟩, h7⟩, h8⟩, h9⟩, h10⟩, h11⟩, h12⟩ := h
 obtain ⟨V', hV⟩ := Option.isSome_iff_exists.1 h2
 generalize hm : (dstsI (flatT dt)).length + (zsW zs).length = m at *
 have hle := Nat.le_of_ble_eq_true h1
 have ht : ∀ i j, j ∈ (reachT ops.toList []).getD i [] → Reach ops i j := by
  refine reach_sound _ [] (fun n o h => ?_) (fun i j h => by simp at h)
  simpa using h
 have hrow : ∀ i, i < m → ∃ o d, ops[i]? = some o ∧ o.dst = some d ∧ d < N ∧ findD d (ops.toList.take m) 0 = some i ∧ (∀ e ∈ o.after, Region.binds .any e = true → e.on < i) ∧ Kind P ops (ops.toList.take m) (flatT dt) ps zs i o d := by
  intro i hi
  have := List.all_eq_true.1 h4 i (List.mem_range.2 hi)
  split at this
  ·rename_i o ho
   split at this
   ·rename_i d hd
    simp only [Bae] at this
    obtain ⟨⟨⟨a1, a2⟩, a3⟩, a4⟩ := this
    split at a2
    ·rename_i i' hi'
     have e := Nat.eq_of_beq_eq_true a2
     subst e
     exact ⟨o, d, ho, hd, Nat.le_of_ble_eq_true a1, hi', back_of a3, kind_of ht a4⟩
    ·cases a2
   ·cases this
  ·cases this
 refine ⟨V', hV, h3, ?_, ?_⟩
 ·exact
   {le := hle
    dst := fun i hi => let ⟨o, d, a, b, c, e, _⟩ := hrow i hi; ⟨o, d, a, b, c, e⟩
    back := fun i o hi ho => by
     obtain ⟨o', d, a, _, _, _, b, _⟩ := hrow i hi
     rw [ho] at a; cases a; exact b
    rows := fun d hd => by
     have := List.all_eq_true.1 h5 d (by rw [List.mem_append]; exact hd)
     obtain ⟨i, hi⟩ := Option.isSome_iff_exists.1 this
     exact ⟨i, (findD_at hi).1, hi⟩
    zno := nodupN_iff h6
    zdis := fun d hd => memN_false.1 (List.all_eq_true.1 h7 d hd)
    pdst := fun d hd => by
     obtain ⟨⟨n, q⟩, hq⟩ := Option.isSome_iff_exists.1 (List.all_eq_true.1 h8 d hd)
     obtain ⟨_, a, b⟩ := findH_some hq
     exact ⟨n, q, by simpa using a, b⟩
    hps := by
     simp only [Boe] at h9
     rcases h9 with h | h
     ·exact .inl (List.isEmpty_iff.1 h)
     ·exact .inr fun q hq => memN_iff.1 (List.all_eq_true.1 h q hq)
    hno := fun n n' q q' a b e => by
     have hn := nodupN_iff h10
     have e1 : ((hardsOf (flatT dt)).map (·.d))[n]? = some q.d := by simp [a]
     have e2 : ((hardsOf (flatT dt)).map (·.d))[n']? = some q.d := by simp [b, e]
     exact (List.getElem?_inj (List.getElem?_eq_some_iff.1 e1).1 hn).1 (e1.trans e2.symm)
    hdst := fun q hq => hards_dst hq
    kinds := fun i o d hi ho hd => by
     obtain ⟨o', d', a, b, _, _, _, c⟩ := hrow i hi
     rw [ho] at a; cases a
     rw [hd] at b; cases b
     exact c
    last := fun i o hi ho => by
     have hlt := (Array.getElem?_eq_some_iff.1 ho).1
     have := List.all_eq_true.1 h11 i (by rw [List.mem_range']; exact ⟨i - m, by omega, by omega⟩)
     rw [ho] at this
     simp only [Bae] at this
     exact ⟨fun j hj => inT_reach ht (List.all_eq_true.1 this.1 j (List.mem_range.2 hj)), back_of this.2⟩ }
 ·split at h12
  ·rename_i i hi
   rw [hi, Nat.eq_of_beq_eq_true h12]
  ·cases h12
end
end Go.Asm
/- Regions whose order is drawn: the whole region is sound. -/
namespace Go.Asm
section
variable {P : Program} {Z : Base} {N : Nat} {w w' w0 : World} {G G' G0 : Gh} {lm lm' lm0 : Nat → Option Nat} {env env' E : Env} {loc loc' : Loc} {σ σ' : Store} {a a' a0 : Act}
 {x : AV × Store} {Q : Exit → Act → World → Prop} {o : Oper} {D : Ctx} {ops : Array Oper} {m : Nat} {items : List TI} {ps : List Nat} {zs : List (Nat × List AV)} {σs : Nat → Store} {W : List Nat}

theorem St.weaken (S : St Z N w G lm env loc σ a) (h1 : ∀ t, env'.get t = env.get t ∨ env'.get t = .v .undef) (h2 : ∀ t, loc'.get t = loc.get t) : St Z N w G lm env' loc' σ a := by
 refine ⟨S.hi.forget loc' fun s e h => by rw [← h2 s]; exact h, fun t => ?_, S.df, S.nt⟩
 rcases h1 t with h | h
 ·rw [h]; exact S.er t
 ·rw [h]; exact VRel.undef

theorem drw_any (hcall : CallOK P Z.Gl D.call) (hG : D.G = Z.Gl) (C : DChk P N ops m items ps zs) (hWs : ∀ p ∈ waysOf 0 items, rowE D p.1 E loc (σs p.2) = some (E.get p.1.d) ∧ softOp p.1.r = true)
  (hHs : ∀ n (q : DR), (hardsOf items)[n]? = some q → hardE D q.r E loc (σs n) = some (E.get q.d, σs (n + 1)) ∧ hardOp q.r = true)
  (hfree : ∀ s, s ∈ ps ∨ s ∈ zsW zs → loc.get s = none) (hW : ∀ t, t ∈ dstsI items ∨ t ∈ zsW zs → t ∈ W) (hnl : NoL W E)
  (fin : ∀ G lm w a, St Z N w G lm (zsE zs E) (zsL zs loc) (σs (hardsOf items).length) a → Le w0.heap w.heap G0 G → (∀ s, s ∉ W → lm s = lm0 s) → (∀ t, t ∉ W → a.tmps.getD t undef = a0.tmps.getD t undef) → wpOps P ops Q (from_ ops m) a w) :
  ∀ (fuel : Nat) (listed : Array Bool) (j : Nat) (G : Gh) (lm : Nat → Option Nat) (w : World) (a : Act), listed.size = ops.size → (List.range m).countP (fun i => !listed.getD i false) + (ops.size - m) ≤ fuel → (∀ i, m ≤ i → i < ops.size → listed.getD i true = false) →
   DI Z N ops m items ps zs E loc σs W G0 lm0 w0 a0 listed j G lm w a → wpAny P .any ops Q fuel listed a w := by
 intro fuel
 have full : ∀ (fuel : Nat) (listed : Array Bool) (j : Nat) (G : Gh) (lm : Nat → Option Nat) (w : World) (a : Act), listed.size = ops.size → ops.size - m ≤ fuel → (∀ i, m ≤ i → i < ops.size → listed.getD i true = false) →
   (∀ i, i < m → listed.getD i false = true) → DI Z N ops m items ps zs E loc σs W G0 lm0 w0 a0 listed j G lm w a → wpAny P .any ops Q fuel listed a w := by
  intro fuel listed j G lm w a hsz hf hun hl I
  refine any_seq (fun i o hi ho => (C.last i o hi ho).1) (fun i o ho e he hb => ?_) fuel m listed a w (Nat.le_refl _) C.le hsz hf hl hun ?_
  ·rcases Nat.lt_or_ge i m with h | h
   ·exact C.back i o h ho e he hb
   ·exact (C.last i o h ho).2 e he hb
  have hls : ∀ t, t ∈ dstsI items ∨ t ∈ zsW zs → lstd (ops.toList.take m) listed t = true := fun t ht => by
   obtain ⟨i, hi, hfd⟩ := C.rows t ht
   unfold lstd; rw [hfd]; exact hl i hi
  have hpi : ∀ t ∈ ps, t ∈ dstsI items := fun t ht => by
   obtain ⟨n, q, hq, hqd⟩ := C.pdst t ht
   exact hqd ▸ C.hdst q (Lmg hq)
  have hj : j = (hardsOf items).length := by
   by_cases hp : ps = []
   ·obtain ⟨h1, h2⟩ := I.levA hp
    rcases Nat.lt_or_ge j (hardsOf items).length with h | h
    ·have hq : (hardsOf items)[j]? = some (hardsOf items)[j] := Lge h
     have := (h2 j _ hq).1 (hls _ (.inl (C.hdst _ (Lmg hq))))
     omega
    ·omega
   ·rcases I.levB hp with ⟨_, p, hp1, hp2⟩ | ⟨h, _⟩
    ·rw [hls p (.inl (hpi p hp1))] at hp2; cases hp2
    ·exact h
  subst hj
  obtain ⟨envL, locL, S, s1, s2, s3, s4, s5, s6, s7⟩ := I.st
  have hnh : ∀ t, ¬ Hid (ops.toList.take m) items ps zs listed (hardsOf items).length t := fun t h => by
   rcases h with ⟨h1, h2⟩ | ⟨_, h⟩
   ·rw [hls t h1] at h2; cases h2
   ·exact h rfl
  refine fin G lm w a (S.weaken (fun t => .inl (s2 t (hnh t)).symm) fun t => ?_) I.le I.lm I.tm
  by_cases hz : t ∈ zsW zs
  ·exact (s4 t hz (hls t (.inr hz))).symm
  ·rw [get_zsL_out hz]
   by_cases hp : t ∈ ps
   ·rw [s6 t hp (.inl rfl), hfree t (.inl hp)]
   ·exact (s3 t hz hp).symm
 have cnt0 : ∀ (listed : Array Bool), (List.range m).countP (fun i => !listed.getD i false) = 0 → ∀ i, i < m → listed.getD i false = true := fun listed h i hi => by
  rw [List.countP_eq_zero] at h
  have := h i (List.mem_range.2 hi)
  simpa using this
 induction fuel with
 | zero =>
  intro listed j G lm w a hsz hc hun I
  exact full 0 listed j G lm w a hsz (by omega) hun (cnt0 listed (by omega)) I
 | succ fuel ih =>
  intro listed j G lm w a hsz hc hun I
  by_cases h0 : (List.range m).countP (fun i => !listed.getD i false) = 0
  ·exact full (fuel + 1) listed j G lm w a hsz (by omega) hun (cnt0 listed h0) I
  ·have hle := C.le
   -- one that waits for nothing
   have hex : ∃ i, i < m ∧ listed.getD i false = false := by
    obtain ⟨i, hi, h⟩ := List.countP_pos_iff.1 (Nat.pos_of_ne_zero h0)
    exact ⟨i, List.mem_range.1 hi, by simpa using h⟩
   have hmin : ∃ i, i < m ∧ listed.getD i false = false ∧ ∀ k, k < i → listed.getD k false = true := by
    obtain ⟨i, hi, h⟩ := hex
    induction i using Nat.strongRecOn with
    | _ i ih =>
     by_cases hk : ∃ k, k < i ∧ listed.getD k false = false
     ·obtain ⟨k, hk, hkl⟩ := hk
      exact ih k hk (by omega) hkl
     ·refine ⟨i, hi, h, fun k hk' => ?_⟩
      cases hv : listed.getD k false with
      | true => rfl
      | false => exact absurd ⟨k, hk', hv⟩ hk
   obtain ⟨i0, hi0, hu0, hlo0⟩ := hmin
   have hr0 : i0 ∈ Region.ready .any ops listed := by
    obtain ⟨o, d, ho, hd, _, _⟩ := C.dst i0 hi0
    exact mem_ready.2 ⟨by rw [getD_in (by omega) true false]; exact hu0, o, ho, fun e he hb => hlo0 _ (C.back i0 o hi0 ho e he hb)⟩
   refine ⟨fun h => (by rw [h] at hr0; cases hr0), fun i hi => ?_⟩
   obtain ⟨k1, o, ho, k3⟩ := mem_ready.1 hi
   have hlt := (Array.getElem?_eq_some_iff.1 ho).1
   have him : i < m := by
    rcases Nat.lt_or_ge i m with h | h
    ·exact h
    ·exfalso
     have := reach_edge I.cl ((C.last i o h ho).1 i0 (by omega)) fun o' ho' e he hb => by rw [ho] at ho'; cases ho'; exact k3 e he hb
     rw [hu0] at this; cases this
   obtain ⟨o', d, ho', hd, hdN, hf⟩ := C.dst i him
   rw [ho] at ho'; cases ho'
   have hcnt : (List.range m).countP (fun k => !(listed.setIfInBounds i true).getD k false) + 1 ≤ (List.range m).countP (fun k => !listed.getD k false) := by
    rw [List.countP_eq_length_filter, List.countP_eq_length_filter]
    have hsub : (List.range m).filter (fun k => !(listed.setIfInBounds i true).getD k false) = ((List.range m).filter (fun k => !listed.getD k false)).filter (fun k => k != i) := by
     rw [List.filter_filter]
     apply List.filter_congr
     intro k _
     rw [set_get (by omega)]
     by_cases e : i = k
     ·subst e; simp
     ·simp [e, Ne.symm e]
    rw [hsub]
    have hmem : i ∈ (List.range m).filter (fun k => !listed.getD k false) := List.mem_filter.2 ⟨List.mem_range.2 him, by rw [getD_in (by omega) false true, k1]; rfl⟩
    have := List.length_filter_lt_length_iff_exists (p := fun k => k != i).2 ⟨i, hmem, show ¬ ((i != i) = true) by simp⟩
    omega
   have next : ∀ j' G' lm' w' a', DI Z N ops m items ps zs E loc σs W G0 lm0 w0 a0 (listed.setIfInBounds i true) j' G' lm' w' a' → wpAny P .any ops Q fuel (listed.setIfInBounds i true) a' w' := fun j' G' lm' w' a' I' =>
    ih _ j' G' lm' w' a' (by simp [hsz]) (by omega) (fun k hk hkl => by rw [set_get (by omega), if_neg (by omega)]; exact hun k hk hkl) I'
   rcases C.kinds i o d him ho hd with ⟨zero, hz, hg, hop⟩ | ⟨n, q, hps, hq, hqd, hg, hop, hus, hch⟩ | ⟨n, q, zero, y0, hdps, hq, hqd, hg, hop, hqr, hus⟩ | ⟨hdi, hdp, hdh, hk⟩
   ·exact step_z D C hfree hW hnl hsz I him hi ho hd hdN hf hz hg hop (next j)
   ·exact step_hard hcall hG C hHs hfree hW hsz I him hi ho hd hdN hf hps hq hqd hg hop hus hch (next (j + 1))
   ·exact step_pend C hHs hW hnl hsz I him hi ho hd hdN hf hdps hq hqd hg hop hqr hus next
   ·exact step_soft hcall hG C hWs hfree hW hsz I him hi ho hd hdN hf hdi hdp hdh hk (next j)

theorem draw_sound (hm : P.follows .mixedOrders = true) (hcall : CallOK P Z.Gl D.call) (hG : D.G = Z.Gl) {dt : DT} {last : RT} {id : Nat} {k : Kn} (h : drwOk P N ops dt ps zs last = true)
  (hk : (bif freeS (ps ++ zsW zs) loc then drK D dt (purgeL (dt.writes ++ zsW zs) env) loc σ fun env loc σ => rtK D last (zsE zs env) (zsL zs loc) σ k else none) = some x) (S : St Z N w G lm env loc σ a)
  (C : Cont Z N k x G lm w a (dt.writes ++ (zsW zs ++ last.writes)) (fun a' w' => Q .normal a' w')) : (Code.region id ops true).wp P Q a w := by
 obtain ⟨V', hV, hord, hC, hlast⟩ := drwOk_inv h
 cases hfs : freeS (ps ++ zsW zs) loc with
 | false => rw [hfs] at hk; cases hk
 | true =>
 rw [hfs] at hk
 simp only [cond_true] at hk
 have hfree : ∀ s, s ∈ ps ∨ s ∈ zsW zs → loc.get s = none := fun s hs => freeS_get hfs s (List.mem_append.2 hs)
 have hn0 : NoL (dt.writes ++ zsW zs) (purgeL (dt.writes ++ zsW zs) env) := noL_purgeL
 obtain ⟨E, σ', env', hseq, hvis, _, hk'⟩ := dr_flat (dt.writes ++ zsW zs) dt [] V' _ _ σ _ hV (fun t ht => List.mem_append_left _ ht) ⟨fun _ _ => rfl, fun _ => .inl rfl⟩ hn0 hk
 have hnl := hseq.noL hn0
 obtain ⟨σs, f1, f2, f3, f4⟩ := hseq.facts hord 0
 rw [Nat.zero_add] at f2
 have hWin : ∀ t, t ∈ dstsI (flatT dt) ∨ t ∈ zsW zs → t ∈ dt.writes ++ zsW zs := fun t ht => List.mem_append.2 (ht.imp flat_writes.1 fun h => h)
 generalize hmm : (dstsI (flatT dt)).length + (zsW zs).length = m at hC hlast
 refine wp_region_any hm ?_
 let w1 : World := { w with drawn := w.drawn + 1 }
 have S1 : St Z N w1 G lm env loc σ a := ⟨S.hi.draw w1 rfl rfl rfl rfl, S.er, S.df, S.nt⟩
 -- at the start
 obtain ⟨envI, hI⟩ := exists_env [] (dstsI (flatT dt) ++ zsW zs) (purgeL (dt.writes ++ zsW zs) env)
 have hlst0 : ∀ t, lstd (ops.toList.take m) (Array.replicate ops.size false) t = false := fun t => by
  unfold lstd
  split
  ·simp only [Array.getD_eq_getD_getElem?, Array.getElem?_replicate]
   split <;> rfl
  ·rfl
 have hpi : ∀ t ∈ ps, t ∈ dstsI (flatT dt) := fun t ht => by
  obtain ⟨n, q, hq, hqd⟩ := hC.pdst t ht
  exact hqd ▸ hC.hdst q (Lmg hq)
 refine drw_any (G0 := G) (lm0 := lm) (w0 := w) (a0 := a) (W := dt.writes ++ zsW zs) hcall hG hC f3 (fun n q hq => by have := f4 n q hq; rwa [Nat.zero_add] at this) hfree hWin hnl (fun G' lm' w' a' S' le hl ht => ?_) ops.size _ 0 G lm w1 a (by simp) ?_ (fun i _ hi => ?_) ?_
 ·rw [f2] at S'
  have S2 : St Z N w' G' lm' (zsE zs env') (zsL zs loc) σ' a' := S'.weaken (fun t => by
   by_cases hz : t ∈ zsW zs
   ·rw [get_zsE_in hz, get_zsE_in hz]; exact .inl rfl
   ·rw [get_zsE_out hz, get_zsE_out hz]; exact hvis.2 t) fun _ => rfl
  refine rt_sound hcall hG last m ops.size _ _ σ' k G' lm' w' a' hlast hk' S2 (fun env2 loc2 σ2 G2 lm2 w2 a2 hk2 S3 le2 hl2 ht2 => ?_)
  have h1 : from_ ops ops.size = [] := by simp [from_]
  rw [h1]
  refine C env2 loc2 σ2 G2 lm2 w2 a2 hk2 S3 (le.trans le2) (fun s hs => ?_) (fun t ht' => ?_)
  ·simp only [List.mem_append, not_or] at hs
   exact (hl2 s hs.2.2).trans (hl s (by simp only [List.mem_append, not_or]; exact ⟨hs.1, hs.2.1⟩))
  ·simp only [List.mem_append, not_or] at ht'
   exact (ht2 t ht'.2.2).trans (ht t (by simp only [List.mem_append, not_or]; exact ⟨ht'.1, ht'.2.1⟩))
 ·have := hC.le
  have h2 : (List.range m).countP (fun i => !(Array.replicate ops.size false).getD i false) ≤ m := Nat.le_trans List.countP_le_length (by simp)
  omega
 ·simp [Array.getD_eq_getD_getElem?, hi]
 ·refine ⟨fun i o _ hl => ?_, fun hp => ⟨Nat.zero_le _, fun n q _ => by rw [hlst0]; simp⟩, fun hp => ?_, ⟨envI, loc, ?_, fun t h => ?_, fun t h => ?_, fun _ _ _ => rfl, fun t _ h => ?_, fun t h _ => hfree t (.inr h), fun t h _ => hfree t (.inl h), fun _ n q _ _ h => ?_⟩, .refl _ _, fun _ _ => rfl, fun _ _ => rfl⟩
  ·exfalso
   simp only [Array.getD_eq_getD_getElem?, Array.getElem?_replicate] at hl
   split at hl <;> cases hl
  ·obtain ⟨p, hp1⟩ := List.exists_mem_of_ne_nil ps hp
   exact .inl ⟨rfl, p, hp1, hlst0 p⟩
  ·rw [f1]
   refine S1.weaken (fun t => ?_) fun _ => rfl
   by_cases ht : t ∈ dstsI (flatT dt) ++ zsW zs
   ·rw [(hI t).1 ht]; exact .inr rfl
   ·rw [(hI t).2 ht, get_purgeL]
    cases env.get t with
    | v v => exact .inl rfl
    | l s i =>
     simp only [purgeE]
     cases memN s (dt.writes ++ zsW zs) with
     | true => exact .inr rfl
     | false => exact .inl rfl
  ·have hin : t ∈ dstsI (flatT dt) ++ zsW zs := by
    rcases h with ⟨h, _⟩ | ⟨h, _⟩
    ·exact List.mem_append.2 h
    ·exact List.mem_append_left _ (hpi t h)
   rw [(hI t).1 hin]; rfl
  ·have hnin : t ∉ dstsI (flatT dt) ++ zsW zs := fun hin => h (.inl ⟨List.mem_append.1 hin, hlst0 t⟩)
   rw [(hI t).2 hnin]
   simp only [List.mem_append, not_or] at hnin
   rw [get_zsE_out hnin.2, hseq.other t hnin.1]
  ·rw [hlst0] at h; cases h
  ·rw [hlst0] at h; cases h
end
end Go.Asm
/- A resolved code tree stands for the model's code: the check, and that it is sound. -/
namespace Go.Asm

def jOk (j : JH) (w : List Nat) : Bool := j.ss.all fun p => !memN p.1 w
def okC (P : Program) (N : Nat) : IR → Code → Bool
 | .skip, .skip => true
 | .reg rt, .region _ ops false => (match rtOk P N ops rt 0 with
  | some i => i.beq ops.size
  | none => false)
 | .drw dt ps zs last, .region _ ops true => drwOk P N ops dt ps zs last
 | .seq a b, .seq x y => okC P N a x && okC P N b y
 | .cond c none a b, .cond c' x y => opdOk c' c && okC P N a x && okC P N b y
 | .cond c (some j) a b, .cond c' x y => opdOk c' c && okC P N a x && okC P N b y && jOk j (a.writes ++ b.writes)
 | .block id none a, .block id' x => id.beq id' && okC P N a x
 | .block id (some j) a, .block id' x => id.beq id' && okC P N a x && jOk j a.writes
 | .loop j a, .loop x => okC P N a x && jOk j a.writes
 | .exit id, .exit id' => id.beq id'
 | .ret, .ret => true
 | _, _ => false

def kont (K : Kn) (X : List (Nat × Kn)) (R : Kn) : Exit → Kn
 | .normal => K
 | .exit id => exitK X id
 | .ret => R
 | _ => fun _ _ _ => none

section
variable {P : Program} {Z : Base} {N : Nat} {w w' w0 : World} {G G' G0 : Gh} {lm lm' lm0 : Nat → Option Nat} {env env' : Env} {loc loc' : Loc} {σ σ' : Store} {a a' a0 : Act}
 {x : AV × Store} {Q : Exit → Act → World → Prop} {D : Ctx} {ops : Array Oper} {K K' R : Kn} {X X' : List (Nat × Kn)}

/-- What the end of a piece of code must be good for. -/
def Post (Z : Base) (N : Nat) (K : Kn) (X : List (Nat × Kn)) (R : Kn) (x : AV × Store) (G : Gh) (lm : Nat → Option Nat) (w : World) (a : Act) (W : List Nat) (Q : Exit → Act → World → Prop) : Prop :=
 ∀ e, Cont Z N (kont K X R e) x G lm w a W (Q e)

theorem Post.step {W W1 W2 : List Nat} (C : Post Z N K X R x G lm w a W Q) (le : Le w.heap w'.heap G G') (hlm : ∀ s, s ∉ W1 → lm' s = lm s) (htm : ∀ t, t ∉ W1 → a'.tmps.getD t undef = a.tmps.getD t undef)
  (h1 : ∀ t, t ∈ W1 → t ∈ W) (h2 : ∀ t, t ∈ W2 → t ∈ W) : Post Z N K X R x G' lm' w' a' W2 Q := fun e => (C e).step le hlm htm h1 h2
theorem Post.sub {W W2 : List Nat} (C : Post Z N K X R x G lm w a W Q) (h2 : ∀ t, t ∈ W2 → t ∈ W) : Post Z N K X R x G lm w a W2 Q :=
 C.step (W1 := []) (.refl _ _) (fun _ _ => rfl) (fun _ _ => rfl) (fun t h => by cases h) h2

/-! #### joins -/
def gv (env : Env) (t : Nat) : AV := match env.get t with
 | .v a => a
 | .l .. => .undef
theorem gatherV_eq (env : Env) (ts : List Nat) : gatherV env ts = ts.map (gv env) := by
 induction ts with
 | nil => rfl
 | cons t ts ih => simp only [gatherV, ih, List.map_cons]; rfl

theorem get_append (E F : Env) (t : Nat) (h : ∀ p ∈ E, p.1 ≠ t) : Env.get (E ++ F) t = F.get t := by
 induction E with
 | nil => rfl
 | cons p E ih =>
  obtain ⟨k, e⟩ := p
  rw [List.cons_append, Env.get_cons, if_neg (h (k, e) (by simp)), ih fun q hq => h q (by simp [hq])]

theorem get_joinEnv (env F : Env) (l : List AV) : ∀ (ts : List Nat) (t : Nat), Env.get (joinEnv ts (ts.map (gv env) ++ l) ++ F) t = if t ∈ ts then .v (gv env t) else F.get t
 | [], t => by simp [joinEnv]
 | u :: ts, t => by
  simp only [List.map_cons, List.cons_append, joinEnv]
  rw [Env.get_cons, get_joinEnv env F l ts t]
  by_cases h : u = t
  ·subst h; simp
  ·simp [h, Ne.symm h]

theorem get_keepEnv (W : List Nat) (ss : List (Nat × Nat)) (env : Env) (t : Nat) : (keepEnv W ss env).get t = if t ∈ W then .v .undef else keepE ss (env.get t) := by
 induction env with
 | nil => simp [keepEnv, Env.get_nil, keepE]
 | cons p r ih =>
  obtain ⟨kk, e⟩ := p
  simp only [keepEnv]
  cases hm : memN kk W with
  | true =>
   have := memN_iff.1 hm
   simp only [cond_true]
   rw [ih, Env.get_cons]
   by_cases h : kk = t
   ·subst h; rw [if_pos this, if_pos this]
   ·rw [if_neg h]
  | false =>
   have hn : kk ∉ W := fun h => by rw [memN_iff.2 h] at hm; cases hm
   simp only [cond_false]
   rw [Env.get_cons, ih, Env.get_cons]
   by_cases h : kk = t
   ·subst h; rw [if_pos rfl, if_pos rfl, if_neg hn]
   ·rw [if_neg h, if_neg h]

theorem memS_iff {s : Nat} {ss : List (Nat × Nat)} : memS s ss = true ↔ ∃ p ∈ ss, p.1 = s := by
 induction ss with
 | nil => simp [memS]
 | cons q ss ih =>
  simp only [memS, Boe, ih, List.mem_cons]
  constructor
  ·rintro (h | ⟨p, h1, h2⟩)
   ·exact ⟨q, .inl rfl, Nat.eq_of_beq_eq_true h⟩
   ·exact ⟨p, .inr h1, h2⟩
  ·rintro ⟨p, rfl | h1, h2⟩
   ·subst h2; exact .inl (beq_self _)
   ·exact .inr ⟨p, h1, h2⟩

theorem joinLoc_get : ∀ (ss : List (Nat × Nat)) (l : List AV), gatherS loc ss = some l → l.length = ss.length ∧ ∀ s e, (joinLoc ss l).get s = some e → loc.get s = some e
 | [], l, h => by
  cases h
  exact ⟨rfl, fun s e h => by cases h⟩
 | (s0, n) :: ss, l, h => by
  simp only [gatherS] at h
  split at h
  ·rename_i m cs hl
   cases hb : m.beq n with
   | false => rw [hb] at h; cases h
   | true =>
    rw [hb] at h
    simp only [cond_true] at h
    split at h
    ·rename_i l' hl'
     cases h
     have e := Nat.eq_of_beq_eq_true hb
     subst e
     obtain ⟨ih1, ih2⟩ := joinLoc_get ss l' hl'
     refine ⟨by simp [ih1], fun s e he => ?_⟩
     simp only [joinLoc, AV.cells] at he
     rw [Loc.get_cons] at he
     split at he
     ·rename_i hs; subst hs; rw [hl]; exact he
     ·exact ih2 s e he
    ·cases h
  ·cases h

theorem St.join (S : St Z N w G lm env loc σ a) (S' : St Z N w' G' lm' env' loc' σ' a') (le : Le w.heap w'.heap G G') {W : List Nat} (hlm : ∀ s, s ∉ W → lm' s = lm s)
  (htm : ∀ t, t ∉ W → a'.tmps.getD t undef = a.tmps.getD t undef) {j : JH} (hj : jOk j W = true) {l : List AV} (hl : gatherS loc' j.ss = some l) :
  St Z N w' G' lm' (joinEnv j.vs (gatherV env' j.vs ++ l) ++ keepEnv W j.ss env) (joinLoc j.ss ((gatherV env' j.vs ++ l).drop j.vs.length)) σ' a' := by
 obtain ⟨h1, h2⟩ := joinLoc_get j.ss l hl
 have hd : (gatherV env' j.vs ++ l).drop j.vs.length = l := by
  rw [gatherV_eq]
  exact List.drop_left' (by simp)
 rw [hd]
 refine ⟨S'.hi.forget _ h2, fun t => ?_, S'.df, S'.nt⟩
 rw [gatherV_eq, get_joinEnv]
 split
 ·have := S'.er t
  simp only [gv]
  cases he : env'.get t with
  | v v => rw [he] at this; exact this
  | l s o => exact VRel.undef
 ·rw [get_keepEnv]
  split
  ·exact VRel.undef
  ·rename_i ht
   rw [htm t ht]
   have her := S.er t
   cases he : env.get t with
   | v v => rw [he] at her; exact VRel.mono le her
   | l s o =>
    rw [he] at her
    simp only [keepE]
    cases hm : memS s j.ss with
    | false => exact VRel.undef
    | true =>
     obtain ⟨p, hp, hps⟩ := memS_iff.1 hm
     have hnw := List.all_eq_true.1 hj p hp
     have hns : s ∉ W := fun h => by rw [hps, memN_iff.2 h] at hnw; cases hnw
     intro g hg
     rw [hlm s hns] at hg
     exact her g hg

theorem Cur.app_mk : ∀ (m : Nat) (f : List AV → Store → Res) (l : List AV) (σ : Store), l.length = m → Cur.app m (Cur.mk m f) l σ = f l σ
 | 0, f, [], σ, _ => rfl
 | m + 1, f, v :: l, σ, h => Cur.app_mk m (fun l => f (v :: l)) l σ (by simpa using h)
 | 0, f, _ :: _, σ, h => by simp at h
 | m + 1, f, [], σ, h => by simp at h

theorem gatherK_some {j : JH} {F : List AV → Store → Res} (h : gatherK j (Cur.mk j.m F) env loc σ = some x) : ∃ l, gatherS loc j.ss = some l ∧ F (gatherV env j.vs ++ l) σ = some x := by
 unfold gatherK at h
 split at h
 ·rename_i l hl
  refine ⟨l, hl, ?_⟩
  rw [Cur.app_mk] at h
  ·exact h
  ·rw [gatherV_eq, List.length_append, List.length_map, (joinLoc_get j.ss l hl).1]; rfl
 ·cases h

/-- Ahead of a join: what the joined continuation is good for. -/
theorem Post.join {W V : List Nat} (C : Post Z N K X R x G lm w a W Q) (S : St Z N w G lm env loc σ a) {j : JH} (hj : jOk j V = true) (hV : ∀ t, t ∈ V → t ∈ W) :
  Post Z N (gatherK j (Cur.mk j.m (joinC j V env K))) X R x G lm w a V Q := by
 intro e
 cases e with
 | normal =>
  intro env' loc' σ' G' lm' w' a' hk S' le hlm htm
  obtain ⟨l, hl, hk⟩ := gatherK_some hk
  exact C .normal _ _ σ' G' lm' w' a' hk (S.join S' le hlm htm hj hl) le (fun s hs => hlm s fun h => hs (hV s h)) (fun t ht => htm t fun h => ht (hV t h))
 | exit id => exact (C (.exit id)).step (W1 := []) (.refl _ _) (fun _ _ => rfl) (fun _ _ => rfl) (fun t h => by cases h) hV
 | goto l => exact (C (.goto l)).step (W1 := []) (.refl _ _) (fun _ _ => rfl) (fun _ _ => rfl) (fun t h => by cases h) hV
 | ret => exact (C (.ret)).step (W1 := []) (.refl _ _) (fun _ _ => rfl) (fun _ _ => rfl) (fun t h => by cases h) hV
 | panic ch => exact (C (.panic ch)).step (W1 := []) (.refl _ _) (fun _ _ => rfl) (fun _ _ => rfl) (fun t h => by cases h) hV
 | outgrown => exact (C (.outgrown)).step (W1 := []) (.refl _ _) (fun _ _ => rfl) (fun _ _ => rfl) (fun t h => by cases h) hV

/-! #### loops -/
/-- A loop that stands at the head of a round. -/
def LoopIn (P : Program) (c : Code) (Q : Exit → Act → World → Prop) (a : Act) (w : World) : Prop :=
 ∀ (b : Frame) (k : List Item) (cs : List Frame), ∃ e a' w', Q e a' w' ∧ Arrives P (lone (b.at a (.code c :: .inLoop c :: k)) cs w) b k cs e a' w'
theorem wp_of_loopIn {c : Code} (h : LoopIn P c Q a w) : (Code.loop c).wp P Q a w := fun b k cs =>
 let ⟨e, a', w', q, r⟩ := h b k cs
 ⟨e, a', w', q, .of_steps (.one step_loop) r⟩
theorem loopIn_round {c : Code} (h : c.wp P (Exit.then (LoopIn P c Q) Q) a w) : LoopIn P c Q a w := by
 intro b k cs
 obtain ⟨e, a₁, w₁, hq, harr⟩ := h b (.inLoop c :: k) cs
 cases e with
 | normal =>
  obtain ⟨e₂, a₂, w₂, hq₂, harr₂⟩ := hq b k cs
  exact ⟨e₂, a₂, w₂, hq₂, .of_steps (Steps.trans harr (.one step_inLoop)) harr₂⟩
 | exit id => exact ⟨_, a₁, w₁, hq, .pass (x := .inLoop c) rfl (fun _ _ => .inl (by simp)) harr⟩
 | goto l => exact ⟨_, a₁, w₁, hq, .pass (x := .inLoop c) rfl (fun _ _ => .inl (by simp)) harr⟩
 | ret => exact ⟨_, a₁, w₁, hq, .pass (x := .inLoop c) rfl (fun _ _ => .inl (by simp)) harr⟩
 | panic ch => exact ⟨_, a₁, w₁, hq, .pass (x := .inLoop c) rfl (fun _ _ => .inl (by simp)) harr⟩
 | outgrown => exact ⟨_, a₁, w₁, hq, .pass (x := .inLoop c) rfl (fun _ _ => .inl (by simp)) harr⟩

theorem lfp_some {A B : Type} {F : (A → Option B) → A → Option B} {a : A} {r : B} (h : lfp F a = some r) : Lfp F a r := by
 unfold lfp at h
 split at h
 ·rename_i hex
  cases h
  exact hex.choose_spec
 ·cases h
/-- What the least fixed point gives has every property that a round keeps. -/
theorem lfp_ind {A B : Type} {F : (A → Option B) → A → Option B} (S : A → B → Prop) (h : ∀ (g : A → Option B) (a : A) (r : B), (∀ a' r', g a' = some r' → S a' r') → F g a = some r → S a r) {a : A} {r : B} (hr : lfp F a = some r) : S a r :=
 lfp_some hr S h
theorem Cur.app_len : ∀ {m : Nat} {k : Cur m} {l : List AV} {σ : Store} {r : AV × Store}, Cur.app m k l σ = some r → l.length = m
 | 0, _, [], _, _, _ => rfl
 | m + 1, k, v :: l, σ, r, h => by simp [Cur.app_len (m := m) h]
 | 0, _, _ :: _, _, _, h => by cases h
 | m + 1, _, [], _, _, h => by cases h
end
end Go.Asm
/- A resolved code tree stands for the model's code: soundness. -/
namespace Go.Asm
section
variable {P : Program} {Z : Base} {N : Nat} {x : AV × Store} {D : Ctx}

theorem Post.of {K K' R : Kn} {X : List (Nat × Kn)} {G : Gh} {lm : Nat → Option Nat} {w : World} {a : Act} {W : List Nat} {Q Q' : Exit → Act → World → Prop} (C : Post Z N K X R x G lm w a W Q)
  (hn : Cont Z N K' x G lm w a W (Q' .normal)) (hq : ∀ e a w, e ≠ .normal → Q e a w → Q' e a w) : Post Z N K' X R x G lm w a W Q' := by
 intro e
 cases e with
 | normal => exact hn
 | exit id => exact fun env' loc' σ' G' lm' w' a' hk S' le hl ht => hq _ _ _ (by simp) (C (.exit id) env' loc' σ' G' lm' w' a' hk S' le hl ht)
 | goto l => exact fun env' loc' σ' G' lm' w' a' hk S' le hl ht => hq _ _ _ (by simp) (C (.goto l) env' loc' σ' G' lm' w' a' hk S' le hl ht)
 | ret => exact fun env' loc' σ' G' lm' w' a' hk S' le hl ht => hq _ _ _ (by simp) (C .ret env' loc' σ' G' lm' w' a' hk S' le hl ht)
 | panic ch => exact fun env' loc' σ' G' lm' w' a' hk S' le hl ht => hq _ _ _ (by simp) (C (.panic ch) env' loc' σ' G' lm' w' a' hk S' le hl ht)
 | outgrown => exact fun env' loc' σ' G' lm' w' a' hk S' le hl ht => hq _ _ _ (by simp) (C .outgrown env' loc' σ' G' lm' w' a' hk S' le hl ht)

theorem Post.block {K R : Kn} {X : List (Nat × Kn)} {G : Gh} {lm : Nat → Option Nat} {w : World} {a : Act} {W : List Nat} {Q : Exit → Act → World → Prop} {id : Nat} (C : Post Z N K X R x G lm w a W Q) :
  Post Z N K ((id, K) :: X) R x G lm w a W (Exit.inBlock id Q) := by
 intro e
 cases e with
 | normal => exact C .normal
 | exit id' =>
  intro env' loc' σ' G' lm' w' a' hk S' le hl ht
  simp only [kont, exitK] at hk
  simp only [Exit.inBlock]
  by_cases h : id' = id
  ·subst h
   rw [beq_self] at hk
   rw [if_pos rfl]
   exact C .normal env' loc' σ' G' lm' w' a' hk S' le hl ht
  ·rw [beq_ne (Ne.symm h)] at hk
   rw [if_neg h]
   exact C (.exit id') env' loc' σ' G' lm' w' a' hk S' le hl ht
 | goto l => exact C (.goto l)
 | ret => exact C .ret
 | panic ch => exact C (.panic ch)
 | outgrown => exact C .outgrown

theorem memL {t : Nat} {l m : List Nat} (h : t ∈ l) : t ∈ l ++ m := List.mem_append_left _ h
theorem memR {t : Nat} {l m : List Nat} (h : t ∈ m) : t ∈ l ++ m := List.mem_append_right _ h

theorem comp_sound (hm : P.follows .mixedOrders = true) (hcall : CallOK P Z.Gl D.call) (hG : D.G = Z.Gl) : ∀ (c : IR) (code : Code) (K : Kn) (X : List (Nat × Kn)) (R : Kn) (env : Env) (loc : Loc) (σ : Store) (G : Gh) (lm : Nat → Option Nat) (w : World) (a : Act)
  (Q : Exit → Act → World → Prop), okC P N c code = true → comp D c K X R env loc σ = some x → St Z N w G lm env loc σ a → Post Z N K X R x G lm w a c.writes Q → code.wp P Q a w := by
 intro c
 induction c with
 | skip =>
  intro code K X R env loc σ G lm w a Q hc hk S C
  cases code <;> simp only [okC, Bft] at hc
  exact wp_skip (C .normal env loc σ G lm w a hk S (.refl _ _) (fun _ _ => rfl) (fun _ _ => rfl))
 | reg rt =>
  intro code K X R env loc σ G lm w a Q hc hk S C
  cases code <;> (try simp only [okC, Bft] at hc)
  rename_i id ops draw
  cases draw with
  | false =>
   simp only [okC] at hc
   split at hc
   ·rename_i i hi
    have e := Nat.eq_of_beq_eq_true hc
    subst e
    refine wp_region ?_
    have h0 : List.range ops.size = from_ ops 0 := by simp [from_, List.range_eq_range']
    rw [h0]
    refine rt_sound hcall hG rt 0 ops.size env loc σ K G lm w a hi hk S (fun env' loc' σ' G' lm' w' a' hk' S' le hl ht => ?_)
    have h1 : from_ ops ops.size = [] := by simp [from_]
    rw [h1]
    exact C .normal env' loc' σ' G' lm' w' a' hk' S' le hl ht
   ·cases hc
  | true => simp only [okC, Bft] at hc
 | drw dt ps zs last =>
  intro code K X R env loc σ G lm w a Q hc hk S C
  cases code <;> (try simp only [okC, Bft] at hc)
  rename_i id ops draw
  cases draw with
  | false => simp only [okC, Bft] at hc
  | true =>
   simp only [okC] at hc
   exact draw_sound hm hcall hG hc hk S (C .normal)
 | seq p q ihp ihq =>
  intro code K X R env loc σ G lm w a Q hc hk S C
  cases code <;> simp only [okC, Bft, Bae] at hc
  rename_i u v
  refine wp_seq (ihp u _ X R env loc σ G lm w a _ hc.1 hk S ?_)
  refine (C.sub fun t h => memL h).of (fun env' loc' σ' G' lm' w' a' hk' S' le hl ht => ?_) (fun e a w he h => by cases e <;> first | exact absurd rfl he | exact h)
  exact ihq v K X R env' loc' σ' G' lm' w' a' Q hc.2 hk' S' (C.step le hl ht (fun t h => memL h) (fun t h => memR h))
 | cond c j p q ihp ihq =>
  intro code K X R env loc σ G lm w a Q hc hk S C
  cases j with
  | none =>
   cases code <;> simp only [okC, Bft, Bae] at hc
   rename_i c' u v
   obtain ⟨⟨h1, h2⟩, h3⟩ := hc
   simp only [comp] at hk
   obtain ⟨b, hb, hk⟩ := val_some hk
   have hr := val_rel S h1 hb
   rcases aCase_some hk with ⟨rfl, hk⟩ | ⟨rfl, hk⟩
   ·exact wp_cond_true hr.bool_inv (ihp u K X R env loc σ G lm w a Q h2 hk S (C.sub fun t h => memL h))
   ·exact wp_cond_false hr.bool_inv (ihq v K X R env loc σ G lm w a Q h3 hk S (C.sub fun t h => memR h))
  | some j =>
   cases code <;> simp only [okC, Bft, Bae] at hc
   rename_i c' u v
   obtain ⟨⟨⟨h1, h2⟩, h3⟩, h4⟩ := hc
   simp only [comp, jn] at hk
   obtain ⟨b, hb, hk⟩ := val_some hk
   have hr := val_rel S h1 hb
   have C2 := C.join S h4 (fun t h => h)
   rcases aCase_some hk with ⟨rfl, hk⟩ | ⟨rfl, hk⟩
   ·exact wp_cond_true hr.bool_inv (ihp u _ X R env loc σ G lm w a Q h2 hk S (C2.sub fun t h => memL h))
   ·exact wp_cond_false hr.bool_inv (ihq v _ X R env loc σ G lm w a Q h3 hk S (C2.sub fun t h => memR h))
 | block id j p ihp =>
  intro code K X R env loc σ G lm w a Q hc hk S C
  cases j with
  | none =>
   cases code <;> simp only [okC, Bft, Bae] at hc
   rename_i id' u
   have e := Nat.eq_of_beq_eq_true hc.1
   subst e
   exact wp_block (ihp u K _ R env loc σ G lm w a _ hc.2 hk S C.block)
  | some j =>
   cases code <;> simp only [okC, Bft, Bae] at hc
   rename_i id' u
   obtain ⟨⟨h1, h2⟩, h3⟩ := hc
   have e := Nat.eq_of_beq_eq_true h1
   subst e
   simp only [comp, jn] at hk
   exact wp_block (ihp u _ _ R env loc σ G lm w a _ h2 hk S (C.join S h3 (fun t h => h)).block)
 | loop j p ihp =>
  intro code K X R env loc σ G lm w a Q hc hk S C
  cases code <;> simp only [okC, Bft, Bae] at hc
  rename_i u
  obtain ⟨h1, h2⟩ := hc
  refine wp_of_loopIn ?_
  simp only [comp] at hk
  let F : Cur j.m → Cur j.m := fun self => Cur.mk j.m (joinC j p.writes env fun env loc σ => comp D p (gatherK j self) X R env loc σ)
  let S0 : List AV × Store → AV × Store → Prop := fun q r => r = x → ∀ (env' : Env) (loc' : Loc) (G' : Gh) (lm' : Nat → Option Nat) (w' : World) (a' : Act) (l : List AV), gatherS loc' j.ss = some l →
   St Z N w' G' lm' env' loc' q.2 a' → Le w.heap w'.heap G G' → (∀ s, s ∉ p.writes → lm' s = lm s) → (∀ t, t ∉ p.writes → a'.tmps.getD t undef = a.tmps.getD t undef) →
   q.1 = gatherV env' j.vs ++ l → LoopIn P u Q a' w'
  have hM : ∀ q r, lfp (fun (g : List AV × Store → Option (AV × Store)) p => Cur.app j.m (F (Cur.mk j.m fun l σ => g (l, σ))) p.1 p.2) q = some r → S0 q r := fun q r hq => by
   refine lfp_ind S0 (fun g q r hself hk' hr => ?_) hq
   subst hr
   intro env' loc' G' lm' w' a' l hl S' le hlm htm hq
   rw [hq] at hk'
   have hlen : (gatherV env' j.vs ++ l).length = j.m := by rw [gatherV_eq, List.length_append, List.length_map, (joinLoc_get j.ss l hl).1]; rfl
   simp only [F] at hk'
   rw [Cur.app_mk _ _ _ _ hlen] at hk'
   have SJ := S.join S' le hlm htm h2 hl
   refine loopIn_round (ihp u (gatherK j (Cur.mk j.m fun l σ => g (l, σ))) X R _ _ q.2 G' lm' w' a' _ h1 hk' SJ ?_)
   refine (C.step le hlm htm (fun t h => h) (fun t h => h)).of (fun env2 loc2 σ2 G2 lm2 w2 a2 hk2 S2 le2 hl2 ht2 => ?_) (fun e a w he h => by cases e <;> first | exact absurd rfl he | exact h)
   obtain ⟨l2, hl2', hk2⟩ := gatherK_some hk2
   exact hself (gatherV env2 j.vs ++ l2, σ2) _ hk2 rfl env2 loc2 G2 lm2 w2 a2 l2 hl2' S2 (le.trans le2) (fun s hs => (hl2 s hs).trans (hlm s hs)) (fun t ht => (ht2 t ht).trans (htm t ht)) rfl
  have hk' := hk
  unfold lpFix at hk'
  obtain ⟨l, hl, hk2⟩ := gatherK_some hk'
  exact hM _ _ hk2 rfl env loc G lm w a l hl S (.refl _ _) (fun _ _ => rfl) (fun _ _ => rfl) rfl
 | exit id =>
  intro code K X R env loc σ G lm w a Q hc hk S C
  cases code <;> simp only [okC, Bft] at hc
  have e := Nat.eq_of_beq_eq_true hc
  subst e
  exact wp_exit (C (.exit _) env loc σ G lm w a hk S (.refl _ _) (fun _ _ => rfl) (fun _ _ => rfl))
 | ret =>
  intro code K X R env loc σ G lm w a Q hc hk S C
  cases code <;> simp only [okC, Bft] at hc
  exact wp_ret (C .ret env loc σ G lm w a hk S (.refl _ _) (fun _ _ => rfl) (fun _ _ => rfl))
end
end Go.Asm
/- Functions: the check of a whole function, its calls, and the meaning of all of them. -/
namespace Go.Asm
section
variable {ρ : Type} {P : Program} {Z : Base} {N : Nat} {w w' : World} {G G' : Gh} {lm : Nat → Option Nat} {env : Env} {loc : Loc} {σ σ' : Store} {a : Act}
 {k : Env → Loc → Store → Option ρ} {x : ρ} {D : Ctx}

theorem run_lv1 {t : Nat} {ad : Addr} {c : Value} (ht : tyOk P t false 1 = true) (hc : cellOf w.heap ad = some c) : (loadVar t ad).run P w = .ok c w := by
 have hc' : w.cell? ad = some c := hc
 simp [loadVar, run_isAgg ht, hc']
theorem run_lvN {t n : Nat} {ad : Addr} {cs : List Value} (ht : tyOk P t true n = true) (hn : cs.length = n)
  (hc : ∀ (j : Nat) v, cs[j]? = some v → cellOf w.heap (ad.add j) = some v) : (loadVar t ad).run P w = .ok (.agg ⟨cs⟩) w := by
 have hl := run_loadCells_list (P := P) w ad cs hc
 rw [hn] at hl
 simp [loadVar, run_isAgg ht, run_sizeOf (tyOk_sz ht), hl]

theorem load_res (S : St Z N w G lm env loc σ a) (hG : D.G = Z.Gl) {d : Option Nat} {t n : Nat} {agg : Bool} {y : Operand} {y0 : Opd}
  (ht : tyOk P t agg n = true) (hy : opdOk y y0 = true) (h : opK D d (.load agg n y0) env loc σ k = some x) :
  ∃ (ad : Addr) (c : Value) (v : AV), a.eval y = .pointer (some ad) ∧ (loadVar t ad).run P w = .ok c w ∧ VRel w.heap G v c ∧ k (put env d (.v v)) loc σ = some x := by
 have her := ent_rel S hy
 simp only [opK] at h
 split at h
 ·rename_i s off he
  rw [he] at her
  split at h
  ·rename_i m cs hl
   obtain ⟨h0, g, hg, hf, hb⟩ := S.hi.lrel s m cs hl
   have hc := her g hg
   cases agg with
   | true =>
    simp only [cond_true] at h
    cases hb1 : (off.beq 0 && n.beq m) with
    | true =>
     rw [hb1] at h
     simp only [Bae] at hb1
     have e1 := Nat.eq_of_beq_eq_true hb1.1
     have e2 := Nat.eq_of_beq_eq_true hb1.2
     subst e1; subst e2
     obtain ⟨l, a1, a2, a3, a4⟩ := block_cells hb (off := 0) (n := n) (by omega)
     rw [List.drop_zero, List.take_of_length_le (by omega)] at a3
     exact ⟨_, _, .agg cs, hc, run_lvN ht a1 a2, a3.agg a4, h⟩
    | false =>
     rw [hb1] at h
     simp only [cond_false] at h
     cases hb2 : (off + n).ble m with
     | true =>
      rw [hb2] at h
      have hle := Nat.le_of_ble_eq_true hb2
      obtain ⟨l, a1, a2, a3, a4⟩ := block_cells hb (off := off) (n := n) (by omega)
      exact ⟨_, _, .agg _, hc, run_lvN ht a1 a2, a3.agg a4, h⟩
     | false => rw [hb2] at h; cases h
   | false =>
    simp only [cond_false] at h
    obtain ⟨v, hv, h⟩ := bind_some h
    obtain ⟨arr, elem, b1, b2, b3, b3', b4⟩ := hb
    obtain ⟨u, c1, c2⟩ := b4 _ _ hv
    have := tyOk_one ht
    subst this
    exact ⟨_, _, v, hc, run_lv1 ht (by rw [cellOf_mk b1]; exact c1), c2, h⟩
  ·cases h
 ·rename_i p he
  rw [he] at her
  cases agg with
  | true =>
   simp only [cond_true] at h
   obtain ⟨cs, hcs, h⟩ := bind_some h
   obtain ⟨ad, l, e1, e2, e3, e4, e5⟩ := rdN_some S.hi hcs her
   exact ⟨ad, _, .agg cs, e1, run_lvN ht e2 e3, e4.agg e5, h⟩
  | false =>
   simp only [cond_false] at h
   obtain ⟨v, hv, h⟩ := bind_some h
   obtain ⟨ad, u, e1, e2, e3⟩ := rd1_some S.hi hG hv her
   have := tyOk_one ht
   subst this
   exact ⟨ad, u, v, e1, run_lv1 ht e2, e3, h⟩
end

def resOk (P : Program) : List ResultVar → List IRes → Bool
 | [], [] => true
 | .tmp t :: r, .tmp u :: r' => t.beq u && resOk P r r'
 | .cell a t :: r, .cell b agg n :: r' => a.beq b && tyOk P t agg n && resOk P r r'
 | _, _ => false
/-- The whole check of a function. -/
def fnOk (P : Program) (f : Nat) (ifn : IFn) : Bool :=
 match P.funcs[f]? with
 | some fn => (match fn.body with
  | some code => !(fn.name == "runtime.NumGoroutine") && okC P fn.ntmps ifn.body code && resOk P fn.results.toList ifn.res
  | none => false)
 | none => false

section
variable {P : Program} {Z : Base} {N : Nat} {w w' : World} {G G' : Gh} {lm : Nat → Option Nat} {env : Env} {loc : Loc} {σ σ' : Store} {a : Act} {x : AV × Store} {D : Ctx}

def rv (tmps : Array Value) : ResultVar → Sem Value
 | .tmp t => pure (tmps.getD t undef)
 | .cell q t => do loadVar t (← asAddr (tmps.getD q undef))
theorem results_eq (fn : Func) (tmps : Array Value) : results fn tmps = (do
  let vs ← fn.results.mapM (rv tmps)
  pure (if h : vs.size = 1 then vs[0] else .tuple vs)) := by
 have e : (fun x => match x with
  | ResultVar.tmp t => (pure (tmps.getD t undef) : Sem Value)
  | .cell a t => do loadVar t (← asAddr (tmps.getD a undef))) = rv tmps := by
  funext r; cases r <;> rfl
 unfold results
 rw [← e]
 rfl
theorem res_sound (S : St Z N w G lm env loc σ a) (hG : D.G = Z.Gl) : ∀ (vs : List ResultVar) (rs : List IRes) (k : List AV → Res), resOk P vs rs = true → resK D rs env loc σ k = some x →
  ∃ (us : List AV) (cs : List Value), (vs.mapM (rv a.tmps)).run P w = .ok cs w ∧ VRels w.heap G us cs ∧ k us = some x
 | [], [], k, _, hk => ⟨[], [], by simp, .nil, hk⟩
 | .tmp t :: vs, .tmp u :: rs, k, h, hk => by
  simp only [resOk, Bae] at h
  have e := Nat.eq_of_beq_eq_true h.1
  subst e
  simp only [resK, resK1] at hk
  obtain ⟨v, hv, hk⟩ := val_some hk
  obtain ⟨us, cs, h1, h2, h3⟩ := res_sound S hG vs rs _ h.2 hk
  refine ⟨v :: us, a.tmps.getD t undef :: cs, ?_, .cons (S.val hv) h2, h3⟩
  have hA : (rv a.tmps (.tmp t)).run P w = .ok (a.tmps.getD t undef) w := rfl
  simp only [List.mapM_cons, Sem.run_bind, hA, Sem.run_pure, Result.andThen_ok, h1]
 | .cell q t :: vs, .cell b agg n :: rs, k, h, hk => by
  simp only [resOk, Bae] at h
  have e := Nat.eq_of_beq_eq_true h.1.1
  subst e
  simp only [resK, resK1] at hk
  obtain ⟨ad, c, v, q1, q2, q3, q4⟩ := load_res (y := .tmp q) S hG h.1.2 (by simp [opdOk]) hk
  simp only [val, ent, put, Env.get_cons, if_true] at q4
  obtain ⟨us, cs, h1, h2, h3⟩ := res_sound S hG vs rs _ h.2 q4
  refine ⟨v :: us, c :: cs, ?_, .cons q3 h2, h3⟩
  have q1' : a.tmps.getD q undef = .pointer (some ad) := q1
  have hA : (rv a.tmps (.cell q t)).run P w = .ok c w := by
   have hB : (asAddr (a.tmps.getD q undef)).run P w = .ok ad w := by rw [q1']; rfl
   simp only [rv, Sem.run_bind, hB, Result.andThen_ok, q2]
  simp only [List.mapM_cons, Sem.run_bind, hA, Sem.run_pure, Result.andThen_ok, h1]
 | [], _ :: _, _, h, _ => by simp [resOk] at h
 | .tmp _ :: _, [], _, h, _ => by simp [resOk] at h
 | .cell _ _ :: _, [], _, h, _ => by simp [resOk] at h
 | .tmp _ :: _, .cell _ _ _ :: _, _, h, _ => by simp [resOk] at h
 | .cell _ _ :: _, .tmp _ :: _, _, h, _ => by simp [resOk] at h

theorem argEnv_get : ∀ (l : List AV) (i t : Nat), (argEnv i l).get t = match (if i ≤ t then l[t - i]? else none) with
  | some v => .v v
  | none => .v .undef
 | [], i, t => by simp [argEnv, Env.get_nil]
 | v :: l, i, t => by
  simp only [argEnv]
  rw [Env.get_cons, argEnv_get l (i + 1) t]
  by_cases h : i = t
  ·subst h; simp
  ·rw [if_neg h]
   by_cases h2 : i + 1 ≤ t
   ·rw [if_pos h2, if_pos (by omega), show t - i = (t - (i + 1)) + 1 by omega]; simp
   ·rw [if_neg h2, if_neg (by omega)]

theorem HI.relm (H : HI Z w G lm [] σ) (lm' : Nat → Option Nat) : HI Z w G lm' [] σ := by
 obtain ⟨a1, a2, a3, a4, a5, a6, a7, a8, a9, a10, a11, a12, a13, a14, a15, a16, a17, a18, a19⟩ := H
 exact ⟨a1, a2, a3, a4, (fun s n cs h => (by cases h)), (fun s t h => (by simp [Loc.get_nil] at h)), (fun s h => (by simp [Loc.get_nil] at h)), a8, a9, a10, a11, a12, a13, (fun s h => (by simp [Loc.get_nil] at h)), a15, a16, a17, a18, a19⟩

theorem fn_sound (hm : P.follows .mixedOrders = true) {f : Nat} {ifn : IFn} (hf : fnOk P f ifn = true) (hcall : CallOK P D.G D.call) {args : List AV} {r : AV × Store} (h : runFn D ifn args σ = some r) : Den P D.G f args σ r := by
 unfold fnOk at hf
 split at hf
 ·rename_i fn hfn
  split at hf
  ·rename_i code hbody
   simp only [Bae] at hf
   obtain ⟨⟨h1, h2⟩, h3⟩ := hf
   refine ⟨⟨fn, hfn, by simpa using h1, by simp [hbody]⟩, fun w G cs H hr => ?_⟩
   refine calls_of_wp hfn hbody ?_
   have S : St (here w G σ D.G) fn.ntmps w G (fun _ => none) (argEnv 0 args) [] σ { tmps := cs.toArray ++ Array.replicate (fn.ntmps - cs.toArray.size) undef, defers := [] } := by
    refine ⟨H, fun t => ?_, rfl, by simp; omega⟩
    rw [argEnv_get]
    simp only [Nat.zero_le, if_true, Nat.sub_zero]
    cases ha : args[t]? with
    | none => exact VRel.undef
    | some v =>
     obtain ⟨c, c1, c2⟩ := hr.get ha
     have hlt := (List.getElem?_eq_some_iff.1 c1).1
     show VRel w.heap G v _
     rw [Array.getD_eq_getD_getElem?, Array.getElem?_append_left (by simpa using hlt)]
     simp only [List.getElem?_toArray, c1, Option.getD_some]
     exact c2
   have fin : ∀ env' loc' σ' G' lm' w' (a' : Act), retK D ifn.res env' loc' σ' = some r → St (here w G σ D.G) fn.ntmps w' G' lm' env' loc' σ' a' →
     a'.defers = [] ∧ ∃ v, (results fn a'.tmps).run P w' = .ok v w' ∧ ∃ G', HI (here w G σ D.G) w' G' (fun _ => none) [] r.2 ∧ VRel w'.heap G' r.1 v := by
    intro env' loc' σ' G' lm' w' a' hk S'
    obtain ⟨us, vs, q1, q2, q3⟩ := res_sound (x := r) S' rfl fn.results.toList ifn.res _ h3 hk
    have HH : HI (here w G σ D.G) w' G' (fun _ => none) [] σ' := (S'.hi.forget [] (fun s e h => by cases h)).relm _
    have hrun : (results fn a'.tmps).run P w' = .ok (if h : vs.toArray.size = 1 then vs.toArray[0] else .tuple vs.toArray) w' := by
     rw [results_eq, Sem.run_bind, Array.mapM_eq_mapM_toList, Sem.run_map, q1]
     rfl
    refine ⟨S'.df, _, hrun, G', ?_⟩
    split at q3
    ·rename_i v
     cases q3
     obtain ⟨ql, qr⟩ := q2
     match vs, ql, qr with
     | [c], _, qr => exact ⟨HH, qr 0 v c rfl rfl⟩
    ·rename_i l hne
     cases q3
     refine ⟨HH, ?_⟩
     split
     ·rename_i hsz
      exfalso
      have hl1 : us.length = 1 := by rw [q2.1]; simpa using hsz
      obtain ⟨v, hv⟩ := List.length_eq_one_iff.1 hl1
      exact hne v hv
     ·exact q2.tuple
   refine comp_sound hm hcall rfl ifn.body code (retK D ifn.res) [] (retK D ifn.res) (argEnv 0 args) [] σ G (fun _ => none) w _ _ h2 h S (fun e => ?_)
   cases e with
   | normal => exact fun env' loc' σ' G' lm' w' a' hk S' _ _ _ => fin env' loc' σ' G' lm' w' a' hk S'
   | ret => exact fun env' loc' σ' G' lm' w' a' hk S' _ _ _ => fin env' loc' σ' G' lm' w' a' hk S'
   | exit id => exact fun env' loc' σ' G' lm' w' a' hk S' _ _ _ => by cases hk
   | goto l => exact fun env' loc' σ' G' lm' w' a' hk S' _ _ _ => by cases hk
   | panic ch => exact fun env' loc' σ' G' lm' w' a' hk S' _ _ _ => by cases hk
   | outgrown => exact fun env' loc' σ' G' lm' w' a' hk S' _ _ _ => by cases hk
  ·cases hf
 ·cases hf
end
end Go.Asm
/- The meaning of all functions together: the least one. -/
namespace Go.Asm

def Ole {β : Type} (a b : Option β) : Prop := ∀ r, a = some r → b = some r

section
variable {β γ : Type} {D D' : Ctx} {env : Env} {loc : Loc} {σ : Store}

theorem Ole.refl (a : Option β) : Ole a a := fun _ h => h
theorem Ole.none {b : Option β} : Ole none b := fun _ h => by cases h
theorem Ole.bind {a b : Option β} {f g : β → Option γ} (h : Ole a b) (hf : ∀ v, Ole (f v) (g v)) : Ole (a.bind f) (b.bind g) := fun r hr => by
 obtain ⟨v, hv, hr⟩ := bind_some hr
 rw [h v hv]
 exact hf v r hr
theorem Ole.bindr {a : Option β} {f g : β → Option γ} (hf : ∀ v, Ole (f v) (g v)) : Ole (a.bind f) (a.bind g) := Ole.bind (.refl a) hf
theorem Ole.val {y : Opd} {f g : AV → Option β} (h : ∀ v, Ole (f v) (g v)) : Ole (val env y f) (val env y g) := by
 unfold Go.Asm.val; split
 ·exact h _
 ·exact .none
theorem Ole.valO {y : Option Opd} {f g : Option AV → Option β} (h : ∀ v, Ole (f v) (g v)) : Ole (valO env y f) (valO env y g) := by
 cases y with
 | none => exact h _
 | some y => exact Ole.val fun v => h _
theorem Ole.vals : ∀ {ys : List Opd} {f g : List AV → Option β}, (∀ v, Ole (f v) (g v)) → Ole (vals env ys f) (vals env ys g)
 | [], _, _, h => h _
 | _ :: _, _, _, h => Ole.val fun _ => Ole.vals fun _ => h _
theorem Ole.aCase {x : AV} {t t' f f' : Option β} (h1 : Ole t t') (h2 : Ole f f') : Ole (aCase x t f) (aCase x t' f') := by
 unfold Go.Asm.aCase; split
 ·exact h1
 ·exact h2
 ·exact .none
theorem Ole.cond {b : Bool} {t t' f f' : Option β} (h1 : Ole t t') (h2 : Ole f f') : Ole (bif b then t else f) (bif b then t' else f') := by
 cases b
 ·exact h2
 ·exact h1
theorem Ole.cellsK {agg : Bool} {n : Nat} {v : AV} {f g : List AV → Option β} (h : ∀ v, Ole (f v) (g v)) : Ole (cellsK agg n v f) (cellsK agg n v g) := by
 unfold Go.Asm.cellsK
 exact Ole.cond (Ole.bindr h) (Ole.bindr fun v => h _)
theorem Ole.buildK : ∀ {ps : List (Nat × Nat × Bool × Opd)} {cs : List AV} {f g : List AV → Option β}, (∀ v, Ole (f v) (g v)) → Ole (buildK env cs ps f) (buildK env cs ps g)
 | [], _, _, _, h => h _
 | (_, _, _, _) :: _, _, _, _, h => Ole.val fun _ => Ole.cellsK fun _ => Ole.buildK h
theorem Ole.rowsK {sz : Nat} : ∀ {ps : List (Nat × Bool × Opd)} {cs : List AV} {f g : List AV → Option β}, (∀ v, Ole (f v) (g v)) → Ole (rowsK env sz cs ps f) (rowsK env sz cs ps g)
 | [], _, _, _, h => h _
 | (_, _, _) :: _, _, _, _, h => Ole.val fun _ => Ole.cellsK fun _ => Ole.rowsK h

open Classical in
theorem Ole.agree {ι : Type} {p : ι → Prop} {f g : ι → Option β} (h : ∀ i, Ole (f i) (g i)) : Ole (Go.Asm.agree p f) (Go.Asm.agree p g) := fun r hr => by
 by_cases hp : ∃ i, p i
 ·exact agree_intro hp fun i hi => h i r (agree_elim hr i hi)
 ·have e : (fun r => ∀ i, p i → f i = some r) = fun r => ∀ i, p i → g i = some r := by
   funext r
   exact propext ⟨fun _ i hi => absurd ⟨i, hi⟩ hp, fun _ i hi => absurd ⟨i, hi⟩ hp⟩
  have key : ∀ A B : β → Prop, A = B → (if h : ∃ r, A r then some h.choose else Option.none) = (if h : ∃ r, B r then some h.choose else Option.none) := fun A B h => by subst h; rfl
  exact (key _ _ e).symm.trans hr
theorem Ole.rangeK {m : AV} {f g : AV → Store → Option β} (h : ∀ v σ, Ole (f v σ) (g v σ)) : Ole (rangeK m σ f) (rangeK m σ g) := by
 unfold Go.Asm.rangeK
 split
 ·split
  ·exact Ole.agree fun _ => h _ _
  ·exact .none
 ·exact .none
open Classical in
theorem Ole.nextK {m : AV} {f g : AV → Store → Option β} (h : ∀ v σ, Ole (f v σ) (g v σ)) : Ole (nextK m σ f) (nextK m σ g) := by
 unfold Go.Asm.nextK
 split
 ·split
  ·split
   ·split
    ·exact .none
    split
    ·exact Ole.agree fun _ => h _ _
    ·exact h _ _
   ·exact .none
  ·exact .none
 ·exact .none

structure CtxLe (D D' : Ctx) : Prop where
 call : ∀ f args σ, Ole (D.call f args σ) (D'.call f args σ)
 G : D.G = D'.G
theorem CtxLe.refl (D : Ctx) : CtxLe D D := ⟨fun _ _ _ => .refl _, rfl⟩

theorem callP_mono (hD : CtxLe D D') (f : Nat) (args : List AV) : Ole (callP D f args) (callP D' f args) := Ole.bindr fun _ => Ole.bind (hD.call _ _ _) fun _ => .refl _
theorem callV_mono (hD : CtxLe D D') (f : Nat) (args : List AV) : Ole (callV D f args σ) (callV D' f args σ) := Ole.bindr fun _ => Ole.bind (hD.call _ _ _) fun _ => .refl _
theorem callD_mono (hD : CtxLe D D') (f : AV) (args : List AV) : Ole (callD D f args σ) (callD D' f args σ) := by
 unfold callD; split
 ·exact hD.call _ _ _
 ·exact .none

theorem opK_mono (hD : CtxLe D D') {d : Option Nat} {r : ROp} {k k' : Env → Loc → Store → Option β} (h : ∀ env loc σ, Ole (k env loc σ) (k' env loc σ)) : Ole (opK D d r env loc σ k) (opK D' d r env loc σ k') := by
 cases r with
 | mv x => exact h _ _ _
 | pick c a b => exact Ole.val fun _ => Ole.aCase (h _ _ _) (h _ _ _)
 | pickv c a b => exact Ole.val fun _ => Ole.val fun _ => Ole.val fun _ => Ole.bindr fun _ => h _ _ _
 | zalloc zero =>
  simp only [opK]
  split
  ·split
   ·exact h _ _ _
   ·exact .none
  ·exact .none
 | halloc zero => exact h _ _ _
 | pbox x => exact Ole.val fun _ => h _ _ _
 | lbox agg n x =>
  simp only [opK]
  split
  ·split
   ·exact Ole.val fun _ => Ole.cellsK fun _ => h _ _ _
   ·exact .none
  ·exact .none
 | hbox agg n x => exact Ole.val fun _ => Ole.cellsK fun _ => h _ _ _
 | build zero parts => exact Ole.buildK fun _ => h _ _ _
 | pslice sz zero len parts => exact Ole.rowsK fun _ => h _ _ _
 | hslice sz zero len parts => exact Ole.rowsK fun _ => h _ _ _
 | load agg n a =>
  simp only [opK, hD.G]
  split
  ·split
   ·exact Ole.cond (Ole.cond (h _ _ _) (Ole.cond (h _ _ _) .none)) (Ole.bindr fun _ => h _ _ _)
   ·exact .none
  ·exact Ole.cond (Ole.bindr fun _ => h _ _ _) (Ole.bindr fun _ => h _ _ _)
 | store agg n a x =>
  simp only [opK]
  refine Ole.val fun _ => Ole.cellsK fun _ => ?_
  split
  ·split
   ·exact Ole.cond (h _ _ _) (Ole.cond (h _ _ _) .none)
   ·exact .none
  ·exact Ole.bindr fun _ => h _ _ _
 | nilCheck x =>
  simp only [opK]
  split
  ·split
   ·exact h _ _ _
   ·exact .none
  ·exact Ole.bindr fun _ => h _ _ _
 | bin op e x y => exact Ole.val fun _ => Ole.val fun _ => Ole.bindr fun _ => h _ _ _
 | un op x => exact Ole.val fun _ => Ole.bindr fun _ => h _ _ _
 | conv c x => exact Ole.val fun _ => Ole.bindr fun _ => h _ _ _
 | mkIface t x => exact Ole.val fun _ => h _ _ _
 | mkFunc f first captured => exact Ole.vals fun _ => Ole.vals fun _ => h _ _ _
 | mkMap kk => exact h _ _ _
 | mkSlice zero n => exact Ole.val fun _ => Ole.bindr fun _ => h _ _ _
 | sliceS x lo hi => exact Ole.val fun _ => Ole.valO fun _ => Ole.valO fun _ => Ole.bindr fun _ => h _ _ _
 | slice sz x lo hi => exact Ole.val fun _ => Ole.valO fun _ => Ole.valO fun _ => Ole.bindr fun _ => h _ _ _
 | fadd off x =>
  simp only [opK]
  split
  ·split
   ·exact h _ _ _
   ·exact .none
  ·exact Ole.bindr fun _ => h _ _ _
 | field agg off n x => exact Ole.val fun _ => Ole.bindr fun _ => h _ _ _
 | idx sz x i => exact Ole.val fun _ => Ole.val fun _ => Ole.bindr fun _ => h _ _ _
 | idxS x i => exact Ole.val fun _ => Ole.val fun _ => Ole.bindr fun _ => h _ _ _
 | look1 kk zero m x => exact Ole.val fun _ => Ole.val fun _ => Ole.bindr fun _ => h _ _ _
 | look2 kk zero m x => exact Ole.val fun _ => Ole.val fun _ => Ole.bindr fun _ => h _ _ _
 | mapSet kk m x y => exact Ole.val fun _ => Ole.val fun _ => Ole.val fun _ => Ole.bindr fun _ => h _ _ _
 | range x => exact Ole.val fun _ => Ole.rangeK fun _ _ => h _ _ _
 | next x => exact Ole.val fun _ => Ole.nextK fun _ _ => h _ _ _
 | entry x => exact Ole.val fun _ => Ole.bindr fun _ => h _ _ _
 | extr x i => exact Ole.val fun _ => Ole.bindr fun _ => h _ _ _
 | len kd x => exact Ole.val fun _ => Ole.bindr fun _ => h _ _ _
 | app sz s x => exact Ole.val fun _ => Ole.val fun _ => Ole.bindr fun _ => h _ _ _
 | callP f args => exact Ole.vals fun _ => Ole.bind (callP_mono hD _ _) fun _ => h _ _ _
 | callV f args => exact Ole.vals fun _ => Ole.bind (callV_mono hD _ _) fun _ => h _ _ _
 | callS f args => exact Ole.vals fun _ => Ole.bind (hD.call _ _ _) fun _ => h _ _ _
 | callD f args => exact Ole.val fun _ => Ole.vals fun _ => Ole.bind (callD_mono hD _ _) fun _ => h _ _ _

theorem rtK_mono (hD : CtxLe D D') : ∀ {rt : RT} {env : Env} {loc : Loc} {σ : Store} {k k' : Kn}, (∀ env loc σ, Ole (k env loc σ) (k' env loc σ)) → Ole (rtK D rt env loc σ k) (rtK D' rt env loc σ k')
 | .done, _, _, _, _, _, h => h _ _ _
 | .op d r rest, _, _, _, _, _, h => opK_mono hD fun _ _ _ => rtK_mono hD h
 | .gop g w d r rest, env, _, _, _, _, h => by
  simp only [rtK]
  split
  ·exact Ole.cond (opK_mono hD fun _ _ _ => rtK_mono hD h) (rtK_mono hD h)
  ·exact rtK_mono hD h
  ·exact .none
 | .freeze s rest, _, _, _, _, _, h => by
  simp only [rtK]
  split
  ·exact rtK_mono hD h
  ·exact .none
 | .dia g inner d c a b og rest, env, _, _, _, _, h => by
  simp only [rtK]
  split
  ·exact .none
  ·split
   ·exact rtK_mono hD h
   ·exact .none
  ·simp only [jn]
   refine Ole.val fun _ => Ole.aCase (rtK_mono hD fun _ _ _ => ?_) (rtK_mono hD fun _ _ _ => ?_)
   ·exact Ole.val fun _ => Ole.aCase (Ole.val fun _ => rtK_mono hD h) (Ole.val fun _ => rtK_mono hD h)
   ·exact Ole.val fun _ => Ole.aCase (Ole.val fun _ => rtK_mono hD h) (Ole.val fun _ => rtK_mono hD h)

theorem Ole.chkE {e e' : Ent} {f g : Option β} (h : Ole f g) : Ole (Go.Asm.chkE e e' f) (Go.Asm.chkE e e' g) := by
 unfold Go.Asm.chkE
 split
 ·exact h
 ·exact .none
theorem drK_mono (hD : CtxLe D D') : ∀ {dt : DT} {env : Env} {loc : Loc} {σ : Store} {k k' : Kn}, (∀ env loc σ, Ole (k env loc σ) (k' env loc σ)) → Ole (drK D dt env loc σ k) (drK D' dt env loc σ k')
 | .done, _, _, _, _, _, h => h _ _ _
 | .row d r rest, _, _, _, _, _, h => opK_mono hD fun _ _ _ => drK_mono hD h
 | .gop g w d r rest, env, _, _, _, _, h => by
  simp only [drK]
  split
  ·exact Ole.cond (opK_mono hD fun _ _ _ => drK_mono hD h) (drK_mono hD h)
  ·exact drK_mono hD h
  ·exact .none
 | .dia g inner d c a b og rest, env, _, _, _, _, h => by
  simp only [drK]
  split
  ·exact .none
  ·split
   ·exact drK_mono hD h
   ·exact .none
  ·simp only [jn]
   refine Ole.val fun _ => Ole.aCase (drK_mono hD fun _ _ _ => ?_) (drK_mono hD fun _ _ _ => ?_)
   ·exact Ole.val fun _ => Ole.aCase (Ole.val fun _ => drK_mono hD h) (Ole.val fun _ => drK_mono hD h)
   ·exact Ole.val fun _ => Ole.aCase (Ole.val fun _ => drK_mono hD h) (Ole.val fun _ => drK_mono hD h)
 | .chk d r rest, _, _, _, _, _, h => opK_mono hD fun _ _ _ => Ole.chkE (drK_mono hD h)

/-! #### curried functions -/
def Cle {m : Nat} (k k' : Cur m) : Prop := ∀ (l : List AV) (σ : Store), Ole (Cur.app m k l σ) (Cur.app m k' l σ)
/-- A round that knows more gives no less. -/
def Mono {m : Nat} (F : Cur m → Cur m) : Prop := ∀ k k', Cle k k' → Cle (F k) (F k')
theorem Cur.app_mk_none : ∀ {m : Nat} {f : List AV → Store → Res} {l : List AV} {σ : Store}, l.length ≠ m → Cur.app m (Cur.mk m f) l σ = none
 | 0, _, [], _, h => absurd rfl h
 | m + 1, f, v :: l, σ, h => Cur.app_mk_none (m := m) (f := fun l => f (v :: l)) (by simpa using h)
 | 0, _, _ :: _, _, _ => rfl
 | m + 1, _, [], _, _ => rfl
theorem Cur.mk_le {m : Nat} {f g : List AV → Store → Res} (h : ∀ l σ, Ole (f l σ) (g l σ)) : Cle (Cur.mk m f) (Cur.mk m g) := fun l σ => by
 by_cases hl : l.length = m
 ·rw [Cur.app_mk _ _ _ _ hl, Cur.app_mk _ _ _ _ hl]; exact h l σ
 ·rw [Cur.app_mk_none hl]; exact .none
theorem Cur.mk_app : ∀ {m : Nat} (k : Cur m), Cur.mk m (fun l σ => Cur.app m k l σ) = k
 | 0, _ => rfl
 | m + 1, k => by
  funext v
  exact Cur.mk_app (m := m) (k v)
theorem Cur.ext {m : Nat} {k k' : Cur m} (h : ∀ l σ, Cur.app m k l σ = Cur.app m k' l σ) : k = k' := by
 rw [← Cur.mk_app k, ← Cur.mk_app k']
 congr 1
 funext l σ
 exact h l σ

theorem Cle.refl {m : Nat} (k : Cur m) : Cle k k := fun _ _ => .refl _
theorem Cle.succ {m : Nat} {k k' : Cur (m + 1)} (h : ∀ v, Cle (m := m) (k v) (k' v)) : Cle k k' := fun l σ => by
 cases l with
 | nil => exact .none
 | cons v l => exact h v l σ
theorem Cle.zero {k k' : Cur 0} (h : ∀ σ, Ole (k σ) (k' σ)) : Cle k k' := fun l σ => by
 cases l with
 | nil => exact h σ
 | cons v l => exact .none
theorem Cle.use0 {k k' : Cur 0} {σ : Store} (h : Cle k k') : Ole (k σ) (k' σ) := h [] σ
theorem Cle.use1 {k k' : Cur 1} {a : AV} {σ : Store} (h : Cle k k') : Ole (k a σ) (k' a σ) := h [a] σ
theorem Cle.use2 {k k' : Cur 2} {a b : AV} {σ : Store} (h : Cle k k') : Ole (k a b σ) (k' a b σ) := h [a, b] σ
theorem Cle.use3 {k k' : Cur 3} {a b c : AV} {σ : Store} (h : Cle k k') : Ole (k a b c σ) (k' a b c σ) := h [a, b, c] σ
theorem Cle.use4 {k k' : Cur 4} {a b c d : AV} {σ : Store} (h : Cle k k') : Ole (k a b c d σ) (k' a b c d σ) := h [a, b, c, d] σ
theorem Cle.use5 {k k' : Cur 5} {a b c d e : AV} {σ : Store} (h : Cle k k') : Ole (k a b c d e σ) (k' a b c d e σ) := h [a, b, c, d, e] σ
theorem Cle.use6 {k k' : Cur 6} {a b c d e f : AV} {σ : Store} (h : Cle k k') : Ole (k a b c d e f σ) (k' a b c d e f σ) := h [a, b, c, d, e, f] σ
theorem Cle.use7 {k k' : Cur 7} {a0 a1 a2 a3 a4 a5 a6 : AV} {σ : Store} (h : Cle k k') : Ole (k a0 a1 a2 a3 a4 a5 a6 σ) (k' a0 a1 a2 a3 a4 a5 a6 σ) := h [a0, a1, a2, a3, a4, a5, a6] σ
theorem Cle.use8 {k k' : Cur 8} {a0 a1 a2 a3 a4 a5 a6 a7 : AV} {σ : Store} (h : Cle k k') : Ole (k a0 a1 a2 a3 a4 a5 a6 a7 σ) (k' a0 a1 a2 a3 a4 a5 a6 a7 σ) := h [a0, a1, a2, a3, a4, a5, a6, a7] σ
theorem Cle.use9 {k k' : Cur 9} {a0 a1 a2 a3 a4 a5 a6 a7 a8 : AV} {σ : Store} (h : Cle k k') : Ole (k a0 a1 a2 a3 a4 a5 a6 a7 a8 σ) (k' a0 a1 a2 a3 a4 a5 a6 a7 a8 σ) := h [a0, a1, a2, a3, a4, a5, a6, a7, a8] σ
theorem Cle.use10 {k k' : Cur 10} {a0 a1 a2 a3 a4 a5 a6 a7 a8 a9 : AV} {σ : Store} (h : Cle k k') : Ole (k a0 a1 a2 a3 a4 a5 a6 a7 a8 a9 σ) (k' a0 a1 a2 a3 a4 a5 a6 a7 a8 a9 σ) := h [a0, a1, a2, a3, a4, a5, a6, a7, a8, a9] σ
theorem Cle.use11 {k k' : Cur 11} {a0 a1 a2 a3 a4 a5 a6 a7 a8 a9 a10 : AV} {σ : Store} (h : Cle k k') : Ole (k a0 a1 a2 a3 a4 a5 a6 a7 a8 a9 a10 σ) (k' a0 a1 a2 a3 a4 a5 a6 a7 a8 a9 a10 σ) := h [a0, a1, a2, a3, a4, a5, a6, a7, a8, a9, a10] σ
theorem Cle.use12 {k k' : Cur 12} {a0 a1 a2 a3 a4 a5 a6 a7 a8 a9 a10 a11 : AV} {σ : Store} (h : Cle k k') : Ole (k a0 a1 a2 a3 a4 a5 a6 a7 a8 a9 a10 a11 σ) (k' a0 a1 a2 a3 a4 a5 a6 a7 a8 a9 a10 a11 σ) := h [a0, a1, a2, a3, a4, a5, a6, a7, a8, a9, a10, a11] σ
theorem Cle.use13 {k k' : Cur 13} {a0 a1 a2 a3 a4 a5 a6 a7 a8 a9 a10 a11 a12 : AV} {σ : Store} (h : Cle k k') : Ole (k a0 a1 a2 a3 a4 a5 a6 a7 a8 a9 a10 a11 a12 σ) (k' a0 a1 a2 a3 a4 a5 a6 a7 a8 a9 a10 a11 a12 σ) := h [a0, a1, a2, a3, a4, a5, a6, a7, a8, a9, a10, a11, a12] σ
theorem Cle.use14 {k k' : Cur 14} {a0 a1 a2 a3 a4 a5 a6 a7 a8 a9 a10 a11 a12 a13 : AV} {σ : Store} (h : Cle k k') : Ole (k a0 a1 a2 a3 a4 a5 a6 a7 a8 a9 a10 a11 a12 a13 σ) (k' a0 a1 a2 a3 a4 a5 a6 a7 a8 a9 a10 a11 a12 a13 σ) := h [a0, a1, a2, a3, a4, a5, a6, a7, a8, a9, a10, a11, a12, a13] σ
theorem Ole.jn {m : Nat} {K K' : Cur m} {F F' : Cur m → Res} (h1 : Cle K K') (h2 : ∀ k k', Cle k k' → Ole (F k) (F' k')) : Ole (jn m K F) (jn m K' F') := h2 _ _ h1

theorem gatherK_mono {j : JH} {k k' : Cur j.m} (h : Cle k k') : ∀ env loc σ, Ole (gatherK j k env loc σ) (gatherK j k' env loc σ) := fun env loc σ => by
 unfold gatherK
 split
 ·exact h _ _
 ·exact .none
theorem joinC_mono {j : JH} {W : List Nat} {K K' : Kn} (h : ∀ env loc σ, Ole (K env loc σ) (K' env loc σ)) : Cle (Cur.mk j.m (joinC j W env K)) (Cur.mk j.m (joinC j W env K')) :=
 Cur.mk_le fun _ _ => h _ _ _

/-! #### least fixed points -/
section
variable {A B : Type} {F F' : (A → Option B) → A → Option B}
def MonoF (F : (A → Option B) → A → Option B) : Prop := ∀ g h, (∀ a, Ole (g a) (h a)) → ∀ a, Ole (F g a) (F h a)
theorem Lfp.close {g : A → Option B} {a : A} {r : B} (hg : ∀ a' r', g a' = some r' → Lfp F a' r') (h : F g a = some r) : Lfp F a r :=
 fun S hS => hS g a r (fun a' r' e => hg a' r' e S hS) h
theorem Lfp.inv {a : A} {r : B} (h : Lfp F a r) : ∃ g : A → Option B, (∀ a' r', g a' = some r' → Lfp F a' r') ∧ F g a = some r :=
 (h (fun a r => Lfp F a r ∧ ∃ g : A → Option B, (∀ a' r', g a' = some r' → Lfp F a' r') ∧ F g a = some r)
  (fun g _ _ hg hF => ⟨Lfp.close (fun a' r' e => (hg a' r' e).1) hF, g, fun a' r' e => (hg a' r' e).1, hF⟩)).2
theorem Lfp.unique (hF : MonoF F) {a : A} {r : B} (h : Lfp F a r) : ∀ r', Lfp F a r' → r' = r := by
 refine (h (fun a r => Lfp F a r ∧ ∀ r', Lfp F a r' → r' = r) (fun g a r hg hr => ⟨Lfp.close (fun a' r' e => (hg a' r' e).1) hr, fun r' h' => ?_⟩)).2
 obtain ⟨g', hg', hr'⟩ := h'.inv
 let u : A → Option B := fun a => match g a with
  | some r => some r
  | none => g' a
 have h1 : ∀ a, Ole (g a) (u a) := fun a r e => by simp only [u, e]
 have h2 : ∀ a, Ole (g' a) (u a) := fun a r e => by
  simp only [u]
  cases hga : g a with
  | none => exact e
  | some q => rw [(hg a q hga).2 r (hg' a r e)]
 have e1 := hF g u h1 a r hr
 have e2 := hF g' u h2 a r' hr'
 rw [e1] at e2
 cases e2
 rfl
theorem lfp_iff (hF : MonoF F) {a : A} {r : B} : lfp F a = some r ↔ Lfp F a r := by
 constructor
 ·exact lfp_some
 ·intro h
  unfold lfp
  have hex : ∃ r, Lfp F a r := ⟨r, h⟩
  rw [dif_pos hex, h.unique hF _ hex.choose_spec]
theorem lfp_eq (hF : MonoF F) : lfp F = F (lfp F) := by
 funext a
 apply Option.ext
 intro r
 rw [lfp_iff hF]
 constructor
 ·intro h
  obtain ⟨g, hg, hr⟩ := h.inv
  exact hF g (lfp F) (fun a r e => (lfp_iff hF).2 (hg a r e)) a r hr
 ·intro h
  exact Lfp.close (fun a' r' e => (lfp_iff hF).1 e) h
theorem lfp_mono (hF : MonoF F) (hF' : MonoF F') (h : ∀ g a, Ole (F g a) (F' g a)) (a : A) : Ole (lfp F a) (lfp F' a) := fun r hr => by
 refine lfp_ind (fun a r => lfp F' a = some r) (fun g a r hg hr => ?_) hr
 rw [lfp_eq hF']
 exact hF' g (lfp F') (fun a r e => hg a r e) a r (h g a r hr)
end

def unc (m : Nat) (F : Cur m → Cur m) : (List AV × Store → Option (AV × Store)) → List AV × Store → Option (AV × Store) := fun g p => Cur.app m (F (Cur.mk m fun l σ => g (l, σ))) p.1 p.2
theorem unc_mono {m : Nat} {F : Cur m → Cur m} (hF : Mono F) : MonoF (unc m F) := fun _ _ h p => hF _ _ (Cur.mk_le fun l σ => h (l, σ)) p.1 p.2
theorem lpFix_app {m : Nat} {F : Cur m → Cur m} {l : List AV} {σ : Store} (hl : l.length = m) : Cur.app m (lpFix m F) l σ = lfp (unc m F) (l, σ) := by
 unfold lpFix
 rw [Cur.app_mk _ _ _ _ hl]
 rfl
theorem lpFix_mono {m : Nat} {F F' : Cur m → Cur m} (hF : Mono F) (hF' : Mono F') (h : ∀ x, Cle (F x) (F' x)) : Cle (lpFix m F) (lpFix m F') :=
 Cur.mk_le fun l σ => lfp_mono (unc_mono hF) (unc_mono hF') (fun _ _ => h _ _ _) _
theorem lpFix_eq {m : Nat} {F : Cur m → Cur m} (hF : Mono F) : lpFix m F = F (lpFix m F) := by
 have h1 : ∀ l σ, Cur.app m (lpFix m F) l σ = lfp (unc m F) (l, σ) ∨ l.length ≠ m := fun l σ => by
  by_cases hl : l.length = m
  ·exact .inl (lpFix_app hl)
  ·exact .inr hl
 apply Cur.ext
 intro l σ
 by_cases hl : l.length = m
 ·rw [lpFix_app hl]
  conv => lhs; rw [lfp_eq (unc_mono hF)]
  rfl
 ·cases h : Cur.app m (F (lpFix m F)) l σ with
  | none =>
   unfold lpFix
   exact Cur.app_mk_none hl
  | some r => exact absurd (Cur.app_len h) hl

theorem comp_mono : ∀ {c : IR} {D D' : Ctx} (_ : CtxLe D D') {K K' R R' : Kn} {X X' : List (Nat × Kn)} {env : Env} {loc : Loc} {σ : Store}, (∀ env loc σ, Ole (K env loc σ) (K' env loc σ)) → (∀ id env loc σ, Ole (exitK X id env loc σ) (exitK X' id env loc σ)) →
  (∀ env loc σ, Ole (R env loc σ) (R' env loc σ)) → Ole (comp D c K X R env loc σ) (comp D' c K' X' R' env loc σ) := by
 intro c
 have hX1 : ∀ {id : Nat} {K K' : Kn} {X X' : List (Nat × Kn)}, (∀ env loc σ, Ole (K env loc σ) (K' env loc σ)) → (∀ id env loc σ, Ole (exitK X id env loc σ) (exitK X' id env loc σ)) → ∀ id' env loc σ, Ole (exitK ((id, K) :: X) id' env loc σ) (exitK ((id, K') :: X') id' env loc σ) := by
  intro id K K' X X' h1 h2 id' env loc σ
  simp only [exitK]
  cases id.beq id'
  ·exact h2 _ _ _ _
  ·exact h1 _ _ _
 induction c with
 | skip => intro D D' hD K K' R R' X X' env loc σ hK hX hR; exact hK _ _ _
 | reg rt => intro D D' hD K K' R R' X X' env loc σ hK hX hR; exact rtK_mono hD hK
 | drw dt ps zs last =>
  intro D D' hD K K' R R' X X' env loc σ hK hX hR
  simp only [comp]
  exact Ole.cond (drK_mono hD fun _ _ _ => rtK_mono hD hK) .none
 | seq a b iha ihb => intro D D' hD K K' R R' X X' env loc σ hK hX hR; exact iha hD (fun _ _ _ => ihb hD hK hX hR) hX hR
 | cond c j a b iha ihb =>
  intro D D' hD K K' R R' X X' env loc σ hK hX hR
  cases j with
  | none => exact Ole.val fun _ => Ole.aCase (iha hD hK hX hR) (ihb hD hK hX hR)
  | some j =>
   have hk := gatherK_mono (joinC_mono (j := j) (W := a.writes ++ b.writes) (env := env) hK)
   exact Ole.val fun _ => Ole.aCase (iha hD hk hX hR) (ihb hD hk hX hR)
 | block id j a iha =>
  intro D D' hD K K' R R' X X' env loc σ hK hX hR
  cases j with
  | none => exact iha hD hK (hX1 hK hX) hR
  | some j =>
   have hk := gatherK_mono (joinC_mono (j := j) (W := a.writes) (env := env) hK)
   exact iha hD hk (hX1 hk hX) hR
 | loop j a iha =>
  intro D D' hD K K' R R' X X' env loc σ hK hX hR
  refine gatherK_mono (lpFix_mono ?_ ?_ ?_) _ _ _
  ·intro u v huv
   exact joinC_mono fun _ _ _ => iha (CtxLe.refl D) (gatherK_mono huv) (fun _ _ _ _ => .refl _) (fun _ _ _ => .refl _)
  ·intro u v huv
   exact joinC_mono fun _ _ _ => iha (CtxLe.refl D') (gatherK_mono huv) (fun _ _ _ _ => .refl _) (fun _ _ _ => .refl _)
  ·intro u
   exact joinC_mono fun _ _ _ => iha hD (fun _ _ _ => .refl _) hX hR
 | exit id => intro D D' hD K K' R R' X X' env loc σ hK hX hR; exact hX _ _ _ _
 | ret => intro D D' hD K K' R R' X X' env loc σ hK hX hR; exact hR _ _ _

theorem resK1_mono (hD : CtxLe D D') {r : IRes} {k k' : AV → Res} (h : ∀ v, Ole (k v) (k' v)) : Ole (resK1 D r env loc σ k) (resK1 D' r env loc σ k') := by
 cases r with
 | tmp t => exact Ole.val h
 | cell a agg n =>
  unfold resK1
  exact opK_mono hD fun _ _ _ => Ole.val h
theorem resK_mono (hD : CtxLe D D') : ∀ {rs : List IRes} {k k' : List AV → Res}, (∀ v, Ole (k v) (k' v)) → Ole (resK D rs env loc σ k) (resK D' rs env loc σ k')
 | [], _, _, h => h _
 | _ :: _, _, _, h => resK1_mono hD fun _ => resK_mono hD fun _ => h _
theorem runFn_mono (hD : CtxLe D D') {ifn : IFn} {args : List AV} : Ole (runFn D ifn args σ) (runFn D' ifn args σ) := by
 have hr : ∀ env loc σ, Ole (retK D ifn.res env loc σ) (retK D' ifn.res env loc σ) := fun env loc σ => resK_mono hD fun _ => .refl _
 exact comp_mono hD hr (fun _ _ _ _ => .refl _) hr

abbrev CallF := Nat → List AV → Store → Option (AV × Store)
noncomputable def stepF (fns : Nat → Option IFn) (G : Nat → Option AV) (g : Nat × List AV × Store → Option (AV × Store)) : Nat × List AV × Store → Option (AV × Store) := fun p => match fns p.1 with
 | some ifn => runFn ⟨fun f args σ => g (f, args, σ), G⟩ ifn p.2.1 p.2.2
 | none => none
theorem stepF_mono (fns : Nat → Option IFn) (G : Nat → Option AV) : MonoF (stepF fns G) := by
 intro u v huv p
 unfold stepF
 split
 ·exact runFn_mono (D := ⟨fun f args σ => u (f, args, σ), G⟩) (D' := ⟨fun f args σ => v (f, args, σ), G⟩) ⟨fun f args σ => huv (f, args, σ), rfl⟩
 ·exact .none
/-- What calls come to. -/
noncomputable def den (fns : Nat → Option IFn) (G : Nat → Option AV) : CallF := fun f args σ => lfp (stepF fns G) (f, args, σ)
noncomputable def Ctx.den (fns : Nat → Option IFn) (G : Nat → Option AV) : Ctx := ⟨Go.Asm.den fns G, G⟩
theorem den_eq (fns : Nat → Option IFn) (G : Nat → Option AV) {f : Nat} {ifn : IFn} (h : fns f = some ifn) (args : List AV) (σ : Store) :
  (Ctx.den fns G).call f args σ = runFn (Ctx.den fns G) ifn args σ := by
 show lfp (stepF fns G) (f, args, σ) = _
 rw [lfp_eq (stepF_mono fns G)]
 simp only [stepF, h]
 rfl
theorem den_sound {P : Program} (hm : P.follows .mixedOrders = true) {fns : Nat → Option IFn} (G : Nat → Option AV) (hok : ∀ f ifn, fns f = some ifn → fnOk P f ifn = true) : CallOK P G (Ctx.den fns G).call := by
 intro f args σ r hr
 refine lfp_ind (fun p r => Den P G p.1 p.2.1 p.2.2 r) (fun g p r hg hr => ?_) hr
 unfold stepF at hr
 split at hr
 ·rename_i ifn hf
  exact fn_sound (D := ⟨fun f args σ => g (f, args, σ), G⟩) hm (hok _ ifn hf) (fun f args σ r h => hg (f, args, σ) r h) hr
 ·cases hr
end
end Go.Asm
/- What the machine's operations come to, for proofs about plain functions. -/
namespace Go.Asm
section
variable {k : IntKind} {a b : Int} {σ : Store} {G : Nat → Option AV} {sz : Nat}

@[simp] theorem jn_eq (m : Nat) (K : Cur m) (F : Cur m → Res) : jn m K F = F K := rfl
@[simp] theorem lenV_p (s : Nat) (rows : List AV) : lenV .sl (.pslice s rows) σ = some (.int .i64 rows.length) := rfl
@[simp] theorem lenV_h (s x off n : Nat) : lenV .sl (.hslice s x off n) σ = some (.int .i64 n) := rfl
@[simp] theorem lenV_nil : lenV .sl .nilslice σ = some (.int .i64 0) := rfl
@[simp] theorem lenV_str (s : ByteArray) : lenV .str (.str s) σ = some (.int .i64 s.size) := rfl
@[simp] theorem bin_lss : bin .lss .num (.int k a) (.int k b) = some (.bool (decide (a < b))) := by simp [bin, intBin]
@[simp] theorem bin_leq : bin .leq .num (.int k a) (.int k b) = some (.bool (decide (a ≤ b))) := by simp [bin, intBin]
@[simp] theorem bin_gtr : bin .gtr .num (.int k a) (.int k b) = some (.bool (decide (b < a))) := by simp [bin, intBin]
@[simp] theorem bin_geq : bin .geq .num (.int k a) (.int k b) = some (.bool (decide (b ≤ a))) := by simp [bin, intBin]
@[simp] theorem bin_eql : bin .eql .num (.int k a) (.int k b) = some (.bool (decide (a = b))) := by simp [bin, intBin]
@[simp] theorem bin_neq : bin .neq .num (.int k a) (.int k b) = some (.bool (decide (a ≠ b))) := by simp [bin, intBin]
theorem bin_add (h1 : -9223372036854775808 ≤ a + b) (h2 : a + b ≤ 9223372036854775807) : bin .add .num (.int .i64 a) (.int .i64 b) = some (.int .i64 (a + b)) := by
 have : IntKind.i64.wrap (a + b) = a + b := by rw [IntKind.wrap_i64]; omega
 simp [bin, intBin, this]
theorem bin_sub (h1 : -9223372036854775808 ≤ a - b) (h2 : a - b ≤ 9223372036854775807) : bin .sub .num (.int .i64 a) (.int .i64 b) = some (.int .i64 (a - b)) := by
 have : IntKind.i64.wrap (a - b) = a - b := by rw [IntKind.wrap_i64]; omega
 simp [bin, intBin, this]
@[simp] theorem bin_seq (s t : ByteArray) : bin .eql .num (.str s) (.str t) = some (.bool (decide (s.toList = t.toList))) := by simp [bin, strBin]
@[simp] theorem bin_sne (s t : ByteArray) : bin .neq .num (.str s) (.str t) = some (.bool (decide (s.toList ≠ t.toList))) := by simp [bin, strBin]
@[simp] theorem un_not (b : Bool) : un .not (.bool b) = some (.bool !b) := rfl
@[simp] theorem aCase_bool {ρ : Type} (b : Bool) (t f : Option ρ) : aCase (.bool b) t f = if b = true then t else f := by cases b <;> rfl
@[simp] theorem rd1_p (row : List AV) (off : Nat) : rd1 G (.pptr row off) σ = row[off]? := rfl
@[simp] theorem one_int : one (.int k a) = some (.int k a) := rfl
@[simp] theorem one_bool (b : Bool) : one (.bool b) = some (.bool b) := rfl
@[simp] theorem one_str (s : ByteArray) : one (.str s) = some (.str s) := rfl
@[simp] theorem one_flt (b : Nat) : one (.flt b) = some (.flt b) := rfl
@[simp] theorem one_p (s : Nat) (rows : List AV) : one (.pslice s rows) = some (.pslice s rows) := rfl
@[simp] theorem one_h (s x off n : Nat) : one (.hslice s x off n) = some (.hslice s x off n) := rfl
@[simp] theorem one_nil : one .nilslice = some .nilslice := rfl
@[simp] theorem cells_agg (cs : List AV) : AV.cells (.agg cs) = cs := rfl
theorem idx_p {rows : List AV} {i : Nat} {row : List AV} (h : rows[i]? = some (.agg row)) : idx sz (.pslice sz rows) (.int k i) = some (.pptr row 0) := by
 simp [idx, h]
theorem idx_h {x off n i : Nat} (h : i < n) : idx sz (.hslice sz x off n) (.int k i) = some (.hptr x (off + i * sz)) := by
 simp [idx, h]
theorem rdN_p {row : List AV} {n : Nat} (h : row.length = n) : rdN n (.pptr row 0) σ = some row := by
 subst h; simp [rdN]

/-! ### rows of plain data -/
def encS (l : List ByteArray) : AV := .pslice 1 (l.map fun s => .agg [.str s])
def encI (l : List Int) : AV := .pslice 1 (l.map fun n => .agg [.int .i64 n])
@[simp] theorem len_encS (l : List ByteArray) : lenV .sl (encS l) σ = some (.int .i64 l.length) := by simp [encS]
@[simp] theorem len_encI (l : List Int) : lenV .sl (encI l) σ = some (.int .i64 l.length) := by simp [encI]
theorem idx_encS {l : List ByteArray} {i : Nat} {s : ByteArray} (h : l[i]? = some s) : idx 1 (encS l) (.int k i) = some (.pptr [.str s] 0) := idx_p (by simp [h])
theorem idx_encI {l : List Int} {i : Nat} {n : Int} (h : l[i]? = some n) : idx 1 (encI l) (.int k i) = some (.pptr [.int .i64 n] 0) := idx_p (by simp [h])
@[simp] theorem one_encS (l : List ByteArray) : one (encS l) = some (encS l) := rfl
@[simp] theorem one_encI (l : List Int) : one (encI l) = some (encI l) := rfl

/-! ### views of plain data -/
theorem mapM_same {α β : Type} (f : α → β) (g : β → Option β) (l : List α) (h : ∀ x, g (f x) = some (f x)) : (l.map f).mapM g = some (l.map f) := by
 induction l with
 | nil => rfl
 | cons x l ih => simp [List.mapM_cons, h, ih]
@[simp] theorem view_int (n : Nat) : view σ (n + 1) (.int k a) = some (.int k a) := rfl
@[simp] theorem view_bool (n : Nat) (b : Bool) : view σ (n + 1) (.bool b) = some (.bool b) := rfl
@[simp] theorem view_str (n : Nat) (s : ByteArray) : view σ (n + 1) (.str s) = some (.str s) := rfl
@[simp] theorem view_flt (n : Nat) (b : Nat) : view σ (n + 1) (.flt b) = some (.flt b) := rfl
@[simp] theorem view_encS (n : Nat) (l : List ByteArray) : view σ (n + 3) (encS l) = some (encS l) := by
 simp only [encS, view]
 rw [mapM_same]
 ·rfl
 ·intro x; simp [view]
@[simp] theorem view_encI (n : Nat) (l : List Int) : view σ (n + 3) (encI l) = some (encI l) := by
 simp only [encI, view]
 rw [mapM_same]
 ·rfl
 ·intro x; simp [view]

/-- A part of a tree. -/
structure LPart where
 kind : Int
 fro : Int
 to : Int
 line : Int
 op : Int
 num : Int
 flt : Nat
 text : ByteArray
 names : List ByteArray
 kids : List Int
def encPart (p : LPart) : List AV := [.int .i64 p.kind, .int .i64 p.fro, .int .i64 p.to, .int .i64 p.line, .int .i64 p.op, .int .i64 p.num, .flt p.flt, .str p.text, encS p.names, encI p.kids]
def encParts (l : List LPart) : AV := .pslice 10 (l.map fun p => .agg (encPart p))
def encTree (l : List LPart) : AV := .agg [encParts l]
theorem encPart_len (p : LPart) : (encPart p).length = 10 := rfl
@[simp] theorem view_part (n : Nat) (p : LPart) : view σ (n + 4) (.agg (encPart p)) = some (.agg (encPart p)) := by
 simp only [view, encPart, List.mapM_cons, List.mapM_nil]
 simp [view]
@[simp] theorem view_parts (n : Nat) (l : List LPart) : view σ (n + 5) (encParts l) = some (encParts l) := by
 simp only [encParts]
 rw [view]
 rw [mapM_same]
 ·rfl
 ·intro x; exact view_part n x
@[simp] theorem view_tree (n : Nat) (l : List LPart) : view σ (n + 6) (encTree l) = some (encTree l) := by
 simp only [encTree]
 rw [view]
 simp
@[simp] theorem one_encParts (l : List LPart) : one (encParts l) = some (encParts l) := rfl
@[simp] theorem len_encParts (l : List LPart) : lenV .sl (encParts l) σ = some (.int .i64 l.length) := by simp [encParts]
theorem idx_encParts {l : List LPart} {i : Nat} {p : LPart} (h : l[i]? = some p) : idx 10 (encParts l) (.int k i) = some (.pptr (encPart p) 0) := idx_p (by simp [h])
@[simp] theorem rdN_part (p : LPart) : rdN 10 (.pptr (encPart p) 0) σ = some (encPart p) := rdN_p rfl

theorem callV_eq {D : Ctx} {f : Nat} {args : List AV} {σ : Store} {v : AV} {σ' : Store} (h1 : args.mapM (view σ depth) = some args) (h2 : D.call f args Store.empty = some (v, σ')) (h3 : scal v = true) : callV D f args σ = some v := by
 simp [callV, h1, h2, h3]
theorem callP_eq {D : Ctx} {f : Nat} {args : List AV} {v u : AV} {σ' : Store} (h1 : args.mapM (view Store.empty depth) = some args) (h2 : D.call f args Store.empty = some (v, σ')) (h3 : view σ' depth v = some u) : callP D f args = some u := by
 simp [callP, h1, h2, h3]
end
end Go.Asm
/- Rows in the store: filling them, and their views. -/
namespace Go.Asm

theorem set_eq_setL (cs : List AV) (off : Nat) (vs : List AV) (h : off + vs.length ≤ cs.length) : setL cs off vs = cs.take off ++ vs ++ cs.drop (off + vs.length) := by
 induction vs generalizing cs off with
 | nil => simp [setL]
 | cons v vs ih =>
  simp only [List.length_cons] at h
  rw [setL, ih _ _ (by simp; omega)]
  apply List.ext_getElem?
  intro i
  simp only [List.getElem?_append, List.length_append, List.length_take, List.length_set, List.length_cons, List.getElem?_take, List.getElem?_drop, List.getElem?_set]
  have h1 : min (off + 1) cs.length = off + 1 := by omega
  have h2 : min off cs.length = off := by omega
  rw [h1, h2]
  by_cases c1 : i < off
  ·have : i < off + 1 + vs.length := by omega
   have : i < off + 1 := by omega
   have : i < off + (vs.length + 1) := by omega
   have : ¬ off = i := by omega
   simp [*]
  ·by_cases c2 : i = off
   ·subst c2
    have : i < i + 1 + vs.length := by omega
    have : i < i + (vs.length + 1) := by omega
    have : i < cs.length := by omega
    simp [*]
   ·by_cases c3 : i < off + 1 + vs.length
    ·have e1 : ¬ i < off + 1 := by omega
     have e2 : i < off + (vs.length + 1) := by omega
     have e3 : i - off = (i - (off + 1)) + 1 := by omega
     simp [c1, c3, e1, e2, e3]
    ·have e1 : ¬ i < off + (vs.length + 1) := by omega
     have e2 : off + 1 + vs.length + (i - (off + 1 + vs.length)) = off + (vs.length + 1) + (i - (off + (vs.length + 1))) := by omega
     have e3 : ¬ off = off + 1 + vs.length + (i - (off + 1 + vs.length)) := by omega
     simp only [if_neg c3, if_neg e1, if_neg e3]
     rw [e2]

theorem flatten_len {sz : Nat} : ∀ {rows : List (List AV)}, (∀ r ∈ rows, r.length = sz) → rows.flatten.length = rows.length * sz
 | [], _ => by simp
 | r :: rows, h => by
  rw [List.flatten_cons, List.length_append, h r (by simp), flatten_len fun q hq => h q (by simp [hq])]
  simp [Nat.add_mul]; omega

theorem setL_flatten {sz : Nat} : ∀ {rows : List (List AV)} {i : Nat} {row : List AV}, (∀ r ∈ rows, r.length = sz) → row.length = sz → i < rows.length → setL rows.flatten (i * sz) row = (rows.set i row).flatten
 | [], i, row, _, _, h => by simp at h
 | r :: rows, 0, row, h, hr, _ => by
  have h0 := h r (by simp)
  rw [set_eq_setL _ _ _ (by rw [flatten_len h]; simp [Nat.add_mul]; omega)]
  simp [hr, ← h0]
 | r :: rows, i + 1, row, h, hr, hi => by
  have h0 := h r (by simp)
  have ih := setL_flatten (rows := rows) (i := i) (row := row) (fun q hq => h q (by simp [hq])) hr (by simpa using hi)
  have hl := flatten_len (rows := rows) fun q hq => h q (by simp [hq])
  have hi' : i < rows.length := by simpa using hi
  have hb : (i + 1) * sz ≤ rows.length * sz := Nat.mul_le_mul_right _ hi'
  rw [Nat.add_mul] at hb
  rw [set_eq_setL _ _ _ (by rw [hl, hr]; omega)] at ih
  rw [set_eq_setL _ _ _ (by rw [flatten_len h]; simp [Nat.add_mul]; omega)]
  rw [List.set_cons_succ, List.flatten_cons, List.flatten_cons, ← ih]
  have e1 : (i + 1) * sz = r.length + i * sz := by rw [Nat.add_mul, h0]; omega
  rw [e1, List.take_length_add_append, Nat.add_assoc, List.drop_length_add_append]
  simp

theorem mkRows_eq (z : List AV) (n : Nat) : mkRows z n = (List.replicate n z).flatten := by
 induction n with
 | zero => rfl
 | succ n ih => simp [mkRows, ih, List.replicate_succ]

theorem splitRows_flatten {sz : Nat} : ∀ {rows : List (List AV)}, (∀ r ∈ rows, r.length = sz) → splitRows sz rows.length rows.flatten = rows
 | [], _ => rfl
 | r :: rows, h => by
  have h0 := h r (by simp)
  simp only [List.length_cons, splitRows, List.flatten_cons]
  rw [← h0, List.take_left, List.drop_left, h0, splitRows_flatten fun q hq => h q (by simp [hq])]

theorem mapM_agg {f : AV → Option AV} : ∀ {rows : List (List AV)}, (∀ r ∈ rows, ∀ v ∈ r, f v = some v) → rows.mapM (fun row => (row.mapM f).map AV.agg) = some (rows.map AV.agg)
 | [], _ => rfl
 | r :: rows, h => by
  have hr : r.mapM f = some r := by
   have := h r (by simp)
   clear h
   induction r with
   | nil => rfl
   | cons v r ih => simp [List.mapM_cons, this v (by simp), ih fun u hu => this u (by simp [hu])]
  have ih := mapM_agg (rows := rows) fun q hq => h q (List.mem_cons_of_mem _ hq)
  simp only [List.mapM_cons, hr, Option.map_some, Option.bind_eq_bind, Obs, ih, Option.pure_def, List.map_cons]

section
variable {σ : Store}
theorem rdN_rows {sz x : Nat} {rows : List (List AV)} (hb : σ.blk x = some (.cells rows.flatten)) (hr : ∀ r ∈ rows, r.length = sz) : rdN (rows.length * sz) (.hptr x 0) σ = some rows.flatten := by
 have h1 := flatten_len hr
 simp only [rdN, hb, Nat.zero_add]
 rw [if_pos (by omega), List.drop_zero, ← h1, List.take_length]
/-- A row of the store, seen as immutable data. -/
theorem view_h {sz x d : Nat} {rows : List (List AV)} (hb : σ.blk x = some (.cells rows.flatten)) (hr : ∀ r ∈ rows, r.length = sz) (hv : ∀ r ∈ rows, ∀ v ∈ r, view σ d v = some v) :
  view σ (d + 1) (.hslice sz x 0 rows.length) = some (.pslice sz (rows.map .agg)) := by
 rw [view, rdN_rows hb hr]
 simp only [Obs, splitRows_flatten hr, mapM_agg hv, Option.map_some]
/-- A whole row is written. -/
theorem wr_rows {sz x i : Nat} {rows : List (List AV)} {row : List AV} (hb : σ.blk x = some (.cells rows.flatten)) (hr : ∀ r ∈ rows, r.length = sz) (hrow : row.length = sz) (hi : i < rows.length) :
  wr (.hptr x (i * sz)) row σ = some (σ.upd x (some (.cells (rows.set i row).flatten))) := by
 have h1 := flatten_len hr
 have hb2 : (i + 1) * sz ≤ rows.length * sz := Nat.mul_le_mul_right _ hi
 rw [Nat.add_mul] at hb2
 have : i * sz + row.length ≤ rows.flatten.length := by rw [h1, hrow]; omega
 simp only [wr, hb, if_pos this, setL_flatten hr hrow hi]
theorem take_set {rows : List (List AV)} {i : Nat} {row : List AV} (hi : i < rows.length) : (rows.set i row).take (i + 1) = rows.take i ++ [row] := by
 apply List.ext_getElem?
 intro j
 simp only [List.getElem?_take, List.getElem?_set, List.getElem?_append, List.length_take]
 have : min i rows.length = i := by omega
 rw [this]
 by_cases c1 : j < i
 ·have : j < i + 1 := by omega
  have : ¬ i = j := by omega
  simp [*]
 ·by_cases c2 : j = i
  ·subst c2; simp [hi]
  ·have : ¬ j < i + 1 := by omega
   have e : j - i = (j - i - 1) + 1 := by omega
   simp only [if_neg this, if_neg c1]
   rw [e]; simp
theorem mkSlice_new {z : List AV} {n : Nat} (h : n ≤ 4294967296) : mkSlice z (.int .i64 n) σ = some (.hslice z.length σ.next 0 n, σ.add (.cells (List.replicate n z).flatten)) := by
 have h1 : 0 ≤ (n : Int) ∧ (n : Int) ≤ (maxLen' : Nat) := ⟨by omega, by simp only [maxLen']; omega⟩
 simp only [mkSlice, if_pos h1, mkRows_eq]
 simp
end
end Go.Asm
/- Loops by induction; results up to the store; whole numbers in a block. -/
namespace Go.Asm

/-- A loop, by a measure. -/
theorem lp_ind {m : Nat} {F : Cur m → Cur m} (hF : Mono F) {α : Type} (μ : α → Nat) (args : α → List AV) (st : α → Store) (P : α → Res → Prop)
  (hstep : ∀ a (R : Cur m), (∀ b, μ b < μ a → P b (Cur.app m R (args b) (st b))) → P a (Cur.app m (F R) (args a) (st a))) (a : α) : P a (Cur.app m (lpFix m F) (args a) (st a)) := by
 generalize hn : μ a = n
 induction n using Nat.strongRecOn generalizing a with
 | _ n ih =>
  subst hn
  rw [lpFix_eq hF]
  exact hstep a _ fun b hb => ih _ hb b rfl
/-- A loop that counts up to n. -/
theorem lp_up {F : Cur 1 → Cur 1} (hF : Mono F) (n : Nat) (P : Nat → Store → Res → Prop)
  (hend : ∀ R σ, P n σ (F R (.int .i64 n) σ))
  (hstep : ∀ i, i < n → ∀ R σ, (∀ σ', P (i + 1) σ' (R (.int .i64 ((i : Int) + 1)) σ')) → P i σ (F R (.int .i64 i) σ)) :
  ∀ i, i ≤ n → ∀ σ, P i σ (lpFix 1 F (.int .i64 i) σ) := by
 have H : ∀ (d i : Nat), d = n - i → i ≤ n → ∀ σ, P i σ (lpFix 1 F (.int .i64 i) σ) := by
  intro d
  induction d with
  | zero =>
   intro i hd hi σ
   have : i = n := by omega
   subst this
   rw [lpFix_eq hF]
   exact hend _ σ
  | succ d ih =>
   intro i hd hi σ
   rw [lpFix_eq hF]
   refine hstep i (by omega) _ σ fun σ' => ?_
   have := ih (i + 1) (by omega) (by omega) σ'
   rwa [show (((i + 1 : Nat)) : Int) = (i : Int) + 1 by omega] at this
 exact fun i hi σ => H _ i rfl hi σ
/-- The same where the round's result is a function of the round and the store. -/
theorem lp_upE {F : Cur 1 → Cur 1} (hF : Mono F) (n : Nat) (P : Nat → Store → Res)
  (hend : ∀ R σ, F R (.int .i64 n) σ = P n σ)
  (hstep : ∀ i, i < n → ∀ R σ, (∀ σ', R (.int .i64 ((i : Int) + 1)) σ' = P (i + 1) σ') → F R (.int .i64 i) σ = P i σ) :
  ∀ i, i ≤ n → ∀ σ, lpFix 1 F (.int .i64 i) σ = P i σ := lp_up hF n (fun i σ r => r = P i σ) hend hstep

/-- It comes to the value v, in some store. -/
def Ret (r : Res) (v : AV) : Prop := ∃ σ', r = some (v, σ')
theorem Ret.mk {v : AV} {σ : Store} : Ret (some (v, σ)) v := ⟨σ, rfl⟩
theorem callV_ret {D : Ctx} {f : Nat} {args us : List AV} {σ : Store} {v : AV} (h1 : args.mapM (view σ depth) = some us) (h2 : Ret (D.call f us Store.empty) v) (h3 : scal v = true) : callV D f args σ = some v := by
 obtain ⟨σ', h2⟩ := h2
 simp [callV, h1, h2, h3]

/-! ### whole numbers in a block -/
def cI (l : List Int) : List AV := l.map fun n => .int .i64 n
@[simp] theorem cI_length (l : List Int) : (cI l).length = l.length := by simp [cI]
theorem cI_set (l : List Int) (i : Nat) (n : Int) : cI (l.set i n) = (cI l).set i (.int .i64 n) := by simp [cI, List.map_set]
theorem cI_replicate (n : Nat) (x : Int) : (List.replicate n [AV.int .i64 x]).flatten = cI (List.replicate n x) := by
 induction n with
 | zero => rfl
 | succ n ih => rw [List.replicate_succ, List.flatten_cons, ih]; rfl
theorem rd1_cI {G : Nat → Option AV} {σ : Store} {x i : Nat} {l : List Int} (hb : σ.blk x = some (.cells (cI l))) (hi : i < l.length) : rd1 G (.hptr x i) σ = some (.int .i64 (l.getD i 0)) := by
 simp [rd1, hb, cI, hi]
theorem wr_cI {σ : Store} {x i : Nat} {l : List Int} {n : Int} (hb : σ.blk x = some (.cells (cI l))) (hi : i < l.length) : wr (.hptr x i) [.int .i64 n] σ = some (σ.upd x (some (.cells (cI (l.set i n))))) := by
 have h : i + 1 ≤ l.length := by omega
 simp [wr, hb, h, setL, cI_set]
theorem upd_blk {σ : Store} {x : Nat} {b : Option Blk} : (σ.upd x b).blk x = b := by simp [Store.upd]
theorem upd_ne {σ : Store} {x y : Nat} {b : Option Blk} (h : y ≠ x) : (σ.upd x b).blk y = σ.blk y := by simp [Store.upd, h]
theorem add_blk {σ : Store} {b : Blk} : (σ.add b).blk σ.next = some b := by simp [Store.add]
theorem add_old {σ : Store} {b : Blk} {y : Nat} (h : y ≠ σ.next) : (σ.add b).blk y = σ.blk y := by simp [Store.add, h]
@[simp] theorem upd_next {σ : Store} {x : Nat} {b : Option Blk} : (σ.upd x b).next = σ.next := rfl
@[simp] theorem add_next {σ : Store} {b : Blk} : (σ.add b).next = σ.next + 1 := rfl
theorem idx_h1 {x n : Nat} {i : Int} (h0 : 0 ≤ i) (h : i < n) : idx 1 (.hslice 1 x 0 n) (.int .i64 i) = some (.hptr x i.toNat) := by
 simp [idx, h, h0]
theorem mk_cI {σ : Store} {n : Nat} (h : n ≤ 4294967296) : mkSlice [.int .i64 0] (.int .i64 n) σ = some (.hslice 1 σ.next 0 n, σ.add (.cells (cI (List.replicate n 0)))) := by
 rw [mkSlice_new h, cI_replicate]; rfl
/-- The same for loops that carry one value more, which stays. -/
theorem lp_up2 {F : Cur 2 → Cur 2} (hF : Mono F) (n : Nat) (W : AV) (P : Nat → Store → Res → Prop)
  (hend : ∀ R σ, P n σ (F R (.int .i64 n) W σ))
  (hstep : ∀ i, i < n → ∀ R σ, (∀ σ', P (i + 1) σ' (R (.int .i64 ((i : Int) + 1)) W σ')) → P i σ (F R (.int .i64 i) W σ)) :
  ∀ i, i ≤ n → ∀ σ, P i σ (lpFix 2 F (.int .i64 i) W σ) := by
 have H : ∀ (d i : Nat), d = n - i → i ≤ n → ∀ σ, P i σ (lpFix 2 F (.int .i64 i) W σ) := by
  intro d
  induction d with
  | zero =>
   intro i hd hi σ
   have : i = n := by omega
   subst this
   rw [lpFix_eq hF]
   exact hend _ σ
  | succ d ih =>
   intro i hd hi σ
   rw [lpFix_eq hF]
   refine hstep i (by omega) _ σ fun σ' => ?_
   have := ih (i + 1) (by omega) (by omega) σ'
   rwa [show (((i + 1 : Nat)) : Int) = (i : Int) + 1 by omega] at this
 exact fun i hi σ => H _ i rfl hi σ
/-- A loop that counts down to 0: k rounds are to come where the number is k - 1. -/
theorem lp_dn2 {F : Cur 2 → Cur 2} (hF : Mono F) (W : AV) (P : Nat → Store → Res → Prop)
  (hend : ∀ R σ, P 0 σ (F R (.int .i64 (-1)) W σ))
  (hstep : ∀ k R σ, (∀ σ', P k σ' (R (.int .i64 ((k : Int) - 1)) W σ')) → P (k + 1) σ (F R (.int .i64 k) W σ)) :
  ∀ (k : Nat) σ, P k σ (lpFix 2 F (.int .i64 ((k : Int) - 1)) W σ) := by
 intro k
 induction k with
 | zero =>
  intro σ
  rw [lpFix_eq hF]
  exact hend _ σ
 | succ k ih =>
  intro σ
  rw [lpFix_eq hF]
  rw [show (((k + 1 : Nat)) : Int) - 1 = k by omega]
  exact hstep k _ σ ih
end Go.Asm
/- Maps with whole numbers, and pairs of whole numbers, for keys; ranging over a map. -/
namespace Go.Asm

def mK (f : Int → Option AV) : AV → Option AV
 | .int .i64 n => f n
 | _ => none
def mP (f : Int → Int → Option AV) : AV → Option AV
 | .agg [.int .i64 a, .int .i64 b] => f a b
 | _ => none
abbrev KI : KK := .int .i64
abbrev KP : KK := .agg [.int .i64, .int .i64]
open Classical in
/-- true where it holds, nothing else. -/
noncomputable def tt (p : Prop) : Option AV := if p then some (.bool true) else none
theorem tt_pos {p : Prop} (h : p) : tt p = some (.bool true) := if_pos h
theorem tt_neg {p : Prop} (h : ¬ p) : tt p = none := if_neg h
theorem tt_congr {p q : Prop} (h : p ↔ q) : tt p = tt q := by
 have : p = q := propext h
 rw [this]
def updI (f : Int → Option AV) (n : Int) (v : AV) : Int → Option AV := fun k => if k = n then some v else f k
def updP (f : Int → Int → Option AV) (a b : Int) (v : AV) : Int → Int → Option AV := fun x y => if x = a ∧ y = b then some v else f x y
theorem mupd_K (f : Int → Option AV) (n : Int) (v : AV) : mupd (mK f) (.int .i64 n) v = mK (updI f n v) := by
 funext q
 unfold mupd
 by_cases h : q = .int .i64 n
 ·subst h; simp [mK, updI]
 ·rw [if_neg h]
  unfold mK
  split
  ·rename_i k
   have : k ≠ n := fun e => h (by rw [e])
   simp [updI, this]
  ·rfl
theorem mupd_P (f : Int → Int → Option AV) (a b : Int) (v : AV) : mupd (mP f) (.agg [.int .i64 a, .int .i64 b]) v = mP (updP f a b v) := by
 funext q
 unfold mupd
 by_cases h : q = .agg [.int .i64 a, .int .i64 b]
 ·subst h; simp [mP, updP]
 ·rw [if_neg h]
  unfold mP
  split
  ·rename_i x y
   have : ¬ (x = a ∧ y = b) := fun e => h (by rw [e.1, e.2])
   simp [updP, this]
  ·rfl
section
variable {σ : Store} {x : Nat} {zero v : AV} {n a b : Int}
theorem look1_K {f : Int → Option AV} (h : σ.blk x = some (.map KI (mK f))) : lookup1 KI zero (.hmap x) (.int .i64 n) σ = some ((f n).getD zero) := by
 simp only [lookup1, lookupV, h]
 have e1 : KI.fits (.int .i64 n) = true := rfl
 have e2 : KI.same KI = true := rfl
 rw [if_pos e1, if_pos e2]
 show Option.map _ (match f n with | some v => some (v, true) | none => some (zero, false)) = _
 cases f n <;> rfl
theorem look1_P {f : Int → Int → Option AV} (h : σ.blk x = some (.map KP (mP f))) : lookup1 KP zero (.hmap x) (.agg [.int .i64 a, .int .i64 b]) σ = some ((f a b).getD zero) := by
 simp only [lookup1, lookupV, h]
 have e1 : KP.fits (.agg [.int .i64 a, .int .i64 b]) = true := rfl
 have e2 : KP.same KP = true := rfl
 rw [if_pos e1, if_pos e2]
 show Option.map _ (match f a b with | some v => some (v, true) | none => some (zero, false)) = _
 cases f a b <;> rfl
theorem look2_K {f : Int → Option AV} (h : σ.blk x = some (.map KI (mK f))) : lookup2 KI zero (.hmap x) (.int .i64 n) σ = some (.tuple [(f n).getD zero, .bool (f n).isSome]) := by
 simp only [lookup2, lookupV, h]
 have e1 : KI.fits (.int .i64 n) = true := rfl
 have e2 : KI.same KI = true := rfl
 rw [if_pos e1, if_pos e2]
 show Option.map _ (match f n with | some v => some (v, true) | none => some (zero, false)) = _
 cases f n <;> rfl
theorem look2_P {f : Int → Int → Option AV} (h : σ.blk x = some (.map KP (mP f))) : lookup2 KP zero (.hmap x) (.agg [.int .i64 a, .int .i64 b]) σ = some (.tuple [(f a b).getD zero, .bool (f a b).isSome]) := by
 simp only [lookup2, lookupV, h]
 have e1 : KP.fits (.agg [.int .i64 a, .int .i64 b]) = true := rfl
 have e2 : KP.same KP = true := rfl
 rw [if_pos e1, if_pos e2]
 show Option.map _ (match f a b with | some v => some (v, true) | none => some (zero, false)) = _
 cases f a b <;> rfl
theorem set_K {f : Int → Option AV} (h : σ.blk x = some (.map KI (mK f))) : mapSet KI (.hmap x) (.int .i64 n) v σ = some (σ.upd x (some (.map KI (mK (updI f n v))))) := by
 simp only [mapSet, h, mupd_K]
 rfl
theorem set_P {f : Int → Int → Option AV} (h : σ.blk x = some (.map KP (mP f))) : mapSet KP (.hmap x) (.agg [.int .i64 a, .int .i64 b]) v σ = some (σ.upd x (some (.map KP (mP (updP f a b v))))) := by
 simp only [mapSet, h, mupd_P]
 rfl
end
section
variable {ρ : Type} {τ : Store} {y x n : Nat} {seen : List Nat} {cur : AV} {kk : KK} {f : AV → Option AV} {st : AV → Nat} {K : AV → Store → Option ρ}
theorem nextK_end (h1 : τ.blk y = some (.iter x n seen cur)) (h2 : τ.blk x = some (.ranged kk f st n)) (h3 : ∀ q, f q ≠ none → st q ∈ seen) :
  nextK (.hptr y 0) τ K = K (.tuple [.bool false]) ((τ.upd x (some (.map kk f))).upd y none) := by
 simp only [nextK, h1, h2]
 rw [if_neg (by simp), if_neg]
 rintro ⟨q, hq, hs⟩
 exact hs (h3 q hq)
theorem nextK_step {r : ρ} (h1 : τ.blk y = some (.iter x n seen cur)) (h2 : τ.blk x = some (.ranged kk f st n)) (h3 : ∃ q, f q ≠ none ∧ st q ∉ seen)
  (h4 : ∀ q v, f q = some v → st q ∉ seen → K (.tuple [.bool true, q, v]) (τ.upd y (some (.iter x n (seen ++ [st q]) q))) = some r) : nextK (.hptr y 0) τ K = some r := by
 simp only [nextK, h1, h2]
 rw [if_neg (by simp), if_pos h3]
 obtain ⟨q, hq, hs⟩ := h3
 obtain ⟨v, hv⟩ := Option.ne_none_iff_exists'.1 hq
 exact agree_intro ⟨(q, v), hv, hs⟩ fun p hp => h4 p.1 p.2 hp.1 hp.2
theorem entryV_at {q v : AV} (h1 : τ.blk y = some (.iter x n (seen ++ [st q]) q)) (h2 : τ.blk x = some (.ranged kk f st n)) (h3 : kk.fits q = true) (h4 : f q = some v) : entryV (.hptr y 0) τ = some (.tuple [q, v]) := by
 simp only [entryV, h1, h2]
 rw [if_pos ⟨trivial, h3, by simp⟩, h4]; rfl
/-- Keys in a list have stamps. -/
theorem stamps_exist {ks : List AV} (h : ∀ q, f q ≠ none → q ∈ ks) : ∃ s, Stamps f s := by
 refine ⟨(fun q => ks.findIdx fun a => @decide (a = q) (Classical.propDecidable _), ks.length), fun q hq => ?_, fun q r hq hr he => ?_⟩
 ·exact List.findIdx_lt_length_of_exists ⟨q, h q hq, by simp⟩
 ·have h1 : ks.findIdx (fun a => @decide (a = q) (Classical.propDecidable _)) < ks.length := List.findIdx_lt_length_of_exists ⟨q, h q hq, by simp⟩
  have h2 : ks.findIdx (fun a => @decide (a = r) (Classical.propDecidable _)) < ks.length := List.findIdx_lt_length_of_exists ⟨r, h r hr, by simp⟩
  have e1 := List.findIdx_getElem (w := h1)
  have e2 := List.findIdx_getElem (w := h2)
  have e1 : ks[ks.findIdx fun a => @decide (a = q) (Classical.propDecidable _)] = q := by simpa using e1
  have e2 : ks[ks.findIdx fun a => @decide (a = r) (Classical.propDecidable _)] = r := by simpa using e2
  rw [← e1, ← e2]
  congr 1
theorem rangeK_eq {r : ρ} {ks : List AV} (h1 : τ.blk x = some (.map kk f)) (h2 : ∀ q, f q ≠ none → q ∈ ks)
  (h3 : ∀ st n, Stamps f (st, n) → K (.hptr τ.next 0) ((τ.upd x (some (.ranged kk f st n))).add (.iter x n [] .undef)) = some r) : rangeK (.hmap x) τ K = some r := by
 simp only [rangeK, h1]
 exact agree_intro (stamps_exist h2) fun s hs => h3 s.1 s.2 hs
end
theorem Store.ext' {σ τ : Store} (h1 : σ.next = τ.next) (h2 : ∀ y, σ.blk y = τ.blk y) : σ = τ := by
 cases σ; cases τ
 simp only [Store.mk.injEq] at h1 ⊢
 exact ⟨h1, funext h2⟩
end Go.Asm
/- Shorter signs for the printed programs. -/
namespace Go.Asm
instance (n : Nat) : OfNat Opd n := ⟨.t n⟩
abbrev Cn (n : Int) : Opd := .c (.int .i64 n)
/-- Operations one after another, each with the place of what it gives. -/
def ops (l : List (Nat × ROp)) (r : RT := .done) : RT := l.foldr (fun x r => .op (some x.1) x.2 r) r
abbrev IR.rs (a : RT) (b : IR) : IR := .seq (.reg a) b
end Go.Asm
