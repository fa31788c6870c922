import Derived.Test.YtebmeojmlakkoaaDoorAsm11
set_option linter.all false
/- What each operation comes to: eighth part: maps, fields, conversions. -/
namespace Go.Asm
open Go.MapKept (IsKey sameNow_of_keys run_checkKey run_findKey run_setObj_map run_keyThatStays)
def lkv (r : Option (Nat × Value)) (z : Value) : Value :=
  match r with
  | some (_, v) => v
  | none => z

section
variable {ρ : Type} {P : Program} {Z : Base} {N : Nat} {w : World} {G : Gh} {lm : Nat → Option Nat} {env : Env} {loc : Loc} {σ : Store} {a : Act}
  {k : Env → Loc → Store → Option ρ} {x : ρ} {K : Act → World → Prop} {Q : Exit → Act → World → Prop} {o : Oper} {D : Ctx}

/-- Kinds of keys that are one cell. -/
def kkDesc : KK → Option TypeDesc
  | .int k => some (.int k)
  | .str => some .string
  | _ => none
theorem key_fits {kk : KK} {d : TypeDesc} (hk : kkDesc kk = some d) {v : AV} (hf : kk.fits v = true) {h : Array Obj} {c : Value} (r : VRel h G v c) :
    IsKey d c ∧ ∀ {v' : AV} {h' : Array Obj} {G' : Gh} {c' : Value}, kk.fits v' = true → VRel h' G' v' c' → (keyEq v v' = true ↔ c = c') := by
  cases kk with
  | int kd =>
    cases hk
    have hf' : KK.fits1 (.int kd) v = true := by cases v <;> simp_all [KK.fits, KK.fits1]
    obtain ⟨n, rfl⟩ := fits1_int hf'
    have := r.int_inv
    subst this
    refine ⟨rfl, fun {v'} {h'} {G'} {c'} hf2 r2 => ?_⟩
    have hf2' : KK.fits1 (.int kd) v' = true := by cases v' <;> simp_all [KK.fits, KK.fits1]
    obtain ⟨m, rfl⟩ := fits1_int hf2'
    have := r2.int_inv
    subst this
    simp [keyEq, keyEq1]
  | str =>
    cases hk
    have hf' : KK.fits1 .str v = true := by cases v <;> simp_all [KK.fits, KK.fits1]
    obtain ⟨n, rfl⟩ := fits1_str hf'
    have := r.str_inv
    subst this
    refine ⟨trivial, fun {v'} {h'} {G'} {c'} hf2 r2 => ?_⟩
    have hf2' : KK.fits1 .str v' = true := by cases v' <;> simp_all [KK.fits, KK.fits1]
    obtain ⟨m, rfl⟩ := fits1_str hf2'
    have := r2.str_inv
    subst this
    simp only [keyEq, keyEq1, decide_eq_true_eq, Value.string.injEq]
    rw [ByteArray.toList_eq, ByteArray.toList_eq]
    obtain ⟨⟨p⟩⟩ := n
    obtain ⟨⟨q⟩⟩ := m
    simp
  | bool => cases hk
  | agg => cases hk

theorem find_keys {kk : KK} {d : TypeDesc} (hk : kkDesc kk = some d) {kv v : AV} (hf : kk.fits kv = true) {h : Array Obj} {kc : Value} (r : VRel h G kv kc) :
    ∀ (ks vs : List AV) (es : List MapEntry) (i : Nat), ks.length = es.length → vs.length = es.length → (∀ (i : Nat) u e, ks[i]? = some u → es[i]? = some e → VRel h G u e.key) → ks.all kk.fits = true →
    (Instr.findNow d kc es i = some none ∧ mget kv ks vs = none ∧ mput kv v ks vs = (ks ++ [kv], vs ++ [v])) ∨
      ∃ j e u, Instr.findNow d kc es i = some (some (i + j, e.val)) ∧ es[j]? = some e ∧ e.key = kc ∧ vs[j]? = some u ∧ mget kv ks vs = some u ∧ mput kv v ks vs = (ks, vs.set j v)
  | [], vs, [], i, _, hv, _, _ => by
    have : vs = [] := List.length_eq_zero_iff.1 (by simpa using hv)
    subst this
    exact .inl ⟨rfl, rfl, rfl⟩
  | u :: ks, [], e :: es, i, _, hv, _, _ => by simp at hv
  | u :: ks, q :: vs, e :: es, i, h1, h2, h3, h4 => by
    simp only [List.all_cons, Bool.and_eq_true] at h4
    have hu := h3 0 u e rfl rfl
    obtain ⟨hkc, heq⟩ := key_fits hk hf r
    obtain ⟨hke, _⟩ := key_fits hk h4.1 hu
    have hiff := heq h4.1 hu
    obtain ⟨b, hb, hbi⟩ := sameNow_of_keys hkc hke
    by_cases hc : keyEq kv u = true
    · have hkk := hiff.1 hc
      have : b = true := hbi.2 hkk
      subst this
      exact .inr ⟨0, e, q, by simp [Instr.findNow, hb], rfl, hkk.symm, rfl, by simp [mget, hc], by simp [mput, hc]⟩
    · have hnk : ¬ kc = e.key := fun q => hc (hiff.2 q)
      have : b = false := by cases b; · rfl
                             · exact absurd (hbi.1 rfl) hnk
      subst this
      rcases find_keys hk hf r ks vs es (i + 1) (by simpa using h1) (by simpa using h2) (fun j u e a b => h3 (j + 1) u e (by simpa using a) (by simpa using b)) h4.2 with ⟨a1, a2, a3⟩ | ⟨j, e', u', a1, a2, a3, a4, a5, a6⟩
      · exact .inl ⟨by simp [Instr.findNow, hb, a1], by simp [mget, hc, a2], by rw [mput, if_neg hc, a3]; rfl⟩
      · exact .inr ⟨j + 1, e', u', by simp [Instr.findNow, hb, a1]; omega, by simpa using a2, a3, by simpa using a4, by simp [mget, hc, a5], by rw [mput, if_neg hc, a6]; rfl⟩
  | [], _, _ :: _, _, h1, _, _, _ => by simp at h1
  | _ :: _, _, [], _, h1, _, _, _ => by simp at h1

def mapOk (P : Program) (t : Nat) (kk : KK) : Bool :=
  match P.underlying t with
  | some (.map kt _) => (match P.underlying kt, kk with
    | some .string, .str => true
    | some (.int k), .int k' => decide (k = k')
    | _, _ => false)
  | _ => false
def lookOk (P : Program) (t : Nat) (kk : KK) (zero : AV) : Bool :=
  mapOk P t kk && match P.underlying t with
  | some (.map _ e) => (match P.info? e with
    | some i => (match i.zero with
      | some z => cvOk z zero
      | none => false)
    | none => false)
  | _ => false
theorem mapOk_inv {t : Nat} {kk : KK} (h : mapOk P t kk = true) : ∃ kt e d, P.underlying t = some (.map kt e) ∧ P.underlying kt = some d ∧ kkDesc kk = some d := by
  unfold mapOk at h
  split at h
  · rename_i kt e hu
    split at h
    · rename_i h1; exact ⟨kt, e, _, hu, h1, rfl⟩
    · rename_i h1; simp at h; subst h; exact ⟨kt, e, _, hu, h1, rfl⟩
    · cases h
  · cases h
theorem lookOk_inv {t : Nat} {kk : KK} {zero : AV} (h : lookOk P t kk zero = true) : ∃ kt e d z, P.underlying t = some (.map kt e) ∧ P.underlying kt = some d ∧ kkDesc kk = some d ∧
    (∀ w : World, (zeroValue e).run P w = .ok z w) ∧ ∀ hp G, VRel hp G zero z := by
  simp only [lookOk, Bool.and_eq_true] at h
  obtain ⟨kt, e, d, h1, h2, h3⟩ := mapOk_inv h.1
  have h4 := h.2
  rw [h1] at h4
  simp only at h4
  split at h4
  · rename_i i hi
    split at h4
    · rename_i z hz
      exact ⟨kt, e, d, z, h1, h2, h3, fun w => by simp [zeroValue, typeInfo, hi, hz], fun hp G => cvOk_rel h4⟩
    · cases h4
  · cases h4

theorem run_lookup {t kt e : TypeId} {d : TypeDesc} {z kc mc : Value} {ok : Bool} {es : Array MapEntry} {r : Option (Nat × Value)} (h1 : P.underlying t = some (.map kt e)) (h2 : P.underlying kt = some d) (hz : ∀ w : World, (zeroValue e).run P w = .ok z w)
    (hm : (mc = .map none ∧ es = #[]) ∨ ∃ g clock, mc = .map (some g) ∧ w.heap[g]? = some (.map es clock)) (hk : IsKey d kc) (hf : Instr.findNow d kc es.toList 0 = some r) :
    (Instr.lookup t mc kc ok).run P w = .ok (if ok then .tuple #[lkv r z, .bool r.isSome] else lkv r z) w := by
  have hck : ∀ b, (Instr.checkKey b 10000 kt kc).run P w = .ok () w := fun b => run_checkKey h2 hk b 9999
  have hfk := run_findKey (w := w) h2 hf
  unfold Instr.lookup
  rcases hm with ⟨rfl, rfl⟩ | ⟨g, clock, rfl, hg⟩
  · cases r with
    | none => simp only [Sem.run_bind, run_underlying h1, Result.andThen_ok, Sem.run_pure, hck, hfk, hz]; rfl
    | some p => obtain ⟨i, v⟩ := p; simp only [Sem.run_bind, run_underlying h1, Result.andThen_ok, Sem.run_pure, hck, hfk]; rfl
  · cases r with
    | none => simp only [Sem.run_bind, run_underlying h1, Result.andThen_ok, Sem.run_pure, run_getObj_map w g es clock hg, hck, hfk, hz]; rfl
    | some p => obtain ⟨i, v⟩ := p; simp only [Sem.run_bind, run_underlying h1, Result.andThen_ok, Sem.run_pure, run_getObj_map w g es clock hg, hck, hfk]; rfl

theorem lookL {kk : KK} {d : TypeDesc} (hk : kkDesc kk = some d) {zero kv : AV} {z kc : Value} (hz : VRel w.heap G zero z) (hf : kk.fits kv = true) (r : VRel w.heap G kv kc) {ks vs : List AV} {es : Array MapEntry}
    (h1 : ks.length = es.size) (h2 : vs.length = es.size) (h3 : ∀ (i : Nat) k e, ks[i]? = some k → es[i]? = some e → VRel w.heap G k e.key) (h4 : ∀ (i : Nat) v e, vs[i]? = some v → es[i]? = some e → VRel w.heap G v e.val)
    {u : AV} {b : Bool} (h : lookupL kk zero kv ks vs = some (u, b)) :
    ∃ q, Instr.findNow d kc es.toList 0 = some q ∧ b = q.isSome ∧ VRel w.heap G u (lkv q z) := by
  unfold lookupL at h
  split at h
  · rename_i hall
    rcases find_keys (v := .undef) hk hf r ks vs es.toList 0 (by simpa using h1) (by simpa using h2) (fun i u e a b => h3 i u e a (by simpa using b)) hall with ⟨a1, a2, _⟩ | ⟨j, e', u', a1, a2, a3, a4, a5, _⟩
    · rw [a2] at h; cases h
      exact ⟨_, a1, rfl, hz⟩
    · rw [a5] at h; cases h
      exact ⟨_, a1, rfl, h4 j _ e' a4 (by simpa using a2)⟩
  · cases h

theorem run_lookV (H : HI Z w G lm loc σ) {t : Nat} {kk : KK} {zero m kv u : AV} {b ok : Bool} (hl : lookOk P t kk zero = true) (h : lookupV kk zero m kv σ = some (u, b)) {mc kc : Value} (hm : VRel w.heap G m mc) (r : VRel w.heap G kv kc) :
    ∃ c, (Instr.lookup t mc kc ok).run P w = .ok (if ok then .tuple #[c, .bool b] else c) w ∧ VRel w.heap G u c := by
  obtain ⟨kt, e, d, z, h1, h2, h3, h4, h5⟩ := lookOk_inv hl
  unfold lookupV at h
  split at h
  · rename_i hf
    obtain ⟨hik, _⟩ := key_fits h3 hf r
    have nilc : ∀ {u b}, lookupL kk zero kv [] [] = some (u, b) → mc = .map none → ∃ c, (Instr.lookup t mc kc ok).run P w = .ok (if ok then .tuple #[c, .bool b] else c) w ∧ VRel w.heap G u c := by
      intro u b h hmc
      obtain ⟨q, q1, rfl, q3⟩ := lookL h3 (h5 _ _) hf r (es := #[]) rfl rfl (fun i k e h => by simp at h) (fun i k e h => by simp at h) h
      exact ⟨_, run_lookup h1 h2 h4 (.inl ⟨hmc, rfl⟩) hik q1, q3⟩
    split at h
    · cases h
      cases hm
      exact nilc rfl rfl
    · cases hm with
      | pmnil => exact nilc h rfl
      | pmap hfz he l1 l2 r1 r2 =>
        obtain ⟨q, q1, rfl, q3⟩ := lookL h3 (h5 _ _) hf r l1 l2 r1 r2 h
        exact ⟨_, run_lookup h1 h2 h4 (.inr ⟨_, _, rfl, he⟩) hik q1, q3⟩
    · split at h
      · rename_i ks vs hb
        cases hm with
        | hmap hg =>
          obtain ⟨g', m', q1, _, es, clock, he, l1, l2, r1, r2⟩ := H.blk _ _ hb
          rw [hg] at q1; cases q1
          obtain ⟨q, q1, rfl, q3⟩ := lookL h3 (h5 _ _) hf r l1 l2 r1 r2 h
          exact ⟨_, run_lookup h1 h2 h4 (.inr ⟨_, _, rfl, he⟩) hik q1, q3⟩
      · cases h
    · cases h
  · cases h

theorem sound_look1 (S : St Z N w G lm env loc σ a) (C : Cont Z N k x G lm w a o.dst.toList K) (hd : ∀ t, o.dst = some t → t < N) {t : Nat} {kk : KK} {zero : AV} {y z : Operand} {y0 z0 : Opd}
    (ho : o.op = .lookup t y z false) (hy : opdOk y y0 = true) (hz : opdOk z z0 = true) (hl : lookOk P t kk zero = true)
    (h : opK D o.dst (.look1 kk zero y0 z0) env loc σ k = some x) : o.wp P a w K Q := by
  obtain ⟨m, hm, ha⟩ := val_some h
  clear h
  obtain ⟨v, hv, hb⟩ := val_some ha
  clear ha
  obtain ⟨r, hr, h⟩ := bind_some hb
  clear hb
  unfold lookup1 at hr
  rw [Option.map_eq_some_iff] at hr
  obtain ⟨⟨u, b⟩, hr, rfl⟩ := hr
  obtain ⟨c, hrun, hc⟩ := run_lookV (ok := false) S.hi hl hr (val_rel S hy hm) (val_rel S hz hv)
  refine op_val (e := .v u) (c := c) S C hd ?_ hc h
  unfold execOp
  simp only [ho, Sem.run_bind, hrun, Result.andThen_ok, Sem.run_pure]; rfl

theorem sound_look2 (S : St Z N w G lm env loc σ a) (C : Cont Z N k x G lm w a o.dst.toList K) (hd : ∀ t, o.dst = some t → t < N) {t : Nat} {kk : KK} {zero : AV} {y z : Operand} {y0 z0 : Opd}
    (ho : o.op = .lookup t y z true) (hy : opdOk y y0 = true) (hz : opdOk z z0 = true) (hl : lookOk P t kk zero = true)
    (h : opK D o.dst (.look2 kk zero y0 z0) env loc σ k = some x) : o.wp P a w K Q := by
  obtain ⟨m, hm, ha⟩ := val_some h
  clear h
  obtain ⟨v, hv, hb⟩ := val_some ha
  clear ha
  obtain ⟨r, hr, h⟩ := bind_some hb
  clear hb
  unfold lookup2 at hr
  rw [Option.map_eq_some_iff] at hr
  obtain ⟨⟨u, b⟩, hr, rfl⟩ := hr
  obtain ⟨c, hrun, hc⟩ := run_lookV (ok := true) S.hi hl hr (val_rel S hy hm) (val_rel S hz hv)
  refine op_val (e := .v (.tuple [u, .bool b])) (c := .tuple #[c, .bool b]) S C hd ?_ (VRels.tuple (l := [c, .bool b]) (.cons hc (.cons .bool .nil))) h
  unfold execOp
  simp only [ho, Sem.run_bind, hrun, Result.andThen_ok, Sem.run_pure]; rfl

theorem modify_at {es : Array MapEntry} {j : Nat} {f : MapEntry → MapEntry} (i : Nat) : (es.modify j f)[i]? = if j = i then (es[i]?).map f else es[i]? := by
  rw [Array.getElem?_modify]

theorem sound_mapSet (S : St Z N w G lm env loc σ a) (C : Cont Z N k x G lm w a o.dst.toList K) (hd : ∀ t, o.dst = some t → t < N) {t : Nat} {kk : KK} {y z u : Operand} {y0 z0 u0 : Opd}
    (ho : o.op = .mapUpdate t y z u ∨ o.op = .insert t y z u) (hy : opdOk y y0 = true) (hz : opdOk z z0 = true) (hu : opdOk u u0 = true) (hl : mapOk P t kk = true)
    (h : opK D o.dst (.mapSet kk y0 z0 u0) env loc σ k = some x) : o.wp P a w K Q := by
  obtain ⟨m, hm, ha⟩ := val_some h
  clear h
  obtain ⟨kv, hk, hb⟩ := val_some ha
  clear ha
  obtain ⟨v, hv, hc⟩ := val_some hb
  clear hb
  obtain ⟨σ', hr, h⟩ := bind_some hc
  clear hc
  have rm := val_rel S hy hm
  have rk := val_rel S hz hk
  have rv := val_rel S hu hv
  obtain ⟨kt, e, d, h1, h2, h3⟩ := mapOk_inv hl
  unfold mapSet at hr
  split at hr
  · rename_i hf
    obtain ⟨hik, _⟩ := key_fits h3 hf rk
    split at hr
    · split at hr
      · rename_i b ks vs hb
        split at hr
        · rename_i hall
          cases hr
          generalize hyv : a.eval y = mc at rm
          cases rm with
          | hmap hg =>
          rename_i g gm
          obtain ⟨g', m', q1, hfz, es, clock, he, l1, l2, r1, r2⟩ := S.hi.blk _ _ hb
          rw [hg] at q1; cases q1
          have hck : (Instr.checkKey false 10000 kt (a.eval z)).run P w = .ok () w := run_checkKey h2 hik _ 9999
          have hlt : g < w.heap.size := lt_of_get he
          have fin : ∀ (es' : Array MapEntry) (clock' : Nat) (ks' vs' : List AV), mput kv v ks vs = (ks', vs') → ks'.length = es'.size → vs'.length = es'.size →
              (∀ (i : Nat) k e, ks'[i]? = some k → es'[i]? = some e → VRel w.heap G k e.key) → (∀ (i : Nat) v e, vs'[i]? = some v → es'[i]? = some e → VRel w.heap G v e.val) →
              (Instr.mapUpdate t (.map (some g)) (a.eval z) (a.eval u)).run P w = .ok () { w with heap := w.heap.setIfInBounds g (.map es' clock') } → o.wp P a w K Q := by
            intro es' clock' ks' vs' hput e1 e2 e3 e4 hrun
            have hupd : Upd w { w with heap := w.heap.setIfInBounds g (.map es' clock') } g (.map es' clock') :=
              ⟨by simp, fun b hb => by simp [Ne.symm hb], by simp [hlt], rfl, rfl, rfl⟩
            obtain ⟨H', le⟩ := S.hi.hstore (b' := .map ks' vs') hb hg hupd (fun le => ⟨es', clock', hupd.at_, e1, e2, fun i k e a b => (e3 i k e a b).mono le, fun i k e a b => (e4 i k e a b).mono le⟩)
            rw [hput] at h
            refine op_done (c := undef) (e := .v (.tuple [])) S C (.inr ⟨?_, rfl⟩) H' le hd undef_rel h
            unfold execOp
            rcases ho with ho | ho <;> simp only [ho, hyv, Sem.run_bind, hrun, Result.andThen_ok, Sem.run_pure]
          rcases find_keys (v := v) h3 hf rk ks vs es.toList 0 (by simpa using l1) (by simpa using l2) (fun i u e a b => r1 i u e a (by simpa using b)) hall with ⟨a1, _, a3⟩ | ⟨j, e', u', a1, a2, a3, a4, _, a6⟩
          · refine fin (es.push { key := a.eval z, val := a.eval u, born := clock }) (clock + 1) _ _ a3 (by simp [l1]) (by simp [l2]) (fun i k e hi he => ?_) (fun i k e hi he => ?_) ?_
            · rw [Array.getElem?_push] at he
              split at he
              · rename_i hi'
                cases he
                rw [List.getElem?_append_right (by omega), hi', l1] at hi
                simp at hi
                subst hi
                exact rk
              · have := (Array.getElem?_eq_some_iff.1 he).1
                rw [List.getElem?_append_left (by omega)] at hi
                exact r1 i k e hi he
            · rw [Array.getElem?_push] at he
              split at he
              · rename_i hi'
                cases he
                rw [List.getElem?_append_right (by omega), hi', l2] at hi
                simp at hi
                subst hi
                exact rv
              · have := (Array.getElem?_eq_some_iff.1 he).1
                rw [List.getElem?_append_left (by omega)] at hi
                exact r2 i k e hi he
            · unfold Instr.mapUpdate
              simp only [Sem.run_bind, run_underlying h1, Result.andThen_ok, run_getObj_map w g es clock he, hck, run_findKey h2 a1, run_setObj_map _ he]
          · have a2' : es[j]? = some e' := by simpa using a2
            refine fin (es.modify j fun e => { e with key := a.eval z, val := a.eval u }) clock _ _ a6 (by simp [l1]) (by simp [l2]) (fun i k e hi he => ?_) (fun i k e hi he => ?_) ?_
            · rw [modify_at] at he
              split at he
              · rename_i hj; subst hj
                rw [a2'] at he
                cases he
                have := r1 j k e' hi a2'
                rw [a3] at this
                exact this
              · exact r1 i k e hi he
            · rw [modify_at] at he
              rw [List.getElem?_set] at hi
              by_cases hj : j = i
              · subst hj
                rw [if_pos rfl] at hi he
                rw [a2'] at he
                cases he
                split at hi
                · cases hi; exact rv
                · cases hi
              · rw [if_neg hj] at hi he
                exact r2 i k e hi he
            · have hst : (Instr.keyThatStays (((es[j]?).map (·.key)).getD (a.eval z)) (a.eval z)).run P w = .ok (a.eval z) w := by
                rw [a2']
                simp only [Option.map_some, Option.getD_some, a3]
                exact run_keyThatStays hik
              unfold Instr.mapUpdate
              have hfk := run_findKey (w := w) h2 a1
              rw [Nat.zero_add] at hfk
              simp only [Sem.run_bind, run_underlying h1, Result.andThen_ok, run_getObj_map w g es clock he, hck, hfk, hst, run_setObj_map _ he]
        · cases hr
      · cases hr
    · cases hr
  · cases hr
end
end Go.Asm
