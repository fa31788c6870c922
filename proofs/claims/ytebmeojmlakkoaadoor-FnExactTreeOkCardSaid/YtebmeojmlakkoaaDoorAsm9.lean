import Derived.Test.YtebmeojmlakkoaaDoorAsm8
import Derived.Laws.MakeOwn
import Derived.MapKept
set_option linter.all false
/- What each operation comes to: fifth part: slices. -/
namespace Go.Asm

section
variable {ρ : Type} {P : Program} {Z : Base} {N : Nat} {w : World} {G : Gh} {lm : Nat → Option Nat} {env : Env} {loc : Loc} {σ : Store} {a : Act}
  {k : Env → Loc → Store → Option ρ} {x : ρ} {K : Act → World → Prop} {Q : Exit → Act → World → Prop} {o : Oper} {D : Ctx}

def lenOk (P : Program) (t : Nat) (kd : LK) : Bool :=
  match P.underlying t, kd with
  | some .string, .str => true
  | some (.slice _), .sl => true
  | some (.map _ _), .mp => true
  | _, _ => false

theorem run_len {t : Nat} {y : Operand} (ho : o.op = .call { callee := .builtin .len, args := #[y], argTypes := #[t] }) {c : Value}
    (h : (Builtin.len_ #[t] o.type #[a.eval y]).run P w = .ok c w) : (execOp a.eval o).run P w = .ok (.value c) w := by
  unfold execOp
  simp only [ho, resolve, invoke, builtin, Sem.run_bind, Sem.run_pure, Result.andThen_ok, List.map_toArray, List.map_cons, List.map_nil, h]

theorem run_lenV {t : Nat} {kd : LK} (ht : lenOk P t kd = true) (H : HI Z w G lm loc σ) {v u : AV} (hv : lenV kd v σ = some u) {c : Value} (hc : VRel w.heap G v c) (ty : TypeId) :
    ∃ n : Int, u = i64 n ∧ (Builtin.len_ #[t] ty #[c]).run P w = .ok (.int .i64 n) w := by
  unfold lenOk at ht
  split at ht
  · rename_i hu
    cases v <;> simp only [lenV, reduceCtorEq] at hv
    cases hv
    have := hc.str_inv; subst this
    exact ⟨_, rfl, by simp [Builtin.len_, run_underlying hu, goInt]⟩
  · rename_i e hu
    have fin : ∀ b n cap, (Builtin.len_ #[t] ty #[.slice b n cap]).run P w = .ok (.int .i64 n) w := fun b n cap => by simp [Builtin.len_, run_underlying hu, goInt]
    cases v <;> simp only [lenV, reduceCtorEq] at hv <;> cases hv <;> cases hc <;> exact ⟨_, rfl, fin _ _ _⟩
  · rename_i e hu
    have fin0 : (Builtin.len_ #[t] ty #[.map none]).run P w = .ok (.int .i64 0) w := by simp [Builtin.len_, run_underlying hu, goInt]
    have fin : ∀ (r : Nat) (es : Array MapEntry) (clock : Nat), w.heap[r]? = some (.map es clock) → (Builtin.len_ #[t] ty #[.map (some r)]).run P w = .ok (.int .i64 es.size) w := fun r es clock hr => by
      simp [Builtin.len_, run_underlying hu, goInt, run_getObj_map w r es clock hr]
    cases v <;> simp only [lenV, reduceCtorEq] at hv
    case nilmap => cases hv; cases hc; exact ⟨_, rfl, fin0⟩
    case pmap ks vs =>
      cases hv; cases hc
      · exact ⟨_, rfl, fin0⟩
      · rename_i r es clock hf he h1 h2 _ _
        exact ⟨_, rfl, by rw [fin r es clock he, h1]⟩
    case hmap b =>
      split at hv
      · rename_i ks vs hb
        cases hv; cases hc
        rename_i g m hg
        obtain ⟨g', m', h1, _, h3⟩ := H.blk _ _ hb
        rw [hg] at h1; cases h1
        obtain ⟨es, clock, h4, h5, _⟩ := h3
        exact ⟨_, rfl, by rw [fin g es clock h4, h5]⟩
      · cases hv
  · cases ht

theorem sound_len (S : St Z N w G lm env loc σ a) (C : Cont Z N k x G lm w a o.dst.toList K) (hd : ∀ t, o.dst = some t → t < N) {t : Nat} {y : Operand} {y0 : Opd} {kd : LK}
    (ho : o.op = .call { callee := .builtin .len, args := #[y], argTypes := #[t] }) (hy : opdOk y y0 = true) (ht : lenOk P t kd = true)
    (h : opK D o.dst (.len kd y0) env loc σ k = some x) : o.wp P a w K Q := by
  obtain ⟨v, hv, h⟩ := val_some h
  obtain ⟨u, hu, h⟩ := bind_some h
  obtain ⟨n, rfl, hr⟩ := run_lenV ht S.hi hu (val_rel S hy hv) o.type
  exact op_val (e := .v (i64 n)) S C hd (run_len ho hr) .int h

/-! #### slicing -/
def opdOOk : Option Operand → Option Opd → Bool
  | none, none => true
  | some o, some x => opdOk o x
  | _, _ => false
theorem valO_some (S : St Z N w G lm env loc σ a) {lo : Option Operand} {lo0 : Option Opd} (hl : opdOOk lo lo0 = true) {k : Option AV → Option ρ} {r : ρ} (h : valO env lo0 k = some r) :
    ∃ v, k v = some r ∧ ∀ d n, bound v d = some n → (lo = none ∧ n = d) ∨ ∃ y kd, lo = some y ∧ a.eval y = .int kd n := by
  cases lo0 with
  | none => cases lo with
    | none => exact ⟨none, h, fun d n hb => .inl ⟨rfl, by simpa [bound, eq_comm] using hb⟩⟩
    | some => simp [opdOOk] at hl
  | some x => cases lo with
    | none => simp [opdOOk] at hl
    | some y =>
      obtain ⟨v, hv, h⟩ := val_some h
      refine ⟨some v, h, fun d n hb => .inr ?_⟩
      have hr := val_rel S hl hv
      cases v <;> simp only [bound, reduceCtorEq] at hb
      cases hb
      exact ⟨y, _, rfl, hr.int_inv⟩
theorem run_bounds {isS : Bool} {len cap : Nat} {lo hi : Option Operand} {l h : Int} (hlo : (lo = none ∧ l = 0) ∨ ∃ y kd, lo = some y ∧ a.eval y = .int kd l)
    (hhi : (hi = none ∧ h = len) ∨ ∃ y kd, hi = some y ∧ a.eval y = .int kd h) (h0 : 0 ≤ l) (h1 : l ≤ h) (h2 : h ≤ cap) :
    (Instr.sliceBounds isS len cap (lo.map a.eval) (hi.map a.eval) none).run P w = .ok (l.toNat, h.toNat, cap) w := by
  have hh : 0 ≤ h := by omega
  have hb : ∀ kd, (Instr.sliceBound (.int kd h) cap (if isS then .sliceAcap else .sliceAlen)).run P w = .ok h.toNat w := fun kd => by simp [Instr.sliceBound, asIntOf, hh, h2]
  have hb2 : ∀ kd code, (Instr.sliceBound (.int kd l) h.toNat code).run P w = .ok l.toNat w := fun kd code => by
    have h3 : l ≤ h.toNat := by omega
    simp only [Instr.sliceBound, asIntOf, Sem.run_bind, Sem.run_pure, Result.andThen_ok, if_pos (show 0 ≤ l ∧ l ≤ (h.toNat : Int) from ⟨h0, h3⟩)]
  unfold Instr.sliceBounds
  rcases hhi with ⟨rfl, rfl⟩ | ⟨y, kd, rfl, hy⟩
  · have ht : ((len : Int)).toNat = len := by omega
    rw [ht] at hb2 ⊢
    rcases hlo with ⟨rfl, rfl⟩ | ⟨z, kd', rfl, hz⟩
    · simp
    · simp only [Option.map_some, Option.map_none, hz, Sem.run_bind, Sem.run_pure, Result.andThen_ok, hb2]
  · rcases hlo with ⟨rfl, rfl⟩ | ⟨z, kd', rfl, hz⟩
    · simp only [Option.map_some, Option.map_none, hy, Sem.run_bind, Sem.run_pure, Result.andThen_ok, hb]; rfl
    · simp only [Option.map_some, Option.map_none, hy, hz, Sem.run_bind, Sem.run_pure, Result.andThen_ok, hb, hb2]

theorem run_sliceOp {t sz e : Nat} {y : Operand} {lo hi : Option Operand} {b : Option Addr} {len cap : Nat} {l h : Int} (ho : o.op = .slice t y lo hi none) (hu : P.underlying t = some (.slice e)) (hsz : szOk P e sz = true)
    (hy : a.eval y = .slice b len cap) (hlo : (lo = none ∧ l = 0) ∨ ∃ y kd, lo = some y ∧ a.eval y = .int kd l)
    (hhi : (hi = none ∧ h = len) ∨ ∃ y kd, hi = some y ∧ a.eval y = .int kd h) (h0 : 0 ≤ l) (h1 : l ≤ h) (h2 : h ≤ cap) :
    (execOp a.eval o).run P w = .ok (.value (.slice (if cap = l.toNat then b else b.map (·.add (l.toNat * sz))) (h.toNat - l.toNat) (cap - l.toNat))) w := by
  unfold execOp
  have hb := run_bounds (P := P) (w := w) (isS := true) hlo hhi h0 h1 h2
  have key : (Instr.sliceAt t (.slice b len cap) (lo.map a.eval) (hi.map a.eval) none).run P w = .ok (.slice (if cap = l.toNat then b else b.map (·.add (l.toNat * sz))) (h.toNat - l.toNat) (cap - l.toNat)) w := by
    simp only [Instr.sliceAt, Instr.slice, Sem.run_bind, run_underlying hu, Result.andThen_ok, hb, run_sizeOf hsz, Sem.run_pure]
  simp only [ho, hy, Option.map_none, Sem.run_bind, key, Result.andThen_ok, Sem.run_pure]


/-- What `s[l:h]` of a row of immutable data comes to. -/
theorem VRel.slice_p {h : Array Obj} {sz : Nat} {rows : List AV} {b : Option Addr} {n cap : Nat} (r : VRel h G (.pslice sz rows) (.slice b n cap)) {l m : Nat} (h1 : l ≤ m) (h2 : m ≤ rows.length) :
    n = rows.length ∧ m ≤ cap ∧ VRel h G (.pslice sz ((rows.take m).drop l)) (.slice (if cap = l then b else b.map (·.add (l * sz))) (m - l) (cap - l)) := by
  cases r with
  | pnil =>
    simp only [List.length_nil] at h2
    have hm : m = 0 := by omega
    subst hm
    have hl : l = 0 := by omega
    subst hl
    exact ⟨rfl, Nat.le_refl _, by simpa using VRel.pnil⟩
  | pslice ad cap cs hf hcap hrow hc hv =>
    have key : ∀ ad' : Addr, ((rows.take m).drop l).length = m - l := fun _ => by simp; omega
    refine ⟨rfl, by omega, ?_⟩
    have hn : m - l = ((rows.take m).drop l).length := by simp; omega
    have hb : (if cap = l then some ad else (some ad).map (·.add (l * sz))) = some (if cap = l then ad else ad.add (l * sz)) := by split <;> rfl
    rw [hb, hn]
    have get : ∀ (i : Nat) (q : AV), ((rows.take m).drop l)[i]? = some q → rows[l + i]? = some q ∧ l + i < m := by
      intro i q hq
      rw [List.getElem?_drop, List.getElem?_take] at hq
      split at hq
      · exact ⟨hq, by assumption⟩
      · cases hq
    have hne : ∀ (i : Nat) (q : AV), ((rows.take m).drop l)[i]? = some q → cap ≠ l := fun i q hq => by have := (get i q hq).2; omega
    refine .pslice _ _ (fun i j => cs (l + i) j) (fun hl => ?_) (by rw [← hn]; omega) (fun i q hq => hrow _ q (get i q hq).1) (fun i row j v hi hj => ?_) (fun i row j v hi hj => hv _ row j v (get i _ hi).1 hj)
    · have hp : 0 < rows.length * sz := by
        rw [← hn] at hl
        rcases Nat.eq_zero_or_pos sz with e | e
        · subst e; simp at hl
        · rcases Nat.eq_zero_or_pos (m - l) with e' | e'
          · rw [e'] at hl; simp at hl
          · exact Nat.mul_pos (by omega) e
      split
      · exact hf hp
      · rw [add_block]; exact hf hp
    · rw [if_neg (hne i _ hi), add_add]
      have := hc _ row j v (get i _ hi).1 hj
      rwa [Nat.add_mul, Nat.add_assoc] at this

/-- No element has any size. -/
theorem VRel.resize {h : Array Obj} {s sz : Nat} {rows : List AV} {c : Value} (r : VRel h G (.pslice s rows) c) (e : s = sz ∨ rows.length = 0) : VRel h G (.pslice sz rows) c := by
  rcases e with rfl | e
  · exact r
  · have : rows = [] := List.length_eq_zero_iff.1 e
    subst this
    cases r with
    | pnil => exact .pnil
    | pslice ad cap cs hf hcap hrow hc hv => exact .pslice (rows := []) ad cap cs (fun hl => by simp at hl) hcap (fun i r hi => by simp at hi) (fun i r j v hi => by simp at hi) (fun i r j v hi => by simp at hi)

theorem sound_slice (S : St Z N w G lm env loc σ a) (C : Cont Z N k x G lm w a o.dst.toList K) (hd : ∀ t, o.dst = some t → t < N) {t sz : Nat} {y : Operand} {y0 : Opd} {lo hi : Option Operand} {lo0 hi0 : Option Opd}
    (ho : o.op = .slice t y lo hi none) (hy : opdOk y y0 = true) (hlo : opdOOk lo lo0 = true) (hhi : opdOOk hi hi0 = true) (ht : sliceOk P t sz = true)
    (h : opK D o.dst (.slice sz y0 lo0 hi0) env loc σ k = some x) : o.wp P a w K Q := by
  obtain ⟨v, hv, ha⟩ := val_some h
  clear h
  obtain ⟨lo1, hb, hl1⟩ := valO_some S hlo ha
  clear ha
  obtain ⟨hi1, hc, hh1⟩ := valO_some S hhi hb
  clear hb
  obtain ⟨u, hu, h⟩ := bind_some hc
  clear hc
  obtain ⟨e, hue, hsz⟩ := sliceOk_inv ht
  have hr := val_rel S hy hv
  unfold sliceV at hu
  split at hu
  · obtain ⟨l, hl, hu1⟩ := bind_some hu
    clear hu
    obtain ⟨m, hm, hu⟩ := bind_some hu1
    clear hu1
    split at hu
    · rename_i hc
      obtain ⟨hsz', h0, h1, h2⟩ := hc
      cases hu
      have hr := hr.resize hsz'
      have hex : ∃ b n cap, a.eval y = .slice b n cap := by
        cases hr' : a.eval y <;> rw [hr'] at hr <;> cases hr <;> exact ⟨_, _, _, rfl⟩
      obtain ⟨b, n, cap, hyv⟩ := hex
      rw [hyv] at hr
      obtain ⟨e1, e2, e3⟩ := hr.slice_p (l := l.toNat) (m := m.toNat) (by omega) (by omega)
      subst e1
      exact op_val (e := .v _) S C hd (run_sliceOp ho hue hsz hyv (hl1 _ _ hl) (hh1 _ _ hm) h0 h1 (by omega)) e3 h
    · cases hu
  · rename_i s b off len
    obtain ⟨l, hl, hu1⟩ := bind_some hu
    clear hu
    obtain ⟨m, hm, hu⟩ := bind_some hu1
    clear hu1
    split at hu
    · rename_i hc
      obtain ⟨rfl, h0, h1, h2⟩ := hc
      generalize hyv : a.eval y = c at hr
      cases hr with
      | hslice hg hlc hcap =>
        rename_i g gm cap
        have hrun := run_sliceOp ho hue hsz hyv (hl1 _ _ hl) (hh1 _ _ hm) h0 h1 (by omega) (P := P) (w := w)
        refine op_val (e := .v u) S C hd hrun ?_ h
        split at hu
        · rename_i hl0
          cases hu
          subst hl0
          have e1 : (if cap = (0 : Int).toNat then some (⟨g, off, none⟩ : Addr) else (some (⟨g, off, none⟩ : Addr)).map (·.add ((0 : Int).toNat * s))) = some ⟨g, off, none⟩ := by
            split
            · rfl
            · simp [Addr.add]
          rw [e1]
          exact .hslice hg (by simp; omega) (by simpa using hcap)
        · split at hu
          · rename_i hl0 hlm
            cases hu
            subst hlm
            rw [Nat.sub_self]
            have e1 : (if cap = l.toNat then some (⟨g, off, none⟩ : Addr) else (some (⟨g, off, none⟩ : Addr)).map (·.add (l.toNat * s))) = some (if cap = l.toNat then ⟨g, off, none⟩ else (⟨g, off, none⟩ : Addr).add (l.toNat * s)) := by split <;> rfl
            rw [e1]
            exact .pslice (rows := []) _ _ (fun _ _ => undef) (fun hl => by simp at hl) (Nat.zero_le _) (fun i r hi => by simp at hi) (fun i r j v hi => by simp at hi) (fun i r j v hi => by simp at hi)
          · rename_i hl0 hlm
            cases hu
            rw [if_neg (show ¬ cap = l.toNat by omega)]
            simp only [Option.map_some, add_mk]
            refine .hslice hg (by omega) ?_
            have e2 : cap * s = l.toNat * s + (cap - l.toNat) * s := by rw [← Nat.add_mul]; congr 1; omega
            omega
    · cases hu
  · obtain ⟨l, hl, hu1⟩ := bind_some hu
    clear hu
    obtain ⟨m, hm, hu⟩ := bind_some hu1
    clear hu1
    split at hu
    · rename_i hc
      obtain ⟨rfl, rfl⟩ := hc
      cases hu
      generalize hyv : a.eval y = c at hr
      cases hr
      exact op_val (e := .v .nilslice) S C hd (run_sliceOp ho hue hsz hyv (hl1 _ _ hl) (hh1 _ _ hm) (by omega) (by omega) (by omega)) (show VRel w.heap G .nilslice _ from by simpa using VRel.nilslice) h
    · cases hu
  · cases hu
end
end Go.Asm
