import Derived.Test.YtebmeojmlakkoaaDoorAsm2
set_option linter.all false
/- The steps that memory takes: each keeps the relation. -/
namespace Go.Asm

/-- One block has turned, nothing else. -/
structure Upd (w w' : World) (g : Nat) (o : Obj) : Prop where
  size : w'.heap.size = w.heap.size
  other : ∀ b, b ≠ g → w'.heap[b]? = w.heap[b]?
  at_ : w'.heap[g]? = some o
  os : w'.os = w.os
  tape : w'.tape = w.tape
  output : w'.output = w.output

theorem Upd.trans {w w' w'' g o o'} (a : Upd w w' g o) (b : Upd w' w'' g o') : Upd w w'' g o' :=
  ⟨b.size.trans a.size, fun c h => (b.other c h).trans (a.other c h), b.at_, b.os.trans a.os, b.tape.trans a.tape, b.output.trans a.output⟩
theorem Upd.refl {w : World} {g o} (h : w.heap[g]? = some o) : Upd w w g o := ⟨rfl, fun _ _ => rfl, h, rfl, rfl, rfl⟩

theorem upd_setCell {w : World} {g i : Nat} {arr : Array Value} {elem fr} (h : w.heap[g]? = some (.cells arr elem fr)) (v : Value) :
    Upd w (w.setCell ⟨g, i, none⟩ v) g (.cells (arr.setIfInBounds i v) elem fr) := by
  refine ⟨by simp [World.setCell], fun b hb => ?_, ?_, rfl, rfl, rfl⟩
  · simp [World.setCell, Array.getElem?_modify, Ne.symm hb]
  · simp [World.setCell, Array.getElem?_modify, h]

theorem Upd.le {w w' g o} {G : Gh} (u : Upd w w' g o) (hg : ¬ G.Fz g) : Le w.heap w'.heap G G :=
  ⟨fun _ h => h, fun _ _ h => h, fun b hb => u.other b fun e => hg (e ▸ hb)⟩

theorem beq_ne {a b : Nat} (h : a ≠ b) : a.beq b = false := by
  cases e : a.beq b
  · rfl
  · exact absurd (Nat.eq_of_beq_eq_true e) h
theorem beq_self (a : Nat) : a.beq a = true := by simp

section
variable {Z : Base} {w w' : World} {G : Gh} {lm : Nat → Option Nat} {loc : Loc} {σ : Store}

theorem Loc.get_set (loc : Loc) (s t : Nat) (cs : List AV) : (Loc.set loc s cs).get t = if s = t then (loc.get t).map (fun p => (p.1, cs)) else loc.get t := by
  induction loc with
  | nil => simp [Loc.set, Loc.get]
  | cons e r ih =>
    obtain ⟨k, n, c⟩ := e
    simp only [Loc.set]
    by_cases hk : k = s
    · subst hk
      simp only [Nat.beq_refl, cond_true, Loc.get]
      by_cases ht : k = t
      · subst ht; simp
      · simp [ht, beq_ne ht]
    · have hks : k.beq s = false := beq_ne hk
      simp only [hks, cond_false, Loc.get]
      by_cases ht : k = t
      · subst ht; simp [Ne.symm hk]
      · have : k.beq t = false := beq_ne ht
        simp only [this, cond_false]
        exact ih
theorem Loc.isSome_set (loc : Loc) (s t : Nat) (cs : List AV) : ((Loc.set loc s cs).get t).isSome = (loc.get t).isSome := by
  rw [Loc.get_set]; split <;> simp
theorem Loc.get_cons (loc : Loc) (s t n : Nat) (cs : List AV) : Loc.get ((s, n, cs) :: loc) t = if s = t then some (n, cs) else loc.get t := by
  simp only [Loc.get]
  by_cases h : s = t
  · subst h; simp
  · have : s.beq t = false := beq_ne h
    simp [this, h]
theorem Loc.get_drop1 (loc : Loc) (s t : Nat) (h : s ≠ t) : (Loc.drop1 loc s).get t = loc.get t := by
  induction loc with
  | nil => rfl
  | cons e r ih =>
    obtain ⟨k, n, c⟩ := e
    simp only [Loc.drop1]
    by_cases hk : k = s
    · subst hk
      have : k.beq t = false := beq_ne h
      simp only [beq_self, cond_true, Loc.get, this, cond_false]
      exact ih
    · have hks : k.beq s = false := beq_ne hk
      simp only [hks, cond_false, Loc.get]
      rw [ih]
theorem Loc.get_drop1_self (loc : Loc) (s : Nat) : (Loc.drop1 loc s).get s = none := by
  induction loc with
  | nil => rfl
  | cons e r ih =>
    obtain ⟨k, n, c⟩ := e
    simp only [Loc.drop1]
    by_cases hk : k = s
    · subst hk
      simp only [beq_self, cond_true]
      exact ih
    · have hks : k.beq s = false := beq_ne hk
      simp only [hks, cond_false, Loc.get]
      exact ih

/-- Boxes may be forgotten. -/
theorem HI.forget (H : HI Z w G lm loc σ) (loc' : Loc) (h : ∀ s e, loc'.get s = some e → loc.get s = some e) : HI Z w G lm loc' σ := by
  have hs : ∀ s, (loc'.get s).isSome = true → (loc.get s).isSome = true := fun s hs => by
    obtain ⟨e, he⟩ := Option.isSome_iff_exists.1 hs
    rw [h s e he]; rfl
  exact { H with
    lrel := fun s n cs hl => H.lrel s n cs (h s _ hl)
    linj := fun s t a b => H.linj s t (hs s a) (hs t b)
    ldis := fun s a => H.ldis s (hs s a)
    lfresh := fun s a => H.lfresh s (hs s a) }

/-- A block of the store may be forgotten. -/
theorem HI.kill (H : HI Z w G lm loc σ) (x : Nat) : HI Z w G lm loc (σ.upd x none) := by
  have hb : ∀ y b, (σ.upd x none).blk y = some b → σ.blk y = some b := fun y b h => by
    simp only [Store.upd] at h
    split at h
    · cases h
    · exact h
  have hn : ∀ y, (σ.upd x none).blk y ≠ none → σ.blk y ≠ none := fun y h => by
    obtain ⟨b, hb'⟩ := Option.ne_none_iff_exists'.1 h
    rw [hb y b hb']; simp
  exact { H with
    blk := fun y b h => H.blk y b (hb y b h)
    inj := fun y z a b => H.inj y z (hn y a) (hn z b)
    next := fun y h => by
      refine ⟨?_, (H.next y h).2⟩
      simp only [Store.upd]
      split
      · rfl
      · exact (H.next y h).1
    ldis := fun s a g hg y b h => H.ldis s a g hg y b (hb y b h)
    fresh := fun y b h => H.fresh y b (hb y b h) }

/-- A box of the frame is written. -/
theorem HI.lstore (H : HI Z w G lm loc σ) {s n g : Nat} {cs cs' : List AV} {arr' : Array Value} {elem} (hl : loc.get s = some (n, cs)) (hg : lm s = some g)
    (u : Upd w w' g (.cells arr' elem (0, 0))) (hsz : arr'.size = n) (hlen : cs'.length = n) (hone : Ones arr'.toList)
    (hr : ∀ (i : Nat) (v : AV), cs'[i]? = some v → ∃ c : Value, arr'[i]? = some c ∧ VRel w.heap G v c) :
    HI Z w' G lm (loc.set s cs') σ ∧ Le w.heap w'.heap G G := by
  obtain ⟨h0, g', hg', hfz, hb⟩ := H.lrel s n cs hl
  rw [hg] at hg'; cases hg'
  have le := u.le hfz
  have hsome : (loc.get s).isSome = true := by rw [hl]; rfl
  refine ⟨?_, le⟩
  exact
    { fzlt := fun b h => by rw [u.size]; exact H.fzlt b h
      blk := fun x b h => by
        obtain ⟨k, m, h1, h2, h3⟩ := H.blk x b h
        exact ⟨k, m, h1, h2, h3.mono le (u.other k fun e => H.ldis s hsome g hg x b h m (e ▸ h1))⟩
      inj := H.inj
      next := H.next
      lrel := fun t m ds ht => by
        rw [Loc.get_set] at ht
        by_cases e : s = t
        · subst e
          rw [if_pos rfl, hl] at ht
          simp only [Option.map_some, Option.some.injEq, Prod.mk.injEq] at ht
          obtain ⟨rfl, rfl⟩ := ht
          exact ⟨hlen, g, hg, hfz, arr', elem, u.at_, hsz, by omega, hone, fun i v hi => let ⟨c, a, b⟩ := hr i v hi; ⟨c, a, b.mono le⟩⟩
        · rw [if_neg e] at ht
          obtain ⟨a0, k, a1, a2, a3⟩ := H.lrel t m ds ht
          exact ⟨a0, k, a1, a2, a3.mono le (u.other k fun e' => e (H.linj s t hsome (by rw [ht]; rfl) g hg (e' ▸ a1)))⟩
      linj := fun a b ha hb => H.linj a b (by rwa [Loc.isSome_set] at ha) (by rwa [Loc.isSome_set] at hb)
      ldis := fun a ha => H.ldis a (by rwa [Loc.isSome_set] at ha)
      os := u.os.trans H.os
      tape := u.tape.trans H.tape
      output := u.output.trans H.output
      size := by rw [u.size]; exact H.size
      keep := fun b hb ho => (u.other b fun e => by have := H.lfresh s hsome g hg; omega).trans (H.keep b hb ho)
      fresh := H.fresh
      lfresh := fun a ha => H.lfresh a (by rwa [Loc.isSome_set] at ha)
      fzfresh := H.fzfresh
      fz0 := H.fz0
      bm0 := H.bm0
      bmlt := fun x b m h => by rw [u.size]; exact H.bmlt x b m h
      glob := fun b v h => by
        obtain ⟨h1, c, h2, h3⟩ := H.glob b v h
        exact ⟨h1, c, (cellOf_same (u.other b fun e => hfz (e ▸ h1))).trans h2, h3.gmono (fun _ h => h) le.same⟩ }

/-- A block of the store is written. -/
theorem HI.hstore (H : HI Z w G lm loc σ) {x g m : Nat} {b b' : Blk} {o : Obj} (hx : σ.blk x = some b) (hg : G.bm x = some (g, m))
    (u : Upd w w' g o) (hb' : Le w.heap w'.heap G G → BRel w'.heap G b' g m) :
    HI Z w' G lm loc (σ.upd x (some b')) ∧ Le w.heap w'.heap G G := by
  obtain ⟨g', m', hg', hfz, hb⟩ := H.blk x b hx
  rw [hg] at hg'; cases hg'
  have le := u.le hfz
  have hne : σ.blk x ≠ none := by rw [hx]; simp
  have hlive : ∀ y c, (σ.upd x (some b')).blk y = some c → ∃ d, σ.blk y = some d := fun y c h => by
    simp only [Store.upd] at h
    split at h
    · rename_i e; subst e; exact ⟨b, hx⟩
    · exact ⟨c, h⟩
  have hn : ∀ y, (σ.upd x (some b')).blk y ≠ none → σ.blk y ≠ none := fun y h => by
    obtain ⟨c, hc⟩ := Option.ne_none_iff_exists'.1 h
    obtain ⟨d, hd⟩ := hlive y c hc
    rw [hd]; simp
  refine ⟨?_, le⟩
  exact
    { fzlt := fun b h => by rw [u.size]; exact H.fzlt b h
      blk := fun y c h => by
        simp only [Store.upd] at h
        split at h
        · rename_i e; subst e; cases h
          exact ⟨g, m, hg, hfz, hb' le⟩
        · rename_i e
          obtain ⟨k, n, h1, h2, h3⟩ := H.blk y c h
          exact ⟨k, n, h1, h2, h3.mono le (u.other k fun e' => by subst e'; exact e (H.inj y x (by rw [h]; simp) hne _ _ _ h1 hg))⟩
      inj := fun y z a b => H.inj y z (hn y a) (hn z b)
      next := fun y h => by
        refine ⟨?_, (H.next y h).2⟩
        simp only [Store.upd]
        split
        · rename_i e; subst e; exact absurd (H.next y h).1 hne
        · exact (H.next y h).1
      lrel := fun t k ds ht => by
        obtain ⟨a0, q, a1, a2, a3⟩ := H.lrel t k ds ht
        exact ⟨a0, q, a1, a2, a3.mono le (u.other q fun e => by subst e; exact H.ldis t (by rw [ht]; rfl) _ a1 x b hx m hg)⟩
      linj := H.linj
      ldis := fun s a q hq y c h => by
        obtain ⟨d, hd⟩ := hlive y c h
        exact H.ldis s a q hq y d hd
      os := u.os.trans H.os
      tape := u.tape.trans H.tape
      output := u.output.trans H.output
      size := by rw [u.size]; exact H.size
      keep := fun q hq ho => (u.other q fun e => by
        subst e
        rcases H.fresh x b hx _ m hg with h | h
        · omega
        · exact ho h).trans (H.keep q hq ho)
      fresh := fun y c h => by obtain ⟨d, hd⟩ := hlive y c h; exact H.fresh y d hd
      lfresh := H.lfresh
      fzfresh := H.fzfresh
      fz0 := H.fz0
      bm0 := H.bm0
      bmlt := fun x b m h => by rw [u.size]; exact H.bmlt x b m h
      glob := fun q v h => by
        obtain ⟨h1, c, h2, h3⟩ := H.glob q v h
        exact ⟨h1, c, (cellOf_same (u.other q fun e => hfz (e ▸ h1))).trans h2, h3.gmono (fun _ h => h) le.same⟩ }

/-- A new box of the frame. -/
theorem HI.lalloc (H : HI Z w G lm loc σ) {s n : Nat} {cs : List AV} {arr : Array Value} {elem} (hl : loc.get s = none) (hsz : arr.size = n) (hlen : cs.length = n) (hone : Ones arr.toList)
    (hr : ∀ (i : Nat) (v : AV), cs[i]? = some v → ∃ c : Value, arr[i]? = some c ∧ VRel w.heap G v c) :
    HI Z (w.alloc (.cells arr elem)) G (fun t => if t = s then some w.heap.size else lm t) ((s, n, cs) :: loc) σ ∧ Le w.heap (w.alloc (.cells arr elem)).heap G G := by
  have hh : (w.alloc (.cells arr elem)).heap = w.heap.push (.cells arr elem) := rfl
  have hs : (w.alloc (.cells arr elem)).heap.size = w.heap.size + 1 := by simp [hh]
  have le : Le w.heap (w.alloc (.cells arr elem)).heap G G :=
    ⟨fun _ h => h, fun _ _ h => h, fun g h => by rw [hh]; exact get_push_lt (H.fzlt g h)⟩
  have old : ∀ t, (Loc.get ((s, n, cs) :: loc) t).isSome = true → t ≠ s → (loc.get t).isSome = true := fun t h e => by
    rw [Loc.get_cons, if_neg (Ne.symm e)] at h; exact h
  have hlt : ∀ t, (loc.get t).isSome = true → ∀ g, lm t = some g → g < w.heap.size := fun t ht g hg => by
    obtain ⟨⟨k, ds⟩, he⟩ := Option.isSome_iff_exists.1 ht
    obtain ⟨_, q, a1, _, a3⟩ := H.lrel t k ds he
    rw [hg] at a1; cases a1
    exact a3.lt
  refine ⟨?_, le⟩
  exact
    { fzlt := fun b h => by rw [hs]; have := H.fzlt b h; omega
      blk := fun x b h => by
        obtain ⟨k, m, h1, h2, h3⟩ := H.blk x b h
        exact ⟨k, m, h1, h2, h3.mono le (by rw [hh]; exact get_push_lt h3.lt)⟩
      inj := H.inj
      next := H.next
      lrel := fun t m ds ht => by
        rw [Loc.get_cons] at ht
        by_cases e : s = t
        · subst e
          rw [if_pos rfl] at ht
          cases ht
          refine ⟨hlen, w.heap.size, if_pos rfl, fun h => ?_, arr, elem, by rw [hh]; exact get_push_new, hsz, by omega, hone, fun i v hi => let ⟨c, a, b⟩ := hr i v hi; ⟨c, a, b.mono le⟩⟩
          have := H.fzlt _ h; omega
        · rw [if_neg e] at ht
          obtain ⟨a0, k, a1, a2, a3⟩ := H.lrel t m ds ht
          exact ⟨a0, k, by rw [if_neg (Ne.symm e)]; exact a1, a2, a3.mono le (by rw [hh]; exact get_push_lt a3.lt)⟩
      linj := fun a b ha hb g => by
        intro h1 h2
        by_cases ea : a = s <;> by_cases eb : b = s
        · rw [ea, eb]
        · rw [if_pos ea] at h1; rw [if_neg eb] at h2; cases h1
          have := hlt b (old b hb eb) _ h2; omega
        · rw [if_neg ea] at h1; rw [if_pos eb] at h2; cases h2
          have := hlt a (old a ha ea) _ h1; omega
        · rw [if_neg ea] at h1; rw [if_neg eb] at h2
          exact H.linj a b (old a ha ea) (old b hb eb) g h1 h2
      ldis := fun a ha g hg x b hx m hb => by
        by_cases ea : a = s
        · rw [if_pos ea] at hg; cases hg
          have := H.bmlt x _ m hb; omega
        · rw [if_neg ea] at hg
          exact H.ldis a (old a ha ea) g hg x b hx m hb
      os := H.os
      tape := H.tape
      output := H.output
      size := by rw [hs]; have := H.size; omega
      keep := fun g hg ho => by rw [hh, get_push_lt (by have := H.size; omega)]; exact H.keep g hg ho
      fresh := H.fresh
      lfresh := fun a ha g hg => by
        by_cases ea : a = s
        · rw [if_pos ea] at hg; cases hg; exact H.size
        · rw [if_neg ea] at hg; exact H.lfresh a (old a ha ea) g hg
      fzfresh := H.fzfresh
      fz0 := H.fz0
      bm0 := H.bm0
      bmlt := fun x g m h => by rw [hs]; have := H.bmlt x g m h; omega
      glob := fun g v h => by
        obtain ⟨h1, c, h2, h3⟩ := H.glob g v h
        exact ⟨h1, c, (cellOf_same (by rw [hh]; exact get_push_lt (H.fzlt g h1))).trans h2, h3.gmono (fun _ h => h) le.same⟩ }

def Gh.add (G : Gh) (x : Nat) (p : Nat × Nat) : Gh := ⟨G.Fz, fun y => if y = x then some p else G.bm y⟩

/-- A new block of the store. -/
theorem HI.halloc (H : HI Z w G lm loc σ) {o : Obj} {b : Blk} {m : Nat}
    (hb : Le w.heap (w.alloc o).heap G (G.add σ.next (w.heap.size, m)) → BRel (w.alloc o).heap (G.add σ.next (w.heap.size, m)) b w.heap.size m) :
    HI Z (w.alloc o) (G.add σ.next (w.heap.size, m)) lm loc (σ.add b) ∧ Le w.heap (w.alloc o).heap G (G.add σ.next (w.heap.size, m)) := by
  have hh : (w.alloc o).heap = w.heap.push o := rfl
  have hs : (w.alloc o).heap.size = w.heap.size + 1 := by simp [hh]
  have hnew := H.next σ.next (Nat.le_refl _)
  have bmne : ∀ x p, G.bm x = some p → x ≠ σ.next := fun x p h e => by subst e; rw [hnew.2] at h; cases h
  have blne : ∀ x c, σ.blk x = some c → x ≠ σ.next := fun x c h e => by subst e; rw [hnew.1] at h; cases h
  have le : Le w.heap (w.alloc o).heap G (G.add σ.next (w.heap.size, m)) :=
    ⟨fun _ h => h, fun x p h => by simp only [Gh.add]; rw [if_neg (bmne x p h)]; exact h, fun g h => by rw [hh]; exact get_push_lt (H.fzlt g h)⟩
  have hblk : ∀ x c, (σ.add b).blk x = some c → (x = σ.next ∧ c = b) ∨ (x ≠ σ.next ∧ σ.blk x = some c) := fun x c h => by
    simp only [Store.add] at h
    split at h
    · rename_i e; left; cases h; exact ⟨e, rfl⟩
    · rename_i e; right; exact ⟨e, h⟩
  have lltm : ∀ t, (loc.get t).isSome = true → ∀ g, lm t = some g → g < w.heap.size := fun t ht g hg => by
    obtain ⟨⟨k, ds⟩, he⟩ := Option.isSome_iff_exists.1 ht
    obtain ⟨_, q, a1, _, a3⟩ := H.lrel t k ds he
    rw [hg] at a1; cases a1
    exact a3.lt
  refine ⟨?_, le⟩
  exact
    { fzlt := fun b h => by rw [hs]; have := H.fzlt b h; omega
      blk := fun x c h => by
        rcases hblk x c h with ⟨e, e'⟩ | ⟨e, h⟩
        · subst e; subst e'
          exact ⟨w.heap.size, m, by simp [Gh.add], fun h => by have := H.fzlt _ h; omega, hb le⟩
        · obtain ⟨k, n, h1, h2, h3⟩ := H.blk x c h
          exact ⟨k, n, le.bm _ _ h1, h2, h3.mono le (by rw [hh]; exact get_push_lt h3.lt)⟩
      inj := fun x y hx hy g m₁ m₂ h1 h2 => by
        obtain ⟨c, hc⟩ := Option.ne_none_iff_exists'.1 hx
        obtain ⟨d, hd⟩ := Option.ne_none_iff_exists'.1 hy
        simp only [Gh.add] at h1 h2
        rcases hblk x c hc with ⟨e, _⟩ | ⟨e, h⟩ <;> rcases hblk y d hd with ⟨e', _⟩ | ⟨e', h'⟩
        · rw [e, e']
        · rw [if_pos e] at h1; rw [if_neg e'] at h2; cases h1
          have := H.bmlt y _ _ h2; omega
        · rw [if_neg e] at h1; rw [if_pos e'] at h2; cases h2
          have := H.bmlt x _ _ h1; omega
        · rw [if_neg e] at h1; rw [if_neg e'] at h2
          exact H.inj x y (by rw [h]; simp) (by rw [h']; simp) g m₁ m₂ h1 h2
      next := fun x h => by
        have hx : σ.next + 1 ≤ x := h
        have := H.next x (by omega)
        simp only [Store.add, Gh.add]
        rw [if_neg (by omega), if_neg (by omega)]
        exact this
      lrel := fun t k ds ht => by
        obtain ⟨a0, q, a1, a2, a3⟩ := H.lrel t k ds ht
        exact ⟨a0, q, a1, a2, a3.mono le (by rw [hh]; exact get_push_lt a3.lt)⟩
      linj := H.linj
      ldis := fun s a q hq x c h n hn => by
        simp only [Gh.add] at hn
        rcases hblk x c h with ⟨e, _⟩ | ⟨e, h⟩
        · rw [if_pos e] at hn; cases hn
          have := lltm s a _ hq; omega
        · rw [if_neg e] at hn
          exact H.ldis s a q hq x c h n hn
      os := H.os
      tape := H.tape
      output := H.output
      size := by rw [hs]; have := H.size; omega
      keep := fun g hg ho => by rw [hh, get_push_lt (by have := H.size; omega)]; exact H.keep g hg ho
      fresh := fun x c h g n hg => by
        simp only [Gh.add] at hg
        rcases hblk x c h with ⟨e, _⟩ | ⟨e, h⟩
        · rw [if_pos e] at hg; cases hg; left; exact H.size
        · rw [if_neg e] at hg; exact H.fresh x c h g n hg
      lfresh := H.lfresh
      fzfresh := H.fzfresh
      fz0 := H.fz0
      bm0 := fun x p h => le.bm x p (H.bm0 x p h)
      bmlt := fun x g n h => by
        rw [hs]
        simp only [Gh.add] at h
        split at h
        · cases h; omega
        · have := H.bmlt x g n h; omega
      glob := fun g v h => by
        obtain ⟨h1, c, h2, h3⟩ := H.glob g v h
        exact ⟨h1, c, (cellOf_same (by rw [hh]; exact get_push_lt (H.fzlt g h1))).trans h2, h3.gmono (fun _ h => h) le.same⟩ }

/-- A block of the store goes on under a new number. -/
theorem HI.rename (H : HI Z w G lm loc σ) {x g m : Nat} {b : Blk} (hx : σ.blk x = some b) (hg : G.bm x = some (g, m)) :
    HI Z w (G.add σ.next (g, m)) lm loc ((σ.upd x none).add b) ∧ Le w.heap w.heap G (G.add σ.next (g, m)) := by
  have hnew := H.next σ.next (Nat.le_refl _)
  have bmne : ∀ y p, G.bm y = some p → y ≠ σ.next := fun y p h e => by subst e; rw [hnew.2] at h; cases h
  have le : Le w.heap w.heap G (G.add σ.next (g, m)) :=
    ⟨fun _ h => h, fun y p h => by simp only [Gh.add]; rw [if_neg (bmne y p h)]; exact h, fun _ _ => rfl⟩
  have hblk : ∀ y c, ((σ.upd x none).add b).blk y = some c → (y = σ.next ∧ c = b) ∨ (y ≠ σ.next ∧ y ≠ x ∧ σ.blk y = some c) := fun y c h => by
    change (if y = σ.next then some b else if y = x then none else σ.blk y) = some c at h
    by_cases e : y = σ.next
    · rw [if_pos e] at h; left; cases h; exact ⟨e, rfl⟩
    · rw [if_neg e] at h
      by_cases e' : y = x
      · rw [if_pos e'] at h; cases h
      · rw [if_neg e'] at h; right; exact ⟨e, e', h⟩
  obtain ⟨g', m', h1', hfz, hbr⟩ := H.blk x b hx
  rw [hg] at h1'; cases h1'
  refine ⟨?_, le⟩
  exact
    { fzlt := H.fzlt
      blk := fun y c h => by
        rcases hblk y c h with ⟨e, e'⟩ | ⟨e, _, h⟩
        · subst e; subst e'
          exact ⟨g, m, by simp [Gh.add], hfz, hbr.mono le rfl⟩
        · obtain ⟨k, n, h1, h2, h3⟩ := H.blk y c h
          exact ⟨k, n, le.bm _ _ h1, h2, h3.mono le rfl⟩
      inj := fun y z hy hz k m₁ m₂ h1 h2 => by
        obtain ⟨c, hc⟩ := Option.ne_none_iff_exists'.1 hy
        obtain ⟨d, hd⟩ := Option.ne_none_iff_exists'.1 hz
        simp only [Gh.add] at h1 h2
        rcases hblk y c hc with ⟨e, _⟩ | ⟨e, ex, h⟩ <;> rcases hblk z d hd with ⟨e', _⟩ | ⟨e', ex', h'⟩
        · rw [e, e']
        · rw [if_pos e] at h1; rw [if_neg e'] at h2; cases h1
          exact absurd (H.inj z x (by rw [h']; simp) (by rw [hx]; simp) _ _ _ h2 hg) ex'
        · rw [if_neg e] at h1; rw [if_pos e'] at h2; cases h2
          exact absurd (H.inj y x (by rw [h]; simp) (by rw [hx]; simp) _ _ _ h1 hg) ex
        · rw [if_neg e] at h1; rw [if_neg e'] at h2
          exact H.inj y z (by rw [h]; simp) (by rw [h']; simp) k m₁ m₂ h1 h2
      next := fun y h => by
        have hy : σ.next + 1 ≤ y := h
        have := H.next y (by omega)
        refine ⟨?_, ?_⟩
        · show (if y = σ.next then some b else if y = x then none else σ.blk y) = none
          rw [if_neg (by omega)]
          split
          · rfl
          · exact this.1
        · simp only [Gh.add]
          rw [if_neg (by omega)]
          exact this.2
      lrel := fun t k ds ht => by
        obtain ⟨a0, q, a1, a2, a3⟩ := H.lrel t k ds ht
        exact ⟨a0, q, a1, a2, a3.mono le rfl⟩
      linj := H.linj
      ldis := fun s a q hq y c h n hn => by
        simp only [Gh.add] at hn
        rcases hblk y c h with ⟨e, _⟩ | ⟨e, _, h⟩
        · rw [if_pos e] at hn; cases hn
          exact H.ldis s a _ hq x b hx m hg
        · rw [if_neg e] at hn
          exact H.ldis s a q hq y c h n hn
      os := H.os
      tape := H.tape
      output := H.output
      size := H.size
      keep := H.keep
      fresh := fun y c h k n hk => by
        simp only [Gh.add] at hk
        rcases hblk y c h with ⟨e, _⟩ | ⟨e, _, h⟩
        · rw [if_pos e] at hk; cases hk; exact H.fresh x b hx _ _ hg
        · rw [if_neg e] at hk; exact H.fresh y c h k n hk
      lfresh := H.lfresh
      fzfresh := H.fzfresh
      fz0 := H.fz0
      bm0 := fun y p h => le.bm y p (H.bm0 y p h)
      bmlt := fun y k n h => by
        simp only [Gh.add] at h
        split at h
        · cases h; exact H.bmlt x _ _ hg
        · exact H.bmlt y k n h
      glob := fun q v h => by
        obtain ⟨h1, c, h2, h3⟩ := H.glob q v h
        exact ⟨h1, c, h2, h3⟩ }

/-- A box of the frame is immutable from here on. -/
theorem HI.freeze (H : HI Z w G lm loc σ) {s n g : Nat} {cs : List AV} (hl : loc.get s = some (n, cs)) (hg : lm s = some g) (loc' : Loc)
    (hlo : ∀ t e, loc'.get t = some e → t ≠ s ∧ loc.get t = some e) :
    HI Z w ⟨fun b => G.Fz b ∨ b = g, G.bm⟩ lm loc' σ ∧ Le w.heap w.heap G ⟨fun b => G.Fz b ∨ b = g, G.bm⟩ := by
  have le : Le w.heap w.heap G ⟨fun b => G.Fz b ∨ b = g, G.bm⟩ := ⟨fun _ h => .inl h, fun _ _ h => h, fun _ _ => rfl⟩
  have hsome : (loc.get s).isSome = true := by rw [hl]; rfl
  obtain ⟨h0, g', hg', hfz, hb⟩ := H.lrel s n cs hl
  rw [hg] at hg'; cases hg'
  have hs : ∀ t, (loc'.get t).isSome = true → t ≠ s ∧ (loc.get t).isSome = true := fun t ht => by
    obtain ⟨e, he⟩ := Option.isSome_iff_exists.1 ht
    obtain ⟨a, b⟩ := hlo t e he
    exact ⟨a, by rw [b]; rfl⟩
  refine ⟨?_, le⟩
  exact
    { fzlt := fun b h => by
        rcases h with h | h
        · exact H.fzlt b h
        · subst h; exact hb.lt
      blk := fun y c h => by
        obtain ⟨k, m, h1, h2, h3⟩ := H.blk y c h
        exact ⟨k, m, h1, fun h' => by
          rcases h' with h' | h'
          · exact h2 h'
          · subst h'; exact H.ldis s hsome _ hg y c h m h1, h3.mono le rfl⟩
      inj := H.inj
      next := H.next
      lrel := fun t k ds ht => by
        obtain ⟨ht1, ht2⟩ := hlo t _ ht
        obtain ⟨a0, q, a1, a2, a3⟩ := H.lrel t k ds ht2
        exact ⟨a0, q, a1, fun h' => by
          rcases h' with h' | h'
          · exact a2 h'
          · subst h'; exact ht1 (H.linj t s (by rw [ht2]; rfl) hsome _ a1 hg), a3.mono le rfl⟩
      linj := fun a b ha hb => H.linj a b (hs a ha).2 (hs b hb).2
      ldis := fun a ha => H.ldis a (hs a ha).2
      os := H.os
      tape := H.tape
      output := H.output
      size := H.size
      keep := H.keep
      fresh := H.fresh
      lfresh := fun a ha => H.lfresh a (hs a ha).2
      fzfresh := fun b h => by
        rcases h with h | h
        · exact H.fzfresh b h
        · subst h; right; left; exact H.lfresh s hsome _ hg
      fz0 := fun b h => .inl (H.fz0 b h)
      bm0 := H.bm0
      bmlt := H.bmlt
      glob := fun q v h => by
        obtain ⟨h1, c, h2, h3⟩ := H.glob q v h
        exact ⟨.inl h1, c, h2, h3.gmono (fun _ h => Or.inl h) (fun _ _ => rfl)⟩ }
end
end Go.Asm
