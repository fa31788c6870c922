import Derived.Test.YtebmeojmlakkoaaDoorDoorP3
set_option linter.all false
namespace Go.Asm.DoorF
open Go Go.Asm
section
variable {D : Ctx} (H : Door D)
def letter (b : UInt8) : Bool := decide (97 ≤ b.toNat ∧ b.toNat ≤ 122 ∨ 65 ≤ b.toNat ∧ b.toNat ≤ 90 ∨ b.toNat = 95)
def digit (b : UInt8) : Bool := decide (48 ≤ b.toNat ∧ b.toNat ≤ 57)
def charsOk (i : Nat) : List UInt8 → Bool
  | [] => true
  | b :: r => (letter b || (decide (i ≠ 0) && digit b)) && charsOk (i + 1) r
theorem idxS_at {s : ByteArray} {i : Nat} {b : UInt8} {k : IntKind} (h : s.data.toList[i]? = some b) : idxS (.str s) (.int k i) = some (.int .u8 b.toNat) := by
  have : s[i]? = some b := by
    rw [Array.getElem?_toList] at h
    obtain ⟨h1, h2⟩ := Array.getElem?_eq_some_iff.1 h
    have e : s[i]? = if h : i < s.size then some s[i] else none := rfl
    rw [e, dif_pos (show i < s.size from h1)]
    exact congrArg some h2
  simp [idxS, this]
theorem nameok_loop (s : ByteArray) (k : Cur 0) (σ : Store) (hs : s.size ≤ 40) : ∀ (n i : Nat), n = s.size - i → i ≤ s.size →
    lpFix 1 (lp_spec_l6nameok_1 D (.str s) k) (.int .i64 i) σ = if charsOk i (s.data.toList.drop i) then k σ else some (.bool false, σ) := by
  intro n
  induction n with
  | zero =>
    intro i hi h1
    rw [lpFix_eq (lp_spec_l6nameok_1_mono _ _ _)]
    have : ¬ (i < s.size) := by omega
    have e : s.data.toList.drop i = [] := List.drop_eq_nil_of_le (by simp; exact Nat.not_lt.1 this)
    simp [lp_spec_l6nameok_1, this, e, charsOk]
  | succ n ih =>
    intro i hi h1
    have hil : i < s.size := by omega
    have hl : i < s.data.toList.length := by simpa using hil
    have hb := idxS_at (k := .i64) (List.getElem?_eq_getElem hl)
    have ih' := ih (i + 1) (by omega) (by omega)
    rw [lpFix_eq (lp_spec_l6nameok_1_mono _ _ _)]
    rw [List.drop_eq_getElem_cons hl]
    generalize s.data.toList[i] = b at hb
    generalize lpFix 1 (lp_spec_l6nameok_1 D (.str s) k) = R at ih' ⊢
    unfold lp_spec_l6nameok_1 jn
    simp only [lenV_str, Option.bind_some, bin_lss, aCase_bool, hb, bin_geq, bin_leq, bin_gtr, bin_eql, un_not, bin_add (a := i) (b := 1) (by omega) (by omega)]
    rw [if_pos (by simpa using hil)]
    have e1 : ((i : Int) + 1) = ((i + 1 : Nat) : Int) := by omega
    rw [e1, ih']
    have e2 : ∀ (c d : Bool) (x y : Res), (if (c && d) = true then x else y) = if c = true then (if d = true then x else y) else y := fun c d x y => by cases c <;> cases d <;> rfl
    rw [charsOk, e2]
    generalize (if charsOk (i + 1) (List.drop (i + 1) s.data.toList) = true then k σ else some (AV.bool false, σ)) = go
    clear ih ih' e2 hb hl
    by_cases c1 : 97 ≤ b.toNat <;> by_cases c2 : b.toNat ≤ 122 <;> by_cases c3 : 65 ≤ b.toNat <;> by_cases c4 : b.toNat ≤ 90 <;> by_cases c5 : b.toNat = 95 <;> by_cases c6 : b.toNat < 48 <;> by_cases c7 : 57 < b.toNat <;> by_cases c8 : i = 0 <;>
      first
      | (exfalso; omega)
      | (have d1 : (97 ≤ (b.toNat : Int)) = (97 ≤ b.toNat) := propext ⟨fun h => by omega, fun h => by omega⟩
         have d2 : ((b.toNat : Int) ≤ 122) = (b.toNat ≤ 122) := propext ⟨fun h => by omega, fun h => by omega⟩
         have d3 : (65 ≤ (b.toNat : Int)) = (65 ≤ b.toNat) := propext ⟨fun h => by omega, fun h => by omega⟩
         have d4 : ((b.toNat : Int) ≤ 90) = (b.toNat ≤ 90) := propext ⟨fun h => by omega, fun h => by omega⟩
         have d5 : ((b.toNat : Int) = 95) = (b.toNat = 95) := propext ⟨fun h => by omega, fun h => by omega⟩
         have d6 : ((b.toNat : Int) < 48) = (b.toNat < 48) := propext ⟨fun h => by omega, fun h => by omega⟩
         have d7 : (57 < (b.toNat : Int)) = (57 < b.toNat) := propext ⟨fun h => by omega, fun h => by omega⟩
         have d8 : ((i : Int) = 0) = (i = 0) := propext ⟨fun h => by omega, fun h => by omega⟩
         have d9 : (48 ≤ b.toNat) = ¬ (b.toNat < 48) := propext ⟨fun h => by omega, fun h => by omega⟩
         have d10 : (b.toNat ≤ 57) = ¬ (57 < b.toNat) := propext ⟨fun h => by omega, fun h => by omega⟩
         simp [letter, digit, d1, d2, d3, d4, d5, d6, d7, d8, d9, d10, c1, c2, c3, c4, c5, c6, c7, c8])
theorem isName_loop (s : ByteArray) (k : Cur 0) (σ : Store) (hs : s.size ≤ 40) : ∀ (n i : Nat), n = s.size - i → i ≤ s.size →
    lpFix 1 (lp_impl_isName_1 D (.str s) k) (.int .i64 i) σ = if charsOk i (s.data.toList.drop i) then k σ else some (.bool false, σ) := by
  intro n
  induction n with
  | zero =>
    intro i hi h1
    rw [lpFix_eq (lp_impl_isName_1_mono _ _ _)]
    have : ¬ (i < s.size) := by omega
    have e : s.data.toList.drop i = [] := List.drop_eq_nil_of_le (by simp; exact Nat.not_lt.1 this)
    simp [lp_impl_isName_1, this, e, charsOk]
  | succ n ih =>
    intro i hi h1
    have hil : i < s.size := by omega
    have hl : i < s.data.toList.length := by simpa using hil
    have hb := idxS_at (k := .i64) (List.getElem?_eq_getElem hl)
    have ih' := ih (i + 1) (by omega) (by omega)
    rw [lpFix_eq (lp_impl_isName_1_mono _ _ _)]
    rw [List.drop_eq_getElem_cons hl]
    generalize s.data.toList[i] = b at hb
    generalize lpFix 1 (lp_impl_isName_1 D (.str s) k) = R at ih' ⊢
    unfold lp_impl_isName_1 jn
    simp only [lenV_str, Option.bind_some, bin_lss, aCase_bool, hb, bin_geq, bin_leq, bin_gtr, bin_eql, un_not, bin_add (a := i) (b := 1) (by omega) (by omega)]
    rw [if_pos (by simpa using hil)]
    have e1 : ((i : Int) + 1) = ((i + 1 : Nat) : Int) := by omega
    rw [e1, ih']
    have e2 : ∀ (c d : Bool) (x y : Res), (if (c && d) = true then x else y) = if c = true then (if d = true then x else y) else y := fun c d x y => by cases c <;> cases d <;> rfl
    rw [charsOk, e2]
    generalize (if charsOk (i + 1) (List.drop (i + 1) s.data.toList) = true then k σ else some (AV.bool false, σ)) = go
    clear ih ih' e2 hb hl
    by_cases c1 : 97 ≤ b.toNat <;> by_cases c2 : b.toNat ≤ 122 <;> by_cases c3 : 65 ≤ b.toNat <;> by_cases c4 : b.toNat ≤ 90 <;> by_cases c5 : b.toNat = 95 <;> by_cases c6 : b.toNat < 48 <;> by_cases c7 : 57 < b.toNat <;> by_cases c8 : i = 0 <;>
      first
      | (exfalso; omega)
      | (have d1 : (97 ≤ (b.toNat : Int)) = (97 ≤ b.toNat) := propext ⟨fun h => by omega, fun h => by omega⟩
         have d2 : ((b.toNat : Int) ≤ 122) = (b.toNat ≤ 122) := propext ⟨fun h => by omega, fun h => by omega⟩
         have d3 : (65 ≤ (b.toNat : Int)) = (65 ≤ b.toNat) := propext ⟨fun h => by omega, fun h => by omega⟩
         have d4 : ((b.toNat : Int) ≤ 90) = (b.toNat ≤ 90) := propext ⟨fun h => by omega, fun h => by omega⟩
         have d5 : ((b.toNat : Int) = 95) = (b.toNat = 95) := propext ⟨fun h => by omega, fun h => by omega⟩
         have d6 : ((b.toNat : Int) < 48) = (b.toNat < 48) := propext ⟨fun h => by omega, fun h => by omega⟩
         have d7 : (57 < (b.toNat : Int)) = (57 < b.toNat) := propext ⟨fun h => by omega, fun h => by omega⟩
         have d8 : ((i : Int) = 0) = (i = 0) := propext ⟨fun h => by omega, fun h => by omega⟩
         have d9 : (48 ≤ b.toNat) = ¬ (b.toNat < 48) := propext ⟨fun h => by omega, fun h => by omega⟩
         have d10 : (b.toNat ≤ 57) = ¬ (57 < b.toNat) := propext ⟨fun h => by omega, fun h => by omega⟩
         simp [letter, digit, d1, d2, d3, d4, d5, d6, d7, d8, d9, d10, c1, c2, c3, c4, c5, c6, c7, c8])
def words : List ByteArray := [⟨#[97, 110, 100]⟩, ⟨#[98, 114, 101, 97, 107]⟩, ⟨#[99, 97, 116, 99, 104]⟩, ⟨#[99, 111, 110, 115, 116]⟩, ⟨#[100, 101, 102, 101, 114]⟩, ⟨#[101, 108, 105, 102]⟩, ⟨#[101, 108, 115, 101]⟩, ⟨#[102, 97, 108, 115, 101]⟩, ⟨#[102, 110]⟩, ⟨#[102, 111, 114]⟩, ⟨#[105, 102]⟩, ⟨#[105, 110]⟩, ⟨#[108, 101, 116]⟩, ⟨#[110, 101, 120, 116]⟩, ⟨#[110, 105, 108]⟩, ⟨#[110, 111, 116]⟩, ⟨#[111, 114]⟩, ⟨#[114, 101, 116, 117, 114, 110]⟩, ⟨#[116, 104, 114, 111, 119]⟩, ⟨#[116, 114, 117, 101]⟩, ⟨#[116, 114, 121]⟩, ⟨#[119, 104, 105, 108, 101]⟩]
def isWord (s : ByteArray) : Bool := words.any fun w => decide (w.toList = s.toList)
def nameOk (s : ByteArray) : Bool := decide (1 ≤ s.size ∧ s.size ≤ 40) && charsOk 0 s.data.toList && !isWord s
theorem words_loop (ws : List ByteArray) (hw : ws.length ≤ 100) (s : ByteArray) (k : Cur 0) (σ : Store) : ∀ (n i : Nat), n = ws.length - i → i ≤ ws.length →
    lpFix 1 (lp_spec_l6nameok_2 D (.int .i64 ws.length) (encS ws) (.str s) k) (.int .i64 i) σ = if (ws.drop i).any (fun w => decide (w.toList = s.toList)) then some (.bool false, σ) else k σ := by
  intro n
  induction n with
  | zero =>
    intro i hi h1
    rw [lpFix_eq (lp_spec_l6nameok_2_mono _ _ _ _ _)]
    have : ¬ (i < ws.length) := by omega
    have e : ws.drop i = [] := List.drop_eq_nil_of_le (by omega)
    simp [lp_spec_l6nameok_2, this, e]
  | succ n ih =>
    intro i hi h1
    have hil : i < ws.length := by omega
    have hs : ws[i]? = some ws[i] := List.getElem?_eq_getElem hil
    have ih' := ih (i + 1) (by omega) (by omega)
    rw [lpFix_eq (lp_spec_l6nameok_2_mono _ _ _ _ _)]
    generalize lpFix 1 (lp_spec_l6nameok_2 D (.int .i64 ws.length) (encS ws) (.str s) k) = R at ih' ⊢
    rw [List.drop_eq_getElem_cons hil]
    have e1 : ((i : Int) + 1) = ((i + 1 : Nat) : Int) := by omega
    by_cases hc : ws[i].toList = s.toList
    · simp only [lp_spec_l6nameok_2, bin_lss, Option.bind_some, aCase_bool, idx_encS hs, rd1_p, List.getElem?_cons_zero, bin_seq, hc, List.any_cons, decide_true, Bool.true_or, if_true]
      rw [if_pos (by simpa using hil)]
    · simp only [lp_spec_l6nameok_2, bin_lss, Option.bind_some, aCase_bool, idx_encS hs, rd1_p, List.getElem?_cons_zero, bin_seq, hc, bin_add (a := i) (b := 1) (by omega) (by omega), e1, ih', List.any_cons, decide_false, Bool.false_or, Bool.false_eq_true, if_false]
      rw [if_pos (by simpa using hil)]
/-- What keyWords holds. -/
def KeyWords (G : Nat → Option AV) : Prop := ∃ ws : List ByteArray, G 0 = some (.pmap (ws.map .str) (ws.map fun _ => .bool true)) ∧ ∀ s : ByteArray, (ws.any fun w => decide (w.toList = s.toList)) = isWord s
theorem mget_words (s : ByteArray) : ∀ ws : List ByteArray, mget (.str s) (ws.map .str) (ws.map fun _ => .bool true) = if ws.any (fun w => decide (w.toList = s.toList)) then some (.bool true) else none
  | [] => rfl
  | w :: ws => by
    simp only [List.map_cons, mget, keyEq, keyEq1, List.any_cons]
    by_cases hc : s.toList = w.toList
    · simp [hc]
    · have : ¬ w.toList = s.toList := fun e => hc e.symm
      simp only [hc, this, decide_false, Bool.false_eq_true, if_false, Bool.false_or]
      exact mget_words s ws
theorem look_words {G : Nat → Option AV} (hG : KeyWords G) (s : ByteArray) (σ : Store) : (rd1 G (.gptr 0) σ).bind (fun m => lookup1 .str (.bool false) m (.str s) σ) = some (.bool (isWord s)) := by
  obtain ⟨ws, h1, h2⟩ := hG
  have hall : (ws.map AV.str).all (KK.fits .str) = true := by simp [KK.fits, KK.fits1]
  simp only [rd1, h1, Option.bind_some, lookup1, lookupV, KK.fits, KK.fits1, if_true, lookupL, hall, mget_words, ← h2 s]
  cases (ws.any fun w => decide (w.toList = s.toList)) <;> rfl
theorem l6words (H : Door D) (σ : Store) : callP D 44 [] = some (encS words) := by
  refine callP_eq (σ' := Store.empty) (v := encS words) rfl ?_ (by simp [depth])
  rw [H.f44]
  rfl
theorem l6nameok (H : Door D) (s : ByteArray) (hs : s.size ≤ 1048576) (σ : Store) : D.call 37 [.str s] σ = some (.bool (nameOk s), σ) := by
  rw [H.f37]
  unfold sh_spec_l6nameok jn
  by_cases h0 : s.size = 0
  · simp [h0, nameOk]
  · by_cases h1 : 40 < s.size
    · have : ¬ s.size ≤ 40 := by omega
      have e0 : ¬ ((s.size : Int) = 0) := by omega
      have e1 : (40 : Int) < s.size := by omega
      simp only [lenV_str, Option.bind_some, bin_eql, bin_gtr, aCase_bool, e0, e1, decide_false, Bool.false_eq_true, if_false, decide_true, if_true]
      simp [this, nameOk]
    · have h2 : s.size ≤ 40 := by omega
      have h3 : 1 ≤ s.size := by omega
      have e0 : ¬ ((s.size : Int) = 0) := by omega
      have e1 : ¬ ((40 : Int) < s.size) := by omega
      simp only [lenV_str, Option.bind_some, bin_eql, bin_gtr, aCase_bool, e0, e1, decide_false, Bool.false_eq_true, if_false]
      have hl := nameok_loop (D := D) s (fun s_6 => (callP D 44 []).bind fun t_8 => (lenV .sl t_8 s_6).bind fun t_9 => lpFix 1 (lp_spec_l6nameok_2 D t_9 t_8 (.str s) fun s_10 => some (.bool true, s_10)) (.int .i64 0) s_6) σ h2 s.size 0 (by omega) (by omega)
      rw [List.drop_zero] at hl
      refine Eq.trans hl ?_
      have hwl := words_loop (D := D) words (by decide) s (fun s_10 => some (.bool true, s_10)) σ words.length 0 (by omega) (by omega)
      rw [List.drop_zero] at hwl
      simp only [l6words H σ, Option.bind_some, len_encS]
      have e2 : lpFix 1 (lp_spec_l6nameok_2 D (.int .i64 words.length) (encS words) (.str s) fun s_10 => some (.bool true, s_10)) (.int .i64 0) σ = _ := hwl
      rw [e2]
      unfold nameOk isWord
      cases charsOk 0 s.data.toList <;> cases (words.any fun w => decide (w.toList = s.toList)) <;> simp [h2, h3]

theorem isName (H : Door D) (hG : KeyWords D.G) (s : ByteArray) (hs : s.size ≤ 1048576) (σ : Store) : D.call 27 [.str s] σ = some (.bool (nameOk s), σ) := by
  rw [H.f27]
  unfold sh_impl_isName jn
  by_cases h0 : s.size = 0
  · simp [h0, nameOk]
  · by_cases h1 : 40 < s.size
    · have : ¬ s.size ≤ 40 := by omega
      have e0 : ¬ ((s.size : Int) < 1) := by omega
      have e1 : (40 : Int) < s.size := by omega
      simp only [lenV_str, Option.bind_some, bin_lss, bin_gtr, aCase_bool, e0, e1, decide_false, Bool.false_eq_true, if_false, decide_true, if_true]
      simp [this, nameOk]
    · have h2 : s.size ≤ 40 := by omega
      have h3 : 1 ≤ s.size := by omega
      have e0 : ¬ ((s.size : Int) < 1) := by omega
      have e1 : ¬ ((40 : Int) < s.size) := by omega
      simp only [lenV_str, Option.bind_some, bin_lss, bin_gtr, aCase_bool, e0, e1, decide_false, Bool.false_eq_true, if_false]
      have hlk := look_words hG s σ
      obtain ⟨m, hm, hlk⟩ := bind_some hlk
      rw [hm]
      simp only [Option.bind_some, hlk, aCase_bool]
      have hl := isName_loop (D := D) s (fun s_9 => some (.bool true, s_9)) σ h2 s.size 0 (by omega) (by omega)
      rw [List.drop_zero] at hl
      have e2 : lpFix 1 (lp_impl_isName_1 D (.str s) fun s_9 => some (.bool true, s_9)) (.int .i64 0) σ = _ := hl
      rw [e2]
      unfold nameOk
      cases charsOk 0 s.data.toList <;> cases isWord s <;> simp [h2, h3]
end
end Go.Asm.DoorF
