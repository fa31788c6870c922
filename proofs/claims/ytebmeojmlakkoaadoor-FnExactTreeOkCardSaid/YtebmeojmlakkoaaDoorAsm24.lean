import Derived.Test.YtebmeojmlakkoaaDoorAsm23
set_option linter.all false
/- What the machine's operations come to, for proofs about plain functions. -/
namespace Go.Asm
section
variable {k : IntKind} {a b : Int} {σ : Store} {G : Nat → Option AV} {sz : Nat}

@[simp] theorem jn_eq (m : Nat) (K : Cur m) (F : Cur m → Res) : jn m K F = F K := rfl
@[simp] theorem lenV_p (s : Nat) (rows : List AV) : lenV .sl (.pslice s rows) σ = some (.int .i64 rows.length) := rfl
@[simp] theorem lenV_h (s x off n : Nat) : lenV .sl (.hslice s x off n) σ = some (.int .i64 n) := rfl
@[simp] theorem lenV_nil : lenV .sl .nilslice σ = some (.int .i64 0) := rfl
@[simp] theorem lenV_str (s : ByteArray) : lenV .str (.str s) σ = some (.int .i64 s.size) := rfl
@[simp] theorem bin_lss : bin .lss .num (.int k a) (.int k b) = some (.bool (decide (a < b))) := by simp [bin, intBin]
@[simp] theorem bin_leq : bin .leq .num (.int k a) (.int k b) = some (.bool (decide (a ≤ b))) := by simp [bin, intBin]
@[simp] theorem bin_gtr : bin .gtr .num (.int k a) (.int k b) = some (.bool (decide (b < a))) := by simp [bin, intBin]
@[simp] theorem bin_geq : bin .geq .num (.int k a) (.int k b) = some (.bool (decide (b ≤ a))) := by simp [bin, intBin]
@[simp] theorem bin_eql : bin .eql .num (.int k a) (.int k b) = some (.bool (decide (a = b))) := by simp [bin, intBin]
@[simp] theorem bin_neq : bin .neq .num (.int k a) (.int k b) = some (.bool (decide (a ≠ b))) := by simp [bin, intBin]
theorem bin_add (h1 : -9223372036854775808 ≤ a + b) (h2 : a + b ≤ 9223372036854775807) : bin .add .num (.int .i64 a) (.int .i64 b) = some (.int .i64 (a + b)) := by
  have : IntKind.i64.wrap (a + b) = a + b := by rw [IntKind.wrap_i64]; omega
  simp [bin, intBin, this]
theorem bin_sub (h1 : -9223372036854775808 ≤ a - b) (h2 : a - b ≤ 9223372036854775807) : bin .sub .num (.int .i64 a) (.int .i64 b) = some (.int .i64 (a - b)) := by
  have : IntKind.i64.wrap (a - b) = a - b := by rw [IntKind.wrap_i64]; omega
  simp [bin, intBin, this]
@[simp] theorem bin_seq (s t : ByteArray) : bin .eql .num (.str s) (.str t) = some (.bool (decide (s.toList = t.toList))) := by simp [bin, strBin]
@[simp] theorem bin_sne (s t : ByteArray) : bin .neq .num (.str s) (.str t) = some (.bool (decide (s.toList ≠ t.toList))) := by simp [bin, strBin]
@[simp] theorem un_not (b : Bool) : un .not (.bool b) = some (.bool !b) := rfl
@[simp] theorem aCase_bool {ρ : Type} (b : Bool) (t f : Option ρ) : aCase (.bool b) t f = if b = true then t else f := by cases b <;> rfl
@[simp] theorem rd1_p (row : List AV) (off : Nat) : rd1 G (.pptr row off) σ = row[off]? := rfl
@[simp] theorem one_int : one (.int k a) = some (.int k a) := rfl
@[simp] theorem one_bool (b : Bool) : one (.bool b) = some (.bool b) := rfl
@[simp] theorem one_str (s : ByteArray) : one (.str s) = some (.str s) := rfl
@[simp] theorem one_flt (b : Nat) : one (.flt b) = some (.flt b) := rfl
@[simp] theorem one_p (s : Nat) (rows : List AV) : one (.pslice s rows) = some (.pslice s rows) := rfl
@[simp] theorem one_h (s x off n : Nat) : one (.hslice s x off n) = some (.hslice s x off n) := rfl
@[simp] theorem one_nil : one .nilslice = some .nilslice := rfl
@[simp] theorem cells_agg (cs : List AV) : AV.cells (.agg cs) = cs := rfl
theorem idx_p {rows : List AV} {i : Nat} {row : List AV} (h : rows[i]? = some (.agg row)) : idx sz (.pslice sz rows) (.int k i) = some (.pptr row 0) := by
  simp [idx, h]
theorem idx_h {x off n i : Nat} (h : i < n) : idx sz (.hslice sz x off n) (.int k i) = some (.hptr x (off + i * sz)) := by
  simp [idx, h]
theorem rdN_p {row : List AV} {n : Nat} (h : row.length = n) : rdN n (.pptr row 0) σ = some row := by
  subst h; simp [rdN]

/-! ### rows of plain data -/
def encS (l : List ByteArray) : AV := .pslice 1 (l.map fun s => .agg [.str s])
def encI (l : List Int) : AV := .pslice 1 (l.map fun n => .agg [.int .i64 n])
@[simp] theorem len_encS (l : List ByteArray) : lenV .sl (encS l) σ = some (.int .i64 l.length) := by simp [encS]
@[simp] theorem len_encI (l : List Int) : lenV .sl (encI l) σ = some (.int .i64 l.length) := by simp [encI]
theorem idx_encS {l : List ByteArray} {i : Nat} {s : ByteArray} (h : l[i]? = some s) : idx 1 (encS l) (.int k i) = some (.pptr [.str s] 0) := idx_p (by simp [h])
theorem idx_encI {l : List Int} {i : Nat} {n : Int} (h : l[i]? = some n) : idx 1 (encI l) (.int k i) = some (.pptr [.int .i64 n] 0) := idx_p (by simp [h])
@[simp] theorem one_encS (l : List ByteArray) : one (encS l) = some (encS l) := rfl
@[simp] theorem one_encI (l : List Int) : one (encI l) = some (encI l) := rfl

/-! ### views of plain data -/
theorem mapM_same {α β : Type} (f : α → β) (g : β → Option β) (l : List α) (h : ∀ x, g (f x) = some (f x)) : (l.map f).mapM g = some (l.map f) := by
  induction l with
  | nil => rfl
  | cons x l ih => simp [List.mapM_cons, h, ih]
@[simp] theorem view_int (n : Nat) : view σ (n + 1) (.int k a) = some (.int k a) := rfl
@[simp] theorem view_bool (n : Nat) (b : Bool) : view σ (n + 1) (.bool b) = some (.bool b) := rfl
@[simp] theorem view_str (n : Nat) (s : ByteArray) : view σ (n + 1) (.str s) = some (.str s) := rfl
@[simp] theorem view_flt (n : Nat) (b : Nat) : view σ (n + 1) (.flt b) = some (.flt b) := rfl
@[simp] theorem view_encS (n : Nat) (l : List ByteArray) : view σ (n + 3) (encS l) = some (encS l) := by
  simp only [encS, view]
  rw [mapM_same]
  · rfl
  · intro x; simp [view]
@[simp] theorem view_encI (n : Nat) (l : List Int) : view σ (n + 3) (encI l) = some (encI l) := by
  simp only [encI, view]
  rw [mapM_same]
  · rfl
  · intro x; simp [view]

/-- A part of a tree. -/
structure LPart where
  kind : Int
  fro : Int
  to : Int
  line : Int
  op : Int
  num : Int
  flt : Nat
  text : ByteArray
  names : List ByteArray
  kids : List Int
def encPart (p : LPart) : List AV := [.int .i64 p.kind, .int .i64 p.fro, .int .i64 p.to, .int .i64 p.line, .int .i64 p.op, .int .i64 p.num, .flt p.flt, .str p.text, encS p.names, encI p.kids]
def encParts (l : List LPart) : AV := .pslice 10 (l.map fun p => .agg (encPart p))
def encTree (l : List LPart) : AV := .agg [encParts l]
theorem encPart_len (p : LPart) : (encPart p).length = 10 := rfl
@[simp] theorem view_part (n : Nat) (p : LPart) : view σ (n + 4) (.agg (encPart p)) = some (.agg (encPart p)) := by
  simp only [view, encPart, List.mapM_cons, List.mapM_nil]
  simp [view]
@[simp] theorem view_parts (n : Nat) (l : List LPart) : view σ (n + 5) (encParts l) = some (encParts l) := by
  simp only [encParts]
  rw [view]
  rw [mapM_same]
  · rfl
  · intro x; exact view_part n x
@[simp] theorem view_tree (n : Nat) (l : List LPart) : view σ (n + 6) (encTree l) = some (encTree l) := by
  simp only [encTree]
  rw [view]
  simp
@[simp] theorem one_encParts (l : List LPart) : one (encParts l) = some (encParts l) := rfl
@[simp] theorem len_encParts (l : List LPart) : lenV .sl (encParts l) σ = some (.int .i64 l.length) := by simp [encParts]
theorem idx_encParts {l : List LPart} {i : Nat} {p : LPart} (h : l[i]? = some p) : idx 10 (encParts l) (.int k i) = some (.pptr (encPart p) 0) := idx_p (by simp [h])
@[simp] theorem rdN_part (p : LPart) : rdN 10 (.pptr (encPart p) 0) σ = some (encPart p) := rdN_p rfl

theorem callV_eq {D : Ctx} {f : Nat} {args : List AV} {σ : Store} {v : AV} {σ' : Store} (h1 : args.mapM (view σ depth) = some args) (h2 : D.call f args Store.empty = some (v, σ')) (h3 : scal v = true) : callV D f args σ = some v := by
  simp [callV, h1, h2, h3]
theorem callP_eq {D : Ctx} {f : Nat} {args : List AV} {v u : AV} {σ' : Store} (h1 : args.mapM (view Store.empty depth) = some args) (h2 : D.call f args Store.empty = some (v, σ')) (h3 : view σ' depth v = some u) : callP D f args = some u := by
  simp [callP, h1, h2, h3]
end
end Go.Asm
