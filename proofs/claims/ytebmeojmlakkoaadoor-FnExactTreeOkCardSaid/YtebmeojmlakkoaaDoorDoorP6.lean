import Derived.Test.YtebmeojmlakkoaaDoorDoorP5
set_option linter.all false
namespace Go.Asm.DoorF
open Go Go.Asm
section
variable {D : Ctx} (H : Door D)
def kd (ks : List Int) (i : Int) : Int := ks.getD i.toNat 0
def exprs (ks : List Int) (a b : Int) : Bool := ((ks.take b.toNat).drop a.toNat).all isExpr
theorem kinds_len (l : List LPart) (p : LPart) : (kinds l p).length = p.kids.length := by simp [kinds]
/-- What the specification wants of a statement. -/
def stmtOk (p : LPart) (ks : List Int) : Bool :=
  let k : Int := ks.length
  if p.kind = 1 then ks.all isStat && bare p false false false false
  else if p.kind = 2 then bare p false false false true && named p 1 200 && exprs ks 0 k
  else if p.kind = 3 then bare p false false false true && named p 1 1 && decide (k = 1) && exprs ks 0 1
  else if p.kind = 4 then bare p false false false true && named p 1 1 && decide (k = 1) && decide (kd ks 0 = 36)
  else if p.kind = 5 then bare p false true false false && decide (1 ≤ p.num) && decide (p.num < k) && (ks.take p.num.toNat).all isTarget && exprs ks p.num k
  else if p.kind = 6 ∨ p.kind = 16 then bare p false false false false && decide (k = 1) && decide (kd ks 0 = 34)
  else if p.kind = 7 then bare p false false false false && decide (2 ≤ k) && decide (k ≤ 3) && exprs ks 0 1 && decide (kd ks 1 = 1) && (decide (k = 2) || decide (kd ks 2 = 1) || decide (kd ks 2 = 7))
  else if p.kind = 8 then bare p false false false false && decide (k = 2) && exprs ks 0 1 && decide (kd ks 1 = 1)
  else if p.kind = 9 then bare p false false false true && named p 1 1 && (decide (k = 3) || decide (k = 4)) && exprs ks 0 (k - 1) && decide (kd ks (k - 1) = 1)
  else if p.kind = 10 then bare p false false false true && named p 1 200 && decide (k = 2) && exprs ks 0 1 && decide (kd ks 1 = 1)
  else if p.kind = 11 ∨ p.kind = 12 then bare p false false false false && decide (k = 0)
  else if p.kind = 13 then bare p false false false false && exprs ks 0 k
  else if p.kind = 14 then bare p false false false true && named p 1 2 && decide (k = 2) && decide (kd ks 0 = 1) && decide (kd ks 1 = 1)
  else decide (p.kind = 15) && bare p false false false false && decide (k = 1) && exprs ks 0 1

/-- The calls that a check of a part makes. -/
structure Looks (D : Ctx) (l : List LPart) (p : LPart) : Prop where
  v33 : ∀ a b c d σ, callV D 33 [.agg (encPart p), .bool a, .bool b, .bool c, .bool d] σ = some (.bool (bare p a b c d))
  v34 : ∀ a b σ, callV D 34 [.agg (encPart p), .int .i64 a, .int .i64 b] σ = some (.bool (named p a b))
  v35 : ∀ (a b : Int) σ, 0 ≤ a → 0 ≤ b → b ≤ p.kids.length → callV D 35 [.agg [encParts l], .agg (encPart p), .int .i64 a, .int .i64 b] σ = some (.bool (exprs (kinds l p) a b))
  v32 : ∀ (i : Int) σ, 0 ≤ i → i < p.kids.length → callV D 32 [.agg [encParts l], .agg (encPart p), .int .i64 i] σ = some (.int .i64 (kd (kinds l p) i))
  v17 : ∀ k σ, callV D 17 [.int .i64 k] σ = some (.bool (isStat k))
  v36 : ∀ k σ, callV D 36 [.int .i64 k] σ = some (.bool (isTarget k))
  v37 : ∀ σ, callV D 37 [.str p.text] σ = some (.bool (nameOk p.text))
theorem looks (H : Door D) (l : List LPart) (p : LPart) (hp : p.Small) (hs : ∀ s ∈ p.names, s.size ≤ 1048576) (hk : KidsOk l p) : Looks D l p where
  v33 := fun a b c d σ => callV_eq (by simp [depth]) (l6bare H p a b c d Store.empty) rfl
  v34 := fun a b σ => callV_eq (by simp [depth]) (l6named H p hp.names hs a b Store.empty) rfl
  v35 := fun a b σ ha hb hl => by
    have ea : a = (a.toNat : Int) := by omega
    have eb : b = (b.toNat : Int) := by omega
    have := l6exprs H l p hk hp.kids a.toNat b.toNat (by omega) Store.empty
    rw [← ea, ← eb] at this
    exact callV_eq (args := [encTree l, .agg (encPart p), .int .i64 a, .int .i64 b]) (by simp [depth]) this rfl
  v32 := fun i σ h0 h1 => by
    have hil : i.toNat < p.kids.length := by omega
    have hse : p.kids[i.toNat]? = some p.kids[i.toNat] := List.getElem?_eq_getElem hil
    have hlo := hk.lo _ (List.getElem_mem hil)
    have hhi := hk.hi _ (List.getElem_mem hil)
    have hq : l[p.kids[i.toNat].toNat]? = some l[p.kids[i.toNat].toNat] := List.getElem?_eq_getElem hhi
    have := l6kid H l p _ i.toNat _ hse hlo hq Store.empty
    have ei : ((i.toNat : Nat) : Int) = i := by omega
    rw [ei] at this
    have ek : kd (kinds l p) i = l[p.kids[i.toNat].toNat].kind := by simp [kd, kinds, hse, hq]
    rw [ek]
    exact callV_eq (args := [encTree l, .agg (encPart p), .int .i64 i]) (by simp [depth]) this rfl
  v17 := fun k σ => callV_eq (by simp [depth]) (l6stat H k Store.empty) rfl
  v36 := fun k σ => callV_eq (by simp [depth]) (l6target H k Store.empty) rfl
  v37 := fun σ => callV_eq (by simp [depth]) (l6nameok H p.text hp.text Store.empty) rfl
end
end Go.Asm.DoorF
