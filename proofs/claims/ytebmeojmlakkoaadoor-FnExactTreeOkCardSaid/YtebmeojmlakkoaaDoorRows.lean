/-
  NARROWER THAN 'FOR EVERY INPUT', by the rows' own cells (each row's printed sentence says how): FnExactTreeOk: maps, laid.
  DERIVED. THE GIVEN ROWS OF THIS SEAT. 1 by the template 'for every input the law returns true; each argument reads behind the call as it read before'; 0 by the template 'total and deterministic' (their statements: YtebmeojmlakkoaaDoorTotals.lean).
  GIVEN WITH THE SEED: the statements are not yours to turn. If you find one false, say at which input.
  Laid BY PROGRAM, IN A SANDBOX (cutbox-rows.mjs): the forced cells as the released guide's own fill.sh prints them over the translation 836154c4ed4ee25e… (all of the seat's roots in one cut). By AI agents, Wed Nov 11 2026. No macro, syntax, notation, axiom, sorry.
-/
import Derived.Test.YtebmeojmlakkoaaDoorChecked
import GoSem.Claim
import GoSem.ClaimJoined
import GoSem.ClaimMapViews
import Derived.JoinedTies
import Derived.KernelRfl
namespace Go.Proofs.YtebmeojmlakkoaaDoor
/- THE CELL 'sum', in the pinned program and in every row, IS THE sha256 OF THE DUMP (.gsa) THAT YtebmeojmlakkoaaDoorProg.lean LOADS. Nothing in Lean hashes anything: it is a label: what it is worth is what the hold of that sum in a sandbox is worth. -/
noncomputable def Tryd.pinned : Pinned := { name := "ytebmeojmlakkoaadoor", sum := "836154c4ed4ee25eb927252767148c34a7c42eb401604eb99b3e4225bbbdfd36", checked := Tryd.checked }
namespace Rows
def none {H : Type} : Left H := { results := [], args := [] }

/- WHAT THE LISTED PACKAGE-LEVEL VARIABLES READ AS WHEN THE CALL BEGINS. Each datum BY PROGRAM (the guide's laid-datum.mjs) off the statement by which the dump's own 'gosem.cut.vars' lays the variable. In a bare row this is a premise. The card (YtebmeojmlakkoaaDoorCards.lean) ties it to the program's text. -/
def laid_loop_example_reed_impl_keyWords {H : Type} : DataW H := .map [(.string [97, 110, 100], .lit (.bool true)), (.string [98, 114, 101, 97, 107], .lit (.bool true)), (.string [99, 97, 116, 99, 104], .lit (.bool true)), (.string [99, 111, 110, 115, 116], .lit (.bool true)), (.string [100, 101, 102, 101, 114], .lit (.bool true)), (.string [101, 108, 105, 102], .lit (.bool true)), (.string [101, 108, 115, 101], .lit (.bool true)), (.string [102, 97, 108, 115, 101], .lit (.bool true)), (.string [102, 110], .lit (.bool true)), (.string [102, 111, 114], .lit (.bool true)), (.string [105, 102], .lit (.bool true)), (.string [105, 110], .lit (.bool true)), (.string [108, 101, 116], .lit (.bool true)), (.string [110, 101, 120, 116], .lit (.bool true)), (.string [110, 105, 108], .lit (.bool true)), (.string [110, 111, 116], .lit (.bool true)), (.string [111, 114], .lit (.bool true)), (.string [114, 101, 116, 117, 114, 110], .lit (.bool true)), (.string [116, 104, 114, 111, 119], .lit (.bool true)), (.string [116, 114, 117, 101], .lit (.bool true)), (.string [116, 114, 121], .lit (.bool true)), (.string [119, 104, 105, 108, 101], .lit (.bool true))]

/-- 'laws.FnExactTreeOk': WHATEVER THE INPUT: true; the input reads as it did. -/
def fnExactTreeOkSpec : ChangeSpec := { name := "fnExactTreeOk", vars := ["loop.example/reed/impl.keyWords"], fn := fun _ => fun
  | [d, g1] => { results := [.lit (.bool true)], args := [d], vars := [g1] }
  | _ => none }
def fnExactTreeOkRow : OpenClaim := { program := "ytebmeojmlakkoaadoor", sum := "836154c4ed4ee25eb927252767148c34a7c42eb401604eb99b3e4225bbbdfd36", func := "loop.example/reed/laws.FnExactTreeOk", spec := "fnExactTreeOk", unfollowed := true, recurses := true, named := ["loop.example/reed/impl.keyWords"], maps := true, apart := false, laid := [("loop.example/reed/impl.keyWords", laid_loop_example_reed_impl_keyWords)] }
def FnExactTreeOkSaid : Prop := fnExactTreeOkRow.holds Tryd.pinned (OpenSpec.ofChange fnExactTreeOkSpec)

/-- ITS FALSE NEIGHBOUR: 'it returns false'. Refute it at one input. -/
def fnExactTreeOkWrong : ChangeSpec := { name := "fnExactTreeOk", vars := ["loop.example/reed/impl.keyWords"], fn := fun _ => fun
  | [d, g1] => { results := [.lit (.bool false)], args := [d], vars := [g1] }
  | _ => none }
def FnExactTreeOkWrongFalsely : Prop := fnExactTreeOkRow.holds Tryd.pinned (OpenSpec.ofChange fnExactTreeOkWrong)

/- THE SECOND FORM. 'bulk': how many values and letters a reading holds, each counted each time it is reached (what is shared counts as often as it is met; a slice's spare places count too). A statement '..UptoSaid' is the law's where the arguments, and the package variables that the reading takes, are together of bulk at most 1048576: NARROWER than '..Said'. Prove '..Said' where nothing that the law and all that it calls make is longer than what came in: it says more and counts as full. Else prove '..UptoSaid'. A law counts once. -/
mutual
def uptoBulk {H : Type} : DataW H → Nat
  | .lit (.string bytes) => bytes.length + 1
  | .lit _ => 1
  | .nil => 1
  | .ptr d => uptoBulk d + 1
  | .slice elems spare => uptoBulkAll elems + uptoBulkAll spare + 1
  | .agg parts => uptoBulkAll parts + 1
  | .iface _ d => uptoBulk d + 1
  | .map entries => uptoBulkEntries entries + 1
  | .held _ => 1
def uptoBulkAll {H : Type} : List (DataW H) → Nat
  | [] => 0
  | d :: r => uptoBulk d + uptoBulkAll r
def uptoBulkEntries {H : Type} : List (Lit × DataW H) → Nat
  | [] => 0
  | x :: r => uptoBulkEntry x + uptoBulkEntries r
def uptoBulkEntry {H : Type} : Lit × DataW H → Nat
  | (.string bytes, d) => bytes.length + uptoBulk d + 1
  | (_, d) => uptoBulk d + 1
 end
def uptoSmall : (H : Type) → List (DataW H) → Bool := fun _ ds => decide (uptoBulkAll ds ≤ 1048576)
def OpenSpec.upto (s : _root_.Go.ChangeSpec) : _root_.Go.OpenSpec := { _root_.Go.OpenSpec.ofChange s with cond := some uptoSmall }

/-- 'laws.FnExactTreeOk', WHERE WHAT IT READS IS OF BULK AT MOST 1048576: true; the input reads as it did. -/
def fnExactTreeOkUptoRow : OpenClaim := { program := "ytebmeojmlakkoaadoor", sum := "836154c4ed4ee25eb927252767148c34a7c42eb401604eb99b3e4225bbbdfd36", func := "loop.example/reed/laws.FnExactTreeOk", spec := "fnExactTreeOk", unfollowed := true, recurses := true, named := ["loop.example/reed/impl.keyWords"], maps := true, apart := false, laid := [("loop.example/reed/impl.keyWords", laid_loop_example_reed_impl_keyWords)], narrowed := true }
def FnExactTreeOkUptoSaid : Prop := fnExactTreeOkUptoRow.holds Tryd.pinned (OpenSpec.upto fnExactTreeOkSpec)

end Rows
end Go.Proofs.YtebmeojmlakkoaaDoor
