import Derived.Test.YtebmeojmlakkoaaDoorDoorF
import Derived.Test.YtebmeojmlakkoaaDoorProg
import Derived.KernelRfl
set_option linter.all false
namespace Go.Asm.DoorF
open Go Go.Asm Go.Proofs
set_option maxRecDepth 100000
theorem ok_3 : fnOk Tryd.prog 3 ir_laws_FnExactTreeOk = true := by kernel_rfl
theorem ok_4 : fnOk Tryd.prog 4 ir_laws_szTree = true := by kernel_rfl
theorem ok_5 : fnOk Tryd.prog 5 ir_spec_TreeOk = true := by kernel_rfl
theorem ok_6 : fnOk Tryd.prog 6 ir_laws_toTree = true := by kernel_rfl
theorem ok_7 : fnOk Tryd.prog 7 ir_impl_TreeOk = true := by kernel_rfl
theorem ok_8 : fnOk Tryd.prog 8 ir_laws_eqWrong = true := by kernel_rfl
theorem ok_9 : fnOk Tryd.prog 9 ir_laws_eqTree = true := by kernel_rfl
theorem ok_10 : fnOk Tryd.prog 10 ir_laws_szPartS = true := by kernel_rfl
theorem ok_11 : fnOk Tryd.prog 11 ir_spec_l6nodeok = true := by kernel_rfl
theorem ok_12 : fnOk Tryd.prog 12 ir_spec_l6sizes = true := by kernel_rfl
theorem ok_13 : fnOk Tryd.prog 13 ir_laws_toPartS = true := by kernel_rfl
theorem ok_14 : fnOk Tryd.prog 14 ir_impl_partShape = true := by kernel_rfl
theorem ok_15 : fnOk Tryd.prog 15 ir_laws_eqPartS = true := by kernel_rfl
theorem ok_16 : fnOk Tryd.prog 16 ir_laws_szPart = true := by kernel_rfl
theorem ok_17 : fnOk Tryd.prog 17 ir_spec_l6stat = true := by kernel_rfl
theorem ok_18 : fnOk Tryd.prog 18 ir_spec_l6statement = true := by kernel_rfl
theorem ok_19 : fnOk Tryd.prog 19 ir_spec_l6expression = true := by kernel_rfl
theorem ok_20 : fnOk Tryd.prog 20 ir_laws_toPart = true := by kernel_rfl
theorem ok_21 : fnOk Tryd.prog 21 ir_impl_partShape_1 = true := by kernel_rfl
theorem ok_22 : fnOk Tryd.prog 22 ir_impl_partShape_2 = true := by kernel_rfl
theorem ok_23 : fnOk Tryd.prog 23 ir_impl_partShape_3 = true := by kernel_rfl
theorem ok_24 : fnOk Tryd.prog 24 ir_impl_partExpr = true := by kernel_rfl
theorem ok_25 : fnOk Tryd.prog 25 ir_impl_partStmt = true := by kernel_rfl
theorem ok_26 : fnOk Tryd.prog 26 ir_impl_partShape_4 = true := by kernel_rfl
theorem ok_27 : fnOk Tryd.prog 27 ir_impl_isName = true := by kernel_rfl
theorem ok_28 : fnOk Tryd.prog 28 ir_impl_partShape_5 = true := by kernel_rfl
theorem ok_29 : fnOk Tryd.prog 29 ir_laws_eqPart = true := by kernel_rfl
theorem ok_30 : fnOk Tryd.prog 30 ir_laws_szStringS = true := by kernel_rfl
theorem ok_31 : fnOk Tryd.prog 31 ir_laws_szIntS = true := by kernel_rfl
theorem ok_32 : fnOk Tryd.prog 32 ir_spec_l6kid = true := by kernel_rfl
theorem ok_33 : fnOk Tryd.prog 33 ir_spec_l6bare = true := by kernel_rfl
theorem ok_34 : fnOk Tryd.prog 34 ir_spec_l6named = true := by kernel_rfl
theorem ok_35 : fnOk Tryd.prog 35 ir_spec_l6exprs = true := by kernel_rfl
theorem ok_36 : fnOk Tryd.prog 36 ir_spec_l6target = true := by kernel_rfl
theorem ok_37 : fnOk Tryd.prog 37 ir_spec_l6nameok = true := by kernel_rfl
theorem ok_38 : fnOk Tryd.prog 38 ir_laws_toStringS = true := by kernel_rfl
theorem ok_39 : fnOk Tryd.prog 39 ir_laws_toIntS = true := by kernel_rfl
theorem ok_40 : fnOk Tryd.prog 40 ir_laws_sameFloat = true := by kernel_rfl
theorem ok_41 : fnOk Tryd.prog 41 ir_laws_eqStringS = true := by kernel_rfl
theorem ok_42 : fnOk Tryd.prog 42 ir_laws_eqIntS = true := by kernel_rfl
theorem ok_43 : fnOk Tryd.prog 43 ir_spec_l6expr = true := by kernel_rfl
theorem ok_44 : fnOk Tryd.prog 44 ir_spec_l6words = true := by kernel_rfl
theorem okAll : ∀ f ifn, fns f = some ifn → fnOk Tryd.prog f ifn = true := by
  intro f ifn h
  unfold fns at h
  split at h <;> first
    | (cases h; exact ok_3)
    | (cases h; exact ok_4)
    | (cases h; exact ok_5)
    | (cases h; exact ok_6)
    | (cases h; exact ok_7)
    | (cases h; exact ok_8)
    | (cases h; exact ok_9)
    | (cases h; exact ok_10)
    | (cases h; exact ok_11)
    | (cases h; exact ok_12)
    | (cases h; exact ok_13)
    | (cases h; exact ok_14)
    | (cases h; exact ok_15)
    | (cases h; exact ok_16)
    | (cases h; exact ok_17)
    | (cases h; exact ok_18)
    | (cases h; exact ok_19)
    | (cases h; exact ok_20)
    | (cases h; exact ok_21)
    | (cases h; exact ok_22)
    | (cases h; exact ok_23)
    | (cases h; exact ok_24)
    | (cases h; exact ok_25)
    | (cases h; exact ok_26)
    | (cases h; exact ok_27)
    | (cases h; exact ok_28)
    | (cases h; exact ok_29)
    | (cases h; exact ok_30)
    | (cases h; exact ok_31)
    | (cases h; exact ok_32)
    | (cases h; exact ok_33)
    | (cases h; exact ok_34)
    | (cases h; exact ok_35)
    | (cases h; exact ok_36)
    | (cases h; exact ok_37)
    | (cases h; exact ok_38)
    | (cases h; exact ok_39)
    | (cases h; exact ok_40)
    | (cases h; exact ok_41)
    | (cases h; exact ok_42)
    | (cases h; exact ok_43)
    | (cases h; exact ok_44)
    | cases h
end Go.Asm.DoorF
