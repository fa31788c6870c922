import Derived.Test.YtebmeojmlakkoaaDoorAsm23
import Derived.KernelRfl
import Derived.Test.YtebmeojmlakkoaaDoorDoorFa
set_option linter.all false
namespace Go.Asm.DoorF
open Go Go.Asm
set_option maxRecDepth 100000
/-- loop.example/reed/impl.partStmt: function 25 -/
def ir_impl_partStmt : IFn := ⟨[.tmp 2],
.seq (.reg (.op (some 2) (.mv (.c (.bool false))) (
  .done))) (
  .seq (.reg (.op (some 3) (.mv (.t 0)) (
  .op (some 4) (.bin .geq .num (.t 3) (.c (.int .i64 1))) (
  .op (some 5) (.mv (.t 4)) (
  .dia 5 (
  .gop 5 true (some 6) (.mv (.t 0)) (
  .gop 5 true (some 7) (.bin .leq .num (.t 6) (.c (.int .i64 16))) (
  .done))) 8 (.t 5) (.t 7) (.c (.bool false)) none (
  .op (some 2) (.mv (.t 8)) (
  .done))))))) (
  .ret))⟩
noncomputable def sh_impl_partStmt (D : Ctx) (a0 : AV) (σ : Store) : Res :=
  (bin .geq .num a0 (.int .i64 1)).bind fun t_1 =>
  jn 1 (fun t_2 s_3 =>
  some (t_2, s_3))
  (fun j_4 =>
  aCase t_1
  ((bin .leq .num a0 (.int .i64 16)).bind fun t_5 =>
  j_4 t_5 σ)
  (j_4 (.bool false) σ))
theorem sh_impl_partStmt_eq (D : Ctx) (a0 : AV) (σ : Store) : runFn D ir_impl_partStmt [a0] σ = sh_impl_partStmt D a0 σ := by kernel_rfl
/-- loop.example/reed/impl.partShape$4: function 26 -/
def ir_impl_partShape_4 : IFn := ⟨[.tmp 2],
.seq (.reg (.op (some 2) (.mv (.c (.bool false))) (
  .done))) (
  .seq (.reg (.op (some 3) (.mv (.t 0)) (
  .op (some 4) (.bin .eql .num (.t 3) (.c (.int .i64 26))) (
  .op (some 5) (.mv (.t 4)) (
  .dia 5 (
  .gop 5 false (some 6) (.mv (.t 0)) (
  .gop 5 false (some 7) (.bin .eql .num (.t 6) (.c (.int .i64 32))) (
  .done))) 8 (.t 5) (.c (.bool true)) (.t 7) none (
  .op (some 9) (.mv (.t 8)) (
  .dia 9 (
  .gop 9 false (some 10) (.mv (.t 0)) (
  .gop 9 false (some 11) (.bin .eql .num (.t 10) (.c (.int .i64 33))) (
  .done))) 12 (.t 9) (.c (.bool true)) (.t 11) none (
  .op (some 2) (.mv (.t 12)) (
  .done))))))))) (
  .ret))⟩
noncomputable def sh_impl_partShape_4 (D : Ctx) (a0 : AV) (σ : Store) : Res :=
  (bin .eql .num a0 (.int .i64 26)).bind fun t_1 =>
  jn 1 (fun t_2 s_3 =>
  jn 1 (fun t_5 s_6 =>
  some (t_5, s_6))
  (fun j_7 =>
  aCase t_2
  (j_7 (.bool true) s_3)
  ((bin .eql .num a0 (.int .i64 33)).bind fun t_8 =>
  j_7 t_8 s_3)))
  (fun j_4 =>
  aCase t_1
  (j_4 (.bool true) σ)
  ((bin .eql .num a0 (.int .i64 32)).bind fun t_9 =>
  j_4 t_9 σ))
theorem sh_impl_partShape_4_eq (D : Ctx) (a0 : AV) (σ : Store) : runFn D ir_impl_partShape_4 [a0] σ = sh_impl_partShape_4 D a0 σ := by kernel_rfl
/-- loop.example/reed/impl.isName: function 27 -/
def ir_impl_isName : IFn := ⟨[.tmp 2],
.seq (.reg (.op (some 2) (.mv (.c (.bool false))) (
  .done))) (
  .seq (.seq (.reg (.op (some 6) (.mv (.t 0)) (
  .op (some 7) (.len .str (.t 6)) (
  .op (some 8) (.bin .lss .num (.t 7) (.c (.int .i64 1))) (
  .op (some 9) (.mv (.t 8)) (
  .dia 9 (
  .gop 9 false (some 10) (.mv (.t 0)) (
  .gop 9 false (some 11) (.len .str (.t 10)) (
  .gop 9 false (some 12) (.bin .gtr .num (.t 11) (.c (.int .i64 40))) (
  .done)))) 13 (.t 9) (.c (.bool true)) (.t 12) none (
  .op (some 14) (.mv (.t 13)) (
  .dia 14 (
  .gop 14 false (some 15) (.load false 1 (.c (.gptr 0))) (
  .gop 14 false (some 16) (.mv (.t 0)) (
  .gop 14 false (some 17) (.look1 .str (.bool false) (.t 15) (.t 16)) (
  .done)))) 18 (.t 14) (.c (.bool true)) (.t 17) none (
  .done))))))))) (
  .cond (.t 18) none (.seq (.reg (.op (some 2) (.mv (.c (.bool false))) (
  .done))) (
  .ret)) (.skip))) (
  .seq (.seq (.reg (.op (some 3) (.mv (.c (.int .i64 0))) (
  .done))) (
  .block 0 (some ⟨[], []⟩) (
  .loop ⟨[3], []⟩ (
  .seq (.seq (.reg (.op (some 19) (.mv (.t 3)) (
  .op (some 20) (.mv (.t 0)) (
  .op (some 21) (.len .str (.t 20)) (
  .op (some 22) (.bin .lss .num (.t 19) (.t 21)) (
  .done)))))) (
  .cond (.t 22) none (.skip) (.exit 0))) (
  .seq (.block 1 none (
  .seq (.reg (.op (some 25) (.mv (.t 0)) (
  .op (some 26) (.mv (.t 3)) (
  .op (some 27) (.idxS (.t 25) (.t 26)) (
  .op (some 4) (.mv (.t 27)) (
  .done)))))) (
  .seq (.reg (.op (some 28) (.mv (.t 4)) (
  .op (some 29) (.bin .geq .num (.t 28) (.c (.int .u8 97))) (
  .op (some 30) (.mv (.t 29)) (
  .dia 30 (
  .gop 30 true (some 31) (.mv (.t 4)) (
  .gop 30 true (some 32) (.bin .leq .num (.t 31) (.c (.int .u8 122))) (
  .done))) 33 (.t 30) (.t 32) (.c (.bool false)) none (
  .op (some 34) (.mv (.t 33)) (
  .dia 34 (
  .gop 34 false (some 35) (.mv (.t 4)) (
  .gop 34 false (some 36) (.bin .geq .num (.t 35) (.c (.int .u8 65))) (
  .gop 34 false (some 37) (.mv (.t 36)) (
  .dia 37 (
  .gop 37 true (some 38) (.mv (.t 4)) (
  .gop 37 true (some 39) (.bin .leq .num (.t 38) (.c (.int .u8 90))) (
  .done))) 40 (.t 37) (.t 39) (.c (.bool false)) (some (34, false)) (
  .done))))) 41 (.t 34) (.c (.bool true)) (.t 40) none (
  .op (some 42) (.mv (.t 41)) (
  .dia 42 (
  .gop 42 false (some 43) (.mv (.t 4)) (
  .gop 42 false (some 44) (.bin .eql .num (.t 43) (.c (.int .u8 95))) (
  .done))) 45 (.t 42) (.c (.bool true)) (.t 44) none (
  .op (some 5) (.mv (.t 45)) (
  .done))))))))))) (
  .seq (.reg (.op (some 46) (.mv (.t 5)) (
  .op (some 47) (.un .not (.t 46)) (
  .op (some 48) (.mv (.t 47)) (
  .dia 48 (
  .gop 48 true (some 49) (.mv (.t 4)) (
  .gop 48 true (some 50) (.bin .lss .num (.t 49) (.c (.int .u8 48))) (
  .gop 48 true (some 51) (.mv (.t 50)) (
  .dia 51 (
  .gop 51 false (some 52) (.mv (.t 4)) (
  .gop 51 false (some 53) (.bin .gtr .num (.t 52) (.c (.int .u8 57))) (
  .done))) 54 (.t 51) (.c (.bool true)) (.t 53) (some (48, true)) (
  .gop 48 true (some 55) (.mv (.t 54)) (
  .dia 55 (
  .gop 55 false (some 56) (.mv (.t 3)) (
  .gop 55 false (some 57) (.bin .eql .num (.t 56) (.c (.int .i64 0))) (
  .done))) 58 (.t 55) (.c (.bool true)) (.t 57) (some (48, true)) (
  .done))))))) 59 (.t 48) (.t 58) (.c (.bool false)) none (
  .done)))))) (
  .cond (.t 59) none (.seq (.reg (.op (some 2) (.mv (.c (.bool false))) (
  .done))) (
  .ret)) (.skip)))))) (
  .reg (.op (some 23) (.mv (.t 3)) (
  .op (some 24) (.bin .add .num (.t 23) (.c (.int .i64 1))) (
  .op (some 3) (.mv (.t 24)) (
  .done)))))))))) (
  .seq (.reg (.op (some 2) (.mv (.c (.bool true))) (
  .done))) (
  .ret))))⟩
noncomputable def lp_impl_isName_1 (D : Ctx) (a0 : AV) (k_10 : Cur 0) : Cur 1 → Cur 1 :=
  fun go_13 i_11 s_12 =>
  (lenV .str a0 s_12).bind fun t_14 =>
  (bin .lss .num i_11 t_14).bind fun t_15 =>
  aCase t_15
  ((idxS a0 i_11).bind fun t_16 =>
  (bin .geq .num t_16 (.int .u8 97)).bind fun t_17 =>
  jn 1 (fun t_18 s_19 =>
  jn 1 (fun t_21 s_22 =>
  jn 1 (fun t_24 s_25 =>
  (un .not t_24).bind fun t_27 =>
  jn 1 (fun t_28 s_29 =>
  aCase t_28
  (some ((.bool false), s_29))
  ((bin .add .num i_11 (.int .i64 1)).bind fun t_31 =>
  go_13 t_31 s_29))
  (fun j_30 =>
  aCase t_27
  ((bin .lss .num t_16 (.int .u8 48)).bind fun t_32 =>
  jn 1 (fun t_33 s_34 =>
  jn 1 (fun t_36 s_37 =>
  j_30 t_36 s_37)
  (fun j_38 =>
  aCase t_33
  (j_38 (.bool true) s_34)
  ((bin .eql .num i_11 (.int .i64 0)).bind fun t_39 =>
  j_38 t_39 s_34)))
  (fun j_35 =>
  aCase t_32
  (j_35 (.bool true) s_25)
  ((bin .gtr .num t_16 (.int .u8 57)).bind fun t_40 =>
  j_35 t_40 s_25)))
  (j_30 (.bool false) s_25)))
  (fun j_26 =>
  aCase t_21
  (j_26 (.bool true) s_22)
  ((bin .eql .num t_16 (.int .u8 95)).bind fun t_41 =>
  j_26 t_41 s_22)))
  (fun j_23 =>
  aCase t_18
  (j_23 (.bool true) s_19)
  ((bin .geq .num t_16 (.int .u8 65)).bind fun t_42 =>
  jn 1 (fun t_43 s_44 =>
  j_23 t_43 s_44)
  (fun j_45 =>
  aCase t_42
  ((bin .leq .num t_16 (.int .u8 90)).bind fun t_46 =>
  j_45 t_46 s_19)
  (j_45 (.bool false) s_19)))))
  (fun j_20 =>
  aCase t_17
  ((bin .leq .num t_16 (.int .u8 122)).bind fun t_47 =>
  j_20 t_47 s_12)
  (j_20 (.bool false) s_12)))
  (k_10  s_12)
theorem lp_impl_isName_1_le {D : Ctx} (a0 : AV) (k_10 : Cur 0) {k_10' : Cur 0} (hk_10 : Cle k_10 k_10') {u u' : Cur 1} (h : Cle u u') : Cle (lp_impl_isName_1 D a0 k_10 u) (lp_impl_isName_1 D a0 k_10' u') := by
  unfold lp_impl_isName_1
  repeat (first
    | with_reducible refine Ole.bindr fun _ => ?_
    | with_reducible refine Ole.aCase ?_ ?_
    | refine Ole.jn ?_ (fun _ _ _ => ?_)
    | refine Cle.succ fun _ => ?_
    | refine Cle.zero fun _ => ?_
    | exact Cle.use0 (by assumption)
    | exact Cle.use1 (by assumption)
    | with_reducible exact Ole.refl _)
theorem lp_impl_isName_1_mono (D : Ctx) (a0 : AV) (k_10 : Cur 0) : Mono (lp_impl_isName_1 D a0 k_10) := fun _ _ h => lp_impl_isName_1_le a0 k_10 (Cle.refl _) h
noncomputable def sh_impl_isName (D : Ctx) (a0 : AV) (σ : Store) : Res :=
  (lenV .str a0 σ).bind fun t_1 =>
  (bin .lss .num t_1 (.int .i64 1)).bind fun t_2 =>
  jn 1 (fun t_3 s_4 =>
  jn 1 (fun t_6 s_7 =>
  aCase t_6
  (some ((.bool false), s_7))
  (jn 0 (fun  s_9 =>
  some ((.bool true), s_9))
  (fun k_10 =>
  lpFix 1 (lp_impl_isName_1 D a0 k_10) (.int .i64 0) s_7)))
  (fun j_8 =>
  aCase t_3
  (j_8 (.bool true) s_4)
  ((rd1 D.G (.gptr 0) s_4).bind fun t_48 =>
  (lookup1 .str (.bool false) t_48 a0 s_4).bind fun t_49 =>
  j_8 t_49 s_4)))
  (fun j_5 =>
  aCase t_2
  (j_5 (.bool true) σ)
  ((lenV .str a0 σ).bind fun t_50 =>
  (bin .gtr .num t_50 (.int .i64 40)).bind fun t_51 =>
  j_5 t_51 σ))
theorem sh_impl_isName_eq (D : Ctx) (a0 : AV) (σ : Store) : runFn D ir_impl_isName [a0] σ = sh_impl_isName D a0 σ := by kernel_rfl
/-- loop.example/reed/impl.partShape$5: function 28 -/
def ir_impl_partShape_5 : IFn := ⟨[.tmp 2],
.seq (.reg (.op (some 2) (.mv (.c (.bool false))) (
  .done))) (
  .seq (.reg (.op (some 3) (.mv (.t 0)) (
  .op (some 4) (.bin .geq .num (.t 3) (.c (.int .i64 40))) (
  .op (some 5) (.mv (.t 4)) (
  .dia 5 (
  .gop 5 true (some 6) (.mv (.t 0)) (
  .gop 5 true (some 7) (.bin .leq .num (.t 6) (.c (.int .i64 42))) (
  .done))) 8 (.t 5) (.t 7) (.c (.bool false)) none (
  .op (some 2) (.mv (.t 8)) (
  .done))))))) (
  .ret))⟩
noncomputable def sh_impl_partShape_5 (D : Ctx) (a0 : AV) (σ : Store) : Res :=
  (bin .geq .num a0 (.int .i64 40)).bind fun t_1 =>
  jn 1 (fun t_2 s_3 =>
  some (t_2, s_3))
  (fun j_4 =>
  aCase t_1
  ((bin .leq .num a0 (.int .i64 42)).bind fun t_5 =>
  j_4 t_5 σ)
  (j_4 (.bool false) σ))
theorem sh_impl_partShape_5_eq (D : Ctx) (a0 : AV) (σ : Store) : runFn D ir_impl_partShape_5 [a0] σ = sh_impl_partShape_5 D a0 σ := by kernel_rfl
/-- loop.example/reed/laws.eqPart: function 29 -/
def ir_laws_eqPart : IFn := ⟨[.tmp 4],
.seq (.reg (.op (some 2) (.pbox (.t 0)) (
  .op (some 3) (.pbox (.t 1)) (
  .op (some 4) (.mv (.c (.bool false))) (
  .done))))) (
  .seq (.seq (.reg (.op (some 5) (.fadd 0 (.t 2)) (
  .op (some 6) (.load false 1 (.t 5)) (
  .op (some 7) (.fadd 0 (.t 3)) (
  .op (some 8) (.load false 1 (.t 7)) (
  .op (some 9) (.bin .neq .num (.t 6) (.t 8)) (
  .done))))))) (
  .cond (.t 9) none (.seq (.reg (.op (some 4) (.mv (.c (.bool false))) (
  .done))) (
  .ret)) (.skip))) (
  .seq (.seq (.reg (.op (some 10) (.fadd 1 (.t 2)) (
  .op (some 11) (.load false 1 (.t 10)) (
  .op (some 12) (.fadd 1 (.t 3)) (
  .op (some 13) (.load false 1 (.t 12)) (
  .op (some 14) (.bin .neq .num (.t 11) (.t 13)) (
  .done))))))) (
  .cond (.t 14) none (.seq (.reg (.op (some 4) (.mv (.c (.bool false))) (
  .done))) (
  .ret)) (.skip))) (
  .seq (.seq (.reg (.op (some 15) (.fadd 2 (.t 2)) (
  .op (some 16) (.load false 1 (.t 15)) (
  .op (some 17) (.fadd 2 (.t 3)) (
  .op (some 18) (.load false 1 (.t 17)) (
  .op (some 19) (.bin .neq .num (.t 16) (.t 18)) (
  .done))))))) (
  .cond (.t 19) none (.seq (.reg (.op (some 4) (.mv (.c (.bool false))) (
  .done))) (
  .ret)) (.skip))) (
  .seq (.seq (.reg (.op (some 20) (.fadd 3 (.t 2)) (
  .op (some 21) (.load false 1 (.t 20)) (
  .op (some 22) (.fadd 3 (.t 3)) (
  .op (some 23) (.load false 1 (.t 22)) (
  .op (some 24) (.bin .neq .num (.t 21) (.t 23)) (
  .done))))))) (
  .cond (.t 24) none (.seq (.reg (.op (some 4) (.mv (.c (.bool false))) (
  .done))) (
  .ret)) (.skip))) (
  .seq (.seq (.reg (.op (some 25) (.fadd 4 (.t 2)) (
  .op (some 26) (.load false 1 (.t 25)) (
  .op (some 27) (.fadd 4 (.t 3)) (
  .op (some 28) (.load false 1 (.t 27)) (
  .op (some 29) (.bin .neq .num (.t 26) (.t 28)) (
  .done))))))) (
  .cond (.t 29) none (.seq (.reg (.op (some 4) (.mv (.c (.bool false))) (
  .done))) (
  .ret)) (.skip))) (
  .seq (.seq (.reg (.op (some 30) (.fadd 5 (.t 2)) (
  .op (some 31) (.load false 1 (.t 30)) (
  .op (some 32) (.fadd 5 (.t 3)) (
  .op (some 33) (.load false 1 (.t 32)) (
  .op (some 34) (.bin .neq .num (.t 31) (.t 33)) (
  .done))))))) (
  .cond (.t 34) none (.seq (.reg (.op (some 4) (.mv (.c (.bool false))) (
  .done))) (
  .ret)) (.skip))) (
  .seq (.seq (.reg (.op (some 35) (.fadd 6 (.t 2)) (
  .op (some 36) (.load false 1 (.t 35)) (
  .op (some 37) (.fadd 6 (.t 3)) (
  .op (some 38) (.load false 1 (.t 37)) (
  .op (some 39) (.callV 40 [(.t 36), (.t 38)]) (
  .op (some 40) (.un .not (.t 39)) (
  .done)))))))) (
  .cond (.t 40) none (.seq (.reg (.op (some 4) (.mv (.c (.bool false))) (
  .done))) (
  .ret)) (.skip))) (
  .seq (.seq (.reg (.op (some 41) (.fadd 7 (.t 2)) (
  .op (some 42) (.load false 1 (.t 41)) (
  .op (some 43) (.fadd 7 (.t 3)) (
  .op (some 44) (.load false 1 (.t 43)) (
  .op (some 45) (.bin .neq .num (.t 42) (.t 44)) (
  .done))))))) (
  .cond (.t 45) none (.seq (.reg (.op (some 4) (.mv (.c (.bool false))) (
  .done))) (
  .ret)) (.skip))) (
  .seq (.seq (.reg (.op (some 46) (.fadd 8 (.t 2)) (
  .op (some 47) (.load false 1 (.t 46)) (
  .op (some 48) (.fadd 8 (.t 3)) (
  .op (some 49) (.load false 1 (.t 48)) (
  .op (some 50) (.callV 41 [(.t 47), (.t 49)]) (
  .op (some 51) (.un .not (.t 50)) (
  .done)))))))) (
  .cond (.t 51) none (.seq (.reg (.op (some 4) (.mv (.c (.bool false))) (
  .done))) (
  .ret)) (.skip))) (
  .seq (.seq (.reg (.op (some 52) (.fadd 9 (.t 2)) (
  .op (some 53) (.load false 1 (.t 52)) (
  .op (some 54) (.fadd 9 (.t 3)) (
  .op (some 55) (.load false 1 (.t 54)) (
  .op (some 56) (.callV 42 [(.t 53), (.t 55)]) (
  .op (some 57) (.un .not (.t 56)) (
  .done)))))))) (
  .cond (.t 57) none (.seq (.reg (.op (some 4) (.mv (.c (.bool false))) (
  .done))) (
  .ret)) (.skip))) (
  .seq (.reg (.op (some 4) (.mv (.c (.bool true))) (
  .done))) (
  .ret))))))))))))⟩
noncomputable def sh_laws_eqPart (D : Ctx) (a0 a1 : AV) (σ : Store) : Res :=
  (rd1 D.G (.pptr (AV.cells a0) 0) σ).bind fun t_1 =>
  (rd1 D.G (.pptr (AV.cells a1) 0) σ).bind fun t_2 =>
  (bin .neq .num t_1 t_2).bind fun t_3 =>
  aCase t_3
  (some ((.bool false), σ))
  ((rd1 D.G (.pptr (AV.cells a0) 1) σ).bind fun t_4 =>
  (rd1 D.G (.pptr (AV.cells a1) 1) σ).bind fun t_5 =>
  (bin .neq .num t_4 t_5).bind fun t_6 =>
  aCase t_6
  (some ((.bool false), σ))
  ((rd1 D.G (.pptr (AV.cells a0) 2) σ).bind fun t_7 =>
  (rd1 D.G (.pptr (AV.cells a1) 2) σ).bind fun t_8 =>
  (bin .neq .num t_7 t_8).bind fun t_9 =>
  aCase t_9
  (some ((.bool false), σ))
  ((rd1 D.G (.pptr (AV.cells a0) 3) σ).bind fun t_10 =>
  (rd1 D.G (.pptr (AV.cells a1) 3) σ).bind fun t_11 =>
  (bin .neq .num t_10 t_11).bind fun t_12 =>
  aCase t_12
  (some ((.bool false), σ))
  ((rd1 D.G (.pptr (AV.cells a0) 4) σ).bind fun t_13 =>
  (rd1 D.G (.pptr (AV.cells a1) 4) σ).bind fun t_14 =>
  (bin .neq .num t_13 t_14).bind fun t_15 =>
  aCase t_15
  (some ((.bool false), σ))
  ((rd1 D.G (.pptr (AV.cells a0) 5) σ).bind fun t_16 =>
  (rd1 D.G (.pptr (AV.cells a1) 5) σ).bind fun t_17 =>
  (bin .neq .num t_16 t_17).bind fun t_18 =>
  aCase t_18
  (some ((.bool false), σ))
  ((rd1 D.G (.pptr (AV.cells a0) 6) σ).bind fun t_19 =>
  (rd1 D.G (.pptr (AV.cells a1) 6) σ).bind fun t_20 =>
  (callV D 40 [t_19, t_20] σ).bind fun t_21 =>
  (un .not t_21).bind fun t_22 =>
  aCase t_22
  (some ((.bool false), σ))
  ((rd1 D.G (.pptr (AV.cells a0) 7) σ).bind fun t_23 =>
  (rd1 D.G (.pptr (AV.cells a1) 7) σ).bind fun t_24 =>
  (bin .neq .num t_23 t_24).bind fun t_25 =>
  aCase t_25
  (some ((.bool false), σ))
  ((rd1 D.G (.pptr (AV.cells a0) 8) σ).bind fun t_26 =>
  (rd1 D.G (.pptr (AV.cells a1) 8) σ).bind fun t_27 =>
  (callV D 41 [t_26, t_27] σ).bind fun t_28 =>
  (un .not t_28).bind fun t_29 =>
  aCase t_29
  (some ((.bool false), σ))
  ((rd1 D.G (.pptr (AV.cells a0) 9) σ).bind fun t_30 =>
  (rd1 D.G (.pptr (AV.cells a1) 9) σ).bind fun t_31 =>
  (callV D 42 [t_30, t_31] σ).bind fun t_32 =>
  (un .not t_32).bind fun t_33 =>
  aCase t_33
  (some ((.bool false), σ))
  (some ((.bool true), σ)))))))))))
theorem sh_laws_eqPart_eq (D : Ctx) (a0 a1 : AV) (σ : Store) : runFn D ir_laws_eqPart [a0, a1] σ = sh_laws_eqPart D a0 a1 σ := by kernel_rfl
/-- loop.example/reed/laws.szStringS: function 30 -/
def ir_laws_szStringS : IFn := ⟨[.tmp 4],
.seq (.reg (.op (some 4) (.mv (.c (.int .i64 0))) (
  .done))) (
  .seq (.reg (.op (some 6) (.mv (.t 1)) (
  .op (some 7) (.mv (.t 0)) (
  .op (some 8) (.len .sl (.t 7)) (
  .op (some 9) (.bin .sub .num (.t 6) (.t 8)) (
  .op (some 1) (.mv (.t 9)) (
  .done))))))) (
  .seq (.seq (.reg (.op (some 10) (.mv (.t 1)) (
  .op (some 11) (.bin .lss .num (.t 10) (.c (.int .i64 0))) (
  .done)))) (
  .cond (.t 11) none (.seq (.reg (.op (some 4) (.mv (.c (.int .i64 (-1)))) (
  .done))) (
  .ret)) (.skip))) (
  .seq (.seq (.reg (.op (some 5) (.mv (.c (.int .i64 0))) (
  .done))) (
  .block 0 (some ⟨[1], []⟩) (
  .loop ⟨[1, 5], []⟩ (
  .seq (.seq (.reg (.op (some 12) (.mv (.t 5)) (
  .op (some 13) (.mv (.t 0)) (
  .op (some 14) (.len .sl (.t 13)) (
  .op (some 15) (.bin .lss .num (.t 12) (.t 14)) (
  .done)))))) (
  .cond (.t 15) none (.skip) (.exit 0))) (
  .seq (.block 1 none (
  .seq (.reg (.op (some 18) (.mv (.t 1)) (
  .op (some 19) (.mv (.t 0)) (
  .op (some 20) (.mv (.t 5)) (
  .op (some 21) (.idx 1 (.t 19) (.t 20)) (
  .op (some 22) (.load false 1 (.t 21)) (
  .op (some 23) (.len .str (.t 22)) (
  .op (some 24) (.bin .sub .num (.t 18) (.t 23)) (
  .op (some 1) (.mv (.t 24)) (
  .done)))))))))) (
  .seq (.reg (.op (some 25) (.mv (.t 1)) (
  .op (some 26) (.bin .lss .num (.t 25) (.c (.int .i64 0))) (
  .done)))) (
  .cond (.t 26) none (.seq (.reg (.op (some 4) (.mv (.c (.int .i64 (-1)))) (
  .done))) (
  .ret)) (.skip))))) (
  .reg (.op (some 16) (.mv (.t 5)) (
  .op (some 17) (.bin .add .num (.t 16) (.c (.int .i64 1))) (
  .op (some 5) (.mv (.t 17)) (
  .done)))))))))) (
  .seq (.reg (.op (some 27) (.mv (.t 1)) (
  .op (some 4) (.mv (.t 27)) (
  .done)))) (
  .ret)))))⟩
noncomputable def lp_laws_szStringS_1 (D : Ctx) (a0 : AV) (k_6 : Cur 1) : Cur 2 → Cur 2 :=
  fun go_10 left_7 i_8 s_9 =>
  (lenV .sl a0 s_9).bind fun t_11 =>
  (bin .lss .num i_8 t_11).bind fun t_12 =>
  aCase t_12
  ((idx 1 a0 i_8).bind fun t_13 =>
  (rd1 D.G t_13 s_9).bind fun t_14 =>
  (lenV .str t_14 s_9).bind fun t_15 =>
  (bin .sub .num left_7 t_15).bind fun t_16 =>
  (bin .lss .num t_16 (.int .i64 0)).bind fun t_17 =>
  aCase t_17
  (some ((.int .i64 (-1)), s_9))
  ((bin .add .num i_8 (.int .i64 1)).bind fun t_18 =>
  go_10 t_16 t_18 s_9))
  (k_6 left_7 s_9)
theorem lp_laws_szStringS_1_le {D : Ctx} (a0 : AV) (k_6 : Cur 1) {k_6' : Cur 1} (hk_6 : Cle k_6 k_6') {u u' : Cur 2} (h : Cle u u') : Cle (lp_laws_szStringS_1 D a0 k_6 u) (lp_laws_szStringS_1 D a0 k_6' u') := by
  unfold lp_laws_szStringS_1
  repeat (first
    | with_reducible refine Ole.bindr fun _ => ?_
    | with_reducible refine Ole.aCase ?_ ?_
    | refine Ole.jn ?_ (fun _ _ _ => ?_)
    | refine Cle.succ fun _ => ?_
    | refine Cle.zero fun _ => ?_
    | exact Cle.use1 (by assumption)
    | exact Cle.use2 (by assumption)
    | with_reducible exact Ole.refl _)
theorem lp_laws_szStringS_1_mono (D : Ctx) (a0 : AV) (k_6 : Cur 1) : Mono (lp_laws_szStringS_1 D a0 k_6) := fun _ _ h => lp_laws_szStringS_1_le a0 k_6 (Cle.refl _) h
noncomputable def sh_laws_szStringS (D : Ctx) (a0 a1 : AV) (σ : Store) : Res :=
  (lenV .sl a0 σ).bind fun t_1 =>
  (bin .sub .num a1 t_1).bind fun t_2 =>
  (bin .lss .num t_2 (.int .i64 0)).bind fun t_3 =>
  aCase t_3
  (some ((.int .i64 (-1)), σ))
  (jn 1 (fun left_4 s_5 =>
  some (left_4, s_5))
  (fun k_6 =>
  lpFix 2 (lp_laws_szStringS_1 D a0 k_6) t_2 (.int .i64 0) σ))
theorem sh_laws_szStringS_eq (D : Ctx) (a0 a1 : AV) (σ : Store) : runFn D ir_laws_szStringS [a0, a1] σ = sh_laws_szStringS D a0 a1 σ := by kernel_rfl
/-- loop.example/reed/laws.szIntS: function 31 -/
def ir_laws_szIntS : IFn := ⟨[.tmp 4],
.seq (.reg (.op (some 4) (.mv (.c (.int .i64 0))) (
  .done))) (
  .seq (.reg (.op (some 5) (.mv (.t 1)) (
  .op (some 6) (.mv (.t 0)) (
  .op (some 7) (.len .sl (.t 6)) (
  .op (some 8) (.bin .sub .num (.t 5) (.t 7)) (
  .op (some 1) (.mv (.t 8)) (
  .done))))))) (
  .seq (.seq (.reg (.op (some 9) (.mv (.t 1)) (
  .op (some 10) (.bin .lss .num (.t 9) (.c (.int .i64 0))) (
  .done)))) (
  .cond (.t 10) none (.seq (.reg (.op (some 4) (.mv (.c (.int .i64 (-1)))) (
  .done))) (
  .ret)) (.skip))) (
  .seq (.reg (.op (some 11) (.mv (.t 1)) (
  .op (some 4) (.mv (.t 11)) (
  .done)))) (
  .ret))))⟩
noncomputable def sh_laws_szIntS (D : Ctx) (a0 a1 : AV) (σ : Store) : Res :=
  (lenV .sl a0 σ).bind fun t_1 =>
  (bin .sub .num a1 t_1).bind fun t_2 =>
  (bin .lss .num t_2 (.int .i64 0)).bind fun t_3 =>
  aCase t_3
  (some ((.int .i64 (-1)), σ))
  (some (t_2, σ))
theorem sh_laws_szIntS_eq (D : Ctx) (a0 a1 : AV) (σ : Store) : runFn D ir_laws_szIntS [a0, a1] σ = sh_laws_szIntS D a0 a1 σ := by kernel_rfl
/-- loop.example/reed/spec.l6kid: function 32 -/
def ir_spec_l6kid : IFn := ⟨[.tmp 6],
.seq (.reg (.op (some 3) (.pbox (.t 0)) (
  .op (some 4) (.pbox (.t 1)) (
  .op (some 6) (.mv (.c (.int .i64 0))) (
  .done))))) (
  .seq (.reg (.op (some 7) (.fadd 0 (.t 3)) (
  .op (some 8) (.load false 1 (.t 7)) (
  .op (some 9) (.fadd 9 (.t 4)) (
  .op (some 10) (.load false 1 (.t 9)) (
  .op (some 11) (.mv (.t 2)) (
  .op (some 12) (.idx 1 (.t 10) (.t 11)) (
  .op (some 13) (.load false 1 (.t 12)) (
  .op (some 14) (.idx 10 (.t 8) (.t 13)) (
  .op (some 15) (.fadd 0 (.t 14)) (
  .op (some 16) (.load false 1 (.t 15)) (
  .op (some 6) (.mv (.t 16)) (
  .done))))))))))))) (
  .ret))⟩
noncomputable def sh_spec_l6kid (D : Ctx) (a0 a1 a2 : AV) (σ : Store) : Res :=
  (rd1 D.G (.pptr (AV.cells a0) 0) σ).bind fun t_1 =>
  (rd1 D.G (.pptr (AV.cells a1) 9) σ).bind fun t_2 =>
  (idx 1 t_2 a2).bind fun t_3 =>
  (rd1 D.G t_3 σ).bind fun t_4 =>
  (idx 10 t_1 t_4).bind fun t_5 =>
  (fadd t_5 0).bind fun t_6 =>
  (rd1 D.G t_6 σ).bind fun t_7 =>
  some (t_7, σ)
theorem sh_spec_l6kid_eq (D : Ctx) (a0 a1 a2 : AV) (σ : Store) : runFn D ir_spec_l6kid [a0, a1, a2] σ = sh_spec_l6kid D a0 a1 a2 σ := by kernel_rfl
/-- loop.example/reed/spec.l6bare: function 33 -/
def ir_spec_l6bare : IFn := ⟨[.tmp 10],
.seq (.reg (.op (some 5) (.pbox (.t 0)) (
  .op (some 10) (.mv (.c (.bool false))) (
  .done)))) (
  .seq (.reg (.op (some 11) (.mv (.t 1)) (
  .op (some 12) (.mv (.t 11)) (
  .dia 12 (
  .gop 12 false (some 13) (.fadd 4 (.t 5)) (
  .gop 12 false (some 14) (.load false 1 (.t 13)) (
  .gop 12 false (some 15) (.bin .eql .num (.t 14) (.c (.int .i64 0))) (
  .done)))) 16 (.t 12) (.c (.bool true)) (.t 15) none (
  .op (some 17) (.mv (.t 16)) (
  .dia 17 (
  .gop 17 true (some 18) (.mv (.t 2)) (
  .gop 17 true (some 19) (.mv (.t 18)) (
  .dia 19 (
  .gop 19 false (some 20) (.fadd 5 (.t 5)) (
  .gop 19 false (some 21) (.load false 1 (.t 20)) (
  .gop 19 false (some 22) (.bin .eql .num (.t 21) (.c (.int .i64 0))) (
  .done)))) 23 (.t 19) (.c (.bool true)) (.t 22) (some (17, true)) (
  .done)))) 24 (.t 17) (.t 23) (.c (.bool false)) none (
  .op (some 25) (.mv (.t 24)) (
  .dia 25 (
  .gop 25 true (some 26) (.fadd 6 (.t 5)) (
  .gop 25 true (some 27) (.load false 1 (.t 26)) (
  .gop 25 true (some 28) (.bin .eql .num (.t 27) (.c (.flt 0))) (
  .done)))) 29 (.t 25) (.t 28) (.c (.bool false)) none (
  .op (some 30) (.mv (.t 29)) (
  .dia 30 (
  .gop 30 true (some 31) (.mv (.t 3)) (
  .gop 30 true (some 32) (.mv (.t 31)) (
  .dia 32 (
  .gop 32 false (some 33) (.fadd 7 (.t 5)) (
  .gop 32 false (some 34) (.load false 1 (.t 33)) (
  .gop 32 false (some 35) (.bin .eql .num (.t 34) (.c (.str ⟨#[]⟩))) (
  .done)))) 36 (.t 32) (.c (.bool true)) (.t 35) (some (30, true)) (
  .done)))) 37 (.t 30) (.t 36) (.c (.bool false)) none (
  .op (some 38) (.mv (.t 37)) (
  .dia 38 (
  .gop 38 true (some 39) (.mv (.t 4)) (
  .gop 38 true (some 40) (.mv (.t 39)) (
  .dia 40 (
  .gop 40 false (some 41) (.fadd 8 (.t 5)) (
  .gop 40 false (some 42) (.load false 1 (.t 41)) (
  .gop 40 false (some 43) (.len .sl (.t 42)) (
  .gop 40 false (some 44) (.bin .eql .num (.t 43) (.c (.int .i64 0))) (
  .done))))) 45 (.t 40) (.c (.bool true)) (.t 44) (some (38, true)) (
  .done)))) 46 (.t 38) (.t 45) (.c (.bool false)) none (
  .op (some 10) (.mv (.t 46)) (
  .done)))))))))))))) (
  .ret))⟩
noncomputable def sh_spec_l6bare (D : Ctx) (a0 a1 a2 a3 a4 : AV) (σ : Store) : Res :=
  jn 1 (fun t_1 s_2 =>
  jn 1 (fun t_4 s_5 =>
  jn 1 (fun t_7 s_8 =>
  jn 1 (fun t_10 s_11 =>
  jn 1 (fun t_13 s_14 =>
  some (t_13, s_14))
  (fun j_15 =>
  aCase t_10
  (jn 1 (fun t_16 s_17 =>
  j_15 t_16 s_17)
  (fun j_18 =>
  aCase a4
  (j_18 (.bool true) s_11)
  ((rd1 D.G (.pptr (AV.cells a0) 8) s_11).bind fun t_19 =>
  (lenV .sl t_19 s_11).bind fun t_20 =>
  (bin .eql .num t_20 (.int .i64 0)).bind fun t_21 =>
  j_18 t_21 s_11)))
  (j_15 (.bool false) s_11)))
  (fun j_12 =>
  aCase t_7
  (jn 1 (fun t_22 s_23 =>
  j_12 t_22 s_23)
  (fun j_24 =>
  aCase a3
  (j_24 (.bool true) s_8)
  ((rd1 D.G (.pptr (AV.cells a0) 7) s_8).bind fun t_25 =>
  (bin .eql .num t_25 (.str ⟨#[]⟩)).bind fun t_26 =>
  j_24 t_26 s_8)))
  (j_12 (.bool false) s_8)))
  (fun j_9 =>
  aCase t_4
  ((rd1 D.G (.pptr (AV.cells a0) 6) s_5).bind fun t_27 =>
  (bin .eql .num t_27 (.flt 0)).bind fun t_28 =>
  j_9 t_28 s_5)
  (j_9 (.bool false) s_5)))
  (fun j_6 =>
  aCase t_1
  (jn 1 (fun t_29 s_30 =>
  j_6 t_29 s_30)
  (fun j_31 =>
  aCase a2
  (j_31 (.bool true) s_2)
  ((rd1 D.G (.pptr (AV.cells a0) 5) s_2).bind fun t_32 =>
  (bin .eql .num t_32 (.int .i64 0)).bind fun t_33 =>
  j_31 t_33 s_2)))
  (j_6 (.bool false) s_2)))
  (fun j_3 =>
  aCase a1
  (j_3 (.bool true) σ)
  ((rd1 D.G (.pptr (AV.cells a0) 4) σ).bind fun t_34 =>
  (bin .eql .num t_34 (.int .i64 0)).bind fun t_35 =>
  j_3 t_35 σ))
theorem sh_spec_l6bare_eq (D : Ctx) (a0 a1 a2 a3 a4 : AV) (σ : Store) : runFn D ir_spec_l6bare [a0, a1, a2, a3, a4] σ = sh_spec_l6bare D a0 a1 a2 a3 a4 σ := by kernel_rfl
/-- loop.example/reed/spec.l6named: function 34 -/
def ir_spec_l6named : IFn := ⟨[.tmp 6],
.seq (.reg (.op (some 3) (.pbox (.t 0)) (
  .op (some 6) (.mv (.c (.bool false))) (
  .done)))) (
  .seq (.seq (.reg (.op (some 9) (.fadd 8 (.t 3)) (
  .op (some 10) (.load false 1 (.t 9)) (
  .op (some 11) (.len .sl (.t 10)) (
  .op (some 12) (.mv (.t 1)) (
  .op (some 13) (.bin .lss .num (.t 11) (.t 12)) (
  .op (some 14) (.mv (.t 13)) (
  .dia 14 (
  .gop 14 false (some 15) (.fadd 8 (.t 3)) (
  .gop 14 false (some 16) (.load false 1 (.t 15)) (
  .gop 14 false (some 17) (.len .sl (.t 16)) (
  .gop 14 false (some 18) (.mv (.t 2)) (
  .gop 14 false (some 19) (.bin .gtr .num (.t 17) (.t 18)) (
  .done)))))) 20 (.t 14) (.c (.bool true)) (.t 19) none (
  .done))))))))) (
  .cond (.t 20) none (.seq (.reg (.op (some 6) (.mv (.c (.bool false))) (
  .done))) (
  .ret)) (.skip))) (
  .seq (.seq (.reg (.op (some 21) (.fadd 8 (.t 3)) (
  .op (some 22) (.load false 1 (.t 21)) (
  .op (some 23) (.len .sl (.t 22)) (
  .op (some 24) (.mv (.c (.int .i64 0))) (
  .done)))))) (
  .block 0 (some ⟨[], []⟩) (
  .loop ⟨[24], []⟩ (
  .seq (.reg (.op (some 25) (.bin .lss .num (.t 24) (.t 23)) (
  .done))) (
  .seq (.cond (.t 25) none (.skip) (.exit 0)) (
  .seq (.block 1 none (
  .seq (.reg (.op (some 26) (.idx 1 (.t 22) (.t 24)) (
  .op (some 27) (.load false 1 (.t 26)) (
  .op (some 8) (.mv (.t 27)) (
  .done))))) (
  .seq (.reg (.op (some 28) (.mv (.t 8)) (
  .op (some 29) (.callV 37 [(.t 28)]) (
  .op (some 30) (.un .not (.t 29)) (
  .done))))) (
  .cond (.t 30) none (.seq (.reg (.op (some 6) (.mv (.c (.bool false))) (
  .done))) (
  .ret)) (.skip))))) (
  .reg (.op (some 31) (.bin .add .num (.t 24) (.c (.int .i64 1))) (
  .op (some 24) (.mv (.t 31)) (
  .done)))))))))) (
  .seq (.reg (.op (some 6) (.mv (.c (.bool true))) (
  .done))) (
  .ret))))⟩
noncomputable def lp_spec_l6named_1 (D : Ctx) (t_8 : AV) (t_7 : AV) (k_10 : Cur 0) : Cur 1 → Cur 1 :=
  fun go_13 t_11 s_12 =>
  (bin .lss .num t_11 t_8).bind fun t_14 =>
  aCase t_14
  ((idx 1 t_7 t_11).bind fun t_15 =>
  (rd1 D.G t_15 s_12).bind fun t_16 =>
  (callV D 37 [t_16] s_12).bind fun t_17 =>
  (un .not t_17).bind fun t_18 =>
  aCase t_18
  (some ((.bool false), s_12))
  ((bin .add .num t_11 (.int .i64 1)).bind fun t_19 =>
  go_13 t_19 s_12))
  (k_10  s_12)
theorem lp_spec_l6named_1_le {D : Ctx} (t_8 : AV) (t_7 : AV) (k_10 : Cur 0) {k_10' : Cur 0} (hk_10 : Cle k_10 k_10') {u u' : Cur 1} (h : Cle u u') : Cle (lp_spec_l6named_1 D t_8 t_7 k_10 u) (lp_spec_l6named_1 D t_8 t_7 k_10' u') := by
  unfold lp_spec_l6named_1
  repeat (first
    | with_reducible refine Ole.bindr fun _ => ?_
    | with_reducible refine Ole.aCase ?_ ?_
    | refine Ole.jn ?_ (fun _ _ _ => ?_)
    | refine Cle.succ fun _ => ?_
    | refine Cle.zero fun _ => ?_
    | exact Cle.use0 (by assumption)
    | exact Cle.use1 (by assumption)
    | with_reducible exact Ole.refl _)
theorem lp_spec_l6named_1_mono (D : Ctx) (t_8 : AV) (t_7 : AV) (k_10 : Cur 0) : Mono (lp_spec_l6named_1 D t_8 t_7 k_10) := fun _ _ h => lp_spec_l6named_1_le t_8 t_7 k_10 (Cle.refl _) h
noncomputable def sh_spec_l6named (D : Ctx) (a0 a1 a2 : AV) (σ : Store) : Res :=
  (rd1 D.G (.pptr (AV.cells a0) 8) σ).bind fun t_1 =>
  (lenV .sl t_1 σ).bind fun t_2 =>
  (bin .lss .num t_2 a1).bind fun t_3 =>
  jn 1 (fun t_4 s_5 =>
  aCase t_4
  (some ((.bool false), s_5))
  ((rd1 D.G (.pptr (AV.cells a0) 8) s_5).bind fun t_7 =>
  (lenV .sl t_7 s_5).bind fun t_8 =>
  jn 0 (fun  s_9 =>
  some ((.bool true), s_9))
  (fun k_10 =>
  lpFix 1 (lp_spec_l6named_1 D t_8 t_7 k_10) (.int .i64 0) s_5)))
  (fun j_6 =>
  aCase t_3
  (j_6 (.bool true) σ)
  ((rd1 D.G (.pptr (AV.cells a0) 8) σ).bind fun t_20 =>
  (lenV .sl t_20 σ).bind fun t_21 =>
  (bin .gtr .num t_21 a2).bind fun t_22 =>
  j_6 t_22 σ))
theorem sh_spec_l6named_eq (D : Ctx) (a0 a1 a2 : AV) (σ : Store) : runFn D ir_spec_l6named [a0, a1, a2] σ = sh_spec_l6named D a0 a1 a2 σ := by kernel_rfl
/-- loop.example/reed/spec.l6exprs: function 35 -/
def ir_spec_l6exprs : IFn := ⟨[.tmp 8],
.seq (.reg (.op (some 4) (.pbox (.t 0)) (
  .op (some 5) (.pbox (.t 1)) (
  .op (some 8) (.mv (.c (.bool false))) (
  .done))))) (
  .seq (.seq (.reg (.op (some 10) (.mv (.t 2)) (
  .op (some 9) (.mv (.t 10)) (
  .done)))) (
  .block 0 (some ⟨[], []⟩) (
  .loop ⟨[9], []⟩ (
  .seq (.seq (.reg (.op (some 11) (.mv (.t 9)) (
  .op (some 12) (.mv (.t 3)) (
  .op (some 13) (.bin .lss .num (.t 11) (.t 12)) (
  .done))))) (
  .cond (.t 13) none (.skip) (.exit 0))) (
  .seq (.block 1 none (
  .seq (.reg (.op (some 16) (.fadd 0 (.t 4)) (
  .op (some 17) (.load false 1 (.t 16)) (
  .op (some 18) (.fadd 9 (.t 5)) (
  .op (some 19) (.load false 1 (.t 18)) (
  .op (some 20) (.mv (.t 9)) (
  .op (some 21) (.idx 1 (.t 19) (.t 20)) (
  .op (some 22) (.load false 1 (.t 21)) (
  .op (some 23) (.idx 10 (.t 17) (.t 22)) (
  .op (some 24) (.fadd 0 (.t 23)) (
  .op (some 25) (.load false 1 (.t 24)) (
  .op (some 26) (.callV 43 [(.t 25)]) (
  .op (some 27) (.un .not (.t 26)) (
  .done)))))))))))))) (
  .cond (.t 27) none (.seq (.reg (.op (some 8) (.mv (.c (.bool false))) (
  .done))) (
  .ret)) (.skip)))) (
  .reg (.op (some 14) (.mv (.t 9)) (
  .op (some 15) (.bin .add .num (.t 14) (.c (.int .i64 1))) (
  .op (some 9) (.mv (.t 15)) (
  .done)))))))))) (
  .seq (.reg (.op (some 8) (.mv (.c (.bool true))) (
  .done))) (
  .ret)))⟩
noncomputable def lp_spec_l6exprs_1 (D : Ctx) (a3 : AV) (a0 : AV) (a1 : AV) (k_2 : Cur 0) : Cur 1 → Cur 1 :=
  fun go_5 j_3 s_4 =>
  (bin .lss .num j_3 a3).bind fun t_6 =>
  aCase t_6
  ((rd1 D.G (.pptr (AV.cells a0) 0) s_4).bind fun t_7 =>
  (rd1 D.G (.pptr (AV.cells a1) 9) s_4).bind fun t_8 =>
  (idx 1 t_8 j_3).bind fun t_9 =>
  (rd1 D.G t_9 s_4).bind fun t_10 =>
  (idx 10 t_7 t_10).bind fun t_11 =>
  (fadd t_11 0).bind fun t_12 =>
  (rd1 D.G t_12 s_4).bind fun t_13 =>
  (callV D 43 [t_13] s_4).bind fun t_14 =>
  (un .not t_14).bind fun t_15 =>
  aCase t_15
  (some ((.bool false), s_4))
  ((bin .add .num j_3 (.int .i64 1)).bind fun t_16 =>
  go_5 t_16 s_4))
  (k_2  s_4)
theorem lp_spec_l6exprs_1_le {D : Ctx} (a3 : AV) (a0 : AV) (a1 : AV) (k_2 : Cur 0) {k_2' : Cur 0} (hk_2 : Cle k_2 k_2') {u u' : Cur 1} (h : Cle u u') : Cle (lp_spec_l6exprs_1 D a3 a0 a1 k_2 u) (lp_spec_l6exprs_1 D a3 a0 a1 k_2' u') := by
  unfold lp_spec_l6exprs_1
  repeat (first
    | with_reducible refine Ole.bindr fun _ => ?_
    | with_reducible refine Ole.aCase ?_ ?_
    | refine Ole.jn ?_ (fun _ _ _ => ?_)
    | refine Cle.succ fun _ => ?_
    | refine Cle.zero fun _ => ?_
    | exact Cle.use0 (by assumption)
    | exact Cle.use1 (by assumption)
    | with_reducible exact Ole.refl _)
theorem lp_spec_l6exprs_1_mono (D : Ctx) (a3 : AV) (a0 : AV) (a1 : AV) (k_2 : Cur 0) : Mono (lp_spec_l6exprs_1 D a3 a0 a1 k_2) := fun _ _ h => lp_spec_l6exprs_1_le a3 a0 a1 k_2 (Cle.refl _) h
noncomputable def sh_spec_l6exprs (D : Ctx) (a0 a1 a2 a3 : AV) (σ : Store) : Res :=
  jn 0 (fun  s_1 =>
  some ((.bool true), s_1))
  (fun k_2 =>
  lpFix 1 (lp_spec_l6exprs_1 D a3 a0 a1 k_2) a2 σ)
theorem sh_spec_l6exprs_eq (D : Ctx) (a0 a1 a2 a3 : AV) (σ : Store) : runFn D ir_spec_l6exprs [a0, a1, a2, a3] σ = sh_spec_l6exprs D a0 a1 a2 a3 σ := by kernel_rfl
/-- loop.example/reed/spec.l6target: function 36 -/
def ir_spec_l6target : IFn := ⟨[.tmp 2],
.seq (.reg (.op (some 2) (.mv (.c (.bool false))) (
  .done))) (
  .seq (.reg (.op (some 3) (.mv (.t 0)) (
  .op (some 4) (.bin .eql .num (.t 3) (.c (.int .i64 26))) (
  .op (some 5) (.mv (.t 4)) (
  .dia 5 (
  .gop 5 false (some 6) (.mv (.t 0)) (
  .gop 5 false (some 7) (.bin .eql .num (.t 6) (.c (.int .i64 32))) (
  .done))) 8 (.t 5) (.c (.bool true)) (.t 7) none (
  .op (some 9) (.mv (.t 8)) (
  .dia 9 (
  .gop 9 false (some 10) (.mv (.t 0)) (
  .gop 9 false (some 11) (.bin .eql .num (.t 10) (.c (.int .i64 33))) (
  .done))) 12 (.t 9) (.c (.bool true)) (.t 11) none (
  .op (some 2) (.mv (.t 12)) (
  .done))))))))) (
  .ret))⟩
noncomputable def sh_spec_l6target (D : Ctx) (a0 : AV) (σ : Store) : Res :=
  (bin .eql .num a0 (.int .i64 26)).bind fun t_1 =>
  jn 1 (fun t_2 s_3 =>
  jn 1 (fun t_5 s_6 =>
  some (t_5, s_6))
  (fun j_7 =>
  aCase t_2
  (j_7 (.bool true) s_3)
  ((bin .eql .num a0 (.int .i64 33)).bind fun t_8 =>
  j_7 t_8 s_3)))
  (fun j_4 =>
  aCase t_1
  (j_4 (.bool true) σ)
  ((bin .eql .num a0 (.int .i64 32)).bind fun t_9 =>
  j_4 t_9 σ))
theorem sh_spec_l6target_eq (D : Ctx) (a0 : AV) (σ : Store) : runFn D ir_spec_l6target [a0] σ = sh_spec_l6target D a0 σ := by kernel_rfl
/-- loop.example/reed/spec.l6nameok: function 37 -/
def ir_spec_l6nameok : IFn := ⟨[.tmp 2],
.seq (.reg (.op (some 2) (.mv (.c (.bool false))) (
  .done))) (
  .seq (.seq (.reg (.op (some 8) (.mv (.t 0)) (
  .op (some 9) (.len .str (.t 8)) (
  .op (some 10) (.bin .eql .num (.t 9) (.c (.int .i64 0))) (
  .op (some 11) (.mv (.t 10)) (
  .dia 11 (
  .gop 11 false (some 12) (.mv (.t 0)) (
  .gop 11 false (some 13) (.len .str (.t 12)) (
  .gop 11 false (some 14) (.bin .gtr .num (.t 13) (.c (.int .i64 40))) (
  .done)))) 15 (.t 11) (.c (.bool true)) (.t 14) none (
  .done))))))) (
  .cond (.t 15) none (.seq (.reg (.op (some 2) (.mv (.c (.bool false))) (
  .done))) (
  .ret)) (.skip))) (
  .seq (.seq (.reg (.op (some 3) (.mv (.c (.int .i64 0))) (
  .done))) (
  .block 0 (some ⟨[], []⟩) (
  .loop ⟨[3], []⟩ (
  .seq (.seq (.reg (.op (some 16) (.mv (.t 3)) (
  .op (some 17) (.mv (.t 0)) (
  .op (some 18) (.len .str (.t 17)) (
  .op (some 19) (.bin .lss .num (.t 16) (.t 18)) (
  .done)))))) (
  .cond (.t 19) none (.skip) (.exit 0))) (
  .seq (.block 1 none (
  .seq (.reg (.op (some 22) (.mv (.t 0)) (
  .op (some 23) (.mv (.t 3)) (
  .op (some 24) (.idxS (.t 22) (.t 23)) (
  .op (some 4) (.mv (.t 24)) (
  .done)))))) (
  .seq (.reg (.op (some 25) (.mv (.t 4)) (
  .op (some 26) (.bin .geq .num (.t 25) (.c (.int .u8 97))) (
  .op (some 27) (.mv (.t 26)) (
  .dia 27 (
  .gop 27 true (some 28) (.mv (.t 4)) (
  .gop 27 true (some 29) (.bin .leq .num (.t 28) (.c (.int .u8 122))) (
  .done))) 30 (.t 27) (.t 29) (.c (.bool false)) none (
  .op (some 31) (.mv (.t 30)) (
  .dia 31 (
  .gop 31 false (some 32) (.mv (.t 4)) (
  .gop 31 false (some 33) (.bin .geq .num (.t 32) (.c (.int .u8 65))) (
  .gop 31 false (some 34) (.mv (.t 33)) (
  .dia 34 (
  .gop 34 true (some 35) (.mv (.t 4)) (
  .gop 34 true (some 36) (.bin .leq .num (.t 35) (.c (.int .u8 90))) (
  .done))) 37 (.t 34) (.t 36) (.c (.bool false)) (some (31, false)) (
  .done))))) 38 (.t 31) (.c (.bool true)) (.t 37) none (
  .op (some 39) (.mv (.t 38)) (
  .dia 39 (
  .gop 39 false (some 40) (.mv (.t 4)) (
  .gop 39 false (some 41) (.bin .eql .num (.t 40) (.c (.int .u8 95))) (
  .done))) 42 (.t 39) (.c (.bool true)) (.t 41) none (
  .op (some 5) (.mv (.t 42)) (
  .done))))))))))) (
  .seq (.reg (.op (some 43) (.mv (.t 5)) (
  .op (some 44) (.un .not (.t 43)) (
  .op (some 45) (.mv (.t 44)) (
  .dia 45 (
  .gop 45 true (some 46) (.mv (.t 3)) (
  .gop 45 true (some 47) (.bin .eql .num (.t 46) (.c (.int .i64 0))) (
  .gop 45 true (some 48) (.mv (.t 47)) (
  .dia 48 (
  .gop 48 false (some 49) (.mv (.t 4)) (
  .gop 48 false (some 50) (.bin .lss .num (.t 49) (.c (.int .u8 48))) (
  .done))) 51 (.t 48) (.c (.bool true)) (.t 50) (some (45, true)) (
  .gop 45 true (some 52) (.mv (.t 51)) (
  .dia 52 (
  .gop 52 false (some 53) (.mv (.t 4)) (
  .gop 52 false (some 54) (.bin .gtr .num (.t 53) (.c (.int .u8 57))) (
  .done))) 55 (.t 52) (.c (.bool true)) (.t 54) (some (45, true)) (
  .done))))))) 56 (.t 45) (.t 55) (.c (.bool false)) none (
  .done)))))) (
  .cond (.t 56) none (.seq (.reg (.op (some 2) (.mv (.c (.bool false))) (
  .done))) (
  .ret)) (.skip)))))) (
  .reg (.op (some 20) (.mv (.t 3)) (
  .op (some 21) (.bin .add .num (.t 20) (.c (.int .i64 1))) (
  .op (some 3) (.mv (.t 21)) (
  .done)))))))))) (
  .seq (.seq (.reg (.op (some 57) (.callP 44 []) (
  .op (some 58) (.len .sl (.t 57)) (
  .op (some 59) (.mv (.c (.int .i64 0))) (
  .done))))) (
  .block 2 (some ⟨[], []⟩) (
  .loop ⟨[59], []⟩ (
  .seq (.reg (.op (some 60) (.bin .lss .num (.t 59) (.t 58)) (
  .done))) (
  .seq (.cond (.t 60) none (.skip) (.exit 2)) (
  .seq (.block 3 none (
  .seq (.reg (.op (some 61) (.idx 1 (.t 57) (.t 59)) (
  .op (some 62) (.load false 1 (.t 61)) (
  .op (some 7) (.mv (.t 62)) (
  .done))))) (
  .seq (.reg (.op (some 63) (.mv (.t 7)) (
  .op (some 64) (.mv (.t 0)) (
  .op (some 65) (.bin .eql .num (.t 63) (.t 64)) (
  .done))))) (
  .cond (.t 65) none (.seq (.reg (.op (some 2) (.mv (.c (.bool false))) (
  .done))) (
  .ret)) (.skip))))) (
  .reg (.op (some 66) (.bin .add .num (.t 59) (.c (.int .i64 1))) (
  .op (some 59) (.mv (.t 66)) (
  .done)))))))))) (
  .seq (.reg (.op (some 2) (.mv (.c (.bool true))) (
  .done))) (
  .ret)))))⟩
noncomputable def lp_spec_l6nameok_1 (D : Ctx) (a0 : AV) (k_7 : Cur 0) : Cur 1 → Cur 1 :=
  fun go_22 i_20 s_21 =>
  (lenV .str a0 s_21).bind fun t_23 =>
  (bin .lss .num i_20 t_23).bind fun t_24 =>
  aCase t_24
  ((idxS a0 i_20).bind fun t_25 =>
  (bin .geq .num t_25 (.int .u8 97)).bind fun t_26 =>
  jn 1 (fun t_27 s_28 =>
  jn 1 (fun t_30 s_31 =>
  jn 1 (fun t_33 s_34 =>
  (un .not t_33).bind fun t_36 =>
  jn 1 (fun t_37 s_38 =>
  aCase t_37
  (some ((.bool false), s_38))
  ((bin .add .num i_20 (.int .i64 1)).bind fun t_40 =>
  go_22 t_40 s_38))
  (fun j_39 =>
  aCase t_36
  ((bin .eql .num i_20 (.int .i64 0)).bind fun t_41 =>
  jn 1 (fun t_42 s_43 =>
  jn 1 (fun t_45 s_46 =>
  j_39 t_45 s_46)
  (fun j_47 =>
  aCase t_42
  (j_47 (.bool true) s_43)
  ((bin .gtr .num t_25 (.int .u8 57)).bind fun t_48 =>
  j_47 t_48 s_43)))
  (fun j_44 =>
  aCase t_41
  (j_44 (.bool true) s_34)
  ((bin .lss .num t_25 (.int .u8 48)).bind fun t_49 =>
  j_44 t_49 s_34)))
  (j_39 (.bool false) s_34)))
  (fun j_35 =>
  aCase t_30
  (j_35 (.bool true) s_31)
  ((bin .eql .num t_25 (.int .u8 95)).bind fun t_50 =>
  j_35 t_50 s_31)))
  (fun j_32 =>
  aCase t_27
  (j_32 (.bool true) s_28)
  ((bin .geq .num t_25 (.int .u8 65)).bind fun t_51 =>
  jn 1 (fun t_52 s_53 =>
  j_32 t_52 s_53)
  (fun j_54 =>
  aCase t_51
  ((bin .leq .num t_25 (.int .u8 90)).bind fun t_55 =>
  j_54 t_55 s_28)
  (j_54 (.bool false) s_28)))))
  (fun j_29 =>
  aCase t_26
  ((bin .leq .num t_25 (.int .u8 122)).bind fun t_56 =>
  j_29 t_56 s_21)
  (j_29 (.bool false) s_21)))
  (k_7  s_21)
theorem lp_spec_l6nameok_1_le {D : Ctx} (a0 : AV) (k_7 : Cur 0) {k_7' : Cur 0} (hk_7 : Cle k_7 k_7') {u u' : Cur 1} (h : Cle u u') : Cle (lp_spec_l6nameok_1 D a0 k_7 u) (lp_spec_l6nameok_1 D a0 k_7' u') := by
  unfold lp_spec_l6nameok_1
  repeat (first
    | with_reducible refine Ole.bindr fun _ => ?_
    | with_reducible refine Ole.aCase ?_ ?_
    | refine Ole.jn ?_ (fun _ _ _ => ?_)
    | refine Cle.succ fun _ => ?_
    | refine Cle.zero fun _ => ?_
    | exact Cle.use0 (by assumption)
    | exact Cle.use1 (by assumption)
    | with_reducible exact Ole.refl _)
theorem lp_spec_l6nameok_1_mono (D : Ctx) (a0 : AV) (k_7 : Cur 0) : Mono (lp_spec_l6nameok_1 D a0 k_7) := fun _ _ h => lp_spec_l6nameok_1_le a0 k_7 (Cle.refl _) h
noncomputable def lp_spec_l6nameok_2 (D : Ctx) (t_9 : AV) (t_8 : AV) (a0 : AV) (k_11 : Cur 0) : Cur 1 → Cur 1 :=
  fun go_14 t_12 s_13 =>
  (bin .lss .num t_12 t_9).bind fun t_15 =>
  aCase t_15
  ((idx 1 t_8 t_12).bind fun t_16 =>
  (rd1 D.G t_16 s_13).bind fun t_17 =>
  (bin .eql .num t_17 a0).bind fun t_18 =>
  aCase t_18
  (some ((.bool false), s_13))
  ((bin .add .num t_12 (.int .i64 1)).bind fun t_19 =>
  go_14 t_19 s_13))
  (k_11  s_13)
theorem lp_spec_l6nameok_2_le {D : Ctx} (t_9 : AV) (t_8 : AV) (a0 : AV) (k_11 : Cur 0) {k_11' : Cur 0} (hk_11 : Cle k_11 k_11') {u u' : Cur 1} (h : Cle u u') : Cle (lp_spec_l6nameok_2 D t_9 t_8 a0 k_11 u) (lp_spec_l6nameok_2 D t_9 t_8 a0 k_11' u') := by
  unfold lp_spec_l6nameok_2
  repeat (first
    | with_reducible refine Ole.bindr fun _ => ?_
    | with_reducible refine Ole.aCase ?_ ?_
    | refine Ole.jn ?_ (fun _ _ _ => ?_)
    | refine Cle.succ fun _ => ?_
    | refine Cle.zero fun _ => ?_
    | exact Cle.use0 (by assumption)
    | exact Cle.use1 (by assumption)
    | with_reducible exact Ole.refl _)
theorem lp_spec_l6nameok_2_mono (D : Ctx) (t_9 : AV) (t_8 : AV) (a0 : AV) (k_11 : Cur 0) : Mono (lp_spec_l6nameok_2 D t_9 t_8 a0 k_11) := fun _ _ h => lp_spec_l6nameok_2_le t_9 t_8 a0 k_11 (Cle.refl _) h
noncomputable def sh_spec_l6nameok (D : Ctx) (a0 : AV) (σ : Store) : Res :=
  (lenV .str a0 σ).bind fun t_1 =>
  (bin .eql .num t_1 (.int .i64 0)).bind fun t_2 =>
  jn 1 (fun t_3 s_4 =>
  aCase t_3
  (some ((.bool false), s_4))
  (jn 0 (fun  s_6 =>
  (callP D 44 []).bind fun t_8 =>
  (lenV .sl t_8 s_6).bind fun t_9 =>
  jn 0 (fun  s_10 =>
  some ((.bool true), s_10))
  (fun k_11 =>
  lpFix 1 (lp_spec_l6nameok_2 D t_9 t_8 a0 k_11) (.int .i64 0) s_6))
  (fun k_7 =>
  lpFix 1 (lp_spec_l6nameok_1 D a0 k_7) (.int .i64 0) s_4)))
  (fun j_5 =>
  aCase t_2
  (j_5 (.bool true) σ)
  ((lenV .str a0 σ).bind fun t_57 =>
  (bin .gtr .num t_57 (.int .i64 40)).bind fun t_58 =>
  j_5 t_58 σ))
theorem sh_spec_l6nameok_eq (D : Ctx) (a0 : AV) (σ : Store) : runFn D ir_spec_l6nameok [a0] σ = sh_spec_l6nameok D a0 σ := by kernel_rfl
/-- loop.example/reed/laws.toStringS: function 38 -/
def ir_laws_toStringS : IFn := ⟨[.tmp 2],
.seq (.reg (.op (some 2) (.mv (.c .nilslice)) (
  .done))) (
  .seq (.reg (.op (some 5) (.mv (.t 0)) (
  .op (some 6) (.len .sl (.t 5)) (
  .op (some 7) (.mkSlice [(.str ⟨#[]⟩)] (.t 6)) (
  .op (some 3) (.mv (.t 7)) (
  .done)))))) (
  .seq (.seq (.reg (.op (some 4) (.mv (.c (.int .i64 0))) (
  .done))) (
  .block 0 (some ⟨[], []⟩) (
  .loop ⟨[4], []⟩ (
  .seq (.seq (.reg (.op (some 8) (.mv (.t 4)) (
  .op (some 9) (.mv (.t 0)) (
  .op (some 10) (.len .sl (.t 9)) (
  .op (some 11) (.bin .lss .num (.t 8) (.t 10)) (
  .done)))))) (
  .cond (.t 11) none (.skip) (.exit 0))) (
  .seq (.block 1 none (
  .reg (.op (some 14) (.mv (.t 3)) (
  .op (some 15) (.mv (.t 4)) (
  .op (some 16) (.mv (.t 0)) (
  .op (some 17) (.mv (.t 4)) (
  .op (some 18) (.idx 1 (.t 16) (.t 17)) (
  .op (some 19) (.load false 1 (.t 18)) (
  .op (some 20) (.idx 1 (.t 14) (.t 15)) (
  .op none (.store false 1 (.t 20) (.t 19)) (
  .done))))))))))) (
  .reg (.op (some 12) (.mv (.t 4)) (
  .op (some 13) (.bin .add .num (.t 12) (.c (.int .i64 1))) (
  .op (some 4) (.mv (.t 13)) (
  .done)))))))))) (
  .seq (.reg (.op (some 21) (.mv (.t 3)) (
  .op (some 2) (.mv (.t 21)) (
  .done)))) (
  .ret))))⟩
noncomputable def lp_laws_toStringS_1 (D : Ctx) (a0 : AV) (t_2 : AV × Store) (k_4 : Cur 0) : Cur 1 → Cur 1 :=
  fun go_7 i_5 s_6 =>
  (lenV .sl a0 s_6).bind fun t_8 =>
  (bin .lss .num i_5 t_8).bind fun t_9 =>
  aCase t_9
  ((idx 1 a0 i_5).bind fun t_10 =>
  (rd1 D.G t_10 s_6).bind fun t_11 =>
  (idx 1 t_2.1 i_5).bind fun t_12 =>
  (one t_11).bind fun o_13 =>
  (wr t_12 [o_13] s_6).bind fun s_14 =>
  (bin .add .num i_5 (.int .i64 1)).bind fun t_15 =>
  go_7 t_15 s_14)
  (k_4  s_6)
theorem lp_laws_toStringS_1_le {D : Ctx} (a0 : AV) (t_2 : AV × Store) (k_4 : Cur 0) {k_4' : Cur 0} (hk_4 : Cle k_4 k_4') {u u' : Cur 1} (h : Cle u u') : Cle (lp_laws_toStringS_1 D a0 t_2 k_4 u) (lp_laws_toStringS_1 D a0 t_2 k_4' u') := by
  unfold lp_laws_toStringS_1
  repeat (first
    | with_reducible refine Ole.bindr fun _ => ?_
    | with_reducible refine Ole.aCase ?_ ?_
    | refine Ole.jn ?_ (fun _ _ _ => ?_)
    | refine Cle.succ fun _ => ?_
    | refine Cle.zero fun _ => ?_
    | exact Cle.use0 (by assumption)
    | exact Cle.use1 (by assumption)
    | with_reducible exact Ole.refl _)
theorem lp_laws_toStringS_1_mono (D : Ctx) (a0 : AV) (t_2 : AV × Store) (k_4 : Cur 0) : Mono (lp_laws_toStringS_1 D a0 t_2 k_4) := fun _ _ h => lp_laws_toStringS_1_le a0 t_2 k_4 (Cle.refl _) h
noncomputable def sh_laws_toStringS (D : Ctx) (a0 : AV) (σ : Store) : Res :=
  (lenV .sl a0 σ).bind fun t_1 =>
  (mkSlice [(.str ⟨#[]⟩)] t_1 σ).bind fun t_2 =>
  jn 0 (fun  s_3 =>
  some (t_2.1, s_3))
  (fun k_4 =>
  lpFix 1 (lp_laws_toStringS_1 D a0 t_2 k_4) (.int .i64 0) t_2.2)
theorem sh_laws_toStringS_eq (D : Ctx) (a0 : AV) (σ : Store) : runFn D ir_laws_toStringS [a0] σ = sh_laws_toStringS D a0 σ := by kernel_rfl
/-- loop.example/reed/laws.toIntS: function 39 -/
def ir_laws_toIntS : IFn := ⟨[.tmp 2],
.seq (.reg (.op (some 2) (.mv (.c .nilslice)) (
  .done))) (
  .seq (.reg (.op (some 5) (.mv (.t 0)) (
  .op (some 6) (.len .sl (.t 5)) (
  .op (some 7) (.mkSlice [(.int .i64 0)] (.t 6)) (
  .op (some 3) (.mv (.t 7)) (
  .done)))))) (
  .seq (.seq (.reg (.op (some 4) (.mv (.c (.int .i64 0))) (
  .done))) (
  .block 0 (some ⟨[], []⟩) (
  .loop ⟨[4], []⟩ (
  .seq (.seq (.reg (.op (some 8) (.mv (.t 4)) (
  .op (some 9) (.mv (.t 0)) (
  .op (some 10) (.len .sl (.t 9)) (
  .op (some 11) (.bin .lss .num (.t 8) (.t 10)) (
  .done)))))) (
  .cond (.t 11) none (.skip) (.exit 0))) (
  .seq (.block 1 none (
  .reg (.op (some 14) (.mv (.t 3)) (
  .op (some 15) (.mv (.t 4)) (
  .op (some 16) (.mv (.t 0)) (
  .op (some 17) (.mv (.t 4)) (
  .op (some 18) (.idx 1 (.t 16) (.t 17)) (
  .op (some 19) (.load false 1 (.t 18)) (
  .op (some 20) (.idx 1 (.t 14) (.t 15)) (
  .op none (.store false 1 (.t 20) (.t 19)) (
  .done))))))))))) (
  .reg (.op (some 12) (.mv (.t 4)) (
  .op (some 13) (.bin .add .num (.t 12) (.c (.int .i64 1))) (
  .op (some 4) (.mv (.t 13)) (
  .done)))))))))) (
  .seq (.reg (.op (some 21) (.mv (.t 3)) (
  .op (some 2) (.mv (.t 21)) (
  .done)))) (
  .ret))))⟩
noncomputable def lp_laws_toIntS_1 (D : Ctx) (a0 : AV) (t_2 : AV × Store) (k_4 : Cur 0) : Cur 1 → Cur 1 :=
  fun go_7 i_5 s_6 =>
  (lenV .sl a0 s_6).bind fun t_8 =>
  (bin .lss .num i_5 t_8).bind fun t_9 =>
  aCase t_9
  ((idx 1 a0 i_5).bind fun t_10 =>
  (rd1 D.G t_10 s_6).bind fun t_11 =>
  (idx 1 t_2.1 i_5).bind fun t_12 =>
  (one t_11).bind fun o_13 =>
  (wr t_12 [o_13] s_6).bind fun s_14 =>
  (bin .add .num i_5 (.int .i64 1)).bind fun t_15 =>
  go_7 t_15 s_14)
  (k_4  s_6)
theorem lp_laws_toIntS_1_le {D : Ctx} (a0 : AV) (t_2 : AV × Store) (k_4 : Cur 0) {k_4' : Cur 0} (hk_4 : Cle k_4 k_4') {u u' : Cur 1} (h : Cle u u') : Cle (lp_laws_toIntS_1 D a0 t_2 k_4 u) (lp_laws_toIntS_1 D a0 t_2 k_4' u') := by
  unfold lp_laws_toIntS_1
  repeat (first
    | with_reducible refine Ole.bindr fun _ => ?_
    | with_reducible refine Ole.aCase ?_ ?_
    | refine Ole.jn ?_ (fun _ _ _ => ?_)
    | refine Cle.succ fun _ => ?_
    | refine Cle.zero fun _ => ?_
    | exact Cle.use0 (by assumption)
    | exact Cle.use1 (by assumption)
    | with_reducible exact Ole.refl _)
theorem lp_laws_toIntS_1_mono (D : Ctx) (a0 : AV) (t_2 : AV × Store) (k_4 : Cur 0) : Mono (lp_laws_toIntS_1 D a0 t_2 k_4) := fun _ _ h => lp_laws_toIntS_1_le a0 t_2 k_4 (Cle.refl _) h
noncomputable def sh_laws_toIntS (D : Ctx) (a0 : AV) (σ : Store) : Res :=
  (lenV .sl a0 σ).bind fun t_1 =>
  (mkSlice [(.int .i64 0)] t_1 σ).bind fun t_2 =>
  jn 0 (fun  s_3 =>
  some (t_2.1, s_3))
  (fun k_4 =>
  lpFix 1 (lp_laws_toIntS_1 D a0 t_2 k_4) (.int .i64 0) t_2.2)
theorem sh_laws_toIntS_eq (D : Ctx) (a0 : AV) (σ : Store) : runFn D ir_laws_toIntS [a0] σ = sh_laws_toIntS D a0 σ := by kernel_rfl
/-- loop.example/reed/laws.sameFloat: function 40 -/
def ir_laws_sameFloat : IFn := ⟨[.tmp 4],
.seq (.reg (.op (some 4) (.mv (.c (.bool false))) (
  .done))) (
  .seq (.seq (.reg (.op (some 5) (.mv (.t 0)) (
  .op (some 6) (.mv (.t 0)) (
  .op (some 7) (.bin .neq .num (.t 5) (.t 6)) (
  .op (some 8) (.mv (.t 7)) (
  .dia 8 (
  .gop 8 false (some 9) (.mv (.t 1)) (
  .gop 8 false (some 10) (.mv (.t 1)) (
  .gop 8 false (some 11) (.bin .neq .num (.t 9) (.t 10)) (
  .done)))) 12 (.t 8) (.c (.bool true)) (.t 11) none (
  .done))))))) (
  .cond (.t 12) none (.seq (.reg (.op (some 13) (.mv (.t 0)) (
  .op (some 14) (.mv (.t 0)) (
  .op (some 15) (.bin .neq .num (.t 13) (.t 14)) (
  .op (some 16) (.mv (.t 15)) (
  .dia 16 (
  .gop 16 true (some 17) (.mv (.t 1)) (
  .gop 16 true (some 18) (.mv (.t 1)) (
  .gop 16 true (some 19) (.bin .neq .num (.t 17) (.t 18)) (
  .done)))) 20 (.t 16) (.t 19) (.c (.bool false)) none (
  .op (some 4) (.mv (.t 20)) (
  .done)))))))) (
  .ret)) (.skip))) (
  .seq (.seq (.reg (.op (some 21) (.mv (.t 0)) (
  .op (some 22) (.bin .eql .num (.t 21) (.c (.flt 0))) (
  .op (some 23) (.mv (.t 22)) (
  .dia 23 (
  .gop 23 true (some 24) (.mv (.t 1)) (
  .gop 23 true (some 25) (.bin .eql .num (.t 24) (.c (.flt 0))) (
  .done))) 26 (.t 23) (.t 25) (.c (.bool false)) none (
  .done)))))) (
  .cond (.t 26) none (.seq (.reg (.op (some 27) (.mv (.t 0)) (
  .op (some 28) (.bin .quo .num (.c (.flt 4607182418800017408)) (.t 27)) (
  .op (some 29) (.bin .gtr .num (.t 28) (.c (.flt 0))) (
  .op (some 30) (.mv (.t 1)) (
  .op (some 31) (.bin .quo .num (.c (.flt 4607182418800017408)) (.t 30)) (
  .op (some 32) (.bin .gtr .num (.t 31) (.c (.flt 0))) (
  .op (some 33) (.bin .eql .bool (.t 29) (.t 32)) (
  .op (some 4) (.mv (.t 33)) (
  .done)))))))))) (
  .ret)) (.skip))) (
  .seq (.reg (.op (some 34) (.mv (.t 0)) (
  .op (some 35) (.mv (.t 1)) (
  .op (some 36) (.bin .eql .num (.t 34) (.t 35)) (
  .op (some 4) (.mv (.t 36)) (
  .done)))))) (
  .ret))))⟩
noncomputable def sh_laws_sameFloat (D : Ctx) (a0 a1 : AV) (σ : Store) : Res :=
  (bin .neq .num a0 a0).bind fun t_1 =>
  jn 1 (fun t_2 s_3 =>
  aCase t_2
  ((bin .neq .num a0 a0).bind fun t_5 =>
  jn 1 (fun t_6 s_7 =>
  some (t_6, s_7))
  (fun j_8 =>
  aCase t_5
  ((bin .neq .num a1 a1).bind fun t_9 =>
  j_8 t_9 s_3)
  (j_8 (.bool false) s_3)))
  ((bin .eql .num a0 (.flt 0)).bind fun t_10 =>
  jn 1 (fun t_11 s_12 =>
  aCase t_11
  ((bin .quo .num (.flt 4607182418800017408) a0).bind fun t_14 =>
  (bin .gtr .num t_14 (.flt 0)).bind fun t_15 =>
  (bin .quo .num (.flt 4607182418800017408) a1).bind fun t_16 =>
  (bin .gtr .num t_16 (.flt 0)).bind fun t_17 =>
  (bin .eql .bool t_15 t_17).bind fun t_18 =>
  some (t_18, s_12))
  ((bin .eql .num a0 a1).bind fun t_19 =>
  some (t_19, s_12)))
  (fun j_13 =>
  aCase t_10
  ((bin .eql .num a1 (.flt 0)).bind fun t_20 =>
  j_13 t_20 s_3)
  (j_13 (.bool false) s_3))))
  (fun j_4 =>
  aCase t_1
  (j_4 (.bool true) σ)
  ((bin .neq .num a1 a1).bind fun t_21 =>
  j_4 t_21 σ))
theorem sh_laws_sameFloat_eq (D : Ctx) (a0 a1 : AV) (σ : Store) : runFn D ir_laws_sameFloat [a0, a1] σ = sh_laws_sameFloat D a0 a1 σ := by kernel_rfl
/-- loop.example/reed/laws.eqStringS: function 41 -/
def ir_laws_eqStringS : IFn := ⟨[.tmp 4],
.seq (.reg (.op (some 4) (.mv (.c (.bool false))) (
  .done))) (
  .seq (.seq (.reg (.op (some 6) (.mv (.t 0)) (
  .op (some 7) (.len .sl (.t 6)) (
  .op (some 8) (.mv (.t 1)) (
  .op (some 9) (.len .sl (.t 8)) (
  .op (some 10) (.bin .neq .num (.t 7) (.t 9)) (
  .done))))))) (
  .cond (.t 10) none (.seq (.reg (.op (some 4) (.mv (.c (.bool false))) (
  .done))) (
  .ret)) (.skip))) (
  .seq (.seq (.reg (.op (some 5) (.mv (.c (.int .i64 0))) (
  .done))) (
  .block 0 (some ⟨[], []⟩) (
  .loop ⟨[5], []⟩ (
  .seq (.seq (.reg (.op (some 11) (.mv (.t 5)) (
  .op (some 12) (.mv (.t 0)) (
  .op (some 13) (.len .sl (.t 12)) (
  .op (some 14) (.bin .lss .num (.t 11) (.t 13)) (
  .done)))))) (
  .cond (.t 14) none (.skip) (.exit 0))) (
  .seq (.block 1 none (
  .seq (.reg (.op (some 17) (.mv (.t 0)) (
  .op (some 18) (.mv (.t 5)) (
  .op (some 19) (.idx 1 (.t 17) (.t 18)) (
  .op (some 20) (.load false 1 (.t 19)) (
  .op (some 21) (.mv (.t 1)) (
  .op (some 22) (.mv (.t 5)) (
  .op (some 23) (.idx 1 (.t 21) (.t 22)) (
  .op (some 24) (.load false 1 (.t 23)) (
  .op (some 25) (.bin .neq .num (.t 20) (.t 24)) (
  .done))))))))))) (
  .cond (.t 25) none (.seq (.reg (.op (some 4) (.mv (.c (.bool false))) (
  .done))) (
  .ret)) (.skip)))) (
  .reg (.op (some 15) (.mv (.t 5)) (
  .op (some 16) (.bin .add .num (.t 15) (.c (.int .i64 1))) (
  .op (some 5) (.mv (.t 16)) (
  .done)))))))))) (
  .seq (.reg (.op (some 4) (.mv (.c (.bool true))) (
  .done))) (
  .ret))))⟩
noncomputable def lp_laws_eqStringS_1 (D : Ctx) (a0 : AV) (a1 : AV) (k_5 : Cur 0) : Cur 1 → Cur 1 :=
  fun go_8 i_6 s_7 =>
  (lenV .sl a0 s_7).bind fun t_9 =>
  (bin .lss .num i_6 t_9).bind fun t_10 =>
  aCase t_10
  ((idx 1 a0 i_6).bind fun t_11 =>
  (rd1 D.G t_11 s_7).bind fun t_12 =>
  (idx 1 a1 i_6).bind fun t_13 =>
  (rd1 D.G t_13 s_7).bind fun t_14 =>
  (bin .neq .num t_12 t_14).bind fun t_15 =>
  aCase t_15
  (some ((.bool false), s_7))
  ((bin .add .num i_6 (.int .i64 1)).bind fun t_16 =>
  go_8 t_16 s_7))
  (k_5  s_7)
theorem lp_laws_eqStringS_1_le {D : Ctx} (a0 : AV) (a1 : AV) (k_5 : Cur 0) {k_5' : Cur 0} (hk_5 : Cle k_5 k_5') {u u' : Cur 1} (h : Cle u u') : Cle (lp_laws_eqStringS_1 D a0 a1 k_5 u) (lp_laws_eqStringS_1 D a0 a1 k_5' u') := by
  unfold lp_laws_eqStringS_1
  repeat (first
    | with_reducible refine Ole.bindr fun _ => ?_
    | with_reducible refine Ole.aCase ?_ ?_
    | refine Ole.jn ?_ (fun _ _ _ => ?_)
    | refine Cle.succ fun _ => ?_
    | refine Cle.zero fun _ => ?_
    | exact Cle.use0 (by assumption)
    | exact Cle.use1 (by assumption)
    | with_reducible exact Ole.refl _)
theorem lp_laws_eqStringS_1_mono (D : Ctx) (a0 : AV) (a1 : AV) (k_5 : Cur 0) : Mono (lp_laws_eqStringS_1 D a0 a1 k_5) := fun _ _ h => lp_laws_eqStringS_1_le a0 a1 k_5 (Cle.refl _) h
noncomputable def sh_laws_eqStringS (D : Ctx) (a0 a1 : AV) (σ : Store) : Res :=
  (lenV .sl a0 σ).bind fun t_1 =>
  (lenV .sl a1 σ).bind fun t_2 =>
  (bin .neq .num t_1 t_2).bind fun t_3 =>
  aCase t_3
  (some ((.bool false), σ))
  (jn 0 (fun  s_4 =>
  some ((.bool true), s_4))
  (fun k_5 =>
  lpFix 1 (lp_laws_eqStringS_1 D a0 a1 k_5) (.int .i64 0) σ))
theorem sh_laws_eqStringS_eq (D : Ctx) (a0 a1 : AV) (σ : Store) : runFn D ir_laws_eqStringS [a0, a1] σ = sh_laws_eqStringS D a0 a1 σ := by kernel_rfl
/-- loop.example/reed/laws.eqIntS: function 42 -/
def ir_laws_eqIntS : IFn := ⟨[.tmp 4],
.seq (.reg (.op (some 4) (.mv (.c (.bool false))) (
  .done))) (
  .seq (.seq (.reg (.op (some 6) (.mv (.t 0)) (
  .op (some 7) (.len .sl (.t 6)) (
  .op (some 8) (.mv (.t 1)) (
  .op (some 9) (.len .sl (.t 8)) (
  .op (some 10) (.bin .neq .num (.t 7) (.t 9)) (
  .done))))))) (
  .cond (.t 10) none (.seq (.reg (.op (some 4) (.mv (.c (.bool false))) (
  .done))) (
  .ret)) (.skip))) (
  .seq (.seq (.reg (.op (some 5) (.mv (.c (.int .i64 0))) (
  .done))) (
  .block 0 (some ⟨[], []⟩) (
  .loop ⟨[5], []⟩ (
  .seq (.seq (.reg (.op (some 11) (.mv (.t 5)) (
  .op (some 12) (.mv (.t 0)) (
  .op (some 13) (.len .sl (.t 12)) (
  .op (some 14) (.bin .lss .num (.t 11) (.t 13)) (
  .done)))))) (
  .cond (.t 14) none (.skip) (.exit 0))) (
  .seq (.block 1 none (
  .seq (.reg (.op (some 17) (.mv (.t 0)) (
  .op (some 18) (.mv (.t 5)) (
  .op (some 19) (.idx 1 (.t 17) (.t 18)) (
  .op (some 20) (.load false 1 (.t 19)) (
  .op (some 21) (.mv (.t 1)) (
  .op (some 22) (.mv (.t 5)) (
  .op (some 23) (.idx 1 (.t 21) (.t 22)) (
  .op (some 24) (.load false 1 (.t 23)) (
  .op (some 25) (.bin .neq .num (.t 20) (.t 24)) (
  .done))))))))))) (
  .cond (.t 25) none (.seq (.reg (.op (some 4) (.mv (.c (.bool false))) (
  .done))) (
  .ret)) (.skip)))) (
  .reg (.op (some 15) (.mv (.t 5)) (
  .op (some 16) (.bin .add .num (.t 15) (.c (.int .i64 1))) (
  .op (some 5) (.mv (.t 16)) (
  .done)))))))))) (
  .seq (.reg (.op (some 4) (.mv (.c (.bool true))) (
  .done))) (
  .ret))))⟩
noncomputable def lp_laws_eqIntS_1 (D : Ctx) (a0 : AV) (a1 : AV) (k_5 : Cur 0) : Cur 1 → Cur 1 :=
  fun go_8 i_6 s_7 =>
  (lenV .sl a0 s_7).bind fun t_9 =>
  (bin .lss .num i_6 t_9).bind fun t_10 =>
  aCase t_10
  ((idx 1 a0 i_6).bind fun t_11 =>
  (rd1 D.G t_11 s_7).bind fun t_12 =>
  (idx 1 a1 i_6).bind fun t_13 =>
  (rd1 D.G t_13 s_7).bind fun t_14 =>
  (bin .neq .num t_12 t_14).bind fun t_15 =>
  aCase t_15
  (some ((.bool false), s_7))
  ((bin .add .num i_6 (.int .i64 1)).bind fun t_16 =>
  go_8 t_16 s_7))
  (k_5  s_7)
theorem lp_laws_eqIntS_1_le {D : Ctx} (a0 : AV) (a1 : AV) (k_5 : Cur 0) {k_5' : Cur 0} (hk_5 : Cle k_5 k_5') {u u' : Cur 1} (h : Cle u u') : Cle (lp_laws_eqIntS_1 D a0 a1 k_5 u) (lp_laws_eqIntS_1 D a0 a1 k_5' u') := by
  unfold lp_laws_eqIntS_1
  repeat (first
    | with_reducible refine Ole.bindr fun _ => ?_
    | with_reducible refine Ole.aCase ?_ ?_
    | refine Ole.jn ?_ (fun _ _ _ => ?_)
    | refine Cle.succ fun _ => ?_
    | refine Cle.zero fun _ => ?_
    | exact Cle.use0 (by assumption)
    | exact Cle.use1 (by assumption)
    | with_reducible exact Ole.refl _)
theorem lp_laws_eqIntS_1_mono (D : Ctx) (a0 : AV) (a1 : AV) (k_5 : Cur 0) : Mono (lp_laws_eqIntS_1 D a0 a1 k_5) := fun _ _ h => lp_laws_eqIntS_1_le a0 a1 k_5 (Cle.refl _) h
noncomputable def sh_laws_eqIntS (D : Ctx) (a0 a1 : AV) (σ : Store) : Res :=
  (lenV .sl a0 σ).bind fun t_1 =>
  (lenV .sl a1 σ).bind fun t_2 =>
  (bin .neq .num t_1 t_2).bind fun t_3 =>
  aCase t_3
  (some ((.bool false), σ))
  (jn 0 (fun  s_4 =>
  some ((.bool true), s_4))
  (fun k_5 =>
  lpFix 1 (lp_laws_eqIntS_1 D a0 a1 k_5) (.int .i64 0) σ))
theorem sh_laws_eqIntS_eq (D : Ctx) (a0 a1 : AV) (σ : Store) : runFn D ir_laws_eqIntS [a0, a1] σ = sh_laws_eqIntS D a0 a1 σ := by kernel_rfl
/-- loop.example/reed/spec.l6expr: function 43 -/
def ir_spec_l6expr : IFn := ⟨[.tmp 2],
.seq (.reg (.op (some 2) (.mv (.c (.bool false))) (
  .done))) (
  .seq (.reg (.op (some 3) (.mv (.t 0)) (
  .op (some 4) (.bin .geq .num (.t 3) (.c (.int .i64 20))) (
  .op (some 5) (.mv (.t 4)) (
  .dia 5 (
  .gop 5 true (some 6) (.mv (.t 0)) (
  .gop 5 true (some 7) (.bin .leq .num (.t 6) (.c (.int .i64 37))) (
  .done))) 8 (.t 5) (.t 7) (.c (.bool false)) none (
  .op (some 2) (.mv (.t 8)) (
  .done))))))) (
  .ret))⟩
noncomputable def sh_spec_l6expr (D : Ctx) (a0 : AV) (σ : Store) : Res :=
  (bin .geq .num a0 (.int .i64 20)).bind fun t_1 =>
  jn 1 (fun t_2 s_3 =>
  some (t_2, s_3))
  (fun j_4 =>
  aCase t_1
  ((bin .leq .num a0 (.int .i64 37)).bind fun t_5 =>
  j_4 t_5 σ)
  (j_4 (.bool false) σ))
theorem sh_spec_l6expr_eq (D : Ctx) (a0 : AV) (σ : Store) : runFn D ir_spec_l6expr [a0] σ = sh_spec_l6expr D a0 σ := by kernel_rfl
/-- loop.example/reed/spec.l6words: function 44 -/
def ir_spec_l6words : IFn := ⟨[.tmp 0],
.seq (.reg (.op (some 0) (.mv (.c .nilslice)) (
  .done))) (
  .seq (.reg (.op (some 1) (.pslice 1 [(.str ⟨#[]⟩)] 22 [(0, false, (.c (.str ⟨#[97, 110, 100]⟩))), (1, false, (.c (.str ⟨#[98, 114, 101, 97, 107]⟩))), (2, false, (.c (.str ⟨#[99, 97, 116, 99, 104]⟩))), (3, false, (.c (.str ⟨#[99, 111, 110, 115, 116]⟩))), (4, false, (.c (.str ⟨#[100, 101, 102, 101, 114]⟩))), (5, false, (.c (.str ⟨#[101, 108, 105, 102]⟩))), (6, false, (.c (.str ⟨#[101, 108, 115, 101]⟩))), (7, false, (.c (.str ⟨#[102, 97, 108, 115, 101]⟩))), (8, false, (.c (.str ⟨#[102, 110]⟩))), (9, false, (.c (.str ⟨#[102, 111, 114]⟩))), (10, false, (.c (.str ⟨#[105, 102]⟩))), (11, false, (.c (.str ⟨#[105, 110]⟩))), (12, false, (.c (.str ⟨#[108, 101, 116]⟩))), (13, false, (.c (.str ⟨#[110, 101, 120, 116]⟩))), (14, false, (.c (.str ⟨#[110, 105, 108]⟩))), (15, false, (.c (.str ⟨#[110, 111, 116]⟩))), (16, false, (.c (.str ⟨#[111, 114]⟩))), (17, false, (.c (.str ⟨#[114, 101, 116, 117, 114, 110]⟩))), (18, false, (.c (.str ⟨#[116, 104, 114, 111, 119]⟩))), (19, false, (.c (.str ⟨#[116, 114, 117, 101]⟩))), (20, false, (.c (.str ⟨#[116, 114, 121]⟩))), (21, false, (.c (.str ⟨#[119, 104, 105, 108, 101]⟩)))]) (
  .op (some 0) (.mv (.t 1)) (
  .done)))) (
  .ret))⟩
noncomputable def sh_spec_l6words (D : Ctx) (σ : Store) : Res :=
  some ((.pslice 1 [(.agg [(.str ⟨#[97, 110, 100]⟩)]), (.agg [(.str ⟨#[98, 114, 101, 97, 107]⟩)]), (.agg [(.str ⟨#[99, 97, 116, 99, 104]⟩)]), (.agg [(.str ⟨#[99, 111, 110, 115, 116]⟩)]), (.agg [(.str ⟨#[100, 101, 102, 101, 114]⟩)]), (.agg [(.str ⟨#[101, 108, 105, 102]⟩)]), (.agg [(.str ⟨#[101, 108, 115, 101]⟩)]), (.agg [(.str ⟨#[102, 97, 108, 115, 101]⟩)]), (.agg [(.str ⟨#[102, 110]⟩)]), (.agg [(.str ⟨#[102, 111, 114]⟩)]), (.agg [(.str ⟨#[105, 102]⟩)]), (.agg [(.str ⟨#[105, 110]⟩)]), (.agg [(.str ⟨#[108, 101, 116]⟩)]), (.agg [(.str ⟨#[110, 101, 120, 116]⟩)]), (.agg [(.str ⟨#[110, 105, 108]⟩)]), (.agg [(.str ⟨#[110, 111, 116]⟩)]), (.agg [(.str ⟨#[111, 114]⟩)]), (.agg [(.str ⟨#[114, 101, 116, 117, 114, 110]⟩)]), (.agg [(.str ⟨#[116, 104, 114, 111, 119]⟩)]), (.agg [(.str ⟨#[116, 114, 117, 101]⟩)]), (.agg [(.str ⟨#[116, 114, 121]⟩)]), (.agg [(.str ⟨#[119, 104, 105, 108, 101]⟩)])]), σ)
theorem sh_spec_l6words_eq (D : Ctx) (σ : Store) : runFn D ir_spec_l6words [] σ = sh_spec_l6words D σ := by kernel_rfl
def fns : Nat → Option IFn
  | 3 => some ir_laws_FnExactTreeOk
  | 4 => some ir_laws_szTree
  | 5 => some ir_spec_TreeOk
  | 6 => some ir_laws_toTree
  | 7 => some ir_impl_TreeOk
  | 8 => some ir_laws_eqWrong
  | 9 => some ir_laws_eqTree
  | 10 => some ir_laws_szPartS
  | 11 => some ir_spec_l6nodeok
  | 12 => some ir_spec_l6sizes
  | 13 => some ir_laws_toPartS
  | 14 => some ir_impl_partShape
  | 15 => some ir_laws_eqPartS
  | 16 => some ir_laws_szPart
  | 17 => some ir_spec_l6stat
  | 18 => some ir_spec_l6statement
  | 19 => some ir_spec_l6expression
  | 20 => some ir_laws_toPart
  | 21 => some ir_impl_partShape_1
  | 22 => some ir_impl_partShape_2
  | 23 => some ir_impl_partShape_3
  | 24 => some ir_impl_partExpr
  | 25 => some ir_impl_partStmt
  | 26 => some ir_impl_partShape_4
  | 27 => some ir_impl_isName
  | 28 => some ir_impl_partShape_5
  | 29 => some ir_laws_eqPart
  | 30 => some ir_laws_szStringS
  | 31 => some ir_laws_szIntS
  | 32 => some ir_spec_l6kid
  | 33 => some ir_spec_l6bare
  | 34 => some ir_spec_l6named
  | 35 => some ir_spec_l6exprs
  | 36 => some ir_spec_l6target
  | 37 => some ir_spec_l6nameok
  | 38 => some ir_laws_toStringS
  | 39 => some ir_laws_toIntS
  | 40 => some ir_laws_sameFloat
  | 41 => some ir_laws_eqStringS
  | 42 => some ir_laws_eqIntS
  | 43 => some ir_spec_l6expr
  | 44 => some ir_spec_l6words
  | _ => none
/-- What a call of each function comes to. -/
structure Door (D : Ctx) : Prop where
  f3 : ∀ (a0 : AV) (σ : Store), D.call 3 [a0] σ = sh_laws_FnExactTreeOk D a0 σ
  f4 : ∀ (a0 a1 : AV) (σ : Store), D.call 4 [a0, a1] σ = sh_laws_szTree D a0 a1 σ
  f5 : ∀ (a0 : AV) (σ : Store), D.call 5 [a0] σ = sh_spec_TreeOk D a0 σ
  f6 : ∀ (a0 : AV) (σ : Store), D.call 6 [a0] σ = sh_laws_toTree D a0 σ
  f7 : ∀ (a0 : AV) (σ : Store), D.call 7 [a0] σ = sh_impl_TreeOk D a0 σ
  f8 : ∀ (a0 a1 : AV) (σ : Store), D.call 8 [a0, a1] σ = sh_laws_eqWrong D a0 a1 σ
  f9 : ∀ (a0 a1 : AV) (σ : Store), D.call 9 [a0, a1] σ = sh_laws_eqTree D a0 a1 σ
  f10 : ∀ (a0 a1 : AV) (σ : Store), D.call 10 [a0, a1] σ = sh_laws_szPartS D a0 a1 σ
  f11 : ∀ (a0 a1 : AV) (σ : Store), D.call 11 [a0, a1] σ = sh_spec_l6nodeok D a0 a1 σ
  f12 : ∀ (a0 : AV) (σ : Store), D.call 12 [a0] σ = sh_spec_l6sizes D a0 σ
  f13 : ∀ (a0 : AV) (σ : Store), D.call 13 [a0] σ = sh_laws_toPartS D a0 σ
  f14 : ∀ (a0 a1 : AV) (σ : Store), D.call 14 [a0, a1] σ = sh_impl_partShape D a0 a1 σ
  f15 : ∀ (a0 a1 : AV) (σ : Store), D.call 15 [a0, a1] σ = sh_laws_eqPartS D a0 a1 σ
  f16 : ∀ (a0 a1 : AV) (σ : Store), D.call 16 [a0, a1] σ = sh_laws_szPart D a0 a1 σ
  f17 : ∀ (a0 : AV) (σ : Store), D.call 17 [a0] σ = sh_spec_l6stat D a0 σ
  f18 : ∀ (a0 a1 : AV) (σ : Store), D.call 18 [a0, a1] σ = sh_spec_l6statement D a0 a1 σ
  f19 : ∀ (a0 a1 : AV) (σ : Store), D.call 19 [a0, a1] σ = sh_spec_l6expression D a0 a1 σ
  f20 : ∀ (a0 : AV) (σ : Store), D.call 20 [a0] σ = sh_laws_toPart D a0 σ
  f21 : ∀ (a0 a1 a2 a3 : AV) (σ : Store), D.call 21 [a0, a1, a2, a3] σ = sh_impl_partShape_1 D a0 a1 a2 a3 σ
  f22 : ∀ (a0 a1 a2 : AV) (σ : Store), D.call 22 [a0, a1, a2] σ = sh_impl_partShape_2 D a0 a1 a2 σ
  f23 : ∀ (a0 : AV) (σ : Store), D.call 23 [a0] σ = sh_impl_partShape_3 D a0 σ
  f24 : ∀ (a0 : AV) (σ : Store), D.call 24 [a0] σ = sh_impl_partExpr D a0 σ
  f25 : ∀ (a0 : AV) (σ : Store), D.call 25 [a0] σ = sh_impl_partStmt D a0 σ
  f26 : ∀ (a0 : AV) (σ : Store), D.call 26 [a0] σ = sh_impl_partShape_4 D a0 σ
  f27 : ∀ (a0 : AV) (σ : Store), D.call 27 [a0] σ = sh_impl_isName D a0 σ
  f28 : ∀ (a0 : AV) (σ : Store), D.call 28 [a0] σ = sh_impl_partShape_5 D a0 σ
  f29 : ∀ (a0 a1 : AV) (σ : Store), D.call 29 [a0, a1] σ = sh_laws_eqPart D a0 a1 σ
  f30 : ∀ (a0 a1 : AV) (σ : Store), D.call 30 [a0, a1] σ = sh_laws_szStringS D a0 a1 σ
  f31 : ∀ (a0 a1 : AV) (σ : Store), D.call 31 [a0, a1] σ = sh_laws_szIntS D a0 a1 σ
  f32 : ∀ (a0 a1 a2 : AV) (σ : Store), D.call 32 [a0, a1, a2] σ = sh_spec_l6kid D a0 a1 a2 σ
  f33 : ∀ (a0 a1 a2 a3 a4 : AV) (σ : Store), D.call 33 [a0, a1, a2, a3, a4] σ = sh_spec_l6bare D a0 a1 a2 a3 a4 σ
  f34 : ∀ (a0 a1 a2 : AV) (σ : Store), D.call 34 [a0, a1, a2] σ = sh_spec_l6named D a0 a1 a2 σ
  f35 : ∀ (a0 a1 a2 a3 : AV) (σ : Store), D.call 35 [a0, a1, a2, a3] σ = sh_spec_l6exprs D a0 a1 a2 a3 σ
  f36 : ∀ (a0 : AV) (σ : Store), D.call 36 [a0] σ = sh_spec_l6target D a0 σ
  f37 : ∀ (a0 : AV) (σ : Store), D.call 37 [a0] σ = sh_spec_l6nameok D a0 σ
  f38 : ∀ (a0 : AV) (σ : Store), D.call 38 [a0] σ = sh_laws_toStringS D a0 σ
  f39 : ∀ (a0 : AV) (σ : Store), D.call 39 [a0] σ = sh_laws_toIntS D a0 σ
  f40 : ∀ (a0 a1 : AV) (σ : Store), D.call 40 [a0, a1] σ = sh_laws_sameFloat D a0 a1 σ
  f41 : ∀ (a0 a1 : AV) (σ : Store), D.call 41 [a0, a1] σ = sh_laws_eqStringS D a0 a1 σ
  f42 : ∀ (a0 a1 : AV) (σ : Store), D.call 42 [a0, a1] σ = sh_laws_eqIntS D a0 a1 σ
  f43 : ∀ (a0 : AV) (σ : Store), D.call 43 [a0] σ = sh_spec_l6expr D a0 σ
  f44 : ∀ (σ : Store), D.call 44 [] σ = sh_spec_l6words D σ
theorem door (G : Nat → Option AV) : Door (Ctx.den fns G) where
  f3 := fun a0 σ => (den_eq fns G rfl _ _).trans (sh_laws_FnExactTreeOk_eq _ _ _)
  f4 := fun a0 a1 σ => (den_eq fns G rfl _ _).trans (sh_laws_szTree_eq _ _ _ _)
  f5 := fun a0 σ => (den_eq fns G rfl _ _).trans (sh_spec_TreeOk_eq _ _ _)
  f6 := fun a0 σ => (den_eq fns G rfl _ _).trans (sh_laws_toTree_eq _ _ _)
  f7 := fun a0 σ => (den_eq fns G rfl _ _).trans (sh_impl_TreeOk_eq _ _ _)
  f8 := fun a0 a1 σ => (den_eq fns G rfl _ _).trans (sh_laws_eqWrong_eq _ _ _ _)
  f9 := fun a0 a1 σ => (den_eq fns G rfl _ _).trans (sh_laws_eqTree_eq _ _ _ _)
  f10 := fun a0 a1 σ => (den_eq fns G rfl _ _).trans (sh_laws_szPartS_eq _ _ _ _)
  f11 := fun a0 a1 σ => (den_eq fns G rfl _ _).trans (sh_spec_l6nodeok_eq _ _ _ _)
  f12 := fun a0 σ => (den_eq fns G rfl _ _).trans (sh_spec_l6sizes_eq _ _ _)
  f13 := fun a0 σ => (den_eq fns G rfl _ _).trans (sh_laws_toPartS_eq _ _ _)
  f14 := fun a0 a1 σ => (den_eq fns G rfl _ _).trans (sh_impl_partShape_eq _ _ _ _)
  f15 := fun a0 a1 σ => (den_eq fns G rfl _ _).trans (sh_laws_eqPartS_eq _ _ _ _)
  f16 := fun a0 a1 σ => (den_eq fns G rfl _ _).trans (sh_laws_szPart_eq _ _ _ _)
  f17 := fun a0 σ => (den_eq fns G rfl _ _).trans (sh_spec_l6stat_eq _ _ _)
  f18 := fun a0 a1 σ => (den_eq fns G rfl _ _).trans (sh_spec_l6statement_eq _ _ _ _)
  f19 := fun a0 a1 σ => (den_eq fns G rfl _ _).trans (sh_spec_l6expression_eq _ _ _ _)
  f20 := fun a0 σ => (den_eq fns G rfl _ _).trans (sh_laws_toPart_eq _ _ _)
  f21 := fun a0 a1 a2 a3 σ => (den_eq fns G rfl _ _).trans (sh_impl_partShape_1_eq _ _ _ _ _ _)
  f22 := fun a0 a1 a2 σ => (den_eq fns G rfl _ _).trans (sh_impl_partShape_2_eq _ _ _ _ _)
  f23 := fun a0 σ => (den_eq fns G rfl _ _).trans (sh_impl_partShape_3_eq _ _ _)
  f24 := fun a0 σ => (den_eq fns G rfl _ _).trans (sh_impl_partExpr_eq _ _ _)
  f25 := fun a0 σ => (den_eq fns G rfl _ _).trans (sh_impl_partStmt_eq _ _ _)
  f26 := fun a0 σ => (den_eq fns G rfl _ _).trans (sh_impl_partShape_4_eq _ _ _)
  f27 := fun a0 σ => (den_eq fns G rfl _ _).trans (sh_impl_isName_eq _ _ _)
  f28 := fun a0 σ => (den_eq fns G rfl _ _).trans (sh_impl_partShape_5_eq _ _ _)
  f29 := fun a0 a1 σ => (den_eq fns G rfl _ _).trans (sh_laws_eqPart_eq _ _ _ _)
  f30 := fun a0 a1 σ => (den_eq fns G rfl _ _).trans (sh_laws_szStringS_eq _ _ _ _)
  f31 := fun a0 a1 σ => (den_eq fns G rfl _ _).trans (sh_laws_szIntS_eq _ _ _ _)
  f32 := fun a0 a1 a2 σ => (den_eq fns G rfl _ _).trans (sh_spec_l6kid_eq _ _ _ _ _)
  f33 := fun a0 a1 a2 a3 a4 σ => (den_eq fns G rfl _ _).trans (sh_spec_l6bare_eq _ _ _ _ _ _ _)
  f34 := fun a0 a1 a2 σ => (den_eq fns G rfl _ _).trans (sh_spec_l6named_eq _ _ _ _ _)
  f35 := fun a0 a1 a2 a3 σ => (den_eq fns G rfl _ _).trans (sh_spec_l6exprs_eq _ _ _ _ _ _)
  f36 := fun a0 σ => (den_eq fns G rfl _ _).trans (sh_spec_l6target_eq _ _ _)
  f37 := fun a0 σ => (den_eq fns G rfl _ _).trans (sh_spec_l6nameok_eq _ _ _)
  f38 := fun a0 σ => (den_eq fns G rfl _ _).trans (sh_laws_toStringS_eq _ _ _)
  f39 := fun a0 σ => (den_eq fns G rfl _ _).trans (sh_laws_toIntS_eq _ _ _)
  f40 := fun a0 a1 σ => (den_eq fns G rfl _ _).trans (sh_laws_sameFloat_eq _ _ _ _)
  f41 := fun a0 a1 σ => (den_eq fns G rfl _ _).trans (sh_laws_eqStringS_eq _ _ _ _)
  f42 := fun a0 a1 σ => (den_eq fns G rfl _ _).trans (sh_laws_eqIntS_eq _ _ _ _)
  f43 := fun a0 σ => (den_eq fns G rfl _ _).trans (sh_spec_l6expr_eq _ _ _)
  f44 := fun σ => (den_eq fns G rfl _ _).trans (sh_spec_l6words_eq _ _)
end Go.Asm.DoorF
