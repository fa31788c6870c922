import Derived.Test.YtebmeojmlakkoaaDoorAsm23
import Derived.KernelRfl
set_option linter.all false
namespace Go.Asm.DoorF
open Go Go.Asm
set_option maxRecDepth 100000
/-- loop.example/reed/laws.FnExactTreeOk: function 3 -/
def ir_laws_FnExactTreeOk : IFn := ⟨[.tmp 2],
.seq (.reg (.op (some 1) (.pbox (.t 0)) (
  .op (some 2) (.mv (.c (.bool false))) (
  .done)))) (
  .seq (.reg (.op (some 3) (.mv (.c (.int .i64 1048576))) (
  .done))) (
  .seq (.reg (.op (some 7) (.load true 1 (.t 1)) (
  .op (some 8) (.mv (.t 3)) (
  .op (some 9) (.callV 4 [(.t 7), (.t 8)]) (
  .op (some 3) (.mv (.t 9)) (
  .done)))))) (
  .seq (.seq (.reg (.op (some 10) (.mv (.t 3)) (
  .op (some 11) (.bin .lss .num (.t 10) (.c (.int .i64 0))) (
  .done)))) (
  .cond (.t 11) none (.seq (.reg (.op (some 2) (.mv (.c (.bool true))) (
  .done))) (
  .ret)) (.skip))) (
  .seq (.reg (.op (some 12) (.load true 1 (.t 1)) (
  .op (some 13) (.callP 6 [(.t 12)]) (
  .op (some 14) (.callV 5 [(.t 13)]) (
  .op (some 4) (.zalloc [(.int .i64 0), (.int .i64 0)]) (
  .op none (.store true 2 (.t 4) (.t 14)) (
  .freeze 4 (
  .done)))))))) (
  .seq (.reg (.op (some 15) (.load true 1 (.t 1)) (
  .op (some 16) (.callP 6 [(.t 15)]) (
  .op (some 5) (.zalloc [.nilslice]) (
  .op none (.store true 1 (.t 5) (.t 16)) (
  .freeze 5 (
  .done))))))) (
  .seq (.reg (.op (some 17) (.load true 1 (.t 5)) (
  .op (some 18) (.callV 7 [(.t 17)]) (
  .op (some 6) (.zalloc [(.int .i64 0), (.int .i64 0)]) (
  .op none (.store true 2 (.t 6) (.t 18)) (
  .freeze 6 (
  .done))))))) (
  .seq (.seq (.reg (.op (some 19) (.load true 2 (.t 6)) (
  .op (some 20) (.load true 2 (.t 4)) (
  .op (some 21) (.callV 8 [(.t 19), (.t 20)]) (
  .op (some 22) (.un .not (.t 21)) (
  .done)))))) (
  .cond (.t 22) none (.seq (.reg (.op (some 2) (.mv (.c (.bool false))) (
  .done))) (
  .ret)) (.skip))) (
  .seq (.seq (.reg (.op (some 23) (.load true 1 (.t 5)) (
  .op (some 24) (.load true 1 (.t 1)) (
  .op (some 25) (.callP 6 [(.t 24)]) (
  .op (some 26) (.callV 9 [(.t 23), (.t 25)]) (
  .op (some 27) (.un .not (.t 26)) (
  .done))))))) (
  .cond (.t 27) none (.seq (.reg (.op (some 2) (.mv (.c (.bool false))) (
  .done))) (
  .ret)) (.skip))) (
  .seq (.reg (.op (some 2) (.mv (.c (.bool true))) (
  .done))) (
  .ret))))))))))⟩
noncomputable def sh_laws_FnExactTreeOk (D : Ctx) (a0 : AV) (σ : Store) : Res :=
  (rdN 1 (.pptr (AV.cells a0) 0) σ).bind fun t_1 =>
  (callV D 4 [(.agg t_1), (.int .i64 1048576)] σ).bind fun t_2 =>
  (bin .lss .num t_2 (.int .i64 0)).bind fun t_3 =>
  aCase t_3
  (some ((.bool true), σ))
  ((rdN 1 (.pptr (AV.cells a0) 0) σ).bind fun t_4 =>
  (callP D 6 [(.agg t_4)]).bind fun t_5 =>
  (callV D 5 [t_5] σ).bind fun t_6 =>
  (asplit 2 t_6).bind fun cs_7 =>
  (rdN 1 (.pptr (AV.cells a0) 0) σ).bind fun t_8 =>
  (callP D 6 [(.agg t_8)]).bind fun t_9 =>
  (asplit 1 t_9).bind fun cs_10 =>
  (rdN 1 (.pptr cs_10 0) σ).bind fun t_11 =>
  (callV D 7 [(.agg t_11)] σ).bind fun t_12 =>
  (asplit 2 t_12).bind fun cs_13 =>
  (rdN 2 (.pptr cs_13 0) σ).bind fun t_14 =>
  (rdN 2 (.pptr cs_7 0) σ).bind fun t_15 =>
  (callV D 8 [(.agg t_14), (.agg t_15)] σ).bind fun t_16 =>
  (un .not t_16).bind fun t_17 =>
  aCase t_17
  (some ((.bool false), σ))
  ((rdN 1 (.pptr cs_10 0) σ).bind fun t_18 =>
  (rdN 1 (.pptr (AV.cells a0) 0) σ).bind fun t_19 =>
  (callP D 6 [(.agg t_19)]).bind fun t_20 =>
  (callV D 9 [(.agg t_18), t_20] σ).bind fun t_21 =>
  (un .not t_21).bind fun t_22 =>
  aCase t_22
  (some ((.bool false), σ))
  (some ((.bool true), σ))))
theorem sh_laws_FnExactTreeOk_eq (D : Ctx) (a0 : AV) (σ : Store) : runFn D ir_laws_FnExactTreeOk [a0] σ = sh_laws_FnExactTreeOk D a0 σ := by kernel_rfl
/-- loop.example/reed/laws.szTree: function 4 -/
def ir_laws_szTree : IFn := ⟨[.tmp 4],
.seq (.reg (.op (some 2) (.pbox (.t 0)) (
  .op (some 4) (.mv (.c (.int .i64 0))) (
  .done)))) (
  .seq (.reg (.op (some 5) (.fadd 0 (.t 2)) (
  .op (some 6) (.load false 1 (.t 5)) (
  .op (some 7) (.mv (.t 1)) (
  .op (some 8) (.callV 10 [(.t 6), (.t 7)]) (
  .op (some 1) (.mv (.t 8)) (
  .done))))))) (
  .seq (.seq (.reg (.op (some 9) (.mv (.t 1)) (
  .op (some 10) (.bin .lss .num (.t 9) (.c (.int .i64 0))) (
  .done)))) (
  .cond (.t 10) none (.seq (.reg (.op (some 4) (.mv (.c (.int .i64 (-1)))) (
  .done))) (
  .ret)) (.skip))) (
  .seq (.reg (.op (some 11) (.mv (.t 1)) (
  .op (some 4) (.mv (.t 11)) (
  .done)))) (
  .ret))))⟩
noncomputable def sh_laws_szTree (D : Ctx) (a0 a1 : AV) (σ : Store) : Res :=
  (rd1 D.G (.pptr (AV.cells a0) 0) σ).bind fun t_1 =>
  (callV D 10 [t_1, a1] σ).bind fun t_2 =>
  (bin .lss .num t_2 (.int .i64 0)).bind fun t_3 =>
  aCase t_3
  (some ((.int .i64 (-1)), σ))
  (some (t_2, σ))
theorem sh_laws_szTree_eq (D : Ctx) (a0 a1 : AV) (σ : Store) : runFn D ir_laws_szTree [a0, a1] σ = sh_laws_szTree D a0 a1 σ := by kernel_rfl
/-- loop.example/reed/spec.TreeOk: function 5 -/
def ir_spec_TreeOk : IFn := ⟨[.cell 2 true 2],
.seq (.reg (.op (some 1) (.pbox (.t 0)) (
  .op (some 2) (.zalloc [(.int .i64 0), (.int .i64 0)]) (
  .done)))) (
  .seq (.seq (.reg (.op (some 13) (.fadd 0 (.t 1)) (
  .op (some 14) (.load false 1 (.t 13)) (
  .op (some 15) (.len .sl (.t 14)) (
  .op (some 16) (.bin .eql .num (.t 15) (.c (.int .i64 0))) (
  .op (some 17) (.mv (.t 16)) (
  .dia 17 (
  .gop 17 false (some 18) (.fadd 0 (.t 1)) (
  .gop 17 false (some 19) (.load false 1 (.t 18)) (
  .gop 17 false (some 20) (.len .sl (.t 19)) (
  .gop 17 false (some 21) (.bin .gtr .num (.t 20) (.c (.int .i64 3000))) (
  .done))))) 22 (.t 17) (.c (.bool true)) (.t 21) none (
  .op (some 23) (.mv (.t 22)) (
  .dia 23 (
  .gop 23 false (some 24) (.fadd 0 (.t 1)) (
  .gop 23 false (some 25) (.load false 1 (.t 24)) (
  .gop 23 false (some 26) (.fadd 0 (.t 1)) (
  .gop 23 false (some 27) (.load false 1 (.t 26)) (
  .gop 23 false (some 28) (.len .sl (.t 27)) (
  .gop 23 false (some 29) (.bin .sub .num (.t 28) (.c (.int .i64 1))) (
  .gop 23 false (some 30) (.idx 10 (.t 25) (.t 29)) (
  .gop 23 false (some 31) (.fadd 0 (.t 30)) (
  .gop 23 false (some 32) (.load false 1 (.t 31)) (
  .gop 23 false (some 33) (.bin .neq .num (.t 32) (.c (.int .i64 1))) (
  .done))))))))))) 34 (.t 23) (.c (.bool true)) (.t 33) none (
  .done)))))))))) (
  .cond (.t 34) none (.seq (.reg (.op (some 35) (.build [(.int .i64 0), (.int .i64 0)] [(0, 1, false, (.c (.int .i64 1)))]) (
  .op none (.store true 2 (.t 2) (.t 35)) (
  .done)))) (
  .ret)) (.skip))) (
  .seq (.seq (.reg (.op (some 36) (.fadd 0 (.t 1)) (
  .op (some 37) (.load false 1 (.t 36)) (
  .op (some 38) (.len .sl (.t 37)) (
  .op (some 39) (.mv (.c (.int .i64 0))) (
  .done)))))) (
  .block 0 (some ⟨[], [(2, 2)]⟩) (
  .loop ⟨[39], [(2, 2)]⟩ (
  .seq (.reg (.op (some 40) (.bin .lss .num (.t 39) (.t 38)) (
  .done))) (
  .seq (.cond (.t 40) none (.skip) (.exit 0)) (
  .seq (.block 1 none (
  .seq (.reg (.op (some 41) (.mv (.t 39)) (
  .op (some 3) (.mv (.t 41)) (
  .done)))) (
  .seq (.reg (.op (some 42) (.load true 1 (.t 1)) (
  .op (some 43) (.mv (.t 3)) (
  .op (some 44) (.callV 11 [(.t 42), (.t 43)]) (
  .op (some 45) (.un .not (.t 44)) (
  .done)))))) (
  .cond (.t 45) none (.seq (.reg (.op (some 46) (.mv (.t 3)) (
  .op (some 47) (.build [(.int .i64 0), (.int .i64 0)] [(0, 1, false, (.c (.int .i64 2))), (1, 1, false, (.t 46))]) (
  .op none (.store true 2 (.t 2) (.t 47)) (
  .done))))) (
  .ret)) (.skip))))) (
  .reg (.op (some 48) (.bin .add .num (.t 39) (.c (.int .i64 1))) (
  .op (some 39) (.mv (.t 48)) (
  .done)))))))))) (
  .seq (.reg (.op (some 49) (.load true 1 (.t 1)) (
  .op (some 50) (.callP 12 [(.t 49)]) (
  .op (some 4) (.mv (.t 50)) (
  .done))))) (
  .seq (.seq (.reg (.op (some 51) (.mv (.t 4)) (
  .op (some 52) (.len .sl (.t 51)) (
  .op (some 53) (.mv (.c (.int .i64 0))) (
  .done))))) (
  .block 2 (some ⟨[], [(2, 2)]⟩) (
  .loop ⟨[53], [(2, 2)]⟩ (
  .seq (.reg (.op (some 54) (.bin .lss .num (.t 53) (.t 52)) (
  .done))) (
  .seq (.cond (.t 54) none (.skip) (.exit 2)) (
  .seq (.block 3 none (
  .seq (.reg (.op (some 55) (.mv (.t 53)) (
  .op (some 56) (.idx 1 (.t 51) (.t 53)) (
  .op (some 57) (.load false 1 (.t 56)) (
  .op (some 5) (.mv (.t 55)) (
  .op (some 6) (.mv (.t 57)) (
  .done))))))) (
  .seq (.reg (.op (some 58) (.mv (.t 6)) (
  .op (some 59) (.bin .eql .num (.t 58) (.c (.int .i64 0))) (
  .done)))) (
  .cond (.t 59) none (.seq (.reg (.op (some 60) (.mv (.t 5)) (
  .op (some 61) (.build [(.int .i64 0), (.int .i64 0)] [(0, 1, false, (.c (.int .i64 3))), (1, 1, false, (.t 60))]) (
  .op none (.store true 2 (.t 2) (.t 61)) (
  .done))))) (
  .ret)) (.skip))))) (
  .reg (.op (some 62) (.bin .add .num (.t 53) (.c (.int .i64 1))) (
  .op (some 53) (.mv (.t 62)) (
  .done)))))))))) (
  .seq (.seq (.reg (.op (some 63) (.mv (.t 4)) (
  .op (some 64) (.mv (.t 4)) (
  .op (some 65) (.len .sl (.t 64)) (
  .op (some 66) (.bin .sub .num (.t 65) (.c (.int .i64 1))) (
  .op (some 67) (.idx 1 (.t 63) (.t 66)) (
  .op (some 68) (.load false 1 (.t 67)) (
  .op (some 69) (.mv (.t 4)) (
  .op (some 70) (.len .sl (.t 69)) (
  .op (some 71) (.bin .neq .num (.t 68) (.t 70)) (
  .done))))))))))) (
  .cond (.t 71) none (.seq (.reg (.op (some 72) (.mv (.t 4)) (
  .op (some 73) (.len .sl (.t 72)) (
  .op (some 74) (.bin .sub .num (.t 73) (.c (.int .i64 1))) (
  .op (some 75) (.build [(.int .i64 0), (.int .i64 0)] [(0, 1, false, (.c (.int .i64 3))), (1, 1, false, (.t 74))]) (
  .op none (.store true 2 (.t 2) (.t 75)) (
  .done))))))) (
  .ret)) (.skip))) (
  .seq (.reg (.op (some 76) (.fadd 0 (.t 1)) (
  .op (some 77) (.load false 1 (.t 76)) (
  .op (some 78) (.len .sl (.t 77)) (
  .op (some 79) (.mkSlice [(.int .i64 0)] (.t 78)) (
  .op (some 7) (.mv (.t 79)) (
  .done))))))) (
  .seq (.seq (.reg (.op (some 80) (.fadd 0 (.t 1)) (
  .op (some 81) (.load false 1 (.t 80)) (
  .op (some 82) (.len .sl (.t 81)) (
  .op (some 83) (.bin .sub .num (.t 82) (.c (.int .i64 1))) (
  .op (some 8) (.mv (.t 83)) (
  .done))))))) (
  .block 4 (some ⟨[], [(2, 2)]⟩) (
  .loop ⟨[8], [(2, 2)]⟩ (
  .seq (.seq (.reg (.op (some 84) (.mv (.t 8)) (
  .op (some 85) (.bin .geq .num (.t 84) (.c (.int .i64 0))) (
  .done)))) (
  .cond (.t 85) none (.skip) (.exit 4))) (
  .seq (.block 5 none (
  .seq (.reg (.op (some 88) (.fadd 0 (.t 1)) (
  .op (some 89) (.load false 1 (.t 88)) (
  .op (some 90) (.mv (.t 8)) (
  .op (some 91) (.idx 10 (.t 89) (.t 90)) (
  .op (some 92) (.fadd 9 (.t 91)) (
  .op (some 93) (.load false 1 (.t 92)) (
  .op (some 94) (.len .sl (.t 93)) (
  .op (some 95) (.mv (.c (.int .i64 0))) (
  .done)))))))))) (
  .block 6 (some ⟨[], [(2, 2)]⟩) (
  .loop ⟨[95], [(2, 2)]⟩ (
  .seq (.reg (.op (some 96) (.bin .lss .num (.t 95) (.t 94)) (
  .done))) (
  .seq (.cond (.t 96) none (.skip) (.exit 6)) (
  .seq (.block 7 none (
  .seq (.reg (.op (some 97) (.idx 1 (.t 93) (.t 95)) (
  .op (some 98) (.load false 1 (.t 97)) (
  .op (some 10) (.mv (.t 98)) (
  .done))))) (
  .reg (.op (some 99) (.mv (.t 7)) (
  .op (some 100) (.mv (.t 10)) (
  .op (some 101) (.mv (.t 7)) (
  .op (some 102) (.mv (.t 8)) (
  .op (some 103) (.idx 1 (.t 101) (.t 102)) (
  .op (some 104) (.load false 1 (.t 103)) (
  .op (some 105) (.bin .add .num (.t 104) (.c (.int .i64 1))) (
  .op (some 106) (.idx 1 (.t 99) (.t 100)) (
  .op none (.store false 1 (.t 106) (.t 105)) (
  .done))))))))))))) (
  .reg (.op (some 107) (.bin .add .num (.t 95) (.c (.int .i64 1))) (
  .op (some 95) (.mv (.t 107)) (
  .done))))))))))) (
  .reg (.op (some 86) (.mv (.t 8)) (
  .op (some 87) (.bin .sub .num (.t 86) (.c (.int .i64 1))) (
  .op (some 8) (.mv (.t 87)) (
  .done)))))))))) (
  .seq (.seq (.reg (.op (some 108) (.mv (.t 7)) (
  .op (some 109) (.len .sl (.t 108)) (
  .op (some 110) (.mv (.c (.int .i64 0))) (
  .done))))) (
  .block 8 (some ⟨[], [(2, 2)]⟩) (
  .loop ⟨[110], [(2, 2)]⟩ (
  .seq (.reg (.op (some 111) (.bin .lss .num (.t 110) (.t 109)) (
  .done))) (
  .seq (.cond (.t 111) none (.skip) (.exit 8)) (
  .seq (.block 9 none (
  .seq (.reg (.op (some 112) (.mv (.t 110)) (
  .op (some 113) (.idx 1 (.t 108) (.t 110)) (
  .op (some 114) (.load false 1 (.t 113)) (
  .op (some 11) (.mv (.t 112)) (
  .op (some 12) (.mv (.t 114)) (
  .done))))))) (
  .seq (.reg (.op (some 115) (.mv (.t 12)) (
  .op (some 116) (.bin .gtr .num (.t 115) (.c (.int .i64 100))) (
  .done)))) (
  .cond (.t 116) none (.seq (.reg (.op (some 117) (.mv (.t 11)) (
  .op (some 118) (.build [(.int .i64 0), (.int .i64 0)] [(0, 1, false, (.c (.int .i64 4))), (1, 1, false, (.t 117))]) (
  .op none (.store true 2 (.t 2) (.t 118)) (
  .done))))) (
  .ret)) (.skip))))) (
  .reg (.op (some 119) (.bin .add .num (.t 110) (.c (.int .i64 1))) (
  .op (some 110) (.mv (.t 119)) (
  .done)))))))))) (
  .seq (.reg (.op (some 120) (.build [(.int .i64 0), (.int .i64 0)] []) (
  .op none (.store true 2 (.t 2) (.t 120)) (
  .done)))) (
  .ret))))))))))⟩
noncomputable def lp_spec_TreeOk_1 (D : Ctx) (t_11 : AV) (a0 : AV) (k_14 : Cur 1) : Cur 2 → Cur 2 :=
  fun go_94 t_91 t_92 s_93 =>
  (bin .lss .num t_91 t_11).bind fun t_95 =>
  aCase t_95
  ((rdN 1 (.pptr (AV.cells a0) 0) s_93).bind fun t_96 =>
  (callV D 11 [(.agg t_96), t_91] s_93).bind fun t_97 =>
  (un .not t_97).bind fun t_98 =>
  aCase t_98
  ((one t_91).bind fun o_99 =>
  some ((.agg [(.int .i64 2), o_99]), s_93))
  ((bin .add .num t_91 (.int .i64 1)).bind fun t_100 =>
  go_94 t_100 (.agg (AV.cells t_92)) s_93))
  (k_14 (.agg (AV.cells t_92)) s_93)
theorem lp_spec_TreeOk_1_le {D : Ctx} (t_11 : AV) (a0 : AV) (k_14 : Cur 1) {k_14' : Cur 1} (hk_14 : Cle k_14 k_14') {u u' : Cur 2} (h : Cle u u') : Cle (lp_spec_TreeOk_1 D t_11 a0 k_14 u) (lp_spec_TreeOk_1 D t_11 a0 k_14' u') := by
  unfold lp_spec_TreeOk_1
  repeat (first
    | with_reducible refine Ole.bindr fun _ => ?_
    | with_reducible refine Ole.aCase ?_ ?_
    | refine Ole.jn ?_ (fun _ _ _ => ?_)
    | refine Cle.succ fun _ => ?_
    | refine Cle.zero fun _ => ?_
    | exact Cle.use1 (by assumption)
    | exact Cle.use2 (by assumption)
    | with_reducible exact Ole.refl _)
theorem lp_spec_TreeOk_1_mono (D : Ctx) (t_11 : AV) (a0 : AV) (k_14 : Cur 1) : Mono (lp_spec_TreeOk_1 D t_11 a0 k_14) := fun _ _ h => lp_spec_TreeOk_1_le t_11 a0 k_14 (Cle.refl _) h
noncomputable def lp_spec_TreeOk_2 (D : Ctx) (t_17 : AV) (t_16 : AV) (k_20 : Cur 1) : Cur 2 → Cur 2 :=
  fun go_84 t_81 t_82 s_83 =>
  (bin .lss .num t_81 t_17).bind fun t_85 =>
  aCase t_85
  ((idx 1 t_16 t_81).bind fun t_86 =>
  (rd1 D.G t_86 s_83).bind fun t_87 =>
  (bin .eql .num t_87 (.int .i64 0)).bind fun t_88 =>
  aCase t_88
  ((one t_81).bind fun o_89 =>
  some ((.agg [(.int .i64 3), o_89]), s_83))
  ((bin .add .num t_81 (.int .i64 1)).bind fun t_90 =>
  go_84 t_90 (.agg (AV.cells t_82)) s_83))
  (k_20 (.agg (AV.cells t_82)) s_83)
theorem lp_spec_TreeOk_2_le {D : Ctx} (t_17 : AV) (t_16 : AV) (k_20 : Cur 1) {k_20' : Cur 1} (hk_20 : Cle k_20 k_20') {u u' : Cur 2} (h : Cle u u') : Cle (lp_spec_TreeOk_2 D t_17 t_16 k_20 u) (lp_spec_TreeOk_2 D t_17 t_16 k_20' u') := by
  unfold lp_spec_TreeOk_2
  repeat (first
    | with_reducible refine Ole.bindr fun _ => ?_
    | with_reducible refine Ole.aCase ?_ ?_
    | refine Ole.jn ?_ (fun _ _ _ => ?_)
    | refine Cle.succ fun _ => ?_
    | refine Cle.zero fun _ => ?_
    | exact Cle.use1 (by assumption)
    | exact Cle.use2 (by assumption)
    | with_reducible exact Ole.refl _)
theorem lp_spec_TreeOk_2_mono (D : Ctx) (t_17 : AV) (t_16 : AV) (k_20 : Cur 1) : Mono (lp_spec_TreeOk_2 D t_17 t_16 k_20) := fun _ _ h => lp_spec_TreeOk_2_le t_17 t_16 k_20 (Cle.refl _) h
noncomputable def lp_spec_TreeOk_3 (D : Ctx) (t_62 : AV) (t_61 : AV) (t_32 : AV × Store) (i_53 : AV) (k_65 : Cur 1) : Cur 2 → Cur 2 :=
  fun go_70 t_67 t_68 s_69 =>
  (bin .lss .num t_67 t_62).bind fun t_71 =>
  aCase t_71
  ((idx 1 t_61 t_67).bind fun t_72 =>
  (rd1 D.G t_72 s_69).bind fun t_73 =>
  (idx 1 t_32.1 i_53).bind fun t_74 =>
  (rd1 D.G t_74 s_69).bind fun t_75 =>
  (bin .add .num t_75 (.int .i64 1)).bind fun t_76 =>
  (idx 1 t_32.1 t_73).bind fun t_77 =>
  (one t_76).bind fun o_78 =>
  (wr t_77 [o_78] s_69).bind fun s_79 =>
  (bin .add .num t_67 (.int .i64 1)).bind fun t_80 =>
  go_70 t_80 (.agg (AV.cells t_68)) s_79)
  (k_65 (.agg (AV.cells t_68)) s_69)
theorem lp_spec_TreeOk_3_le {D : Ctx} (t_62 : AV) (t_61 : AV) (t_32 : AV × Store) (i_53 : AV) (k_65 : Cur 1) {k_65' : Cur 1} (hk_65 : Cle k_65 k_65') {u u' : Cur 2} (h : Cle u u') : Cle (lp_spec_TreeOk_3 D t_62 t_61 t_32 i_53 k_65 u) (lp_spec_TreeOk_3 D t_62 t_61 t_32 i_53 k_65' u') := by
  unfold lp_spec_TreeOk_3
  repeat (first
    | with_reducible refine Ole.bindr fun _ => ?_
    | with_reducible refine Ole.aCase ?_ ?_
    | refine Ole.jn ?_ (fun _ _ _ => ?_)
    | refine Cle.succ fun _ => ?_
    | refine Cle.zero fun _ => ?_
    | exact Cle.use1 (by assumption)
    | exact Cle.use2 (by assumption)
    | with_reducible exact Ole.refl _)
theorem lp_spec_TreeOk_3_mono (D : Ctx) (t_62 : AV) (t_61 : AV) (t_32 : AV × Store) (i_53 : AV) (k_65 : Cur 1) : Mono (lp_spec_TreeOk_3 D t_62 t_61 t_32 i_53 k_65) := fun _ _ h => lp_spec_TreeOk_3_le t_62 t_61 t_32 i_53 k_65 (Cle.refl _) h
noncomputable def lp_spec_TreeOk_4 (D : Ctx) (a0 : AV) (t_32 : AV × Store) (k_38 : Cur 1) : Cur 2 → Cur 2 :=
  fun go_56 i_53 t_54 s_55 =>
  (bin .geq .num i_53 (.int .i64 0)).bind fun t_57 =>
  aCase t_57
  ((rd1 D.G (.pptr (AV.cells a0) 0) s_55).bind fun t_58 =>
  (idx 10 t_58 i_53).bind fun t_59 =>
  (fadd t_59 9).bind fun t_60 =>
  (rd1 D.G t_60 s_55).bind fun t_61 =>
  (lenV .sl t_61 s_55).bind fun t_62 =>
  jn 1 (fun t_63 s_64 =>
  (bin .sub .num i_53 (.int .i64 1)).bind fun t_66 =>
  go_56 t_66 (.agg (AV.cells t_63)) s_64)
  (fun k_65 =>
  lpFix 2 (lp_spec_TreeOk_3 D t_62 t_61 t_32 i_53 k_65) (.int .i64 0) (.agg (AV.cells t_54)) s_55))
  (k_38 (.agg (AV.cells t_54)) s_55)
theorem lp_spec_TreeOk_4_le {D : Ctx} (a0 : AV) (t_32 : AV × Store) (k_38 : Cur 1) {k_38' : Cur 1} (hk_38 : Cle k_38 k_38') {u u' : Cur 2} (h : Cle u u') : Cle (lp_spec_TreeOk_4 D a0 t_32 k_38 u) (lp_spec_TreeOk_4 D a0 t_32 k_38' u') := by
  unfold lp_spec_TreeOk_4
  repeat (first
    | with_reducible refine Ole.bindr fun _ => ?_
    | with_reducible refine Ole.aCase ?_ ?_
    | refine Ole.jn ?_ (fun _ _ _ => ?_)
    | refine Cle.succ fun _ => ?_
    | refine Cle.zero fun _ => ?_
    | exact Cle.use1 (by assumption)
    | exact Cle.use2 (by assumption)
    | exact Cle.use2 (lpFix_mono (lp_spec_TreeOk_3_mono _ _ _ _ _ _) (lp_spec_TreeOk_3_mono _ _ _ _ _ _) fun _ => lp_spec_TreeOk_3_le _ _ _ _ _ (by first | assumption | exact Cle.refl _) (Cle.refl _))
    | with_reducible exact Ole.refl _)
theorem lp_spec_TreeOk_4_mono (D : Ctx) (a0 : AV) (t_32 : AV × Store) (k_38 : Cur 1) : Mono (lp_spec_TreeOk_4 D a0 t_32 k_38) := fun _ _ h => lp_spec_TreeOk_4_le a0 t_32 k_38 (Cle.refl _) h
noncomputable def lp_spec_TreeOk_5 (D : Ctx) (t_39 : AV) (t_32 : AV × Store) (k_42 : Cur 1) : Cur 2 → Cur 2 :=
  fun go_46 t_43 t_44 s_45 =>
  (bin .lss .num t_43 t_39).bind fun t_47 =>
  aCase t_47
  ((idx 1 t_32.1 t_43).bind fun t_48 =>
  (rd1 D.G t_48 s_45).bind fun t_49 =>
  (bin .gtr .num t_49 (.int .i64 100)).bind fun t_50 =>
  aCase t_50
  ((one t_43).bind fun o_51 =>
  some ((.agg [(.int .i64 4), o_51]), s_45))
  ((bin .add .num t_43 (.int .i64 1)).bind fun t_52 =>
  go_46 t_52 (.agg (AV.cells t_44)) s_45))
  (k_42 (.agg (AV.cells t_44)) s_45)
theorem lp_spec_TreeOk_5_le {D : Ctx} (t_39 : AV) (t_32 : AV × Store) (k_42 : Cur 1) {k_42' : Cur 1} (hk_42 : Cle k_42 k_42') {u u' : Cur 2} (h : Cle u u') : Cle (lp_spec_TreeOk_5 D t_39 t_32 k_42 u) (lp_spec_TreeOk_5 D t_39 t_32 k_42' u') := by
  unfold lp_spec_TreeOk_5
  repeat (first
    | with_reducible refine Ole.bindr fun _ => ?_
    | with_reducible refine Ole.aCase ?_ ?_
    | refine Ole.jn ?_ (fun _ _ _ => ?_)
    | refine Cle.succ fun _ => ?_
    | refine Cle.zero fun _ => ?_
    | exact Cle.use1 (by assumption)
    | exact Cle.use2 (by assumption)
    | with_reducible exact Ole.refl _)
theorem lp_spec_TreeOk_5_mono (D : Ctx) (t_39 : AV) (t_32 : AV × Store) (k_42 : Cur 1) : Mono (lp_spec_TreeOk_5 D t_39 t_32 k_42) := fun _ _ h => lp_spec_TreeOk_5_le t_39 t_32 k_42 (Cle.refl _) h
noncomputable def sh_spec_TreeOk (D : Ctx) (a0 : AV) (σ : Store) : Res :=
  (rd1 D.G (.pptr (AV.cells a0) 0) σ).bind fun t_1 =>
  (lenV .sl t_1 σ).bind fun t_2 =>
  (bin .eql .num t_2 (.int .i64 0)).bind fun t_3 =>
  jn 1 (fun t_4 s_5 =>
  jn 1 (fun t_7 s_8 =>
  aCase t_7
  (some ((.agg [(.int .i64 1), (.int .i64 0)]), s_8))
  ((rd1 D.G (.pptr (AV.cells a0) 0) s_8).bind fun t_10 =>
  (lenV .sl t_10 s_8).bind fun t_11 =>
  jn 1 (fun t_12 s_13 =>
  (rdN 1 (.pptr (AV.cells a0) 0) s_13).bind fun t_15 =>
  (callP D 12 [(.agg t_15)]).bind fun t_16 =>
  (lenV .sl t_16 s_13).bind fun t_17 =>
  jn 1 (fun t_18 s_19 =>
  (lenV .sl t_16 s_19).bind fun t_21 =>
  (bin .sub .num t_21 (.int .i64 1)).bind fun t_22 =>
  (idx 1 t_16 t_22).bind fun t_23 =>
  (rd1 D.G t_23 s_19).bind fun t_24 =>
  (lenV .sl t_16 s_19).bind fun t_25 =>
  (bin .neq .num t_24 t_25).bind fun t_26 =>
  aCase t_26
  ((lenV .sl t_16 s_19).bind fun t_27 =>
  (bin .sub .num t_27 (.int .i64 1)).bind fun t_28 =>
  (one t_28).bind fun o_29 =>
  some ((.agg [(.int .i64 3), o_29]), s_19))
  ((rd1 D.G (.pptr (AV.cells a0) 0) s_19).bind fun t_30 =>
  (lenV .sl t_30 s_19).bind fun t_31 =>
  (mkSlice [(.int .i64 0)] t_31 s_19).bind fun t_32 =>
  (rd1 D.G (.pptr (AV.cells a0) 0) t_32.2).bind fun t_33 =>
  (lenV .sl t_33 t_32.2).bind fun t_34 =>
  (bin .sub .num t_34 (.int .i64 1)).bind fun t_35 =>
  jn 1 (fun t_36 s_37 =>
  (lenV .sl t_32.1 s_37).bind fun t_39 =>
  jn 1 (fun t_40 s_41 =>
  some ((.agg [(.int .i64 0), (.int .i64 0)]), s_41))
  (fun k_42 =>
  lpFix 2 (lp_spec_TreeOk_5 D t_39 t_32 k_42) (.int .i64 0) (.agg (AV.cells t_36)) s_37))
  (fun k_38 =>
  lpFix 2 (lp_spec_TreeOk_4 D a0 t_32 k_38) t_35 (.agg (AV.cells t_18)) t_32.2)))
  (fun k_20 =>
  lpFix 2 (lp_spec_TreeOk_2 D t_17 t_16 k_20) (.int .i64 0) (.agg (AV.cells t_12)) s_13))
  (fun k_14 =>
  lpFix 2 (lp_spec_TreeOk_1 D t_11 a0 k_14) (.int .i64 0) (.agg [(.int .i64 0), (.int .i64 0)]) s_8)))
  (fun j_9 =>
  aCase t_4
  (j_9 (.bool true) s_5)
  ((rd1 D.G (.pptr (AV.cells a0) 0) s_5).bind fun t_101 =>
  (rd1 D.G (.pptr (AV.cells a0) 0) s_5).bind fun t_102 =>
  (lenV .sl t_102 s_5).bind fun t_103 =>
  (bin .sub .num t_103 (.int .i64 1)).bind fun t_104 =>
  (idx 10 t_101 t_104).bind fun t_105 =>
  (fadd t_105 0).bind fun t_106 =>
  (rd1 D.G t_106 s_5).bind fun t_107 =>
  (bin .neq .num t_107 (.int .i64 1)).bind fun t_108 =>
  j_9 t_108 s_5)))
  (fun j_6 =>
  aCase t_3
  (j_6 (.bool true) σ)
  ((rd1 D.G (.pptr (AV.cells a0) 0) σ).bind fun t_109 =>
  (lenV .sl t_109 σ).bind fun t_110 =>
  (bin .gtr .num t_110 (.int .i64 3000)).bind fun t_111 =>
  j_6 t_111 σ))
theorem sh_spec_TreeOk_eq (D : Ctx) (a0 : AV) (σ : Store) : runFn D ir_spec_TreeOk [a0] σ = sh_spec_TreeOk D a0 σ := by kernel_rfl
/-- loop.example/reed/laws.toTree: function 6 -/
def ir_laws_toTree : IFn := ⟨[.cell 2 true 1],
.seq (.reg (.op (some 1) (.pbox (.t 0)) (
  .op (some 2) (.zalloc [.nilslice]) (
  .done)))) (
  .seq (.reg (.op (some 3) (.zalloc [.nilslice]) (
  .done))) (
  .seq (.reg (.op (some 4) (.fadd 0 (.t 1)) (
  .op (some 5) (.load false 1 (.t 4)) (
  .op (some 6) (.callP 13 [(.t 5)]) (
  .op (some 7) (.fadd 0 (.t 3)) (
  .op none (.store false 1 (.t 7) (.t 6)) (
  .freeze 3 (
  .done)))))))) (
  .seq (.reg (.op (some 8) (.load true 1 (.t 3)) (
  .op none (.store true 1 (.t 2) (.t 8)) (
  .freeze 2 (
  .done))))) (
  .ret))))⟩
noncomputable def sh_laws_toTree (D : Ctx) (a0 : AV) (σ : Store) : Res :=
  (rd1 D.G (.pptr (AV.cells a0) 0) σ).bind fun t_1 =>
  (callP D 13 [t_1]).bind fun t_2 =>
  (one t_2).bind fun o_3 =>
  some ((.agg [o_3]), σ)
theorem sh_laws_toTree_eq (D : Ctx) (a0 : AV) (σ : Store) : runFn D ir_laws_toTree [a0] σ = sh_laws_toTree D a0 σ := by kernel_rfl
/-- loop.example/reed/impl.TreeOk: function 7 -/
def ir_impl_TreeOk : IFn := ⟨[.cell 2 true 2],
.seq (.reg (.op (some 1) (.pbox (.t 0)) (
  .op (some 2) (.zalloc [(.int .i64 0), (.int .i64 0)]) (
  .done)))) (
  .seq (.reg (.op (some 19) (.fadd 0 (.t 1)) (
  .op (some 20) (.load false 1 (.t 19)) (
  .op (some 3) (.mv (.t 20)) (
  .done))))) (
  .seq (.seq (.reg (.op (some 21) (.mv (.t 3)) (
  .op (some 22) (.len .sl (.t 21)) (
  .op (some 23) (.bin .lss .num (.t 22) (.c (.int .i64 1))) (
  .op (some 24) (.mv (.t 23)) (
  .dia 24 (
  .gop 24 false (some 25) (.mv (.t 3)) (
  .gop 24 false (some 26) (.len .sl (.t 25)) (
  .gop 24 false (some 27) (.bin .gtr .num (.t 26) (.c (.int .i64 3000))) (
  .done)))) 28 (.t 24) (.c (.bool true)) (.t 27) none (
  .op (some 29) (.mv (.t 28)) (
  .dia 29 (
  .gop 29 false (some 30) (.mv (.t 3)) (
  .gop 29 false (some 31) (.mv (.t 3)) (
  .gop 29 false (some 32) (.len .sl (.t 31)) (
  .gop 29 false (some 33) (.bin .sub .num (.t 32) (.c (.int .i64 1))) (
  .gop 29 false (some 34) (.idx 10 (.t 30) (.t 33)) (
  .gop 29 false (some 35) (.fadd 0 (.t 34)) (
  .gop 29 false (some 36) (.load false 1 (.t 35)) (
  .gop 29 false (some 37) (.bin .neq .num (.t 36) (.c (.int .i64 1))) (
  .done))))))))) 38 (.t 29) (.c (.bool true)) (.t 37) none (
  .done))))))))) (
  .cond (.t 38) none (.seq (.reg (.op (some 39) (.build [(.int .i64 0), (.int .i64 0)] [(0, 1, false, (.c (.int .i64 1))), (1, 1, false, (.c (.int .i64 0)))]) (
  .op none (.store true 2 (.t 2) (.t 39)) (
  .done)))) (
  .ret)) (.skip))) (
  .seq (.seq (.reg (.op (some 40) (.mv (.t 3)) (
  .op (some 41) (.len .sl (.t 40)) (
  .op (some 42) (.mv (.c (.int .i64 0))) (
  .done))))) (
  .block 0 (some ⟨[], [(2, 2)]⟩) (
  .loop ⟨[42], [(2, 2)]⟩ (
  .seq (.reg (.op (some 43) (.bin .lss .num (.t 42) (.t 41)) (
  .done))) (
  .seq (.cond (.t 43) none (.skip) (.exit 0)) (
  .seq (.block 1 none (
  .seq (.reg (.op (some 44) (.mv (.t 42)) (
  .op (some 45) (.idx 10 (.t 40) (.t 42)) (
  .op (some 46) (.load true 10 (.t 45)) (
  .op (some 5) (.zalloc [(.int .i64 0), (.int .i64 0), (.int .i64 0), (.int .i64 0), (.int .i64 0), (.int .i64 0), (.flt 0), (.str ⟨#[]⟩), .nilslice, .nilslice]) (
  .op (some 4) (.mv (.t 44)) (
  .op none (.store true 10 (.t 5) (.t 46)) (
  .freeze 5 (
  .done))))))))) (
  .seq (.reg (.op (some 6) (.mv (.c .nilslice)) (
  .done))) (
  .seq (.seq (.reg (.op (some 47) (.fadd 9 (.t 5)) (
  .op (some 48) (.load false 1 (.t 47)) (
  .op (some 49) (.len .sl (.t 48)) (
  .op (some 50) (.mv (.c (.int .i64 0))) (
  .done)))))) (
  .block 2 (some ⟨[6], [(2, 2)]⟩) (
  .loop ⟨[6, 50], [(2, 2)]⟩ (
  .seq (.reg (.op (some 51) (.bin .lss .num (.t 50) (.t 49)) (
  .done))) (
  .seq (.cond (.t 51) none (.skip) (.exit 2)) (
  .seq (.block 3 none (
  .seq (.reg (.op (some 52) (.idx 1 (.t 48) (.t 50)) (
  .op (some 53) (.load false 1 (.t 52)) (
  .op (some 8) (.mv (.t 53)) (
  .done))))) (
  .seq (.seq (.reg (.op (some 54) (.mv (.t 8)) (
  .op (some 55) (.bin .lss .num (.t 54) (.c (.int .i64 0))) (
  .op (some 56) (.mv (.t 55)) (
  .dia 56 (
  .gop 56 false (some 57) (.mv (.t 8)) (
  .gop 56 false (some 58) (.mv (.t 4)) (
  .gop 56 false (some 59) (.bin .geq .num (.t 57) (.t 58)) (
  .done)))) 60 (.t 56) (.c (.bool true)) (.t 59) none (
  .done)))))) (
  .cond (.t 60) none (.seq (.reg (.op (some 61) (.mv (.t 4)) (
  .op (some 62) (.build [(.int .i64 0), (.int .i64 0)] [(0, 1, false, (.c (.int .i64 2))), (1, 1, false, (.t 61))]) (
  .op none (.store true 2 (.t 2) (.t 62)) (
  .done))))) (
  .ret)) (.skip))) (
  .reg (.op (some 63) (.mv (.t 6)) (
  .op (some 64) (.mv (.t 3)) (
  .op (some 65) (.mv (.t 8)) (
  .op (some 66) (.idx 10 (.t 64) (.t 65)) (
  .op (some 67) (.fadd 0 (.t 66)) (
  .op (some 68) (.load false 1 (.t 67)) (
  .op (some 69) (.pslice 1 [(.int .i64 0)] 1 [(0, false, (.t 68))]) (
  .op (some 70) (.app 1 (.t 63) (.t 69)) (
  .op (some 6) (.mv (.t 70)) (
  .done)))))))))))))) (
  .reg (.op (some 71) (.bin .add .num (.t 50) (.c (.int .i64 1))) (
  .op (some 50) (.mv (.t 71)) (
  .done)))))))))) (
  .seq (.reg (.op (some 72) (.load true 10 (.t 5)) (
  .op (some 73) (.mv (.t 6)) (
  .op (some 74) (.callV 14 [(.t 72), (.t 73)]) (
  .op (some 75) (.un .not (.t 74)) (
  .done)))))) (
  .cond (.t 75) none (.seq (.reg (.op (some 76) (.mv (.t 4)) (
  .op (some 77) (.build [(.int .i64 0), (.int .i64 0)] [(0, 1, false, (.c (.int .i64 2))), (1, 1, false, (.t 76))]) (
  .op none (.store true 2 (.t 2) (.t 77)) (
  .done))))) (
  .ret)) (.skip))))))) (
  .reg (.op (some 78) (.bin .add .num (.t 42) (.c (.int .i64 1))) (
  .op (some 42) (.mv (.t 78)) (
  .done)))))))))) (
  .seq (.reg (.op (some 79) (.mv (.t 3)) (
  .op (some 80) (.len .sl (.t 79)) (
  .op (some 81) (.mkSlice [(.int .i64 0)] (.t 80)) (
  .op (some 9) (.mv (.t 81)) (
  .done)))))) (
  .seq (.seq (.reg (.op (some 82) (.mv (.t 3)) (
  .op (some 83) (.len .sl (.t 82)) (
  .op (some 84) (.mv (.c (.int .i64 0))) (
  .done))))) (
  .block 4 (some ⟨[], [(2, 2)]⟩) (
  .loop ⟨[84], [(2, 2)]⟩ (
  .seq (.reg (.op (some 85) (.bin .lss .num (.t 84) (.t 83)) (
  .done))) (
  .seq (.cond (.t 85) none (.skip) (.exit 4)) (
  .seq (.block 5 none (
  .seq (.reg (.op (some 86) (.mv (.t 84)) (
  .op (some 87) (.idx 10 (.t 82) (.t 84)) (
  .op (some 88) (.load true 10 (.t 87)) (
  .op (some 11) (.zalloc [(.int .i64 0), (.int .i64 0), (.int .i64 0), (.int .i64 0), (.int .i64 0), (.int .i64 0), (.flt 0), (.str ⟨#[]⟩), .nilslice, .nilslice]) (
  .op (some 10) (.mv (.t 86)) (
  .op none (.store true 10 (.t 11) (.t 88)) (
  .freeze 11 (
  .done))))))))) (
  .seq (.reg (.op (some 89) (.mv (.t 10)) (
  .op (some 12) (.mv (.t 89)) (
  .done)))) (
  .seq (.seq (.reg (.op (some 90) (.fadd 9 (.t 11)) (
  .op (some 91) (.load false 1 (.t 90)) (
  .op (some 92) (.len .sl (.t 91)) (
  .op (some 93) (.bin .sub .num (.t 92) (.c (.int .i64 1))) (
  .op (some 13) (.mv (.t 93)) (
  .done))))))) (
  .block 6 (some ⟨[12], [(2, 2)]⟩) (
  .loop ⟨[12, 13], [(2, 2)]⟩ (
  .seq (.seq (.reg (.op (some 94) (.mv (.t 13)) (
  .op (some 95) (.bin .geq .num (.t 94) (.c (.int .i64 0))) (
  .done)))) (
  .cond (.t 95) none (.skip) (.exit 6))) (
  .seq (.block 7 none (
  .seq (.seq (.reg (.op (some 98) (.fadd 9 (.t 11)) (
  .op (some 99) (.load false 1 (.t 98)) (
  .op (some 100) (.mv (.t 13)) (
  .op (some 101) (.idx 1 (.t 99) (.t 100)) (
  .op (some 102) (.load false 1 (.t 101)) (
  .op (some 103) (.mv (.t 12)) (
  .op (some 104) (.bin .sub .num (.t 103) (.c (.int .i64 1))) (
  .op (some 105) (.bin .neq .num (.t 102) (.t 104)) (
  .done)))))))))) (
  .cond (.t 105) none (.seq (.reg (.op (some 106) (.mv (.t 10)) (
  .op (some 107) (.build [(.int .i64 0), (.int .i64 0)] [(0, 1, false, (.c (.int .i64 3))), (1, 1, false, (.t 106))]) (
  .op none (.store true 2 (.t 2) (.t 107)) (
  .done))))) (
  .ret)) (.skip))) (
  .reg (.op (some 108) (.mv (.t 9)) (
  .op (some 109) (.fadd 9 (.t 11)) (
  .op (some 110) (.load false 1 (.t 109)) (
  .op (some 111) (.mv (.t 13)) (
  .op (some 112) (.idx 1 (.t 110) (.t 111)) (
  .op (some 113) (.load false 1 (.t 112)) (
  .op (some 114) (.idx 1 (.t 108) (.t 113)) (
  .op (some 115) (.load false 1 (.t 114)) (
  .op (some 12) (.mv (.t 115)) (
  .done))))))))))))) (
  .reg (.op (some 96) (.mv (.t 13)) (
  .op (some 97) (.bin .sub .num (.t 96) (.c (.int .i64 1))) (
  .op (some 13) (.mv (.t 97)) (
  .done)))))))))) (
  .seq (.reg (.op (some 116) (.mv (.t 9)) (
  .op (some 117) (.mv (.t 10)) (
  .op (some 118) (.mv (.t 12)) (
  .op (some 119) (.idx 1 (.t 116) (.t 117)) (
  .op none (.store false 1 (.t 119) (.t 118)) (
  .done))))))) (
  .seq (.reg (.op (some 120) (.mv (.t 10)) (
  .op (some 121) (.mv (.t 3)) (
  .op (some 122) (.len .sl (.t 121)) (
  .op (some 123) (.bin .sub .num (.t 122) (.c (.int .i64 1))) (
  .op (some 124) (.bin .eql .num (.t 120) (.t 123)) (
  .op (some 125) (.mv (.t 124)) (
  .dia 125 (
  .gop 125 true (some 126) (.mv (.t 12)) (
  .gop 125 true (some 127) (.bin .neq .num (.t 126) (.c (.int .i64 0))) (
  .done))) 128 (.t 125) (.t 127) (.c (.bool false)) none (
  .done))))))))) (
  .cond (.t 128) none (.seq (.reg (.op (some 129) (.mv (.t 10)) (
  .op (some 130) (.build [(.int .i64 0), (.int .i64 0)] [(0, 1, false, (.c (.int .i64 3))), (1, 1, false, (.t 129))]) (
  .op none (.store true 2 (.t 2) (.t 130)) (
  .done))))) (
  .ret)) (.skip)))))))) (
  .reg (.op (some 131) (.bin .add .num (.t 84) (.c (.int .i64 1))) (
  .op (some 84) (.mv (.t 131)) (
  .done)))))))))) (
  .seq (.reg (.op (some 132) (.mv (.t 3)) (
  .op (some 133) (.len .sl (.t 132)) (
  .op (some 134) (.mkSlice [(.int .i64 0)] (.t 133)) (
  .op (some 14) (.mv (.t 134)) (
  .done)))))) (
  .seq (.seq (.reg (.op (some 135) (.mv (.t 3)) (
  .op (some 136) (.len .sl (.t 135)) (
  .op (some 137) (.bin .sub .num (.t 136) (.c (.int .i64 1))) (
  .op (some 15) (.mv (.t 137)) (
  .done)))))) (
  .block 8 (some ⟨[], [(2, 2)]⟩) (
  .loop ⟨[15], [(2, 2)]⟩ (
  .seq (.seq (.reg (.op (some 138) (.mv (.t 15)) (
  .op (some 139) (.bin .geq .num (.t 138) (.c (.int .i64 0))) (
  .done)))) (
  .cond (.t 139) none (.skip) (.exit 8))) (
  .seq (.block 9 none (
  .seq (.reg (.op (some 142) (.mv (.t 3)) (
  .op (some 143) (.mv (.t 15)) (
  .op (some 144) (.idx 10 (.t 142) (.t 143)) (
  .op (some 145) (.fadd 9 (.t 144)) (
  .op (some 146) (.load false 1 (.t 145)) (
  .op (some 147) (.len .sl (.t 146)) (
  .op (some 148) (.mv (.c (.int .i64 0))) (
  .done))))))))) (
  .block 10 (some ⟨[], [(2, 2)]⟩) (
  .loop ⟨[148], [(2, 2)]⟩ (
  .seq (.reg (.op (some 149) (.bin .lss .num (.t 148) (.t 147)) (
  .done))) (
  .seq (.cond (.t 149) none (.skip) (.exit 10)) (
  .seq (.block 11 none (
  .seq (.reg (.op (some 150) (.idx 1 (.t 146) (.t 148)) (
  .op (some 151) (.load false 1 (.t 150)) (
  .op (some 17) (.mv (.t 151)) (
  .done))))) (
  .reg (.op (some 152) (.mv (.t 14)) (
  .op (some 153) (.mv (.t 17)) (
  .op (some 154) (.mv (.t 14)) (
  .op (some 155) (.mv (.t 15)) (
  .op (some 156) (.idx 1 (.t 154) (.t 155)) (
  .op (some 157) (.load false 1 (.t 156)) (
  .op (some 158) (.bin .add .num (.t 157) (.c (.int .i64 1))) (
  .op (some 159) (.idx 1 (.t 152) (.t 153)) (
  .op none (.store false 1 (.t 159) (.t 158)) (
  .done))))))))))))) (
  .reg (.op (some 160) (.bin .add .num (.t 148) (.c (.int .i64 1))) (
  .op (some 148) (.mv (.t 160)) (
  .done))))))))))) (
  .reg (.op (some 140) (.mv (.t 15)) (
  .op (some 141) (.bin .sub .num (.t 140) (.c (.int .i64 1))) (
  .op (some 15) (.mv (.t 141)) (
  .done)))))))))) (
  .seq (.seq (.reg (.op (some 161) (.mv (.t 3)) (
  .op (some 162) (.len .sl (.t 161)) (
  .op (some 163) (.mv (.c (.int .i64 0))) (
  .done))))) (
  .block 12 (some ⟨[], [(2, 2)]⟩) (
  .loop ⟨[163], [(2, 2)]⟩ (
  .seq (.reg (.op (some 164) (.bin .lss .num (.t 163) (.t 162)) (
  .done))) (
  .seq (.cond (.t 164) none (.skip) (.exit 12)) (
  .seq (.block 13 none (
  .seq (.reg (.op (some 165) (.mv (.t 163)) (
  .op (some 18) (.mv (.t 165)) (
  .done)))) (
  .seq (.reg (.op (some 166) (.mv (.t 14)) (
  .op (some 167) (.mv (.t 18)) (
  .op (some 168) (.idx 1 (.t 166) (.t 167)) (
  .op (some 169) (.load false 1 (.t 168)) (
  .op (some 170) (.bin .gtr .num (.t 169) (.c (.int .i64 100))) (
  .done))))))) (
  .cond (.t 170) none (.seq (.reg (.op (some 171) (.mv (.t 18)) (
  .op (some 172) (.build [(.int .i64 0), (.int .i64 0)] [(0, 1, false, (.c (.int .i64 4))), (1, 1, false, (.t 171))]) (
  .op none (.store true 2 (.t 2) (.t 172)) (
  .done))))) (
  .ret)) (.skip))))) (
  .reg (.op (some 173) (.bin .add .num (.t 163) (.c (.int .i64 1))) (
  .op (some 163) (.mv (.t 173)) (
  .done)))))))))) (
  .seq (.reg (.op (some 174) (.build [(.int .i64 0), (.int .i64 0)] []) (
  .op none (.store true 2 (.t 2) (.t 174)) (
  .done)))) (
  .ret))))))))))⟩
noncomputable def lp_impl_TreeOk_1 (D : Ctx) (t_122 : AV) (t_121 : AV) (t_113 : AV) (t_1 : AV) (k_126 : Cur 2) : Cur 3 → Cur 3 :=
  fun go_136 k_132 t_133 t_134 s_135 =>
  (bin .lss .num t_133 t_122).bind fun t_137 =>
  aCase t_137
  ((idx 1 t_121 t_133).bind fun t_138 =>
  (rd1 D.G t_138 s_135).bind fun t_139 =>
  (bin .lss .num t_139 (.int .i64 0)).bind fun t_140 =>
  jn 1 (fun t_141 s_142 =>
  aCase t_141
  ((one t_113).bind fun o_144 =>
  some ((.agg [(.int .i64 2), o_144]), s_142))
  ((idx 10 t_1 t_139).bind fun t_145 =>
  (fadd t_145 0).bind fun t_146 =>
  (rd1 D.G t_146 s_142).bind fun t_147 =>
  (one t_147).bind fun o_148 =>
  (app 1 k_132 (.pslice 1 [(.agg [o_148])]) s_142).bind fun t_149 =>
  (bin .add .num t_133 (.int .i64 1)).bind fun t_150 =>
  go_136 t_149.1 t_150 (.agg (AV.cells t_134)) t_149.2))
  (fun j_143 =>
  aCase t_140
  (j_143 (.bool true) s_135)
  ((bin .geq .num t_139 t_113).bind fun t_151 =>
  j_143 t_151 s_135)))
  (k_126 k_132 (.agg (AV.cells t_134)) s_135)
theorem lp_impl_TreeOk_1_le {D : Ctx} (t_122 : AV) (t_121 : AV) (t_113 : AV) (t_1 : AV) (k_126 : Cur 2) {k_126' : Cur 2} (hk_126 : Cle k_126 k_126') {u u' : Cur 3} (h : Cle u u') : Cle (lp_impl_TreeOk_1 D t_122 t_121 t_113 t_1 k_126 u) (lp_impl_TreeOk_1 D t_122 t_121 t_113 t_1 k_126' u') := by
  unfold lp_impl_TreeOk_1
  repeat (first
    | with_reducible refine Ole.bindr fun _ => ?_
    | with_reducible refine Ole.aCase ?_ ?_
    | refine Ole.jn ?_ (fun _ _ _ => ?_)
    | refine Cle.succ fun _ => ?_
    | refine Cle.zero fun _ => ?_
    | exact Cle.use1 (by assumption)
    | exact Cle.use2 (by assumption)
    | exact Cle.use3 (by assumption)
    | with_reducible exact Ole.refl _)
theorem lp_impl_TreeOk_1_mono (D : Ctx) (t_122 : AV) (t_121 : AV) (t_113 : AV) (t_1 : AV) (k_126 : Cur 2) : Mono (lp_impl_TreeOk_1 D t_122 t_121 t_113 t_1 k_126) := fun _ _ h => lp_impl_TreeOk_1_le t_122 t_121 t_113 t_1 k_126 (Cle.refl _) h
noncomputable def lp_impl_TreeOk_2 (D : Ctx) (t_10 : AV) (t_1 : AV) (k_13 : Cur 1) : Cur 2 → Cur 2 :=
  fun go_116 t_113 t_114 s_115 =>
  (bin .lss .num t_113 t_10).bind fun t_117 =>
  aCase t_117
  ((idx 10 t_1 t_113).bind fun t_118 =>
  (rdN 10 t_118 s_115).bind fun t_119 =>
  (asplit 10 (.agg t_119)).bind fun cs_120 =>
  (rd1 D.G (.pptr cs_120 9) s_115).bind fun t_121 =>
  (lenV .sl t_121 s_115).bind fun t_122 =>
  jn 2 (fun k_123 t_124 s_125 =>
  (rdN 10 (.pptr cs_120 0) s_125).bind fun t_127 =>
  (callV D 14 [(.agg t_127), k_123] s_125).bind fun t_128 =>
  (un .not t_128).bind fun t_129 =>
  aCase t_129
  ((one t_113).bind fun o_130 =>
  some ((.agg [(.int .i64 2), o_130]), s_125))
  ((bin .add .num t_113 (.int .i64 1)).bind fun t_131 =>
  go_116 t_131 (.agg (AV.cells t_124)) s_125))
  (fun k_126 =>
  lpFix 3 (lp_impl_TreeOk_1 D t_122 t_121 t_113 t_1 k_126) .nilslice (.int .i64 0) (.agg (AV.cells t_114)) s_115))
  (k_13 (.agg (AV.cells t_114)) s_115)
theorem lp_impl_TreeOk_2_le {D : Ctx} (t_10 : AV) (t_1 : AV) (k_13 : Cur 1) {k_13' : Cur 1} (hk_13 : Cle k_13 k_13') {u u' : Cur 2} (h : Cle u u') : Cle (lp_impl_TreeOk_2 D t_10 t_1 k_13 u) (lp_impl_TreeOk_2 D t_10 t_1 k_13' u') := by
  unfold lp_impl_TreeOk_2
  repeat (first
    | with_reducible refine Ole.bindr fun _ => ?_
    | with_reducible refine Ole.aCase ?_ ?_
    | refine Ole.jn ?_ (fun _ _ _ => ?_)
    | refine Cle.succ fun _ => ?_
    | refine Cle.zero fun _ => ?_
    | exact Cle.use1 (by assumption)
    | exact Cle.use2 (by assumption)
    | exact Cle.use3 (lpFix_mono (lp_impl_TreeOk_1_mono _ _ _ _ _ _) (lp_impl_TreeOk_1_mono _ _ _ _ _ _) fun _ => lp_impl_TreeOk_1_le _ _ _ _ _ (by first | assumption | exact Cle.refl _) (Cle.refl _))
    | with_reducible exact Ole.refl _)
theorem lp_impl_TreeOk_2_mono (D : Ctx) (t_10 : AV) (t_1 : AV) (k_13 : Cur 1) : Mono (lp_impl_TreeOk_2 D t_10 t_1 k_13) := fun _ _ h => lp_impl_TreeOk_2_le t_10 t_1 k_13 (Cle.refl _) h
noncomputable def lp_impl_TreeOk_3 (D : Ctx) (cs_75 : List AV) (t_68 : AV) (t_15 : AV × Store) (k_82 : Cur 2) : Cur 3 → Cur 3 :=
  fun go_99 at_95 i_96 t_97 s_98 =>
  (bin .geq .num i_96 (.int .i64 0)).bind fun t_100 =>
  aCase t_100
  ((rd1 D.G (.pptr cs_75 9) s_98).bind fun t_101 =>
  (idx 1 t_101 i_96).bind fun t_102 =>
  (rd1 D.G t_102 s_98).bind fun t_103 =>
  (bin .sub .num at_95 (.int .i64 1)).bind fun t_104 =>
  (bin .neq .num t_103 t_104).bind fun t_105 =>
  aCase t_105
  ((one t_68).bind fun o_106 =>
  some ((.agg [(.int .i64 3), o_106]), s_98))
  ((rd1 D.G (.pptr cs_75 9) s_98).bind fun t_107 =>
  (idx 1 t_107 i_96).bind fun t_108 =>
  (rd1 D.G t_108 s_98).bind fun t_109 =>
  (idx 1 t_15.1 t_109).bind fun t_110 =>
  (rd1 D.G t_110 s_98).bind fun t_111 =>
  (bin .sub .num i_96 (.int .i64 1)).bind fun t_112 =>
  go_99 t_111 t_112 (.agg (AV.cells t_97)) s_98))
  (k_82 at_95 (.agg (AV.cells t_97)) s_98)
theorem lp_impl_TreeOk_3_le {D : Ctx} (cs_75 : List AV) (t_68 : AV) (t_15 : AV × Store) (k_82 : Cur 2) {k_82' : Cur 2} (hk_82 : Cle k_82 k_82') {u u' : Cur 3} (h : Cle u u') : Cle (lp_impl_TreeOk_3 D cs_75 t_68 t_15 k_82 u) (lp_impl_TreeOk_3 D cs_75 t_68 t_15 k_82' u') := by
  unfold lp_impl_TreeOk_3
  repeat (first
    | with_reducible refine Ole.bindr fun _ => ?_
    | with_reducible refine Ole.aCase ?_ ?_
    | refine Ole.jn ?_ (fun _ _ _ => ?_)
    | refine Cle.succ fun _ => ?_
    | refine Cle.zero fun _ => ?_
    | exact Cle.use2 (by assumption)
    | exact Cle.use3 (by assumption)
    | with_reducible exact Ole.refl _)
theorem lp_impl_TreeOk_3_mono (D : Ctx) (cs_75 : List AV) (t_68 : AV) (t_15 : AV × Store) (k_82 : Cur 2) : Mono (lp_impl_TreeOk_3 D cs_75 t_68 t_15 k_82) := fun _ _ h => lp_impl_TreeOk_3_le cs_75 t_68 t_15 k_82 (Cle.refl _) h
noncomputable def lp_impl_TreeOk_4 (D : Ctx) (t_16 : AV) (t_1 : AV) (t_15 : AV × Store) (k_19 : Cur 1) : Cur 2 → Cur 2 :=
  fun go_71 t_68 t_69 s_70 =>
  (bin .lss .num t_68 t_16).bind fun t_72 =>
  aCase t_72
  ((idx 10 t_1 t_68).bind fun t_73 =>
  (rdN 10 t_73 s_70).bind fun t_74 =>
  (asplit 10 (.agg t_74)).bind fun cs_75 =>
  (rd1 D.G (.pptr cs_75 9) s_70).bind fun t_76 =>
  (lenV .sl t_76 s_70).bind fun t_77 =>
  (bin .sub .num t_77 (.int .i64 1)).bind fun t_78 =>
  jn 2 (fun at_79 t_80 s_81 =>
  (idx 1 t_15.1 t_68).bind fun t_83 =>
  (one at_79).bind fun o_84 =>
  (wr t_83 [o_84] s_81).bind fun s_85 =>
  (lenV .sl t_1 s_85).bind fun t_86 =>
  (bin .sub .num t_86 (.int .i64 1)).bind fun t_87 =>
  (bin .eql .num t_68 t_87).bind fun t_88 =>
  jn 1 (fun t_89 s_90 =>
  aCase t_89
  ((one t_68).bind fun o_92 =>
  some ((.agg [(.int .i64 3), o_92]), s_90))
  ((bin .add .num t_68 (.int .i64 1)).bind fun t_93 =>
  go_71 t_93 (.agg (AV.cells t_80)) s_90))
  (fun j_91 =>
  aCase t_88
  ((bin .neq .num at_79 (.int .i64 0)).bind fun t_94 =>
  j_91 t_94 s_85)
  (j_91 (.bool false) s_85)))
  (fun k_82 =>
  lpFix 3 (lp_impl_TreeOk_3 D cs_75 t_68 t_15 k_82) t_68 t_78 (.agg (AV.cells t_69)) s_70))
  (k_19 (.agg (AV.cells t_69)) s_70)
theorem lp_impl_TreeOk_4_le {D : Ctx} (t_16 : AV) (t_1 : AV) (t_15 : AV × Store) (k_19 : Cur 1) {k_19' : Cur 1} (hk_19 : Cle k_19 k_19') {u u' : Cur 2} (h : Cle u u') : Cle (lp_impl_TreeOk_4 D t_16 t_1 t_15 k_19 u) (lp_impl_TreeOk_4 D t_16 t_1 t_15 k_19' u') := by
  unfold lp_impl_TreeOk_4
  repeat (first
    | with_reducible refine Ole.bindr fun _ => ?_
    | with_reducible refine Ole.aCase ?_ ?_
    | refine Ole.jn ?_ (fun _ _ _ => ?_)
    | refine Cle.succ fun _ => ?_
    | refine Cle.zero fun _ => ?_
    | exact Cle.use1 (by assumption)
    | exact Cle.use2 (by assumption)
    | exact Cle.use3 (lpFix_mono (lp_impl_TreeOk_3_mono _ _ _ _ _) (lp_impl_TreeOk_3_mono _ _ _ _ _) fun _ => lp_impl_TreeOk_3_le _ _ _ _ (by first | assumption | exact Cle.refl _) (Cle.refl _))
    | with_reducible exact Ole.refl _)
theorem lp_impl_TreeOk_4_mono (D : Ctx) (t_16 : AV) (t_1 : AV) (t_15 : AV × Store) (k_19 : Cur 1) : Mono (lp_impl_TreeOk_4 D t_16 t_1 t_15 k_19) := fun _ _ h => lp_impl_TreeOk_4_le t_16 t_1 t_15 k_19 (Cle.refl _) h
noncomputable def lp_impl_TreeOk_5 (D : Ctx) (t_49 : AV) (t_48 : AV) (t_21 : AV × Store) (n_41 : AV) (k_52 : Cur 1) : Cur 2 → Cur 2 :=
  fun go_57 t_54 t_55 s_56 =>
  (bin .lss .num t_54 t_49).bind fun t_58 =>
  aCase t_58
  ((idx 1 t_48 t_54).bind fun t_59 =>
  (rd1 D.G t_59 s_56).bind fun t_60 =>
  (idx 1 t_21.1 n_41).bind fun t_61 =>
  (rd1 D.G t_61 s_56).bind fun t_62 =>
  (bin .add .num t_62 (.int .i64 1)).bind fun t_63 =>
  (idx 1 t_21.1 t_60).bind fun t_64 =>
  (one t_63).bind fun o_65 =>
  (wr t_64 [o_65] s_56).bind fun s_66 =>
  (bin .add .num t_54 (.int .i64 1)).bind fun t_67 =>
  go_57 t_67 (.agg (AV.cells t_55)) s_66)
  (k_52 (.agg (AV.cells t_55)) s_56)
theorem lp_impl_TreeOk_5_le {D : Ctx} (t_49 : AV) (t_48 : AV) (t_21 : AV × Store) (n_41 : AV) (k_52 : Cur 1) {k_52' : Cur 1} (hk_52 : Cle k_52 k_52') {u u' : Cur 2} (h : Cle u u') : Cle (lp_impl_TreeOk_5 D t_49 t_48 t_21 n_41 k_52 u) (lp_impl_TreeOk_5 D t_49 t_48 t_21 n_41 k_52' u') := by
  unfold lp_impl_TreeOk_5
  repeat (first
    | with_reducible refine Ole.bindr fun _ => ?_
    | with_reducible refine Ole.aCase ?_ ?_
    | refine Ole.jn ?_ (fun _ _ _ => ?_)
    | refine Cle.succ fun _ => ?_
    | refine Cle.zero fun _ => ?_
    | exact Cle.use1 (by assumption)
    | exact Cle.use2 (by assumption)
    | with_reducible exact Ole.refl _)
theorem lp_impl_TreeOk_5_mono (D : Ctx) (t_49 : AV) (t_48 : AV) (t_21 : AV × Store) (n_41 : AV) (k_52 : Cur 1) : Mono (lp_impl_TreeOk_5 D t_49 t_48 t_21 n_41 k_52) := fun _ _ h => lp_impl_TreeOk_5_le t_49 t_48 t_21 n_41 k_52 (Cle.refl _) h
noncomputable def lp_impl_TreeOk_6 (D : Ctx) (t_1 : AV) (t_21 : AV × Store) (k_26 : Cur 1) : Cur 2 → Cur 2 :=
  fun go_44 n_41 t_42 s_43 =>
  (bin .geq .num n_41 (.int .i64 0)).bind fun t_45 =>
  aCase t_45
  ((idx 10 t_1 n_41).bind fun t_46 =>
  (fadd t_46 9).bind fun t_47 =>
  (rd1 D.G t_47 s_43).bind fun t_48 =>
  (lenV .sl t_48 s_43).bind fun t_49 =>
  jn 1 (fun t_50 s_51 =>
  (bin .sub .num n_41 (.int .i64 1)).bind fun t_53 =>
  go_44 t_53 (.agg (AV.cells t_50)) s_51)
  (fun k_52 =>
  lpFix 2 (lp_impl_TreeOk_5 D t_49 t_48 t_21 n_41 k_52) (.int .i64 0) (.agg (AV.cells t_42)) s_43))
  (k_26 (.agg (AV.cells t_42)) s_43)
theorem lp_impl_TreeOk_6_le {D : Ctx} (t_1 : AV) (t_21 : AV × Store) (k_26 : Cur 1) {k_26' : Cur 1} (hk_26 : Cle k_26 k_26') {u u' : Cur 2} (h : Cle u u') : Cle (lp_impl_TreeOk_6 D t_1 t_21 k_26 u) (lp_impl_TreeOk_6 D t_1 t_21 k_26' u') := by
  unfold lp_impl_TreeOk_6
  repeat (first
    | with_reducible refine Ole.bindr fun _ => ?_
    | with_reducible refine Ole.aCase ?_ ?_
    | refine Ole.jn ?_ (fun _ _ _ => ?_)
    | refine Cle.succ fun _ => ?_
    | refine Cle.zero fun _ => ?_
    | exact Cle.use1 (by assumption)
    | exact Cle.use2 (by assumption)
    | exact Cle.use2 (lpFix_mono (lp_impl_TreeOk_5_mono _ _ _ _ _ _) (lp_impl_TreeOk_5_mono _ _ _ _ _ _) fun _ => lp_impl_TreeOk_5_le _ _ _ _ _ (by first | assumption | exact Cle.refl _) (Cle.refl _))
    | with_reducible exact Ole.refl _)
theorem lp_impl_TreeOk_6_mono (D : Ctx) (t_1 : AV) (t_21 : AV × Store) (k_26 : Cur 1) : Mono (lp_impl_TreeOk_6 D t_1 t_21 k_26) := fun _ _ h => lp_impl_TreeOk_6_le t_1 t_21 k_26 (Cle.refl _) h
noncomputable def lp_impl_TreeOk_7 (D : Ctx) (t_27 : AV) (t_21 : AV × Store) (k_30 : Cur 1) : Cur 2 → Cur 2 :=
  fun go_34 t_31 t_32 s_33 =>
  (bin .lss .num t_31 t_27).bind fun t_35 =>
  aCase t_35
  ((idx 1 t_21.1 t_31).bind fun t_36 =>
  (rd1 D.G t_36 s_33).bind fun t_37 =>
  (bin .gtr .num t_37 (.int .i64 100)).bind fun t_38 =>
  aCase t_38
  ((one t_31).bind fun o_39 =>
  some ((.agg [(.int .i64 4), o_39]), s_33))
  ((bin .add .num t_31 (.int .i64 1)).bind fun t_40 =>
  go_34 t_40 (.agg (AV.cells t_32)) s_33))
  (k_30 (.agg (AV.cells t_32)) s_33)
theorem lp_impl_TreeOk_7_le {D : Ctx} (t_27 : AV) (t_21 : AV × Store) (k_30 : Cur 1) {k_30' : Cur 1} (hk_30 : Cle k_30 k_30') {u u' : Cur 2} (h : Cle u u') : Cle (lp_impl_TreeOk_7 D t_27 t_21 k_30 u) (lp_impl_TreeOk_7 D t_27 t_21 k_30' u') := by
  unfold lp_impl_TreeOk_7
  repeat (first
    | with_reducible refine Ole.bindr fun _ => ?_
    | with_reducible refine Ole.aCase ?_ ?_
    | refine Ole.jn ?_ (fun _ _ _ => ?_)
    | refine Cle.succ fun _ => ?_
    | refine Cle.zero fun _ => ?_
    | exact Cle.use1 (by assumption)
    | exact Cle.use2 (by assumption)
    | with_reducible exact Ole.refl _)
theorem lp_impl_TreeOk_7_mono (D : Ctx) (t_27 : AV) (t_21 : AV × Store) (k_30 : Cur 1) : Mono (lp_impl_TreeOk_7 D t_27 t_21 k_30) := fun _ _ h => lp_impl_TreeOk_7_le t_27 t_21 k_30 (Cle.refl _) h
noncomputable def sh_impl_TreeOk (D : Ctx) (a0 : AV) (σ : Store) : Res :=
  (rd1 D.G (.pptr (AV.cells a0) 0) σ).bind fun t_1 =>
  (lenV .sl t_1 σ).bind fun t_2 =>
  (bin .lss .num t_2 (.int .i64 1)).bind fun t_3 =>
  jn 1 (fun t_4 s_5 =>
  jn 1 (fun t_7 s_8 =>
  aCase t_7
  (some ((.agg [(.int .i64 1), (.int .i64 0)]), s_8))
  ((lenV .sl t_1 s_8).bind fun t_10 =>
  jn 1 (fun t_11 s_12 =>
  (lenV .sl t_1 s_12).bind fun t_14 =>
  (mkSlice [(.int .i64 0)] t_14 s_12).bind fun t_15 =>
  (lenV .sl t_1 t_15.2).bind fun t_16 =>
  jn 1 (fun t_17 s_18 =>
  (lenV .sl t_1 s_18).bind fun t_20 =>
  (mkSlice [(.int .i64 0)] t_20 s_18).bind fun t_21 =>
  (lenV .sl t_1 t_21.2).bind fun t_22 =>
  (bin .sub .num t_22 (.int .i64 1)).bind fun t_23 =>
  jn 1 (fun t_24 s_25 =>
  (lenV .sl t_1 s_25).bind fun t_27 =>
  jn 1 (fun t_28 s_29 =>
  some ((.agg [(.int .i64 0), (.int .i64 0)]), s_29))
  (fun k_30 =>
  lpFix 2 (lp_impl_TreeOk_7 D t_27 t_21 k_30) (.int .i64 0) (.agg (AV.cells t_24)) s_25))
  (fun k_26 =>
  lpFix 2 (lp_impl_TreeOk_6 D t_1 t_21 k_26) t_23 (.agg (AV.cells t_17)) t_21.2))
  (fun k_19 =>
  lpFix 2 (lp_impl_TreeOk_4 D t_16 t_1 t_15 k_19) (.int .i64 0) (.agg (AV.cells t_11)) t_15.2))
  (fun k_13 =>
  lpFix 2 (lp_impl_TreeOk_2 D t_10 t_1 k_13) (.int .i64 0) (.agg [(.int .i64 0), (.int .i64 0)]) s_8)))
  (fun j_9 =>
  aCase t_4
  (j_9 (.bool true) s_5)
  ((lenV .sl t_1 s_5).bind fun t_152 =>
  (bin .sub .num t_152 (.int .i64 1)).bind fun t_153 =>
  (idx 10 t_1 t_153).bind fun t_154 =>
  (fadd t_154 0).bind fun t_155 =>
  (rd1 D.G t_155 s_5).bind fun t_156 =>
  (bin .neq .num t_156 (.int .i64 1)).bind fun t_157 =>
  j_9 t_157 s_5)))
  (fun j_6 =>
  aCase t_3
  (j_6 (.bool true) σ)
  ((lenV .sl t_1 σ).bind fun t_158 =>
  (bin .gtr .num t_158 (.int .i64 3000)).bind fun t_159 =>
  j_6 t_159 σ))
theorem sh_impl_TreeOk_eq (D : Ctx) (a0 : AV) (σ : Store) : runFn D ir_impl_TreeOk [a0] σ = sh_impl_TreeOk D a0 σ := by kernel_rfl
/-- loop.example/reed/laws.eqWrong: function 8 -/
def ir_laws_eqWrong : IFn := ⟨[.tmp 4],
.seq (.reg (.op (some 2) (.pbox (.t 0)) (
  .op (some 3) (.pbox (.t 1)) (
  .op (some 4) (.mv (.c (.bool false))) (
  .done))))) (
  .seq (.seq (.reg (.op (some 5) (.fadd 0 (.t 2)) (
  .op (some 6) (.load false 1 (.t 5)) (
  .op (some 7) (.fadd 0 (.t 3)) (
  .op (some 8) (.load false 1 (.t 7)) (
  .op (some 9) (.bin .neq .num (.t 6) (.t 8)) (
  .done))))))) (
  .cond (.t 9) none (.seq (.reg (.op (some 4) (.mv (.c (.bool false))) (
  .done))) (
  .ret)) (.skip))) (
  .seq (.seq (.reg (.op (some 10) (.fadd 1 (.t 2)) (
  .op (some 11) (.load false 1 (.t 10)) (
  .op (some 12) (.fadd 1 (.t 3)) (
  .op (some 13) (.load false 1 (.t 12)) (
  .op (some 14) (.bin .neq .num (.t 11) (.t 13)) (
  .done))))))) (
  .cond (.t 14) none (.seq (.reg (.op (some 4) (.mv (.c (.bool false))) (
  .done))) (
  .ret)) (.skip))) (
  .seq (.reg (.op (some 4) (.mv (.c (.bool true))) (
  .done))) (
  .ret))))⟩
noncomputable def sh_laws_eqWrong (D : Ctx) (a0 a1 : AV) (σ : Store) : Res :=
  (rd1 D.G (.pptr (AV.cells a0) 0) σ).bind fun t_1 =>
  (rd1 D.G (.pptr (AV.cells a1) 0) σ).bind fun t_2 =>
  (bin .neq .num t_1 t_2).bind fun t_3 =>
  aCase t_3
  (some ((.bool false), σ))
  ((rd1 D.G (.pptr (AV.cells a0) 1) σ).bind fun t_4 =>
  (rd1 D.G (.pptr (AV.cells a1) 1) σ).bind fun t_5 =>
  (bin .neq .num t_4 t_5).bind fun t_6 =>
  aCase t_6
  (some ((.bool false), σ))
  (some ((.bool true), σ)))
theorem sh_laws_eqWrong_eq (D : Ctx) (a0 a1 : AV) (σ : Store) : runFn D ir_laws_eqWrong [a0, a1] σ = sh_laws_eqWrong D a0 a1 σ := by kernel_rfl
/-- loop.example/reed/laws.eqTree: function 9 -/
def ir_laws_eqTree : IFn := ⟨[.tmp 4],
.seq (.reg (.op (some 2) (.pbox (.t 0)) (
  .op (some 3) (.pbox (.t 1)) (
  .op (some 4) (.mv (.c (.bool false))) (
  .done))))) (
  .seq (.seq (.reg (.op (some 5) (.fadd 0 (.t 2)) (
  .op (some 6) (.load false 1 (.t 5)) (
  .op (some 7) (.fadd 0 (.t 3)) (
  .op (some 8) (.load false 1 (.t 7)) (
  .op (some 9) (.callV 15 [(.t 6), (.t 8)]) (
  .op (some 10) (.un .not (.t 9)) (
  .done)))))))) (
  .cond (.t 10) none (.seq (.reg (.op (some 4) (.mv (.c (.bool false))) (
  .done))) (
  .ret)) (.skip))) (
  .seq (.reg (.op (some 4) (.mv (.c (.bool true))) (
  .done))) (
  .ret)))⟩
noncomputable def sh_laws_eqTree (D : Ctx) (a0 a1 : AV) (σ : Store) : Res :=
  (rd1 D.G (.pptr (AV.cells a0) 0) σ).bind fun t_1 =>
  (rd1 D.G (.pptr (AV.cells a1) 0) σ).bind fun t_2 =>
  (callV D 15 [t_1, t_2] σ).bind fun t_3 =>
  (un .not t_3).bind fun t_4 =>
  aCase t_4
  (some ((.bool false), σ))
  (some ((.bool true), σ))
theorem sh_laws_eqTree_eq (D : Ctx) (a0 a1 : AV) (σ : Store) : runFn D ir_laws_eqTree [a0, a1] σ = sh_laws_eqTree D a0 a1 σ := by kernel_rfl
/-- loop.example/reed/laws.szPartS: function 10 -/
def ir_laws_szPartS : IFn := ⟨[.tmp 4],
.seq (.reg (.op (some 4) (.mv (.c (.int .i64 0))) (
  .done))) (
  .seq (.reg (.op (some 6) (.mv (.t 1)) (
  .op (some 7) (.mv (.t 0)) (
  .op (some 8) (.len .sl (.t 7)) (
  .op (some 9) (.bin .sub .num (.t 6) (.t 8)) (
  .op (some 1) (.mv (.t 9)) (
  .done))))))) (
  .seq (.seq (.reg (.op (some 10) (.mv (.t 1)) (
  .op (some 11) (.bin .lss .num (.t 10) (.c (.int .i64 0))) (
  .done)))) (
  .cond (.t 11) none (.seq (.reg (.op (some 4) (.mv (.c (.int .i64 (-1)))) (
  .done))) (
  .ret)) (.skip))) (
  .seq (.seq (.reg (.op (some 5) (.mv (.c (.int .i64 0))) (
  .done))) (
  .block 0 (some ⟨[1], []⟩) (
  .loop ⟨[1, 5], []⟩ (
  .seq (.seq (.reg (.op (some 12) (.mv (.t 5)) (
  .op (some 13) (.mv (.t 0)) (
  .op (some 14) (.len .sl (.t 13)) (
  .op (some 15) (.bin .lss .num (.t 12) (.t 14)) (
  .done)))))) (
  .cond (.t 15) none (.skip) (.exit 0))) (
  .seq (.block 1 none (
  .seq (.reg (.op (some 18) (.mv (.t 0)) (
  .op (some 19) (.mv (.t 5)) (
  .op (some 20) (.idx 10 (.t 18) (.t 19)) (
  .op (some 21) (.load true 10 (.t 20)) (
  .op (some 22) (.mv (.t 1)) (
  .op (some 23) (.callV 16 [(.t 21), (.t 22)]) (
  .op (some 1) (.mv (.t 23)) (
  .done))))))))) (
  .seq (.reg (.op (some 24) (.mv (.t 1)) (
  .op (some 25) (.bin .lss .num (.t 24) (.c (.int .i64 0))) (
  .done)))) (
  .cond (.t 25) none (.seq (.reg (.op (some 4) (.mv (.c (.int .i64 (-1)))) (
  .done))) (
  .ret)) (.skip))))) (
  .reg (.op (some 16) (.mv (.t 5)) (
  .op (some 17) (.bin .add .num (.t 16) (.c (.int .i64 1))) (
  .op (some 5) (.mv (.t 17)) (
  .done)))))))))) (
  .seq (.reg (.op (some 26) (.mv (.t 1)) (
  .op (some 4) (.mv (.t 26)) (
  .done)))) (
  .ret)))))⟩
noncomputable def lp_laws_szPartS_1 (D : Ctx) (a0 : AV) (k_6 : Cur 1) : Cur 2 → Cur 2 :=
  fun go_10 left_7 i_8 s_9 =>
  (lenV .sl a0 s_9).bind fun t_11 =>
  (bin .lss .num i_8 t_11).bind fun t_12 =>
  aCase t_12
  ((idx 10 a0 i_8).bind fun t_13 =>
  (rdN 10 t_13 s_9).bind fun t_14 =>
  (callV D 16 [(.agg t_14), left_7] s_9).bind fun t_15 =>
  (bin .lss .num t_15 (.int .i64 0)).bind fun t_16 =>
  aCase t_16
  (some ((.int .i64 (-1)), s_9))
  ((bin .add .num i_8 (.int .i64 1)).bind fun t_17 =>
  go_10 t_15 t_17 s_9))
  (k_6 left_7 s_9)
theorem lp_laws_szPartS_1_le {D : Ctx} (a0 : AV) (k_6 : Cur 1) {k_6' : Cur 1} (hk_6 : Cle k_6 k_6') {u u' : Cur 2} (h : Cle u u') : Cle (lp_laws_szPartS_1 D a0 k_6 u) (lp_laws_szPartS_1 D a0 k_6' u') := by
  unfold lp_laws_szPartS_1
  repeat (first
    | with_reducible refine Ole.bindr fun _ => ?_
    | with_reducible refine Ole.aCase ?_ ?_
    | refine Ole.jn ?_ (fun _ _ _ => ?_)
    | refine Cle.succ fun _ => ?_
    | refine Cle.zero fun _ => ?_
    | exact Cle.use1 (by assumption)
    | exact Cle.use2 (by assumption)
    | with_reducible exact Ole.refl _)
theorem lp_laws_szPartS_1_mono (D : Ctx) (a0 : AV) (k_6 : Cur 1) : Mono (lp_laws_szPartS_1 D a0 k_6) := fun _ _ h => lp_laws_szPartS_1_le a0 k_6 (Cle.refl _) h
noncomputable def sh_laws_szPartS (D : Ctx) (a0 a1 : AV) (σ : Store) : Res :=
  (lenV .sl a0 σ).bind fun t_1 =>
  (bin .sub .num a1 t_1).bind fun t_2 =>
  (bin .lss .num t_2 (.int .i64 0)).bind fun t_3 =>
  aCase t_3
  (some ((.int .i64 (-1)), σ))
  (jn 1 (fun left_4 s_5 =>
  some (left_4, s_5))
  (fun k_6 =>
  lpFix 2 (lp_laws_szPartS_1 D a0 k_6) t_2 (.int .i64 0) σ))
theorem sh_laws_szPartS_eq (D : Ctx) (a0 a1 : AV) (σ : Store) : runFn D ir_laws_szPartS [a0, a1] σ = sh_laws_szPartS D a0 a1 σ := by kernel_rfl
/-- loop.example/reed/spec.l6nodeok: function 11 -/
def ir_spec_l6nodeok : IFn := ⟨[.tmp 4],
.seq (.reg (.op (some 2) (.pbox (.t 0)) (
  .op (some 4) (.mv (.c (.bool false))) (
  .done)))) (
  .seq (.reg (.op (some 8) (.fadd 0 (.t 2)) (
  .op (some 9) (.load false 1 (.t 8)) (
  .op (some 10) (.mv (.t 1)) (
  .op (some 11) (.idx 10 (.t 9) (.t 10)) (
  .op (some 12) (.load true 10 (.t 11)) (
  .op (some 5) (.zalloc [(.int .i64 0), (.int .i64 0), (.int .i64 0), (.int .i64 0), (.int .i64 0), (.int .i64 0), (.flt 0), (.str ⟨#[]⟩), .nilslice, .nilslice]) (
  .op none (.store true 10 (.t 5) (.t 12)) (
  .freeze 5 (
  .done)))))))))) (
  .seq (.seq (.reg (.op (some 13) (.fadd 1 (.t 5)) (
  .op (some 14) (.load false 1 (.t 13)) (
  .op (some 15) (.bin .lss .num (.t 14) (.c (.int .i64 0))) (
  .op (some 16) (.mv (.t 15)) (
  .dia 16 (
  .gop 16 false (some 17) (.fadd 2 (.t 5)) (
  .gop 16 false (some 18) (.load false 1 (.t 17)) (
  .gop 16 false (some 19) (.fadd 1 (.t 5)) (
  .gop 16 false (some 20) (.load false 1 (.t 19)) (
  .gop 16 false (some 21) (.bin .lss .num (.t 18) (.t 20)) (
  .done)))))) 22 (.t 16) (.c (.bool true)) (.t 21) none (
  .op (some 23) (.mv (.t 22)) (
  .dia 23 (
  .gop 23 false (some 24) (.fadd 3 (.t 5)) (
  .gop 23 false (some 25) (.load false 1 (.t 24)) (
  .gop 23 false (some 26) (.bin .lss .num (.t 25) (.c (.int .i64 0))) (
  .done)))) 27 (.t 23) (.c (.bool true)) (.t 26) none (
  .op (some 28) (.mv (.t 27)) (
  .dia 28 (
  .gop 28 false (some 29) (.fadd 3 (.t 5)) (
  .gop 28 false (some 30) (.load false 1 (.t 29)) (
  .gop 28 false (some 31) (.bin .gtr .num (.t 30) (.c (.int .i64 100000))) (
  .done)))) 32 (.t 28) (.c (.bool true)) (.t 31) none (
  .op (some 33) (.mv (.t 32)) (
  .dia 33 (
  .gop 33 false (some 34) (.fadd 9 (.t 5)) (
  .gop 33 false (some 35) (.load false 1 (.t 34)) (
  .gop 33 false (some 36) (.len .sl (.t 35)) (
  .gop 33 false (some 37) (.bin .gtr .num (.t 36) (.c (.int .i64 200))) (
  .done))))) 38 (.t 33) (.c (.bool true)) (.t 37) none (
  .done))))))))))))) (
  .cond (.t 38) none (.seq (.reg (.op (some 4) (.mv (.c (.bool false))) (
  .done))) (
  .ret)) (.skip))) (
  .seq (.seq (.reg (.op (some 39) (.fadd 0 (.t 5)) (
  .op (some 40) (.load false 1 (.t 39)) (
  .op (some 41) (.callV 17 [(.t 40)]) (
  .op (some 42) (.mv (.t 41)) (
  .dia 42 (
  .gop 42 true (some 43) (.fadd 3 (.t 5)) (
  .gop 42 true (some 44) (.load false 1 (.t 43)) (
  .gop 42 true (some 45) (.bin .eql .num (.t 44) (.c (.int .i64 0))) (
  .done)))) 46 (.t 42) (.t 45) (.c (.bool false)) none (
  .done))))))) (
  .cond (.t 46) none (.seq (.reg (.op (some 4) (.mv (.c (.bool false))) (
  .done))) (
  .ret)) (.skip))) (
  .seq (.seq (.reg (.op (some 47) (.fadd 9 (.t 5)) (
  .op (some 48) (.load false 1 (.t 47)) (
  .op (some 49) (.len .sl (.t 48)) (
  .op (some 50) (.mv (.c (.int .i64 0))) (
  .done)))))) (
  .block 0 (some ⟨[], []⟩) (
  .loop ⟨[50], []⟩ (
  .seq (.reg (.op (some 51) (.bin .lss .num (.t 50) (.t 49)) (
  .done))) (
  .seq (.cond (.t 51) none (.skip) (.exit 0)) (
  .seq (.block 1 none (
  .seq (.reg (.op (some 52) (.idx 1 (.t 48) (.t 50)) (
  .op (some 53) (.load false 1 (.t 52)) (
  .op (some 7) (.mv (.t 53)) (
  .done))))) (
  .seq (.reg (.op (some 54) (.mv (.t 7)) (
  .op (some 55) (.bin .lss .num (.t 54) (.c (.int .i64 0))) (
  .op (some 56) (.mv (.t 55)) (
  .dia 56 (
  .gop 56 false (some 57) (.mv (.t 7)) (
  .gop 56 false (some 58) (.mv (.t 1)) (
  .gop 56 false (some 59) (.bin .geq .num (.t 57) (.t 58)) (
  .done)))) 60 (.t 56) (.c (.bool true)) (.t 59) none (
  .done)))))) (
  .cond (.t 60) none (.seq (.reg (.op (some 4) (.mv (.c (.bool false))) (
  .done))) (
  .ret)) (.skip))))) (
  .reg (.op (some 61) (.bin .add .num (.t 50) (.c (.int .i64 1))) (
  .op (some 50) (.mv (.t 61)) (
  .done)))))))))) (
  .seq (.seq (.reg (.op (some 62) (.fadd 0 (.t 5)) (
  .op (some 63) (.load false 1 (.t 62)) (
  .op (some 64) (.callV 17 [(.t 63)]) (
  .done))))) (
  .cond (.t 64) none (.seq (.reg (.op (some 65) (.load true 1 (.t 2)) (
  .op (some 66) (.load true 10 (.t 5)) (
  .op (some 67) (.callV 18 [(.t 65), (.t 66)]) (
  .op (some 4) (.mv (.t 67)) (
  .done)))))) (
  .ret)) (.skip))) (
  .seq (.reg (.op (some 68) (.load true 1 (.t 2)) (
  .op (some 69) (.load true 10 (.t 5)) (
  .op (some 70) (.callV 19 [(.t 68), (.t 69)]) (
  .op (some 4) (.mv (.t 70)) (
  .done)))))) (
  .ret)))))))⟩
noncomputable def lp_spec_l6nodeok_1 (D : Ctx) (t_25 : AV) (t_24 : AV) (a1 : AV) (k_27 : Cur 0) : Cur 1 → Cur 1 :=
  fun go_38 t_36 s_37 =>
  (bin .lss .num t_36 t_25).bind fun t_39 =>
  aCase t_39
  ((idx 1 t_24 t_36).bind fun t_40 =>
  (rd1 D.G t_40 s_37).bind fun t_41 =>
  (bin .lss .num t_41 (.int .i64 0)).bind fun t_42 =>
  jn 1 (fun t_43 s_44 =>
  aCase t_43
  (some ((.bool false), s_44))
  ((bin .add .num t_36 (.int .i64 1)).bind fun t_46 =>
  go_38 t_46 s_44))
  (fun j_45 =>
  aCase t_42
  (j_45 (.bool true) s_37)
  ((bin .geq .num t_41 a1).bind fun t_47 =>
  j_45 t_47 s_37)))
  (k_27  s_37)
theorem lp_spec_l6nodeok_1_le {D : Ctx} (t_25 : AV) (t_24 : AV) (a1 : AV) (k_27 : Cur 0) {k_27' : Cur 0} (hk_27 : Cle k_27 k_27') {u u' : Cur 1} (h : Cle u u') : Cle (lp_spec_l6nodeok_1 D t_25 t_24 a1 k_27 u) (lp_spec_l6nodeok_1 D t_25 t_24 a1 k_27' u') := by
  unfold lp_spec_l6nodeok_1
  repeat (first
    | with_reducible refine Ole.bindr fun _ => ?_
    | with_reducible refine Ole.aCase ?_ ?_
    | refine Ole.jn ?_ (fun _ _ _ => ?_)
    | refine Cle.succ fun _ => ?_
    | refine Cle.zero fun _ => ?_
    | exact Cle.use0 (by assumption)
    | exact Cle.use1 (by assumption)
    | with_reducible exact Ole.refl _)
theorem lp_spec_l6nodeok_1_mono (D : Ctx) (t_25 : AV) (t_24 : AV) (a1 : AV) (k_27 : Cur 0) : Mono (lp_spec_l6nodeok_1 D t_25 t_24 a1 k_27) := fun _ _ h => lp_spec_l6nodeok_1_le t_25 t_24 a1 k_27 (Cle.refl _) h
noncomputable def sh_spec_l6nodeok (D : Ctx) (a0 a1 : AV) (σ : Store) : Res :=
  (rd1 D.G (.pptr (AV.cells a0) 0) σ).bind fun t_1 =>
  (idx 10 t_1 a1).bind fun t_2 =>
  (rdN 10 t_2 σ).bind fun t_3 =>
  (asplit 10 (.agg t_3)).bind fun cs_4 =>
  (rd1 D.G (.pptr cs_4 1) σ).bind fun t_5 =>
  (bin .lss .num t_5 (.int .i64 0)).bind fun t_6 =>
  jn 1 (fun t_7 s_8 =>
  jn 1 (fun t_10 s_11 =>
  jn 1 (fun t_13 s_14 =>
  jn 1 (fun t_16 s_17 =>
  aCase t_16
  (some ((.bool false), s_17))
  ((rd1 D.G (.pptr cs_4 0) s_17).bind fun t_19 =>
  (callV D 17 [t_19] s_17).bind fun t_20 =>
  jn 1 (fun t_21 s_22 =>
  aCase t_21
  (some ((.bool false), s_22))
  ((rd1 D.G (.pptr cs_4 9) s_22).bind fun t_24 =>
  (lenV .sl t_24 s_22).bind fun t_25 =>
  jn 0 (fun  s_26 =>
  (rd1 D.G (.pptr cs_4 0) s_26).bind fun t_28 =>
  (callV D 17 [t_28] s_26).bind fun t_29 =>
  aCase t_29
  ((rdN 1 (.pptr (AV.cells a0) 0) s_26).bind fun t_30 =>
  (rdN 10 (.pptr cs_4 0) s_26).bind fun t_31 =>
  (callV D 18 [(.agg t_30), (.agg t_31)] s_26).bind fun t_32 =>
  some (t_32, s_26))
  ((rdN 1 (.pptr (AV.cells a0) 0) s_26).bind fun t_33 =>
  (rdN 10 (.pptr cs_4 0) s_26).bind fun t_34 =>
  (callV D 19 [(.agg t_33), (.agg t_34)] s_26).bind fun t_35 =>
  some (t_35, s_26)))
  (fun k_27 =>
  lpFix 1 (lp_spec_l6nodeok_1 D t_25 t_24 a1 k_27) (.int .i64 0) s_22)))
  (fun j_23 =>
  aCase t_20
  ((rd1 D.G (.pptr cs_4 3) s_17).bind fun t_48 =>
  (bin .eql .num t_48 (.int .i64 0)).bind fun t_49 =>
  j_23 t_49 s_17)
  (j_23 (.bool false) s_17))))
  (fun j_18 =>
  aCase t_13
  (j_18 (.bool true) s_14)
  ((rd1 D.G (.pptr cs_4 9) s_14).bind fun t_50 =>
  (lenV .sl t_50 s_14).bind fun t_51 =>
  (bin .gtr .num t_51 (.int .i64 200)).bind fun t_52 =>
  j_18 t_52 s_14)))
  (fun j_15 =>
  aCase t_10
  (j_15 (.bool true) s_11)
  ((rd1 D.G (.pptr cs_4 3) s_11).bind fun t_53 =>
  (bin .gtr .num t_53 (.int .i64 100000)).bind fun t_54 =>
  j_15 t_54 s_11)))
  (fun j_12 =>
  aCase t_7
  (j_12 (.bool true) s_8)
  ((rd1 D.G (.pptr cs_4 3) s_8).bind fun t_55 =>
  (bin .lss .num t_55 (.int .i64 0)).bind fun t_56 =>
  j_12 t_56 s_8)))
  (fun j_9 =>
  aCase t_6
  (j_9 (.bool true) σ)
  ((rd1 D.G (.pptr cs_4 2) σ).bind fun t_57 =>
  (rd1 D.G (.pptr cs_4 1) σ).bind fun t_58 =>
  (bin .lss .num t_57 t_58).bind fun t_59 =>
  j_9 t_59 σ))
theorem sh_spec_l6nodeok_eq (D : Ctx) (a0 a1 : AV) (σ : Store) : runFn D ir_spec_l6nodeok [a0, a1] σ = sh_spec_l6nodeok D a0 a1 σ := by kernel_rfl
/-- loop.example/reed/spec.l6sizes: function 12 -/
def ir_spec_l6sizes : IFn := ⟨[.tmp 2],
.seq (.reg (.op (some 1) (.pbox (.t 0)) (
  .op (some 2) (.mv (.c .nilslice)) (
  .done)))) (
  .seq (.reg (.op (some 10) (.fadd 0 (.t 1)) (
  .op (some 11) (.load false 1 (.t 10)) (
  .op (some 12) (.len .sl (.t 11)) (
  .op (some 13) (.mkSlice [(.int .i64 0)] (.t 12)) (
  .op (some 3) (.mv (.t 13)) (
  .done))))))) (
  .seq (.seq (.reg (.op (some 14) (.fadd 0 (.t 1)) (
  .op (some 15) (.load false 1 (.t 14)) (
  .op (some 16) (.len .sl (.t 15)) (
  .op (some 17) (.mv (.c (.int .i64 0))) (
  .done)))))) (
  .block 0 (some ⟨[], []⟩) (
  .loop ⟨[17], []⟩ (
  .seq (.reg (.op (some 18) (.bin .lss .num (.t 17) (.t 16)) (
  .done))) (
  .seq (.cond (.t 18) none (.skip) (.exit 0)) (
  .seq (.block 1 none (
  .seq (.reg (.op (some 19) (.mv (.t 17)) (
  .op (some 20) (.idx 10 (.t 15) (.t 17)) (
  .op (some 21) (.load true 10 (.t 20)) (
  .op (some 5) (.zalloc [(.int .i64 0), (.int .i64 0), (.int .i64 0), (.int .i64 0), (.int .i64 0), (.int .i64 0), (.flt 0), (.str ⟨#[]⟩), .nilslice, .nilslice]) (
  .op (some 4) (.mv (.t 19)) (
  .op none (.store true 10 (.t 5) (.t 21)) (
  .freeze 5 (
  .done))))))))) (
  .seq (.reg (.op (some 22) (.mv (.t 4)) (
  .op (some 6) (.mv (.t 22)) (
  .done)))) (
  .seq (.reg (.op (some 7) (.mv (.c (.bool true))) (
  .done))) (
  .seq (.seq (.reg (.op (some 23) (.fadd 9 (.t 5)) (
  .op (some 24) (.load false 1 (.t 23)) (
  .op (some 25) (.len .sl (.t 24)) (
  .op (some 26) (.bin .sub .num (.t 25) (.c (.int .i64 1))) (
  .op (some 8) (.mv (.t 26)) (
  .done))))))) (
  .block 2 (some ⟨[6, 7], []⟩) (
  .loop ⟨[6, 7, 8], []⟩ (
  .seq (.seq (.reg (.op (some 27) (.mv (.t 8)) (
  .op (some 28) (.bin .geq .num (.t 27) (.c (.int .i64 0))) (
  .done)))) (
  .cond (.t 28) none (.skip) (.exit 2))) (
  .seq (.block 3 none (
  .seq (.reg (.op (some 31) (.fadd 9 (.t 5)) (
  .op (some 32) (.load false 1 (.t 31)) (
  .op (some 33) (.mv (.t 8)) (
  .op (some 34) (.idx 1 (.t 32) (.t 33)) (
  .op (some 35) (.load false 1 (.t 34)) (
  .op (some 9) (.mv (.t 35)) (
  .done)))))))) (
  .seq (.seq (.reg (.op (some 36) (.mv (.t 9)) (
  .op (some 37) (.mv (.t 6)) (
  .op (some 38) (.bin .sub .num (.t 37) (.c (.int .i64 1))) (
  .op (some 39) (.bin .neq .num (.t 36) (.t 38)) (
  .op (some 40) (.mv (.t 39)) (
  .dia 40 (
  .gop 40 false (some 41) (.mv (.t 3)) (
  .gop 40 false (some 42) (.mv (.t 9)) (
  .gop 40 false (some 43) (.idx 1 (.t 41) (.t 42)) (
  .gop 40 false (some 44) (.load false 1 (.t 43)) (
  .gop 40 false (some 45) (.bin .eql .num (.t 44) (.c (.int .i64 0))) (
  .done)))))) 46 (.t 40) (.c (.bool true)) (.t 45) none (
  .done)))))))) (
  .cond (.t 46) none (.seq (.reg (.op (some 7) (.mv (.c (.bool false))) (
  .done))) (
  .exit 2)) (.skip))) (
  .reg (.op (some 47) (.mv (.t 6)) (
  .op (some 48) (.mv (.t 3)) (
  .op (some 49) (.mv (.t 9)) (
  .op (some 50) (.idx 1 (.t 48) (.t 49)) (
  .op (some 51) (.load false 1 (.t 50)) (
  .op (some 52) (.bin .sub .num (.t 47) (.t 51)) (
  .op (some 6) (.mv (.t 52)) (
  .done)))))))))))) (
  .reg (.op (some 29) (.mv (.t 8)) (
  .op (some 30) (.bin .sub .num (.t 29) (.c (.int .i64 1))) (
  .op (some 8) (.mv (.t 30)) (
  .done)))))))))) (
  .seq (.reg (.op (some 53) (.mv (.t 7)) (
  .done))) (
  .cond (.t 53) (some ⟨[], []⟩) (.reg (.op (some 54) (.mv (.t 3)) (
  .op (some 55) (.mv (.t 4)) (
  .op (some 56) (.mv (.t 4)) (
  .op (some 57) (.mv (.t 6)) (
  .op (some 58) (.bin .sub .num (.t 56) (.t 57)) (
  .op (some 59) (.bin .add .num (.t 58) (.c (.int .i64 1))) (
  .op (some 60) (.idx 1 (.t 54) (.t 55)) (
  .op none (.store false 1 (.t 60) (.t 59)) (
  .done)))))))))) (.skip)))))))) (
  .reg (.op (some 61) (.bin .add .num (.t 17) (.c (.int .i64 1))) (
  .op (some 17) (.mv (.t 61)) (
  .done)))))))))) (
  .seq (.reg (.op (some 62) (.mv (.t 3)) (
  .op (some 2) (.mv (.t 62)) (
  .done)))) (
  .ret))))⟩
noncomputable def lp_spec_l6sizes_1 (D : Ctx) (cs_14 : List AV) (k_21 : Cur 2) (t_3 : AV × Store) : Cur 3 → Cur 3 :=
  fun go_34 at_30 ok_31 j_32 s_33 =>
  (bin .geq .num j_32 (.int .i64 0)).bind fun t_35 =>
  aCase t_35
  ((rd1 D.G (.pptr cs_14 9) s_33).bind fun t_36 =>
  (idx 1 t_36 j_32).bind fun t_37 =>
  (rd1 D.G t_37 s_33).bind fun t_38 =>
  (bin .sub .num at_30 (.int .i64 1)).bind fun t_39 =>
  (bin .neq .num t_38 t_39).bind fun t_40 =>
  jn 1 (fun t_41 s_42 =>
  aCase t_41
  (k_21 at_30 (.bool false) s_42)
  ((idx 1 t_3.1 t_38).bind fun t_44 =>
  (rd1 D.G t_44 s_42).bind fun t_45 =>
  (bin .sub .num at_30 t_45).bind fun t_46 =>
  (bin .sub .num j_32 (.int .i64 1)).bind fun t_47 =>
  go_34 t_46 ok_31 t_47 s_42))
  (fun j_43 =>
  aCase t_40
  (j_43 (.bool true) s_33)
  ((idx 1 t_3.1 t_38).bind fun t_48 =>
  (rd1 D.G t_48 s_33).bind fun t_49 =>
  (bin .eql .num t_49 (.int .i64 0)).bind fun t_50 =>
  j_43 t_50 s_33)))
  (k_21 at_30 ok_31 s_33)
theorem lp_spec_l6sizes_1_le {D : Ctx} (cs_14 : List AV) (k_21 : Cur 2) (t_3 : AV × Store) {k_21' : Cur 2} (hk_21 : Cle k_21 k_21') {u u' : Cur 3} (h : Cle u u') : Cle (lp_spec_l6sizes_1 D cs_14 k_21 t_3 u) (lp_spec_l6sizes_1 D cs_14 k_21' t_3 u') := by
  unfold lp_spec_l6sizes_1
  repeat (first
    | with_reducible refine Ole.bindr fun _ => ?_
    | with_reducible refine Ole.aCase ?_ ?_
    | refine Ole.jn ?_ (fun _ _ _ => ?_)
    | refine Cle.succ fun _ => ?_
    | refine Cle.zero fun _ => ?_
    | exact Cle.use1 (by assumption)
    | exact Cle.use2 (by assumption)
    | exact Cle.use3 (by assumption)
    | with_reducible exact Ole.refl _)
theorem lp_spec_l6sizes_1_mono (D : Ctx) (cs_14 : List AV) (k_21 : Cur 2) (t_3 : AV × Store) : Mono (lp_spec_l6sizes_1 D cs_14 k_21 t_3) := fun _ _ h => lp_spec_l6sizes_1_le cs_14 k_21 t_3 (Cle.refl _) h
noncomputable def lp_spec_l6sizes_2 (D : Ctx) (t_5 : AV) (t_4 : AV) (t_3 : AV × Store) (k_7 : Cur 0) : Cur 1 → Cur 1 :=
  fun go_10 t_8 s_9 =>
  (bin .lss .num t_8 t_5).bind fun t_11 =>
  aCase t_11
  ((idx 10 t_4 t_8).bind fun t_12 =>
  (rdN 10 t_12 s_9).bind fun t_13 =>
  (asplit 10 (.agg t_13)).bind fun cs_14 =>
  (rd1 D.G (.pptr cs_14 9) s_9).bind fun t_15 =>
  (lenV .sl t_15 s_9).bind fun t_16 =>
  (bin .sub .num t_16 (.int .i64 1)).bind fun t_17 =>
  jn 2 (fun at_18 ok_19 s_20 =>
  jn 0 (fun  s_22 =>
  (bin .add .num t_8 (.int .i64 1)).bind fun t_24 =>
  go_10 t_24 s_22)
  (fun k_23 =>
  aCase ok_19
  ((bin .sub .num t_8 at_18).bind fun t_25 =>
  (bin .add .num t_25 (.int .i64 1)).bind fun t_26 =>
  (idx 1 t_3.1 t_8).bind fun t_27 =>
  (one t_26).bind fun o_28 =>
  (wr t_27 [o_28] s_20).bind fun s_29 =>
  k_23  s_29)
  (k_23  s_20)))
  (fun k_21 =>
  lpFix 3 (lp_spec_l6sizes_1 D cs_14 k_21 t_3) t_8 (.bool true) t_17 s_9))
  (k_7  s_9)
theorem lp_spec_l6sizes_2_le {D : Ctx} (t_5 : AV) (t_4 : AV) (t_3 : AV × Store) (k_7 : Cur 0) {k_7' : Cur 0} (hk_7 : Cle k_7 k_7') {u u' : Cur 1} (h : Cle u u') : Cle (lp_spec_l6sizes_2 D t_5 t_4 t_3 k_7 u) (lp_spec_l6sizes_2 D t_5 t_4 t_3 k_7' u') := by
  unfold lp_spec_l6sizes_2
  repeat (first
    | with_reducible refine Ole.bindr fun _ => ?_
    | with_reducible refine Ole.aCase ?_ ?_
    | refine Ole.jn ?_ (fun _ _ _ => ?_)
    | refine Cle.succ fun _ => ?_
    | refine Cle.zero fun _ => ?_
    | exact Cle.use0 (by assumption)
    | exact Cle.use1 (by assumption)
    | exact Cle.use2 (by assumption)
    | exact Cle.use3 (lpFix_mono (lp_spec_l6sizes_1_mono _ _ _ _) (lp_spec_l6sizes_1_mono _ _ _ _) fun _ => lp_spec_l6sizes_1_le _ _ _ (by first | assumption | exact Cle.refl _) (Cle.refl _))
    | with_reducible exact Ole.refl _)
theorem lp_spec_l6sizes_2_mono (D : Ctx) (t_5 : AV) (t_4 : AV) (t_3 : AV × Store) (k_7 : Cur 0) : Mono (lp_spec_l6sizes_2 D t_5 t_4 t_3 k_7) := fun _ _ h => lp_spec_l6sizes_2_le t_5 t_4 t_3 k_7 (Cle.refl _) h
noncomputable def sh_spec_l6sizes (D : Ctx) (a0 : AV) (σ : Store) : Res :=
  (rd1 D.G (.pptr (AV.cells a0) 0) σ).bind fun t_1 =>
  (lenV .sl t_1 σ).bind fun t_2 =>
  (mkSlice [(.int .i64 0)] t_2 σ).bind fun t_3 =>
  (rd1 D.G (.pptr (AV.cells a0) 0) t_3.2).bind fun t_4 =>
  (lenV .sl t_4 t_3.2).bind fun t_5 =>
  jn 0 (fun  s_6 =>
  some (t_3.1, s_6))
  (fun k_7 =>
  lpFix 1 (lp_spec_l6sizes_2 D t_5 t_4 t_3 k_7) (.int .i64 0) t_3.2)
theorem sh_spec_l6sizes_eq (D : Ctx) (a0 : AV) (σ : Store) : runFn D ir_spec_l6sizes [a0] σ = sh_spec_l6sizes D a0 σ := by kernel_rfl
/-- loop.example/reed/laws.toPartS: function 13 -/
def ir_laws_toPartS : IFn := ⟨[.tmp 2],
.seq (.reg (.op (some 2) (.mv (.c .nilslice)) (
  .done))) (
  .seq (.reg (.op (some 5) (.mv (.t 0)) (
  .op (some 6) (.len .sl (.t 5)) (
  .op (some 7) (.mkSlice [(.int .i64 0), (.int .i64 0), (.int .i64 0), (.int .i64 0), (.int .i64 0), (.int .i64 0), (.flt 0), (.str ⟨#[]⟩), .nilslice, .nilslice] (.t 6)) (
  .op (some 3) (.mv (.t 7)) (
  .done)))))) (
  .seq (.seq (.reg (.op (some 4) (.mv (.c (.int .i64 0))) (
  .done))) (
  .block 0 (some ⟨[], []⟩) (
  .loop ⟨[4], []⟩ (
  .seq (.seq (.reg (.op (some 8) (.mv (.t 4)) (
  .op (some 9) (.mv (.t 0)) (
  .op (some 10) (.len .sl (.t 9)) (
  .op (some 11) (.bin .lss .num (.t 8) (.t 10)) (
  .done)))))) (
  .cond (.t 11) none (.skip) (.exit 0))) (
  .seq (.block 1 none (
  .reg (.op (some 14) (.mv (.t 3)) (
  .op (some 15) (.mv (.t 4)) (
  .op (some 16) (.mv (.t 0)) (
  .op (some 17) (.mv (.t 4)) (
  .op (some 18) (.idx 10 (.t 16) (.t 17)) (
  .op (some 19) (.load true 10 (.t 18)) (
  .op (some 20) (.callP 20 [(.t 19)]) (
  .op (some 21) (.idx 10 (.t 14) (.t 15)) (
  .op none (.store true 10 (.t 21) (.t 20)) (
  .done)))))))))))) (
  .reg (.op (some 12) (.mv (.t 4)) (
  .op (some 13) (.bin .add .num (.t 12) (.c (.int .i64 1))) (
  .op (some 4) (.mv (.t 13)) (
  .done)))))))))) (
  .seq (.reg (.op (some 22) (.mv (.t 3)) (
  .op (some 2) (.mv (.t 22)) (
  .done)))) (
  .ret))))⟩
noncomputable def lp_laws_toPartS_1 (D : Ctx) (a0 : AV) (t_2 : AV × Store) (k_4 : Cur 0) : Cur 1 → Cur 1 :=
  fun go_7 i_5 s_6 =>
  (lenV .sl a0 s_6).bind fun t_8 =>
  (bin .lss .num i_5 t_8).bind fun t_9 =>
  aCase t_9
  ((idx 10 a0 i_5).bind fun t_10 =>
  (rdN 10 t_10 s_6).bind fun t_11 =>
  (callP D 20 [(.agg t_11)]).bind fun t_12 =>
  (idx 10 t_2.1 i_5).bind fun t_13 =>
  (asplit 10 t_12).bind fun cs_14 =>
  (wr t_13 cs_14 s_6).bind fun s_15 =>
  (bin .add .num i_5 (.int .i64 1)).bind fun t_16 =>
  go_7 t_16 s_15)
  (k_4  s_6)
theorem lp_laws_toPartS_1_le {D : Ctx} (a0 : AV) (t_2 : AV × Store) (k_4 : Cur 0) {k_4' : Cur 0} (hk_4 : Cle k_4 k_4') {u u' : Cur 1} (h : Cle u u') : Cle (lp_laws_toPartS_1 D a0 t_2 k_4 u) (lp_laws_toPartS_1 D a0 t_2 k_4' u') := by
  unfold lp_laws_toPartS_1
  repeat (first
    | with_reducible refine Ole.bindr fun _ => ?_
    | with_reducible refine Ole.aCase ?_ ?_
    | refine Ole.jn ?_ (fun _ _ _ => ?_)
    | refine Cle.succ fun _ => ?_
    | refine Cle.zero fun _ => ?_
    | exact Cle.use0 (by assumption)
    | exact Cle.use1 (by assumption)
    | with_reducible exact Ole.refl _)
theorem lp_laws_toPartS_1_mono (D : Ctx) (a0 : AV) (t_2 : AV × Store) (k_4 : Cur 0) : Mono (lp_laws_toPartS_1 D a0 t_2 k_4) := fun _ _ h => lp_laws_toPartS_1_le a0 t_2 k_4 (Cle.refl _) h
noncomputable def sh_laws_toPartS (D : Ctx) (a0 : AV) (σ : Store) : Res :=
  (lenV .sl a0 σ).bind fun t_1 =>
  (mkSlice [(.int .i64 0), (.int .i64 0), (.int .i64 0), (.int .i64 0), (.int .i64 0), (.int .i64 0), (.flt 0), (.str ⟨#[]⟩), .nilslice, .nilslice] t_1 σ).bind fun t_2 =>
  jn 0 (fun  s_3 =>
  some (t_2.1, s_3))
  (fun k_4 =>
  lpFix 1 (lp_laws_toPartS_1 D a0 t_2 k_4) (.int .i64 0) t_2.2)
theorem sh_laws_toPartS_eq (D : Ctx) (a0 : AV) (σ : Store) : runFn D ir_laws_toPartS [a0] σ = sh_laws_toPartS D a0 σ := by kernel_rfl
/-- loop.example/reed/impl.partShape: function 14 -/
def ir_impl_partShape : IFn := ⟨[.tmp 4],
.seq (.reg (.op (some 2) (.pbox (.t 0)) (
  .op (some 3) (.pbox (.t 1)) (
  .op (some 4) (.mv (.c (.bool false))) (
  .done))))) (
  .seq (.reg (.op (some 20) (.load false 1 (.t 3)) (
  .op (some 21) (.len .sl (.t 20)) (
  .op (some 5) (.mv (.t 21)) (
  .done))))) (
  .seq (.seq (.reg (.op (some 22) (.mv (.t 5)) (
  .op (some 23) (.bin .gtr .num (.t 22) (.c (.int .i64 200))) (
  .op (some 24) (.mv (.t 23)) (
  .dia 24 (
  .gop 24 false (some 25) (.fadd 8 (.t 2)) (
  .gop 24 false (some 26) (.load false 1 (.t 25)) (
  .gop 24 false (some 27) (.len .sl (.t 26)) (
  .gop 24 false (some 28) (.bin .gtr .num (.t 27) (.c (.int .i64 200))) (
  .done))))) 29 (.t 24) (.c (.bool true)) (.t 28) none (
  .done)))))) (
  .cond (.t 29) none (.seq (.reg (.op (some 4) (.mv (.c (.bool false))) (
  .done))) (
  .ret)) (.skip))) (
  .seq (.reg (.op (some 30) (.mkFunc 21 [] [(.t 3)]) (
  .op (some 6) (.mv (.t 30)) (
  .done)))) (
  .seq (.reg (.op (some 31) (.mkFunc 22 [] [(.t 3)]) (
  .op (some 7) (.mv (.t 31)) (
  .done)))) (
  .seq (.reg (.op (some 8) (.mv (.c (.bool false))) (
  .op (some 9) (.mv (.c (.bool false))) (
  .op (some 10) (.mv (.c (.bool false))) (
  .op (some 11) (.mv (.c (.bool false))) (
  .done)))))) (
  .seq (.reg (.op (some 12) (.mv (.c (.bool false))) (
  .done))) (
  .seq (.reg (.op (some 13) (.mv (.c (.int .i64 0))) (
  .op (some 14) (.mv (.c (.int .i64 0))) (
  .done)))) (
  .seq (.reg (.op (some 15) (.mv (.c (.func 23 [] []))) (
  .done))) (
  .seq (.seq (.reg (.op (some 32) (.fadd 0 (.t 2)) (
  .op (some 33) (.load false 1 (.t 32)) (
  .done)))) (
  .block 0 none (
  .seq (.reg (.op (some 35) (.bin .eql .num (.t 33) (.c (.int .i64 1))) (
  .op (some 34) (.mv (.t 35)) (
  .done)))) (
  .cond (.t 34) (some ⟨[8, 9, 10, 11, 12, 13, 14], []⟩) (.reg (.op (some 36) (.mv (.t 6)) (
  .op (some 37) (.mv (.t 5)) (
  .op (some 38) (.callD (.t 36) [(.c (.func 25 [] [])), (.c (.int .i64 0)), (.t 37)]) (
  .op (some 12) (.mv (.t 38)) (
  .done)))))) (.seq (.reg (.op (some 40) (.bin .eql .num (.t 33) (.c (.int .i64 2))) (
  .op (some 39) (.mv (.t 40)) (
  .done)))) (
  .cond (.t 39) (some ⟨[8, 9, 10, 11, 12, 13, 14], []⟩) (.seq (.reg (.op (some 13) (.mv (.c (.int .i64 1))) (
  .op (some 14) (.mv (.c (.int .i64 9223372036854775807))) (
  .done)))) (
  .reg (.op (some 41) (.mv (.t 6)) (
  .op (some 42) (.mv (.t 5)) (
  .op (some 43) (.callD (.t 41) [(.c (.func 24 [] [])), (.c (.int .i64 0)), (.t 42)]) (
  .op (some 12) (.mv (.t 43)) (
  .done))))))) (.seq (.reg (.op (some 45) (.bin .eql .num (.t 33) (.c (.int .i64 3))) (
  .op (some 44) (.mv (.t 45)) (
  .done)))) (
  .cond (.t 44) (some ⟨[8, 9, 10, 11, 12, 13, 14], []⟩) (.seq (.reg (.op (some 13) (.mv (.c (.int .i64 1))) (
  .op (some 14) (.mv (.c (.int .i64 1))) (
  .done)))) (
  .reg (.op (some 46) (.mv (.t 5)) (
  .op (some 47) (.bin .eql .num (.t 46) (.c (.int .i64 1))) (
  .op (some 48) (.mv (.t 47)) (
  .dia 48 (
  .gop 48 true (some 49) (.load false 1 (.t 3)) (
  .gop 48 true (some 50) (.idx 1 (.t 49) (.c (.int .i64 0))) (
  .gop 48 true (some 51) (.load false 1 (.t 50)) (
  .gop 48 true (some 52) (.callV 24 [(.t 51)]) (
  .done))))) 53 (.t 48) (.t 52) (.c (.bool false)) none (
  .op (some 12) (.mv (.t 53)) (
  .done)))))))) (.seq (.reg (.op (some 55) (.bin .eql .num (.t 33) (.c (.int .i64 4))) (
  .op (some 54) (.mv (.t 55)) (
  .done)))) (
  .cond (.t 54) (some ⟨[8, 9, 10, 11, 12, 13, 14], []⟩) (.seq (.reg (.op (some 13) (.mv (.c (.int .i64 1))) (
  .op (some 14) (.mv (.c (.int .i64 1))) (
  .done)))) (
  .reg (.op (some 56) (.mv (.t 5)) (
  .op (some 57) (.bin .eql .num (.t 56) (.c (.int .i64 1))) (
  .op (some 58) (.mv (.t 57)) (
  .dia 58 (
  .gop 58 true (some 59) (.mv (.t 7)) (
  .gop 58 true (some 60) (.pslice 1 [(.int .i64 0)] 1 [(0, false, (.c (.int .i64 36)))]) (
  .gop 58 true (some 61) (.callD (.t 59) [(.c (.int .i64 0)), (.t 60)]) (
  .done)))) 62 (.t 58) (.t 61) (.c (.bool false)) none (
  .op (some 12) (.mv (.t 62)) (
  .done)))))))) (.seq (.reg (.op (some 64) (.bin .eql .num (.t 33) (.c (.int .i64 5))) (
  .op (some 63) (.mv (.t 64)) (
  .done)))) (
  .cond (.t 63) (some ⟨[8, 9, 10, 11, 12, 13, 14], []⟩) (.seq (.reg (.op (some 8) (.mv (.c (.bool true))) (
  .done))) (
  .seq (.seq (.reg (.op (some 65) (.fadd 5 (.t 2)) (
  .op (some 66) (.load false 1 (.t 65)) (
  .op (some 67) (.bin .lss .num (.t 66) (.c (.int .i64 1))) (
  .op (some 68) (.mv (.t 67)) (
  .dia 68 (
  .gop 68 false (some 69) (.fadd 5 (.t 2)) (
  .gop 68 false (some 70) (.load false 1 (.t 69)) (
  .gop 68 false (some 71) (.mv (.t 5)) (
  .gop 68 false (some 72) (.bin .geq .num (.t 70) (.t 71)) (
  .done))))) 73 (.t 68) (.c (.bool true)) (.t 72) none (
  .done))))))) (
  .cond (.t 73) none (.seq (.reg (.op (some 4) (.mv (.c (.bool false))) (
  .done))) (
  .ret)) (.skip))) (
  .seq (.reg (.op (some 74) (.fadd 5 (.t 2)) (
  .op (some 75) (.load false 1 (.t 74)) (
  .op (some 16) (.mv (.t 75)) (
  .done))))) (
  .reg (.op (some 76) (.mv (.t 6)) (
  .op (some 77) (.mv (.t 16)) (
  .op (some 78) (.callD (.t 76) [(.c (.func 26 [] [])), (.c (.int .i64 0)), (.t 77)]) (
  .op (some 79) (.mv (.t 78)) (
  .dia 79 (
  .gop 79 true (some 80) (.mv (.t 6)) (
  .gop 79 true (some 81) (.mv (.t 16)) (
  .gop 79 true (some 82) (.mv (.t 5)) (
  .gop 79 true (some 83) (.callD (.t 80) [(.c (.func 24 [] [])), (.t 81), (.t 82)]) (
  .done))))) 84 (.t 79) (.t 83) (.c (.bool false)) none (
  .op (some 12) (.mv (.t 84)) (
  .done))))))))))) (.seq (.seq (.reg (.op (some 86) (.bin .eql .num (.t 33) (.c (.int .i64 6))) (
  .op (some 85) (.mv (.t 86)) (
  .done)))) (
  .cond (.t 85) (some ⟨[85], []⟩) (.skip) (.reg (.op (some 87) (.bin .eql .num (.t 33) (.c (.int .i64 16))) (
  .op (some 85) (.mv (.t 87)) (
  .done)))))) (
  .cond (.t 85) (some ⟨[8, 9, 10, 11, 12, 13, 14], []⟩) (.reg (.op (some 88) (.mv (.t 5)) (
  .op (some 89) (.bin .eql .num (.t 88) (.c (.int .i64 1))) (
  .op (some 90) (.mv (.t 89)) (
  .dia 90 (
  .gop 90 true (some 91) (.mv (.t 7)) (
  .gop 90 true (some 92) (.pslice 1 [(.int .i64 0)] 1 [(0, false, (.c (.int .i64 34)))]) (
  .gop 90 true (some 93) (.callD (.t 91) [(.c (.int .i64 0)), (.t 92)]) (
  .done)))) 94 (.t 90) (.t 93) (.c (.bool false)) none (
  .op (some 12) (.mv (.t 94)) (
  .done))))))) (.seq (.reg (.op (some 96) (.bin .eql .num (.t 33) (.c (.int .i64 7))) (
  .op (some 95) (.mv (.t 96)) (
  .done)))) (
  .cond (.t 95) (some ⟨[8, 9, 10, 11, 12, 13, 14], []⟩) (.reg (.op (some 97) (.mv (.t 5)) (
  .op (some 98) (.bin .eql .num (.t 97) (.c (.int .i64 2))) (
  .op (some 99) (.mv (.t 98)) (
  .dia 99 (
  .gop 99 false (some 100) (.mv (.t 5)) (
  .gop 99 false (some 101) (.bin .eql .num (.t 100) (.c (.int .i64 3))) (
  .done))) 102 (.t 99) (.c (.bool true)) (.t 101) none (
  .op (some 103) (.mv (.t 102)) (
  .dia 103 (
  .gop 103 true (some 104) (.load false 1 (.t 3)) (
  .gop 103 true (some 105) (.idx 1 (.t 104) (.c (.int .i64 0))) (
  .gop 103 true (some 106) (.load false 1 (.t 105)) (
  .gop 103 true (some 107) (.callV 24 [(.t 106)]) (
  .done))))) 108 (.t 103) (.t 107) (.c (.bool false)) none (
  .op (some 109) (.mv (.t 108)) (
  .dia 109 (
  .gop 109 true (some 110) (.mv (.t 7)) (
  .gop 109 true (some 111) (.pslice 1 [(.int .i64 0)] 1 [(0, false, (.c (.int .i64 1)))]) (
  .gop 109 true (some 112) (.callD (.t 110) [(.c (.int .i64 1)), (.t 111)]) (
  .done)))) 113 (.t 109) (.t 112) (.c (.bool false)) none (
  .op (some 114) (.mv (.t 113)) (
  .dia 114 (
  .gop 114 true (some 115) (.mv (.t 5)) (
  .gop 114 true (some 116) (.bin .eql .num (.t 115) (.c (.int .i64 2))) (
  .gop 114 true (some 117) (.mv (.t 116)) (
  .dia 117 (
  .gop 117 false (some 118) (.mv (.t 7)) (
  .gop 117 false (some 119) (.pslice 1 [(.int .i64 0)] 2 [(0, false, (.c (.int .i64 1))), (1, false, (.c (.int .i64 7)))]) (
  .gop 117 false (some 120) (.callD (.t 118) [(.c (.int .i64 2)), (.t 119)]) (
  .done)))) 121 (.t 117) (.c (.bool true)) (.t 120) (some (114, true)) (
  .done))))) 122 (.t 114) (.t 121) (.c (.bool false)) none (
  .op (some 12) (.mv (.t 122)) (
  .done))))))))))))) (.seq (.reg (.op (some 124) (.bin .eql .num (.t 33) (.c (.int .i64 8))) (
  .op (some 123) (.mv (.t 124)) (
  .done)))) (
  .cond (.t 123) (some ⟨[8, 9, 10, 11, 12, 13, 14], []⟩) (.reg (.op (some 125) (.mv (.t 5)) (
  .op (some 126) (.bin .eql .num (.t 125) (.c (.int .i64 2))) (
  .op (some 127) (.mv (.t 126)) (
  .dia 127 (
  .gop 127 true (some 128) (.load false 1 (.t 3)) (
  .gop 127 true (some 129) (.idx 1 (.t 128) (.c (.int .i64 0))) (
  .gop 127 true (some 130) (.load false 1 (.t 129)) (
  .gop 127 true (some 131) (.callV 24 [(.t 130)]) (
  .done))))) 132 (.t 127) (.t 131) (.c (.bool false)) none (
  .op (some 133) (.mv (.t 132)) (
  .dia 133 (
  .gop 133 true (some 134) (.mv (.t 7)) (
  .gop 133 true (some 135) (.pslice 1 [(.int .i64 0)] 1 [(0, false, (.c (.int .i64 1)))]) (
  .gop 133 true (some 136) (.callD (.t 134) [(.c (.int .i64 1)), (.t 135)]) (
  .done)))) 137 (.t 133) (.t 136) (.c (.bool false)) none (
  .op (some 12) (.mv (.t 137)) (
  .done))))))))) (.seq (.reg (.op (some 139) (.bin .eql .num (.t 33) (.c (.int .i64 9))) (
  .op (some 138) (.mv (.t 139)) (
  .done)))) (
  .cond (.t 138) (some ⟨[8, 9, 10, 11, 12, 13, 14], []⟩) (.seq (.reg (.op (some 13) (.mv (.c (.int .i64 1))) (
  .op (some 14) (.mv (.c (.int .i64 1))) (
  .done)))) (
  .reg (.op (some 140) (.mv (.t 5)) (
  .op (some 141) (.bin .eql .num (.t 140) (.c (.int .i64 3))) (
  .op (some 142) (.mv (.t 141)) (
  .dia 142 (
  .gop 142 false (some 143) (.mv (.t 5)) (
  .gop 142 false (some 144) (.bin .eql .num (.t 143) (.c (.int .i64 4))) (
  .done))) 145 (.t 142) (.c (.bool true)) (.t 144) none (
  .op (some 146) (.mv (.t 145)) (
  .dia 146 (
  .gop 146 true (some 147) (.mv (.t 6)) (
  .gop 146 true (some 148) (.mv (.t 5)) (
  .gop 146 true (some 149) (.bin .sub .num (.t 148) (.c (.int .i64 1))) (
  .gop 146 true (some 150) (.callD (.t 147) [(.c (.func 24 [] [])), (.c (.int .i64 0)), (.t 149)]) (
  .done))))) 151 (.t 146) (.t 150) (.c (.bool false)) none (
  .op (some 152) (.mv (.t 151)) (
  .dia 152 (
  .gop 152 true (some 153) (.mv (.t 7)) (
  .gop 152 true (some 154) (.mv (.t 5)) (
  .gop 152 true (some 155) (.bin .sub .num (.t 154) (.c (.int .i64 1))) (
  .gop 152 true (some 156) (.pslice 1 [(.int .i64 0)] 1 [(0, false, (.c (.int .i64 1)))]) (
  .gop 152 true (some 157) (.callD (.t 153) [(.t 155), (.t 156)]) (
  .done)))))) 158 (.t 152) (.t 157) (.c (.bool false)) none (
  .op (some 12) (.mv (.t 158)) (
  .done)))))))))))) (.seq (.reg (.op (some 160) (.bin .eql .num (.t 33) (.c (.int .i64 10))) (
  .op (some 159) (.mv (.t 160)) (
  .done)))) (
  .cond (.t 159) (some ⟨[8, 9, 10, 11, 12, 13, 14], []⟩) (.seq (.reg (.op (some 13) (.mv (.c (.int .i64 1))) (
  .op (some 14) (.mv (.c (.int .i64 9223372036854775807))) (
  .done)))) (
  .reg (.op (some 161) (.mv (.t 5)) (
  .op (some 162) (.bin .eql .num (.t 161) (.c (.int .i64 2))) (
  .op (some 163) (.mv (.t 162)) (
  .dia 163 (
  .gop 163 true (some 164) (.load false 1 (.t 3)) (
  .gop 163 true (some 165) (.idx 1 (.t 164) (.c (.int .i64 0))) (
  .gop 163 true (some 166) (.load false 1 (.t 165)) (
  .gop 163 true (some 167) (.callV 24 [(.t 166)]) (
  .done))))) 168 (.t 163) (.t 167) (.c (.bool false)) none (
  .op (some 169) (.mv (.t 168)) (
  .dia 169 (
  .gop 169 true (some 170) (.mv (.t 7)) (
  .gop 169 true (some 171) (.pslice 1 [(.int .i64 0)] 1 [(0, false, (.c (.int .i64 1)))]) (
  .gop 169 true (some 172) (.callD (.t 170) [(.c (.int .i64 1)), (.t 171)]) (
  .done)))) 173 (.t 169) (.t 172) (.c (.bool false)) none (
  .op (some 12) (.mv (.t 173)) (
  .done)))))))))) (.seq (.seq (.reg (.op (some 175) (.bin .eql .num (.t 33) (.c (.int .i64 11))) (
  .op (some 174) (.mv (.t 175)) (
  .done)))) (
  .cond (.t 174) (some ⟨[174], []⟩) (.skip) (.reg (.op (some 176) (.bin .eql .num (.t 33) (.c (.int .i64 12))) (
  .op (some 174) (.mv (.t 176)) (
  .done)))))) (
  .cond (.t 174) (some ⟨[8, 9, 10, 11, 12, 13, 14], []⟩) (.reg (.op (some 177) (.mv (.t 5)) (
  .op (some 178) (.bin .eql .num (.t 177) (.c (.int .i64 0))) (
  .op (some 12) (.mv (.t 178)) (
  .done))))) (.seq (.reg (.op (some 180) (.bin .eql .num (.t 33) (.c (.int .i64 13))) (
  .op (some 179) (.mv (.t 180)) (
  .done)))) (
  .cond (.t 179) (some ⟨[8, 9, 10, 11, 12, 13, 14], []⟩) (.reg (.op (some 181) (.mv (.t 6)) (
  .op (some 182) (.mv (.t 5)) (
  .op (some 183) (.callD (.t 181) [(.c (.func 24 [] [])), (.c (.int .i64 0)), (.t 182)]) (
  .op (some 12) (.mv (.t 183)) (
  .done)))))) (.seq (.reg (.op (some 185) (.bin .eql .num (.t 33) (.c (.int .i64 14))) (
  .op (some 184) (.mv (.t 185)) (
  .done)))) (
  .cond (.t 184) (some ⟨[8, 9, 10, 11, 12, 13, 14], []⟩) (.seq (.reg (.op (some 13) (.mv (.c (.int .i64 1))) (
  .op (some 14) (.mv (.c (.int .i64 2))) (
  .done)))) (
  .reg (.op (some 186) (.mv (.t 5)) (
  .op (some 187) (.bin .eql .num (.t 186) (.c (.int .i64 2))) (
  .op (some 188) (.mv (.t 187)) (
  .dia 188 (
  .gop 188 true (some 189) (.mv (.t 7)) (
  .gop 188 true (some 190) (.pslice 1 [(.int .i64 0)] 1 [(0, false, (.c (.int .i64 1)))]) (
  .gop 188 true (some 191) (.callD (.t 189) [(.c (.int .i64 0)), (.t 190)]) (
  .done)))) 192 (.t 188) (.t 191) (.c (.bool false)) none (
  .op (some 193) (.mv (.t 192)) (
  .dia 193 (
  .gop 193 true (some 194) (.mv (.t 7)) (
  .gop 193 true (some 195) (.pslice 1 [(.int .i64 0)] 1 [(0, false, (.c (.int .i64 1)))]) (
  .gop 193 true (some 196) (.callD (.t 194) [(.c (.int .i64 1)), (.t 195)]) (
  .done)))) 197 (.t 193) (.t 196) (.c (.bool false)) none (
  .op (some 12) (.mv (.t 197)) (
  .done)))))))))) (.seq (.reg (.op (some 199) (.bin .eql .num (.t 33) (.c (.int .i64 15))) (
  .op (some 198) (.mv (.t 199)) (
  .done)))) (
  .cond (.t 198) (some ⟨[8, 9, 10, 11, 12, 14], []⟩) (.reg (.op (some 200) (.mv (.t 5)) (
  .op (some 201) (.bin .eql .num (.t 200) (.c (.int .i64 1))) (
  .op (some 202) (.mv (.t 201)) (
  .dia 202 (
  .gop 202 true (some 203) (.load false 1 (.t 3)) (
  .gop 202 true (some 204) (.idx 1 (.t 203) (.c (.int .i64 0))) (
  .gop 202 true (some 205) (.load false 1 (.t 204)) (
  .gop 202 true (some 206) (.callV 24 [(.t 205)]) (
  .done))))) 207 (.t 202) (.t 206) (.c (.bool false)) none (
  .op (some 12) (.mv (.t 207)) (
  .done))))))) (.seq (.seq (.reg (.op (some 209) (.bin .eql .num (.t 33) (.c (.int .i64 20))) (
  .op (some 208) (.mv (.t 209)) (
  .done)))) (
  .cond (.t 208) (some ⟨[208], []⟩) (.skip) (.seq (.reg (.op (some 210) (.bin .eql .num (.t 33) (.c (.int .i64 21))) (
  .op (some 208) (.mv (.t 210)) (
  .done)))) (
  .cond (.t 208) (some ⟨[208], []⟩) (.skip) (.seq (.reg (.op (some 211) (.bin .eql .num (.t 33) (.c (.int .i64 22))) (
  .op (some 208) (.mv (.t 211)) (
  .done)))) (
  .cond (.t 208) (some ⟨[208], []⟩) (.skip) (.reg (.op (some 212) (.bin .eql .num (.t 33) (.c (.int .i64 27))) (
  .op (some 208) (.mv (.t 212)) (
  .done)))))))))) (
  .cond (.t 208) (some ⟨[8, 9, 10, 11, 12, 14], []⟩) (.reg (.op (some 213) (.mv (.t 5)) (
  .op (some 214) (.bin .eql .num (.t 213) (.c (.int .i64 0))) (
  .op (some 12) (.mv (.t 214)) (
  .done))))) (.seq (.reg (.op (some 216) (.bin .eql .num (.t 33) (.c (.int .i64 23))) (
  .op (some 215) (.mv (.t 216)) (
  .done)))) (
  .cond (.t 215) (some ⟨[8, 9, 10, 11, 12, 14], []⟩) (.seq (.reg (.op (some 8) (.mv (.c (.bool true))) (
  .done))) (
  .reg (.op (some 217) (.mv (.t 5)) (
  .op (some 218) (.bin .eql .num (.t 217) (.c (.int .i64 0))) (
  .op (some 12) (.mv (.t 218)) (
  .done)))))) (.seq (.reg (.op (some 220) (.bin .eql .num (.t 33) (.c (.int .i64 24))) (
  .op (some 219) (.mv (.t 220)) (
  .done)))) (
  .cond (.t 219) (some ⟨[9, 10, 11, 12, 14], []⟩) (.seq (.reg (.op (some 9) (.mv (.c (.bool true))) (
  .done))) (
  .reg (.op (some 221) (.mv (.t 5)) (
  .op (some 222) (.bin .eql .num (.t 221) (.c (.int .i64 0))) (
  .op (some 223) (.mv (.t 222)) (
  .dia 223 (
  .gop 223 true (some 224) (.fadd 6 (.t 2)) (
  .gop 223 true (some 225) (.load false 1 (.t 224)) (
  .gop 223 true (some 226) (.fadd 6 (.t 2)) (
  .gop 223 true (some 227) (.load false 1 (.t 226)) (
  .gop 223 true (some 228) (.bin .eql .num (.t 225) (.t 227)) (
  .done)))))) 229 (.t 223) (.t 228) (.c (.bool false)) none (
  .op (some 12) (.mv (.t 229)) (
  .done)))))))) (.seq (.reg (.op (some 231) (.bin .eql .num (.t 33) (.c (.int .i64 25))) (
  .op (some 230) (.mv (.t 231)) (
  .done)))) (
  .cond (.t 230) (some ⟨[10, 11, 12, 14], []⟩) (.seq (.reg (.op (some 10) (.mv (.c (.bool true))) (
  .done))) (
  .reg (.op (some 232) (.mv (.t 5)) (
  .op (some 233) (.bin .eql .num (.t 232) (.c (.int .i64 0))) (
  .op (some 234) (.mv (.t 233)) (
  .dia 234 (
  .gop 234 true (some 235) (.fadd 7 (.t 2)) (
  .gop 234 true (some 236) (.load false 1 (.t 235)) (
  .gop 234 true (some 237) (.len .str (.t 236)) (
  .gop 234 true (some 238) (.bin .leq .num (.t 237) (.c (.int .i64 4000))) (
  .done))))) 239 (.t 234) (.t 238) (.c (.bool false)) none (
  .op (some 12) (.mv (.t 239)) (
  .done)))))))) (.seq (.reg (.op (some 241) (.bin .eql .num (.t 33) (.c (.int .i64 26))) (
  .op (some 240) (.mv (.t 241)) (
  .done)))) (
  .cond (.t 240) (some ⟨[10, 11, 12, 14], []⟩) (.seq (.reg (.op (some 10) (.mv (.c (.bool true))) (
  .done))) (
  .reg (.op (some 242) (.mv (.t 5)) (
  .op (some 243) (.bin .eql .num (.t 242) (.c (.int .i64 0))) (
  .op (some 244) (.mv (.t 243)) (
  .dia 244 (
  .gop 244 true (some 245) (.fadd 7 (.t 2)) (
  .gop 244 true (some 246) (.load false 1 (.t 245)) (
  .gop 244 true (some 247) (.callV 27 [(.t 246)]) (
  .done)))) 248 (.t 244) (.t 247) (.c (.bool false)) none (
  .op (some 12) (.mv (.t 248)) (
  .done)))))))) (.seq (.seq (.reg (.op (some 250) (.bin .eql .num (.t 33) (.c (.int .i64 28))) (
  .op (some 249) (.mv (.t 250)) (
  .done)))) (
  .cond (.t 249) (some ⟨[249], []⟩) (.skip) (.reg (.op (some 251) (.bin .eql .num (.t 33) (.c (.int .i64 29))) (
  .op (some 249) (.mv (.t 251)) (
  .done)))))) (
  .cond (.t 249) (some ⟨[10, 11, 12, 14], []⟩) (.reg (.op (some 252) (.mv (.t 5)) (
  .op (some 253) (.bin .eql .num (.t 252) (.c (.int .i64 2))) (
  .op (some 254) (.mv (.t 253)) (
  .dia 254 (
  .gop 254 true (some 255) (.mv (.t 6)) (
  .gop 254 true (some 256) (.callD (.t 255) [(.c (.func 24 [] [])), (.c (.int .i64 0)), (.c (.int .i64 2))]) (
  .done))) 257 (.t 254) (.t 256) (.c (.bool false)) none (
  .op (some 12) (.mv (.t 257)) (
  .done))))))) (.seq (.reg (.op (some 259) (.bin .eql .num (.t 33) (.c (.int .i64 30))) (
  .op (some 258) (.mv (.t 259)) (
  .done)))) (
  .cond (.t 258) (some ⟨[10, 11, 12, 14], []⟩) (.seq (.reg (.op (some 11) (.mv (.c (.bool true))) (
  .done))) (
  .reg (.op (some 260) (.mv (.t 5)) (
  .op (some 261) (.bin .eql .num (.t 260) (.c (.int .i64 1))) (
  .op (some 262) (.mv (.t 261)) (
  .dia 262 (
  .gop 262 true (some 263) (.load false 1 (.t 3)) (
  .gop 262 true (some 264) (.idx 1 (.t 263) (.c (.int .i64 0))) (
  .gop 262 true (some 265) (.load false 1 (.t 264)) (
  .gop 262 true (some 266) (.callV 24 [(.t 265)]) (
  .done))))) 267 (.t 262) (.t 266) (.c (.bool false)) none (
  .op (some 268) (.mv (.t 267)) (
  .dia 268 (
  .gop 268 true (some 269) (.fadd 4 (.t 2)) (
  .gop 268 true (some 270) (.load false 1 (.t 269)) (
  .gop 268 true (some 271) (.bin .geq .num (.t 270) (.c (.int .i64 19))) (
  .done)))) 272 (.t 268) (.t 271) (.c (.bool false)) none (
  .op (some 273) (.mv (.t 272)) (
  .dia 273 (
  .gop 273 true (some 274) (.fadd 4 (.t 2)) (
  .gop 273 true (some 275) (.load false 1 (.t 274)) (
  .gop 273 true (some 276) (.bin .leq .num (.t 275) (.c (.int .i64 22))) (
  .done)))) 277 (.t 273) (.t 276) (.c (.bool false)) none (
  .op (some 12) (.mv (.t 277)) (
  .done)))))))))))) (.seq (.reg (.op (some 279) (.bin .eql .num (.t 33) (.c (.int .i64 31))) (
  .op (some 278) (.mv (.t 279)) (
  .done)))) (
  .cond (.t 278) (some ⟨[10, 11, 12, 14], []⟩) (.seq (.reg (.op (some 11) (.mv (.c (.bool true))) (
  .done))) (
  .reg (.op (some 280) (.mv (.t 5)) (
  .op (some 281) (.bin .eql .num (.t 280) (.c (.int .i64 2))) (
  .op (some 282) (.mv (.t 281)) (
  .dia 282 (
  .gop 282 true (some 283) (.mv (.t 6)) (
  .gop 282 true (some 284) (.callD (.t 283) [(.c (.func 24 [] [])), (.c (.int .i64 0)), (.c (.int .i64 2))]) (
  .done))) 285 (.t 282) (.t 284) (.c (.bool false)) none (
  .op (some 286) (.mv (.t 285)) (
  .dia 286 (
  .gop 286 true (some 287) (.fadd 4 (.t 2)) (
  .gop 286 true (some 288) (.load false 1 (.t 287)) (
  .gop 286 true (some 289) (.bin .geq .num (.t 288) (.c (.int .i64 1))) (
  .done)))) 290 (.t 286) (.t 289) (.c (.bool false)) none (
  .op (some 291) (.mv (.t 290)) (
  .dia 291 (
  .gop 291 true (some 292) (.fadd 4 (.t 2)) (
  .gop 291 true (some 293) (.load false 1 (.t 292)) (
  .gop 291 true (some 294) (.bin .leq .num (.t 293) (.c (.int .i64 18))) (
  .done)))) 295 (.t 291) (.t 294) (.c (.bool false)) none (
  .op (some 12) (.mv (.t 295)) (
  .done)))))))))))) (.seq (.reg (.op (some 297) (.bin .eql .num (.t 33) (.c (.int .i64 32))) (
  .op (some 296) (.mv (.t 297)) (
  .done)))) (
  .cond (.t 296) (some ⟨[10, 11, 12, 14], []⟩) (.reg (.op (some 298) (.mv (.t 5)) (
  .op (some 299) (.bin .eql .num (.t 298) (.c (.int .i64 2))) (
  .op (some 300) (.mv (.t 299)) (
  .dia 300 (
  .gop 300 true (some 301) (.mv (.t 15)) (
  .gop 300 true (some 302) (.load false 1 (.t 3)) (
  .gop 300 true (some 303) (.idx 1 (.t 302) (.c (.int .i64 0))) (
  .gop 300 true (some 304) (.load false 1 (.t 303)) (
  .gop 300 true (some 305) (.callD (.t 301) [(.t 304)]) (
  .done)))))) 306 (.t 300) (.t 305) (.c (.bool false)) none (
  .op (some 307) (.mv (.t 306)) (
  .dia 307 (
  .gop 307 true (some 308) (.load false 1 (.t 3)) (
  .gop 307 true (some 309) (.idx 1 (.t 308) (.c (.int .i64 1))) (
  .gop 307 true (some 310) (.load false 1 (.t 309)) (
  .gop 307 true (some 311) (.callV 24 [(.t 310)]) (
  .done))))) 312 (.t 307) (.t 311) (.c (.bool false)) none (
  .op (some 12) (.mv (.t 312)) (
  .done))))))))) (.seq (.reg (.op (some 314) (.bin .eql .num (.t 33) (.c (.int .i64 33))) (
  .op (some 313) (.mv (.t 314)) (
  .done)))) (
  .cond (.t 313) (some ⟨[10, 11, 12, 14], []⟩) (.seq (.reg (.op (some 10) (.mv (.c (.bool true))) (
  .done))) (
  .reg (.op (some 315) (.mv (.t 5)) (
  .op (some 316) (.bin .eql .num (.t 315) (.c (.int .i64 1))) (
  .op (some 317) (.mv (.t 316)) (
  .dia 317 (
  .gop 317 true (some 318) (.mv (.t 15)) (
  .gop 317 true (some 319) (.load false 1 (.t 3)) (
  .gop 317 true (some 320) (.idx 1 (.t 319) (.c (.int .i64 0))) (
  .gop 317 true (some 321) (.load false 1 (.t 320)) (
  .gop 317 true (some 322) (.callD (.t 318) [(.t 321)]) (
  .done)))))) 323 (.t 317) (.t 322) (.c (.bool false)) none (
  .op (some 324) (.mv (.t 323)) (
  .dia 324 (
  .gop 324 true (some 325) (.fadd 7 (.t 2)) (
  .gop 324 true (some 326) (.load false 1 (.t 325)) (
  .gop 324 true (some 327) (.callV 27 [(.t 326)]) (
  .done)))) 328 (.t 324) (.t 327) (.c (.bool false)) none (
  .op (some 12) (.mv (.t 328)) (
  .done)))))))))) (.seq (.reg (.op (some 330) (.bin .eql .num (.t 33) (.c (.int .i64 34))) (
  .op (some 329) (.mv (.t 330)) (
  .done)))) (
  .cond (.t 329) (some ⟨[10, 11, 12, 14], []⟩) (.reg (.op (some 331) (.mv (.t 5)) (
  .op (some 332) (.bin .geq .num (.t 331) (.c (.int .i64 1))) (
  .op (some 333) (.mv (.t 332)) (
  .dia 333 (
  .gop 333 true (some 334) (.mv (.t 15)) (
  .gop 333 true (some 335) (.load false 1 (.t 3)) (
  .gop 333 true (some 336) (.idx 1 (.t 335) (.c (.int .i64 0))) (
  .gop 333 true (some 337) (.load false 1 (.t 336)) (
  .gop 333 true (some 338) (.callD (.t 334) [(.t 337)]) (
  .done)))))) 339 (.t 333) (.t 338) (.c (.bool false)) none (
  .op (some 340) (.mv (.t 339)) (
  .dia 340 (
  .gop 340 true (some 341) (.mv (.t 6)) (
  .gop 340 true (some 342) (.mv (.t 5)) (
  .gop 340 true (some 343) (.callD (.t 341) [(.c (.func 24 [] [])), (.c (.int .i64 1)), (.t 342)]) (
  .done)))) 344 (.t 340) (.t 343) (.c (.bool false)) none (
  .op (some 12) (.mv (.t 344)) (
  .done))))))))) (.seq (.reg (.op (some 346) (.bin .eql .num (.t 33) (.c (.int .i64 35))) (
  .op (some 345) (.mv (.t 346)) (
  .done)))) (
  .cond (.t 345) (some ⟨[10, 11, 12, 14], []⟩) (.reg (.op (some 347) (.mv (.t 6)) (
  .op (some 348) (.mv (.t 5)) (
  .op (some 349) (.callD (.t 347) [(.c (.func 28 [] [])), (.c (.int .i64 0)), (.t 348)]) (
  .op (some 12) (.mv (.t 349)) (
  .done)))))) (.seq (.reg (.op (some 351) (.bin .eql .num (.t 33) (.c (.int .i64 36))) (
  .op (some 350) (.mv (.t 351)) (
  .done)))) (
  .cond (.t 350) (some ⟨[10, 11, 12, 14], []⟩) (.seq (.reg (.op (some 11) (.mv (.c (.bool true))) (
  .done))) (
  .seq (.reg (.op (some 14) (.mv (.c (.int .i64 9223372036854775807))) (
  .done))) (
  .reg (.op (some 352) (.mv (.t 5)) (
  .op (some 353) (.bin .eql .num (.t 352) (.c (.int .i64 1))) (
  .op (some 354) (.mv (.t 353)) (
  .dia 354 (
  .gop 354 true (some 355) (.mv (.t 7)) (
  .gop 354 true (some 356) (.pslice 1 [(.int .i64 0)] 1 [(0, false, (.c (.int .i64 1)))]) (
  .gop 354 true (some 357) (.callD (.t 355) [(.c (.int .i64 0)), (.t 356)]) (
  .done)))) 358 (.t 354) (.t 357) (.c (.bool false)) none (
  .op (some 359) (.mv (.t 358)) (
  .dia 359 (
  .gop 359 true (some 360) (.fadd 4 (.t 2)) (
  .gop 359 true (some 361) (.load false 1 (.t 360)) (
  .gop 359 true (some 362) (.bin .eql .num (.t 361) (.c (.int .i64 0))) (
  .gop 359 true (some 363) (.mv (.t 362)) (
  .dia 363 (
  .gop 363 false (some 364) (.fadd 4 (.t 2)) (
  .gop 363 false (some 365) (.load false 1 (.t 364)) (
  .gop 363 false (some 366) (.bin .eql .num (.t 365) (.c (.int .i64 1))) (
  .done)))) 367 (.t 363) (.c (.bool true)) (.t 366) (some (359, true)) (
  .done)))))) 368 (.t 359) (.t 367) (.c (.bool false)) none (
  .op (some 12) (.mv (.t 368)) (
  .done))))))))))) (.seq (.reg (.op (some 370) (.bin .eql .num (.t 33) (.c (.int .i64 37))) (
  .op (some 369) (.mv (.t 370)) (
  .done)))) (
  .cond (.t 369) (some ⟨[10, 12], []⟩) (.reg (.op (some 371) (.mv (.t 5)) (
  .op (some 372) (.bin .eql .num (.t 371) (.c (.int .i64 1))) (
  .op (some 373) (.mv (.t 372)) (
  .dia 373 (
  .gop 373 true (some 374) (.mv (.t 7)) (
  .gop 373 true (some 375) (.pslice 1 [(.int .i64 0)] 2 [(0, false, (.c (.int .i64 34))), (1, false, (.c (.int .i64 27)))]) (
  .gop 373 true (some 376) (.callD (.t 374) [(.c (.int .i64 0)), (.t 375)]) (
  .done)))) 377 (.t 373) (.t 376) (.c (.bool false)) none (
  .op (some 12) (.mv (.t 377)) (
  .done))))))) (.seq (.reg (.op (some 379) (.bin .eql .num (.t 33) (.c (.int .i64 40))) (
  .op (some 378) (.mv (.t 379)) (
  .done)))) (
  .cond (.t 378) (some ⟨[10, 12], []⟩) (.reg (.op (some 380) (.mv (.t 5)) (
  .op (some 381) (.bin .eql .num (.t 380) (.c (.int .i64 1))) (
  .op (some 382) (.mv (.t 381)) (
  .dia 382 (
  .gop 382 true (some 383) (.load false 1 (.t 3)) (
  .gop 382 true (some 384) (.idx 1 (.t 383) (.c (.int .i64 0))) (
  .gop 382 true (some 385) (.load false 1 (.t 384)) (
  .gop 382 true (some 386) (.callV 24 [(.t 385)]) (
  .done))))) 387 (.t 382) (.t 386) (.c (.bool false)) none (
  .op (some 12) (.mv (.t 387)) (
  .done))))))) (.seq (.reg (.op (some 389) (.bin .eql .num (.t 33) (.c (.int .i64 41))) (
  .op (some 388) (.mv (.t 389)) (
  .done)))) (
  .cond (.t 388) (some ⟨[10, 12], []⟩) (.reg (.op (some 390) (.mv (.t 5)) (
  .op (some 391) (.bin .eql .num (.t 390) (.c (.int .i64 2))) (
  .op (some 392) (.mv (.t 391)) (
  .dia 392 (
  .gop 392 true (some 393) (.mv (.t 6)) (
  .gop 392 true (some 394) (.callD (.t 393) [(.c (.func 24 [] [])), (.c (.int .i64 0)), (.c (.int .i64 2))]) (
  .done))) 395 (.t 392) (.t 394) (.c (.bool false)) none (
  .op (some 12) (.mv (.t 395)) (
  .done))))))) (.seq (.reg (.op (some 397) (.bin .eql .num (.t 33) (.c (.int .i64 42))) (
  .op (some 396) (.mv (.t 397)) (
  .done)))) (
  .cond (.t 396) (some ⟨[10, 12], []⟩) (.seq (.reg (.op (some 10) (.mv (.c (.bool true))) (
  .done))) (
  .reg (.op (some 398) (.mv (.t 5)) (
  .op (some 399) (.bin .eql .num (.t 398) (.c (.int .i64 1))) (
  .op (some 400) (.mv (.t 399)) (
  .dia 400 (
  .gop 400 true (some 401) (.load false 1 (.t 3)) (
  .gop 400 true (some 402) (.idx 1 (.t 401) (.c (.int .i64 0))) (
  .gop 400 true (some 403) (.load false 1 (.t 402)) (
  .gop 400 true (some 404) (.callV 24 [(.t 403)]) (
  .done))))) 405 (.t 400) (.t 404) (.c (.bool false)) none (
  .op (some 406) (.mv (.t 405)) (
  .dia 406 (
  .gop 406 true (some 407) (.fadd 7 (.t 2)) (
  .gop 406 true (some 408) (.load false 1 (.t 407)) (
  .gop 406 true (some 409) (.callV 27 [(.t 408)]) (
  .done)))) 410 (.t 406) (.t 409) (.c (.bool false)) none (
  .op (some 12) (.mv (.t 410)) (
  .done)))))))))) (.skip))))))))))))))))))))))))))))))))))))))))))))))))))))))))))))))))) (
  .seq (.seq (.reg (.op (some 411) (.mv (.t 12)) (
  .op (some 412) (.un .not (.t 411)) (
  .op (some 413) (.mv (.t 412)) (
  .dia 413 (
  .gop 413 false (some 414) (.fadd 8 (.t 2)) (
  .gop 413 false (some 415) (.load false 1 (.t 414)) (
  .gop 413 false (some 416) (.len .sl (.t 415)) (
  .gop 413 false (some 417) (.mv (.t 13)) (
  .gop 413 false (some 418) (.bin .lss .num (.t 416) (.t 417)) (
  .done)))))) 419 (.t 413) (.c (.bool true)) (.t 418) none (
  .op (some 420) (.mv (.t 419)) (
  .dia 420 (
  .gop 420 false (some 421) (.fadd 8 (.t 2)) (
  .gop 420 false (some 422) (.load false 1 (.t 421)) (
  .gop 420 false (some 423) (.len .sl (.t 422)) (
  .gop 420 false (some 424) (.mv (.t 14)) (
  .gop 420 false (some 425) (.bin .gtr .num (.t 423) (.t 424)) (
  .done)))))) 426 (.t 420) (.c (.bool true)) (.t 425) none (
  .done)))))))) (
  .cond (.t 426) none (.seq (.reg (.op (some 4) (.mv (.c (.bool false))) (
  .done))) (
  .ret)) (.skip))) (
  .seq (.seq (.reg (.op (some 427) (.fadd 8 (.t 2)) (
  .op (some 428) (.load false 1 (.t 427)) (
  .op (some 429) (.len .sl (.t 428)) (
  .op (some 430) (.mv (.c (.int .i64 0))) (
  .done)))))) (
  .block 1 (some ⟨[], []⟩) (
  .loop ⟨[430], []⟩ (
  .seq (.reg (.op (some 431) (.bin .lss .num (.t 430) (.t 429)) (
  .done))) (
  .seq (.cond (.t 431) none (.skip) (.exit 1)) (
  .seq (.block 2 none (
  .seq (.reg (.op (some 432) (.idx 1 (.t 428) (.t 430)) (
  .op (some 433) (.load false 1 (.t 432)) (
  .op (some 18) (.mv (.t 433)) (
  .done))))) (
  .seq (.reg (.op (some 434) (.mv (.t 18)) (
  .op (some 435) (.callV 27 [(.t 434)]) (
  .op (some 436) (.un .not (.t 435)) (
  .done))))) (
  .cond (.t 436) none (.seq (.reg (.op (some 4) (.mv (.c (.bool false))) (
  .done))) (
  .ret)) (.skip))))) (
  .reg (.op (some 437) (.bin .add .num (.t 430) (.c (.int .i64 1))) (
  .op (some 430) (.mv (.t 437)) (
  .done)))))))))) (
  .seq (.reg (.op (some 19) (.mv (.c (.int .i64 0))) (
  .done))) (
  .seq (.seq (.reg (.op (some 438) (.fadd 0 (.t 2)) (
  .op (some 439) (.load false 1 (.t 438)) (
  .op (some 440) (.callV 25 [(.t 439)]) (
  .done))))) (
  .cond (.t 440) (some ⟨[19], []⟩) (.reg (.op (some 19) (.mv (.c (.int .i64 1))) (
  .done))) (.skip))) (
  .seq (.seq (.reg (.op (some 441) (.fadd 1 (.t 2)) (
  .op (some 442) (.load false 1 (.t 441)) (
  .op (some 443) (.bin .lss .num (.t 442) (.c (.int .i64 0))) (
  .op (some 444) (.mv (.t 443)) (
  .dia 444 (
  .gop 444 false (some 445) (.fadd 2 (.t 2)) (
  .gop 444 false (some 446) (.load false 1 (.t 445)) (
  .gop 444 false (some 447) (.fadd 1 (.t 2)) (
  .gop 444 false (some 448) (.load false 1 (.t 447)) (
  .gop 444 false (some 449) (.bin .lss .num (.t 446) (.t 448)) (
  .done)))))) 450 (.t 444) (.c (.bool true)) (.t 449) none (
  .op (some 451) (.mv (.t 450)) (
  .dia 451 (
  .gop 451 false (some 452) (.fadd 3 (.t 2)) (
  .gop 451 false (some 453) (.load false 1 (.t 452)) (
  .gop 451 false (some 454) (.mv (.t 19)) (
  .gop 451 false (some 455) (.bin .lss .num (.t 453) (.t 454)) (
  .done))))) 456 (.t 451) (.c (.bool true)) (.t 455) none (
  .op (some 457) (.mv (.t 456)) (
  .dia 457 (
  .gop 457 false (some 458) (.fadd 3 (.t 2)) (
  .gop 457 false (some 459) (.load false 1 (.t 458)) (
  .gop 457 false (some 460) (.bin .gtr .num (.t 459) (.c (.int .i64 100000))) (
  .done)))) 461 (.t 457) (.c (.bool true)) (.t 460) none (
  .done))))))))))) (
  .cond (.t 461) none (.seq (.reg (.op (some 4) (.mv (.c (.bool false))) (
  .done))) (
  .ret)) (.skip))) (
  .seq (.reg (.op (some 462) (.mv (.t 8)) (
  .op (some 463) (.mv (.t 462)) (
  .dia 463 (
  .gop 463 false (some 464) (.fadd 5 (.t 2)) (
  .gop 463 false (some 465) (.load false 1 (.t 464)) (
  .gop 463 false (some 466) (.bin .eql .num (.t 465) (.c (.int .i64 0))) (
  .done)))) 467 (.t 463) (.c (.bool true)) (.t 466) none (
  .op (some 468) (.mv (.t 467)) (
  .dia 468 (
  .gop 468 true (some 469) (.mv (.t 9)) (
  .gop 468 true (some 470) (.mv (.t 469)) (
  .dia 470 (
  .gop 470 false (some 471) (.fadd 6 (.t 2)) (
  .gop 470 false (some 472) (.load false 1 (.t 471)) (
  .gop 470 false (some 473) (.bin .eql .num (.t 472) (.c (.flt 0))) (
  .done)))) 474 (.t 470) (.c (.bool true)) (.t 473) (some (468, true)) (
  .done)))) 475 (.t 468) (.t 474) (.c (.bool false)) none (
  .op (some 476) (.mv (.t 475)) (
  .dia 476 (
  .gop 476 true (some 477) (.mv (.t 10)) (
  .gop 476 true (some 478) (.mv (.t 477)) (
  .dia 478 (
  .gop 478 false (some 479) (.fadd 7 (.t 2)) (
  .gop 478 false (some 480) (.load false 1 (.t 479)) (
  .gop 478 false (some 481) (.bin .eql .num (.t 480) (.c (.str ⟨#[]⟩))) (
  .done)))) 482 (.t 478) (.c (.bool true)) (.t 481) (some (476, true)) (
  .done)))) 483 (.t 476) (.t 482) (.c (.bool false)) none (
  .op (some 484) (.mv (.t 483)) (
  .dia 484 (
  .gop 484 true (some 485) (.mv (.t 11)) (
  .gop 484 true (some 486) (.mv (.t 485)) (
  .dia 486 (
  .gop 486 false (some 487) (.fadd 4 (.t 2)) (
  .gop 486 false (some 488) (.load false 1 (.t 487)) (
  .gop 486 false (some 489) (.bin .eql .num (.t 488) (.c (.int .i64 0))) (
  .done)))) 490 (.t 486) (.c (.bool true)) (.t 489) (some (484, true)) (
  .done)))) 491 (.t 484) (.t 490) (.c (.bool false)) none (
  .op (some 4) (.mv (.t 491)) (
  .done)))))))))))) (
  .ret))))))))))))))))⟩
noncomputable def lp_impl_partShape_1 (D : Ctx) (t_26 : AV) (t_25 : AV) (k_28 : Cur 0) : Cur 1 → Cur 1 :=
  fun go_83 t_81 s_82 =>
  (bin .lss .num t_81 t_26).bind fun t_84 =>
  aCase t_84
  ((idx 1 t_25 t_81).bind fun t_85 =>
  (rd1 D.G t_85 s_82).bind fun t_86 =>
  (callV D 27 [t_86] s_82).bind fun t_87 =>
  (un .not t_87).bind fun t_88 =>
  aCase t_88
  (some ((.bool false), s_82))
  ((bin .add .num t_81 (.int .i64 1)).bind fun t_89 =>
  go_83 t_89 s_82))
  (k_28  s_82)
theorem lp_impl_partShape_1_le {D : Ctx} (t_26 : AV) (t_25 : AV) (k_28 : Cur 0) {k_28' : Cur 0} (hk_28 : Cle k_28 k_28') {u u' : Cur 1} (h : Cle u u') : Cle (lp_impl_partShape_1 D t_26 t_25 k_28 u) (lp_impl_partShape_1 D t_26 t_25 k_28' u') := by
  unfold lp_impl_partShape_1
  repeat (first
    | with_reducible refine Ole.bindr fun _ => ?_
    | with_reducible refine Ole.aCase ?_ ?_
    | refine Ole.jn ?_ (fun _ _ _ => ?_)
    | refine Cle.succ fun _ => ?_
    | refine Cle.zero fun _ => ?_
    | exact Cle.use0 (by assumption)
    | exact Cle.use1 (by assumption)
    | with_reducible exact Ole.refl _)
theorem lp_impl_partShape_1_mono (D : Ctx) (t_26 : AV) (t_25 : AV) (k_28 : Cur 0) : Mono (lp_impl_partShape_1 D t_26 t_25 k_28) := fun _ _ h => lp_impl_partShape_1_le t_26 t_25 k_28 (Cle.refl _) h
noncomputable def jk_impl_partShape_1 (D : Ctx) (k_540 : Cur 4) : Cur 4 :=
  fun txt_543 op_544 ok_545 maxN_546 s_547 =>
  k_540 txt_543 op_544 ok_545 maxN_546 s_547
noncomputable def jk_impl_partShape_2 (D : Ctx) (k_521 : Cur 4) : Cur 4 :=
  fun txt_535 op_536 ok_537 maxN_538 s_539 =>
  k_521 txt_535 op_536 ok_537 maxN_538 s_539
noncomputable def jk_impl_partShape_3 (D : Ctx) (k_501 : Cur 4) : Cur 4 :=
  fun txt_516 op_517 ok_518 maxN_519 s_520 =>
  k_501 txt_516 op_517 ok_518 maxN_519 s_520
noncomputable def jk_impl_partShape_4 (D : Ctx) (k_479 : Cur 4) : Cur 4 :=
  fun txt_496 op_497 ok_498 maxN_499 s_500 =>
  k_479 txt_496 op_497 ok_498 maxN_499 s_500
noncomputable def jk_impl_partShape_5 (D : Ctx) (k_457 : Cur 4) : Cur 4 :=
  fun txt_474 op_475 ok_476 maxN_477 s_478 =>
  k_457 txt_474 op_475 ok_476 maxN_477 s_478
noncomputable def jk_impl_partShape_6 (D : Ctx) (k_432 : Cur 4) : Cur 4 :=
  fun txt_452 op_453 ok_454 maxN_455 s_456 =>
  k_432 txt_452 op_453 ok_454 maxN_455 s_456
noncomputable def jk_impl_partShape_7 (D : Ctx) (k_420 : Cur 4) : Cur 4 :=
  fun txt_427 op_428 ok_429 maxN_430 s_431 =>
  k_420 txt_427 op_428 ok_429 maxN_430 s_431
noncomputable def jk_impl_partShape_8 (D : Ctx) (k_404 : Cur 4) : Cur 4 :=
  fun txt_415 op_416 ok_417 maxN_418 s_419 =>
  k_404 txt_415 op_416 ok_417 maxN_418 s_419
noncomputable def jk_impl_partShape_9 (D : Ctx) (k_390 : Cur 4) : Cur 4 :=
  fun txt_399 op_400 ok_401 maxN_402 s_403 =>
  k_390 txt_399 op_400 ok_401 maxN_402 s_403
noncomputable def jk_impl_partShape_10 (D : Ctx) (k_376 : Cur 5) : Cur 4 :=
  fun txt_385 op_386 ok_387 maxN_388 s_389 =>
  k_376 (.bool false) txt_385 op_386 ok_387 maxN_388 s_389
noncomputable def jk_impl_partShape_11 (D : Ctx) (k_367 : Cur 6) : Cur 5 :=
  fun flt_370 txt_371 op_372 ok_373 maxN_374 s_375 =>
  k_367 (.bool false) flt_370 txt_371 op_372 ok_373 maxN_374 s_375
noncomputable def jk_impl_partShape_12 (D : Ctx) (k_357 : Cur 6) : Cur 6 :=
  fun num_360 flt_361 txt_362 op_363 ok_364 maxN_365 s_366 =>
  k_357 num_360 flt_361 txt_362 op_363 ok_364 maxN_365 s_366
noncomputable def jk_impl_partShape_13 (D : Ctx) (k_337 : Cur 6) : Cur 6 :=
  fun num_350 flt_351 txt_352 op_353 ok_354 maxN_355 s_356 =>
  k_337 num_350 flt_351 txt_352 op_353 ok_354 maxN_355 s_356
noncomputable def jk_impl_partShape_14 (D : Ctx) (k_319 : Cur 7) : Cur 6 :=
  fun num_330 flt_331 txt_332 op_333 ok_334 maxN_335 s_336 =>
  k_319 num_330 flt_331 txt_332 op_333 ok_334 (.int .i64 0) maxN_335 s_336
noncomputable def jk_impl_partShape_15 (D : Ctx) (k_308 : Cur 7) : Cur 7 :=
  fun num_311 flt_312 txt_313 op_314 ok_315 minN_316 maxN_317 s_318 =>
  k_308 num_311 flt_312 txt_313 op_314 ok_315 minN_316 maxN_317 s_318
noncomputable def jk_impl_partShape_16 (D : Ctx) (k_297 : Cur 7) : Cur 7 :=
  fun num_300 flt_301 txt_302 op_303 ok_304 minN_305 maxN_306 s_307 =>
  k_297 num_300 flt_301 txt_302 op_303 ok_304 minN_305 maxN_306 s_307
noncomputable def jk_impl_partShape_17 (D : Ctx) (k_272 : Cur 7) : Cur 7 :=
  fun num_289 flt_290 txt_291 op_292 ok_293 minN_294 maxN_295 s_296 =>
  k_272 num_289 flt_290 txt_291 op_292 ok_293 minN_294 maxN_295 s_296
noncomputable def jk_impl_partShape_18 (D : Ctx) (k_247 : Cur 7) : Cur 7 :=
  fun num_264 flt_265 txt_266 op_267 ok_268 minN_269 maxN_270 s_271 =>
  k_247 num_264 flt_265 txt_266 op_267 ok_268 minN_269 maxN_270 s_271
noncomputable def jk_impl_partShape_19 (D : Ctx) (k_225 : Cur 7) : Cur 7 :=
  fun num_239 flt_240 txt_241 op_242 ok_243 minN_244 maxN_245 s_246 =>
  k_225 num_239 flt_240 txt_241 op_242 ok_243 minN_244 maxN_245 s_246
noncomputable def jk_impl_partShape_20 (D : Ctx) (k_191 : Cur 7) : Cur 7 :=
  fun num_217 flt_218 txt_219 op_220 ok_221 minN_222 maxN_223 s_224 =>
  k_191 num_217 flt_218 txt_219 op_220 ok_221 minN_222 maxN_223 s_224
noncomputable def jk_impl_partShape_21 (D : Ctx) (k_176 : Cur 7) : Cur 7 :=
  fun num_183 flt_184 txt_185 op_186 ok_187 minN_188 maxN_189 s_190 =>
  k_176 num_183 flt_184 txt_185 op_186 ok_187 minN_188 maxN_189 s_190
noncomputable def jk_impl_partShape_22 (D : Ctx) (k_150 : Cur 7) : Cur 7 :=
  fun num_168 flt_169 txt_170 op_171 ok_172 minN_173 maxN_174 s_175 =>
  k_150 num_168 flt_169 txt_170 op_171 ok_172 minN_173 maxN_174 s_175
noncomputable def jk_impl_partShape_23 (D : Ctx) (k_135 : Cur 7) : Cur 7 :=
  fun num_142 flt_143 txt_144 op_145 ok_146 minN_147 maxN_148 s_149 =>
  k_135 num_142 flt_143 txt_144 op_145 ok_146 minN_147 maxN_148 s_149
noncomputable def jk_impl_partShape_24 (D : Ctx) (k_117 : Cur 7) : Cur 7 :=
  fun num_127 flt_128 txt_129 op_130 ok_131 minN_132 maxN_133 s_134 =>
  k_117 num_127 flt_128 txt_129 op_130 ok_131 minN_132 maxN_133 s_134
noncomputable def jk_impl_partShape_25 (D : Ctx) (k_106 : Cur 7) : Cur 7 :=
  fun num_109 flt_110 txt_111 op_112 ok_113 minN_114 maxN_115 s_116 =>
  k_106 num_109 flt_110 txt_111 op_112 ok_113 minN_114 maxN_115 s_116
noncomputable def jk_impl_partShape_26 (D : Ctx) (k_17 : Cur 7) : Cur 7 :=
  fun num_98 flt_99 txt_100 op_101 ok_102 minN_103 maxN_104 s_105 =>
  k_17 num_98 flt_99 txt_100 op_101 ok_102 minN_103 maxN_104 s_105
noncomputable def jk_impl_partShape_27 (D : Ctx) (a0 : AV) : Cur 7 :=
  fun num_9 flt_10 txt_11 op_12 ok_13 minN_14 maxN_15 s_16 =>
  (un .not ok_13).bind fun t_18 =>
  jn 1 (fun t_19 s_20 =>
  jn 1 (fun t_22 s_23 =>
  aCase t_22
  (some ((.bool false), s_23))
  ((rd1 D.G (.pptr (AV.cells a0) 8) s_23).bind fun t_25 =>
  (lenV .sl t_25 s_23).bind fun t_26 =>
  jn 0 (fun  s_27 =>
  (rd1 D.G (.pptr (AV.cells a0) 0) s_27).bind fun t_29 =>
  (callV D 25 [t_29] s_27).bind fun t_30 =>
  jn 1 (fun least_31 s_32 =>
  (rd1 D.G (.pptr (AV.cells a0) 1) s_32).bind fun t_34 =>
  (bin .lss .num t_34 (.int .i64 0)).bind fun t_35 =>
  jn 1 (fun t_36 s_37 =>
  jn 1 (fun t_39 s_40 =>
  jn 1 (fun t_42 s_43 =>
  aCase t_42
  (some ((.bool false), s_43))
  (jn 1 (fun t_45 s_46 =>
  jn 1 (fun t_48 s_49 =>
  jn 1 (fun t_51 s_52 =>
  jn 1 (fun t_54 s_55 =>
  some (t_54, s_55))
  (fun j_56 =>
  aCase t_51
  (jn 1 (fun t_57 s_58 =>
  j_56 t_57 s_58)
  (fun j_59 =>
  aCase op_12
  (j_59 (.bool true) s_52)
  ((rd1 D.G (.pptr (AV.cells a0) 4) s_52).bind fun t_60 =>
  (bin .eql .num t_60 (.int .i64 0)).bind fun t_61 =>
  j_59 t_61 s_52)))
  (j_56 (.bool false) s_52)))
  (fun j_53 =>
  aCase t_48
  (jn 1 (fun t_62 s_63 =>
  j_53 t_62 s_63)
  (fun j_64 =>
  aCase txt_11
  (j_64 (.bool true) s_49)
  ((rd1 D.G (.pptr (AV.cells a0) 7) s_49).bind fun t_65 =>
  (bin .eql .num t_65 (.str ⟨#[]⟩)).bind fun t_66 =>
  j_64 t_66 s_49)))
  (j_53 (.bool false) s_49)))
  (fun j_50 =>
  aCase t_45
  (jn 1 (fun t_67 s_68 =>
  j_50 t_67 s_68)
  (fun j_69 =>
  aCase flt_10
  (j_69 (.bool true) s_46)
  ((rd1 D.G (.pptr (AV.cells a0) 6) s_46).bind fun t_70 =>
  (bin .eql .num t_70 (.flt 0)).bind fun t_71 =>
  j_69 t_71 s_46)))
  (j_50 (.bool false) s_46)))
  (fun j_47 =>
  aCase num_9
  (j_47 (.bool true) s_43)
  ((rd1 D.G (.pptr (AV.cells a0) 5) s_43).bind fun t_72 =>
  (bin .eql .num t_72 (.int .i64 0)).bind fun t_73 =>
  j_47 t_73 s_43))))
  (fun j_44 =>
  aCase t_39
  (j_44 (.bool true) s_40)
  ((rd1 D.G (.pptr (AV.cells a0) 3) s_40).bind fun t_74 =>
  (bin .gtr .num t_74 (.int .i64 100000)).bind fun t_75 =>
  j_44 t_75 s_40)))
  (fun j_41 =>
  aCase t_36
  (j_41 (.bool true) s_37)
  ((rd1 D.G (.pptr (AV.cells a0) 3) s_37).bind fun t_76 =>
  (bin .lss .num t_76 least_31).bind fun t_77 =>
  j_41 t_77 s_37)))
  (fun j_38 =>
  aCase t_35
  (j_38 (.bool true) s_32)
  ((rd1 D.G (.pptr (AV.cells a0) 2) s_32).bind fun t_78 =>
  (rd1 D.G (.pptr (AV.cells a0) 1) s_32).bind fun t_79 =>
  (bin .lss .num t_78 t_79).bind fun t_80 =>
  j_38 t_80 s_32)))
  (fun k_33 =>
  aCase t_30
  (k_33 (.int .i64 1) s_27)
  (k_33 (.int .i64 0) s_27)))
  (fun k_28 =>
  lpFix 1 (lp_impl_partShape_1 D t_26 t_25 k_28) (.int .i64 0) s_23)))
  (fun j_24 =>
  aCase t_19
  (j_24 (.bool true) s_20)
  ((rd1 D.G (.pptr (AV.cells a0) 8) s_20).bind fun t_90 =>
  (lenV .sl t_90 s_20).bind fun t_91 =>
  (bin .gtr .num t_91 maxN_15).bind fun t_92 =>
  j_24 t_92 s_20)))
  (fun j_21 =>
  aCase t_18
  (j_21 (.bool true) s_16)
  ((rd1 D.G (.pptr (AV.cells a0) 8) s_16).bind fun t_93 =>
  (lenV .sl t_93 s_16).bind fun t_94 =>
  (bin .lss .num t_94 minN_14).bind fun t_95 =>
  j_21 t_95 s_16))
noncomputable def jb_impl_partShape_1 (D : Ctx) (k_404 : Cur 4) (t_2 : AV) (a1 : AV) (t_7 : AV) (a0 : AV) : Cur 1 :=
  fun t_412 s_413 =>
  jn 4 (jk_impl_partShape_8 D k_404)
  (fun k_420 =>
  aCase t_412
  ((bin .eql .num t_2 (.int .i64 2)).bind fun t_421 =>
  jn 1 (fun t_422 s_423 =>
  k_420 (.bool false) (.bool false) t_422 (.int .i64 0) s_423)
  (fun j_424 =>
  aCase t_421
  ((callD D (.func 21 [] [(.pptr (AV.cells a1) 0)]) [(.func 24 [] []), (.int .i64 0), (.int .i64 2)] s_413).bind fun t_425 =>
  j_424 t_425.1 t_425.2)
  (j_424 (.bool false) s_413)))
  ((bin .eql .num t_7 (.int .i64 30)).bind fun t_426 =>
  jn 4 (jk_impl_partShape_7 D k_420)
  (fun k_432 =>
  aCase t_426
  ((bin .eql .num t_2 (.int .i64 1)).bind fun t_433 =>
  jn 1 (fun t_434 s_435 =>
  jn 1 (fun t_437 s_438 =>
  jn 1 (fun t_440 s_441 =>
  k_432 (.bool false) (.bool true) t_440 (.int .i64 0) s_441)
  (fun j_442 =>
  aCase t_437
  ((rd1 D.G (.pptr (AV.cells a0) 4) s_438).bind fun t_443 =>
  (bin .leq .num t_443 (.int .i64 22)).bind fun t_444 =>
  j_442 t_444 s_438)
  (j_442 (.bool false) s_438)))
  (fun j_439 =>
  aCase t_434
  ((rd1 D.G (.pptr (AV.cells a0) 4) s_435).bind fun t_445 =>
  (bin .geq .num t_445 (.int .i64 19)).bind fun t_446 =>
  j_439 t_446 s_435)
  (j_439 (.bool false) s_435)))
  (fun j_436 =>
  aCase t_433
  ((rd1 D.G (.pptr (AV.cells a1) 0) s_413).bind fun t_447 =>
  (idx 1 t_447 (.int .i64 0)).bind fun t_448 =>
  (rd1 D.G t_448 s_413).bind fun t_449 =>
  (callV D 24 [t_449] s_413).bind fun t_450 =>
  j_436 t_450 s_413)
  (j_436 (.bool false) s_413)))
  ((bin .eql .num t_7 (.int .i64 31)).bind fun t_451 =>
  jn 4 (jk_impl_partShape_6 D k_432)
  (fun k_457 =>
  aCase t_451
  ((bin .eql .num t_2 (.int .i64 2)).bind fun t_458 =>
  jn 1 (fun t_459 s_460 =>
  jn 1 (fun t_462 s_463 =>
  jn 1 (fun t_465 s_466 =>
  k_457 (.bool false) (.bool true) t_465 (.int .i64 0) s_466)
  (fun j_467 =>
  aCase t_462
  ((rd1 D.G (.pptr (AV.cells a0) 4) s_463).bind fun t_468 =>
  (bin .leq .num t_468 (.int .i64 18)).bind fun t_469 =>
  j_467 t_469 s_463)
  (j_467 (.bool false) s_463)))
  (fun j_464 =>
  aCase t_459
  ((rd1 D.G (.pptr (AV.cells a0) 4) s_460).bind fun t_470 =>
  (bin .geq .num t_470 (.int .i64 1)).bind fun t_471 =>
  j_464 t_471 s_460)
  (j_464 (.bool false) s_460)))
  (fun j_461 =>
  aCase t_458
  ((callD D (.func 21 [] [(.pptr (AV.cells a1) 0)]) [(.func 24 [] []), (.int .i64 0), (.int .i64 2)] s_413).bind fun t_472 =>
  j_461 t_472.1 t_472.2)
  (j_461 (.bool false) s_413)))
  ((bin .eql .num t_7 (.int .i64 32)).bind fun t_473 =>
  jn 4 (jk_impl_partShape_5 D k_457)
  (fun k_479 =>
  aCase t_473
  ((bin .eql .num t_2 (.int .i64 2)).bind fun t_480 =>
  jn 1 (fun t_481 s_482 =>
  jn 1 (fun t_484 s_485 =>
  k_479 (.bool false) (.bool false) t_484 (.int .i64 0) s_485)
  (fun j_486 =>
  aCase t_481
  ((rd1 D.G (.pptr (AV.cells a1) 0) s_482).bind fun t_487 =>
  (idx 1 t_487 (.int .i64 1)).bind fun t_488 =>
  (rd1 D.G t_488 s_482).bind fun t_489 =>
  (callV D 24 [t_489] s_482).bind fun t_490 =>
  j_486 t_490 s_482)
  (j_486 (.bool false) s_482)))
  (fun j_483 =>
  aCase t_480
  ((rd1 D.G (.pptr (AV.cells a1) 0) s_413).bind fun t_491 =>
  (idx 1 t_491 (.int .i64 0)).bind fun t_492 =>
  (rd1 D.G t_492 s_413).bind fun t_493 =>
  (callD D (.func 23 [] []) [t_493] s_413).bind fun t_494 =>
  j_483 t_494.1 t_494.2)
  (j_483 (.bool false) s_413)))
  ((bin .eql .num t_7 (.int .i64 33)).bind fun t_495 =>
  jn 4 (jk_impl_partShape_4 D k_479)
  (fun k_501 =>
  aCase t_495
  ((bin .eql .num t_2 (.int .i64 1)).bind fun t_502 =>
  jn 1 (fun t_503 s_504 =>
  jn 1 (fun t_506 s_507 =>
  k_501 (.bool true) (.bool false) t_506 (.int .i64 0) s_507)
  (fun j_508 =>
  aCase t_503
  ((rd1 D.G (.pptr (AV.cells a0) 7) s_504).bind fun t_509 =>
  (callV D 27 [t_509] s_504).bind fun t_510 =>
  j_508 t_510 s_504)
  (j_508 (.bool false) s_504)))
  (fun j_505 =>
  aCase t_502
  ((rd1 D.G (.pptr (AV.cells a1) 0) s_413).bind fun t_511 =>
  (idx 1 t_511 (.int .i64 0)).bind fun t_512 =>
  (rd1 D.G t_512 s_413).bind fun t_513 =>
  (callD D (.func 23 [] []) [t_513] s_413).bind fun t_514 =>
  j_505 t_514.1 t_514.2)
  (j_505 (.bool false) s_413)))
  ((bin .eql .num t_7 (.int .i64 34)).bind fun t_515 =>
  jn 4 (jk_impl_partShape_3 D k_501)
  (fun k_521 =>
  aCase t_515
  ((bin .geq .num t_2 (.int .i64 1)).bind fun t_522 =>
  jn 1 (fun t_523 s_524 =>
  jn 1 (fun t_526 s_527 =>
  k_521 (.bool false) (.bool false) t_526 (.int .i64 0) s_527)
  (fun j_528 =>
  aCase t_523
  ((callD D (.func 21 [] [(.pptr (AV.cells a1) 0)]) [(.func 24 [] []), (.int .i64 1), t_2] s_524).bind fun t_529 =>
  j_528 t_529.1 t_529.2)
  (j_528 (.bool false) s_524)))
  (fun j_525 =>
  aCase t_522
  ((rd1 D.G (.pptr (AV.cells a1) 0) s_413).bind fun t_530 =>
  (idx 1 t_530 (.int .i64 0)).bind fun t_531 =>
  (rd1 D.G t_531 s_413).bind fun t_532 =>
  (callD D (.func 23 [] []) [t_532] s_413).bind fun t_533 =>
  j_525 t_533.1 t_533.2)
  (j_525 (.bool false) s_413)))
  ((bin .eql .num t_7 (.int .i64 35)).bind fun t_534 =>
  jn 4 (jk_impl_partShape_2 D k_521)
  (fun k_540 =>
  aCase t_534
  ((callD D (.func 21 [] [(.pptr (AV.cells a1) 0)]) [(.func 28 [] []), (.int .i64 0), t_2] s_413).bind fun t_541 =>
  k_540 (.bool false) (.bool false) t_541.1 (.int .i64 0) t_541.2)
  ((bin .eql .num t_7 (.int .i64 36)).bind fun t_542 =>
  jn 4 (jk_impl_partShape_1 D k_540)
  (fun k_548 =>
  aCase t_542
  ((bin .eql .num t_2 (.int .i64 1)).bind fun t_549 =>
  jn 1 (fun t_550 s_551 =>
  jn 1 (fun t_553 s_554 =>
  k_548 (.bool false) (.bool true) t_553 (.int .i64 9223372036854775807) s_554)
  (fun j_555 =>
  aCase t_550
  ((rd1 D.G (.pptr (AV.cells a0) 4) s_551).bind fun t_556 =>
  (bin .eql .num t_556 (.int .i64 0)).bind fun t_557 =>
  jn 1 (fun t_558 s_559 =>
  j_555 t_558 s_559)
  (fun j_560 =>
  aCase t_557
  (j_560 (.bool true) s_551)
  ((rd1 D.G (.pptr (AV.cells a0) 4) s_551).bind fun t_561 =>
  (bin .eql .num t_561 (.int .i64 1)).bind fun t_562 =>
  j_560 t_562 s_551)))
  (j_555 (.bool false) s_551)))
  (fun j_552 =>
  aCase t_549
  ((callD D (.func 22 [] [(.pptr (AV.cells a1) 0)]) [(.int .i64 0), (.pslice 1 [(.agg [(.int .i64 1)])])] s_413).bind fun t_563 =>
  j_552 t_563.1 t_563.2)
  (j_552 (.bool false) s_413)))
  ((bin .eql .num t_7 (.int .i64 37)).bind fun t_564 =>
  jn 2 (fun txt_565 ok_566 s_567 =>
  k_548 txt_565 (.bool false) ok_566 (.int .i64 0) s_567)
  (fun k_568 =>
  aCase t_564
  ((bin .eql .num t_2 (.int .i64 1)).bind fun t_569 =>
  jn 1 (fun t_570 s_571 =>
  k_568 (.bool false) t_570 s_571)
  (fun j_572 =>
  aCase t_569
  ((callD D (.func 22 [] [(.pptr (AV.cells a1) 0)]) [(.int .i64 0), (.pslice 1 [(.agg [(.int .i64 34)]), (.agg [(.int .i64 27)])])] s_413).bind fun t_573 =>
  j_572 t_573.1 t_573.2)
  (j_572 (.bool false) s_413)))
  ((bin .eql .num t_7 (.int .i64 40)).bind fun t_574 =>
  jn 2 (fun txt_575 ok_576 s_577 =>
  k_568 txt_575 ok_576 s_577)
  (fun k_578 =>
  aCase t_574
  ((bin .eql .num t_2 (.int .i64 1)).bind fun t_579 =>
  jn 1 (fun t_580 s_581 =>
  k_578 (.bool false) t_580 s_581)
  (fun j_582 =>
  aCase t_579
  ((rd1 D.G (.pptr (AV.cells a1) 0) s_413).bind fun t_583 =>
  (idx 1 t_583 (.int .i64 0)).bind fun t_584 =>
  (rd1 D.G t_584 s_413).bind fun t_585 =>
  (callV D 24 [t_585] s_413).bind fun t_586 =>
  j_582 t_586 s_413)
  (j_582 (.bool false) s_413)))
  ((bin .eql .num t_7 (.int .i64 41)).bind fun t_587 =>
  jn 2 (fun txt_588 ok_589 s_590 =>
  k_578 txt_588 ok_589 s_590)
  (fun k_591 =>
  aCase t_587
  ((bin .eql .num t_2 (.int .i64 2)).bind fun t_592 =>
  jn 1 (fun t_593 s_594 =>
  k_591 (.bool false) t_593 s_594)
  (fun j_595 =>
  aCase t_592
  ((callD D (.func 21 [] [(.pptr (AV.cells a1) 0)]) [(.func 24 [] []), (.int .i64 0), (.int .i64 2)] s_413).bind fun t_596 =>
  j_595 t_596.1 t_596.2)
  (j_595 (.bool false) s_413)))
  ((bin .eql .num t_7 (.int .i64 42)).bind fun t_597 =>
  jn 2 (fun txt_598 ok_599 s_600 =>
  k_591 txt_598 ok_599 s_600)
  (fun k_601 =>
  aCase t_597
  ((bin .eql .num t_2 (.int .i64 1)).bind fun t_602 =>
  jn 1 (fun t_603 s_604 =>
  jn 1 (fun t_606 s_607 =>
  k_601 (.bool true) t_606 s_607)
  (fun j_608 =>
  aCase t_603
  ((rd1 D.G (.pptr (AV.cells a0) 7) s_604).bind fun t_609 =>
  (callV D 27 [t_609] s_604).bind fun t_610 =>
  j_608 t_610 s_604)
  (j_608 (.bool false) s_604)))
  (fun j_605 =>
  aCase t_602
  ((rd1 D.G (.pptr (AV.cells a1) 0) s_413).bind fun t_611 =>
  (idx 1 t_611 (.int .i64 0)).bind fun t_612 =>
  (rd1 D.G t_612 s_413).bind fun t_613 =>
  (callV D 24 [t_613] s_413).bind fun t_614 =>
  j_605 t_614 s_413)
  (j_605 (.bool false) s_413)))
  (k_601 (.bool false) (.bool false) s_413))))))))))))))))))))))))
noncomputable def jb_impl_partShape_2 (D : Ctx) (k_337 : Cur 6) (t_2 : AV) (t_7 : AV) (a0 : AV) (a1 : AV) : Cur 1 :=
  fun t_347 s_348 =>
  jn 6 (jk_impl_partShape_13 D k_337)
  (fun k_357 =>
  aCase t_347
  ((bin .eql .num t_2 (.int .i64 0)).bind fun t_358 =>
  k_357 (.bool false) (.bool false) (.bool false) (.bool false) t_358 (.int .i64 0) s_348)
  ((bin .eql .num t_7 (.int .i64 23)).bind fun t_359 =>
  jn 6 (jk_impl_partShape_12 D k_357)
  (fun k_367 =>
  aCase t_359
  ((bin .eql .num t_2 (.int .i64 0)).bind fun t_368 =>
  k_367 (.bool true) (.bool false) (.bool false) (.bool false) t_368 (.int .i64 0) s_348)
  ((bin .eql .num t_7 (.int .i64 24)).bind fun t_369 =>
  jn 5 (jk_impl_partShape_11 D k_367)
  (fun k_376 =>
  aCase t_369
  ((bin .eql .num t_2 (.int .i64 0)).bind fun t_377 =>
  jn 1 (fun t_378 s_379 =>
  k_376 (.bool true) (.bool false) (.bool false) t_378 (.int .i64 0) s_379)
  (fun j_380 =>
  aCase t_377
  ((rd1 D.G (.pptr (AV.cells a0) 6) s_348).bind fun t_381 =>
  (rd1 D.G (.pptr (AV.cells a0) 6) s_348).bind fun t_382 =>
  (bin .eql .num t_381 t_382).bind fun t_383 =>
  j_380 t_383 s_348)
  (j_380 (.bool false) s_348)))
  ((bin .eql .num t_7 (.int .i64 25)).bind fun t_384 =>
  jn 4 (jk_impl_partShape_10 D k_376)
  (fun k_390 =>
  aCase t_384
  ((bin .eql .num t_2 (.int .i64 0)).bind fun t_391 =>
  jn 1 (fun t_392 s_393 =>
  k_390 (.bool true) (.bool false) t_392 (.int .i64 0) s_393)
  (fun j_394 =>
  aCase t_391
  ((rd1 D.G (.pptr (AV.cells a0) 7) s_348).bind fun t_395 =>
  (lenV .str t_395 s_348).bind fun t_396 =>
  (bin .leq .num t_396 (.int .i64 4000)).bind fun t_397 =>
  j_394 t_397 s_348)
  (j_394 (.bool false) s_348)))
  ((bin .eql .num t_7 (.int .i64 26)).bind fun t_398 =>
  jn 4 (jk_impl_partShape_9 D k_390)
  (fun k_404 =>
  aCase t_398
  ((bin .eql .num t_2 (.int .i64 0)).bind fun t_405 =>
  jn 1 (fun t_406 s_407 =>
  k_404 (.bool true) (.bool false) t_406 (.int .i64 0) s_407)
  (fun j_408 =>
  aCase t_405
  ((rd1 D.G (.pptr (AV.cells a0) 7) s_348).bind fun t_409 =>
  (callV D 27 [t_409] s_348).bind fun t_410 =>
  j_408 t_410 s_348)
  (j_408 (.bool false) s_348)))
  ((bin .eql .num t_7 (.int .i64 28)).bind fun t_411 =>
  jn 1 (jb_impl_partShape_1 D k_404 t_2 a1 t_7 a0)
  (fun k_414 =>
  aCase t_411
  (k_414 t_411 s_348)
  ((bin .eql .num t_7 (.int .i64 29)).bind fun t_615 =>
  k_414 t_615 s_348))))))))))))
noncomputable def jb_impl_partShape_3 (D : Ctx) (k_272 : Cur 7) (t_2 : AV) (t_7 : AV) (a1 : AV) (a0 : AV) : Cur 1 :=
  fun t_286 s_287 =>
  jn 7 (jk_impl_partShape_17 D k_272)
  (fun k_297 =>
  aCase t_286
  ((bin .eql .num t_2 (.int .i64 0)).bind fun t_298 =>
  k_297 (.bool false) (.bool false) (.bool false) (.bool false) t_298 (.int .i64 0) (.int .i64 0) s_287)
  ((bin .eql .num t_7 (.int .i64 13)).bind fun t_299 =>
  jn 7 (jk_impl_partShape_16 D k_297)
  (fun k_308 =>
  aCase t_299
  ((callD D (.func 21 [] [(.pptr (AV.cells a1) 0)]) [(.func 24 [] []), (.int .i64 0), t_2] s_287).bind fun t_309 =>
  k_308 (.bool false) (.bool false) (.bool false) (.bool false) t_309.1 (.int .i64 0) (.int .i64 0) t_309.2)
  ((bin .eql .num t_7 (.int .i64 14)).bind fun t_310 =>
  jn 7 (jk_impl_partShape_15 D k_308)
  (fun k_319 =>
  aCase t_310
  ((bin .eql .num t_2 (.int .i64 2)).bind fun t_320 =>
  jn 1 (fun t_321 s_322 =>
  jn 1 (fun t_324 s_325 =>
  k_319 (.bool false) (.bool false) (.bool false) (.bool false) t_324 (.int .i64 1) (.int .i64 2) s_325)
  (fun j_326 =>
  aCase t_321
  ((callD D (.func 22 [] [(.pptr (AV.cells a1) 0)]) [(.int .i64 1), (.pslice 1 [(.agg [(.int .i64 1)])])] s_322).bind fun t_327 =>
  j_326 t_327.1 t_327.2)
  (j_326 (.bool false) s_322)))
  (fun j_323 =>
  aCase t_320
  ((callD D (.func 22 [] [(.pptr (AV.cells a1) 0)]) [(.int .i64 0), (.pslice 1 [(.agg [(.int .i64 1)])])] s_287).bind fun t_328 =>
  j_323 t_328.1 t_328.2)
  (j_323 (.bool false) s_287)))
  ((bin .eql .num t_7 (.int .i64 15)).bind fun t_329 =>
  jn 6 (jk_impl_partShape_14 D k_319)
  (fun k_337 =>
  aCase t_329
  ((bin .eql .num t_2 (.int .i64 1)).bind fun t_338 =>
  jn 1 (fun t_339 s_340 =>
  k_337 (.bool false) (.bool false) (.bool false) (.bool false) t_339 (.int .i64 0) s_340)
  (fun j_341 =>
  aCase t_338
  ((rd1 D.G (.pptr (AV.cells a1) 0) s_287).bind fun t_342 =>
  (idx 1 t_342 (.int .i64 0)).bind fun t_343 =>
  (rd1 D.G t_343 s_287).bind fun t_344 =>
  (callV D 24 [t_344] s_287).bind fun t_345 =>
  j_341 t_345 s_287)
  (j_341 (.bool false) s_287)))
  ((bin .eql .num t_7 (.int .i64 20)).bind fun t_346 =>
  jn 1 (jb_impl_partShape_2 D k_337 t_2 t_7 a0 a1)
  (fun k_349 =>
  aCase t_346
  (k_349 t_346 s_287)
  ((bin .eql .num t_7 (.int .i64 21)).bind fun t_616 =>
  jn 1 (fun t_617 s_618 =>
  k_349 t_617 s_618)
  (fun k_619 =>
  aCase t_616
  (k_619 t_616 s_287)
  ((bin .eql .num t_7 (.int .i64 22)).bind fun t_620 =>
  jn 1 (fun t_621 s_622 =>
  k_619 t_621 s_622)
  (fun k_623 =>
  aCase t_620
  (k_623 t_620 s_287)
  ((bin .eql .num t_7 (.int .i64 27)).bind fun t_624 =>
  k_623 t_624 s_287))))))))))))))
noncomputable def jb_impl_partShape_4 (D : Ctx) (k_191 : Cur 7) (t_2 : AV) (a1 : AV) : Cur 1 :=
  fun t_193 s_194 =>
  jn 1 (fun t_196 s_197 =>
  jn 1 (fun t_199 s_200 =>
  jn 1 (fun t_202 s_203 =>
  k_191 (.bool false) (.bool false) (.bool false) (.bool false) t_202 (.int .i64 0) (.int .i64 0) s_203)
  (fun j_204 =>
  aCase t_199
  ((bin .eql .num t_2 (.int .i64 2)).bind fun t_205 =>
  jn 1 (fun t_206 s_207 =>
  j_204 t_206 s_207)
  (fun j_208 =>
  aCase t_205
  (j_208 (.bool true) s_200)
  ((callD D (.func 22 [] [(.pptr (AV.cells a1) 0)]) [(.int .i64 2), (.pslice 1 [(.agg [(.int .i64 1)]), (.agg [(.int .i64 7)])])] s_200).bind fun t_209 =>
  j_208 t_209.1 t_209.2)))
  (j_204 (.bool false) s_200)))
  (fun j_201 =>
  aCase t_196
  ((callD D (.func 22 [] [(.pptr (AV.cells a1) 0)]) [(.int .i64 1), (.pslice 1 [(.agg [(.int .i64 1)])])] s_197).bind fun t_210 =>
  j_201 t_210.1 t_210.2)
  (j_201 (.bool false) s_197)))
  (fun j_198 =>
  aCase t_193
  ((rd1 D.G (.pptr (AV.cells a1) 0) s_194).bind fun t_211 =>
  (idx 1 t_211 (.int .i64 0)).bind fun t_212 =>
  (rd1 D.G t_212 s_194).bind fun t_213 =>
  (callV D 24 [t_213] s_194).bind fun t_214 =>
  j_198 t_214 s_194)
  (j_198 (.bool false) s_194))
noncomputable def jb_impl_partShape_5 (D : Ctx) (k_150 : Cur 7) (t_2 : AV) (a1 : AV) (t_7 : AV) (a0 : AV) : Cur 1 :=
  fun t_165 s_166 =>
  jn 7 (jk_impl_partShape_22 D k_150)
  (fun k_176 =>
  aCase t_165
  ((bin .eql .num t_2 (.int .i64 1)).bind fun t_177 =>
  jn 1 (fun t_178 s_179 =>
  k_176 (.bool false) (.bool false) (.bool false) (.bool false) t_178 (.int .i64 0) (.int .i64 0) s_179)
  (fun j_180 =>
  aCase t_177
  ((callD D (.func 22 [] [(.pptr (AV.cells a1) 0)]) [(.int .i64 0), (.pslice 1 [(.agg [(.int .i64 34)])])] s_166).bind fun t_181 =>
  j_180 t_181.1 t_181.2)
  (j_180 (.bool false) s_166)))
  ((bin .eql .num t_7 (.int .i64 7)).bind fun t_182 =>
  jn 7 (jk_impl_partShape_21 D k_176)
  (fun k_191 =>
  aCase t_182
  ((bin .eql .num t_2 (.int .i64 2)).bind fun t_192 =>
  jn 1 (jb_impl_partShape_4 D k_191 t_2 a1)
  (fun j_195 =>
  aCase t_192
  (j_195 (.bool true) s_166)
  ((bin .eql .num t_2 (.int .i64 3)).bind fun t_215 =>
  j_195 t_215 s_166)))
  ((bin .eql .num t_7 (.int .i64 8)).bind fun t_216 =>
  jn 7 (jk_impl_partShape_20 D k_191)
  (fun k_225 =>
  aCase t_216
  ((bin .eql .num t_2 (.int .i64 2)).bind fun t_226 =>
  jn 1 (fun t_227 s_228 =>
  jn 1 (fun t_230 s_231 =>
  k_225 (.bool false) (.bool false) (.bool false) (.bool false) t_230 (.int .i64 0) (.int .i64 0) s_231)
  (fun j_232 =>
  aCase t_227
  ((callD D (.func 22 [] [(.pptr (AV.cells a1) 0)]) [(.int .i64 1), (.pslice 1 [(.agg [(.int .i64 1)])])] s_228).bind fun t_233 =>
  j_232 t_233.1 t_233.2)
  (j_232 (.bool false) s_228)))
  (fun j_229 =>
  aCase t_226
  ((rd1 D.G (.pptr (AV.cells a1) 0) s_166).bind fun t_234 =>
  (idx 1 t_234 (.int .i64 0)).bind fun t_235 =>
  (rd1 D.G t_235 s_166).bind fun t_236 =>
  (callV D 24 [t_236] s_166).bind fun t_237 =>
  j_229 t_237 s_166)
  (j_229 (.bool false) s_166)))
  ((bin .eql .num t_7 (.int .i64 9)).bind fun t_238 =>
  jn 7 (jk_impl_partShape_19 D k_225)
  (fun k_247 =>
  aCase t_238
  ((bin .eql .num t_2 (.int .i64 3)).bind fun t_248 =>
  jn 1 (fun t_249 s_250 =>
  jn 1 (fun t_252 s_253 =>
  jn 1 (fun t_255 s_256 =>
  k_247 (.bool false) (.bool false) (.bool false) (.bool false) t_255 (.int .i64 1) (.int .i64 1) s_256)
  (fun j_257 =>
  aCase t_252
  ((bin .sub .num t_2 (.int .i64 1)).bind fun t_258 =>
  (callD D (.func 22 [] [(.pptr (AV.cells a1) 0)]) [t_258, (.pslice 1 [(.agg [(.int .i64 1)])])] s_253).bind fun t_259 =>
  j_257 t_259.1 t_259.2)
  (j_257 (.bool false) s_253)))
  (fun j_254 =>
  aCase t_249
  ((bin .sub .num t_2 (.int .i64 1)).bind fun t_260 =>
  (callD D (.func 21 [] [(.pptr (AV.cells a1) 0)]) [(.func 24 [] []), (.int .i64 0), t_260] s_250).bind fun t_261 =>
  j_254 t_261.1 t_261.2)
  (j_254 (.bool false) s_250)))
  (fun j_251 =>
  aCase t_248
  (j_251 (.bool true) s_166)
  ((bin .eql .num t_2 (.int .i64 4)).bind fun t_262 =>
  j_251 t_262 s_166)))
  ((bin .eql .num t_7 (.int .i64 10)).bind fun t_263 =>
  jn 7 (jk_impl_partShape_18 D k_247)
  (fun k_272 =>
  aCase t_263
  ((bin .eql .num t_2 (.int .i64 2)).bind fun t_273 =>
  jn 1 (fun t_274 s_275 =>
  jn 1 (fun t_277 s_278 =>
  k_272 (.bool false) (.bool false) (.bool false) (.bool false) t_277 (.int .i64 1) (.int .i64 9223372036854775807) s_278)
  (fun j_279 =>
  aCase t_274
  ((callD D (.func 22 [] [(.pptr (AV.cells a1) 0)]) [(.int .i64 1), (.pslice 1 [(.agg [(.int .i64 1)])])] s_275).bind fun t_280 =>
  j_279 t_280.1 t_280.2)
  (j_279 (.bool false) s_275)))
  (fun j_276 =>
  aCase t_273
  ((rd1 D.G (.pptr (AV.cells a1) 0) s_166).bind fun t_281 =>
  (idx 1 t_281 (.int .i64 0)).bind fun t_282 =>
  (rd1 D.G t_282 s_166).bind fun t_283 =>
  (callV D 24 [t_283] s_166).bind fun t_284 =>
  j_276 t_284 s_166)
  (j_276 (.bool false) s_166)))
  ((bin .eql .num t_7 (.int .i64 11)).bind fun t_285 =>
  jn 1 (jb_impl_partShape_3 D k_272 t_2 t_7 a1 a0)
  (fun k_288 =>
  aCase t_285
  (k_288 t_285 s_166)
  ((bin .eql .num t_7 (.int .i64 12)).bind fun t_625 =>
  k_288 t_625 s_166))))))))))))
noncomputable def jb_impl_partShape_6 (D : Ctx) (a0 : AV) (a1 : AV) (t_2 : AV) : Cur 1 :=
  fun t_4 s_5 =>
  aCase t_4
  (some ((.bool false), s_5))
  ((rd1 D.G (.pptr (AV.cells a0) 0) s_5).bind fun t_7 =>
  (bin .eql .num t_7 (.int .i64 1)).bind fun t_8 =>
  jn 7 (jk_impl_partShape_27 D a0)
  (fun k_17 =>
  aCase t_8
  ((callD D (.func 21 [] [(.pptr (AV.cells a1) 0)]) [(.func 25 [] []), (.int .i64 0), t_2] s_5).bind fun t_96 =>
  k_17 (.bool false) (.bool false) (.bool false) (.bool false) t_96.1 (.int .i64 0) (.int .i64 0) t_96.2)
  ((bin .eql .num t_7 (.int .i64 2)).bind fun t_97 =>
  jn 7 (jk_impl_partShape_26 D k_17)
  (fun k_106 =>
  aCase t_97
  ((callD D (.func 21 [] [(.pptr (AV.cells a1) 0)]) [(.func 24 [] []), (.int .i64 0), t_2] s_5).bind fun t_107 =>
  k_106 (.bool false) (.bool false) (.bool false) (.bool false) t_107.1 (.int .i64 1) (.int .i64 9223372036854775807) t_107.2)
  ((bin .eql .num t_7 (.int .i64 3)).bind fun t_108 =>
  jn 7 (jk_impl_partShape_25 D k_106)
  (fun k_117 =>
  aCase t_108
  ((bin .eql .num t_2 (.int .i64 1)).bind fun t_118 =>
  jn 1 (fun t_119 s_120 =>
  k_117 (.bool false) (.bool false) (.bool false) (.bool false) t_119 (.int .i64 1) (.int .i64 1) s_120)
  (fun j_121 =>
  aCase t_118
  ((rd1 D.G (.pptr (AV.cells a1) 0) s_5).bind fun t_122 =>
  (idx 1 t_122 (.int .i64 0)).bind fun t_123 =>
  (rd1 D.G t_123 s_5).bind fun t_124 =>
  (callV D 24 [t_124] s_5).bind fun t_125 =>
  j_121 t_125 s_5)
  (j_121 (.bool false) s_5)))
  ((bin .eql .num t_7 (.int .i64 4)).bind fun t_126 =>
  jn 7 (jk_impl_partShape_24 D k_117)
  (fun k_135 =>
  aCase t_126
  ((bin .eql .num t_2 (.int .i64 1)).bind fun t_136 =>
  jn 1 (fun t_137 s_138 =>
  k_135 (.bool false) (.bool false) (.bool false) (.bool false) t_137 (.int .i64 1) (.int .i64 1) s_138)
  (fun j_139 =>
  aCase t_136
  ((callD D (.func 22 [] [(.pptr (AV.cells a1) 0)]) [(.int .i64 0), (.pslice 1 [(.agg [(.int .i64 36)])])] s_5).bind fun t_140 =>
  j_139 t_140.1 t_140.2)
  (j_139 (.bool false) s_5)))
  ((bin .eql .num t_7 (.int .i64 5)).bind fun t_141 =>
  jn 7 (jk_impl_partShape_23 D k_135)
  (fun k_150 =>
  aCase t_141
  ((rd1 D.G (.pptr (AV.cells a0) 5) s_5).bind fun t_151 =>
  (bin .lss .num t_151 (.int .i64 1)).bind fun t_152 =>
  jn 1 (fun t_153 s_154 =>
  aCase t_153
  (some ((.bool false), s_154))
  ((rd1 D.G (.pptr (AV.cells a0) 5) s_154).bind fun t_156 =>
  (callD D (.func 21 [] [(.pptr (AV.cells a1) 0)]) [(.func 26 [] []), (.int .i64 0), t_156] s_154).bind fun t_157 =>
  jn 1 (fun t_158 s_159 =>
  k_150 (.bool true) (.bool false) (.bool false) (.bool false) t_158 (.int .i64 0) (.int .i64 0) s_159)
  (fun j_160 =>
  aCase t_157.1
  ((callD D (.func 21 [] [(.pptr (AV.cells a1) 0)]) [(.func 24 [] []), t_156, t_2] t_157.2).bind fun t_161 =>
  j_160 t_161.1 t_161.2)
  (j_160 (.bool false) t_157.2))))
  (fun j_155 =>
  aCase t_152
  (j_155 (.bool true) s_5)
  ((rd1 D.G (.pptr (AV.cells a0) 5) s_5).bind fun t_162 =>
  (bin .geq .num t_162 t_2).bind fun t_163 =>
  j_155 t_163 s_5)))
  ((bin .eql .num t_7 (.int .i64 6)).bind fun t_164 =>
  jn 1 (jb_impl_partShape_5 D k_150 t_2 a1 t_7 a0)
  (fun k_167 =>
  aCase t_164
  (k_167 t_164 s_5)
  ((bin .eql .num t_7 (.int .i64 16)).bind fun t_626 =>
  k_167 t_626 s_5)))))))))))))
noncomputable def sh_impl_partShape (D : Ctx) (a0 a1 : AV) (σ : Store) : Res :=
  (rd1 D.G (.pptr (AV.cells a1) 0) σ).bind fun t_1 =>
  (lenV .sl t_1 σ).bind fun t_2 =>
  (bin .gtr .num t_2 (.int .i64 200)).bind fun t_3 =>
  jn 1 (jb_impl_partShape_6 D a0 a1 t_2)
  (fun j_6 =>
  aCase t_3
  (j_6 (.bool true) σ)
  ((rd1 D.G (.pptr (AV.cells a0) 8) σ).bind fun t_627 =>
  (lenV .sl t_627 σ).bind fun t_628 =>
  (bin .gtr .num t_628 (.int .i64 200)).bind fun t_629 =>
  j_6 t_629 σ))
theorem sh_impl_partShape_eq (D : Ctx) (a0 a1 : AV) (σ : Store) : runFn D ir_impl_partShape [a0, a1] σ = sh_impl_partShape D a0 a1 σ := by kernel_rfl
/-- loop.example/reed/laws.eqPartS: function 15 -/
def ir_laws_eqPartS : IFn := ⟨[.tmp 4],
.seq (.reg (.op (some 4) (.mv (.c (.bool false))) (
  .done))) (
  .seq (.seq (.reg (.op (some 6) (.mv (.t 0)) (
  .op (some 7) (.len .sl (.t 6)) (
  .op (some 8) (.mv (.t 1)) (
  .op (some 9) (.len .sl (.t 8)) (
  .op (some 10) (.bin .neq .num (.t 7) (.t 9)) (
  .done))))))) (
  .cond (.t 10) none (.seq (.reg (.op (some 4) (.mv (.c (.bool false))) (
  .done))) (
  .ret)) (.skip))) (
  .seq (.seq (.reg (.op (some 5) (.mv (.c (.int .i64 0))) (
  .done))) (
  .block 0 (some ⟨[], []⟩) (
  .loop ⟨[5], []⟩ (
  .seq (.seq (.reg (.op (some 11) (.mv (.t 5)) (
  .op (some 12) (.mv (.t 0)) (
  .op (some 13) (.len .sl (.t 12)) (
  .op (some 14) (.bin .lss .num (.t 11) (.t 13)) (
  .done)))))) (
  .cond (.t 14) none (.skip) (.exit 0))) (
  .seq (.block 1 none (
  .seq (.reg (.op (some 17) (.mv (.t 0)) (
  .op (some 18) (.mv (.t 5)) (
  .op (some 19) (.idx 10 (.t 17) (.t 18)) (
  .op (some 20) (.load true 10 (.t 19)) (
  .op (some 21) (.mv (.t 1)) (
  .op (some 22) (.mv (.t 5)) (
  .op (some 23) (.idx 10 (.t 21) (.t 22)) (
  .op (some 24) (.load true 10 (.t 23)) (
  .op (some 25) (.callV 29 [(.t 20), (.t 24)]) (
  .op (some 26) (.un .not (.t 25)) (
  .done)))))))))))) (
  .cond (.t 26) none (.seq (.reg (.op (some 4) (.mv (.c (.bool false))) (
  .done))) (
  .ret)) (.skip)))) (
  .reg (.op (some 15) (.mv (.t 5)) (
  .op (some 16) (.bin .add .num (.t 15) (.c (.int .i64 1))) (
  .op (some 5) (.mv (.t 16)) (
  .done)))))))))) (
  .seq (.reg (.op (some 4) (.mv (.c (.bool true))) (
  .done))) (
  .ret))))⟩
noncomputable def lp_laws_eqPartS_1 (D : Ctx) (a0 : AV) (a1 : AV) (k_5 : Cur 0) : Cur 1 → Cur 1 :=
  fun go_8 i_6 s_7 =>
  (lenV .sl a0 s_7).bind fun t_9 =>
  (bin .lss .num i_6 t_9).bind fun t_10 =>
  aCase t_10
  ((idx 10 a0 i_6).bind fun t_11 =>
  (rdN 10 t_11 s_7).bind fun t_12 =>
  (idx 10 a1 i_6).bind fun t_13 =>
  (rdN 10 t_13 s_7).bind fun t_14 =>
  (callV D 29 [(.agg t_12), (.agg t_14)] s_7).bind fun t_15 =>
  (un .not t_15).bind fun t_16 =>
  aCase t_16
  (some ((.bool false), s_7))
  ((bin .add .num i_6 (.int .i64 1)).bind fun t_17 =>
  go_8 t_17 s_7))
  (k_5  s_7)
theorem lp_laws_eqPartS_1_le {D : Ctx} (a0 : AV) (a1 : AV) (k_5 : Cur 0) {k_5' : Cur 0} (hk_5 : Cle k_5 k_5') {u u' : Cur 1} (h : Cle u u') : Cle (lp_laws_eqPartS_1 D a0 a1 k_5 u) (lp_laws_eqPartS_1 D a0 a1 k_5' u') := by
  unfold lp_laws_eqPartS_1
  repeat (first
    | with_reducible refine Ole.bindr fun _ => ?_
    | with_reducible refine Ole.aCase ?_ ?_
    | refine Ole.jn ?_ (fun _ _ _ => ?_)
    | refine Cle.succ fun _ => ?_
    | refine Cle.zero fun _ => ?_
    | exact Cle.use0 (by assumption)
    | exact Cle.use1 (by assumption)
    | with_reducible exact Ole.refl _)
theorem lp_laws_eqPartS_1_mono (D : Ctx) (a0 : AV) (a1 : AV) (k_5 : Cur 0) : Mono (lp_laws_eqPartS_1 D a0 a1 k_5) := fun _ _ h => lp_laws_eqPartS_1_le a0 a1 k_5 (Cle.refl _) h
noncomputable def sh_laws_eqPartS (D : Ctx) (a0 a1 : AV) (σ : Store) : Res :=
  (lenV .sl a0 σ).bind fun t_1 =>
  (lenV .sl a1 σ).bind fun t_2 =>
  (bin .neq .num t_1 t_2).bind fun t_3 =>
  aCase t_3
  (some ((.bool false), σ))
  (jn 0 (fun  s_4 =>
  some ((.bool true), s_4))
  (fun k_5 =>
  lpFix 1 (lp_laws_eqPartS_1 D a0 a1 k_5) (.int .i64 0) σ))
theorem sh_laws_eqPartS_eq (D : Ctx) (a0 a1 : AV) (σ : Store) : runFn D ir_laws_eqPartS [a0, a1] σ = sh_laws_eqPartS D a0 a1 σ := by kernel_rfl
/-- loop.example/reed/laws.szPart: function 16 -/
def ir_laws_szPart : IFn := ⟨[.tmp 4],
.seq (.reg (.op (some 2) (.pbox (.t 0)) (
  .op (some 4) (.mv (.c (.int .i64 0))) (
  .done)))) (
  .seq (.reg (.op (some 5) (.mv (.t 1)) (
  .op (some 6) (.fadd 7 (.t 2)) (
  .op (some 7) (.load false 1 (.t 6)) (
  .op (some 8) (.len .str (.t 7)) (
  .op (some 9) (.bin .sub .num (.t 5) (.t 8)) (
  .op (some 1) (.mv (.t 9)) (
  .done)))))))) (
  .seq (.seq (.reg (.op (some 10) (.mv (.t 1)) (
  .op (some 11) (.bin .lss .num (.t 10) (.c (.int .i64 0))) (
  .done)))) (
  .cond (.t 11) none (.seq (.reg (.op (some 4) (.mv (.c (.int .i64 (-1)))) (
  .done))) (
  .ret)) (.skip))) (
  .seq (.reg (.op (some 12) (.fadd 8 (.t 2)) (
  .op (some 13) (.load false 1 (.t 12)) (
  .op (some 14) (.mv (.t 1)) (
  .op (some 15) (.callV 30 [(.t 13), (.t 14)]) (
  .op (some 1) (.mv (.t 15)) (
  .done))))))) (
  .seq (.seq (.reg (.op (some 16) (.mv (.t 1)) (
  .op (some 17) (.bin .lss .num (.t 16) (.c (.int .i64 0))) (
  .done)))) (
  .cond (.t 17) none (.seq (.reg (.op (some 4) (.mv (.c (.int .i64 (-1)))) (
  .done))) (
  .ret)) (.skip))) (
  .seq (.reg (.op (some 18) (.fadd 9 (.t 2)) (
  .op (some 19) (.load false 1 (.t 18)) (
  .op (some 20) (.mv (.t 1)) (
  .op (some 21) (.callV 31 [(.t 19), (.t 20)]) (
  .op (some 1) (.mv (.t 21)) (
  .done))))))) (
  .seq (.seq (.reg (.op (some 22) (.mv (.t 1)) (
  .op (some 23) (.bin .lss .num (.t 22) (.c (.int .i64 0))) (
  .done)))) (
  .cond (.t 23) none (.seq (.reg (.op (some 4) (.mv (.c (.int .i64 (-1)))) (
  .done))) (
  .ret)) (.skip))) (
  .seq (.reg (.op (some 24) (.mv (.t 1)) (
  .op (some 4) (.mv (.t 24)) (
  .done)))) (
  .ret))))))))⟩
noncomputable def sh_laws_szPart (D : Ctx) (a0 a1 : AV) (σ : Store) : Res :=
  (rd1 D.G (.pptr (AV.cells a0) 7) σ).bind fun t_1 =>
  (lenV .str t_1 σ).bind fun t_2 =>
  (bin .sub .num a1 t_2).bind fun t_3 =>
  (bin .lss .num t_3 (.int .i64 0)).bind fun t_4 =>
  aCase t_4
  (some ((.int .i64 (-1)), σ))
  ((rd1 D.G (.pptr (AV.cells a0) 8) σ).bind fun t_5 =>
  (callV D 30 [t_5, t_3] σ).bind fun t_6 =>
  (bin .lss .num t_6 (.int .i64 0)).bind fun t_7 =>
  aCase t_7
  (some ((.int .i64 (-1)), σ))
  ((rd1 D.G (.pptr (AV.cells a0) 9) σ).bind fun t_8 =>
  (callV D 31 [t_8, t_6] σ).bind fun t_9 =>
  (bin .lss .num t_9 (.int .i64 0)).bind fun t_10 =>
  aCase t_10
  (some ((.int .i64 (-1)), σ))
  (some (t_9, σ))))
theorem sh_laws_szPart_eq (D : Ctx) (a0 a1 : AV) (σ : Store) : runFn D ir_laws_szPart [a0, a1] σ = sh_laws_szPart D a0 a1 σ := by kernel_rfl
/-- loop.example/reed/spec.l6stat: function 17 -/
def ir_spec_l6stat : IFn := ⟨[.tmp 2],
.seq (.reg (.op (some 2) (.mv (.c (.bool false))) (
  .done))) (
  .seq (.reg (.op (some 3) (.mv (.t 0)) (
  .op (some 4) (.bin .geq .num (.t 3) (.c (.int .i64 1))) (
  .op (some 5) (.mv (.t 4)) (
  .dia 5 (
  .gop 5 true (some 6) (.mv (.t 0)) (
  .gop 5 true (some 7) (.bin .leq .num (.t 6) (.c (.int .i64 16))) (
  .done))) 8 (.t 5) (.t 7) (.c (.bool false)) none (
  .op (some 2) (.mv (.t 8)) (
  .done))))))) (
  .ret))⟩
noncomputable def sh_spec_l6stat (D : Ctx) (a0 : AV) (σ : Store) : Res :=
  (bin .geq .num a0 (.int .i64 1)).bind fun t_1 =>
  jn 1 (fun t_2 s_3 =>
  some (t_2, s_3))
  (fun j_4 =>
  aCase t_1
  ((bin .leq .num a0 (.int .i64 16)).bind fun t_5 =>
  j_4 t_5 σ)
  (j_4 (.bool false) σ))
theorem sh_spec_l6stat_eq (D : Ctx) (a0 : AV) (σ : Store) : runFn D ir_spec_l6stat [a0] σ = sh_spec_l6stat D a0 σ := by kernel_rfl
/-- loop.example/reed/spec.l6statement: function 18 -/
def ir_spec_l6statement : IFn := ⟨[.tmp 4],
.seq (.reg (.op (some 2) (.pbox (.t 0)) (
  .op (some 3) (.pbox (.t 1)) (
  .op (some 4) (.mv (.c (.bool false))) (
  .done))))) (
  .seq (.reg (.op (some 8) (.fadd 9 (.t 3)) (
  .op (some 9) (.load false 1 (.t 8)) (
  .op (some 10) (.len .sl (.t 9)) (
  .op (some 5) (.mv (.t 10)) (
  .done)))))) (
  .seq (.seq (.reg (.op (some 11) (.fadd 0 (.t 3)) (
  .op (some 12) (.load false 1 (.t 11)) (
  .done)))) (
  .block 0 none (
  .seq (.reg (.op (some 14) (.bin .eql .num (.t 12) (.c (.int .i64 1))) (
  .op (some 13) (.mv (.t 14)) (
  .done)))) (
  .cond (.t 13) none (.seq (.seq (.reg (.op (some 15) (.fadd 9 (.t 3)) (
  .op (some 16) (.load false 1 (.t 15)) (
  .op (some 17) (.len .sl (.t 16)) (
  .op (some 18) (.mv (.c (.int .i64 0))) (
  .done)))))) (
  .block 1 (some ⟨[], []⟩) (
  .loop ⟨[18], []⟩ (
  .seq (.reg (.op (some 19) (.bin .lss .num (.t 18) (.t 17)) (
  .done))) (
  .seq (.cond (.t 19) none (.skip) (.exit 1)) (
  .seq (.block 2 none (
  .seq (.reg (.op (some 20) (.mv (.t 18)) (
  .op (some 6) (.mv (.t 20)) (
  .done)))) (
  .seq (.reg (.op (some 21) (.load true 1 (.t 2)) (
  .op (some 22) (.load true 10 (.t 3)) (
  .op (some 23) (.mv (.t 6)) (
  .op (some 24) (.callV 32 [(.t 21), (.t 22), (.t 23)]) (
  .op (some 25) (.callV 17 [(.t 24)]) (
  .op (some 26) (.un .not (.t 25)) (
  .done)))))))) (
  .cond (.t 26) none (.seq (.reg (.op (some 4) (.mv (.c (.bool false))) (
  .done))) (
  .ret)) (.skip))))) (
  .reg (.op (some 27) (.bin .add .num (.t 18) (.c (.int .i64 1))) (
  .op (some 18) (.mv (.t 27)) (
  .done)))))))))) (
  .seq (.reg (.op (some 28) (.load true 10 (.t 3)) (
  .op (some 29) (.callV 33 [(.t 28), (.c (.bool false)), (.c (.bool false)), (.c (.bool false)), (.c (.bool false))]) (
  .op (some 4) (.mv (.t 29)) (
  .done))))) (
  .ret))) (.seq (.reg (.op (some 31) (.bin .eql .num (.t 12) (.c (.int .i64 2))) (
  .op (some 30) (.mv (.t 31)) (
  .done)))) (
  .cond (.t 30) none (.seq (.reg (.op (some 32) (.load true 10 (.t 3)) (
  .op (some 33) (.callV 33 [(.t 32), (.c (.bool false)), (.c (.bool false)), (.c (.bool false)), (.c (.bool true))]) (
  .op (some 34) (.mv (.t 33)) (
  .dia 34 (
  .gop 34 true (some 35) (.load true 10 (.t 3)) (
  .gop 34 true (some 36) (.callV 34 [(.t 35), (.c (.int .i64 1)), (.c (.int .i64 200))]) (
  .done))) 37 (.t 34) (.t 36) (.c (.bool false)) none (
  .op (some 38) (.mv (.t 37)) (
  .dia 38 (
  .gop 38 true (some 39) (.load true 1 (.t 2)) (
  .gop 38 true (some 40) (.load true 10 (.t 3)) (
  .gop 38 true (some 41) (.mv (.t 5)) (
  .gop 38 true (some 42) (.callV 35 [(.t 39), (.t 40), (.c (.int .i64 0)), (.t 41)]) (
  .done))))) 43 (.t 38) (.t 42) (.c (.bool false)) none (
  .op (some 4) (.mv (.t 43)) (
  .done))))))))) (
  .ret)) (.seq (.reg (.op (some 45) (.bin .eql .num (.t 12) (.c (.int .i64 3))) (
  .op (some 44) (.mv (.t 45)) (
  .done)))) (
  .cond (.t 44) none (.seq (.reg (.op (some 46) (.load true 10 (.t 3)) (
  .op (some 47) (.callV 33 [(.t 46), (.c (.bool false)), (.c (.bool false)), (.c (.bool false)), (.c (.bool true))]) (
  .op (some 48) (.mv (.t 47)) (
  .dia 48 (
  .gop 48 true (some 49) (.load true 10 (.t 3)) (
  .gop 48 true (some 50) (.callV 34 [(.t 49), (.c (.int .i64 1)), (.c (.int .i64 1))]) (
  .done))) 51 (.t 48) (.t 50) (.c (.bool false)) none (
  .op (some 52) (.mv (.t 51)) (
  .dia 52 (
  .gop 52 true (some 53) (.mv (.t 5)) (
  .gop 52 true (some 54) (.bin .eql .num (.t 53) (.c (.int .i64 1))) (
  .done))) 55 (.t 52) (.t 54) (.c (.bool false)) none (
  .op (some 56) (.mv (.t 55)) (
  .dia 56 (
  .gop 56 true (some 57) (.load true 1 (.t 2)) (
  .gop 56 true (some 58) (.load true 10 (.t 3)) (
  .gop 56 true (some 59) (.callV 35 [(.t 57), (.t 58), (.c (.int .i64 0)), (.c (.int .i64 1))]) (
  .done)))) 60 (.t 56) (.t 59) (.c (.bool false)) none (
  .op (some 4) (.mv (.t 60)) (
  .done))))))))))) (
  .ret)) (.seq (.reg (.op (some 62) (.bin .eql .num (.t 12) (.c (.int .i64 4))) (
  .op (some 61) (.mv (.t 62)) (
  .done)))) (
  .cond (.t 61) none (.seq (.reg (.op (some 63) (.load true 10 (.t 3)) (
  .op (some 64) (.callV 33 [(.t 63), (.c (.bool false)), (.c (.bool false)), (.c (.bool false)), (.c (.bool true))]) (
  .op (some 65) (.mv (.t 64)) (
  .dia 65 (
  .gop 65 true (some 66) (.load true 10 (.t 3)) (
  .gop 65 true (some 67) (.callV 34 [(.t 66), (.c (.int .i64 1)), (.c (.int .i64 1))]) (
  .done))) 68 (.t 65) (.t 67) (.c (.bool false)) none (
  .op (some 69) (.mv (.t 68)) (
  .dia 69 (
  .gop 69 true (some 70) (.mv (.t 5)) (
  .gop 69 true (some 71) (.bin .eql .num (.t 70) (.c (.int .i64 1))) (
  .done))) 72 (.t 69) (.t 71) (.c (.bool false)) none (
  .op (some 73) (.mv (.t 72)) (
  .dia 73 (
  .gop 73 true (some 74) (.load true 1 (.t 2)) (
  .gop 73 true (some 75) (.load true 10 (.t 3)) (
  .gop 73 true (some 76) (.callV 32 [(.t 74), (.t 75), (.c (.int .i64 0))]) (
  .gop 73 true (some 77) (.bin .eql .num (.t 76) (.c (.int .i64 36))) (
  .done))))) 78 (.t 73) (.t 77) (.c (.bool false)) none (
  .op (some 4) (.mv (.t 78)) (
  .done))))))))))) (
  .ret)) (.seq (.reg (.op (some 80) (.bin .eql .num (.t 12) (.c (.int .i64 5))) (
  .op (some 79) (.mv (.t 80)) (
  .done)))) (
  .cond (.t 79) none (.seq (.seq (.reg (.op (some 81) (.load true 10 (.t 3)) (
  .op (some 82) (.callV 33 [(.t 81), (.c (.bool false)), (.c (.bool true)), (.c (.bool false)), (.c (.bool false))]) (
  .op (some 83) (.un .not (.t 82)) (
  .op (some 84) (.mv (.t 83)) (
  .dia 84 (
  .gop 84 false (some 85) (.fadd 5 (.t 3)) (
  .gop 84 false (some 86) (.load false 1 (.t 85)) (
  .gop 84 false (some 87) (.bin .lss .num (.t 86) (.c (.int .i64 1))) (
  .done)))) 88 (.t 84) (.c (.bool true)) (.t 87) none (
  .op (some 89) (.mv (.t 88)) (
  .dia 89 (
  .gop 89 false (some 90) (.fadd 5 (.t 3)) (
  .gop 89 false (some 91) (.load false 1 (.t 90)) (
  .gop 89 false (some 92) (.mv (.t 5)) (
  .gop 89 false (some 93) (.bin .geq .num (.t 91) (.t 92)) (
  .done))))) 94 (.t 89) (.c (.bool true)) (.t 93) none (
  .done))))))))) (
  .cond (.t 94) none (.seq (.reg (.op (some 4) (.mv (.c (.bool false))) (
  .done))) (
  .ret)) (.skip))) (
  .seq (.seq (.reg (.op (some 7) (.mv (.c (.int .i64 0))) (
  .done))) (
  .block 3 (some ⟨[], []⟩) (
  .loop ⟨[7], []⟩ (
  .seq (.seq (.reg (.op (some 95) (.mv (.t 7)) (
  .op (some 96) (.fadd 5 (.t 3)) (
  .op (some 97) (.load false 1 (.t 96)) (
  .op (some 98) (.bin .lss .num (.t 95) (.t 97)) (
  .done)))))) (
  .cond (.t 98) none (.skip) (.exit 3))) (
  .seq (.block 4 none (
  .seq (.reg (.op (some 101) (.load true 1 (.t 2)) (
  .op (some 102) (.load true 10 (.t 3)) (
  .op (some 103) (.mv (.t 7)) (
  .op (some 104) (.callV 32 [(.t 101), (.t 102), (.t 103)]) (
  .op (some 105) (.callV 36 [(.t 104)]) (
  .op (some 106) (.un .not (.t 105)) (
  .done)))))))) (
  .cond (.t 106) none (.seq (.reg (.op (some 4) (.mv (.c (.bool false))) (
  .done))) (
  .ret)) (.skip)))) (
  .reg (.op (some 99) (.mv (.t 7)) (
  .op (some 100) (.bin .add .num (.t 99) (.c (.int .i64 1))) (
  .op (some 7) (.mv (.t 100)) (
  .done)))))))))) (
  .seq (.reg (.op (some 107) (.load true 1 (.t 2)) (
  .op (some 108) (.load true 10 (.t 3)) (
  .op (some 109) (.fadd 5 (.t 3)) (
  .op (some 110) (.load false 1 (.t 109)) (
  .op (some 111) (.mv (.t 5)) (
  .op (some 112) (.callV 35 [(.t 107), (.t 108), (.t 110), (.t 111)]) (
  .op (some 4) (.mv (.t 112)) (
  .done))))))))) (
  .ret)))) (.seq (.seq (.reg (.op (some 114) (.bin .eql .num (.t 12) (.c (.int .i64 6))) (
  .op (some 113) (.mv (.t 114)) (
  .done)))) (
  .cond (.t 113) (some ⟨[113], []⟩) (.skip) (.reg (.op (some 115) (.bin .eql .num (.t 12) (.c (.int .i64 16))) (
  .op (some 113) (.mv (.t 115)) (
  .done)))))) (
  .cond (.t 113) none (.seq (.reg (.op (some 116) (.load true 10 (.t 3)) (
  .op (some 117) (.callV 33 [(.t 116), (.c (.bool false)), (.c (.bool false)), (.c (.bool false)), (.c (.bool false))]) (
  .op (some 118) (.mv (.t 117)) (
  .dia 118 (
  .gop 118 true (some 119) (.mv (.t 5)) (
  .gop 118 true (some 120) (.bin .eql .num (.t 119) (.c (.int .i64 1))) (
  .done))) 121 (.t 118) (.t 120) (.c (.bool false)) none (
  .op (some 122) (.mv (.t 121)) (
  .dia 122 (
  .gop 122 true (some 123) (.load true 1 (.t 2)) (
  .gop 122 true (some 124) (.load true 10 (.t 3)) (
  .gop 122 true (some 125) (.callV 32 [(.t 123), (.t 124), (.c (.int .i64 0))]) (
  .gop 122 true (some 126) (.bin .eql .num (.t 125) (.c (.int .i64 34))) (
  .done))))) 127 (.t 122) (.t 126) (.c (.bool false)) none (
  .op (some 4) (.mv (.t 127)) (
  .done))))))))) (
  .ret)) (.seq (.reg (.op (some 129) (.bin .eql .num (.t 12) (.c (.int .i64 7))) (
  .op (some 128) (.mv (.t 129)) (
  .done)))) (
  .cond (.t 128) none (.seq (.seq (.reg (.op (some 130) (.load true 10 (.t 3)) (
  .op (some 131) (.callV 33 [(.t 130), (.c (.bool false)), (.c (.bool false)), (.c (.bool false)), (.c (.bool false))]) (
  .op (some 132) (.un .not (.t 131)) (
  .op (some 133) (.mv (.t 132)) (
  .dia 133 (
  .gop 133 false (some 134) (.mv (.t 5)) (
  .gop 133 false (some 135) (.bin .lss .num (.t 134) (.c (.int .i64 2))) (
  .done))) 136 (.t 133) (.c (.bool true)) (.t 135) none (
  .op (some 137) (.mv (.t 136)) (
  .dia 137 (
  .gop 137 false (some 138) (.mv (.t 5)) (
  .gop 137 false (some 139) (.bin .gtr .num (.t 138) (.c (.int .i64 3))) (
  .done))) 140 (.t 137) (.c (.bool true)) (.t 139) none (
  .op (some 141) (.mv (.t 140)) (
  .dia 141 (
  .gop 141 false (some 142) (.load true 1 (.t 2)) (
  .gop 141 false (some 143) (.load true 10 (.t 3)) (
  .gop 141 false (some 144) (.callV 35 [(.t 142), (.t 143), (.c (.int .i64 0)), (.c (.int .i64 1))]) (
  .gop 141 false (some 145) (.un .not (.t 144)) (
  .done))))) 146 (.t 141) (.c (.bool true)) (.t 145) none (
  .op (some 147) (.mv (.t 146)) (
  .dia 147 (
  .gop 147 false (some 148) (.load true 1 (.t 2)) (
  .gop 147 false (some 149) (.load true 10 (.t 3)) (
  .gop 147 false (some 150) (.callV 32 [(.t 148), (.t 149), (.c (.int .i64 1))]) (
  .gop 147 false (some 151) (.bin .neq .num (.t 150) (.c (.int .i64 1))) (
  .done))))) 152 (.t 147) (.c (.bool true)) (.t 151) none (
  .done))))))))))))) (
  .cond (.t 152) none (.seq (.reg (.op (some 4) (.mv (.c (.bool false))) (
  .done))) (
  .ret)) (.skip))) (
  .seq (.reg (.op (some 153) (.mv (.t 5)) (
  .op (some 154) (.bin .eql .num (.t 153) (.c (.int .i64 2))) (
  .op (some 155) (.mv (.t 154)) (
  .dia 155 (
  .gop 155 false (some 156) (.load true 1 (.t 2)) (
  .gop 155 false (some 157) (.load true 10 (.t 3)) (
  .gop 155 false (some 158) (.callV 32 [(.t 156), (.t 157), (.c (.int .i64 2))]) (
  .gop 155 false (some 159) (.bin .eql .num (.t 158) (.c (.int .i64 1))) (
  .done))))) 160 (.t 155) (.c (.bool true)) (.t 159) none (
  .op (some 161) (.mv (.t 160)) (
  .dia 161 (
  .gop 161 false (some 162) (.load true 1 (.t 2)) (
  .gop 161 false (some 163) (.load true 10 (.t 3)) (
  .gop 161 false (some 164) (.callV 32 [(.t 162), (.t 163), (.c (.int .i64 2))]) (
  .gop 161 false (some 165) (.bin .eql .num (.t 164) (.c (.int .i64 7))) (
  .done))))) 166 (.t 161) (.c (.bool true)) (.t 165) none (
  .op (some 4) (.mv (.t 166)) (
  .done))))))))) (
  .ret))) (.seq (.reg (.op (some 168) (.bin .eql .num (.t 12) (.c (.int .i64 8))) (
  .op (some 167) (.mv (.t 168)) (
  .done)))) (
  .cond (.t 167) none (.seq (.reg (.op (some 169) (.load true 10 (.t 3)) (
  .op (some 170) (.callV 33 [(.t 169), (.c (.bool false)), (.c (.bool false)), (.c (.bool false)), (.c (.bool false))]) (
  .op (some 171) (.mv (.t 170)) (
  .dia 171 (
  .gop 171 true (some 172) (.mv (.t 5)) (
  .gop 171 true (some 173) (.bin .eql .num (.t 172) (.c (.int .i64 2))) (
  .done))) 174 (.t 171) (.t 173) (.c (.bool false)) none (
  .op (some 175) (.mv (.t 174)) (
  .dia 175 (
  .gop 175 true (some 176) (.load true 1 (.t 2)) (
  .gop 175 true (some 177) (.load true 10 (.t 3)) (
  .gop 175 true (some 178) (.callV 35 [(.t 176), (.t 177), (.c (.int .i64 0)), (.c (.int .i64 1))]) (
  .done)))) 179 (.t 175) (.t 178) (.c (.bool false)) none (
  .op (some 180) (.mv (.t 179)) (
  .dia 180 (
  .gop 180 true (some 181) (.load true 1 (.t 2)) (
  .gop 180 true (some 182) (.load true 10 (.t 3)) (
  .gop 180 true (some 183) (.callV 32 [(.t 181), (.t 182), (.c (.int .i64 1))]) (
  .gop 180 true (some 184) (.bin .eql .num (.t 183) (.c (.int .i64 1))) (
  .done))))) 185 (.t 180) (.t 184) (.c (.bool false)) none (
  .op (some 4) (.mv (.t 185)) (
  .done))))))))))) (
  .ret)) (.seq (.reg (.op (some 187) (.bin .eql .num (.t 12) (.c (.int .i64 9))) (
  .op (some 186) (.mv (.t 187)) (
  .done)))) (
  .cond (.t 186) none (.seq (.reg (.op (some 188) (.load true 10 (.t 3)) (
  .op (some 189) (.callV 33 [(.t 188), (.c (.bool false)), (.c (.bool false)), (.c (.bool false)), (.c (.bool true))]) (
  .op (some 190) (.mv (.t 189)) (
  .dia 190 (
  .gop 190 true (some 191) (.load true 10 (.t 3)) (
  .gop 190 true (some 192) (.callV 34 [(.t 191), (.c (.int .i64 1)), (.c (.int .i64 1))]) (
  .done))) 193 (.t 190) (.t 192) (.c (.bool false)) none (
  .op (some 194) (.mv (.t 193)) (
  .dia 194 (
  .gop 194 true (some 195) (.mv (.t 5)) (
  .gop 194 true (some 196) (.bin .eql .num (.t 195) (.c (.int .i64 3))) (
  .gop 194 true (some 197) (.mv (.t 196)) (
  .dia 197 (
  .gop 197 false (some 198) (.mv (.t 5)) (
  .gop 197 false (some 199) (.bin .eql .num (.t 198) (.c (.int .i64 4))) (
  .done))) 200 (.t 197) (.c (.bool true)) (.t 199) (some (194, true)) (
  .done))))) 201 (.t 194) (.t 200) (.c (.bool false)) none (
  .op (some 202) (.mv (.t 201)) (
  .dia 202 (
  .gop 202 true (some 203) (.load true 1 (.t 2)) (
  .gop 202 true (some 204) (.load true 10 (.t 3)) (
  .gop 202 true (some 205) (.mv (.t 5)) (
  .gop 202 true (some 206) (.bin .sub .num (.t 205) (.c (.int .i64 1))) (
  .gop 202 true (some 207) (.callV 35 [(.t 203), (.t 204), (.c (.int .i64 0)), (.t 206)]) (
  .done)))))) 208 (.t 202) (.t 207) (.c (.bool false)) none (
  .op (some 209) (.mv (.t 208)) (
  .dia 209 (
  .gop 209 true (some 210) (.load true 1 (.t 2)) (
  .gop 209 true (some 211) (.load true 10 (.t 3)) (
  .gop 209 true (some 212) (.mv (.t 5)) (
  .gop 209 true (some 213) (.bin .sub .num (.t 212) (.c (.int .i64 1))) (
  .gop 209 true (some 214) (.callV 32 [(.t 210), (.t 211), (.t 213)]) (
  .gop 209 true (some 215) (.bin .eql .num (.t 214) (.c (.int .i64 1))) (
  .done))))))) 216 (.t 209) (.t 215) (.c (.bool false)) none (
  .op (some 4) (.mv (.t 216)) (
  .done))))))))))))) (
  .ret)) (.seq (.reg (.op (some 218) (.bin .eql .num (.t 12) (.c (.int .i64 10))) (
  .op (some 217) (.mv (.t 218)) (
  .done)))) (
  .cond (.t 217) none (.seq (.reg (.op (some 219) (.load true 10 (.t 3)) (
  .op (some 220) (.callV 33 [(.t 219), (.c (.bool false)), (.c (.bool false)), (.c (.bool false)), (.c (.bool true))]) (
  .op (some 221) (.mv (.t 220)) (
  .dia 221 (
  .gop 221 true (some 222) (.load true 10 (.t 3)) (
  .gop 221 true (some 223) (.callV 34 [(.t 222), (.c (.int .i64 1)), (.c (.int .i64 200))]) (
  .done))) 224 (.t 221) (.t 223) (.c (.bool false)) none (
  .op (some 225) (.mv (.t 224)) (
  .dia 225 (
  .gop 225 true (some 226) (.mv (.t 5)) (
  .gop 225 true (some 227) (.bin .eql .num (.t 226) (.c (.int .i64 2))) (
  .done))) 228 (.t 225) (.t 227) (.c (.bool false)) none (
  .op (some 229) (.mv (.t 228)) (
  .dia 229 (
  .gop 229 true (some 230) (.load true 1 (.t 2)) (
  .gop 229 true (some 231) (.load true 10 (.t 3)) (
  .gop 229 true (some 232) (.callV 35 [(.t 230), (.t 231), (.c (.int .i64 0)), (.c (.int .i64 1))]) (
  .done)))) 233 (.t 229) (.t 232) (.c (.bool false)) none (
  .op (some 234) (.mv (.t 233)) (
  .dia 234 (
  .gop 234 true (some 235) (.load true 1 (.t 2)) (
  .gop 234 true (some 236) (.load true 10 (.t 3)) (
  .gop 234 true (some 237) (.callV 32 [(.t 235), (.t 236), (.c (.int .i64 1))]) (
  .gop 234 true (some 238) (.bin .eql .num (.t 237) (.c (.int .i64 1))) (
  .done))))) 239 (.t 234) (.t 238) (.c (.bool false)) none (
  .op (some 4) (.mv (.t 239)) (
  .done))))))))))))) (
  .ret)) (.seq (.seq (.reg (.op (some 241) (.bin .eql .num (.t 12) (.c (.int .i64 11))) (
  .op (some 240) (.mv (.t 241)) (
  .done)))) (
  .cond (.t 240) (some ⟨[240], []⟩) (.skip) (.reg (.op (some 242) (.bin .eql .num (.t 12) (.c (.int .i64 12))) (
  .op (some 240) (.mv (.t 242)) (
  .done)))))) (
  .cond (.t 240) none (.seq (.reg (.op (some 243) (.load true 10 (.t 3)) (
  .op (some 244) (.callV 33 [(.t 243), (.c (.bool false)), (.c (.bool false)), (.c (.bool false)), (.c (.bool false))]) (
  .op (some 245) (.mv (.t 244)) (
  .dia 245 (
  .gop 245 true (some 246) (.mv (.t 5)) (
  .gop 245 true (some 247) (.bin .eql .num (.t 246) (.c (.int .i64 0))) (
  .done))) 248 (.t 245) (.t 247) (.c (.bool false)) none (
  .op (some 4) (.mv (.t 248)) (
  .done))))))) (
  .ret)) (.seq (.reg (.op (some 250) (.bin .eql .num (.t 12) (.c (.int .i64 13))) (
  .op (some 249) (.mv (.t 250)) (
  .done)))) (
  .cond (.t 249) none (.seq (.reg (.op (some 251) (.load true 10 (.t 3)) (
  .op (some 252) (.callV 33 [(.t 251), (.c (.bool false)), (.c (.bool false)), (.c (.bool false)), (.c (.bool false))]) (
  .op (some 253) (.mv (.t 252)) (
  .dia 253 (
  .gop 253 true (some 254) (.load true 1 (.t 2)) (
  .gop 253 true (some 255) (.load true 10 (.t 3)) (
  .gop 253 true (some 256) (.mv (.t 5)) (
  .gop 253 true (some 257) (.callV 35 [(.t 254), (.t 255), (.c (.int .i64 0)), (.t 256)]) (
  .done))))) 258 (.t 253) (.t 257) (.c (.bool false)) none (
  .op (some 4) (.mv (.t 258)) (
  .done))))))) (
  .ret)) (.seq (.reg (.op (some 260) (.bin .eql .num (.t 12) (.c (.int .i64 14))) (
  .op (some 259) (.mv (.t 260)) (
  .done)))) (
  .cond (.t 259) none (.seq (.reg (.op (some 261) (.load true 10 (.t 3)) (
  .op (some 262) (.callV 33 [(.t 261), (.c (.bool false)), (.c (.bool false)), (.c (.bool false)), (.c (.bool true))]) (
  .op (some 263) (.mv (.t 262)) (
  .dia 263 (
  .gop 263 true (some 264) (.load true 10 (.t 3)) (
  .gop 263 true (some 265) (.callV 34 [(.t 264), (.c (.int .i64 1)), (.c (.int .i64 2))]) (
  .done))) 266 (.t 263) (.t 265) (.c (.bool false)) none (
  .op (some 267) (.mv (.t 266)) (
  .dia 267 (
  .gop 267 true (some 268) (.mv (.t 5)) (
  .gop 267 true (some 269) (.bin .eql .num (.t 268) (.c (.int .i64 2))) (
  .done))) 270 (.t 267) (.t 269) (.c (.bool false)) none (
  .op (some 271) (.mv (.t 270)) (
  .dia 271 (
  .gop 271 true (some 272) (.load true 1 (.t 2)) (
  .gop 271 true (some 273) (.load true 10 (.t 3)) (
  .gop 271 true (some 274) (.callV 32 [(.t 272), (.t 273), (.c (.int .i64 0))]) (
  .gop 271 true (some 275) (.bin .eql .num (.t 274) (.c (.int .i64 1))) (
  .done))))) 276 (.t 271) (.t 275) (.c (.bool false)) none (
  .op (some 277) (.mv (.t 276)) (
  .dia 277 (
  .gop 277 true (some 278) (.load true 1 (.t 2)) (
  .gop 277 true (some 279) (.load true 10 (.t 3)) (
  .gop 277 true (some 280) (.callV 32 [(.t 278), (.t 279), (.c (.int .i64 1))]) (
  .gop 277 true (some 281) (.bin .eql .num (.t 280) (.c (.int .i64 1))) (
  .done))))) 282 (.t 277) (.t 281) (.c (.bool false)) none (
  .op (some 4) (.mv (.t 282)) (
  .done))))))))))))) (
  .ret)) (.skip))))))))))))))))))))))))))))) (
  .seq (.reg (.op (some 283) (.fadd 0 (.t 3)) (
  .op (some 284) (.load false 1 (.t 283)) (
  .op (some 285) (.bin .eql .num (.t 284) (.c (.int .i64 15))) (
  .op (some 286) (.mv (.t 285)) (
  .dia 286 (
  .gop 286 true (some 287) (.load true 10 (.t 3)) (
  .gop 286 true (some 288) (.callV 33 [(.t 287), (.c (.bool false)), (.c (.bool false)), (.c (.bool false)), (.c (.bool false))]) (
  .done))) 289 (.t 286) (.t 288) (.c (.bool false)) none (
  .op (some 290) (.mv (.t 289)) (
  .dia 290 (
  .gop 290 true (some 291) (.mv (.t 5)) (
  .gop 290 true (some 292) (.bin .eql .num (.t 291) (.c (.int .i64 1))) (
  .done))) 293 (.t 290) (.t 292) (.c (.bool false)) none (
  .op (some 294) (.mv (.t 293)) (
  .dia 294 (
  .gop 294 true (some 295) (.load true 1 (.t 2)) (
  .gop 294 true (some 296) (.load true 10 (.t 3)) (
  .gop 294 true (some 297) (.callV 35 [(.t 295), (.t 296), (.c (.int .i64 0)), (.c (.int .i64 1))]) (
  .done)))) 298 (.t 294) (.t 297) (.c (.bool false)) none (
  .op (some 4) (.mv (.t 298)) (
  .done)))))))))))) (
  .ret))))⟩
noncomputable def lp_spec_l6statement_1 (D : Ctx) (a1 : AV) (a0 : AV) (k_83 : Cur 0) : Cur 1 → Cur 1 :=
  fun go_90 i_88 s_89 =>
  (rd1 D.G (.pptr (AV.cells a1) 5) s_89).bind fun t_91 =>
  (bin .lss .num i_88 t_91).bind fun t_92 =>
  aCase t_92
  ((rdN 1 (.pptr (AV.cells a0) 0) s_89).bind fun t_93 =>
  (rdN 10 (.pptr (AV.cells a1) 0) s_89).bind fun t_94 =>
  (callV D 32 [(.agg t_93), (.agg t_94), i_88] s_89).bind fun t_95 =>
  (callV D 36 [t_95] s_89).bind fun t_96 =>
  (un .not t_96).bind fun t_97 =>
  aCase t_97
  (some ((.bool false), s_89))
  ((bin .add .num i_88 (.int .i64 1)).bind fun t_98 =>
  go_90 t_98 s_89))
  (k_83  s_89)
theorem lp_spec_l6statement_1_le {D : Ctx} (a1 : AV) (a0 : AV) (k_83 : Cur 0) {k_83' : Cur 0} (hk_83 : Cle k_83 k_83') {u u' : Cur 1} (h : Cle u u') : Cle (lp_spec_l6statement_1 D a1 a0 k_83 u) (lp_spec_l6statement_1 D a1 a0 k_83' u') := by
  unfold lp_spec_l6statement_1
  repeat (first
    | with_reducible refine Ole.bindr fun _ => ?_
    | with_reducible refine Ole.aCase ?_ ?_
    | refine Ole.jn ?_ (fun _ _ _ => ?_)
    | refine Cle.succ fun _ => ?_
    | refine Cle.zero fun _ => ?_
    | exact Cle.use0 (by assumption)
    | exact Cle.use1 (by assumption)
    | with_reducible exact Ole.refl _)
theorem lp_spec_l6statement_1_mono (D : Ctx) (a1 : AV) (a0 : AV) (k_83 : Cur 0) : Mono (lp_spec_l6statement_1 D a1 a0 k_83) := fun _ _ h => lp_spec_l6statement_1_le a1 a0 k_83 (Cle.refl _) h
noncomputable def lp_spec_l6statement_2 (D : Ctx) (t_6 : AV) (a0 : AV) (a1 : AV) (k_8 : Cur 0) : Cur 1 → Cur 1 :=
  fun go_13 t_11 s_12 =>
  (bin .lss .num t_11 t_6).bind fun t_14 =>
  aCase t_14
  ((rdN 1 (.pptr (AV.cells a0) 0) s_12).bind fun t_15 =>
  (rdN 10 (.pptr (AV.cells a1) 0) s_12).bind fun t_16 =>
  (callV D 32 [(.agg t_15), (.agg t_16), t_11] s_12).bind fun t_17 =>
  (callV D 17 [t_17] s_12).bind fun t_18 =>
  (un .not t_18).bind fun t_19 =>
  aCase t_19
  (some ((.bool false), s_12))
  ((bin .add .num t_11 (.int .i64 1)).bind fun t_20 =>
  go_13 t_20 s_12))
  (k_8  s_12)
theorem lp_spec_l6statement_2_le {D : Ctx} (t_6 : AV) (a0 : AV) (a1 : AV) (k_8 : Cur 0) {k_8' : Cur 0} (hk_8 : Cle k_8 k_8') {u u' : Cur 1} (h : Cle u u') : Cle (lp_spec_l6statement_2 D t_6 a0 a1 k_8 u) (lp_spec_l6statement_2 D t_6 a0 a1 k_8' u') := by
  unfold lp_spec_l6statement_2
  repeat (first
    | with_reducible refine Ole.bindr fun _ => ?_
    | with_reducible refine Ole.aCase ?_ ?_
    | refine Ole.jn ?_ (fun _ _ _ => ?_)
    | refine Cle.succ fun _ => ?_
    | refine Cle.zero fun _ => ?_
    | exact Cle.use0 (by assumption)
    | exact Cle.use1 (by assumption)
    | with_reducible exact Ole.refl _)
theorem lp_spec_l6statement_2_mono (D : Ctx) (t_6 : AV) (a0 : AV) (a1 : AV) (k_8 : Cur 0) : Mono (lp_spec_l6statement_2 D t_6 a0 a1 k_8) := fun _ _ h => lp_spec_l6statement_2_le t_6 a0 a1 k_8 (Cle.refl _) h
noncomputable def sh_spec_l6statement (D : Ctx) (a0 a1 : AV) (σ : Store) : Res :=
  (rd1 D.G (.pptr (AV.cells a1) 9) σ).bind fun t_1 =>
  (lenV .sl t_1 σ).bind fun t_2 =>
  (rd1 D.G (.pptr (AV.cells a1) 0) σ).bind fun t_3 =>
  (bin .eql .num t_3 (.int .i64 1)).bind fun t_4 =>
  aCase t_4
  ((rd1 D.G (.pptr (AV.cells a1) 9) σ).bind fun t_5 =>
  (lenV .sl t_5 σ).bind fun t_6 =>
  jn 0 (fun  s_7 =>
  (rdN 10 (.pptr (AV.cells a1) 0) s_7).bind fun t_9 =>
  (callV D 33 [(.agg t_9), (.bool false), (.bool false), (.bool false), (.bool false)] s_7).bind fun t_10 =>
  some (t_10, s_7))
  (fun k_8 =>
  lpFix 1 (lp_spec_l6statement_2 D t_6 a0 a1 k_8) (.int .i64 0) σ))
  ((bin .eql .num t_3 (.int .i64 2)).bind fun t_21 =>
  aCase t_21
  ((rdN 10 (.pptr (AV.cells a1) 0) σ).bind fun t_22 =>
  (callV D 33 [(.agg t_22), (.bool false), (.bool false), (.bool false), (.bool true)] σ).bind fun t_23 =>
  jn 1 (fun t_24 s_25 =>
  jn 1 (fun t_27 s_28 =>
  some (t_27, s_28))
  (fun j_29 =>
  aCase t_24
  ((rdN 1 (.pptr (AV.cells a0) 0) s_25).bind fun t_30 =>
  (rdN 10 (.pptr (AV.cells a1) 0) s_25).bind fun t_31 =>
  (callV D 35 [(.agg t_30), (.agg t_31), (.int .i64 0), t_2] s_25).bind fun t_32 =>
  j_29 t_32 s_25)
  (j_29 (.bool false) s_25)))
  (fun j_26 =>
  aCase t_23
  ((rdN 10 (.pptr (AV.cells a1) 0) σ).bind fun t_33 =>
  (callV D 34 [(.agg t_33), (.int .i64 1), (.int .i64 200)] σ).bind fun t_34 =>
  j_26 t_34 σ)
  (j_26 (.bool false) σ)))
  ((bin .eql .num t_3 (.int .i64 3)).bind fun t_35 =>
  aCase t_35
  ((rdN 10 (.pptr (AV.cells a1) 0) σ).bind fun t_36 =>
  (callV D 33 [(.agg t_36), (.bool false), (.bool false), (.bool false), (.bool true)] σ).bind fun t_37 =>
  jn 1 (fun t_38 s_39 =>
  jn 1 (fun t_41 s_42 =>
  jn 1 (fun t_44 s_45 =>
  some (t_44, s_45))
  (fun j_46 =>
  aCase t_41
  ((rdN 1 (.pptr (AV.cells a0) 0) s_42).bind fun t_47 =>
  (rdN 10 (.pptr (AV.cells a1) 0) s_42).bind fun t_48 =>
  (callV D 35 [(.agg t_47), (.agg t_48), (.int .i64 0), (.int .i64 1)] s_42).bind fun t_49 =>
  j_46 t_49 s_42)
  (j_46 (.bool false) s_42)))
  (fun j_43 =>
  aCase t_38
  ((bin .eql .num t_2 (.int .i64 1)).bind fun t_50 =>
  j_43 t_50 s_39)
  (j_43 (.bool false) s_39)))
  (fun j_40 =>
  aCase t_37
  ((rdN 10 (.pptr (AV.cells a1) 0) σ).bind fun t_51 =>
  (callV D 34 [(.agg t_51), (.int .i64 1), (.int .i64 1)] σ).bind fun t_52 =>
  j_40 t_52 σ)
  (j_40 (.bool false) σ)))
  ((bin .eql .num t_3 (.int .i64 4)).bind fun t_53 =>
  aCase t_53
  ((rdN 10 (.pptr (AV.cells a1) 0) σ).bind fun t_54 =>
  (callV D 33 [(.agg t_54), (.bool false), (.bool false), (.bool false), (.bool true)] σ).bind fun t_55 =>
  jn 1 (fun t_56 s_57 =>
  jn 1 (fun t_59 s_60 =>
  jn 1 (fun t_62 s_63 =>
  some (t_62, s_63))
  (fun j_64 =>
  aCase t_59
  ((rdN 1 (.pptr (AV.cells a0) 0) s_60).bind fun t_65 =>
  (rdN 10 (.pptr (AV.cells a1) 0) s_60).bind fun t_66 =>
  (callV D 32 [(.agg t_65), (.agg t_66), (.int .i64 0)] s_60).bind fun t_67 =>
  (bin .eql .num t_67 (.int .i64 36)).bind fun t_68 =>
  j_64 t_68 s_60)
  (j_64 (.bool false) s_60)))
  (fun j_61 =>
  aCase t_56
  ((bin .eql .num t_2 (.int .i64 1)).bind fun t_69 =>
  j_61 t_69 s_57)
  (j_61 (.bool false) s_57)))
  (fun j_58 =>
  aCase t_55
  ((rdN 10 (.pptr (AV.cells a1) 0) σ).bind fun t_70 =>
  (callV D 34 [(.agg t_70), (.int .i64 1), (.int .i64 1)] σ).bind fun t_71 =>
  j_58 t_71 σ)
  (j_58 (.bool false) σ)))
  ((bin .eql .num t_3 (.int .i64 5)).bind fun t_72 =>
  aCase t_72
  ((rdN 10 (.pptr (AV.cells a1) 0) σ).bind fun t_73 =>
  (callV D 33 [(.agg t_73), (.bool false), (.bool true), (.bool false), (.bool false)] σ).bind fun t_74 =>
  (un .not t_74).bind fun t_75 =>
  jn 1 (fun t_76 s_77 =>
  jn 1 (fun t_79 s_80 =>
  aCase t_79
  (some ((.bool false), s_80))
  (jn 0 (fun  s_82 =>
  (rdN 1 (.pptr (AV.cells a0) 0) s_82).bind fun t_84 =>
  (rdN 10 (.pptr (AV.cells a1) 0) s_82).bind fun t_85 =>
  (rd1 D.G (.pptr (AV.cells a1) 5) s_82).bind fun t_86 =>
  (callV D 35 [(.agg t_84), (.agg t_85), t_86, t_2] s_82).bind fun t_87 =>
  some (t_87, s_82))
  (fun k_83 =>
  lpFix 1 (lp_spec_l6statement_1 D a1 a0 k_83) (.int .i64 0) s_80)))
  (fun j_81 =>
  aCase t_76
  (j_81 (.bool true) s_77)
  ((rd1 D.G (.pptr (AV.cells a1) 5) s_77).bind fun t_99 =>
  (bin .geq .num t_99 t_2).bind fun t_100 =>
  j_81 t_100 s_77)))
  (fun j_78 =>
  aCase t_75
  (j_78 (.bool true) σ)
  ((rd1 D.G (.pptr (AV.cells a1) 5) σ).bind fun t_101 =>
  (bin .lss .num t_101 (.int .i64 1)).bind fun t_102 =>
  j_78 t_102 σ)))
  ((bin .eql .num t_3 (.int .i64 6)).bind fun t_103 =>
  jn 1 (fun t_104 s_105 =>
  aCase t_104
  ((rdN 10 (.pptr (AV.cells a1) 0) s_105).bind fun t_107 =>
  (callV D 33 [(.agg t_107), (.bool false), (.bool false), (.bool false), (.bool false)] s_105).bind fun t_108 =>
  jn 1 (fun t_109 s_110 =>
  jn 1 (fun t_112 s_113 =>
  some (t_112, s_113))
  (fun j_114 =>
  aCase t_109
  ((rdN 1 (.pptr (AV.cells a0) 0) s_110).bind fun t_115 =>
  (rdN 10 (.pptr (AV.cells a1) 0) s_110).bind fun t_116 =>
  (callV D 32 [(.agg t_115), (.agg t_116), (.int .i64 0)] s_110).bind fun t_117 =>
  (bin .eql .num t_117 (.int .i64 34)).bind fun t_118 =>
  j_114 t_118 s_110)
  (j_114 (.bool false) s_110)))
  (fun j_111 =>
  aCase t_108
  ((bin .eql .num t_2 (.int .i64 1)).bind fun t_119 =>
  j_111 t_119 s_105)
  (j_111 (.bool false) s_105)))
  ((bin .eql .num t_3 (.int .i64 7)).bind fun t_120 =>
  aCase t_120
  ((rdN 10 (.pptr (AV.cells a1) 0) s_105).bind fun t_121 =>
  (callV D 33 [(.agg t_121), (.bool false), (.bool false), (.bool false), (.bool false)] s_105).bind fun t_122 =>
  (un .not t_122).bind fun t_123 =>
  jn 1 (fun t_124 s_125 =>
  jn 1 (fun t_127 s_128 =>
  jn 1 (fun t_130 s_131 =>
  jn 1 (fun t_133 s_134 =>
  aCase t_133
  (some ((.bool false), s_134))
  ((bin .eql .num t_2 (.int .i64 2)).bind fun t_136 =>
  jn 1 (fun t_137 s_138 =>
  jn 1 (fun t_140 s_141 =>
  some (t_140, s_141))
  (fun j_142 =>
  aCase t_137
  (j_142 (.bool true) s_138)
  ((rdN 1 (.pptr (AV.cells a0) 0) s_138).bind fun t_143 =>
  (rdN 10 (.pptr (AV.cells a1) 0) s_138).bind fun t_144 =>
  (callV D 32 [(.agg t_143), (.agg t_144), (.int .i64 2)] s_138).bind fun t_145 =>
  (bin .eql .num t_145 (.int .i64 7)).bind fun t_146 =>
  j_142 t_146 s_138)))
  (fun j_139 =>
  aCase t_136
  (j_139 (.bool true) s_134)
  ((rdN 1 (.pptr (AV.cells a0) 0) s_134).bind fun t_147 =>
  (rdN 10 (.pptr (AV.cells a1) 0) s_134).bind fun t_148 =>
  (callV D 32 [(.agg t_147), (.agg t_148), (.int .i64 2)] s_134).bind fun t_149 =>
  (bin .eql .num t_149 (.int .i64 1)).bind fun t_150 =>
  j_139 t_150 s_134))))
  (fun j_135 =>
  aCase t_130
  (j_135 (.bool true) s_131)
  ((rdN 1 (.pptr (AV.cells a0) 0) s_131).bind fun t_151 =>
  (rdN 10 (.pptr (AV.cells a1) 0) s_131).bind fun t_152 =>
  (callV D 32 [(.agg t_151), (.agg t_152), (.int .i64 1)] s_131).bind fun t_153 =>
  (bin .neq .num t_153 (.int .i64 1)).bind fun t_154 =>
  j_135 t_154 s_131)))
  (fun j_132 =>
  aCase t_127
  (j_132 (.bool true) s_128)
  ((rdN 1 (.pptr (AV.cells a0) 0) s_128).bind fun t_155 =>
  (rdN 10 (.pptr (AV.cells a1) 0) s_128).bind fun t_156 =>
  (callV D 35 [(.agg t_155), (.agg t_156), (.int .i64 0), (.int .i64 1)] s_128).bind fun t_157 =>
  (un .not t_157).bind fun t_158 =>
  j_132 t_158 s_128)))
  (fun j_129 =>
  aCase t_124
  (j_129 (.bool true) s_125)
  ((bin .gtr .num t_2 (.int .i64 3)).bind fun t_159 =>
  j_129 t_159 s_125)))
  (fun j_126 =>
  aCase t_123
  (j_126 (.bool true) s_105)
  ((bin .lss .num t_2 (.int .i64 2)).bind fun t_160 =>
  j_126 t_160 s_105)))
  ((bin .eql .num t_3 (.int .i64 8)).bind fun t_161 =>
  aCase t_161
  ((rdN 10 (.pptr (AV.cells a1) 0) s_105).bind fun t_162 =>
  (callV D 33 [(.agg t_162), (.bool false), (.bool false), (.bool false), (.bool false)] s_105).bind fun t_163 =>
  jn 1 (fun t_164 s_165 =>
  jn 1 (fun t_167 s_168 =>
  jn 1 (fun t_170 s_171 =>
  some (t_170, s_171))
  (fun j_172 =>
  aCase t_167
  ((rdN 1 (.pptr (AV.cells a0) 0) s_168).bind fun t_173 =>
  (rdN 10 (.pptr (AV.cells a1) 0) s_168).bind fun t_174 =>
  (callV D 32 [(.agg t_173), (.agg t_174), (.int .i64 1)] s_168).bind fun t_175 =>
  (bin .eql .num t_175 (.int .i64 1)).bind fun t_176 =>
  j_172 t_176 s_168)
  (j_172 (.bool false) s_168)))
  (fun j_169 =>
  aCase t_164
  ((rdN 1 (.pptr (AV.cells a0) 0) s_165).bind fun t_177 =>
  (rdN 10 (.pptr (AV.cells a1) 0) s_165).bind fun t_178 =>
  (callV D 35 [(.agg t_177), (.agg t_178), (.int .i64 0), (.int .i64 1)] s_165).bind fun t_179 =>
  j_169 t_179 s_165)
  (j_169 (.bool false) s_165)))
  (fun j_166 =>
  aCase t_163
  ((bin .eql .num t_2 (.int .i64 2)).bind fun t_180 =>
  j_166 t_180 s_105)
  (j_166 (.bool false) s_105)))
  ((bin .eql .num t_3 (.int .i64 9)).bind fun t_181 =>
  aCase t_181
  ((rdN 10 (.pptr (AV.cells a1) 0) s_105).bind fun t_182 =>
  (callV D 33 [(.agg t_182), (.bool false), (.bool false), (.bool false), (.bool true)] s_105).bind fun t_183 =>
  jn 1 (fun t_184 s_185 =>
  jn 1 (fun t_187 s_188 =>
  jn 1 (fun t_190 s_191 =>
  jn 1 (fun t_193 s_194 =>
  some (t_193, s_194))
  (fun j_195 =>
  aCase t_190
  ((rdN 1 (.pptr (AV.cells a0) 0) s_191).bind fun t_196 =>
  (rdN 10 (.pptr (AV.cells a1) 0) s_191).bind fun t_197 =>
  (bin .sub .num t_2 (.int .i64 1)).bind fun t_198 =>
  (callV D 32 [(.agg t_196), (.agg t_197), t_198] s_191).bind fun t_199 =>
  (bin .eql .num t_199 (.int .i64 1)).bind fun t_200 =>
  j_195 t_200 s_191)
  (j_195 (.bool false) s_191)))
  (fun j_192 =>
  aCase t_187
  ((rdN 1 (.pptr (AV.cells a0) 0) s_188).bind fun t_201 =>
  (rdN 10 (.pptr (AV.cells a1) 0) s_188).bind fun t_202 =>
  (bin .sub .num t_2 (.int .i64 1)).bind fun t_203 =>
  (callV D 35 [(.agg t_201), (.agg t_202), (.int .i64 0), t_203] s_188).bind fun t_204 =>
  j_192 t_204 s_188)
  (j_192 (.bool false) s_188)))
  (fun j_189 =>
  aCase t_184
  ((bin .eql .num t_2 (.int .i64 3)).bind fun t_205 =>
  jn 1 (fun t_206 s_207 =>
  j_189 t_206 s_207)
  (fun j_208 =>
  aCase t_205
  (j_208 (.bool true) s_185)
  ((bin .eql .num t_2 (.int .i64 4)).bind fun t_209 =>
  j_208 t_209 s_185)))
  (j_189 (.bool false) s_185)))
  (fun j_186 =>
  aCase t_183
  ((rdN 10 (.pptr (AV.cells a1) 0) s_105).bind fun t_210 =>
  (callV D 34 [(.agg t_210), (.int .i64 1), (.int .i64 1)] s_105).bind fun t_211 =>
  j_186 t_211 s_105)
  (j_186 (.bool false) s_105)))
  ((bin .eql .num t_3 (.int .i64 10)).bind fun t_212 =>
  aCase t_212
  ((rdN 10 (.pptr (AV.cells a1) 0) s_105).bind fun t_213 =>
  (callV D 33 [(.agg t_213), (.bool false), (.bool false), (.bool false), (.bool true)] s_105).bind fun t_214 =>
  jn 1 (fun t_215 s_216 =>
  jn 1 (fun t_218 s_219 =>
  jn 1 (fun t_221 s_222 =>
  jn 1 (fun t_224 s_225 =>
  some (t_224, s_225))
  (fun j_226 =>
  aCase t_221
  ((rdN 1 (.pptr (AV.cells a0) 0) s_222).bind fun t_227 =>
  (rdN 10 (.pptr (AV.cells a1) 0) s_222).bind fun t_228 =>
  (callV D 32 [(.agg t_227), (.agg t_228), (.int .i64 1)] s_222).bind fun t_229 =>
  (bin .eql .num t_229 (.int .i64 1)).bind fun t_230 =>
  j_226 t_230 s_222)
  (j_226 (.bool false) s_222)))
  (fun j_223 =>
  aCase t_218
  ((rdN 1 (.pptr (AV.cells a0) 0) s_219).bind fun t_231 =>
  (rdN 10 (.pptr (AV.cells a1) 0) s_219).bind fun t_232 =>
  (callV D 35 [(.agg t_231), (.agg t_232), (.int .i64 0), (.int .i64 1)] s_219).bind fun t_233 =>
  j_223 t_233 s_219)
  (j_223 (.bool false) s_219)))
  (fun j_220 =>
  aCase t_215
  ((bin .eql .num t_2 (.int .i64 2)).bind fun t_234 =>
  j_220 t_234 s_216)
  (j_220 (.bool false) s_216)))
  (fun j_217 =>
  aCase t_214
  ((rdN 10 (.pptr (AV.cells a1) 0) s_105).bind fun t_235 =>
  (callV D 34 [(.agg t_235), (.int .i64 1), (.int .i64 200)] s_105).bind fun t_236 =>
  j_217 t_236 s_105)
  (j_217 (.bool false) s_105)))
  ((bin .eql .num t_3 (.int .i64 11)).bind fun t_237 =>
  jn 1 (fun t_238 s_239 =>
  aCase t_238
  ((rdN 10 (.pptr (AV.cells a1) 0) s_239).bind fun t_241 =>
  (callV D 33 [(.agg t_241), (.bool false), (.bool false), (.bool false), (.bool false)] s_239).bind fun t_242 =>
  jn 1 (fun t_243 s_244 =>
  some (t_243, s_244))
  (fun j_245 =>
  aCase t_242
  ((bin .eql .num t_2 (.int .i64 0)).bind fun t_246 =>
  j_245 t_246 s_239)
  (j_245 (.bool false) s_239)))
  ((bin .eql .num t_3 (.int .i64 13)).bind fun t_247 =>
  aCase t_247
  ((rdN 10 (.pptr (AV.cells a1) 0) s_239).bind fun t_248 =>
  (callV D 33 [(.agg t_248), (.bool false), (.bool false), (.bool false), (.bool false)] s_239).bind fun t_249 =>
  jn 1 (fun t_250 s_251 =>
  some (t_250, s_251))
  (fun j_252 =>
  aCase t_249
  ((rdN 1 (.pptr (AV.cells a0) 0) s_239).bind fun t_253 =>
  (rdN 10 (.pptr (AV.cells a1) 0) s_239).bind fun t_254 =>
  (callV D 35 [(.agg t_253), (.agg t_254), (.int .i64 0), t_2] s_239).bind fun t_255 =>
  j_252 t_255 s_239)
  (j_252 (.bool false) s_239)))
  ((bin .eql .num t_3 (.int .i64 14)).bind fun t_256 =>
  aCase t_256
  ((rdN 10 (.pptr (AV.cells a1) 0) s_239).bind fun t_257 =>
  (callV D 33 [(.agg t_257), (.bool false), (.bool false), (.bool false), (.bool true)] s_239).bind fun t_258 =>
  jn 1 (fun t_259 s_260 =>
  jn 1 (fun t_262 s_263 =>
  jn 1 (fun t_265 s_266 =>
  jn 1 (fun t_268 s_269 =>
  some (t_268, s_269))
  (fun j_270 =>
  aCase t_265
  ((rdN 1 (.pptr (AV.cells a0) 0) s_266).bind fun t_271 =>
  (rdN 10 (.pptr (AV.cells a1) 0) s_266).bind fun t_272 =>
  (callV D 32 [(.agg t_271), (.agg t_272), (.int .i64 1)] s_266).bind fun t_273 =>
  (bin .eql .num t_273 (.int .i64 1)).bind fun t_274 =>
  j_270 t_274 s_266)
  (j_270 (.bool false) s_266)))
  (fun j_267 =>
  aCase t_262
  ((rdN 1 (.pptr (AV.cells a0) 0) s_263).bind fun t_275 =>
  (rdN 10 (.pptr (AV.cells a1) 0) s_263).bind fun t_276 =>
  (callV D 32 [(.agg t_275), (.agg t_276), (.int .i64 0)] s_263).bind fun t_277 =>
  (bin .eql .num t_277 (.int .i64 1)).bind fun t_278 =>
  j_267 t_278 s_263)
  (j_267 (.bool false) s_263)))
  (fun j_264 =>
  aCase t_259
  ((bin .eql .num t_2 (.int .i64 2)).bind fun t_279 =>
  j_264 t_279 s_260)
  (j_264 (.bool false) s_260)))
  (fun j_261 =>
  aCase t_258
  ((rdN 10 (.pptr (AV.cells a1) 0) s_239).bind fun t_280 =>
  (callV D 34 [(.agg t_280), (.int .i64 1), (.int .i64 2)] s_239).bind fun t_281 =>
  j_261 t_281 s_239)
  (j_261 (.bool false) s_239)))
  ((rd1 D.G (.pptr (AV.cells a1) 0) s_239).bind fun t_282 =>
  (bin .eql .num t_282 (.int .i64 15)).bind fun t_283 =>
  jn 1 (fun t_284 s_285 =>
  jn 1 (fun t_287 s_288 =>
  jn 1 (fun t_290 s_291 =>
  some (t_290, s_291))
  (fun j_292 =>
  aCase t_287
  ((rdN 1 (.pptr (AV.cells a0) 0) s_288).bind fun t_293 =>
  (rdN 10 (.pptr (AV.cells a1) 0) s_288).bind fun t_294 =>
  (callV D 35 [(.agg t_293), (.agg t_294), (.int .i64 0), (.int .i64 1)] s_288).bind fun t_295 =>
  j_292 t_295 s_288)
  (j_292 (.bool false) s_288)))
  (fun j_289 =>
  aCase t_284
  ((bin .eql .num t_2 (.int .i64 1)).bind fun t_296 =>
  j_289 t_296 s_285)
  (j_289 (.bool false) s_285)))
  (fun j_286 =>
  aCase t_283
  ((rdN 10 (.pptr (AV.cells a1) 0) s_239).bind fun t_297 =>
  (callV D 33 [(.agg t_297), (.bool false), (.bool false), (.bool false), (.bool false)] s_239).bind fun t_298 =>
  j_286 t_298 s_239)
  (j_286 (.bool false) s_239))))))
  (fun k_240 =>
  aCase t_237
  (k_240 t_237 s_105)
  ((bin .eql .num t_3 (.int .i64 12)).bind fun t_299 =>
  k_240 t_299 s_105))))))))
  (fun k_106 =>
  aCase t_103
  (k_106 t_103 σ)
  ((bin .eql .num t_3 (.int .i64 16)).bind fun t_300 =>
  k_106 t_300 σ)))))))
theorem sh_spec_l6statement_eq (D : Ctx) (a0 a1 : AV) (σ : Store) : runFn D ir_spec_l6statement [a0, a1] σ = sh_spec_l6statement D a0 a1 σ := by kernel_rfl
/-- loop.example/reed/spec.l6expression: function 19 -/
def ir_spec_l6expression : IFn := ⟨[.tmp 4],
.seq (.reg (.op (some 2) (.pbox (.t 0)) (
  .op (some 3) (.pbox (.t 1)) (
  .op (some 4) (.mv (.c (.bool false))) (
  .done))))) (
  .seq (.reg (.op (some 9) (.fadd 9 (.t 3)) (
  .op (some 10) (.load false 1 (.t 9)) (
  .op (some 11) (.len .sl (.t 10)) (
  .op (some 5) (.mv (.t 11)) (
  .done)))))) (
  .seq (.seq (.reg (.op (some 12) (.fadd 0 (.t 3)) (
  .op (some 13) (.load false 1 (.t 12)) (
  .done)))) (
  .block 0 none (
  .seq (.seq (.reg (.op (some 15) (.bin .eql .num (.t 13) (.c (.int .i64 20))) (
  .op (some 14) (.mv (.t 15)) (
  .done)))) (
  .cond (.t 14) (some ⟨[14], []⟩) (.skip) (.seq (.reg (.op (some 16) (.bin .eql .num (.t 13) (.c (.int .i64 21))) (
  .op (some 14) (.mv (.t 16)) (
  .done)))) (
  .cond (.t 14) (some ⟨[14], []⟩) (.skip) (.seq (.reg (.op (some 17) (.bin .eql .num (.t 13) (.c (.int .i64 22))) (
  .op (some 14) (.mv (.t 17)) (
  .done)))) (
  .cond (.t 14) (some ⟨[14], []⟩) (.skip) (.reg (.op (some 18) (.bin .eql .num (.t 13) (.c (.int .i64 27))) (
  .op (some 14) (.mv (.t 18)) (
  .done)))))))))) (
  .cond (.t 14) none (.seq (.reg (.op (some 19) (.mv (.t 5)) (
  .op (some 20) (.bin .eql .num (.t 19) (.c (.int .i64 0))) (
  .op (some 21) (.mv (.t 20)) (
  .dia 21 (
  .gop 21 true (some 22) (.load true 10 (.t 3)) (
  .gop 21 true (some 23) (.callV 33 [(.t 22), (.c (.bool false)), (.c (.bool false)), (.c (.bool false)), (.c (.bool false))]) (
  .done))) 24 (.t 21) (.t 23) (.c (.bool false)) none (
  .op (some 4) (.mv (.t 24)) (
  .done))))))) (
  .ret)) (.seq (.reg (.op (some 26) (.bin .eql .num (.t 13) (.c (.int .i64 23))) (
  .op (some 25) (.mv (.t 26)) (
  .done)))) (
  .cond (.t 25) none (.seq (.reg (.op (some 27) (.mv (.t 5)) (
  .op (some 28) (.bin .eql .num (.t 27) (.c (.int .i64 0))) (
  .op (some 29) (.mv (.t 28)) (
  .dia 29 (
  .gop 29 true (some 30) (.load true 10 (.t 3)) (
  .gop 29 true (some 31) (.callV 33 [(.t 30), (.c (.bool false)), (.c (.bool true)), (.c (.bool false)), (.c (.bool false))]) (
  .done))) 32 (.t 29) (.t 31) (.c (.bool false)) none (
  .op (some 4) (.mv (.t 32)) (
  .done))))))) (
  .ret)) (.seq (.reg (.op (some 34) (.bin .eql .num (.t 13) (.c (.int .i64 24))) (
  .op (some 33) (.mv (.t 34)) (
  .done)))) (
  .cond (.t 33) none (.seq (.reg (.op (some 35) (.load true 10 (.t 3)) (
  .op (some 6) (.zalloc [(.int .i64 0), (.int .i64 0), (.int .i64 0), (.int .i64 0), (.int .i64 0), (.int .i64 0), (.flt 0), (.str ⟨#[]⟩), .nilslice, .nilslice]) (
  .op none (.store true 10 (.t 6) (.t 35)) (
  .done))))) (
  .seq (.reg (.op (some 36) (.fadd 6 (.t 6)) (
  .op none (.store false 1 (.t 36) (.c (.flt 0))) (
  .done)))) (
  .seq (.reg (.op (some 37) (.mv (.t 5)) (
  .op (some 38) (.bin .eql .num (.t 37) (.c (.int .i64 0))) (
  .op (some 39) (.mv (.t 38)) (
  .dia 39 (
  .gop 39 true (some 40) (.load true 10 (.t 6)) (
  .gop 39 true (some 41) (.callV 33 [(.t 40), (.c (.bool false)), (.c (.bool false)), (.c (.bool false)), (.c (.bool false))]) (
  .done))) 42 (.t 39) (.t 41) (.c (.bool false)) none (
  .op (some 43) (.mv (.t 42)) (
  .dia 43 (
  .gop 43 true (some 44) (.fadd 6 (.t 3)) (
  .gop 43 true (some 45) (.load false 1 (.t 44)) (
  .gop 43 true (some 46) (.fadd 6 (.t 3)) (
  .gop 43 true (some 47) (.load false 1 (.t 46)) (
  .gop 43 true (some 48) (.bin .eql .num (.t 45) (.t 47)) (
  .done)))))) 49 (.t 43) (.t 48) (.c (.bool false)) none (
  .op (some 4) (.mv (.t 49)) (
  .done))))))))) (
  .ret)))) (.seq (.reg (.op (some 51) (.bin .eql .num (.t 13) (.c (.int .i64 25))) (
  .op (some 50) (.mv (.t 51)) (
  .done)))) (
  .cond (.t 50) none (.seq (.reg (.op (some 52) (.mv (.t 5)) (
  .op (some 53) (.bin .eql .num (.t 52) (.c (.int .i64 0))) (
  .op (some 54) (.mv (.t 53)) (
  .dia 54 (
  .gop 54 true (some 55) (.load true 10 (.t 3)) (
  .gop 54 true (some 56) (.callV 33 [(.t 55), (.c (.bool false)), (.c (.bool false)), (.c (.bool true)), (.c (.bool false))]) (
  .done))) 57 (.t 54) (.t 56) (.c (.bool false)) none (
  .op (some 58) (.mv (.t 57)) (
  .dia 58 (
  .gop 58 true (some 59) (.fadd 7 (.t 3)) (
  .gop 58 true (some 60) (.load false 1 (.t 59)) (
  .gop 58 true (some 61) (.len .str (.t 60)) (
  .gop 58 true (some 62) (.bin .leq .num (.t 61) (.c (.int .i64 4000))) (
  .done))))) 63 (.t 58) (.t 62) (.c (.bool false)) none (
  .op (some 4) (.mv (.t 63)) (
  .done))))))))) (
  .ret)) (.seq (.reg (.op (some 65) (.bin .eql .num (.t 13) (.c (.int .i64 26))) (
  .op (some 64) (.mv (.t 65)) (
  .done)))) (
  .cond (.t 64) none (.seq (.reg (.op (some 66) (.mv (.t 5)) (
  .op (some 67) (.bin .eql .num (.t 66) (.c (.int .i64 0))) (
  .op (some 68) (.mv (.t 67)) (
  .dia 68 (
  .gop 68 true (some 69) (.load true 10 (.t 3)) (
  .gop 68 true (some 70) (.callV 33 [(.t 69), (.c (.bool false)), (.c (.bool false)), (.c (.bool true)), (.c (.bool false))]) (
  .done))) 71 (.t 68) (.t 70) (.c (.bool false)) none (
  .op (some 72) (.mv (.t 71)) (
  .dia 72 (
  .gop 72 true (some 73) (.fadd 7 (.t 3)) (
  .gop 72 true (some 74) (.load false 1 (.t 73)) (
  .gop 72 true (some 75) (.callV 37 [(.t 74)]) (
  .done)))) 76 (.t 72) (.t 75) (.c (.bool false)) none (
  .op (some 4) (.mv (.t 76)) (
  .done))))))))) (
  .ret)) (.seq (.seq (.reg (.op (some 78) (.bin .eql .num (.t 13) (.c (.int .i64 28))) (
  .op (some 77) (.mv (.t 78)) (
  .done)))) (
  .cond (.t 77) (some ⟨[77], []⟩) (.skip) (.reg (.op (some 79) (.bin .eql .num (.t 13) (.c (.int .i64 29))) (
  .op (some 77) (.mv (.t 79)) (
  .done)))))) (
  .cond (.t 77) none (.seq (.reg (.op (some 80) (.mv (.t 5)) (
  .op (some 81) (.bin .eql .num (.t 80) (.c (.int .i64 2))) (
  .op (some 82) (.mv (.t 81)) (
  .dia 82 (
  .gop 82 true (some 83) (.load true 1 (.t 2)) (
  .gop 82 true (some 84) (.load true 10 (.t 3)) (
  .gop 82 true (some 85) (.callV 35 [(.t 83), (.t 84), (.c (.int .i64 0)), (.c (.int .i64 2))]) (
  .done)))) 86 (.t 82) (.t 85) (.c (.bool false)) none (
  .op (some 87) (.mv (.t 86)) (
  .dia 87 (
  .gop 87 true (some 88) (.load true 10 (.t 3)) (
  .gop 87 true (some 89) (.callV 33 [(.t 88), (.c (.bool false)), (.c (.bool false)), (.c (.bool false)), (.c (.bool false))]) (
  .done))) 90 (.t 87) (.t 89) (.c (.bool false)) none (
  .op (some 4) (.mv (.t 90)) (
  .done))))))))) (
  .ret)) (.seq (.reg (.op (some 92) (.bin .eql .num (.t 13) (.c (.int .i64 32))) (
  .op (some 91) (.mv (.t 92)) (
  .done)))) (
  .cond (.t 91) none (.seq (.reg (.op (some 93) (.mv (.t 5)) (
  .op (some 94) (.bin .eql .num (.t 93) (.c (.int .i64 2))) (
  .op (some 95) (.mv (.t 94)) (
  .dia 95 (
  .gop 95 true (some 96) (.load true 1 (.t 2)) (
  .gop 95 true (some 97) (.load true 10 (.t 3)) (
  .gop 95 true (some 98) (.callV 35 [(.t 96), (.t 97), (.c (.int .i64 0)), (.c (.int .i64 2))]) (
  .done)))) 99 (.t 95) (.t 98) (.c (.bool false)) none (
  .op (some 100) (.mv (.t 99)) (
  .dia 100 (
  .gop 100 true (some 101) (.load true 1 (.t 2)) (
  .gop 100 true (some 102) (.load true 10 (.t 3)) (
  .gop 100 true (some 103) (.callV 32 [(.t 101), (.t 102), (.c (.int .i64 0))]) (
  .gop 100 true (some 104) (.bin .neq .num (.t 103) (.c (.int .i64 27))) (
  .done))))) 105 (.t 100) (.t 104) (.c (.bool false)) none (
  .op (some 106) (.mv (.t 105)) (
  .dia 106 (
  .gop 106 true (some 107) (.load true 10 (.t 3)) (
  .gop 106 true (some 108) (.callV 33 [(.t 107), (.c (.bool false)), (.c (.bool false)), (.c (.bool false)), (.c (.bool false))]) (
  .done))) 109 (.t 106) (.t 108) (.c (.bool false)) none (
  .op (some 4) (.mv (.t 109)) (
  .done))))))))))) (
  .ret)) (.seq (.reg (.op (some 111) (.bin .eql .num (.t 13) (.c (.int .i64 30))) (
  .op (some 110) (.mv (.t 111)) (
  .done)))) (
  .cond (.t 110) none (.seq (.reg (.op (some 112) (.mv (.t 5)) (
  .op (some 113) (.bin .eql .num (.t 112) (.c (.int .i64 1))) (
  .op (some 114) (.mv (.t 113)) (
  .dia 114 (
  .gop 114 true (some 115) (.load true 1 (.t 2)) (
  .gop 114 true (some 116) (.load true 10 (.t 3)) (
  .gop 114 true (some 117) (.callV 35 [(.t 115), (.t 116), (.c (.int .i64 0)), (.c (.int .i64 1))]) (
  .done)))) 118 (.t 114) (.t 117) (.c (.bool false)) none (
  .op (some 119) (.mv (.t 118)) (
  .dia 119 (
  .gop 119 true (some 120) (.load true 10 (.t 3)) (
  .gop 119 true (some 121) (.callV 33 [(.t 120), (.c (.bool true)), (.c (.bool false)), (.c (.bool false)), (.c (.bool false))]) (
  .done))) 122 (.t 119) (.t 121) (.c (.bool false)) none (
  .op (some 123) (.mv (.t 122)) (
  .dia 123 (
  .gop 123 true (some 124) (.fadd 4 (.t 3)) (
  .gop 123 true (some 125) (.load false 1 (.t 124)) (
  .gop 123 true (some 126) (.bin .geq .num (.t 125) (.c (.int .i64 19))) (
  .done)))) 127 (.t 123) (.t 126) (.c (.bool false)) none (
  .op (some 128) (.mv (.t 127)) (
  .dia 128 (
  .gop 128 true (some 129) (.fadd 4 (.t 3)) (
  .gop 128 true (some 130) (.load false 1 (.t 129)) (
  .gop 128 true (some 131) (.bin .leq .num (.t 130) (.c (.int .i64 22))) (
  .done)))) 132 (.t 128) (.t 131) (.c (.bool false)) none (
  .op (some 4) (.mv (.t 132)) (
  .done))))))))))))) (
  .ret)) (.seq (.reg (.op (some 134) (.bin .eql .num (.t 13) (.c (.int .i64 31))) (
  .op (some 133) (.mv (.t 134)) (
  .done)))) (
  .cond (.t 133) none (.seq (.reg (.op (some 135) (.mv (.t 5)) (
  .op (some 136) (.bin .eql .num (.t 135) (.c (.int .i64 2))) (
  .op (some 137) (.mv (.t 136)) (
  .dia 137 (
  .gop 137 true (some 138) (.load true 1 (.t 2)) (
  .gop 137 true (some 139) (.load true 10 (.t 3)) (
  .gop 137 true (some 140) (.callV 35 [(.t 138), (.t 139), (.c (.int .i64 0)), (.c (.int .i64 2))]) (
  .done)))) 141 (.t 137) (.t 140) (.c (.bool false)) none (
  .op (some 142) (.mv (.t 141)) (
  .dia 142 (
  .gop 142 true (some 143) (.load true 10 (.t 3)) (
  .gop 142 true (some 144) (.callV 33 [(.t 143), (.c (.bool true)), (.c (.bool false)), (.c (.bool false)), (.c (.bool false))]) (
  .done))) 145 (.t 142) (.t 144) (.c (.bool false)) none (
  .op (some 146) (.mv (.t 145)) (
  .dia 146 (
  .gop 146 true (some 147) (.fadd 4 (.t 3)) (
  .gop 146 true (some 148) (.load false 1 (.t 147)) (
  .gop 146 true (some 149) (.bin .geq .num (.t 148) (.c (.int .i64 1))) (
  .done)))) 150 (.t 146) (.t 149) (.c (.bool false)) none (
  .op (some 151) (.mv (.t 150)) (
  .dia 151 (
  .gop 151 true (some 152) (.fadd 4 (.t 3)) (
  .gop 151 true (some 153) (.load false 1 (.t 152)) (
  .gop 151 true (some 154) (.bin .leq .num (.t 153) (.c (.int .i64 18))) (
  .done)))) 155 (.t 151) (.t 154) (.c (.bool false)) none (
  .op (some 4) (.mv (.t 155)) (
  .done))))))))))))) (
  .ret)) (.seq (.reg (.op (some 157) (.bin .eql .num (.t 13) (.c (.int .i64 33))) (
  .op (some 156) (.mv (.t 157)) (
  .done)))) (
  .cond (.t 156) none (.seq (.reg (.op (some 158) (.mv (.t 5)) (
  .op (some 159) (.bin .eql .num (.t 158) (.c (.int .i64 1))) (
  .op (some 160) (.mv (.t 159)) (
  .dia 160 (
  .gop 160 true (some 161) (.load true 1 (.t 2)) (
  .gop 160 true (some 162) (.load true 10 (.t 3)) (
  .gop 160 true (some 163) (.callV 35 [(.t 161), (.t 162), (.c (.int .i64 0)), (.c (.int .i64 1))]) (
  .done)))) 164 (.t 160) (.t 163) (.c (.bool false)) none (
  .op (some 165) (.mv (.t 164)) (
  .dia 165 (
  .gop 165 true (some 166) (.load true 1 (.t 2)) (
  .gop 165 true (some 167) (.load true 10 (.t 3)) (
  .gop 165 true (some 168) (.callV 32 [(.t 166), (.t 167), (.c (.int .i64 0))]) (
  .gop 165 true (some 169) (.bin .neq .num (.t 168) (.c (.int .i64 27))) (
  .done))))) 170 (.t 165) (.t 169) (.c (.bool false)) none (
  .op (some 171) (.mv (.t 170)) (
  .dia 171 (
  .gop 171 true (some 172) (.load true 10 (.t 3)) (
  .gop 171 true (some 173) (.callV 33 [(.t 172), (.c (.bool false)), (.c (.bool false)), (.c (.bool true)), (.c (.bool false))]) (
  .done))) 174 (.t 171) (.t 173) (.c (.bool false)) none (
  .op (some 175) (.mv (.t 174)) (
  .dia 175 (
  .gop 175 true (some 176) (.fadd 7 (.t 3)) (
  .gop 175 true (some 177) (.load false 1 (.t 176)) (
  .gop 175 true (some 178) (.callV 37 [(.t 177)]) (
  .done)))) 179 (.t 175) (.t 178) (.c (.bool false)) none (
  .op (some 4) (.mv (.t 179)) (
  .done))))))))))))) (
  .ret)) (.seq (.reg (.op (some 181) (.bin .eql .num (.t 13) (.c (.int .i64 34))) (
  .op (some 180) (.mv (.t 181)) (
  .done)))) (
  .cond (.t 180) none (.seq (.reg (.op (some 182) (.mv (.t 5)) (
  .op (some 183) (.bin .geq .num (.t 182) (.c (.int .i64 1))) (
  .op (some 184) (.mv (.t 183)) (
  .dia 184 (
  .gop 184 true (some 185) (.load true 1 (.t 2)) (
  .gop 184 true (some 186) (.load true 10 (.t 3)) (
  .gop 184 true (some 187) (.mv (.t 5)) (
  .gop 184 true (some 188) (.callV 35 [(.t 185), (.t 186), (.c (.int .i64 0)), (.t 187)]) (
  .done))))) 189 (.t 184) (.t 188) (.c (.bool false)) none (
  .op (some 190) (.mv (.t 189)) (
  .dia 190 (
  .gop 190 true (some 191) (.load true 1 (.t 2)) (
  .gop 190 true (some 192) (.load true 10 (.t 3)) (
  .gop 190 true (some 193) (.callV 32 [(.t 191), (.t 192), (.c (.int .i64 0))]) (
  .gop 190 true (some 194) (.bin .neq .num (.t 193) (.c (.int .i64 27))) (
  .done))))) 195 (.t 190) (.t 194) (.c (.bool false)) none (
  .op (some 196) (.mv (.t 195)) (
  .dia 196 (
  .gop 196 true (some 197) (.load true 10 (.t 3)) (
  .gop 196 true (some 198) (.callV 33 [(.t 197), (.c (.bool false)), (.c (.bool false)), (.c (.bool false)), (.c (.bool false))]) (
  .done))) 199 (.t 196) (.t 198) (.c (.bool false)) none (
  .op (some 4) (.mv (.t 199)) (
  .done))))))))))) (
  .ret)) (.seq (.reg (.op (some 201) (.bin .eql .num (.t 13) (.c (.int .i64 35))) (
  .op (some 200) (.mv (.t 201)) (
  .done)))) (
  .cond (.t 200) none (.seq (.seq (.reg (.op (some 202) (.fadd 9 (.t 3)) (
  .op (some 203) (.load false 1 (.t 202)) (
  .op (some 204) (.len .sl (.t 203)) (
  .op (some 205) (.mv (.c (.int .i64 0))) (
  .done)))))) (
  .block 1 (some ⟨[], []⟩) (
  .loop ⟨[205], []⟩ (
  .seq (.reg (.op (some 206) (.bin .lss .num (.t 205) (.t 204)) (
  .done))) (
  .seq (.cond (.t 206) none (.skip) (.exit 1)) (
  .seq (.block 2 none (
  .seq (.reg (.op (some 207) (.mv (.t 205)) (
  .op (some 7) (.mv (.t 207)) (
  .done)))) (
  .seq (.reg (.op (some 208) (.load true 1 (.t 2)) (
  .op (some 209) (.load true 10 (.t 3)) (
  .op (some 210) (.mv (.t 7)) (
  .op (some 211) (.callV 32 [(.t 208), (.t 209), (.t 210)]) (
  .op (some 8) (.mv (.t 211)) (
  .done))))))) (
  .seq (.reg (.op (some 212) (.mv (.t 8)) (
  .op (some 213) (.bin .lss .num (.t 212) (.c (.int .i64 40))) (
  .op (some 214) (.mv (.t 213)) (
  .dia 214 (
  .gop 214 false (some 215) (.mv (.t 8)) (
  .gop 214 false (some 216) (.bin .gtr .num (.t 215) (.c (.int .i64 42))) (
  .done))) 217 (.t 214) (.c (.bool true)) (.t 216) none (
  .done)))))) (
  .cond (.t 217) none (.seq (.reg (.op (some 4) (.mv (.c (.bool false))) (
  .done))) (
  .ret)) (.skip)))))) (
  .reg (.op (some 218) (.bin .add .num (.t 205) (.c (.int .i64 1))) (
  .op (some 205) (.mv (.t 218)) (
  .done)))))))))) (
  .seq (.reg (.op (some 219) (.load true 10 (.t 3)) (
  .op (some 220) (.callV 33 [(.t 219), (.c (.bool false)), (.c (.bool false)), (.c (.bool false)), (.c (.bool false))]) (
  .op (some 4) (.mv (.t 220)) (
  .done))))) (
  .ret))) (.seq (.reg (.op (some 222) (.bin .eql .num (.t 13) (.c (.int .i64 36))) (
  .op (some 221) (.mv (.t 222)) (
  .done)))) (
  .cond (.t 221) none (.seq (.reg (.op (some 223) (.mv (.t 5)) (
  .op (some 224) (.bin .eql .num (.t 223) (.c (.int .i64 1))) (
  .op (some 225) (.mv (.t 224)) (
  .dia 225 (
  .gop 225 true (some 226) (.load true 1 (.t 2)) (
  .gop 225 true (some 227) (.load true 10 (.t 3)) (
  .gop 225 true (some 228) (.callV 32 [(.t 226), (.t 227), (.c (.int .i64 0))]) (
  .gop 225 true (some 229) (.bin .eql .num (.t 228) (.c (.int .i64 1))) (
  .done))))) 230 (.t 225) (.t 229) (.c (.bool false)) none (
  .op (some 231) (.mv (.t 230)) (
  .dia 231 (
  .gop 231 true (some 232) (.load true 10 (.t 3)) (
  .gop 231 true (some 233) (.callV 33 [(.t 232), (.c (.bool true)), (.c (.bool false)), (.c (.bool false)), (.c (.bool true))]) (
  .done))) 234 (.t 231) (.t 233) (.c (.bool false)) none (
  .op (some 235) (.mv (.t 234)) (
  .dia 235 (
  .gop 235 true (some 236) (.load true 10 (.t 3)) (
  .gop 235 true (some 237) (.callV 34 [(.t 236), (.c (.int .i64 0)), (.c (.int .i64 200))]) (
  .done))) 238 (.t 235) (.t 237) (.c (.bool false)) none (
  .op (some 239) (.mv (.t 238)) (
  .dia 239 (
  .gop 239 true (some 240) (.fadd 4 (.t 3)) (
  .gop 239 true (some 241) (.load false 1 (.t 240)) (
  .gop 239 true (some 242) (.bin .eql .num (.t 241) (.c (.int .i64 0))) (
  .gop 239 true (some 243) (.mv (.t 242)) (
  .dia 243 (
  .gop 243 false (some 244) (.fadd 4 (.t 3)) (
  .gop 243 false (some 245) (.load false 1 (.t 244)) (
  .gop 243 false (some 246) (.bin .eql .num (.t 245) (.c (.int .i64 1))) (
  .done)))) 247 (.t 243) (.c (.bool true)) (.t 246) (some (239, true)) (
  .done)))))) 248 (.t 239) (.t 247) (.c (.bool false)) none (
  .op (some 4) (.mv (.t 248)) (
  .done))))))))))))) (
  .ret)) (.seq (.reg (.op (some 250) (.bin .eql .num (.t 13) (.c (.int .i64 37))) (
  .op (some 249) (.mv (.t 250)) (
  .done)))) (
  .cond (.t 249) none (.seq (.reg (.op (some 251) (.mv (.t 5)) (
  .op (some 252) (.bin .eql .num (.t 251) (.c (.int .i64 1))) (
  .op (some 253) (.mv (.t 252)) (
  .dia 253 (
  .gop 253 true (some 254) (.load true 1 (.t 2)) (
  .gop 253 true (some 255) (.load true 10 (.t 3)) (
  .gop 253 true (some 256) (.callV 32 [(.t 254), (.t 255), (.c (.int .i64 0))]) (
  .gop 253 true (some 257) (.bin .eql .num (.t 256) (.c (.int .i64 34))) (
  .gop 253 true (some 258) (.mv (.t 257)) (
  .dia 258 (
  .gop 258 false (some 259) (.load true 1 (.t 2)) (
  .gop 258 false (some 260) (.load true 10 (.t 3)) (
  .gop 258 false (some 261) (.callV 32 [(.t 259), (.t 260), (.c (.int .i64 0))]) (
  .gop 258 false (some 262) (.bin .eql .num (.t 261) (.c (.int .i64 27))) (
  .done))))) 263 (.t 258) (.c (.bool true)) (.t 262) (some (253, true)) (
  .done))))))) 264 (.t 253) (.t 263) (.c (.bool false)) none (
  .op (some 265) (.mv (.t 264)) (
  .dia 265 (
  .gop 265 true (some 266) (.load true 10 (.t 3)) (
  .gop 265 true (some 267) (.callV 33 [(.t 266), (.c (.bool false)), (.c (.bool false)), (.c (.bool false)), (.c (.bool false))]) (
  .done))) 268 (.t 265) (.t 267) (.c (.bool false)) none (
  .op (some 4) (.mv (.t 268)) (
  .done))))))))) (
  .ret)) (.seq (.reg (.op (some 270) (.bin .eql .num (.t 13) (.c (.int .i64 40))) (
  .op (some 269) (.mv (.t 270)) (
  .done)))) (
  .cond (.t 269) none (.seq (.reg (.op (some 271) (.mv (.t 5)) (
  .op (some 272) (.bin .eql .num (.t 271) (.c (.int .i64 1))) (
  .op (some 273) (.mv (.t 272)) (
  .dia 273 (
  .gop 273 true (some 274) (.load true 1 (.t 2)) (
  .gop 273 true (some 275) (.load true 10 (.t 3)) (
  .gop 273 true (some 276) (.callV 35 [(.t 274), (.t 275), (.c (.int .i64 0)), (.c (.int .i64 1))]) (
  .done)))) 277 (.t 273) (.t 276) (.c (.bool false)) none (
  .op (some 278) (.mv (.t 277)) (
  .dia 278 (
  .gop 278 true (some 279) (.load true 10 (.t 3)) (
  .gop 278 true (some 280) (.callV 33 [(.t 279), (.c (.bool false)), (.c (.bool false)), (.c (.bool false)), (.c (.bool false))]) (
  .done))) 281 (.t 278) (.t 280) (.c (.bool false)) none (
  .op (some 4) (.mv (.t 281)) (
  .done))))))))) (
  .ret)) (.seq (.reg (.op (some 283) (.bin .eql .num (.t 13) (.c (.int .i64 41))) (
  .op (some 282) (.mv (.t 283)) (
  .done)))) (
  .cond (.t 282) none (.seq (.reg (.op (some 284) (.mv (.t 5)) (
  .op (some 285) (.bin .eql .num (.t 284) (.c (.int .i64 2))) (
  .op (some 286) (.mv (.t 285)) (
  .dia 286 (
  .gop 286 true (some 287) (.load true 1 (.t 2)) (
  .gop 286 true (some 288) (.load true 10 (.t 3)) (
  .gop 286 true (some 289) (.callV 35 [(.t 287), (.t 288), (.c (.int .i64 0)), (.c (.int .i64 2))]) (
  .done)))) 290 (.t 286) (.t 289) (.c (.bool false)) none (
  .op (some 291) (.mv (.t 290)) (
  .dia 291 (
  .gop 291 true (some 292) (.load true 10 (.t 3)) (
  .gop 291 true (some 293) (.callV 33 [(.t 292), (.c (.bool false)), (.c (.bool false)), (.c (.bool false)), (.c (.bool false))]) (
  .done))) 294 (.t 291) (.t 293) (.c (.bool false)) none (
  .op (some 4) (.mv (.t 294)) (
  .done))))))))) (
  .ret)) (.skip))))))))))))))))))))))))))))))))))) (
  .seq (.reg (.op (some 295) (.fadd 0 (.t 3)) (
  .op (some 296) (.load false 1 (.t 295)) (
  .op (some 297) (.bin .eql .num (.t 296) (.c (.int .i64 42))) (
  .op (some 298) (.mv (.t 297)) (
  .dia 298 (
  .gop 298 true (some 299) (.mv (.t 5)) (
  .gop 298 true (some 300) (.bin .eql .num (.t 299) (.c (.int .i64 1))) (
  .done))) 301 (.t 298) (.t 300) (.c (.bool false)) none (
  .op (some 302) (.mv (.t 301)) (
  .dia 302 (
  .gop 302 true (some 303) (.load true 1 (.t 2)) (
  .gop 302 true (some 304) (.load true 10 (.t 3)) (
  .gop 302 true (some 305) (.callV 35 [(.t 303), (.t 304), (.c (.int .i64 0)), (.c (.int .i64 1))]) (
  .done)))) 306 (.t 302) (.t 305) (.c (.bool false)) none (
  .op (some 307) (.mv (.t 306)) (
  .dia 307 (
  .gop 307 true (some 308) (.load true 10 (.t 3)) (
  .gop 307 true (some 309) (.callV 33 [(.t 308), (.c (.bool false)), (.c (.bool false)), (.c (.bool true)), (.c (.bool false))]) (
  .done))) 310 (.t 307) (.t 309) (.c (.bool false)) none (
  .op (some 311) (.mv (.t 310)) (
  .dia 311 (
  .gop 311 true (some 312) (.fadd 7 (.t 3)) (
  .gop 311 true (some 313) (.load false 1 (.t 312)) (
  .gop 311 true (some 314) (.callV 37 [(.t 313)]) (
  .done)))) 315 (.t 311) (.t 314) (.c (.bool false)) none (
  .op (some 4) (.mv (.t 315)) (
  .done)))))))))))))) (
  .ret))))⟩
noncomputable def lp_spec_l6expression_1 (D : Ctx) (t_189 : AV) (a0 : AV) (a1 : AV) (k_191 : Cur 0) : Cur 1 → Cur 1 :=
  fun go_196 t_194 s_195 =>
  (bin .lss .num t_194 t_189).bind fun t_197 =>
  aCase t_197
  ((rdN 1 (.pptr (AV.cells a0) 0) s_195).bind fun t_198 =>
  (rdN 10 (.pptr (AV.cells a1) 0) s_195).bind fun t_199 =>
  (callV D 32 [(.agg t_198), (.agg t_199), t_194] s_195).bind fun t_200 =>
  (bin .lss .num t_200 (.int .i64 40)).bind fun t_201 =>
  jn 1 (fun t_202 s_203 =>
  aCase t_202
  (some ((.bool false), s_203))
  ((bin .add .num t_194 (.int .i64 1)).bind fun t_205 =>
  go_196 t_205 s_203))
  (fun j_204 =>
  aCase t_201
  (j_204 (.bool true) s_195)
  ((bin .gtr .num t_200 (.int .i64 42)).bind fun t_206 =>
  j_204 t_206 s_195)))
  (k_191  s_195)
theorem lp_spec_l6expression_1_le {D : Ctx} (t_189 : AV) (a0 : AV) (a1 : AV) (k_191 : Cur 0) {k_191' : Cur 0} (hk_191 : Cle k_191 k_191') {u u' : Cur 1} (h : Cle u u') : Cle (lp_spec_l6expression_1 D t_189 a0 a1 k_191 u) (lp_spec_l6expression_1 D t_189 a0 a1 k_191' u') := by
  unfold lp_spec_l6expression_1
  repeat (first
    | with_reducible refine Ole.bindr fun _ => ?_
    | with_reducible refine Ole.aCase ?_ ?_
    | refine Ole.jn ?_ (fun _ _ _ => ?_)
    | refine Cle.succ fun _ => ?_
    | refine Cle.zero fun _ => ?_
    | exact Cle.use0 (by assumption)
    | exact Cle.use1 (by assumption)
    | with_reducible exact Ole.refl _)
theorem lp_spec_l6expression_1_mono (D : Ctx) (t_189 : AV) (a0 : AV) (a1 : AV) (k_191 : Cur 0) : Mono (lp_spec_l6expression_1 D t_189 a0 a1 k_191) := fun _ _ h => lp_spec_l6expression_1_le t_189 a0 a1 k_191 (Cle.refl _) h
noncomputable def sh_spec_l6expression (D : Ctx) (a0 a1 : AV) (σ : Store) : Res :=
  (rd1 D.G (.pptr (AV.cells a1) 9) σ).bind fun t_1 =>
  (lenV .sl t_1 σ).bind fun t_2 =>
  (rd1 D.G (.pptr (AV.cells a1) 0) σ).bind fun t_3 =>
  (bin .eql .num t_3 (.int .i64 20)).bind fun t_4 =>
  jn 1 (fun t_5 s_6 =>
  aCase t_5
  ((bin .eql .num t_2 (.int .i64 0)).bind fun t_8 =>
  jn 1 (fun t_9 s_10 =>
  some (t_9, s_10))
  (fun j_11 =>
  aCase t_8
  ((rdN 10 (.pptr (AV.cells a1) 0) s_6).bind fun t_12 =>
  (callV D 33 [(.agg t_12), (.bool false), (.bool false), (.bool false), (.bool false)] s_6).bind fun t_13 =>
  j_11 t_13 s_6)
  (j_11 (.bool false) s_6)))
  ((bin .eql .num t_3 (.int .i64 23)).bind fun t_14 =>
  aCase t_14
  ((bin .eql .num t_2 (.int .i64 0)).bind fun t_15 =>
  jn 1 (fun t_16 s_17 =>
  some (t_16, s_17))
  (fun j_18 =>
  aCase t_15
  ((rdN 10 (.pptr (AV.cells a1) 0) s_6).bind fun t_19 =>
  (callV D 33 [(.agg t_19), (.bool false), (.bool true), (.bool false), (.bool false)] s_6).bind fun t_20 =>
  j_18 t_20 s_6)
  (j_18 (.bool false) s_6)))
  ((bin .eql .num t_3 (.int .i64 24)).bind fun t_21 =>
  aCase t_21
  ((rdN 10 (.pptr (AV.cells a1) 0) s_6).bind fun t_22 =>
  (asplit 10 (.agg t_22)).bind fun cs_23 =>
  (bin .eql .num t_2 (.int .i64 0)).bind fun t_24 =>
  jn 1 (fun t_25 s_26 =>
  jn 1 (fun t_28 s_29 =>
  some (t_28, s_29))
  (fun j_30 =>
  aCase t_25
  ((rd1 D.G (.pptr (AV.cells a1) 6) s_26).bind fun t_31 =>
  (rd1 D.G (.pptr (AV.cells a1) 6) s_26).bind fun t_32 =>
  (bin .eql .num t_31 t_32).bind fun t_33 =>
  j_30 t_33 s_26)
  (j_30 (.bool false) s_26)))
  (fun j_27 =>
  aCase t_24
  ((callV D 33 [(.agg (setL cs_23 6 [(.flt 0)])), (.bool false), (.bool false), (.bool false), (.bool false)] s_6).bind fun t_34 =>
  j_27 t_34 s_6)
  (j_27 (.bool false) s_6)))
  ((bin .eql .num t_3 (.int .i64 25)).bind fun t_35 =>
  aCase t_35
  ((bin .eql .num t_2 (.int .i64 0)).bind fun t_36 =>
  jn 1 (fun t_37 s_38 =>
  jn 1 (fun t_40 s_41 =>
  some (t_40, s_41))
  (fun j_42 =>
  aCase t_37
  ((rd1 D.G (.pptr (AV.cells a1) 7) s_38).bind fun t_43 =>
  (lenV .str t_43 s_38).bind fun t_44 =>
  (bin .leq .num t_44 (.int .i64 4000)).bind fun t_45 =>
  j_42 t_45 s_38)
  (j_42 (.bool false) s_38)))
  (fun j_39 =>
  aCase t_36
  ((rdN 10 (.pptr (AV.cells a1) 0) s_6).bind fun t_46 =>
  (callV D 33 [(.agg t_46), (.bool false), (.bool false), (.bool true), (.bool false)] s_6).bind fun t_47 =>
  j_39 t_47 s_6)
  (j_39 (.bool false) s_6)))
  ((bin .eql .num t_3 (.int .i64 26)).bind fun t_48 =>
  aCase t_48
  ((bin .eql .num t_2 (.int .i64 0)).bind fun t_49 =>
  jn 1 (fun t_50 s_51 =>
  jn 1 (fun t_53 s_54 =>
  some (t_53, s_54))
  (fun j_55 =>
  aCase t_50
  ((rd1 D.G (.pptr (AV.cells a1) 7) s_51).bind fun t_56 =>
  (callV D 37 [t_56] s_51).bind fun t_57 =>
  j_55 t_57 s_51)
  (j_55 (.bool false) s_51)))
  (fun j_52 =>
  aCase t_49
  ((rdN 10 (.pptr (AV.cells a1) 0) s_6).bind fun t_58 =>
  (callV D 33 [(.agg t_58), (.bool false), (.bool false), (.bool true), (.bool false)] s_6).bind fun t_59 =>
  j_52 t_59 s_6)
  (j_52 (.bool false) s_6)))
  ((bin .eql .num t_3 (.int .i64 28)).bind fun t_60 =>
  jn 1 (fun t_61 s_62 =>
  aCase t_61
  ((bin .eql .num t_2 (.int .i64 2)).bind fun t_64 =>
  jn 1 (fun t_65 s_66 =>
  jn 1 (fun t_68 s_69 =>
  some (t_68, s_69))
  (fun j_70 =>
  aCase t_65
  ((rdN 10 (.pptr (AV.cells a1) 0) s_66).bind fun t_71 =>
  (callV D 33 [(.agg t_71), (.bool false), (.bool false), (.bool false), (.bool false)] s_66).bind fun t_72 =>
  j_70 t_72 s_66)
  (j_70 (.bool false) s_66)))
  (fun j_67 =>
  aCase t_64
  ((rdN 1 (.pptr (AV.cells a0) 0) s_62).bind fun t_73 =>
  (rdN 10 (.pptr (AV.cells a1) 0) s_62).bind fun t_74 =>
  (callV D 35 [(.agg t_73), (.agg t_74), (.int .i64 0), (.int .i64 2)] s_62).bind fun t_75 =>
  j_67 t_75 s_62)
  (j_67 (.bool false) s_62)))
  ((bin .eql .num t_3 (.int .i64 32)).bind fun t_76 =>
  aCase t_76
  ((bin .eql .num t_2 (.int .i64 2)).bind fun t_77 =>
  jn 1 (fun t_78 s_79 =>
  jn 1 (fun t_81 s_82 =>
  jn 1 (fun t_84 s_85 =>
  some (t_84, s_85))
  (fun j_86 =>
  aCase t_81
  ((rdN 10 (.pptr (AV.cells a1) 0) s_82).bind fun t_87 =>
  (callV D 33 [(.agg t_87), (.bool false), (.bool false), (.bool false), (.bool false)] s_82).bind fun t_88 =>
  j_86 t_88 s_82)
  (j_86 (.bool false) s_82)))
  (fun j_83 =>
  aCase t_78
  ((rdN 1 (.pptr (AV.cells a0) 0) s_79).bind fun t_89 =>
  (rdN 10 (.pptr (AV.cells a1) 0) s_79).bind fun t_90 =>
  (callV D 32 [(.agg t_89), (.agg t_90), (.int .i64 0)] s_79).bind fun t_91 =>
  (bin .neq .num t_91 (.int .i64 27)).bind fun t_92 =>
  j_83 t_92 s_79)
  (j_83 (.bool false) s_79)))
  (fun j_80 =>
  aCase t_77
  ((rdN 1 (.pptr (AV.cells a0) 0) s_62).bind fun t_93 =>
  (rdN 10 (.pptr (AV.cells a1) 0) s_62).bind fun t_94 =>
  (callV D 35 [(.agg t_93), (.agg t_94), (.int .i64 0), (.int .i64 2)] s_62).bind fun t_95 =>
  j_80 t_95 s_62)
  (j_80 (.bool false) s_62)))
  ((bin .eql .num t_3 (.int .i64 30)).bind fun t_96 =>
  aCase t_96
  ((bin .eql .num t_2 (.int .i64 1)).bind fun t_97 =>
  jn 1 (fun t_98 s_99 =>
  jn 1 (fun t_101 s_102 =>
  jn 1 (fun t_104 s_105 =>
  jn 1 (fun t_107 s_108 =>
  some (t_107, s_108))
  (fun j_109 =>
  aCase t_104
  ((rd1 D.G (.pptr (AV.cells a1) 4) s_105).bind fun t_110 =>
  (bin .leq .num t_110 (.int .i64 22)).bind fun t_111 =>
  j_109 t_111 s_105)
  (j_109 (.bool false) s_105)))
  (fun j_106 =>
  aCase t_101
  ((rd1 D.G (.pptr (AV.cells a1) 4) s_102).bind fun t_112 =>
  (bin .geq .num t_112 (.int .i64 19)).bind fun t_113 =>
  j_106 t_113 s_102)
  (j_106 (.bool false) s_102)))
  (fun j_103 =>
  aCase t_98
  ((rdN 10 (.pptr (AV.cells a1) 0) s_99).bind fun t_114 =>
  (callV D 33 [(.agg t_114), (.bool true), (.bool false), (.bool false), (.bool false)] s_99).bind fun t_115 =>
  j_103 t_115 s_99)
  (j_103 (.bool false) s_99)))
  (fun j_100 =>
  aCase t_97
  ((rdN 1 (.pptr (AV.cells a0) 0) s_62).bind fun t_116 =>
  (rdN 10 (.pptr (AV.cells a1) 0) s_62).bind fun t_117 =>
  (callV D 35 [(.agg t_116), (.agg t_117), (.int .i64 0), (.int .i64 1)] s_62).bind fun t_118 =>
  j_100 t_118 s_62)
  (j_100 (.bool false) s_62)))
  ((bin .eql .num t_3 (.int .i64 31)).bind fun t_119 =>
  aCase t_119
  ((bin .eql .num t_2 (.int .i64 2)).bind fun t_120 =>
  jn 1 (fun t_121 s_122 =>
  jn 1 (fun t_124 s_125 =>
  jn 1 (fun t_127 s_128 =>
  jn 1 (fun t_130 s_131 =>
  some (t_130, s_131))
  (fun j_132 =>
  aCase t_127
  ((rd1 D.G (.pptr (AV.cells a1) 4) s_128).bind fun t_133 =>
  (bin .leq .num t_133 (.int .i64 18)).bind fun t_134 =>
  j_132 t_134 s_128)
  (j_132 (.bool false) s_128)))
  (fun j_129 =>
  aCase t_124
  ((rd1 D.G (.pptr (AV.cells a1) 4) s_125).bind fun t_135 =>
  (bin .geq .num t_135 (.int .i64 1)).bind fun t_136 =>
  j_129 t_136 s_125)
  (j_129 (.bool false) s_125)))
  (fun j_126 =>
  aCase t_121
  ((rdN 10 (.pptr (AV.cells a1) 0) s_122).bind fun t_137 =>
  (callV D 33 [(.agg t_137), (.bool true), (.bool false), (.bool false), (.bool false)] s_122).bind fun t_138 =>
  j_126 t_138 s_122)
  (j_126 (.bool false) s_122)))
  (fun j_123 =>
  aCase t_120
  ((rdN 1 (.pptr (AV.cells a0) 0) s_62).bind fun t_139 =>
  (rdN 10 (.pptr (AV.cells a1) 0) s_62).bind fun t_140 =>
  (callV D 35 [(.agg t_139), (.agg t_140), (.int .i64 0), (.int .i64 2)] s_62).bind fun t_141 =>
  j_123 t_141 s_62)
  (j_123 (.bool false) s_62)))
  ((bin .eql .num t_3 (.int .i64 33)).bind fun t_142 =>
  aCase t_142
  ((bin .eql .num t_2 (.int .i64 1)).bind fun t_143 =>
  jn 1 (fun t_144 s_145 =>
  jn 1 (fun t_147 s_148 =>
  jn 1 (fun t_150 s_151 =>
  jn 1 (fun t_153 s_154 =>
  some (t_153, s_154))
  (fun j_155 =>
  aCase t_150
  ((rd1 D.G (.pptr (AV.cells a1) 7) s_151).bind fun t_156 =>
  (callV D 37 [t_156] s_151).bind fun t_157 =>
  j_155 t_157 s_151)
  (j_155 (.bool false) s_151)))
  (fun j_152 =>
  aCase t_147
  ((rdN 10 (.pptr (AV.cells a1) 0) s_148).bind fun t_158 =>
  (callV D 33 [(.agg t_158), (.bool false), (.bool false), (.bool true), (.bool false)] s_148).bind fun t_159 =>
  j_152 t_159 s_148)
  (j_152 (.bool false) s_148)))
  (fun j_149 =>
  aCase t_144
  ((rdN 1 (.pptr (AV.cells a0) 0) s_145).bind fun t_160 =>
  (rdN 10 (.pptr (AV.cells a1) 0) s_145).bind fun t_161 =>
  (callV D 32 [(.agg t_160), (.agg t_161), (.int .i64 0)] s_145).bind fun t_162 =>
  (bin .neq .num t_162 (.int .i64 27)).bind fun t_163 =>
  j_149 t_163 s_145)
  (j_149 (.bool false) s_145)))
  (fun j_146 =>
  aCase t_143
  ((rdN 1 (.pptr (AV.cells a0) 0) s_62).bind fun t_164 =>
  (rdN 10 (.pptr (AV.cells a1) 0) s_62).bind fun t_165 =>
  (callV D 35 [(.agg t_164), (.agg t_165), (.int .i64 0), (.int .i64 1)] s_62).bind fun t_166 =>
  j_146 t_166 s_62)
  (j_146 (.bool false) s_62)))
  ((bin .eql .num t_3 (.int .i64 34)).bind fun t_167 =>
  aCase t_167
  ((bin .geq .num t_2 (.int .i64 1)).bind fun t_168 =>
  jn 1 (fun t_169 s_170 =>
  jn 1 (fun t_172 s_173 =>
  jn 1 (fun t_175 s_176 =>
  some (t_175, s_176))
  (fun j_177 =>
  aCase t_172
  ((rdN 10 (.pptr (AV.cells a1) 0) s_173).bind fun t_178 =>
  (callV D 33 [(.agg t_178), (.bool false), (.bool false), (.bool false), (.bool false)] s_173).bind fun t_179 =>
  j_177 t_179 s_173)
  (j_177 (.bool false) s_173)))
  (fun j_174 =>
  aCase t_169
  ((rdN 1 (.pptr (AV.cells a0) 0) s_170).bind fun t_180 =>
  (rdN 10 (.pptr (AV.cells a1) 0) s_170).bind fun t_181 =>
  (callV D 32 [(.agg t_180), (.agg t_181), (.int .i64 0)] s_170).bind fun t_182 =>
  (bin .neq .num t_182 (.int .i64 27)).bind fun t_183 =>
  j_174 t_183 s_170)
  (j_174 (.bool false) s_170)))
  (fun j_171 =>
  aCase t_168
  ((rdN 1 (.pptr (AV.cells a0) 0) s_62).bind fun t_184 =>
  (rdN 10 (.pptr (AV.cells a1) 0) s_62).bind fun t_185 =>
  (callV D 35 [(.agg t_184), (.agg t_185), (.int .i64 0), t_2] s_62).bind fun t_186 =>
  j_171 t_186 s_62)
  (j_171 (.bool false) s_62)))
  ((bin .eql .num t_3 (.int .i64 35)).bind fun t_187 =>
  aCase t_187
  ((rd1 D.G (.pptr (AV.cells a1) 9) s_62).bind fun t_188 =>
  (lenV .sl t_188 s_62).bind fun t_189 =>
  jn 0 (fun  s_190 =>
  (rdN 10 (.pptr (AV.cells a1) 0) s_190).bind fun t_192 =>
  (callV D 33 [(.agg t_192), (.bool false), (.bool false), (.bool false), (.bool false)] s_190).bind fun t_193 =>
  some (t_193, s_190))
  (fun k_191 =>
  lpFix 1 (lp_spec_l6expression_1 D t_189 a0 a1 k_191) (.int .i64 0) s_62))
  ((bin .eql .num t_3 (.int .i64 36)).bind fun t_207 =>
  aCase t_207
  ((bin .eql .num t_2 (.int .i64 1)).bind fun t_208 =>
  jn 1 (fun t_209 s_210 =>
  jn 1 (fun t_212 s_213 =>
  jn 1 (fun t_215 s_216 =>
  jn 1 (fun t_218 s_219 =>
  some (t_218, s_219))
  (fun j_220 =>
  aCase t_215
  ((rd1 D.G (.pptr (AV.cells a1) 4) s_216).bind fun t_221 =>
  (bin .eql .num t_221 (.int .i64 0)).bind fun t_222 =>
  jn 1 (fun t_223 s_224 =>
  j_220 t_223 s_224)
  (fun j_225 =>
  aCase t_222
  (j_225 (.bool true) s_216)
  ((rd1 D.G (.pptr (AV.cells a1) 4) s_216).bind fun t_226 =>
  (bin .eql .num t_226 (.int .i64 1)).bind fun t_227 =>
  j_225 t_227 s_216)))
  (j_220 (.bool false) s_216)))
  (fun j_217 =>
  aCase t_212
  ((rdN 10 (.pptr (AV.cells a1) 0) s_213).bind fun t_228 =>
  (callV D 34 [(.agg t_228), (.int .i64 0), (.int .i64 200)] s_213).bind fun t_229 =>
  j_217 t_229 s_213)
  (j_217 (.bool false) s_213)))
  (fun j_214 =>
  aCase t_209
  ((rdN 10 (.pptr (AV.cells a1) 0) s_210).bind fun t_230 =>
  (callV D 33 [(.agg t_230), (.bool true), (.bool false), (.bool false), (.bool true)] s_210).bind fun t_231 =>
  j_214 t_231 s_210)
  (j_214 (.bool false) s_210)))
  (fun j_211 =>
  aCase t_208
  ((rdN 1 (.pptr (AV.cells a0) 0) s_62).bind fun t_232 =>
  (rdN 10 (.pptr (AV.cells a1) 0) s_62).bind fun t_233 =>
  (callV D 32 [(.agg t_232), (.agg t_233), (.int .i64 0)] s_62).bind fun t_234 =>
  (bin .eql .num t_234 (.int .i64 1)).bind fun t_235 =>
  j_211 t_235 s_62)
  (j_211 (.bool false) s_62)))
  ((bin .eql .num t_3 (.int .i64 37)).bind fun t_236 =>
  aCase t_236
  ((bin .eql .num t_2 (.int .i64 1)).bind fun t_237 =>
  jn 1 (fun t_238 s_239 =>
  jn 1 (fun t_241 s_242 =>
  some (t_241, s_242))
  (fun j_243 =>
  aCase t_238
  ((rdN 10 (.pptr (AV.cells a1) 0) s_239).bind fun t_244 =>
  (callV D 33 [(.agg t_244), (.bool false), (.bool false), (.bool false), (.bool false)] s_239).bind fun t_245 =>
  j_243 t_245 s_239)
  (j_243 (.bool false) s_239)))
  (fun j_240 =>
  aCase t_237
  ((rdN 1 (.pptr (AV.cells a0) 0) s_62).bind fun t_246 =>
  (rdN 10 (.pptr (AV.cells a1) 0) s_62).bind fun t_247 =>
  (callV D 32 [(.agg t_246), (.agg t_247), (.int .i64 0)] s_62).bind fun t_248 =>
  (bin .eql .num t_248 (.int .i64 34)).bind fun t_249 =>
  jn 1 (fun t_250 s_251 =>
  j_240 t_250 s_251)
  (fun j_252 =>
  aCase t_249
  (j_252 (.bool true) s_62)
  ((rdN 1 (.pptr (AV.cells a0) 0) s_62).bind fun t_253 =>
  (rdN 10 (.pptr (AV.cells a1) 0) s_62).bind fun t_254 =>
  (callV D 32 [(.agg t_253), (.agg t_254), (.int .i64 0)] s_62).bind fun t_255 =>
  (bin .eql .num t_255 (.int .i64 27)).bind fun t_256 =>
  j_252 t_256 s_62)))
  (j_240 (.bool false) s_62)))
  ((bin .eql .num t_3 (.int .i64 40)).bind fun t_257 =>
  aCase t_257
  ((bin .eql .num t_2 (.int .i64 1)).bind fun t_258 =>
  jn 1 (fun t_259 s_260 =>
  jn 1 (fun t_262 s_263 =>
  some (t_262, s_263))
  (fun j_264 =>
  aCase t_259
  ((rdN 10 (.pptr (AV.cells a1) 0) s_260).bind fun t_265 =>
  (callV D 33 [(.agg t_265), (.bool false), (.bool false), (.bool false), (.bool false)] s_260).bind fun t_266 =>
  j_264 t_266 s_260)
  (j_264 (.bool false) s_260)))
  (fun j_261 =>
  aCase t_258
  ((rdN 1 (.pptr (AV.cells a0) 0) s_62).bind fun t_267 =>
  (rdN 10 (.pptr (AV.cells a1) 0) s_62).bind fun t_268 =>
  (callV D 35 [(.agg t_267), (.agg t_268), (.int .i64 0), (.int .i64 1)] s_62).bind fun t_269 =>
  j_261 t_269 s_62)
  (j_261 (.bool false) s_62)))
  ((bin .eql .num t_3 (.int .i64 41)).bind fun t_270 =>
  aCase t_270
  ((bin .eql .num t_2 (.int .i64 2)).bind fun t_271 =>
  jn 1 (fun t_272 s_273 =>
  jn 1 (fun t_275 s_276 =>
  some (t_275, s_276))
  (fun j_277 =>
  aCase t_272
  ((rdN 10 (.pptr (AV.cells a1) 0) s_273).bind fun t_278 =>
  (callV D 33 [(.agg t_278), (.bool false), (.bool false), (.bool false), (.bool false)] s_273).bind fun t_279 =>
  j_277 t_279 s_273)
  (j_277 (.bool false) s_273)))
  (fun j_274 =>
  aCase t_271
  ((rdN 1 (.pptr (AV.cells a0) 0) s_62).bind fun t_280 =>
  (rdN 10 (.pptr (AV.cells a1) 0) s_62).bind fun t_281 =>
  (callV D 35 [(.agg t_280), (.agg t_281), (.int .i64 0), (.int .i64 2)] s_62).bind fun t_282 =>
  j_274 t_282 s_62)
  (j_274 (.bool false) s_62)))
  ((rd1 D.G (.pptr (AV.cells a1) 0) s_62).bind fun t_283 =>
  (bin .eql .num t_283 (.int .i64 42)).bind fun t_284 =>
  jn 1 (fun t_285 s_286 =>
  jn 1 (fun t_288 s_289 =>
  jn 1 (fun t_291 s_292 =>
  jn 1 (fun t_294 s_295 =>
  some (t_294, s_295))
  (fun j_296 =>
  aCase t_291
  ((rd1 D.G (.pptr (AV.cells a1) 7) s_292).bind fun t_297 =>
  (callV D 37 [t_297] s_292).bind fun t_298 =>
  j_296 t_298 s_292)
  (j_296 (.bool false) s_292)))
  (fun j_293 =>
  aCase t_288
  ((rdN 10 (.pptr (AV.cells a1) 0) s_289).bind fun t_299 =>
  (callV D 33 [(.agg t_299), (.bool false), (.bool false), (.bool true), (.bool false)] s_289).bind fun t_300 =>
  j_293 t_300 s_289)
  (j_293 (.bool false) s_289)))
  (fun j_290 =>
  aCase t_285
  ((rdN 1 (.pptr (AV.cells a0) 0) s_286).bind fun t_301 =>
  (rdN 10 (.pptr (AV.cells a1) 0) s_286).bind fun t_302 =>
  (callV D 35 [(.agg t_301), (.agg t_302), (.int .i64 0), (.int .i64 1)] s_286).bind fun t_303 =>
  j_290 t_303 s_286)
  (j_290 (.bool false) s_286)))
  (fun j_287 =>
  aCase t_284
  ((bin .eql .num t_2 (.int .i64 1)).bind fun t_304 =>
  j_287 t_304 s_62)
  (j_287 (.bool false) s_62))))))))))))))
  (fun k_63 =>
  aCase t_60
  (k_63 t_60 s_6)
  ((bin .eql .num t_3 (.int .i64 29)).bind fun t_305 =>
  k_63 t_305 s_6))))))))
  (fun k_7 =>
  aCase t_4
  (k_7 t_4 σ)
  ((bin .eql .num t_3 (.int .i64 21)).bind fun t_306 =>
  jn 1 (fun t_307 s_308 =>
  k_7 t_307 s_308)
  (fun k_309 =>
  aCase t_306
  (k_309 t_306 σ)
  ((bin .eql .num t_3 (.int .i64 22)).bind fun t_310 =>
  jn 1 (fun t_311 s_312 =>
  k_309 t_311 s_312)
  (fun k_313 =>
  aCase t_310
  (k_313 t_310 σ)
  ((bin .eql .num t_3 (.int .i64 27)).bind fun t_314 =>
  k_313 t_314 σ))))))
theorem sh_spec_l6expression_eq (D : Ctx) (a0 a1 : AV) (σ : Store) : runFn D ir_spec_l6expression [a0, a1] σ = sh_spec_l6expression D a0 a1 σ := by kernel_rfl
/-- loop.example/reed/laws.toPart: function 20 -/
def ir_laws_toPart : IFn := ⟨[.cell 2 true 10],
.seq (.reg (.op (some 1) (.pbox (.t 0)) (
  .op (some 2) (.zalloc [(.int .i64 0), (.int .i64 0), (.int .i64 0), (.int .i64 0), (.int .i64 0), (.int .i64 0), (.flt 0), (.str ⟨#[]⟩), .nilslice, .nilslice]) (
  .done)))) (
  .seq (.reg (.op (some 3) (.zalloc [(.int .i64 0), (.int .i64 0), (.int .i64 0), (.int .i64 0), (.int .i64 0), (.int .i64 0), (.flt 0), (.str ⟨#[]⟩), .nilslice, .nilslice]) (
  .done))) (
  .seq (.reg (.op (some 4) (.fadd 0 (.t 1)) (
  .op (some 5) (.load false 1 (.t 4)) (
  .op (some 6) (.fadd 0 (.t 3)) (
  .op none (.store false 1 (.t 6) (.t 5)) (
  .done)))))) (
  .seq (.reg (.op (some 7) (.fadd 1 (.t 1)) (
  .op (some 8) (.load false 1 (.t 7)) (
  .op (some 9) (.fadd 1 (.t 3)) (
  .op none (.store false 1 (.t 9) (.t 8)) (
  .done)))))) (
  .seq (.reg (.op (some 10) (.fadd 2 (.t 1)) (
  .op (some 11) (.load false 1 (.t 10)) (
  .op (some 12) (.fadd 2 (.t 3)) (
  .op none (.store false 1 (.t 12) (.t 11)) (
  .done)))))) (
  .seq (.reg (.op (some 13) (.fadd 3 (.t 1)) (
  .op (some 14) (.load false 1 (.t 13)) (
  .op (some 15) (.fadd 3 (.t 3)) (
  .op none (.store false 1 (.t 15) (.t 14)) (
  .done)))))) (
  .seq (.reg (.op (some 16) (.fadd 4 (.t 1)) (
  .op (some 17) (.load false 1 (.t 16)) (
  .op (some 18) (.fadd 4 (.t 3)) (
  .op none (.store false 1 (.t 18) (.t 17)) (
  .done)))))) (
  .seq (.reg (.op (some 19) (.fadd 5 (.t 1)) (
  .op (some 20) (.load false 1 (.t 19)) (
  .op (some 21) (.fadd 5 (.t 3)) (
  .op none (.store false 1 (.t 21) (.t 20)) (
  .done)))))) (
  .seq (.reg (.op (some 22) (.fadd 6 (.t 1)) (
  .op (some 23) (.load false 1 (.t 22)) (
  .op (some 24) (.fadd 6 (.t 3)) (
  .op none (.store false 1 (.t 24) (.t 23)) (
  .done)))))) (
  .seq (.reg (.op (some 25) (.fadd 7 (.t 1)) (
  .op (some 26) (.load false 1 (.t 25)) (
  .op (some 27) (.fadd 7 (.t 3)) (
  .op none (.store false 1 (.t 27) (.t 26)) (
  .done)))))) (
  .seq (.reg (.op (some 28) (.fadd 8 (.t 1)) (
  .op (some 29) (.load false 1 (.t 28)) (
  .op (some 30) (.callP 38 [(.t 29)]) (
  .op (some 31) (.fadd 8 (.t 3)) (
  .op none (.store false 1 (.t 31) (.t 30)) (
  .done))))))) (
  .seq (.reg (.op (some 32) (.fadd 9 (.t 1)) (
  .op (some 33) (.load false 1 (.t 32)) (
  .op (some 34) (.callP 39 [(.t 33)]) (
  .op (some 35) (.fadd 9 (.t 3)) (
  .op none (.store false 1 (.t 35) (.t 34)) (
  .done))))))) (
  .seq (.reg (.op (some 36) (.load true 10 (.t 3)) (
  .op none (.store true 10 (.t 2) (.t 36)) (
  .freeze 2 (
  .done))))) (
  .ret)))))))))))))⟩
noncomputable def sh_laws_toPart (D : Ctx) (a0 : AV) (σ : Store) : Res :=
  (rd1 D.G (.pptr (AV.cells a0) 0) σ).bind fun t_1 =>
  (one t_1).bind fun o_2 =>
  (rd1 D.G (.pptr (AV.cells a0) 1) σ).bind fun t_3 =>
  (one t_3).bind fun o_4 =>
  (rd1 D.G (.pptr (AV.cells a0) 2) σ).bind fun t_5 =>
  (one t_5).bind fun o_6 =>
  (rd1 D.G (.pptr (AV.cells a0) 3) σ).bind fun t_7 =>
  (one t_7).bind fun o_8 =>
  (rd1 D.G (.pptr (AV.cells a0) 4) σ).bind fun t_9 =>
  (one t_9).bind fun o_10 =>
  (rd1 D.G (.pptr (AV.cells a0) 5) σ).bind fun t_11 =>
  (one t_11).bind fun o_12 =>
  (rd1 D.G (.pptr (AV.cells a0) 6) σ).bind fun t_13 =>
  (one t_13).bind fun o_14 =>
  (rd1 D.G (.pptr (AV.cells a0) 7) σ).bind fun t_15 =>
  (one t_15).bind fun o_16 =>
  (rd1 D.G (.pptr (AV.cells a0) 8) σ).bind fun t_17 =>
  (callP D 38 [t_17]).bind fun t_18 =>
  (one t_18).bind fun o_19 =>
  (rd1 D.G (.pptr (AV.cells a0) 9) σ).bind fun t_20 =>
  (callP D 39 [t_20]).bind fun t_21 =>
  (one t_21).bind fun o_22 =>
  some ((.agg [o_2, o_4, o_6, o_8, o_10, o_12, o_14, o_16, o_19, o_22]), σ)
theorem sh_laws_toPart_eq (D : Ctx) (a0 : AV) (σ : Store) : runFn D ir_laws_toPart [a0] σ = sh_laws_toPart D a0 σ := by kernel_rfl
/-- loop.example/reed/impl.partShape$1: function 21 -/
def ir_impl_partShape_1 : IFn := ⟨[.tmp 7],
.seq (.reg (.op (some 7) (.mv (.c (.bool false))) (
  .done))) (
  .seq (.seq (.reg (.op (some 10) (.load false 1 (.t 3)) (
  .op (some 11) (.mv (.t 1)) (
  .op (some 12) (.mv (.t 2)) (
  .op (some 13) (.slice 1 (.t 10) (some (.t 11)) (some (.t 12))) (
  .op (some 14) (.len .sl (.t 13)) (
  .op (some 15) (.mv (.c (.int .i64 0))) (
  .done)))))))) (
  .block 0 (some ⟨[], []⟩) (
  .loop ⟨[15], []⟩ (
  .seq (.reg (.op (some 16) (.bin .lss .num (.t 15) (.t 14)) (
  .done))) (
  .seq (.cond (.t 16) none (.skip) (.exit 0)) (
  .seq (.block 1 none (
  .seq (.reg (.op (some 17) (.idx 1 (.t 13) (.t 15)) (
  .op (some 18) (.load false 1 (.t 17)) (
  .op (some 9) (.mv (.t 18)) (
  .done))))) (
  .seq (.reg (.op (some 19) (.mv (.t 0)) (
  .op (some 20) (.mv (.t 9)) (
  .op (some 21) (.callD (.t 19) [(.t 20)]) (
  .op (some 22) (.un .not (.t 21)) (
  .done)))))) (
  .cond (.t 22) none (.seq (.reg (.op (some 7) (.mv (.c (.bool false))) (
  .done))) (
  .ret)) (.skip))))) (
  .reg (.op (some 23) (.bin .add .num (.t 15) (.c (.int .i64 1))) (
  .op (some 15) (.mv (.t 23)) (
  .done)))))))))) (
  .seq (.reg (.op (some 7) (.mv (.c (.bool true))) (
  .done))) (
  .ret)))⟩
noncomputable def lp_impl_partShape_1_1 (D : Ctx) (t_3 : AV) (t_2 : AV) (a0 : AV) (k_5 : Cur 0) : Cur 1 → Cur 1 :=
  fun go_8 t_6 s_7 =>
  (bin .lss .num t_6 t_3).bind fun t_9 =>
  aCase t_9
  ((idx 1 t_2 t_6).bind fun t_10 =>
  (rd1 D.G t_10 s_7).bind fun t_11 =>
  (callD D a0 [t_11] s_7).bind fun t_12 =>
  (un .not t_12.1).bind fun t_13 =>
  aCase t_13
  (some ((.bool false), t_12.2))
  ((bin .add .num t_6 (.int .i64 1)).bind fun t_14 =>
  go_8 t_14 t_12.2))
  (k_5  s_7)
theorem lp_impl_partShape_1_1_le {D : Ctx} (t_3 : AV) (t_2 : AV) (a0 : AV) (k_5 : Cur 0) {k_5' : Cur 0} (hk_5 : Cle k_5 k_5') {u u' : Cur 1} (h : Cle u u') : Cle (lp_impl_partShape_1_1 D t_3 t_2 a0 k_5 u) (lp_impl_partShape_1_1 D t_3 t_2 a0 k_5' u') := by
  unfold lp_impl_partShape_1_1
  repeat (first
    | with_reducible refine Ole.bindr fun _ => ?_
    | with_reducible refine Ole.aCase ?_ ?_
    | refine Ole.jn ?_ (fun _ _ _ => ?_)
    | refine Cle.succ fun _ => ?_
    | refine Cle.zero fun _ => ?_
    | exact Cle.use0 (by assumption)
    | exact Cle.use1 (by assumption)
    | with_reducible exact Ole.refl _)
theorem lp_impl_partShape_1_1_mono (D : Ctx) (t_3 : AV) (t_2 : AV) (a0 : AV) (k_5 : Cur 0) : Mono (lp_impl_partShape_1_1 D t_3 t_2 a0 k_5) := fun _ _ h => lp_impl_partShape_1_1_le t_3 t_2 a0 k_5 (Cle.refl _) h
noncomputable def sh_impl_partShape_1 (D : Ctx) (a0 a1 a2 a3 : AV) (σ : Store) : Res :=
  (rd1 D.G a3 σ).bind fun t_1 =>
  (sliceV 1 t_1 (some a1) (some a2)).bind fun t_2 =>
  (lenV .sl t_2 σ).bind fun t_3 =>
  jn 0 (fun  s_4 =>
  some ((.bool true), s_4))
  (fun k_5 =>
  lpFix 1 (lp_impl_partShape_1_1 D t_3 t_2 a0 k_5) (.int .i64 0) σ)
theorem sh_impl_partShape_1_eq (D : Ctx) (a0 a1 a2 a3 : AV) (σ : Store) : runFn D ir_impl_partShape_1 [a0, a1, a2, a3] σ = sh_impl_partShape_1 D a0 a1 a2 a3 σ := by kernel_rfl
/-- loop.example/reed/impl.partShape$2: function 22 -/
def ir_impl_partShape_2 : IFn := ⟨[.tmp 5],
.seq (.reg (.op (some 5) (.mv (.c (.bool false))) (
  .done))) (
  .seq (.seq (.reg (.op (some 8) (.mv (.t 1)) (
  .op (some 9) (.len .sl (.t 8)) (
  .op (some 10) (.mv (.c (.int .i64 0))) (
  .done))))) (
  .block 0 (some ⟨[], []⟩) (
  .loop ⟨[10], []⟩ (
  .seq (.reg (.op (some 11) (.bin .lss .num (.t 10) (.t 9)) (
  .done))) (
  .seq (.cond (.t 11) none (.skip) (.exit 0)) (
  .seq (.block 1 none (
  .seq (.reg (.op (some 12) (.idx 1 (.t 8) (.t 10)) (
  .op (some 13) (.load false 1 (.t 12)) (
  .op (some 7) (.mv (.t 13)) (
  .done))))) (
  .seq (.reg (.op (some 14) (.load false 1 (.t 2)) (
  .op (some 15) (.mv (.t 0)) (
  .op (some 16) (.idx 1 (.t 14) (.t 15)) (
  .op (some 17) (.load false 1 (.t 16)) (
  .op (some 18) (.mv (.t 7)) (
  .op (some 19) (.bin .eql .num (.t 17) (.t 18)) (
  .done)))))))) (
  .cond (.t 19) none (.seq (.reg (.op (some 5) (.mv (.c (.bool true))) (
  .done))) (
  .ret)) (.skip))))) (
  .reg (.op (some 20) (.bin .add .num (.t 10) (.c (.int .i64 1))) (
  .op (some 10) (.mv (.t 20)) (
  .done)))))))))) (
  .seq (.reg (.op (some 5) (.mv (.c (.bool false))) (
  .done))) (
  .ret)))⟩
noncomputable def lp_impl_partShape_2_1 (D : Ctx) (t_1 : AV) (a1 : AV) (a2 : AV) (a0 : AV) (k_3 : Cur 0) : Cur 1 → Cur 1 :=
  fun go_6 t_4 s_5 =>
  (bin .lss .num t_4 t_1).bind fun t_7 =>
  aCase t_7
  ((idx 1 a1 t_4).bind fun t_8 =>
  (rd1 D.G t_8 s_5).bind fun t_9 =>
  (rd1 D.G a2 s_5).bind fun t_10 =>
  (idx 1 t_10 a0).bind fun t_11 =>
  (rd1 D.G t_11 s_5).bind fun t_12 =>
  (bin .eql .num t_12 t_9).bind fun t_13 =>
  aCase t_13
  (some ((.bool true), s_5))
  ((bin .add .num t_4 (.int .i64 1)).bind fun t_14 =>
  go_6 t_14 s_5))
  (k_3  s_5)
theorem lp_impl_partShape_2_1_le {D : Ctx} (t_1 : AV) (a1 : AV) (a2 : AV) (a0 : AV) (k_3 : Cur 0) {k_3' : Cur 0} (hk_3 : Cle k_3 k_3') {u u' : Cur 1} (h : Cle u u') : Cle (lp_impl_partShape_2_1 D t_1 a1 a2 a0 k_3 u) (lp_impl_partShape_2_1 D t_1 a1 a2 a0 k_3' u') := by
  unfold lp_impl_partShape_2_1
  repeat (first
    | with_reducible refine Ole.bindr fun _ => ?_
    | with_reducible refine Ole.aCase ?_ ?_
    | refine Ole.jn ?_ (fun _ _ _ => ?_)
    | refine Cle.succ fun _ => ?_
    | refine Cle.zero fun _ => ?_
    | exact Cle.use0 (by assumption)
    | exact Cle.use1 (by assumption)
    | with_reducible exact Ole.refl _)
theorem lp_impl_partShape_2_1_mono (D : Ctx) (t_1 : AV) (a1 : AV) (a2 : AV) (a0 : AV) (k_3 : Cur 0) : Mono (lp_impl_partShape_2_1 D t_1 a1 a2 a0 k_3) := fun _ _ h => lp_impl_partShape_2_1_le t_1 a1 a2 a0 k_3 (Cle.refl _) h
noncomputable def sh_impl_partShape_2 (D : Ctx) (a0 a1 a2 : AV) (σ : Store) : Res :=
  (lenV .sl a1 σ).bind fun t_1 =>
  jn 0 (fun  s_2 =>
  some ((.bool false), s_2))
  (fun k_3 =>
  lpFix 1 (lp_impl_partShape_2_1 D t_1 a1 a2 a0 k_3) (.int .i64 0) σ)
theorem sh_impl_partShape_2_eq (D : Ctx) (a0 a1 a2 : AV) (σ : Store) : runFn D ir_impl_partShape_2 [a0, a1, a2] σ = sh_impl_partShape_2 D a0 a1 a2 σ := by kernel_rfl
/-- loop.example/reed/impl.partShape$3: function 23 -/
def ir_impl_partShape_3 : IFn := ⟨[.tmp 2],
.seq (.reg (.op (some 2) (.mv (.c (.bool false))) (
  .done))) (
  .seq (.reg (.op (some 3) (.mv (.t 0)) (
  .op (some 4) (.callV 24 [(.t 3)]) (
  .op (some 5) (.mv (.t 4)) (
  .dia 5 (
  .gop 5 true (some 6) (.mv (.t 0)) (
  .gop 5 true (some 7) (.bin .neq .num (.t 6) (.c (.int .i64 27))) (
  .done))) 8 (.t 5) (.t 7) (.c (.bool false)) none (
  .op (some 2) (.mv (.t 8)) (
  .done))))))) (
  .ret))⟩
noncomputable def sh_impl_partShape_3 (D : Ctx) (a0 : AV) (σ : Store) : Res :=
  (callV D 24 [a0] σ).bind fun t_1 =>
  jn 1 (fun t_2 s_3 =>
  some (t_2, s_3))
  (fun j_4 =>
  aCase t_1
  ((bin .neq .num a0 (.int .i64 27)).bind fun t_5 =>
  j_4 t_5 σ)
  (j_4 (.bool false) σ))
theorem sh_impl_partShape_3_eq (D : Ctx) (a0 : AV) (σ : Store) : runFn D ir_impl_partShape_3 [a0] σ = sh_impl_partShape_3 D a0 σ := by kernel_rfl
/-- loop.example/reed/impl.partExpr: function 24 -/
def ir_impl_partExpr : IFn := ⟨[.tmp 2],
.seq (.reg (.op (some 2) (.mv (.c (.bool false))) (
  .done))) (
  .seq (.reg (.op (some 3) (.mv (.t 0)) (
  .op (some 4) (.bin .geq .num (.t 3) (.c (.int .i64 20))) (
  .op (some 5) (.mv (.t 4)) (
  .dia 5 (
  .gop 5 true (some 6) (.mv (.t 0)) (
  .gop 5 true (some 7) (.bin .leq .num (.t 6) (.c (.int .i64 37))) (
  .done))) 8 (.t 5) (.t 7) (.c (.bool false)) none (
  .op (some 2) (.mv (.t 8)) (
  .done))))))) (
  .ret))⟩
noncomputable def sh_impl_partExpr (D : Ctx) (a0 : AV) (σ : Store) : Res :=
  (bin .geq .num a0 (.int .i64 20)).bind fun t_1 =>
  jn 1 (fun t_2 s_3 =>
  some (t_2, s_3))
  (fun j_4 =>
  aCase t_1
  ((bin .leq .num a0 (.int .i64 37)).bind fun t_5 =>
  j_4 t_5 σ)
  (j_4 (.bool false) σ))
theorem sh_impl_partExpr_eq (D : Ctx) (a0 : AV) (σ : Store) : runFn D ir_impl_partExpr [a0] σ = sh_impl_partExpr D a0 σ := by kernel_rfl
end Go.Asm.DoorF
