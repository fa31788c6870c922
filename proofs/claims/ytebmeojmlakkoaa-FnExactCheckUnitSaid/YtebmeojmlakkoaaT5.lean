/- Part 5 of 8 of a proof. -/
import Derived.Test.YtebmeojmlakkoaaT4
set_option linter.all false
namespace Go.Asm.UnitF
open Go Go.Asm
set_option maxRecDepth 100000
def ir_q4_1 : IFn := ⟨[],
.rs (ops [(15,.fadd 6 3),
(16,.load false 1 15),
(17,.mv 0),
(18,.idx 8 16 17),
(19,.load true 8 18),
(11,.zalloc [(.int .i64 0), (.int .i64 0), (.int .i64 0), (.int .i64 0), (.flt 0), (.str ⟨#[]⟩), .nilslice, .nilslice])] (
.op none (.store true 8 11 19) (
.freeze 11 (
.done)))) (
.rs (ops [(20,.fadd 0 11),
(21,.load false 1 20)]) (
.block 0 none (
.rs (ops [(23,.bin .eql .num 21 (Cn 26)),
(22,.mv 23)]) (
.cond 22 (some ⟨[], []⟩) (.rs (ops [(24,.mv 1),
(25,.fadd 6 11),
(26,.load false 1 25),
(27,.idx 1 26 (Cn 0)),
(28,.load false 1 27),
(29,.look1 (.int .i64) (.int .i64 0) 24 28),
(30,.bin .lss .num 29 (Cn 1))]) (
.cond 30 (some ⟨[], []⟩) (.reg (ops [(31,.load false 1 4),
(32,.load false 1 5),
(33,.mv 0),
(34,.build [(.int .i64 0), (.int .i64 0)] [(0, 1, false, 32), (1, 1, false, 33)])] (
.op none (.mapSet (.agg [(.int .i64), (.int .i64)]) 31 34 (.c (.bool true))) (
.done)))) (.skip))) (.seq (.rs (ops [(36,.bin .eql .num 21 (Cn 9)),
(35,.mv 36)]) (
.cond 35 (some ⟨[35], []⟩) (.skip) (.reg (ops [(37,.bin .eql .num 21 (Cn 10)),
(35,.mv 37)])))) (
.cond 35 (some ⟨[], []⟩) (.rs (ops [(38,.mv 2),
(39,.un .not 38)]) (
.cond 39 (some ⟨[], []⟩) (.reg (ops [(40,.load false 1 6),
(41,.load false 1 5),
(42,.mv 0),
(43,.build [(.int .i64 0), (.int .i64 0)] [(0, 1, false, 41), (1, 1, false, 42)])] (
.op none (.mapSet (.agg [(.int .i64), (.int .i64)]) 40 43 (.c (.bool true))) (
.done)))) (.skip))) (.rs (ops [(45,.bin .eql .num 21 (Cn 36)),
(44,.mv 45)]) (
.cond 44 (some ⟨[], []⟩) (.rs (ops [(46,.mkMap (.int .i64)),
(12,.mv 46)]) (
.seq (.rs (ops [(47,.mv 1),
(48,.range 47)]) (
.block 1 (some ⟨[], []⟩) (
.loop ⟨[], []⟩ (
.rs (ops [(49,.next 48),
(50,.extr 49 0)]) (
.seq (.cond 50 none (.skip) (.exit 1)) (
.block 2 none (
.rs (ops [(51,.entry 48),
(52,.extr 51 0),
(53,.extr 51 1),
(13,.mv 52),
(14,.mv 53)]) (
.rs (ops [(54,.mv 14),
(55,.bin .gtr .num 54 (Cn 0))]) (
.cond 55 (some ⟨[], []⟩) (.reg (ops [(56,.mv 12),
(57,.mv 13)] (
.op none (.mapSet (.int .i64) 56 57 (.c (.bool true))) (
.done)))) (.skip)))))))))) (
.reg (ops [(58,.load false 1 7),
(59,.load false 1 5),
(60,.mv 0),
(61,.build [(.int .i64 0), (.int .i64 0)] [(0, 1, false, 59), (1, 1, false, 60)]),
(62,.mv 12)] (
.op none (.mapSet (.agg [(.int .i64), (.int .i64)]) 58 61 62) (
.done)))))) (.skip)))))))))⟩
noncomputable def lp_q4_1_1 (D : Ctx) (t_39 : AV) (s_24 : Store) (k_42 : Cur 0) : Cur 0 → Cur 0 :=
 fun go_49  s_48 =>
 nextK t_39 s_48 fun t_50 s_51 =>
 (extr t_50 0).bind fun t_52 =>
 aCase t_52
 ((entryV t_39 s_51).bind fun t_53 =>
 (extr t_53 0).bind fun t_54 =>
 (extr t_53 1).bind fun t_55 =>
 (bin .gtr .num t_55 (.int .i64 0)).bind fun t_56 =>
 jn 0 (fun  s_57 =>
 go_49  s_57)
 (fun k_58 =>
 aCase t_56
 ((mapSet (.int .i64) (.hmap s_24.next) t_54 (.bool true) s_51).bind fun s_59 =>
 k_58  s_59)
 (k_58  s_51)))
 (k_42  s_51)
theorem lp_q4_1_1_le {D : Ctx} (x0 x1 k2) {k2'} (hk2 : Cle k2 k2') {u u'} (h : Cle u u') : Cle (lp_q4_1_1 D x0 x1 k2 u) (lp_q4_1_1 D x0 x1 k2' u') := by
 unfold lp_q4_1_1
 repeat (first
  | with_reducible refine Ole.bindr fun _ => ?_
  | with_reducible refine Ole.aCase ?_ ?_
  | with_reducible refine Ole.nextK fun _ _ => ?_
  | refine Ole.jn ?_ (fun _ _ _ => ?_)
  | refine Cle.succ fun _ => ?_
  | refine Cle.zero fun _ => ?_
  | exact Cle.use0 (by assumption)
  | with_reducible exact Ole.refl _)
theorem lp_q4_1_1_mono (D x0 x1 k2) : Mono (lp_q4_1_1 D x0 x1 k2) := fun _ _ => lp_q4_1_1_le _ _ _ (Cle.refl _)
noncomputable def sh_q4_1 (D : Ctx) (a0 a1 a2 a3 a4 a5 a6 a7 : AV) (σ : Store) : Res :=
 (fadd a3 6).bind fun t_1 =>
 (rd1 D.G t_1 σ).bind fun t_2 =>
 (idx 8 t_2 a0).bind fun t_3 =>
 (rdN 8 t_3 σ).bind fun t_4 =>
 (asplit 8 (.agg t_4)).bind fun cs_5 =>
 (rd1 D.G (.pptr cs_5 0) σ).bind fun t_6 =>
 (bin .eql .num t_6 (.int .i64 26)).bind fun t_7 =>
 jn 0 (fun  s_8 =>
 some (.tuple [], s_8))
 (fun k_9 =>
 aCase t_7
 ((rd1 D.G (.pptr cs_5 6) σ).bind fun t_10 =>
 (idx 1 t_10 (.int .i64 0)).bind fun t_11 =>
 (rd1 D.G t_11 σ).bind fun t_12 =>
 (lookup1 (.int .i64) (.int .i64 0) a1 t_12 σ).bind fun t_13 =>
 (bin .lss .num t_13 (.int .i64 1)).bind fun t_14 =>
 jn 0 (fun  s_15 =>
 k_9  s_15)
 (fun k_16 =>
 aCase t_14
 ((rd1 D.G a4 σ).bind fun t_17 =>
 (rd1 D.G a5 σ).bind fun t_18 =>
 (one t_18).bind fun o_19 =>
 (one a0).bind fun o_20 =>
 (mapSet (.agg [(.int .i64), (.int .i64)]) t_17 (.agg [o_19, o_20]) (.bool true) σ).bind fun s_21 =>
 k_16  s_21)
 (k_16  σ)))
 ((bin .eql .num t_6 (.int .i64 9)).bind fun t_22 =>
 jn 1 (fun t_23 s_24 =>
 jn 0 (fun  s_26 =>
 k_9  s_26)
 (fun k_27 =>
 aCase t_23
 ((un .not a2).bind fun t_28 =>
 jn 0 (fun  s_29 =>
 k_27  s_29)
 (fun k_30 =>
 aCase t_28
 ((rd1 D.G a6 s_24).bind fun t_31 =>
 (rd1 D.G a5 s_24).bind fun t_32 =>
 (one t_32).bind fun o_33 =>
 (one a0).bind fun o_34 =>
 (mapSet (.agg [(.int .i64), (.int .i64)]) t_31 (.agg [o_33, o_34]) (.bool true) s_24).bind fun s_35 =>
 k_30  s_35)
 (k_30  s_24)))
 ((bin .eql .num t_6 (.int .i64 36)).bind fun t_36 =>
 jn 0 (fun  s_37 =>
 k_27  s_37)
 (fun k_38 =>
 aCase t_36
 (rangeK a1 (s_24.add (.map (.int .i64) fun _ => none)) fun t_39 s_40 =>
 jn 0 (fun  s_41 =>
 (rd1 D.G a7 s_41).bind fun t_43 =>
 (rd1 D.G a5 s_41).bind fun t_44 =>
 (one t_44).bind fun o_45 =>
 (one a0).bind fun o_46 =>
 (mapSet (.agg [(.int .i64), (.int .i64)]) t_43 (.agg [o_45, o_46]) (.hmap s_24.next) s_41).bind fun s_47 =>
 k_38  s_47)
 (fun k_42 =>
 lpFix 0 (lp_q4_1_1 D t_39 s_24 k_42)  s_40))
 (k_38  s_24)))))
 (fun k_25 =>
 aCase t_22
 (k_25 t_22 σ)
 ((bin .eql .num t_6 (.int .i64 10)).bind fun t_60 =>
 k_25 t_60 σ))))
theorem sh_q4_1_eq (D : Ctx) (a0 a1 a2 a3 a4 a5 a6 a7 : AV) (σ : Store) : runFn D ir_q4_1 [a0, a1, a2, a3, a4, a5, a6, a7] σ = sh_q4_1 D a0 a1 a2 a3 a4 a5 a6 a7 σ := by kernel_rfl
def ir_q14 : IFn := ⟨[.tmp 2],
.rs (ops [(2,.mv (.c (.bool false)))]) (
.rs (ops [(3,.mv 0),
(4,.bin .eql .num 3 (Cn 2)),
(5,.mv 4)] (
.dia 5 (
.gop 5 false (some 6) (.mv 0) (
.gop 5 false (some 7) (.bin .eql .num 6 (Cn 7)) (
.done))) 8 5 (.c (.bool true)) 7 none (
 ops [(9,.mv 8)] (
.dia 9 (
.gop 9 false (some 10) (.mv 0) (
.gop 9 false (some 11) (.bin .eql .num 10 (Cn 8)) (
.done))) 12 9 (.c (.bool true)) 11 none (
 ops [(13,.mv 12)] (
.dia 13 (
.gop 13 false (some 14) (.mv 0) (
.gop 13 false (some 15) (.bin .eql .num 14 (Cn 12)) (
.done))) 16 13 (.c (.bool true)) 15 none (
 ops [(2,.mv 16)]))))))) (
.ret))⟩
noncomputable def sh_q14 (D : Ctx) (a0 : AV) (σ : Store) : Res :=
 (bin .eql .num a0 (.int .i64 2)).bind fun t_1 =>
 jn 1 (fun t_2 s_3 =>
 jn 1 (fun t_5 s_6 =>
 jn 1 (fun t_8 s_9 =>
 some (t_8, s_9))
 (fun j_10 =>
 aCase t_5
 (j_10 (.bool true) s_6)
 ((bin .eql .num a0 (.int .i64 12)).bind fun t_11 =>
 j_10 t_11 s_6)))
 (fun j_7 =>
 aCase t_2
 (j_7 (.bool true) s_3)
 ((bin .eql .num a0 (.int .i64 8)).bind fun t_12 =>
 j_7 t_12 s_3)))
 (fun j_4 =>
 aCase t_1
 (j_4 (.bool true) σ)
 ((bin .eql .num a0 (.int .i64 7)).bind fun t_13 =>
 j_4 t_13 σ))
theorem sh_q14_eq (D : Ctx) (a0 : AV) (σ : Store) : runFn D ir_q14 [a0] σ = sh_q14 D a0 σ := by kernel_rfl
def ir_q15 : IFn := ⟨[.tmp 4],
.rs (ops [(4,.mv (.c (.bool false)))]) (
.seq (.rs (ops [(6,.mv 0),
(7,.len .sl 6),
(8,.mv 1),
(9,.len .sl 8),
(10,.bin .neq .num 7 9)]) (
.cond 10 none (.rs (ops [(4,.mv (.c (.bool false)))]) (
.ret)) (.skip))) (
.seq (.rs (ops [(5,.mv (Cn 0))]) (
.block 0 (some ⟨[], []⟩) (
.loop ⟨[5], []⟩ (
.seq (.rs (ops [(11,.mv 5),
(12,.mv 0),
(13,.len .sl 12),
(14,.bin .lss .num 11 13)]) (
.cond 14 none (.skip) (.exit 0))) (
.seq (.block 1 none (
.seq (.drw (.row 17 (.mv 0) (
.row 18 (.mv 5) (
.row 19 (.idx 7 17 18) (
.row 20 (.load true 7 19) (
.row 21 (.mv 1) (
.row 22 (.mv 5) (
.row 23 (.idx 7 21 22) (
.row 24 (.load true 7 23) (
.row 25 (.callV 37 [20, 24]) (
.row 26 (.un .not 25) (
.done))))))))))) [] [] (.done)) (
.cond 26 none (.rs (ops [(4,.mv (.c (.bool false)))]) (
.ret)) (.skip)))) (
.reg (ops [(15,.mv 5),
(16,.bin .add .num 15 (Cn 1)),
(5,.mv 16)]))))))) (
.rs (ops [(4,.mv (.c (.bool true)))]) (
.ret))))⟩
noncomputable def lp_q15_1 (D : Ctx) (a0 : AV) (a1 : AV) (k_5 : Cur 0) : Cur 1 → Cur 1 :=
 fun go_8 i_6 s_7 =>
 (lenV .sl a0 s_7).bind fun t_9 =>
 (bin .lss .num i_6 t_9).bind fun t_10 =>
 aCase t_10
 ((idx 7 a0 i_6).bind fun t_11 =>
 (rdN 7 t_11 s_7).bind fun t_12 =>
 (idx 7 a1 i_6).bind fun t_13 =>
 (rdN 7 t_13 s_7).bind fun t_14 =>
 (callV D 37 [(.agg t_12), (.agg t_14)] s_7).bind fun t_15 =>
 (un .not t_15).bind fun t_16 =>
 aCase t_16
 (some ((.bool false), s_7))
 ((bin .add .num i_6 (.int .i64 1)).bind fun t_17 =>
 go_8 t_17 s_7))
 (k_5  s_7)
theorem lp_q15_1_le {D : Ctx} (x0 x1 k2) {k2'} (hk2 : Cle k2 k2') {u u'} (h : Cle u u') : Cle (lp_q15_1 D x0 x1 k2 u) (lp_q15_1 D x0 x1 k2' u') := by
 unfold lp_q15_1
 repeat (first
  | with_reducible refine Ole.bindr fun _ => ?_
  | with_reducible refine Ole.aCase ?_ ?_
  | refine Cle.succ fun _ => ?_
  | refine Cle.zero fun _ => ?_
  | exact Cle.use0 (by assumption)
  | exact Cle.use1 (by assumption)
  | with_reducible exact Ole.refl _)
theorem lp_q15_1_mono (D x0 x1 k2) : Mono (lp_q15_1 D x0 x1 k2) := fun _ _ => lp_q15_1_le _ _ _ (Cle.refl _)
noncomputable def sh_q15 (D : Ctx) (a0 a1 : AV) (σ : Store) : Res :=
 (lenV .sl a0 σ).bind fun t_1 =>
 (lenV .sl a1 σ).bind fun t_2 =>
 (bin .neq .num t_1 t_2).bind fun t_3 =>
 aCase t_3
 (some ((.bool false), σ))
 (jn 0 (fun  s_4 =>
 some ((.bool true), s_4))
 (fun k_5 =>
 lpFix 1 (lp_q15_1 D a0 a1 k_5) (.int .i64 0) σ))
theorem sh_q15_eq (D : Ctx) (a0 a1 : AV) (σ : Store) : runFn D ir_q15 [a0, a1] σ = sh_q15 D a0 a1 σ := by kernel_rfl
def ir_q16 : IFn := ⟨[.tmp 4],
.rs (ops [(2,.pbox 0),
(4,.mv (Cn 0))]) (
.rs (ops [(5,.mv 1),
(6,.fadd 0 2),
(7,.load false 1 6),
(8,.len .str 7),
(9,.bin .sub .num 5 8),
(1,.mv 9)]) (
.seq (.rs (ops [(10,.mv 1),
(11,.bin .lss .num 10 (Cn 0))]) (
.cond 11 none (.rs (ops [(4,.mv (Cn (-1)))]) (
.ret)) (.skip))) (
.rs (ops [(12,.fadd 4 2),
(13,.load false 1 12),
(14,.mv 1),
(15,.callV 38 [13, 14]),
(1,.mv 15)]) (
.seq (.rs (ops [(16,.mv 1),
(17,.bin .lss .num 16 (Cn 0))]) (
.cond 17 none (.rs (ops [(4,.mv (Cn (-1)))]) (
.ret)) (.skip))) (
.rs (ops [(18,.fadd 5 2),
(19,.load false 1 18),
(20,.mv 1),
(21,.callV 39 [19, 20]),
(1,.mv 21)]) (
.seq (.rs (ops [(22,.mv 1),
(23,.bin .lss .num 22 (Cn 0))]) (
.cond 23 none (.rs (ops [(4,.mv (Cn (-1)))]) (
.ret)) (.skip))) (
.rs (ops [(24,.fadd 6 2),
(25,.load false 1 24),
(26,.mv 1),
(27,.callV 40 [25, 26]),
(1,.mv 27)]) (
.seq (.rs (ops [(28,.mv 1),
(29,.bin .lss .num 28 (Cn 0))]) (
.cond 29 none (.rs (ops [(4,.mv (Cn (-1)))]) (
.ret)) (.skip))) (
.rs (ops [(30,.mv 1),
(4,.mv 30)]) (
.ret))))))))))⟩
noncomputable def sh_q16 (D : Ctx) (a0 a1 : AV) (σ : Store) : Res :=
 (rd1 D.G (.pptr (AV.cells a0) 0) σ).bind fun t_1 =>
 (lenV .str t_1 σ).bind fun t_2 =>
 (bin .sub .num a1 t_2).bind fun t_3 =>
 (bin .lss .num t_3 (.int .i64 0)).bind fun t_4 =>
 aCase t_4
 (some ((.int .i64 (-1)), σ))
 ((rd1 D.G (.pptr (AV.cells a0) 4) σ).bind fun t_5 =>
 (callV D 38 [t_5, t_3] σ).bind fun t_6 =>
 (bin .lss .num t_6 (.int .i64 0)).bind fun t_7 =>
 aCase t_7
 (some ((.int .i64 (-1)), σ))
 ((rd1 D.G (.pptr (AV.cells a0) 5) σ).bind fun t_8 =>
 (callV D 39 [t_8, t_6] σ).bind fun t_9 =>
 (bin .lss .num t_9 (.int .i64 0)).bind fun t_10 =>
 aCase t_10
 (some ((.int .i64 (-1)), σ))
 ((rd1 D.G (.pptr (AV.cells a0) 6) σ).bind fun t_11 =>
 (callV D 40 [t_11, t_9] σ).bind fun t_12 =>
 (bin .lss .num t_12 (.int .i64 0)).bind fun t_13 =>
 aCase t_13
 (some ((.int .i64 (-1)), σ))
 (some (t_12, σ)))))
theorem sh_q16_eq (D : Ctx) (a0 a1 : AV) (σ : Store) : runFn D ir_q16 [a0, a1] σ = sh_q16 D a0 a1 σ := by kernel_rfl
def ir_q17 : IFn := ⟨[.cell 6 true 3],
.rs (ops [(6,.zalloc [(.int .i64 0), (.int .i64 0), (.int .i64 0)])]) (
.rs (ops [(7,.mv 0),
(8,.mv 1),
(9,.mv 2),
(10,.build [(.int .i64 0), (.int .i64 0), (.int .i64 0)] [(0, 1, false, 7), (1, 1, false, 8), (2, 1, false, 9)])] (
.op none (.store true 3 6 10) (
.freeze 6 (
.done)))) (
.ret))⟩
noncomputable def sh_q17 (D : Ctx) (a0 a1 a2 : AV) (σ : Store) : Res :=
 (one a0).bind fun o_1 =>
 (one a1).bind fun o_2 =>
 (one a2).bind fun o_3 =>
 some ((.agg [o_1, o_2, o_3]), σ)
theorem sh_q17_eq (D : Ctx) (a0 a1 a2 : AV) (σ : Store) : runFn D ir_q17 [a0, a1, a2] σ = sh_q17 D a0 a1 a2 σ := by kernel_rfl
def ir_q18 : IFn := ⟨[.tmp 4],
.rs (ops [(2,.pbox 0),
(4,.mv (.c (.bool false)))]) (
.rs (ops [(8,.fadd 0 2),
(9,.load false 1 8),
(10,.mv 1),
(11,.idx 7 9 10),
(12,.load true 7 11),
(5,.zalloc [(.str ⟨#[]⟩), (.int .i64 0), (.int .i64 0), (.bool false), .nilslice, .nilslice, .nilslice])] (
.op none (.store true 7 5 12) (
.freeze 5 (
.done)))) (
.seq (.rs (ops [(13,.fadd 6 5),
(14,.load false 1 13),
(15,.len .sl 14),
(16,.bin .eql .num 15 (Cn 0)),
(17,.mv 16)] (
.dia 17 (
.gop 17 false (some 18) (.fadd 4 5) (
.gop 17 false (some 19) (.load false 1 18) (
.gop 17 false (some 20) (.len .sl 19) (
.gop 17 false (some 21) (.bin .gtr .num 20 (Cn 200)) (
.done))))) 22 17 (.c (.bool true)) 21 none (
 ops [(23,.mv 22)] (
.dia 23 (
.gop 23 false (some 24) (.fadd 5 5) (
.gop 23 false (some 25) (.load false 1 24) (
.gop 23 false (some 26) (.len .sl 25) (
.gop 23 false (some 27) (.bin .gtr .num 26 (Cn 200)) (
.done))))) 28 23 (.c (.bool true)) 27 none (
 ops [(29,.mv 28)] (
.dia 29 (
.gop 29 false (some 30) (.fadd 2 5) (
.gop 29 false (some 31) (.load false 1 30) (
.gop 29 false (some 32) (.bin .lss .num 31 (Cn 0)) (
.done)))) 33 29 (.c (.bool true)) 32 none (
 ops [(34,.mv 33)] (
.dia 34 (
.gop 34 false (some 35) (.fadd 2 5) (
.gop 34 false (some 36) (.load false 1 35) (
.gop 34 false (some 37) (.fadd 4 5) (
.gop 34 false (some 38) (.load false 1 37) (
.gop 34 false (some 39) (.len .sl 38) (
.gop 34 false (some 40) (.bin .gtr .num 36 39) (
.done))))))) 41 34 (.c (.bool true)) 40 none (
.done))))))))) (
.cond 41 none (.rs (ops [(4,.mv (.c (.bool false)))]) (
.ret)) (.skip))) (
.seq (.rs (ops [(42,.fadd 1 5),
(43,.load false 1 42),
(44,.bin .lss .num 43 (Cn 0)),
(45,.mv 44)] (
.dia 45 (
.gop 45 false (some 46) (.fadd 1 5) (
.gop 45 false (some 47) (.load false 1 46) (
.gop 45 false (some 48) (.bin .gtr .num 47 (Cn 100000)) (
.done)))) 49 45 (.c (.bool true)) 48 none (
 ops [(50,.mv 49)] (
.dia 50 (
.gop 50 false (some 51) (.fadd 0 5) (
.gop 50 false (some 52) (.load false 1 51) (
.gop 50 false (some 53) (.callV 41 [52, (Cn 0)]) (
.gop 50 false (some 54) (.un .not 53) (
.done))))) 55 50 (.c (.bool true)) 54 none (
 ops [(56,.mv 55)] (
.dia 56 (
.gop 56 false (some 57) (.mv 1) (
.gop 56 false (some 58) (.bin .eql .num 57 (Cn 0)) (
.gop 56 false (some 59) (.mv 58) (
.dia 59 (
.gop 59 true (some 60) (.fadd 2 5) (
.gop 59 true (some 61) (.load false 1 60) (
.gop 59 true (some 62) (.bin .gtr .num 61 (Cn 0)) (
.gop 59 true (some 63) (.mv 62) (
.dia 63 (
.gop 63 false (some 64) (.fadd 5 5) (
.gop 63 false (some 65) (.load false 1 64) (
.gop 63 false (some 66) (.len .sl 65) (
.gop 63 false (some 67) (.bin .gtr .num 66 (Cn 0)) (
.done))))) 68 63 (.c (.bool true)) 67 (some (59, true)) (
.done)))))) 69 59 68 (.c (.bool false)) (some (56, false)) (
.done))))) 70 56 (.c (.bool true)) 69 none (
.done))))))) (
.cond 70 none (.rs (ops [(4,.mv (.c (.bool false)))]) (
.ret)) (.skip))) (
.seq (.rs (ops [(71,.fadd 4 5),
(72,.load false 1 71),
(73,.len .sl 72),
(74,.mv (Cn 0))]) (
.block 0 (some ⟨[], []⟩) (
.loop ⟨[74], []⟩ (
.rs (ops [(75,.bin .lss .num 74 73)]) (
.seq (.cond 75 none (.skip) (.exit 0)) (
.seq (.block 1 none (
.rs (ops [(76,.idx 1 72 74),
(77,.load false 1 76),
(7,.mv 77)]) (
.rs (ops [(78,.mv 7),
(79,.callV 41 [78, (Cn 1)]),
(80,.un .not 79)]) (
.cond 80 none (.rs (ops [(4,.mv (.c (.bool false)))]) (
.ret)) (.skip))))) (
.reg (ops [(81,.bin .add .num 74 (Cn 1)),
(74,.mv 81)])))))))) (
.rs (ops [(4,.mv (.c (.bool true)))]) (
.ret))))))⟩
noncomputable def lp_q18_1 (D : Ctx) (t_32 : AV) (t_31 : AV) (k_34 : Cur 0) : Cur 1 → Cur 1 :=
 fun go_37 t_35 s_36 =>
 (bin .lss .num t_35 t_32).bind fun t_38 =>
 aCase t_38
 ((idx 1 t_31 t_35).bind fun t_39 =>
 (rd1 D.G t_39 s_36).bind fun t_40 =>
 (callV D 41 [t_40, (.int .i64 1)] s_36).bind fun t_41 =>
 (un .not t_41).bind fun t_42 =>
 aCase t_42
 (some ((.bool false), s_36))
 ((bin .add .num t_35 (.int .i64 1)).bind fun t_43 =>
 go_37 t_43 s_36))
 (k_34  s_36)
theorem lp_q18_1_le {D : Ctx} (x0 x1 k2) {k2'} (hk2 : Cle k2 k2') {u u'} (h : Cle u u') : Cle (lp_q18_1 D x0 x1 k2 u) (lp_q18_1 D x0 x1 k2' u') := by
 unfold lp_q18_1
 repeat (first
  | with_reducible refine Ole.bindr fun _ => ?_
  | with_reducible refine Ole.aCase ?_ ?_
  | refine Cle.succ fun _ => ?_
  | refine Cle.zero fun _ => ?_
  | exact Cle.use0 (by assumption)
  | exact Cle.use1 (by assumption)
  | with_reducible exact Ole.refl _)
theorem lp_q18_1_mono (D x0 x1 k2) : Mono (lp_q18_1 D x0 x1 k2) := fun _ _ => lp_q18_1_le _ _ _ (Cle.refl _)
noncomputable def sh_q18 (D : Ctx) (a0 a1 : AV) (σ : Store) : Res :=
 (rd1 D.G (.pptr (AV.cells a0) 0) σ).bind fun t_1 =>
 (idx 7 t_1 a1).bind fun t_2 =>
 (rdN 7 t_2 σ).bind fun t_3 =>
 (asplit 7 (.agg t_3)).bind fun cs_4 =>
 (rd1 D.G (.pptr cs_4 6) σ).bind fun t_5 =>
 (lenV .sl t_5 σ).bind fun t_6 =>
 (bin .eql .num t_6 (.int .i64 0)).bind fun t_7 =>
 jn 1 (fun t_8 s_9 =>
 jn 1 (fun t_11 s_12 =>
 jn 1 (fun t_14 s_15 =>
 jn 1 (fun t_17 s_18 =>
 aCase t_17
 (some ((.bool false), s_18))
 ((rd1 D.G (.pptr cs_4 1) s_18).bind fun t_20 =>
 (bin .lss .num t_20 (.int .i64 0)).bind fun t_21 =>
 jn 1 (fun t_22 s_23 =>
 jn 1 (fun t_25 s_26 =>
 jn 1 (fun t_28 s_29 =>
 aCase t_28
 (some ((.bool false), s_29))
 ((rd1 D.G (.pptr cs_4 4) s_29).bind fun t_31 =>
 (lenV .sl t_31 s_29).bind fun t_32 =>
 jn 0 (fun  s_33 =>
 some ((.bool true), s_33))
 (fun k_34 =>
 lpFix 1 (lp_q18_1 D t_32 t_31 k_34) (.int .i64 0) s_29)))
 (fun j_30 =>
 aCase t_25
 (j_30 (.bool true) s_26)
 ((bin .eql .num a1 (.int .i64 0)).bind fun t_44 =>
 jn 1 (fun t_45 s_46 =>
 j_30 t_45 s_46)
 (fun j_47 =>
 aCase t_44
 ((rd1 D.G (.pptr cs_4 2) s_26).bind fun t_48 =>
 (bin .gtr .num t_48 (.int .i64 0)).bind fun t_49 =>
 jn 1 (fun t_50 s_51 =>
 j_47 t_50 s_51)
 (fun j_52 =>
 aCase t_49
 (j_52 (.bool true) s_26)
 ((rd1 D.G (.pptr cs_4 5) s_26).bind fun t_53 =>
 (lenV .sl t_53 s_26).bind fun t_54 =>
 (bin .gtr .num t_54 (.int .i64 0)).bind fun t_55 =>
 j_52 t_55 s_26)))
 (j_47 (.bool false) s_26)))))
 (fun j_27 =>
 aCase t_22
 (j_27 (.bool true) s_23)
 ((rd1 D.G (.pptr cs_4 0) s_23).bind fun t_56 =>
 (callV D 41 [t_56, (.int .i64 0)] s_23).bind fun t_57 =>
 (un .not t_57).bind fun t_58 =>
 j_27 t_58 s_23)))
 (fun j_24 =>
 aCase t_21
 (j_24 (.bool true) s_18)
 ((rd1 D.G (.pptr cs_4 1) s_18).bind fun t_59 =>
 (bin .gtr .num t_59 (.int .i64 100000)).bind fun t_60 =>
 j_24 t_60 s_18))))
 (fun j_19 =>
 aCase t_14
 (j_19 (.bool true) s_15)
 ((rd1 D.G (.pptr cs_4 2) s_15).bind fun t_61 =>
 (rd1 D.G (.pptr cs_4 4) s_15).bind fun t_62 =>
 (lenV .sl t_62 s_15).bind fun t_63 =>
 (bin .gtr .num t_61 t_63).bind fun t_64 =>
 j_19 t_64 s_15)))
 (fun j_16 =>
 aCase t_11
 (j_16 (.bool true) s_12)
 ((rd1 D.G (.pptr cs_4 2) s_12).bind fun t_65 =>
 (bin .lss .num t_65 (.int .i64 0)).bind fun t_66 =>
 j_16 t_66 s_12)))
 (fun j_13 =>
 aCase t_8
 (j_13 (.bool true) s_9)
 ((rd1 D.G (.pptr cs_4 5) s_9).bind fun t_67 =>
 (lenV .sl t_67 s_9).bind fun t_68 =>
 (bin .gtr .num t_68 (.int .i64 200)).bind fun t_69 =>
 j_13 t_69 s_9)))
 (fun j_10 =>
 aCase t_7
 (j_10 (.bool true) σ)
 ((rd1 D.G (.pptr cs_4 4) σ).bind fun t_70 =>
 (lenV .sl t_70 σ).bind fun t_71 =>
 (bin .gtr .num t_71 (.int .i64 200)).bind fun t_72 =>
 j_10 t_72 σ))
theorem sh_q18_eq (D : Ctx) (a0 a1 : AV) (σ : Store) : runFn D ir_q18 [a0, a1] σ = sh_q18 D a0 a1 σ := by kernel_rfl
def ir_q19 : IFn := ⟨[.tmp 4],
.rs (ops [(4,.mv (.c (.bool false)))]) (
.rs (ops [(8,.mv 0),
(9,.mv 1),
(10,.idx 8 8 9),
(11,.load true 8 10),
(5,.zalloc [(.int .i64 0), (.int .i64 0), (.int .i64 0), (.int .i64 0), (.flt 0), (.str ⟨#[]⟩), .nilslice, .nilslice])] (
.op none (.store true 8 5 11) (
.freeze 5 (
.done)))) (
.seq (.rs (ops [(12,.fadd 7 5),
(13,.load false 1 12),
(14,.len .sl 13),
(15,.bin .gtr .num 14 (Cn 200))]) (
.cond 15 none (.rs (ops [(4,.mv (.c (.bool false)))]) (
.ret)) (.skip))) (
.seq (.rs (ops [(16,.fadd 7 5),
(17,.load false 1 16),
(18,.len .sl 17),
(19,.mv (Cn 0))]) (
.block 0 (some ⟨[], []⟩) (
.loop ⟨[19], []⟩ (
.rs (ops [(20,.bin .lss .num 19 18)]) (
.seq (.cond 20 none (.skip) (.exit 0)) (
.seq (.block 1 none (
.rs (ops [(21,.idx 1 17 19),
(22,.load false 1 21),
(7,.mv 22)]) (
.rs (ops [(23,.mv 7),
(24,.bin .lss .num 23 (Cn 0)),
(25,.mv 24)] (
.dia 25 (
.gop 25 false (some 26) (.mv 7) (
.gop 25 false (some 27) (.mv 1) (
.gop 25 false (some 28) (.bin .geq .num 26 27) (
.done)))) 29 25 (.c (.bool true)) 28 none (
.done))) (
.cond 29 none (.rs (ops [(4,.mv (.c (.bool false)))]) (
.ret)) (.skip))))) (
.reg (ops [(30,.bin .add .num 19 (Cn 1)),
(19,.mv 30)])))))))) (
.seq (.rs (ops [(31,.fadd 0 5),
(32,.load false 1 31),
(33,.callV 42 [32])]) (
.cond 33 none (.rs (ops [(34,.fadd 1 5),
(35,.load false 1 34),
(36,.bin .geq .num 35 (Cn 1)),
(37,.mv 36)] (
.dia 37 (
.gop 37 true (some 38) (.fadd 1 5) (
.gop 37 true (some 39) (.load false 1 38) (
.gop 37 true (some 40) (.bin .leq .num 39 (Cn 100000)) (
.done)))) 41 37 40 (.c (.bool false)) none (
 ops [(42,.mv 41)] (
.dia 42 (
.gop 42 true (some 43) (.mv 0) (
.gop 42 true (some 44) (.mv 1) (
.gop 42 true (some 45) (.callV 43 [43, 44]) (
.done)))) 46 42 45 (.c (.bool false)) none (
 ops [(4,.mv 46)]))))) (
.ret)) (.skip))) (
.rs (ops [(47,.fadd 1 5),
(48,.load false 1 47),
(49,.bin .eql .num 48 (Cn 0)),
(50,.mv 49)] (
.dia 50 (
.gop 50 true (some 51) (.mv 0) (
.gop 50 true (some 52) (.mv 1) (
.gop 50 true (some 53) (.callV 44 [51, 52]) (
.done)))) 54 50 53 (.c (.bool false)) none (
 ops [(4,.mv 54)]))) (
.ret))))))⟩
noncomputable def lp_q19_1 (D : Ctx) (t_8 : AV) (t_7 : AV) (a1 : AV) (k_10 : Cur 0) : Cur 1 → Cur 1 :=
 fun go_32 t_30 s_31 =>
 (bin .lss .num t_30 t_8).bind fun t_33 =>
 aCase t_33
 ((idx 1 t_7 t_30).bind fun t_34 =>
 (rd1 D.G t_34 s_31).bind fun t_35 =>
 (bin .lss .num t_35 (.int .i64 0)).bind fun t_36 =>
 jn 1 (fun t_37 s_38 =>
 aCase t_37
 (some ((.bool false), s_38))
 ((bin .add .num t_30 (.int .i64 1)).bind fun t_40 =>
 go_32 t_40 s_38))
 (fun j_39 =>
 aCase t_36
 (j_39 (.bool true) s_31)
 ((bin .geq .num t_35 a1).bind fun t_41 =>
 j_39 t_41 s_31)))
 (k_10  s_31)
theorem lp_q19_1_le {D : Ctx} (x0 x1 x2 k3) {k3'} (hk3 : Cle k3 k3') {u u'} (h : Cle u u') : Cle (lp_q19_1 D x0 x1 x2 k3 u) (lp_q19_1 D x0 x1 x2 k3' u') := by
 unfold lp_q19_1
 repeat (first
  | with_reducible refine Ole.bindr fun _ => ?_
  | with_reducible refine Ole.aCase ?_ ?_
  | refine Ole.jn ?_ (fun _ _ _ => ?_)
  | refine Cle.succ fun _ => ?_
  | refine Cle.zero fun _ => ?_
  | exact Cle.use0 (by assumption)
  | exact Cle.use1 (by assumption)
  | with_reducible exact Ole.refl _)
theorem lp_q19_1_mono (D x0 x1 x2 k3) : Mono (lp_q19_1 D x0 x1 x2 k3) := fun _ _ => lp_q19_1_le _ _ _ _ (Cle.refl _)
noncomputable def sh_q19 (D : Ctx) (a0 a1 : AV) (σ : Store) : Res :=
 (idx 8 a0 a1).bind fun t_1 =>
 (rdN 8 t_1 σ).bind fun t_2 =>
 (asplit 8 (.agg t_2)).bind fun cs_3 =>
 (rd1 D.G (.pptr cs_3 7) σ).bind fun t_4 =>
 (lenV .sl t_4 σ).bind fun t_5 =>
 (bin .gtr .num t_5 (.int .i64 200)).bind fun t_6 =>
 aCase t_6
 (some ((.bool false), σ))
 ((rd1 D.G (.pptr cs_3 7) σ).bind fun t_7 =>
 (lenV .sl t_7 σ).bind fun t_8 =>
 jn 0 (fun  s_9 =>
 (rd1 D.G (.pptr cs_3 0) s_9).bind fun t_11 =>
 (callV D 42 [t_11] s_9).bind fun t_12 =>
 aCase t_12
 ((rd1 D.G (.pptr cs_3 1) s_9).bind fun t_13 =>
 (bin .geq .num t_13 (.int .i64 1)).bind fun t_14 =>
 jn 1 (fun t_15 s_16 =>
 jn 1 (fun t_18 s_19 =>
 some (t_18, s_19))
 (fun j_20 =>
 aCase t_15
 ((callV D 43 [a0, a1] s_16).bind fun t_21 =>
 j_20 t_21 s_16)
 (j_20 (.bool false) s_16)))
 (fun j_17 =>
 aCase t_14
 ((rd1 D.G (.pptr cs_3 1) s_9).bind fun t_22 =>
 (bin .leq .num t_22 (.int .i64 100000)).bind fun t_23 =>
 j_17 t_23 s_9)
 (j_17 (.bool false) s_9)))
 ((rd1 D.G (.pptr cs_3 1) s_9).bind fun t_24 =>
 (bin .eql .num t_24 (.int .i64 0)).bind fun t_25 =>
 jn 1 (fun t_26 s_27 =>
 some (t_26, s_27))
 (fun j_28 =>
 aCase t_25
 ((callV D 44 [a0, a1] s_9).bind fun t_29 =>
 j_28 t_29 s_9)
 (j_28 (.bool false) s_9))))
 (fun k_10 =>
 lpFix 1 (lp_q19_1 D t_8 t_7 a1 k_10) (.int .i64 0) σ))
theorem sh_q19_eq (D : Ctx) (a0 a1 : AV) (σ : Store) : runFn D ir_q19 [a0, a1] σ = sh_q19 D a0 a1 σ := by kernel_rfl
def ir_q20 : IFn := ⟨[.cell 2 true 2],
.rs (ops [(2,.zalloc [.nilslice, .nilslice])]) (
.seq (.drw (.row 10 (.mv 0) (
.row 11 (.len .sl 10) (
.row 13 (.mv 0) (
.row 14 (.len .sl 13) (
.row 12 (.mkSlice [(.int .i64 0)] 11) (
.row 15 (.mkSlice [(.int .i64 0)] 14) (
.row 16 (.build [.nilslice, .nilslice] [(0, 1, false, 12), (1, 1, false, 15)]) (
.done)))))))) [12, 15] [(3, [.nilslice, .nilslice])] (.op none (.store true 2 3 16) (
.freeze 3 (
.done)))) (
.seq (.rs (ops [(17,.mv 0),
(18,.len .sl 17),
(19,.mv (Cn 0))]) (
.block 0 (some ⟨[], [(2, 2)]⟩) (
.loop ⟨[19], [(2, 2)]⟩ (
.rs (ops [(20,.bin .lss .num 19 18)]) (
.seq (.cond 20 none (.skip) (.exit 0)) (
.seq (.block 1 none (
.rs (ops [(21,.mv 19),
(4,.mv 21)]) (
.reg (ops [(22,.fadd 0 3),
(23,.load false 1 22),
(24,.mv 4),
(25,.idx 1 23 24)] (
.op none (.store false 1 25 (Cn (-2))) (
.done)))))) (
.reg (ops [(26,.bin .add .num 19 (Cn 1)),
(19,.mv 26)])))))))) (
.seq (.rs (ops [(27,.mv 0),
(28,.len .sl 27),
(29,.mv (Cn 0))]) (
.block 2 (some ⟨[], [(2, 2)]⟩) (
.loop ⟨[29], [(2, 2)]⟩ (
.rs (ops [(30,.bin .lss .num 29 28)]) (
.seq (.cond 30 none (.skip) (.exit 2)) (
.seq (.block 3 none (
.rs (ops [(31,.mv 29),
(5,.mv 31)]) (
.rs (ops [(32,.mv 0),
(33,.mv 5),
(34,.idx 8 32 33),
(35,.fadd 7 34),
(36,.load false 1 35),
(37,.len .sl 36),
(38,.mv (Cn 0))]) (
.block 4 (some ⟨[], [(2, 2)]⟩) (
.loop ⟨[38], [(2, 2)]⟩ (
.rs (ops [(39,.bin .lss .num 38 37)]) (
.seq (.cond 39 none (.skip) (.exit 4)) (
.seq (.block 5 none (
.rs (ops [(40,.idx 1 36 38),
(41,.load false 1 40),
(7,.mv 41)]) (
.rs (ops [(42,.fadd 0 3),
(43,.load false 1 42),
(44,.mv 7),
(45,.idx 1 43 44),
(46,.load false 1 45),
(47,.bin .eql .num 46 (Cn (-2)))]) (
.cond 47 (some ⟨[], [(2, 2)]⟩) (.reg (ops [(48,.fadd 0 3),
(49,.load false 1 48),
(50,.mv 7),
(51,.mv 5),
(52,.idx 1 49 50)] (
.op none (.store false 1 52 51) (
.done)))) (.reg (ops [(53,.fadd 0 3),
(54,.load false 1 53),
(55,.mv 7),
(56,.idx 1 54 55)] (
.op none (.store false 1 56 (Cn (-3))) (
.done)))))))) (
.reg (ops [(57,.bin .add .num 38 (Cn 1)),
(38,.mv 57)])))))))))) (
.reg (ops [(58,.bin .add .num 29 (Cn 1)),
(29,.mv 58)])))))))) (
.rs (ops [(59,.mv 0),
(60,.len .sl 59),
(61,.bin .sub .num 60 (Cn 1)),
(8,.mv 61)]) (
.seq (.rs (ops [(62,.fadd 0 3),
(63,.load false 1 62),
(64,.mv 8),
(65,.idx 1 63 64),
(66,.load false 1 65),
(67,.bin .eql .num 66 (Cn (-2)))]) (
.cond 67 (some ⟨[], [(2, 2)]⟩) (.reg (ops [(68,.fadd 0 3),
(69,.load false 1 68),
(70,.mv 8),
(71,.idx 1 69 70)] (
.op none (.store false 1 71 (Cn (-1))) (
.done)))) (.skip))) (
.seq (.rs (ops [(72,.mv 8),
(73,.bin .sub .num 72 (Cn 1)),
(9,.mv 73)]) (
.block 6 (some ⟨[], [(2, 2)]⟩) (
.loop ⟨[9], [(2, 2)]⟩ (
.seq (.rs (ops [(74,.mv 9),
(75,.bin .geq .num 74 (Cn 0))]) (
.cond 75 none (.skip) (.exit 6))) (
.seq (.block 7 none (
.rs (ops [(78,.fadd 0 3),
(79,.load false 1 78),
(80,.mv 9),
(81,.idx 1 79 80),
(82,.load false 1 81),
(83,.bin .geq .num 82 (Cn 0))]) (
.cond 83 (some ⟨[], [(2, 2)]⟩) (.drw (.row 84 (.fadd 1 3) (
.row 85 (.load false 1 84) (
.row 86 (.mv 9) (
.row 87 (.fadd 1 3) (
.row 88 (.load false 1 87) (
.row 89 (.fadd 0 3) (
.row 90 (.load false 1 89) (
.row 91 (.mv 9) (
.row 92 (.idx 1 90 91) (
.row 93 (.load false 1 92) (
.row 94 (.idx 1 88 93) (
.row 95 (.load false 1 94) (
.row 96 (.bin .add .num 95 (Cn 1)) (
.row 97 (.idx 1 85 86) (
.done))))))))))))))) [] [] (.op none (.store false 1 97 96) (
.done))) (.skip)))) (
.reg (ops [(76,.mv 9),
(77,.bin .sub .num 76 (Cn 1)),
(9,.mv 77)]))))))) (
.rs (ops [(98,.load true 2 3)] (
.op none (.store true 2 2 98) (
.freeze 2 (
.done)))) (
.ret))))))))⟩
noncomputable def lp_q20_1 (D : Ctx) (t_7 : AV) (o_5 : AV) (k_10 : Cur 1) : Cur 2 → Cur 2 :=
 fun go_84 t_81 t_82 s_83 =>
 (bin .lss .num t_81 t_7).bind fun t_85 =>
 aCase t_85
 ((idx 1 o_5 t_81).bind fun t_86 =>
 (wr t_86 [(.int .i64 (-2))] s_83).bind fun s_87 =>
 (bin .add .num t_81 (.int .i64 1)).bind fun t_88 =>
 go_84 t_88 (.agg (AV.cells t_82)) s_87)
 (k_10 (.agg (AV.cells t_82)) s_83)
theorem lp_q20_1_le {D : Ctx} (x0 x1 k2) {k2'} (hk2 : Cle k2 k2') {u u'} (h : Cle u u') : Cle (lp_q20_1 D x0 x1 k2 u) (lp_q20_1 D x0 x1 k2' u') := by
 unfold lp_q20_1
 repeat (first
  | with_reducible refine Ole.bindr fun _ => ?_
  | with_reducible refine Ole.aCase ?_ ?_
  | refine Cle.succ fun _ => ?_
  | refine Cle.zero fun _ => ?_
  | exact Cle.use1 (by assumption)
  | exact Cle.use2 (by assumption)
  | with_reducible exact Ole.refl _)
theorem lp_q20_1_mono (D x0 x1 k2) : Mono (lp_q20_1 D x0 x1 k2) := fun _ _ => lp_q20_1_le _ _ _ (Cle.refl _)
noncomputable def lp_q20_2 (D : Ctx) (t_57 : AV) (t_56 : AV) (o_5 : AV) (t_49 : AV) (k_60 : Cur 1) : Cur 2 → Cur 2 :=
 fun go_65 t_62 t_63 s_64 =>
 (bin .lss .num t_62 t_57).bind fun t_66 =>
 aCase t_66
 ((idx 1 t_56 t_62).bind fun t_67 =>
 (rd1 D.G t_67 s_64).bind fun t_68 =>
 (idx 1 o_5 t_68).bind fun t_69 =>
 (rd1 D.G t_69 s_64).bind fun t_70 =>
 (bin .eql .num t_70 (.int .i64 (-2))).bind fun t_71 =>
 jn 1 (fun t_72 s_73 =>
 (bin .add .num t_62 (.int .i64 1)).bind fun t_75 =>
 go_65 t_75 (.agg (AV.cells t_72)) s_73)
 (fun k_74 =>
 aCase t_71
 ((idx 1 o_5 t_68).bind fun t_76 =>
 (one t_49).bind fun o_77 =>
 (wr t_76 [o_77] s_64).bind fun s_78 =>
 k_74 (.agg (AV.cells t_63)) s_78)
 ((idx 1 o_5 t_68).bind fun t_79 =>
 (wr t_79 [(.int .i64 (-3))] s_64).bind fun s_80 =>
 k_74 (.agg (AV.cells t_63)) s_80)))
 (k_60 (.agg (AV.cells t_63)) s_64)
theorem lp_q20_2_le {D : Ctx} (x0 x1 x2 x3 k4) {k4'} (hk4 : Cle k4 k4') {u u'} (h : Cle u u') : Cle (lp_q20_2 D x0 x1 x2 x3 k4 u) (lp_q20_2 D x0 x1 x2 x3 k4' u') := by
 unfold lp_q20_2
 repeat (first
  | with_reducible refine Ole.bindr fun _ => ?_
  | with_reducible refine Ole.aCase ?_ ?_
  | refine Ole.jn ?_ (fun _ _ _ => ?_)
  | refine Cle.succ fun _ => ?_
  | refine Cle.zero fun _ => ?_
  | exact Cle.use1 (by assumption)
  | exact Cle.use2 (by assumption)
  | with_reducible exact Ole.refl _)
theorem lp_q20_2_mono (D x0 x1 x2 x3 k4) : Mono (lp_q20_2 D x0 x1 x2 x3 k4) := fun _ _ => lp_q20_2_le _ _ _ _ _ (Cle.refl _)
noncomputable def lp_q20_3 (D : Ctx) (t_11 : AV) (a0 : AV) (o_5 : AV) (k_14 : Cur 1) : Cur 2 → Cur 2 :=
 fun go_52 t_49 t_50 s_51 =>
 (bin .lss .num t_49 t_11).bind fun t_53 =>
 aCase t_53
 ((idx 8 a0 t_49).bind fun t_54 =>
 (fadd t_54 7).bind fun t_55 =>
 (rd1 D.G t_55 s_51).bind fun t_56 =>
 (lenV .sl t_56 s_51).bind fun t_57 =>
 jn 1 (fun t_58 s_59 =>
 (bin .add .num t_49 (.int .i64 1)).bind fun t_61 =>
 go_52 t_61 (.agg (AV.cells t_58)) s_59)
 (fun k_60 =>
 lpFix 2 (lp_q20_2 D t_57 t_56 o_5 t_49 k_60) (.int .i64 0) (.agg (AV.cells t_50)) s_51))
 (k_14 (.agg (AV.cells t_50)) s_51)
theorem lp_q20_3_le {D : Ctx} (x0 x1 x2 k3) {k3'} (hk3 : Cle k3 k3') {u u'} (h : Cle u u') : Cle (lp_q20_3 D x0 x1 x2 k3 u) (lp_q20_3 D x0 x1 x2 k3' u') := by
 unfold lp_q20_3
 repeat (first
  | with_reducible refine Ole.bindr fun _ => ?_
  | with_reducible refine Ole.aCase ?_ ?_
  | refine Ole.jn ?_ (fun _ _ _ => ?_)
  | refine Cle.succ fun _ => ?_
  | refine Cle.zero fun _ => ?_
  | exact Cle.use1 (by assumption)
  | exact Cle.use2 (by assumption)
  | exact Cle.use2 (lpFix_mono (lp_q20_2_mono _ _ _ _ _ _) (lp_q20_2_mono _ _ _ _ _ _) fun _ => lp_q20_2_le _ _ _ _ _ (by first | assumption | exact Cle.refl _) (Cle.refl _))
  | with_reducible exact Ole.refl _)
theorem lp_q20_3_mono (D x0 x1 x2 k3) : Mono (lp_q20_3 D x0 x1 x2 k3) := fun _ _ => lp_q20_3_le _ _ _ _ (Cle.refl _)
noncomputable def lp_q20_4 (D : Ctx) (o_5 : AV) (o_6 : AV) (k_26 : Cur 1) : Cur 2 → Cur 2 :=
 fun go_30 i_27 t_28 s_29 =>
 (bin .geq .num i_27 (.int .i64 0)).bind fun t_31 =>
 aCase t_31
 ((idx 1 o_5 i_27).bind fun t_32 =>
 (rd1 D.G t_32 s_29).bind fun t_33 =>
 (bin .geq .num t_33 (.int .i64 0)).bind fun t_34 =>
 jn 1 (fun t_35 s_36 =>
 (bin .sub .num i_27 (.int .i64 1)).bind fun t_38 =>
 go_30 t_38 (.agg (AV.cells t_35)) s_36)
 (fun k_37 =>
 aCase t_34
 ((idx 1 o_5 i_27).bind fun t_39 =>
 (rd1 D.G t_39 s_29).bind fun t_40 =>
 (idx 1 o_6 t_40).bind fun t_41 =>
 (rd1 D.G t_41 s_29).bind fun t_42 =>
 (bin .add .num t_42 (.int .i64 1)).bind fun t_43 =>
 (idx 1 o_6 i_27).bind fun t_44 =>
 (one t_43).bind fun o_45 =>
 (wr t_44 [o_45] s_29).bind fun s_46 =>
 k_37 (.agg (AV.cells t_28)) s_46)
 (k_37 (.agg (AV.cells t_28)) s_29)))
 (k_26 (.agg (AV.cells t_28)) s_29)
theorem lp_q20_4_le {D : Ctx} (x0 x1 k2) {k2'} (hk2 : Cle k2 k2') {u u'} (h : Cle u u') : Cle (lp_q20_4 D x0 x1 k2 u) (lp_q20_4 D x0 x1 k2' u') := by
 unfold lp_q20_4
 repeat (first
  | with_reducible refine Ole.bindr fun _ => ?_
  | with_reducible refine Ole.aCase ?_ ?_
  | refine Ole.jn ?_ (fun _ _ _ => ?_)
  | refine Cle.succ fun _ => ?_
  | refine Cle.zero fun _ => ?_
  | exact Cle.use1 (by assumption)
  | exact Cle.use2 (by assumption)
  | with_reducible exact Ole.refl _)
theorem lp_q20_4_mono (D x0 x1 k2) : Mono (lp_q20_4 D x0 x1 k2) := fun _ _ => lp_q20_4_le _ _ _ (Cle.refl _)
noncomputable def sh_q20 (D : Ctx) (a0 : AV) (σ : Store) : Res :=
 (lenV .sl a0 σ).bind fun t_1 =>
 (lenV .sl a0 σ).bind fun t_2 =>
 (mkSlice [(.int .i64 0)] t_1 σ).bind fun t_3 =>
 (mkSlice [(.int .i64 0)] t_2 t_3.2).bind fun t_4 =>
 (one t_3.1).bind fun o_5 =>
 (one t_4.1).bind fun o_6 =>
 (lenV .sl a0 t_4.2).bind fun t_7 =>
 jn 1 (fun t_8 s_9 =>
 (lenV .sl a0 s_9).bind fun t_11 =>
 jn 1 (fun t_12 s_13 =>
 (lenV .sl a0 s_13).bind fun t_15 =>
 (bin .sub .num t_15 (.int .i64 1)).bind fun t_16 =>
 (idx 1 o_5 t_16).bind fun t_17 =>
 (rd1 D.G t_17 s_13).bind fun t_18 =>
 (bin .eql .num t_18 (.int .i64 (-2))).bind fun t_19 =>
 jn 1 (fun t_20 s_21 =>
 (bin .sub .num t_16 (.int .i64 1)).bind fun t_23 =>
 jn 1 (fun t_24 s_25 =>
 some ((.agg [o_5, o_6]), s_25))
 (fun k_26 =>
 lpFix 2 (lp_q20_4 D o_5 o_6 k_26) t_23 (.agg (AV.cells t_20)) s_21))
 (fun k_22 =>
 aCase t_19
 ((idx 1 o_5 t_16).bind fun t_47 =>
 (wr t_47 [(.int .i64 (-1))] s_13).bind fun s_48 =>
 k_22 (.agg (AV.cells t_12)) s_48)
 (k_22 (.agg (AV.cells t_12)) s_13)))
 (fun k_14 =>
 lpFix 2 (lp_q20_3 D t_11 a0 o_5 k_14) (.int .i64 0) (.agg (AV.cells t_8)) s_9))
 (fun k_10 =>
 lpFix 2 (lp_q20_1 D t_7 o_5 k_10) (.int .i64 0) (.agg [.nilslice, .nilslice]) t_4.2)
theorem sh_q20_eq (D : Ctx) (a0 : AV) (σ : Store) : runFn D ir_q20 [a0] σ = sh_q20 D a0 σ := by kernel_rfl
def ir_q21 : IFn := ⟨[.tmp 10],
.rs (ops [(5,.pbox 0),
(6,.pbox 1),
(7,.pbox 2),
(10,.mv (.c (.bool false)))]) (
.rs (ops [(14,.fadd 6 6),
(15,.load false 1 14),
(16,.mv 3),
(17,.idx 8 15 16),
(18,.load true 8 17),
(11,.zalloc [(.int .i64 0), (.int .i64 0), (.int .i64 0), (.int .i64 0), (.flt 0), (.str ⟨#[]⟩), .nilslice, .nilslice])] (
.op none (.store true 8 11 18) (
.freeze 11 (
.done)))) (
.seq (.rs (ops [(19,.fadd 0 11),
(20,.load false 1 19),
(21,.bin .eql .num 20 (Cn 27))]) (
.cond 21 none (.seq (.drw (.row 22 (.fadd 6 11) (
.row 23 (.load false 1 22) (
.row 24 (.idx 1 23 (Cn 0)) (
.row 25 (.load false 1 24) (
.row 26 (.bin .geq .num 25 (Cn 0)) (
.row 27 (.mv 26) (
.dia 27 (
.gop 27 true 28 (.fadd 6 11) (
.gop 27 true 29 (.load false 1 28) (
.gop 27 true 30 (.idx 1 29 (Cn 0)) (
.gop 27 true 31 (.load false 1 30) (
.gop 27 true 32 (.fadd 5 6) (
.gop 27 true 33 (.load false 1 32) (
.gop 27 true 34 (.len .sl 33) (
.gop 27 true 35 (.bin .lss .num 31 34) (
.done))))))))) 36 27 35 (.c (.bool false)) none (
.row 10 (.mv 36) (
.done))))))))) [] [] (.done)) (
.ret)) (.skip))) (
.seq (.rs (ops [(37,.fadd 0 11),
(38,.load false 1 37),
(39,.bin .eql .num 38 (Cn 36))]) (
.cond 39 none (.seq (.drw (.row 40 (.fadd 6 11) (
.row 41 (.load false 1 40) (
.row 42 (.idx 1 41 (Cn 0)) (
.row 43 (.load false 1 42) (
.row 44 (.bin .geq .num 43 (Cn 0)) (
.row 45 (.mv 44) (
.dia 45 (
.gop 45 true 46 (.fadd 6 11) (
.gop 45 true 47 (.load false 1 46) (
.gop 45 true 48 (.idx 1 47 (Cn 0)) (
.gop 45 true 49 (.load false 1 48) (
.gop 45 true 50 (.fadd 0 5) (
.gop 45 true 51 (.load false 1 50) (
.gop 45 true 52 (.len .sl 51) (
.gop 45 true 53 (.bin .lss .num 49 52) (
.done))))))))) 54 45 53 (.c (.bool false)) none (
.row 10 (.mv 54) (
.done))))))))) [] [] (.done)) (
.ret)) (.skip))) (
.seq (.rs (ops [(55,.fadd 6 11),
(56,.load false 1 55),
(57,.len .sl 56),
(58,.mv (Cn 0))]) (
.block 0 (some ⟨[], []⟩) (
.loop ⟨[58], []⟩ (
.rs (ops [(59,.bin .lss .num 58 57)]) (
.seq (.cond 59 none (.skip) (.exit 0)) (
.seq (.block 1 none (
.rs (ops [(60,.idx 1 56 58),
(61,.load false 1 60),
(13,.mv 61)]) (
.seq (.rs (ops [(62,.mv 13),
(63,.bin .lss .num 62 (Cn 0)),
(64,.mv 63)] (
.dia 64 (
.gop 64 false (some 65) (.mv 13) (
.gop 64 false (some 66) (.fadd 4 6) (
.gop 64 false (some 67) (.load false 1 66) (
.gop 64 false (some 68) (.len .sl 67) (
.gop 64 false (some 69) (.bin .geq .num 65 68) (
.done)))))) 70 64 (.c (.bool true)) 69 none (
.done))) (
.cond 70 none (.rs (ops [(10,.mv (.c (.bool false)))]) (
.ret)) (.skip))) (
.seq (.rs (ops [(71,.fadd 0 11),
(72,.load false 1 71),
(73,.bin .eql .num 72 (Cn 26))]) (
.cond 73 none (.rs (ops [(74,.load true 7 6),
(75,.load true 2 7),
(76,.mv 3),
(77,.mv 13),
(78,.callV 45 [74, 75, 76, 77]),
(10,.mv 78)]) (
.ret)) (.skip))) (
.seq (.rs (ops [(79,.mv 4),
(80,.mv 13),
(81,.idx 1 79 80),
(82,.load false 1 81)]) (
.cond 82 none (.rs (ops [(10,.mv (.c (.bool false)))]) (
.ret)) (.skip))) (
.reg (ops [(83,.mv 4),
(84,.mv 13),
(85,.idx 1 83 84)] (
.op none (.store false 1 85 (.c (.bool true))) (
.done))))))))) (
.reg (ops [(86,.bin .add .num 58 (Cn 1)),
(58,.mv 86)])))))))) (
.rs (ops [(10,.mv (.c (.bool true)))]) (
.ret))))))⟩
noncomputable def lp_q21_1 (D : Ctx) (t_36 : AV) (t_35 : AV) (cs_4 : List AV) (a1 : AV) (a2 : AV) (a3 : AV) (a4 : AV) (k_38 : Cur 0) : Cur 1 → Cur 1 :=
 fun go_41 t_39 s_40 =>
 (bin .lss .num t_39 t_36).bind fun t_42 =>
 aCase t_42
 ((idx 1 t_35 t_39).bind fun t_43 =>
 (rd1 D.G t_43 s_40).bind fun t_44 =>
 (bin .lss .num t_44 (.int .i64 0)).bind fun t_45 =>
 jn 1 (fun t_46 s_47 =>
 aCase t_46
 (some ((.bool false), s_47))
 ((rd1 D.G (.pptr cs_4 0) s_47).bind fun t_49 =>
 (bin .eql .num t_49 (.int .i64 26)).bind fun t_50 =>
 aCase t_50
 ((rdN 7 (.pptr (AV.cells a1) 0) s_47).bind fun t_51 =>
 (rdN 2 (.pptr (AV.cells a2) 0) s_47).bind fun t_52 =>
 (callV D 45 [(.agg t_51), (.agg t_52), a3, t_44] s_47).bind fun t_53 =>
 some (t_53, s_47))
 ((idx 1 a4 t_44).bind fun t_54 =>
 (rd1 D.G t_54 s_47).bind fun t_55 =>
 aCase t_55
 (some ((.bool false), s_47))
 ((idx 1 a4 t_44).bind fun t_56 =>
 (wr t_56 [(.bool true)] s_47).bind fun s_57 =>
 (bin .add .num t_39 (.int .i64 1)).bind fun t_58 =>
 go_41 t_58 s_57))))
 (fun j_48 =>
 aCase t_45
 (j_48 (.bool true) s_40)
 ((rd1 D.G (.pptr (AV.cells a1) 4) s_40).bind fun t_59 =>
 (lenV .sl t_59 s_40).bind fun t_60 =>
 (bin .geq .num t_44 t_60).bind fun t_61 =>
 j_48 t_61 s_40)))
 (k_38  s_40)
theorem lp_q21_1_le {D : Ctx} (x0 x1 x2 x3 x4 x5 x6 k7) {k7'} (hk7 : Cle k7 k7') {u u'} (h : Cle u u') : Cle (lp_q21_1 D x0 x1 x2 x3 x4 x5 x6 k7 u) (lp_q21_1 D x0 x1 x2 x3 x4 x5 x6 k7' u') := by
 unfold lp_q21_1
 repeat (first
  | with_reducible refine Ole.bindr fun _ => ?_
  | with_reducible refine Ole.aCase ?_ ?_
  | refine Ole.jn ?_ (fun _ _ _ => ?_)
  | refine Cle.succ fun _ => ?_
  | refine Cle.zero fun _ => ?_
  | exact Cle.use0 (by assumption)
  | exact Cle.use1 (by assumption)
  | with_reducible exact Ole.refl _)
theorem lp_q21_1_mono (D x0 x1 x2 x3 x4 x5 x6 k7) : Mono (lp_q21_1 D x0 x1 x2 x3 x4 x5 x6 k7) := fun _ _ => lp_q21_1_le _ _ _ _ _ _ _ _ (Cle.refl _)
noncomputable def sh_q21 (D : Ctx) (a0 a1 a2 a3 a4 : AV) (σ : Store) : Res :=
 (rd1 D.G (.pptr (AV.cells a1) 6) σ).bind fun t_1 =>
 (idx 8 t_1 a3).bind fun t_2 =>
 (rdN 8 t_2 σ).bind fun t_3 =>
 (asplit 8 (.agg t_3)).bind fun cs_4 =>
 (rd1 D.G (.pptr cs_4 0) σ).bind fun t_5 =>
 (bin .eql .num t_5 (.int .i64 27)).bind fun t_6 =>
 aCase t_6
 ((rd1 D.G (.pptr cs_4 6) σ).bind fun t_7 =>
 (idx 1 t_7 (.int .i64 0)).bind fun t_8 =>
 (rd1 D.G t_8 σ).bind fun t_9 =>
 (bin .geq .num t_9 (.int .i64 0)).bind fun t_10 =>
 jn 1 (fun t_11 s_12 =>
 some (t_11, s_12))
 (fun j_13 =>
 aCase t_10
 ((rd1 D.G (.pptr cs_4 6) σ).bind fun t_14 =>
 (idx 1 t_14 (.int .i64 0)).bind fun t_15 =>
 (rd1 D.G t_15 σ).bind fun t_16 =>
 (rd1 D.G (.pptr (AV.cells a1) 5) σ).bind fun t_17 =>
 (lenV .sl t_17 σ).bind fun t_18 =>
 (bin .lss .num t_16 t_18).bind fun t_19 =>
 j_13 t_19 σ)
 (j_13 (.bool false) σ)))
 ((rd1 D.G (.pptr cs_4 0) σ).bind fun t_20 =>
 (bin .eql .num t_20 (.int .i64 36)).bind fun t_21 =>
 aCase t_21
 ((rd1 D.G (.pptr cs_4 6) σ).bind fun t_22 =>
 (idx 1 t_22 (.int .i64 0)).bind fun t_23 =>
 (rd1 D.G t_23 σ).bind fun t_24 =>
 (bin .geq .num t_24 (.int .i64 0)).bind fun t_25 =>
 jn 1 (fun t_26 s_27 =>
 some (t_26, s_27))
 (fun j_28 =>
 aCase t_25
 ((rd1 D.G (.pptr cs_4 6) σ).bind fun t_29 =>
 (idx 1 t_29 (.int .i64 0)).bind fun t_30 =>
 (rd1 D.G t_30 σ).bind fun t_31 =>
 (rd1 D.G (.pptr (AV.cells a0) 0) σ).bind fun t_32 =>
 (lenV .sl t_32 σ).bind fun t_33 =>
 (bin .lss .num t_31 t_33).bind fun t_34 =>
 j_28 t_34 σ)
 (j_28 (.bool false) σ)))
 ((rd1 D.G (.pptr cs_4 6) σ).bind fun t_35 =>
 (lenV .sl t_35 σ).bind fun t_36 =>
 jn 0 (fun  s_37 =>
 some ((.bool true), s_37))
 (fun k_38 =>
 lpFix 1 (lp_q21_1 D t_36 t_35 cs_4 a1 a2 a3 a4 k_38) (.int .i64 0) σ)))
theorem sh_q21_eq (D : Ctx) (a0 a1 a2 a3 a4 : AV) (σ : Store) : runFn D ir_q21 [a0, a1, a2, a3, a4] σ = sh_q21 D a0 a1 a2 a3 a4 σ := by kernel_rfl
def ir_q22 : IFn := ⟨[.tmp 6],
.rs (ops [(3,.pbox 0),
(4,.pbox 1),
(6,.mv (.c (.bool false)))]) (
.rs (ops [(11,.mv 2),
(7,.mv 11)]) (
.seq (.rs (ops [(12,.fadd 0 4),
(13,.load false 1 12),
(14,.mv 2),
(15,.idx 1 13 14),
(16,.load false 1 15),
(8,.mv 16)]) (
.block 0 (some ⟨[], []⟩) (
.loop ⟨[7, 8], []⟩ (
.seq (.rs (ops [(17,.mv 8),
(18,.bin .geq .num 17 (Cn 0))]) (
.cond 18 none (.skip) (.exit 0))) (
.seq (.block 1 none (
.rs (ops [(24,.fadd 6 3),
(25,.load false 1 24),
(26,.mv 8),
(27,.idx 8 25 26),
(28,.load true 8 27),
(9,.zalloc [(.int .i64 0), (.int .i64 0), (.int .i64 0), (.int .i64 0), (.flt 0), (.str ⟨#[]⟩), .nilslice, .nilslice])] (
.op none (.store true 8 9 28) (
.freeze 9 (
.done)))) (
.rs (ops [(29,.fadd 0 9),
(30,.load false 1 29),
(31,.bin .eql .num 30 (Cn 6)),
(32,.mv 31)] (
.dia 32 (
.gop 32 false (some 33) (.fadd 0 9) (
.gop 32 false (some 34) (.load false 1 33) (
.gop 32 false (some 35) (.bin .eql .num 34 (Cn 7)) (
.done)))) 36 32 (.c (.bool true)) 35 none (
 ops [(37,.mv 36)] (
.dia 37 (
.gop 37 false (some 38) (.fadd 0 9) (
.gop 37 false (some 39) (.load false 1 38) (
.gop 37 false (some 40) (.bin .eql .num 39 (Cn 8)) (
.done)))) 41 37 (.c (.bool true)) 40 none (
 ops [(10,.mv 41)]))))) (
.seq (.rs (ops [(42,.mv 10),
(43,.mv 42)] (
.dia 43 (
.gop 43 true (some 44) (.fadd 7 9) (
.gop 43 true (some 45) (.load false 1 44) (
.gop 43 true (some 46) (.fadd 7 9) (
.gop 43 true (some 47) (.load false 1 46) (
.gop 43 true (some 48) (.len .sl 47) (
.gop 43 true (some 49) (.bin .sub .num 48 (Cn 1)) (
.gop 43 true (some 50) (.idx 1 45 49) (
.gop 43 true (some 51) (.load false 1 50) (
.gop 43 true (some 52) (.mv 7) (
.gop 43 true (some 53) (.bin .eql .num 51 52) (
.done))))))))))) 54 43 53 (.c (.bool false)) none (
.done))) (
.cond 54 none (.rs (ops [(6,.mv (.c (.bool true)))]) (
.ret)) (.skip))) (
.reg (ops [(55,.mv 8),
(7,.mv 55)])))))) (
.reg (ops [(19,.fadd 0 4),
(20,.load false 1 19),
(21,.mv 8),
(22,.idx 1 20 21),
(23,.load false 1 22),
(8,.mv 23)]))))))) (
.rs (ops [(6,.mv (.c (.bool false)))]) (
.ret))))⟩
noncomputable def lp_q22_1 (D : Ctx) (a0 : AV) (a1 : AV) (k_5 : Cur 0) : Cur 2 → Cur 2 :=
 fun go_9 below_6 up_7 s_8 =>
 (bin .geq .num up_7 (.int .i64 0)).bind fun t_10 =>
 aCase t_10
 ((rd1 D.G (.pptr (AV.cells a0) 6) s_8).bind fun t_11 =>
 (idx 8 t_11 up_7).bind fun t_12 =>
 (rdN 8 t_12 s_8).bind fun t_13 =>
 (asplit 8 (.agg t_13)).bind fun cs_14 =>
 (rd1 D.G (.pptr cs_14 0) s_8).bind fun t_15 =>
 (bin .eql .num t_15 (.int .i64 6)).bind fun t_16 =>
 jn 1 (fun t_17 s_18 =>
 jn 1 (fun t_20 s_21 =>
 jn 1 (fun t_23 s_24 =>
 aCase t_23
 (some ((.bool true), s_24))
 ((rd1 D.G (.pptr (AV.cells a1) 0) s_24).bind fun t_26 =>
 (idx 1 t_26 up_7).bind fun t_27 =>
 (rd1 D.G t_27 s_24).bind fun t_28 =>
 go_9 up_7 t_28 s_24))
 (fun j_25 =>
 aCase t_20
 ((rd1 D.G (.pptr cs_14 7) s_21).bind fun t_29 =>
 (rd1 D.G (.pptr cs_14 7) s_21).bind fun t_30 =>
 (lenV .sl t_30 s_21).bind fun t_31 =>
 (bin .sub .num t_31 (.int .i64 1)).bind fun t_32 =>
 (idx 1 t_29 t_32).bind fun t_33 =>
 (rd1 D.G t_33 s_21).bind fun t_34 =>
 (bin .eql .num t_34 below_6).bind fun t_35 =>
 j_25 t_35 s_21)
 (j_25 (.bool false) s_21)))
 (fun j_22 =>
 aCase t_17
 (j_22 (.bool true) s_18)
 ((rd1 D.G (.pptr cs_14 0) s_18).bind fun t_36 =>
 (bin .eql .num t_36 (.int .i64 8)).bind fun t_37 =>
 j_22 t_37 s_18)))
 (fun j_19 =>
 aCase t_16
 (j_19 (.bool true) s_8)
 ((rd1 D.G (.pptr cs_14 0) s_8).bind fun t_38 =>
 (bin .eql .num t_38 (.int .i64 7)).bind fun t_39 =>
 j_19 t_39 s_8)))
 (k_5  s_8)
theorem lp_q22_1_le {D : Ctx} (x0 x1 k2) {k2'} (hk2 : Cle k2 k2') {u u'} (h : Cle u u') : Cle (lp_q22_1 D x0 x1 k2 u) (lp_q22_1 D x0 x1 k2' u') := by
 unfold lp_q22_1
 repeat (first
  | with_reducible refine Ole.bindr fun _ => ?_
  | with_reducible refine Ole.aCase ?_ ?_
  | refine Ole.jn ?_ (fun _ _ _ => ?_)
  | refine Cle.succ fun _ => ?_
  | refine Cle.zero fun _ => ?_
  | exact Cle.use0 (by assumption)
  | exact Cle.use1 (by assumption)
  | exact Cle.use2 (by assumption)
  | with_reducible exact Ole.refl _)
theorem lp_q22_1_mono (D x0 x1 k2) : Mono (lp_q22_1 D x0 x1 k2) := fun _ _ => lp_q22_1_le _ _ _ (Cle.refl _)
noncomputable def sh_q22 (D : Ctx) (a0 a1 a2 : AV) (σ : Store) : Res :=
 (rd1 D.G (.pptr (AV.cells a1) 0) σ).bind fun t_1 =>
 (idx 1 t_1 a2).bind fun t_2 =>
 (rd1 D.G t_2 σ).bind fun t_3 =>
 jn 0 (fun  s_4 =>
 some ((.bool false), s_4))
 (fun k_5 =>
 lpFix 2 (lp_q22_1 D a0 a1 k_5) a2 t_3 σ)
theorem sh_q22_eq (D : Ctx) (a0 a1 a2 : AV) (σ : Store) : runFn D ir_q22 [a0, a1, a2] σ = sh_q22 D a0 a1 a2 σ := by kernel_rfl
def ir_q23 : IFn := ⟨[.tmp 10],
.rs (ops [(5,.pbox 0),
(7,.pbox 2),
(10,.mv (.c (.bool false)))]) (
.seq (.rs (ops [(13,.fadd 0 5),
(14,.load false 1 13),
(15,.mv 4),
(16,.idx 7 14 15),
(17,.fadd 5 16),
(18,.load false 1 17),
(19,.len .sl 18),
(20,.mv (Cn 0))]) (
.block 0 (some ⟨[], []⟩) (
.loop ⟨[20], []⟩ (
.rs (ops [(21,.bin .lss .num 20 19)]) (
.seq (.cond 21 none (.skip) (.exit 0)) (
.seq (.block 1 none (
.rs (ops [(22,.idx 2 18 20),
(23,.load true 2 22),
(12,.zalloc [(.bool false), (.int .i64 0)])] (
.op none (.store true 2 12 23) (
.freeze 12 (
.done)))) (
.rs (ops [(24,.fadd 0 12),
(25,.load false 1 24)]) (
.cond 25 (some ⟨[], []⟩) (.seq (.drw (.row 26 (.fadd 1 12) (
.row 27 (.load false 1 26) (
.row 28 (.bin .lss .num 27 (Cn 0)) (
.row 29 (.mv 28) (
.dia 29 (
.gop 29 false 30 (.fadd 1 12) (
.gop 29 false 31 (.load false 1 30) (
.gop 29 false 32 (.fadd 0 5) (
.gop 29 false 33 (.load false 1 32) (
.gop 29 false 34 (.mv 1) (
.gop 29 false 35 (.idx 7 33 34) (
.gop 29 false 36 (.fadd 4 35) (
.gop 29 false 37 (.load false 1 36) (
.gop 29 false 38 (.len .sl 37) (
.gop 29 false 39 (.bin .geq .num 31 38) (
.done))))))))))) 40 29 (.c (.bool true)) 39 none (
.row 41 (.mv 40) (
.dia 41 (
.gop 41 false 42 (.fadd 0 5) (
.gop 41 false 43 (.load false 1 42) (
.gop 41 false 44 (.mv 1) (
.gop 41 false 45 (.idx 7 43 44) (
.gop 41 false 46 (.load true 7 45) (
.gop 41 false 47 (.load true 2 7) (
.gop 41 false 48 (.mv 3) (
.gop 41 false 49 (.fadd 1 12) (
.gop 41 false 50 (.load false 1 49) (
.gop 41 false 51 (.callV 45 [46, 47, 48, 50]) (
.gop 41 false 52 (.un .not 51) (
.done)))))))))))) 53 41 (.c (.bool true)) 52 none (
.done)))))))) [] [] (.done)) (
.cond 53 none (.rs (ops [(10,.mv (.c (.bool false)))]) (
.ret)) (.skip))) (.seq (.drw (.row 54 (.fadd 1 12) (
.row 55 (.load false 1 54) (
.row 56 (.bin .lss .num 55 (Cn 0)) (
.row 57 (.mv 56) (
.dia 57 (
.gop 57 false 58 (.fadd 1 12) (
.gop 57 false 59 (.load false 1 58) (
.gop 57 false 60 (.fadd 0 5) (
.gop 57 false 61 (.load false 1 60) (
.gop 57 false 62 (.mv 1) (
.gop 57 false 63 (.idx 7 61 62) (
.gop 57 false 64 (.fadd 5 63) (
.gop 57 false 65 (.load false 1 64) (
.gop 57 false 66 (.len .sl 65) (
.gop 57 false 67 (.bin .geq .num 59 66) (
.done))))))))))) 68 57 (.c (.bool true)) 67 none (
.done)))))) [] [] (.done)) (
.cond 68 none (.rs (ops [(10,.mv (.c (.bool false)))]) (
.ret)) (.skip))))))) (
.reg (ops [(69,.bin .add .num 20 (Cn 1)),
(20,.mv 69)])))))))) (
.rs (ops [(10,.mv (.c (.bool true)))]) (
.ret)))⟩
noncomputable def lp_q23_1 (D : Ctx) (t_5 : AV) (t_4 : AV) (a0 : AV) (a1 : AV) (a2 : AV) (a3 : AV) (k_7 : Cur 0) : Cur 1 → Cur 1 :=
 fun go_10 t_8 s_9 =>
 (bin .lss .num t_8 t_5).bind fun t_11 =>
 aCase t_11
 ((idx 2 t_4 t_8).bind fun t_12 =>
 (rdN 2 t_12 s_9).bind fun t_13 =>
 (asplit 2 (.agg t_13)).bind fun cs_14 =>
 (rd1 D.G (.pptr cs_14 0) s_9).bind fun t_15 =>
 jn 0 (fun  s_16 =>
 (bin .add .num t_8 (.int .i64 1)).bind fun t_18 =>
 go_10 t_18 s_16)
 (fun k_17 =>
 aCase t_15
 ((rd1 D.G (.pptr cs_14 1) s_9).bind fun t_19 =>
 (bin .lss .num t_19 (.int .i64 0)).bind fun t_20 =>
 jn 1 (fun t_21 s_22 =>
 jn 1 (fun t_24 s_25 =>
 aCase t_24
 (some ((.bool false), s_25))
 (k_17  s_25))
 (fun j_26 =>
 aCase t_21
 (j_26 (.bool true) s_22)
 ((rd1 D.G (.pptr (AV.cells a0) 0) s_22).bind fun t_27 =>
 (idx 7 t_27 a1).bind fun t_28 =>
 (rdN 7 t_28 s_22).bind fun t_29 =>
 (rdN 2 (.pptr (AV.cells a2) 0) s_22).bind fun t_30 =>
 (rd1 D.G (.pptr cs_14 1) s_22).bind fun t_31 =>
 (callV D 45 [(.agg t_29), (.agg t_30), a3, t_31] s_22).bind fun t_32 =>
 (un .not t_32).bind fun t_33 =>
 j_26 t_33 s_22)))
 (fun j_23 =>
 aCase t_20
 (j_23 (.bool true) s_9)
 ((rd1 D.G (.pptr cs_14 1) s_9).bind fun t_34 =>
 (rd1 D.G (.pptr (AV.cells a0) 0) s_9).bind fun t_35 =>
 (idx 7 t_35 a1).bind fun t_36 =>
 (fadd t_36 4).bind fun t_37 =>
 (rd1 D.G t_37 s_9).bind fun t_38 =>
 (lenV .sl t_38 s_9).bind fun t_39 =>
 (bin .geq .num t_34 t_39).bind fun t_40 =>
 j_23 t_40 s_9)))
 ((rd1 D.G (.pptr cs_14 1) s_9).bind fun t_41 =>
 (bin .lss .num t_41 (.int .i64 0)).bind fun t_42 =>
 jn 1 (fun t_43 s_44 =>
 aCase t_43
 (some ((.bool false), s_44))
 (k_17  s_44))
 (fun j_45 =>
 aCase t_42
 (j_45 (.bool true) s_9)
 ((rd1 D.G (.pptr cs_14 1) s_9).bind fun t_46 =>
 (rd1 D.G (.pptr (AV.cells a0) 0) s_9).bind fun t_47 =>
 (idx 7 t_47 a1).bind fun t_48 =>
 (fadd t_48 5).bind fun t_49 =>
 (rd1 D.G t_49 s_9).bind fun t_50 =>
 (lenV .sl t_50 s_9).bind fun t_51 =>
 (bin .geq .num t_46 t_51).bind fun t_52 =>
 j_45 t_52 s_9)))))
 (k_7  s_9)
theorem lp_q23_1_le {D : Ctx} (x0 x1 x2 x3 x4 x5 k6) {k6'} (hk6 : Cle k6 k6') {u u'} (h : Cle u u') : Cle (lp_q23_1 D x0 x1 x2 x3 x4 x5 k6 u) (lp_q23_1 D x0 x1 x2 x3 x4 x5 k6' u') := by
 unfold lp_q23_1
 repeat (first
  | with_reducible refine Ole.bindr fun _ => ?_
  | with_reducible refine Ole.aCase ?_ ?_
  | refine Ole.jn ?_ (fun _ _ _ => ?_)
  | refine Cle.succ fun _ => ?_
  | refine Cle.zero fun _ => ?_
  | exact Cle.use0 (by assumption)
  | exact Cle.use1 (by assumption)
  | with_reducible exact Ole.refl _)
theorem lp_q23_1_mono (D x0 x1 x2 x3 x4 x5 k6) : Mono (lp_q23_1 D x0 x1 x2 x3 x4 x5 k6) := fun _ _ => lp_q23_1_le _ _ _ _ _ _ _ (Cle.refl _)
noncomputable def sh_q23 (D : Ctx) (a0 a1 a2 a3 a4 : AV) (σ : Store) : Res :=
 (rd1 D.G (.pptr (AV.cells a0) 0) σ).bind fun t_1 =>
 (idx 7 t_1 a4).bind fun t_2 =>
 (fadd t_2 5).bind fun t_3 =>
 (rd1 D.G t_3 σ).bind fun t_4 =>
 (lenV .sl t_4 σ).bind fun t_5 =>
 jn 0 (fun  s_6 =>
 some ((.bool true), s_6))
 (fun k_7 =>
 lpFix 1 (lp_q23_1 D t_5 t_4 a0 a1 a2 a3 k_7) (.int .i64 0) σ)
theorem sh_q23_eq (D : Ctx) (a0 a1 a2 a3 a4 : AV) (σ : Store) : runFn D ir_q23 [a0, a1, a2, a3, a4] σ = sh_q23 D a0 a1 a2 a3 a4 σ := by kernel_rfl
def ir_q24 : IFn := ⟨[.cell 2 true 7],
.rs (ops [(1,.pbox 0),
(2,.zalloc [(.str ⟨#[]⟩), (.int .i64 0), (.int .i64 0), (.bool false), .nilslice, .nilslice, .nilslice])]) (
.rs (ops [(3,.zalloc [(.str ⟨#[]⟩), (.int .i64 0), (.int .i64 0), (.bool false), .nilslice, .nilslice, .nilslice])]) (
.rs (ops [(4,.fadd 0 1),
(5,.load false 1 4),
(6,.fadd 0 3)] (
.op none (.store false 1 6 5) (
.done))) (
.rs (ops [(7,.fadd 1 1),
(8,.load false 1 7),
(9,.fadd 1 3)] (
.op none (.store false 1 9 8) (
.done))) (
.rs (ops [(10,.fadd 2 1),
(11,.load false 1 10),
(12,.fadd 2 3)] (
.op none (.store false 1 12 11) (
.done))) (
.rs (ops [(13,.fadd 3 1),
(14,.load false 1 13),
(15,.fadd 3 3)] (
.op none (.store false 1 15 14) (
.done))) (
.rs (ops [(16,.fadd 4 1),
(17,.load false 1 16),
(18,.callP 46 [17]),
(19,.fadd 4 3)] (
.op none (.store false 1 19 18) (
.done))) (
.rs (ops [(20,.fadd 5 1),
(21,.load false 1 20),
(22,.callP 47 [21]),
(23,.fadd 5 3)] (
.op none (.store false 1 23 22) (
.done))) (
.rs (ops [(24,.fadd 6 1),
(25,.load false 1 24),
(26,.callP 48 [25]),
(27,.fadd 6 3)] (
.op none (.store false 1 27 26) (
.done))) (
.rs (ops [(28,.load true 7 3)] (
.op none (.store true 7 2 28) (
.freeze 2 (
.done)))) (
.ret))))))))))⟩
noncomputable def sh_q24 (D : Ctx) (a0 : AV) (σ : Store) : Res :=
 (rd1 D.G (.pptr (AV.cells a0) 0) σ).bind fun t_1 =>
 (one t_1).bind fun o_2 =>
 (rd1 D.G (.pptr (AV.cells a0) 1) σ).bind fun t_3 =>
 (one t_3).bind fun o_4 =>
 (rd1 D.G (.pptr (AV.cells a0) 2) σ).bind fun t_5 =>
 (one t_5).bind fun o_6 =>
 (rd1 D.G (.pptr (AV.cells a0) 3) σ).bind fun t_7 =>
 (one t_7).bind fun o_8 =>
 (rd1 D.G (.pptr (AV.cells a0) 4) σ).bind fun t_9 =>
 (callP D 46 [t_9]).bind fun t_10 =>
 (one t_10).bind fun o_11 =>
 (rd1 D.G (.pptr (AV.cells a0) 5) σ).bind fun t_12 =>
 (callP D 47 [t_12]).bind fun t_13 =>
 (one t_13).bind fun o_14 =>
 (rd1 D.G (.pptr (AV.cells a0) 6) σ).bind fun t_15 =>
 (callP D 48 [t_15]).bind fun t_16 =>
 (one t_16).bind fun o_17 =>
 some ((.agg [o_2, o_4, o_6, o_8, o_11, o_14, o_17]), σ)
theorem sh_q24_eq (D : Ctx) (a0 : AV) (σ : Store) : runFn D ir_q24 [a0] σ = sh_q24 D a0 σ := by kernel_rfl
def ir_q12_1 : IFn := ⟨[.tmp 7],
.rs (ops [(7,.mv (.c (.bool false)))]) (
.seq (.rs (ops [(10,.load false 1 3),
(11,.mv 1),
(12,.mv 2),
(13,.slice 1 10 (some 11) (some 12)),
(14,.len .sl 13),
(15,.mv (Cn 0))]) (
.block 0 (some ⟨[], []⟩) (
.loop ⟨[15], []⟩ (
.rs (ops [(16,.bin .lss .num 15 14)]) (
.seq (.cond 16 none (.skip) (.exit 0)) (
.seq (.block 1 none (
.rs (ops [(17,.idx 1 13 15),
(18,.load false 1 17),
(9,.mv 18)]) (
.rs (ops [(19,.mv 0),
(20,.mv 9),
(21,.callD 19 [20]),
(22,.un .not 21)]) (
.cond 22 none (.rs (ops [(7,.mv (.c (.bool false)))]) (
.ret)) (.skip))))) (
.reg (ops [(23,.bin .add .num 15 (Cn 1)),
(15,.mv 23)])))))))) (
.rs (ops [(7,.mv (.c (.bool true)))]) (
.ret)))⟩
noncomputable def lp_q12_1_1 (D : Ctx) (t_3 : AV) (t_2 : AV) (a0 : AV) (k_5 : Cur 0) : Cur 1 → Cur 1 :=
 fun go_8 t_6 s_7 =>
 (bin .lss .num t_6 t_3).bind fun t_9 =>
 aCase t_9
 ((idx 1 t_2 t_6).bind fun t_10 =>
 (rd1 D.G t_10 s_7).bind fun t_11 =>
 (callD D a0 [t_11] s_7).bind fun t_12 =>
 (un .not t_12.1).bind fun t_13 =>
 aCase t_13
 (some ((.bool false), t_12.2))
 ((bin .add .num t_6 (.int .i64 1)).bind fun t_14 =>
 go_8 t_14 t_12.2))
 (k_5  s_7)
theorem lp_q12_1_1_le {D : Ctx} (x0 x1 x2 k3) {k3'} (hk3 : Cle k3 k3') {u u'} (h : Cle u u') : Cle (lp_q12_1_1 D x0 x1 x2 k3 u) (lp_q12_1_1 D x0 x1 x2 k3' u') := by
 unfold lp_q12_1_1
 repeat (first
  | with_reducible refine Ole.bindr fun _ => ?_
  | with_reducible refine Ole.aCase ?_ ?_
  | refine Cle.succ fun _ => ?_
  | refine Cle.zero fun _ => ?_
  | exact Cle.use0 (by assumption)
  | exact Cle.use1 (by assumption)
  | with_reducible exact Ole.refl _)
theorem lp_q12_1_1_mono (D x0 x1 x2 k3) : Mono (lp_q12_1_1 D x0 x1 x2 k3) := fun _ _ => lp_q12_1_1_le _ _ _ _ (Cle.refl _)
noncomputable def sh_q12_1 (D : Ctx) (a0 a1 a2 a3 : AV) (σ : Store) : Res :=
 (rd1 D.G a3 σ).bind fun t_1 =>
 (sliceV 1 t_1 (some a1) (some a2)).bind fun t_2 =>
 (lenV .sl t_2 σ).bind fun t_3 =>
 jn 0 (fun  s_4 =>
 some ((.bool true), s_4))
 (fun k_5 =>
 lpFix 1 (lp_q12_1_1 D t_3 t_2 a0 k_5) (.int .i64 0) σ)
theorem sh_q12_1_eq (D : Ctx) (a0 a1 a2 a3 : AV) (σ : Store) : runFn D ir_q12_1 [a0, a1, a2, a3] σ = sh_q12_1 D a0 a1 a2 a3 σ := by kernel_rfl
def ir_q12_2 : IFn := ⟨[.tmp 5],
.rs (ops [(5,.mv (.c (.bool false)))]) (
.seq (.rs (ops [(8,.mv 1),
(9,.len .sl 8),
(10,.mv (Cn 0))]) (
.block 0 (some ⟨[], []⟩) (
.loop ⟨[10], []⟩ (
.rs (ops [(11,.bin .lss .num 10 9)]) (
.seq (.cond 11 none (.skip) (.exit 0)) (
.seq (.block 1 none (
.rs (ops [(12,.idx 1 8 10),
(13,.load false 1 12),
(7,.mv 13)]) (
.rs (ops [(14,.load false 1 2),
(15,.mv 0),
(16,.idx 1 14 15),
(17,.load false 1 16),
(18,.mv 7),
(19,.bin .eql .num 17 18)]) (
.cond 19 none (.rs (ops [(5,.mv (.c (.bool true)))]) (
.ret)) (.skip))))) (
.reg (ops [(20,.bin .add .num 10 (Cn 1)),
(10,.mv 20)])))))))) (
.rs (ops [(5,.mv (.c (.bool false)))]) (
.ret)))⟩
noncomputable def lp_q12_2_1 (D : Ctx) (t_1 : AV) (a1 : AV) (a2 : AV) (a0 : AV) (k_3 : Cur 0) : Cur 1 → Cur 1 :=
 fun go_6 t_4 s_5 =>
 (bin .lss .num t_4 t_1).bind fun t_7 =>
 aCase t_7
 ((idx 1 a1 t_4).bind fun t_8 =>
 (rd1 D.G t_8 s_5).bind fun t_9 =>
 (rd1 D.G a2 s_5).bind fun t_10 =>
 (idx 1 t_10 a0).bind fun t_11 =>
 (rd1 D.G t_11 s_5).bind fun t_12 =>
 (bin .eql .num t_12 t_9).bind fun t_13 =>
 aCase t_13
 (some ((.bool true), s_5))
 ((bin .add .num t_4 (.int .i64 1)).bind fun t_14 =>
 go_6 t_14 s_5))
 (k_3  s_5)
theorem lp_q12_2_1_le {D : Ctx} (x0 x1 x2 x3 k4) {k4'} (hk4 : Cle k4 k4') {u u'} (h : Cle u u') : Cle (lp_q12_2_1 D x0 x1 x2 x3 k4 u) (lp_q12_2_1 D x0 x1 x2 x3 k4' u') := by
 unfold lp_q12_2_1
 repeat (first
  | with_reducible refine Ole.bindr fun _ => ?_
  | with_reducible refine Ole.aCase ?_ ?_
  | refine Cle.succ fun _ => ?_
  | refine Cle.zero fun _ => ?_
  | exact Cle.use0 (by assumption)
  | exact Cle.use1 (by assumption)
  | with_reducible exact Ole.refl _)
theorem lp_q12_2_1_mono (D x0 x1 x2 x3 k4) : Mono (lp_q12_2_1 D x0 x1 x2 x3 k4) := fun _ _ => lp_q12_2_1_le _ _ _ _ _ (Cle.refl _)
noncomputable def sh_q12_2 (D : Ctx) (a0 a1 a2 : AV) (σ : Store) : Res :=
 (lenV .sl a1 σ).bind fun t_1 =>
 jn 0 (fun  s_2 =>
 some ((.bool false), s_2))
 (fun k_3 =>
 lpFix 1 (lp_q12_2_1 D t_1 a1 a2 a0 k_3) (.int .i64 0) σ)
theorem sh_q12_2_eq (D : Ctx) (a0 a1 a2 : AV) (σ : Store) : runFn D ir_q12_2 [a0, a1, a2] σ = sh_q12_2 D a0 a1 a2 σ := by kernel_rfl
def ir_q25 : IFn := ⟨[.tmp 2],
.rs (ops [(2,.mv (.c (.bool false)))]) (
.rs (ops [(3,.mv 0),
(4,.bin .geq .num 3 (Cn 1)),
(5,.mv 4)] (
.dia 5 (
.gop 5 true (some 6) (.mv 0) (
.gop 5 true (some 7) (.bin .leq .num 6 (Cn 14)) (
.done))) 8 5 7 (.c (.bool false)) none (
 ops [(2,.mv 8)]))) (
.ret))⟩
noncomputable def sh_q25 (D : Ctx) (a0 : AV) (σ : Store) : Res :=
 (bin .geq .num a0 (.int .i64 1)).bind fun t_1 =>
 jn 1 (fun t_2 s_3 =>
 some (t_2, s_3))
 (fun j_4 =>
 aCase t_1
 ((bin .leq .num a0 (.int .i64 14)).bind fun t_5 =>
 j_4 t_5 σ)
 (j_4 (.bool false) σ))
theorem sh_q25_eq (D : Ctx) (a0 : AV) (σ : Store) : runFn D ir_q25 [a0] σ = sh_q25 D a0 σ := by kernel_rfl
def ir_q26 : IFn := ⟨[.tmp 2],
.rs (ops [(2,.mv (.c (.bool false)))]) (
.rs (ops [(3,.mv 0),
(4,.bin .geq .num 3 (Cn 20)),
(5,.mv 4)] (
.dia 5 (
.gop 5 true (some 6) (.mv 0) (
.gop 5 true (some 7) (.bin .leq .num 6 (Cn 38)) (
.done))) 8 5 7 (.c (.bool false)) none (
 ops [(2,.mv 8)]))) (
.ret))⟩
noncomputable def sh_q26 (D : Ctx) (a0 : AV) (σ : Store) : Res :=
 (bin .geq .num a0 (.int .i64 20)).bind fun t_1 =>
 jn 1 (fun t_2 s_3 =>
 some (t_2, s_3))
 (fun j_4 =>
 aCase t_1
 ((bin .leq .num a0 (.int .i64 38)).bind fun t_5 =>
 j_4 t_5 σ)
 (j_4 (.bool false) σ))
theorem sh_q26_eq (D : Ctx) (a0 : AV) (σ : Store) : runFn D ir_q26 [a0] σ = sh_q26 D a0 σ := by kernel_rfl
def ir_q12_3 : IFn := ⟨[.tmp 2],
.rs (ops [(2,.mv (.c (.bool false)))]) (
.rs (ops [(3,.mv 0),
(4,.bin .eql .num 3 (Cn 26)),
(5,.mv 4)] (
.dia 5 (
.gop 5 false (some 6) (.mv 0) (
.gop 5 false (some 7) (.bin .eql .num 6 (Cn 27)) (
.done))) 8 5 (.c (.bool true)) 7 none (
 ops [(9,.mv 8)] (
.dia 9 (
.gop 9 false (some 10) (.mv 0) (
.gop 9 false (some 11) (.bin .eql .num 10 (Cn 33)) (
.done))) 12 9 (.c (.bool true)) 11 none (
 ops [(2,.mv 12)]))))) (
.ret))⟩
noncomputable def sh_q12_3 (D : Ctx) (a0 : AV) (σ : Store) : Res :=
 (bin .eql .num a0 (.int .i64 26)).bind fun t_1 =>
 jn 1 (fun t_2 s_3 =>
 jn 1 (fun t_5 s_6 =>
 some (t_5, s_6))
 (fun j_7 =>
 aCase t_2
 (j_7 (.bool true) s_3)
 ((bin .eql .num a0 (.int .i64 33)).bind fun t_8 =>
 j_7 t_8 s_3)))
 (fun j_4 =>
 aCase t_1
 (j_4 (.bool true) σ)
 ((bin .eql .num a0 (.int .i64 27)).bind fun t_9 =>
 j_4 t_9 σ))
theorem sh_q12_3_eq (D : Ctx) (a0 : AV) (σ : Store) : runFn D ir_q12_3 [a0] σ = sh_q12_3 D a0 σ := by kernel_rfl
def ir_q13_1 : IFn := ⟨[],
.rs (ops [(22,.fadd 6 2),
(23,.load false 1 22),
(24,.mv 0),
(25,.idx 8 23 24),
(26,.load true 8 25),
(8,.zalloc [(.int .i64 0), (.int .i64 0), (.int .i64 0), (.int .i64 0), (.flt 0), (.str ⟨#[]⟩), .nilslice, .nilslice])] (
.op none (.store true 8 8 26) (
.freeze 8 (
.done)))) (
.rs (ops [(27,.load false 1 3),
(28,.mv 0),
(29,.load false 1 4),
(30,.mv 1),
(31,.callD 27 [28, 29, 30])]) (
.rs (ops [(32,.mkFunc 36 [] [8, 4]),
(9,.mv 32)]) (
.rs (ops [(33,.fadd 0 8),
(34,.load false 1 33)]) (
.block 0 none (
.rs (ops [(48,.bin .eql .num 34 (Cn 1)),
(47,.mv 48)]) (
.cond 47 (some ⟨[], []⟩) (.rs (ops [(10,.mv (.c .nilslice))]) (
.seq (.rs (ops [(49,.fadd 7 8),
(50,.load false 1 49),
(51,.len .sl 50),
(52,.mv (Cn 0))]) (
.block 3 (some ⟨[10], []⟩) (
.loop ⟨[10, 52], []⟩ (
.rs (ops [(53,.bin .lss .num 52 51)]) (
.seq (.cond 53 none (.skip) (.exit 3)) (
.seq (.block 4 none (
.rs (ops [(54,.idx 1 50 52),
(55,.load false 1 54),
(12,.mv 55)]) (
.rs (ops [(56,.load false 1 5),
(57,.mv 12),
(58,.mv 1),
(59,.callD 56 [57, 58])]) (
.rs (ops [(60,.fadd 6 2),
(61,.load false 1 60),
(62,.mv 12),
(63,.idx 8 61 62),
(64,.fadd 0 63),
(65,.load false 1 64),
(66,.bin .eql .num 65 (Cn 2))]) (
.cond 66 (some ⟨[10], []⟩) (.rs (ops [(67,.fadd 6 2),
(68,.load false 1 67),
(69,.mv 12),
(70,.idx 8 68 69),
(71,.fadd 6 70),
(72,.load false 1 71),
(73,.len .sl 72),
(74,.mv (Cn 0))]) (
.block 5 (some ⟨[10], []⟩) (
.loop ⟨[10, 74], []⟩ (
.rs (ops [(75,.bin .lss .num 74 73)]) (
.seq (.cond 75 none (.skip) (.exit 5)) (
.seq (.block 6 none (
.rs (ops [(76,.idx 1 72 74),
(77,.load false 1 76),
(14,.mv 77)]) (
.rs (ops [(78,.load false 1 4),
(79,.mv 14),
(80,.look1 (.int .i64) (.int .i64 0) 78 79),
(81,.bin .add .num 80 (Cn 1))] (
.op none (.mapSet (.int .i64) 78 79 81) (
.done))) (
.reg (ops [(82,.mv 10),
(83,.mv 14),
(84,.pslice 1 [(.int .i64 0)] 1 [(0, false, 83)]),
(85,.app 1 82 84),
(10,.mv 85)]))))) (
.reg (ops [(86,.bin .add .num 74 (Cn 1)),
(74,.mv 86)])))))))) (.skip)))))) (
.reg (ops [(87,.bin .add .num 52 (Cn 1)),
(52,.mv 87)])))))))) (
.rs (ops [(88,.mv 10),
(89,.len .sl 88),
(90,.mv (Cn 0))]) (
.block 7 (some ⟨[], []⟩) (
.loop ⟨[90], []⟩ (
.rs (ops [(91,.bin .lss .num 90 89)]) (
.seq (.cond 91 none (.skip) (.exit 7)) (
.seq (.block 8 none (
.rs (ops [(92,.idx 1 88 90),
(93,.load false 1 92),
(16,.mv 93)]) (
.reg (ops [(94,.load false 1 4),
(95,.mv 16),
(96,.look1 (.int .i64) (.int .i64 0) 94 95),
(97,.bin .sub .num 96 (Cn 1))] (
.op none (.mapSet (.int .i64) 94 95 97) (
.done)))))) (
.reg (ops [(98,.bin .add .num 90 (Cn 1)),
(90,.mv 98)])))))))))) (.rs (ops [(100,.bin .eql .num 34 (Cn 6)),
(99,.mv 100)]) (
.cond 99 (some ⟨[], []⟩) (.seq (.drw (.row 101 (.load false 1 5) (
.row 102 (.fadd 7 8) (
.row 103 (.load false 1 102) (
.row 104 (.idx 1 103 (Cn 0)) (
.row 105 (.load false 1 104) (
.row 106 (.mv 1) (
.row 107 (.callD 101 [105, 106]) (
.done)))))))) [] [] (.done)) (
.drw (.row 108 (.load false 1 5) (
.row 109 (.fadd 7 8) (
.row 110 (.load false 1 109) (
.row 111 (.idx 1 110 (Cn 1)) (
.row 112 (.load false 1 111) (
.row 113 (.callD 108 [112, (.c (.bool true))]) (
.done))))))) [] [] (.done))) (.seq (.rs (ops [(115,.bin .eql .num 34 (Cn 7)),
(114,.mv 115)]) (
.cond 114 (some ⟨[114], []⟩) (.skip) (.reg (ops [(116,.bin .eql .num 34 (Cn 8)),
(114,.mv 116)])))) (
.cond 114 (some ⟨[], []⟩) (.rs (ops [(117,.fadd 7 8),
(118,.load false 1 117),
(119,.len .sl 118),
(120,.bin .sub .num 119 (Cn 1)),
(17,.mv 120)]) (
.seq (.rs (ops [(121,.fadd 7 8),
(122,.load false 1 121),
(123,.mv 17),
(124,.slice 1 122 none (some 123)),
(125,.len .sl 124),
(126,.mv (Cn 0))]) (
.block 9 (some ⟨[], []⟩) (
.loop ⟨[126], []⟩ (
.rs (ops [(127,.bin .lss .num 126 125)]) (
.seq (.cond 127 none (.skip) (.exit 9)) (
.seq (.block 10 none (
.rs (ops [(128,.idx 1 124 126),
(129,.load false 1 128),
(19,.mv 129)]) (
.reg (ops [(130,.load false 1 5),
(131,.mv 19),
(132,.mv 1),
(133,.callD 130 [131, 132])])))) (
.reg (ops [(134,.bin .add .num 126 (Cn 1)),
(126,.mv 134)])))))))) (
.rs (ops [(135,.mv 9),
(136,.callD 135 [(Cn 1)])]) (
.seq (.drw (.row 137 (.load false 1 5) (
.row 138 (.fadd 7 8) (
.row 139 (.load false 1 138) (
.row 140 (.mv 17) (
.row 141 (.idx 1 139 140) (
.row 142 (.load false 1 141) (
.row 143 (.callD 137 [142, (.c (.bool true))]) (
.done)))))))) [] [] (.done)) (
.reg (ops [(144,.mv 9),
(145,.callD 144 [(Cn (-1))])])))))) (.rs (ops [(147,.bin .eql .num 34 (Cn 12)),
(146,.mv 147)]) (
.cond 146 (some ⟨[], []⟩) (.seq (.drw (.row 148 (.load false 1 5) (
.row 149 (.fadd 7 8) (
.row 150 (.load false 1 149) (
.row 151 (.idx 1 150 (Cn 0)) (
.row 152 (.load false 1 151) (
.row 153 (.mv 1) (
.row 154 (.callD 148 [152, 153]) (
.done)))))))) [] [] (.done)) (
.rs (ops [(155,.mv 9),
(156,.callD 155 [(Cn 1)])]) (
.seq (.drw (.row 157 (.load false 1 5) (
.row 158 (.fadd 7 8) (
.row 159 (.load false 1 158) (
.row 160 (.idx 1 159 (Cn 1)) (
.row 161 (.load false 1 160) (
.row 162 (.mv 1) (
.row 163 (.callD 157 [161, 162]) (
.done)))))))) [] [] (.done)) (
.reg (ops [(164,.mv 9),
(165,.callD 164 [(Cn (-1))])]))))) (.rs (ops [(35,.fadd 7 8),
(36,.load false 1 35),
(37,.len .sl 36),
(38,.mv (Cn 0))]) (
.block 1 (some ⟨[], []⟩) (
.loop ⟨[38], []⟩ (
.rs (ops [(39,.bin .lss .num 38 37)]) (
.seq (.cond 39 none (.skip) (.exit 1)) (
.seq (.block 2 none (
.rs (ops [(40,.idx 1 36 38),
(41,.load false 1 40),
(21,.mv 41)]) (
.reg (ops [(42,.load false 1 5),
(43,.mv 21),
(44,.mv 1),
(45,.callD 42 [43, 44])])))) (
.reg (ops [(46,.bin .add .num 38 (Cn 1)),
(38,.mv 46)]))))))))))))))))))))⟩
noncomputable def lp_q13_1_1 (D : Ctx) (t_133 : AV) (t_132 : AV) (a5 : AV) (a1 : AV) (k_135 : Cur 0) : Cur 1 → Cur 1 :=
 fun go_138 t_136 s_137 =>
 (bin .lss .num t_136 t_133).bind fun t_139 =>
 aCase t_139
 ((idx 1 t_132 t_136).bind fun t_140 =>
 (rd1 D.G t_140 s_137).bind fun t_141 =>
 (rd1 D.G a5 s_137).bind fun t_142 =>
 (callD D t_142 [t_141, a1] s_137).bind fun t_143 =>
 (bin .add .num t_136 (.int .i64 1)).bind fun t_144 =>
 go_138 t_144 t_143.2)
 (k_135  s_137)
theorem lp_q13_1_1_le {D : Ctx} (x0 x1 x2 x3 k4) {k4'} (hk4 : Cle k4 k4') {u u'} (h : Cle u u') : Cle (lp_q13_1_1 D x0 x1 x2 x3 k4 u) (lp_q13_1_1 D x0 x1 x2 x3 k4' u') := by
 unfold lp_q13_1_1
 repeat (first
  | with_reducible refine Ole.bindr fun _ => ?_
  | with_reducible refine Ole.aCase ?_ ?_
  | refine Cle.succ fun _ => ?_
  | refine Cle.zero fun _ => ?_
  | exact Cle.use0 (by assumption)
  | exact Cle.use1 (by assumption)
  | with_reducible exact Ole.refl _)
theorem lp_q13_1_1_mono (D x0 x1 x2 x3 k4) : Mono (lp_q13_1_1 D x0 x1 x2 x3 k4) := fun _ _ => lp_q13_1_1_le _ _ _ _ _ (Cle.refl _)
noncomputable def lp_q13_1_2 (D : Ctx) (t_98 : AV) (t_97 : AV) (a5 : AV) (a1 : AV) (k_100 : Cur 0) : Cur 1 → Cur 1 :=
 fun go_110 t_108 s_109 =>
 (bin .lss .num t_108 t_98).bind fun t_111 =>
 aCase t_111
 ((idx 1 t_97 t_108).bind fun t_112 =>
 (rd1 D.G t_112 s_109).bind fun t_113 =>
 (rd1 D.G a5 s_109).bind fun t_114 =>
 (callD D t_114 [t_113, a1] s_109).bind fun t_115 =>
 (bin .add .num t_108 (.int .i64 1)).bind fun t_116 =>
 go_110 t_116 t_115.2)
 (k_100  s_109)
theorem lp_q13_1_2_le {D : Ctx} (x0 x1 x2 x3 k4) {k4'} (hk4 : Cle k4 k4') {u u'} (h : Cle u u') : Cle (lp_q13_1_2 D x0 x1 x2 x3 k4 u) (lp_q13_1_2 D x0 x1 x2 x3 k4' u') := by
 unfold lp_q13_1_2
 repeat (first
  | with_reducible refine Ole.bindr fun _ => ?_
  | with_reducible refine Ole.aCase ?_ ?_
  | refine Cle.succ fun _ => ?_
  | refine Cle.zero fun _ => ?_
  | exact Cle.use0 (by assumption)
  | exact Cle.use1 (by assumption)
  | with_reducible exact Ole.refl _)
theorem lp_q13_1_2_mono (D x0 x1 x2 x3 k4) : Mono (lp_q13_1_2 D x0 x1 x2 x3 k4) := fun _ _ => lp_q13_1_2_le _ _ _ _ _ (Cle.refl _)
noncomputable def lp_q13_1_3 (D : Ctx) (t_56 : AV) (t_55 : AV) (a4 : AV) (k_59 : Cur 1) : Cur 2 → Cur 2 :=
 fun go_63 lets_60 t_61 s_62 =>
 (bin .lss .num t_61 t_56).bind fun t_64 =>
 aCase t_64
 ((idx 1 t_55 t_61).bind fun t_65 =>
 (rd1 D.G t_65 s_62).bind fun t_66 =>
 (rd1 D.G a4 s_62).bind fun t_67 =>
 (lookup1 (.int .i64) (.int .i64 0) t_67 t_66 s_62).bind fun t_68 =>
 (bin .add .num t_68 (.int .i64 1)).bind fun t_69 =>
 (mapSet (.int .i64) t_67 t_66 t_69 s_62).bind fun s_70 =>
 (one t_66).bind fun o_71 =>
 (app 1 lets_60 (.pslice 1 [(.agg [o_71])]) s_70).bind fun t_72 =>
 (bin .add .num t_61 (.int .i64 1)).bind fun t_73 =>
 go_63 t_72.1 t_73 t_72.2)
 (k_59 lets_60 s_62)
theorem lp_q13_1_3_le {D : Ctx} (x0 x1 x2 k3) {k3'} (hk3 : Cle k3 k3') {u u'} (h : Cle u u') : Cle (lp_q13_1_3 D x0 x1 x2 k3 u) (lp_q13_1_3 D x0 x1 x2 k3' u') := by
 unfold lp_q13_1_3
 repeat (first
  | with_reducible refine Ole.bindr fun _ => ?_
  | with_reducible refine Ole.aCase ?_ ?_
  | refine Cle.succ fun _ => ?_
  | refine Cle.zero fun _ => ?_
  | exact Cle.use1 (by assumption)
  | exact Cle.use2 (by assumption)
  | with_reducible exact Ole.refl _)
theorem lp_q13_1_3_mono (D x0 x1 x2 k3) : Mono (lp_q13_1_3 D x0 x1 x2 k3) := fun _ _ => lp_q13_1_3_le _ _ _ _ (Cle.refl _)
noncomputable def lp_q13_1_4 (D : Ctx) (t_14 : AV) (t_13 : AV) (a5 : AV) (a1 : AV) (a2 : AV) (a4 : AV) (k_17 : Cur 1) : Cur 2 → Cur 2 :=
 fun go_35 lets_32 t_33 s_34 =>
 (bin .lss .num t_33 t_14).bind fun t_36 =>
 aCase t_36
 ((idx 1 t_13 t_33).bind fun t_37 =>
 (rd1 D.G t_37 s_34).bind fun t_38 =>
 (rd1 D.G a5 s_34).bind fun t_39 =>
 (callD D t_39 [t_38, a1] s_34).bind fun t_40 =>
 (fadd a2 6).bind fun t_41 =>
 (rd1 D.G t_41 t_40.2).bind fun t_42 =>
 (idx 8 t_42 t_38).bind fun t_43 =>
 (fadd t_43 0).bind fun t_44 =>
 (rd1 D.G t_44 t_40.2).bind fun t_45 =>
 (bin .eql .num t_45 (.int .i64 2)).bind fun t_46 =>
 jn 1 (fun lets_47 s_48 =>
 (bin .add .num t_33 (.int .i64 1)).bind fun t_50 =>
 go_35 lets_47 t_50 s_48)
 (fun k_49 =>
 aCase t_46
 ((fadd a2 6).bind fun t_51 =>
 (rd1 D.G t_51 t_40.2).bind fun t_52 =>
 (idx 8 t_52 t_38).bind fun t_53 =>
 (fadd t_53 6).bind fun t_54 =>
 (rd1 D.G t_54 t_40.2).bind fun t_55 =>
 (lenV .sl t_55 t_40.2).bind fun t_56 =>
 jn 1 (fun lets_57 s_58 =>
 k_49 lets_57 s_58)
 (fun k_59 =>
 lpFix 2 (lp_q13_1_3 D t_56 t_55 a4 k_59) lets_32 (.int .i64 0) t_40.2))
 (k_49 lets_32 t_40.2)))
 (k_17 lets_32 s_34)
theorem lp_q13_1_4_le {D : Ctx} (x0 x1 x2 x3 x4 x5 k6) {k6'} (hk6 : Cle k6 k6') {u u'} (h : Cle u u') : Cle (lp_q13_1_4 D x0 x1 x2 x3 x4 x5 k6 u) (lp_q13_1_4 D x0 x1 x2 x3 x4 x5 k6' u') := by
 unfold lp_q13_1_4
 repeat (first
  | with_reducible refine Ole.bindr fun _ => ?_
  | with_reducible refine Ole.aCase ?_ ?_
  | refine Ole.jn ?_ (fun _ _ _ => ?_)
  | refine Cle.succ fun _ => ?_
  | refine Cle.zero fun _ => ?_
  | exact Cle.use1 (by assumption)
  | exact Cle.use2 (by assumption)
  | exact Cle.use2 (lpFix_mono (lp_q13_1_3_mono _ _ _ _ _) (lp_q13_1_3_mono _ _ _ _ _) fun _ => lp_q13_1_3_le _ _ _ _ (by first | assumption | exact Cle.refl _) (Cle.refl _))
  | with_reducible exact Ole.refl _)
theorem lp_q13_1_4_mono (D x0 x1 x2 x3 x4 x5 k6) : Mono (lp_q13_1_4 D x0 x1 x2 x3 x4 x5 k6) := fun _ _ => lp_q13_1_4_le _ _ _ _ _ _ _ (Cle.refl _)
noncomputable def lp_q13_1_5 (D : Ctx) (t_18 : AV) (lets_15 : AV) (a4 : AV) (k_20 : Cur 0) : Cur 1 → Cur 1 :=
 fun go_23 t_21 s_22 =>
 (bin .lss .num t_21 t_18).bind fun t_24 =>
 aCase t_24
 ((idx 1 lets_15 t_21).bind fun t_25 =>
 (rd1 D.G t_25 s_22).bind fun t_26 =>
 (rd1 D.G a4 s_22).bind fun t_27 =>
 (lookup1 (.int .i64) (.int .i64 0) t_27 t_26 s_22).bind fun t_28 =>
 (bin .sub .num t_28 (.int .i64 1)).bind fun t_29 =>
 (mapSet (.int .i64) t_27 t_26 t_29 s_22).bind fun s_30 =>
 (bin .add .num t_21 (.int .i64 1)).bind fun t_31 =>
 go_23 t_31 s_30)
 (k_20  s_22)
theorem lp_q13_1_5_le {D : Ctx} (x0 x1 x2 k3) {k3'} (hk3 : Cle k3 k3') {u u'} (h : Cle u u') : Cle (lp_q13_1_5 D x0 x1 x2 k3 u) (lp_q13_1_5 D x0 x1 x2 k3' u') := by
 unfold lp_q13_1_5
 repeat (first
  | with_reducible refine Ole.bindr fun _ => ?_
  | with_reducible refine Ole.aCase ?_ ?_
  | refine Cle.succ fun _ => ?_
  | refine Cle.zero fun _ => ?_
  | exact Cle.use0 (by assumption)
  | exact Cle.use1 (by assumption)
  | with_reducible exact Ole.refl _)
theorem lp_q13_1_5_mono (D x0 x1 x2 k3) : Mono (lp_q13_1_5 D x0 x1 x2 k3) := fun _ _ => lp_q13_1_5_le _ _ _ _ (Cle.refl _)
noncomputable def sh_q13_1 (D : Ctx) (a0 a1 a2 a3 a4 a5 : AV) (σ : Store) : Res :=
 (fadd a2 6).bind fun t_1 =>
 (rd1 D.G t_1 σ).bind fun t_2 =>
 (idx 8 t_2 a0).bind fun t_3 =>
 (rdN 8 t_3 σ).bind fun t_4 =>
 (asplit 8 (.agg t_4)).bind fun cs_5 =>
 (rd1 D.G a3 σ).bind fun t_6 =>
 (rd1 D.G a4 σ).bind fun t_7 =>
 (callD D t_6 [a0, t_7, a1] σ).bind fun t_8 =>
 (rd1 D.G (.pptr cs_5 0) t_8.2).bind fun t_9 =>
 (bin .eql .num t_9 (.int .i64 1)).bind fun t_10 =>
 jn 0 (fun  s_11 =>
 some (.tuple [], s_11))
 (fun k_12 =>
 aCase t_10
 ((rd1 D.G (.pptr cs_5 7) t_8.2).bind fun t_13 =>
 (lenV .sl t_13 t_8.2).bind fun t_14 =>
 jn 1 (fun lets_15 s_16 =>
 (lenV .sl lets_15 s_16).bind fun t_18 =>
 jn 0 (fun  s_19 =>
 k_12  s_19)
 (fun k_20 =>
 lpFix 1 (lp_q13_1_5 D t_18 lets_15 a4 k_20) (.int .i64 0) s_16))
 (fun k_17 =>
 lpFix 2 (lp_q13_1_4 D t_14 t_13 a5 a1 a2 a4 k_17) .nilslice (.int .i64 0) t_8.2))
 ((bin .eql .num t_9 (.int .i64 6)).bind fun t_74 =>
 jn 0 (fun  s_75 =>
 k_12  s_75)
 (fun k_76 =>
 aCase t_74
 ((rd1 D.G a5 t_8.2).bind fun t_77 =>
 (rd1 D.G (.pptr cs_5 7) t_8.2).bind fun t_78 =>
 (idx 1 t_78 (.int .i64 0)).bind fun t_79 =>
 (rd1 D.G t_79 t_8.2).bind fun t_80 =>
 (callD D t_77 [t_80, a1] t_8.2).bind fun t_81 =>
 (rd1 D.G a5 t_81.2).bind fun t_82 =>
 (rd1 D.G (.pptr cs_5 7) t_81.2).bind fun t_83 =>
 (idx 1 t_83 (.int .i64 1)).bind fun t_84 =>
 (rd1 D.G t_84 t_81.2).bind fun t_85 =>
 (callD D t_82 [t_85, (.bool true)] t_81.2).bind fun t_86 =>
 k_76  t_86.2)
 ((bin .eql .num t_9 (.int .i64 7)).bind fun t_87 =>
 jn 1 (fun t_88 s_89 =>
 jn 0 (fun  s_91 =>
 k_76  s_91)
 (fun k_92 =>
 aCase t_88
 ((rd1 D.G (.pptr cs_5 7) s_89).bind fun t_93 =>
 (lenV .sl t_93 s_89).bind fun t_94 =>
 (bin .sub .num t_94 (.int .i64 1)).bind fun t_95 =>
 (rd1 D.G (.pptr cs_5 7) s_89).bind fun t_96 =>
 (sliceV 1 t_96 none (some t_95)).bind fun t_97 =>
 (lenV .sl t_97 s_89).bind fun t_98 =>
 jn 0 (fun  s_99 =>
 (callD D (.func 36 [] [(.pptr cs_5 0), a4]) [(.int .i64 1)] s_99).bind fun t_101 =>
 (rd1 D.G a5 t_101.2).bind fun t_102 =>
 (rd1 D.G (.pptr cs_5 7) t_101.2).bind fun t_103 =>
 (idx 1 t_103 t_95).bind fun t_104 =>
 (rd1 D.G t_104 t_101.2).bind fun t_105 =>
 (callD D t_102 [t_105, (.bool true)] t_101.2).bind fun t_106 =>
 (callD D (.func 36 [] [(.pptr cs_5 0), a4]) [(.int .i64 (-1))] t_106.2).bind fun t_107 =>
 k_92  t_107.2)
 (fun k_100 =>
 lpFix 1 (lp_q13_1_2 D t_98 t_97 a5 a1 k_100) (.int .i64 0) s_89))
 ((bin .eql .num t_9 (.int .i64 12)).bind fun t_117 =>
 jn 0 (fun  s_118 =>
 k_92  s_118)
 (fun k_119 =>
 aCase t_117
 ((rd1 D.G a5 s_89).bind fun t_120 =>
 (rd1 D.G (.pptr cs_5 7) s_89).bind fun t_121 =>
 (idx 1 t_121 (.int .i64 0)).bind fun t_122 =>
 (rd1 D.G t_122 s_89).bind fun t_123 =>
 (callD D t_120 [t_123, a1] s_89).bind fun t_124 =>
 (callD D (.func 36 [] [(.pptr cs_5 0), a4]) [(.int .i64 1)] t_124.2).bind fun t_125 =>
 (rd1 D.G a5 t_125.2).bind fun t_126 =>
 (rd1 D.G (.pptr cs_5 7) t_125.2).bind fun t_127 =>
 (idx 1 t_127 (.int .i64 1)).bind fun t_128 =>
 (rd1 D.G t_128 t_125.2).bind fun t_129 =>
 (callD D t_126 [t_129, a1] t_125.2).bind fun t_130 =>
 (callD D (.func 36 [] [(.pptr cs_5 0), a4]) [(.int .i64 (-1))] t_130.2).bind fun t_131 =>
 k_119  t_131.2)
 ((rd1 D.G (.pptr cs_5 7) s_89).bind fun t_132 =>
 (lenV .sl t_132 s_89).bind fun t_133 =>
 jn 0 (fun  s_134 =>
 k_119  s_134)
 (fun k_135 =>
 lpFix 1 (lp_q13_1_1 D t_133 t_132 a5 a1 k_135) (.int .i64 0) s_89))))))
 (fun k_90 =>
 aCase t_87
 (k_90 t_87 t_8.2)
 ((bin .eql .num t_9 (.int .i64 8)).bind fun t_145 =>
 k_90 t_145 t_8.2))))))
theorem sh_q13_1_eq (D : Ctx) (a0 a1 a2 a3 a4 a5 : AV) (σ : Store) : runFn D ir_q13_1 [a0, a1, a2, a3, a4, a5] σ = sh_q13_1 D a0 a1 a2 a3 a4 a5 σ := by kernel_rfl
def ir_q13_1_1 : IFn := ⟨[],
.rs (ops [(6,.fadd 6 1),
(7,.load false 1 6),
(8,.len .sl 7),
(9,.mv (Cn 0))]) (
.block 0 (some ⟨[], []⟩) (
.loop ⟨[9], []⟩ (
.rs (ops [(10,.bin .lss .num 9 8)]) (
.seq (.cond 10 none (.skip) (.exit 0)) (
.seq (.block 1 none (
.rs (ops [(11,.idx 1 7 9),
(12,.load false 1 11),
(5,.mv 12)]) (
.reg (ops [(13,.load false 1 2),
(14,.mv 5),
(15,.look1 (.int .i64) (.int .i64 0) 13 14),
(16,.mv 0),
(17,.bin .add .num 15 16)] (
.op none (.mapSet (.int .i64) 13 14 17) (
.done)))))) (
.reg (ops [(18,.bin .add .num 9 (Cn 1)),
(9,.mv 18)])))))))⟩
noncomputable def lp_q13_1_1_1 (D : Ctx) (t_3 : AV) (t_2 : AV) (a2 : AV) (a0 : AV) (k_5 : Cur 0) : Cur 1 → Cur 1 :=
 fun go_8 t_6 s_7 =>
 (bin .lss .num t_6 t_3).bind fun t_9 =>
 aCase t_9
 ((idx 1 t_2 t_6).bind fun t_10 =>
 (rd1 D.G t_10 s_7).bind fun t_11 =>
 (rd1 D.G a2 s_7).bind fun t_12 =>
 (lookup1 (.int .i64) (.int .i64 0) t_12 t_11 s_7).bind fun t_13 =>
 (bin .add .num t_13 a0).bind fun t_14 =>
 (mapSet (.int .i64) t_12 t_11 t_14 s_7).bind fun s_15 =>
 (bin .add .num t_6 (.int .i64 1)).bind fun t_16 =>
 go_8 t_16 s_15)
 (k_5  s_7)
theorem lp_q13_1_1_1_le {D : Ctx} (x0 x1 x2 x3 k4) {k4'} (hk4 : Cle k4 k4') {u u'} (h : Cle u u') : Cle (lp_q13_1_1_1 D x0 x1 x2 x3 k4 u) (lp_q13_1_1_1 D x0 x1 x2 x3 k4' u') := by
 unfold lp_q13_1_1_1
 repeat (first
  | with_reducible refine Ole.bindr fun _ => ?_
  | with_reducible refine Ole.aCase ?_ ?_
  | refine Cle.succ fun _ => ?_
  | refine Cle.zero fun _ => ?_
  | exact Cle.use0 (by assumption)
  | exact Cle.use1 (by assumption)
  | with_reducible exact Ole.refl _)
theorem lp_q13_1_1_1_mono (D x0 x1 x2 x3 k4) : Mono (lp_q13_1_1_1 D x0 x1 x2 x3 k4) := fun _ _ => lp_q13_1_1_1_le _ _ _ _ _ (Cle.refl _)
noncomputable def sh_q13_1_1 (D : Ctx) (a0 a1 a2 : AV) (σ : Store) : Res :=
 (fadd a1 6).bind fun t_1 =>
 (rd1 D.G t_1 σ).bind fun t_2 =>
 (lenV .sl t_2 σ).bind fun t_3 =>
 jn 0 (fun  s_4 =>
 some (.tuple [], s_4))
 (fun k_5 =>
 lpFix 1 (lp_q13_1_1_1 D t_3 t_2 a2 a0 k_5) (.int .i64 0) σ)
theorem sh_q13_1_1_eq (D : Ctx) (a0 a1 a2 : AV) (σ : Store) : runFn D ir_q13_1_1 [a0, a1, a2] σ = sh_q13_1_1 D a0 a1 a2 σ := by kernel_rfl
def ir_q27 : IFn := ⟨[.tmp 4],
.rs (ops [(2,.pbox 0),
(3,.pbox 1),
(4,.mv (.c (.bool false)))]) (
.seq (.rs (ops [(5,.fadd 0 2),
(6,.load false 1 5),
(7,.fadd 0 3),
(8,.load false 1 7),
(9,.bin .neq .num 6 8)]) (
.cond 9 none (.rs (ops [(4,.mv (.c (.bool false)))]) (
.ret)) (.skip))) (
.seq (.rs (ops [(10,.fadd 1 2),
(11,.load false 1 10),
(12,.fadd 1 3),
(13,.load false 1 12),
(14,.bin .neq .num 11 13)]) (
.cond 14 none (.rs (ops [(4,.mv (.c (.bool false)))]) (
.ret)) (.skip))) (
.seq (.rs (ops [(15,.fadd 2 2),
(16,.load false 1 15),
(17,.fadd 2 3),
(18,.load false 1 17),
(19,.bin .neq .num 16 18)]) (
.cond 19 none (.rs (ops [(4,.mv (.c (.bool false)))]) (
.ret)) (.skip))) (
.seq (.rs (ops [(20,.fadd 3 2),
(21,.load false 1 20),
(22,.fadd 3 3),
(23,.load false 1 22),
(24,.bin .neq .bool 21 23)]) (
.cond 24 none (.rs (ops [(4,.mv (.c (.bool false)))]) (
.ret)) (.skip))) (
.seq (.rs (ops [(25,.fadd 4 2),
(26,.load false 1 25),
(27,.fadd 4 3),
(28,.load false 1 27),
(29,.callV 49 [26, 28]),
(30,.un .not 29)]) (
.cond 30 none (.rs (ops [(4,.mv (.c (.bool false)))]) (
.ret)) (.skip))) (
.seq (.rs (ops [(31,.fadd 5 2),
(32,.load false 1 31),
(33,.fadd 5 3),
(34,.load false 1 33),
(35,.callV 50 [32, 34]),
(36,.un .not 35)]) (
.cond 36 none (.rs (ops [(4,.mv (.c (.bool false)))]) (
.ret)) (.skip))) (
.seq (.rs (ops [(37,.fadd 6 2),
(38,.load false 1 37),
(39,.fadd 6 3),
(40,.load false 1 39),
(41,.callV 51 [38, 40]),
(42,.un .not 41)]) (
.cond 42 none (.rs (ops [(4,.mv (.c (.bool false)))]) (
.ret)) (.skip))) (
.rs (ops [(4,.mv (.c (.bool true)))]) (
.ret)))))))))⟩
noncomputable def sh_q27 (D : Ctx) (a0 a1 : AV) (σ : Store) : Res :=
 (rd1 D.G (.pptr (AV.cells a0) 0) σ).bind fun t_1 =>
 (rd1 D.G (.pptr (AV.cells a1) 0) σ).bind fun t_2 =>
 (bin .neq .num t_1 t_2).bind fun t_3 =>
 aCase t_3
 (some ((.bool false), σ))
 ((rd1 D.G (.pptr (AV.cells a0) 1) σ).bind fun t_4 =>
 (rd1 D.G (.pptr (AV.cells a1) 1) σ).bind fun t_5 =>
 (bin .neq .num t_4 t_5).bind fun t_6 =>
 aCase t_6
 (some ((.bool false), σ))
 ((rd1 D.G (.pptr (AV.cells a0) 2) σ).bind fun t_7 =>
 (rd1 D.G (.pptr (AV.cells a1) 2) σ).bind fun t_8 =>
 (bin .neq .num t_7 t_8).bind fun t_9 =>
 aCase t_9
 (some ((.bool false), σ))
 ((rd1 D.G (.pptr (AV.cells a0) 3) σ).bind fun t_10 =>
 (rd1 D.G (.pptr (AV.cells a1) 3) σ).bind fun t_11 =>
 (bin .neq .bool t_10 t_11).bind fun t_12 =>
 aCase t_12
 (some ((.bool false), σ))
 ((rd1 D.G (.pptr (AV.cells a0) 4) σ).bind fun t_13 =>
 (rd1 D.G (.pptr (AV.cells a1) 4) σ).bind fun t_14 =>
 (callV D 49 [t_13, t_14] σ).bind fun t_15 =>
 (un .not t_15).bind fun t_16 =>
 aCase t_16
 (some ((.bool false), σ))
 ((rd1 D.G (.pptr (AV.cells a0) 5) σ).bind fun t_17 =>
 (rd1 D.G (.pptr (AV.cells a1) 5) σ).bind fun t_18 =>
 (callV D 50 [t_17, t_18] σ).bind fun t_19 =>
 (un .not t_19).bind fun t_20 =>
 aCase t_20
 (some ((.bool false), σ))
 ((rd1 D.G (.pptr (AV.cells a0) 6) σ).bind fun t_21 =>
 (rd1 D.G (.pptr (AV.cells a1) 6) σ).bind fun t_22 =>
 (callV D 51 [t_21, t_22] σ).bind fun t_23 =>
 (un .not t_23).bind fun t_24 =>
 aCase t_24
 (some ((.bool false), σ))
 (some ((.bool true), σ))))))))
theorem sh_q27_eq (D : Ctx) (a0 a1 : AV) (σ : Store) : runFn D ir_q27 [a0, a1] σ = sh_q27 D a0 a1 σ := by kernel_rfl
def ir_q28 : IFn := ⟨[.tmp 4],
.rs (ops [(4,.mv (Cn 0))]) (
.rs (ops [(6,.mv 1),
(7,.mv 0),
(8,.len .sl 7),
(9,.bin .sub .num 6 8),
(1,.mv 9)]) (
.seq (.rs (ops [(10,.mv 1),
(11,.bin .lss .num 10 (Cn 0))]) (
.cond 11 none (.rs (ops [(4,.mv (Cn (-1)))]) (
.ret)) (.skip))) (
.seq (.rs (ops [(5,.mv (Cn 0))]) (
.block 0 (some ⟨[1], []⟩) (
.loop ⟨[1, 5], []⟩ (
.seq (.rs (ops [(12,.mv 5),
(13,.mv 0),
(14,.len .sl 13),
(15,.bin .lss .num 12 14)]) (
.cond 15 none (.skip) (.exit 0))) (
.seq (.block 1 none (
.rs (ops [(18,.mv 1),
(19,.mv 0),
(20,.mv 5),
(21,.idx 1 19 20),
(22,.load false 1 21),
(23,.len .str 22),
(24,.bin .sub .num 18 23),
(1,.mv 24)]) (
.rs (ops [(25,.mv 1),
(26,.bin .lss .num 25 (Cn 0))]) (
.cond 26 none (.rs (ops [(4,.mv (Cn (-1)))]) (
.ret)) (.skip))))) (
.reg (ops [(16,.mv 5),
(17,.bin .add .num 16 (Cn 1)),
(5,.mv 17)]))))))) (
.rs (ops [(27,.mv 1),
(4,.mv 27)]) (
.ret)))))⟩
noncomputable def lp_q28_1 (D : Ctx) (a0 : AV) (k_6 : Cur 1) : Cur 2 → Cur 2 :=
 fun go_10 left_7 i_8 s_9 =>
 (lenV .sl a0 s_9).bind fun t_11 =>
 (bin .lss .num i_8 t_11).bind fun t_12 =>
 aCase t_12
 ((idx 1 a0 i_8).bind fun t_13 =>
 (rd1 D.G t_13 s_9).bind fun t_14 =>
 (lenV .str t_14 s_9).bind fun t_15 =>
 (bin .sub .num left_7 t_15).bind fun t_16 =>
 (bin .lss .num t_16 (.int .i64 0)).bind fun t_17 =>
 aCase t_17
 (some ((.int .i64 (-1)), s_9))
 ((bin .add .num i_8 (.int .i64 1)).bind fun t_18 =>
 go_10 t_16 t_18 s_9))
 (k_6 left_7 s_9)
theorem lp_q28_1_le {D : Ctx} (x0 k1) {k1'} (hk1 : Cle k1 k1') {u u'} (h : Cle u u') : Cle (lp_q28_1 D x0 k1 u) (lp_q28_1 D x0 k1' u') := by
 unfold lp_q28_1
 repeat (first
  | with_reducible refine Ole.bindr fun _ => ?_
  | with_reducible refine Ole.aCase ?_ ?_
  | refine Cle.succ fun _ => ?_
  | refine Cle.zero fun _ => ?_
  | exact Cle.use1 (by assumption)
  | exact Cle.use2 (by assumption)
  | with_reducible exact Ole.refl _)
theorem lp_q28_1_mono (D x0 k1) : Mono (lp_q28_1 D x0 k1) := fun _ _ => lp_q28_1_le _ _ (Cle.refl _)
noncomputable def sh_q28 (D : Ctx) (a0 a1 : AV) (σ : Store) : Res :=
 (lenV .sl a0 σ).bind fun t_1 =>
 (bin .sub .num a1 t_1).bind fun t_2 =>
 (bin .lss .num t_2 (.int .i64 0)).bind fun t_3 =>
 aCase t_3
 (some ((.int .i64 (-1)), σ))
 (jn 1 (fun left_4 s_5 =>
 some (left_4, s_5))
 (fun k_6 =>
 lpFix 2 (lp_q28_1 D a0 k_6) t_2 (.int .i64 0) σ))
theorem sh_q28_eq (D : Ctx) (a0 a1 : AV) (σ : Store) : runFn D ir_q28 [a0, a1] σ = sh_q28 D a0 a1 σ := by kernel_rfl
def ir_q29 : IFn := ⟨[.tmp 4],
.rs (ops [(4,.mv (Cn 0))]) (
.rs (ops [(5,.mv 1),
(6,.mv 0),
(7,.len .sl 6),
(8,.bin .sub .num 5 7),
(1,.mv 8)]) (
.seq (.rs (ops [(9,.mv 1),
(10,.bin .lss .num 9 (Cn 0))]) (
.cond 10 none (.rs (ops [(4,.mv (Cn (-1)))]) (
.ret)) (.skip))) (
.rs (ops [(11,.mv 1),
(4,.mv 11)]) (
.ret))))⟩
noncomputable def sh_q29 (D : Ctx) (a0 a1 : AV) (σ : Store) : Res :=
 (lenV .sl a0 σ).bind fun t_1 =>
 (bin .sub .num a1 t_1).bind fun t_2 =>
 (bin .lss .num t_2 (.int .i64 0)).bind fun t_3 =>
 aCase t_3
 (some ((.int .i64 (-1)), σ))
 (some (t_2, σ))
theorem sh_q29_eq (D : Ctx) (a0 a1 : AV) (σ : Store) : runFn D ir_q29 [a0, a1] σ = sh_q29 D a0 a1 σ := by kernel_rfl
def ir_q30 : IFn := ⟨[.tmp 4],
.rs (ops [(4,.mv (Cn 0))]) (
.rs (ops [(6,.mv 1),
(7,.mv 0),
(8,.len .sl 7),
(9,.bin .sub .num 6 8),
(1,.mv 9)]) (
.seq (.rs (ops [(10,.mv 1),
(11,.bin .lss .num 10 (Cn 0))]) (
.cond 11 none (.rs (ops [(4,.mv (Cn (-1)))]) (
.ret)) (.skip))) (
.seq (.rs (ops [(5,.mv (Cn 0))]) (
.block 0 (some ⟨[1], []⟩) (
.loop ⟨[1, 5], []⟩ (
.seq (.rs (ops [(12,.mv 5),
(13,.mv 0),
(14,.len .sl 13),
(15,.bin .lss .num 12 14)]) (
.cond 15 none (.skip) (.exit 0))) (
.seq (.block 1 none (
.rs (ops [(18,.mv 0),
(19,.mv 5),
(20,.idx 8 18 19),
(21,.load true 8 20),
(22,.mv 1),
(23,.callV 52 [21, 22]),
(1,.mv 23)]) (
.rs (ops [(24,.mv 1),
(25,.bin .lss .num 24 (Cn 0))]) (
.cond 25 none (.rs (ops [(4,.mv (Cn (-1)))]) (
.ret)) (.skip))))) (
.reg (ops [(16,.mv 5),
(17,.bin .add .num 16 (Cn 1)),
(5,.mv 17)]))))))) (
.rs (ops [(26,.mv 1),
(4,.mv 26)]) (
.ret)))))⟩
noncomputable def lp_q30_1 (D : Ctx) (a0 : AV) (k_6 : Cur 1) : Cur 2 → Cur 2 :=
 fun go_10 left_7 i_8 s_9 =>
 (lenV .sl a0 s_9).bind fun t_11 =>
 (bin .lss .num i_8 t_11).bind fun t_12 =>
 aCase t_12
 ((idx 8 a0 i_8).bind fun t_13 =>
 (rdN 8 t_13 s_9).bind fun t_14 =>
 (callV D 52 [(.agg t_14), left_7] s_9).bind fun t_15 =>
 (bin .lss .num t_15 (.int .i64 0)).bind fun t_16 =>
 aCase t_16
 (some ((.int .i64 (-1)), s_9))
 ((bin .add .num i_8 (.int .i64 1)).bind fun t_17 =>
 go_10 t_15 t_17 s_9))
 (k_6 left_7 s_9)
theorem lp_q30_1_le {D : Ctx} (x0 k1) {k1'} (hk1 : Cle k1 k1') {u u'} (h : Cle u u') : Cle (lp_q30_1 D x0 k1 u) (lp_q30_1 D x0 k1' u') := by
 unfold lp_q30_1
 repeat (first
  | with_reducible refine Ole.bindr fun _ => ?_
  | with_reducible refine Ole.aCase ?_ ?_
  | refine Cle.succ fun _ => ?_
  | refine Cle.zero fun _ => ?_
  | exact Cle.use1 (by assumption)
  | exact Cle.use2 (by assumption)
  | with_reducible exact Ole.refl _)
theorem lp_q30_1_mono (D x0 k1) : Mono (lp_q30_1 D x0 k1) := fun _ _ => lp_q30_1_le _ _ (Cle.refl _)
noncomputable def sh_q30 (D : Ctx) (a0 a1 : AV) (σ : Store) : Res :=
 (lenV .sl a0 σ).bind fun t_1 =>
 (bin .sub .num a1 t_1).bind fun t_2 =>
 (bin .lss .num t_2 (.int .i64 0)).bind fun t_3 =>
 aCase t_3
 (some ((.int .i64 (-1)), σ))
 (jn 1 (fun left_4 s_5 =>
 some (left_4, s_5))
 (fun k_6 =>
 lpFix 2 (lp_q30_1 D a0 k_6) t_2 (.int .i64 0) σ))
theorem sh_q30_eq (D : Ctx) (a0 a1 : AV) (σ : Store) : runFn D ir_q30 [a0, a1] σ = sh_q30 D a0 a1 σ := by kernel_rfl
def ir_q31 : IFn := ⟨[.tmp 4],
.rs (ops [(4,.mv (.c (.bool false)))]) (
.rs (ops [(5,.mv 0),
(6,.len .str 5),
(7,.mv 1),
(8,.bin .geq .num 6 7),
(9,.mv 8)] (
.dia 9 (
.gop 9 true (some 10) (.mv 0) (
.gop 9 true (some 11) (.len .str 10) (
.gop 9 true (some 12) (.bin .leq .num 11 (Cn 40)) (
.done)))) 13 9 12 (.c (.bool false)) none (
 ops [(4,.mv 13)]))) (
.ret))⟩
noncomputable def sh_q31 (D : Ctx) (a0 a1 : AV) (σ : Store) : Res :=
 (lenV .str a0 σ).bind fun t_1 =>
 (bin .geq .num t_1 a1).bind fun t_2 =>
 jn 1 (fun t_3 s_4 =>
 some (t_3, s_4))
 (fun j_5 =>
 aCase t_2
 ((lenV .str a0 σ).bind fun t_6 =>
 (bin .leq .num t_6 (.int .i64 40)).bind fun t_7 =>
 j_5 t_7 σ)
 (j_5 (.bool false) σ))
theorem sh_q31_eq (D : Ctx) (a0 a1 : AV) (σ : Store) : runFn D ir_q31 [a0, a1] σ = sh_q31 D a0 a1 σ := by kernel_rfl
def ir_q32 : IFn := ⟨[.tmp 2],
.rs (ops [(2,.mv (.c (.bool false)))]) (
.rs (ops [(3,.mv 0),
(4,.bin .geq .num 3 (Cn 1)),
(5,.mv 4)] (
.dia 5 (
.gop 5 true (some 6) (.mv 0) (
.gop 5 true (some 7) (.bin .leq .num 6 (Cn 14)) (
.done))) 8 5 7 (.c (.bool false)) none (
 ops [(2,.mv 8)]))) (
.ret))⟩
noncomputable def sh_q32 (D : Ctx) (a0 : AV) (σ : Store) : Res :=
 (bin .geq .num a0 (.int .i64 1)).bind fun t_1 =>
 jn 1 (fun t_2 s_3 =>
 some (t_2, s_3))
 (fun j_4 =>
 aCase t_1
 ((bin .leq .num a0 (.int .i64 14)).bind fun t_5 =>
 j_4 t_5 σ)
 (j_4 (.bool false) σ))
theorem sh_q32_eq (D : Ctx) (a0 : AV) (σ : Store) : runFn D ir_q32 [a0] σ = sh_q32 D a0 σ := by kernel_rfl
def ir_q33 : IFn := ⟨[.tmp 4],
.rs (ops [(4,.mv (.c (.bool false)))]) (
.rs (ops [(13,.mv 0),
(14,.mv 1),
(15,.idx 8 13 14),
(16,.load true 8 15),
(5,.zalloc [(.int .i64 0), (.int .i64 0), (.int .i64 0), (.int .i64 0), (.flt 0), (.str ⟨#[]⟩), .nilslice, .nilslice])] (
.op none (.store true 8 5 16) (
.freeze 5 (
.done)))) (
.rs (ops [(17,.fadd 7 5),
(18,.load false 1 17),
(19,.len .sl 18),
(6,.mv 19)]) (
.rs (ops [(20,.mv 6),
(21,.bin .gtr .num 20 (Cn 0)),
(22,.mv 21)] (
.dia 22 (
.gop 22 true (some 23) (.mv 0) (
.gop 22 true (some 24) (.mv 1) (
.gop 22 true (some 25) (.mv 6) (
.gop 22 true (some 26) (.bin .sub .num 25 (Cn 1)) (
.gop 22 true (some 27) (.callV 53 [23, 24, 26]) (
.gop 22 true (some 28) (.bin .eql .num 27 (Cn 1)) (
.done))))))) 29 22 28 (.c (.bool false)) none (
 ops [(7,.mv 29)]))) (
.seq (.rs (ops [(30,.fadd 0 5),
(31,.load false 1 30)]) (
.block 0 none (
.rs (ops [(33,.bin .eql .num 31 (Cn 1)),
(32,.mv 33)]) (
.cond 32 none (.seq (.rs (ops [(34,.fadd 7 5),
(35,.load false 1 34),
(36,.len .sl 35),
(37,.mv (Cn 0))]) (
.block 1 (some ⟨[], []⟩) (
.loop ⟨[37], []⟩ (
.rs (ops [(38,.bin .lss .num 37 36)]) (
.seq (.cond 38 none (.skip) (.exit 1)) (
.seq (.block 2 none (
.rs (ops [(39,.mv 37),
(8,.mv 39)]) (
.rs (ops [(40,.mv 0),
(41,.mv 1),
(42,.mv 8),
(43,.callV 53 [40, 41, 42]),
(44,.callV 42 [43]),
(45,.un .not 44)]) (
.cond 45 none (.rs (ops [(4,.mv (.c (.bool false)))]) (
.ret)) (.skip))))) (
.reg (ops [(46,.bin .add .num 37 (Cn 1)),
(37,.mv 46)])))))))) (
.rs (ops [(47,.load true 8 5),
(48,.callV 54 [47, (.c (.bool false)), (.c (.bool false)), (.c (.bool false)), (.c (.bool false)), (Cn 0)]),
(4,.mv 48)]) (
.ret))) (.rs (ops [(50,.bin .eql .num 31 (Cn 2)),
(49,.mv 50)]) (
.cond 49 none (.rs (ops [(51,.fadd 6 5),
(52,.load false 1 51),
(53,.len .sl 52),
(54,.bin .gtr .num 53 (Cn 0)),
(55,.mv 54)] (
.dia 55 (
.gop 55 true (some 56) (.load true 8 5) (
.gop 55 true (some 57) (.fadd 6 5) (
.gop 55 true (some 58) (.load false 1 57) (
.gop 55 true (some 59) (.len .sl 58) (
.gop 55 true (some 60) (.callV 54 [56, (.c (.bool false)), (.c (.bool false)), (.c (.bool false)), (.c (.bool false)), 59]) (
.done)))))) 61 55 60 (.c (.bool false)) none (
 ops [(62,.mv 61)] (
.dia 62 (
.gop 62 true (some 63) (.mv 0) (
.gop 62 true (some 64) (.mv 1) (
.gop 62 true (some 65) (.mv 6) (
.gop 62 true (some 66) (.callV 55 [63, 64, (Cn 0), 65]) (
.done))))) 67 62 66 (.c (.bool false)) none (
 ops [(4,.mv 67)]))))) (
.ret)) (.rs (ops [(69,.bin .eql .num 31 (Cn 3)),
(68,.mv 69)]) (
.cond 68 none (.seq (.rs (ops [(70,.fadd 3 5),
(71,.load false 1 70),
(72,.bin .lss .num 71 (Cn 1)),
(73,.mv 72)] (
.dia 73 (
.gop 73 false (some 74) (.fadd 3 5) (
.gop 73 false (some 75) (.load false 1 74) (
.gop 73 false (some 76) (.mv 6) (
.gop 73 false (some 77) (.bin .geq .num 75 76) (
.done))))) 78 73 (.c (.bool true)) 77 none (
.done))) (
.cond 78 none (.rs (ops [(4,.mv (.c (.bool false)))]) (
.ret)) (.skip))) (
.seq (.rs (ops [(9,.mv (Cn 0))]) (
.block 3 (some ⟨[], []⟩) (
.loop ⟨[9], []⟩ (
.seq (.rs (ops [(79,.mv 9),
(80,.fadd 3 5),
(81,.load false 1 80),
(82,.bin .lss .num 79 81)]) (
.cond 82 none (.skip) (.exit 3))) (
.seq (.block 4 none (
.rs (ops [(85,.mv 0),
(86,.mv 1),
(87,.mv 9),
(88,.callV 53 [85, 86, 87]),
(89,.callV 56 [88]),
(90,.un .not 89)]) (
.cond 90 none (.rs (ops [(4,.mv (.c (.bool false)))]) (
.ret)) (.skip)))) (
.reg (ops [(83,.mv 9),
(84,.bin .add .num 83 (Cn 1)),
(9,.mv 84)]))))))) (
.rs (ops [(91,.load true 8 5),
(92,.callV 54 [91, (.c (.bool false)), (.c (.bool true)), (.c (.bool false)), (.c (.bool false)), (Cn 0)]),
(93,.mv 92)] (
.dia 93 (
.gop 93 true (some 94) (.mv 0) (
.gop 93 true (some 95) (.mv 1) (
.gop 93 true (some 96) (.fadd 3 5) (
.gop 93 true (some 97) (.load false 1 96) (
.gop 93 true (some 98) (.mv 6) (
.gop 93 true (some 99) (.callV 55 [94, 95, 97, 98]) (
.done))))))) 100 93 99 (.c (.bool false)) none (
 ops [(4,.mv 100)]))) (
.ret)))) (.seq (.rs (ops [(102,.bin .eql .num 31 (Cn 4)),
(101,.mv 102)]) (
.cond 101 (some ⟨[101], []⟩) (.skip) (.reg (ops [(103,.bin .eql .num 31 (Cn 14)),
(101,.mv 103)])))) (
.cond 101 none (.rs (ops [(104,.mv 6),
(105,.bin .eql .num 104 (Cn 1)),
(106,.mv 105)] (
.dia 106 (
.gop 106 true (some 107) (.mv 0) (
.gop 106 true (some 108) (.mv 1) (
.gop 106 true (some 109) (.callV 53 [107, 108, (Cn 0)]) (
.gop 106 true (some 110) (.bin .eql .num 109 (Cn 34)) (
.done))))) 111 106 110 (.c (.bool false)) none (
 ops [(112,.mv 111)] (
.dia 112 (
.gop 112 true (some 113) (.load true 8 5) (
.gop 112 true (some 114) (.callV 54 [113, (.c (.bool false)), (.c (.bool false)), (.c (.bool false)), (.c (.bool false)), (Cn 0)]) (
.done))) 115 112 114 (.c (.bool false)) none (
 ops [(4,.mv 115)]))))) (
.ret)) (.rs (ops [(117,.bin .eql .num 31 (Cn 5)),
(116,.mv 117)]) (
.cond 116 none (.rs (ops [(118,.mv 0),
(119,.mv 1),
(120,.callV 53 [118, 119, (Cn 2)]),
(10,.mv 120)]) (
.rs (ops [(121,.mv 6),
(122,.bin .eql .num 121 (Cn 2)),
(123,.mv 122)] (
.dia 123 (
.gop 123 false (some 124) (.mv 6) (
.gop 123 false (some 125) (.bin .eql .num 124 (Cn 3)) (
.gop 123 false (some 126) (.mv 125) (
.dia 126 (
.gop 126 true (some 127) (.mv 10) (
.gop 126 true (some 128) (.bin .eql .num 127 (Cn 1)) (
.gop 126 true (some 129) (.mv 128) (
.dia 129 (
.gop 129 false (some 130) (.mv 10) (
.gop 129 false (some 131) (.bin .eql .num 130 (Cn 5)) (
.done))) 132 129 (.c (.bool true)) 131 (some (126, true)) (
.done))))) 133 126 132 (.c (.bool false)) (some (123, false)) (
.done))))) 134 123 (.c (.bool true)) 133 none (
 ops [(11,.mv 134)]))) (
.rs (ops [(135,.mv 11),
(136,.mv 135)] (
.dia 136 (
.gop 136 true (some 137) (.mv 0) (
.gop 136 true (some 138) (.mv 1) (
.gop 136 true (some 139) (.callV 55 [137, 138, (Cn 0), (Cn 1)]) (
.done)))) 140 136 139 (.c (.bool false)) none (
 ops [(141,.mv 140)] (
.dia 141 (
.gop 141 true (some 142) (.mv 0) (
.gop 141 true (some 143) (.mv 1) (
.gop 141 true (some 144) (.callV 53 [142, 143, (Cn 1)]) (
.gop 141 true (some 145) (.bin .eql .num 144 (Cn 1)) (
.done))))) 146 141 145 (.c (.bool false)) none (
 ops [(147,.mv 146)] (
.dia 147 (
.gop 147 true (some 148) (.load true 8 5) (
.gop 147 true (some 149) (.callV 54 [148, (.c (.bool false)), (.c (.bool false)), (.c (.bool false)), (.c (.bool false)), (Cn 0)]) (
.done))) 150 147 149 (.c (.bool false)) none (
 ops [(4,.mv 150)]))))))) (
.ret)))) (.rs (ops [(152,.bin .eql .num 31 (Cn 6)),
(151,.mv 152)]) (
.cond 151 none (.rs (ops [(153,.mv 6),
(154,.bin .eql .num 153 (Cn 2)),
(155,.mv 154)] (
.dia 155 (
.gop 155 true (some 156) (.mv 0) (
.gop 155 true (some 157) (.mv 1) (
.gop 155 true (some 158) (.callV 55 [156, 157, (Cn 0), (Cn 1)]) (
.done)))) 159 155 158 (.c (.bool false)) none (
 ops [(160,.mv 159)] (
.dia 160 (
.gop 160 true (some 161) (.mv 7) (
.done)) 162 160 161 (.c (.bool false)) none (
 ops [(163,.mv 162)] (
.dia 163 (
.gop 163 true (some 164) (.load true 8 5) (
.gop 163 true (some 165) (.callV 54 [164, (.c (.bool false)), (.c (.bool false)), (.c (.bool false)), (.c (.bool false)), (Cn 0)]) (
.done))) 166 163 165 (.c (.bool false)) none (
 ops [(4,.mv 166)]))))))) (
.ret)) (.rs (ops [(168,.bin .eql .num 31 (Cn 7)),
(167,.mv 168)]) (
.cond 167 none (.rs (ops [(169,.mv 6),
(170,.bin .eql .num 169 (Cn 4)),
(171,.mv 170)] (
.dia 171 (
.gop 171 true (some 172) (.mv 0) (
.gop 171 true (some 173) (.mv 1) (
.gop 171 true (some 174) (.callV 55 [172, 173, (Cn 0), (Cn 3)]) (
.done)))) 175 171 174 (.c (.bool false)) none (
 ops [(176,.mv 175)] (
.dia 176 (
.gop 176 true (some 177) (.mv 7) (
.done)) 178 176 177 (.c (.bool false)) none (
 ops [(179,.mv 178)] (
.dia 179 (
.gop 179 true (some 180) (.load true 8 5) (
.gop 179 true (some 181) (.callV 54 [180, (.c (.bool false)), (.c (.bool false)), (.c (.bool false)), (.c (.bool false)), (Cn 1)]) (
.done))) 182 179 181 (.c (.bool false)) none (
 ops [(4,.mv 182)]))))))) (
.ret)) (.rs (ops [(184,.bin .eql .num 31 (Cn 8)),
(183,.mv 184)]) (
.cond 183 none (.rs (ops [(185,.fadd 6 5),
(186,.load false 1 185),
(187,.len .sl 186),
(12,.mv 187)]) (
.rs (ops [(188,.mv 6),
(189,.bin .eql .num 188 (Cn 2)),
(190,.mv 189)] (
.dia 190 (
.gop 190 true (some 191) (.mv 12) (
.gop 190 true (some 192) (.bin .geq .num 191 (Cn 1)) (
.done))) 193 190 192 (.c (.bool false)) none (
 ops [(194,.mv 193)] (
.dia 194 (
.gop 194 true (some 195) (.mv 12) (
.gop 194 true (some 196) (.bin .leq .num 195 (Cn 4)) (
.done))) 197 194 196 (.c (.bool false)) none (
 ops [(198,.mv 197)] (
.dia 198 (
.gop 198 true (some 199) (.mv 0) (
.gop 198 true (some 200) (.mv 1) (
.gop 198 true (some 201) (.callV 55 [199, 200, (Cn 0), (Cn 1)]) (
.done)))) 202 198 201 (.c (.bool false)) none (
 ops [(203,.mv 202)] (
.dia 203 (
.gop 203 true (some 204) (.mv 7) (
.done)) 205 203 204 (.c (.bool false)) none (
 ops [(206,.mv 205)] (
.dia 206 (
.gop 206 true (some 207) (.load true 8 5) (
.gop 206 true (some 208) (.mv 12) (
.gop 206 true (some 209) (.callV 54 [207, (.c (.bool false)), (.c (.bool false)), (.c (.bool false)), (.c (.bool false)), 208]) (
.done)))) 210 206 209 (.c (.bool false)) none (
 ops [(4,.mv 210)]))))))))))) (
.ret))) (.seq (.rs (ops [(212,.bin .eql .num 31 (Cn 9)),
(211,.mv 212)]) (
.cond 211 (some ⟨[211], []⟩) (.skip) (.reg (ops [(213,.bin .eql .num 31 (Cn 10)),
(211,.mv 213)])))) (
.cond 211 none (.rs (ops [(214,.mv 6),
(215,.bin .eql .num 214 (Cn 0)),
(216,.mv 215)] (
.dia 216 (
.gop 216 true (some 217) (.load true 8 5) (
.gop 216 true (some 218) (.callV 54 [217, (.c (.bool false)), (.c (.bool false)), (.c (.bool false)), (.c (.bool false)), (Cn 0)]) (
.done))) 219 216 218 (.c (.bool false)) none (
 ops [(4,.mv 219)]))) (
.ret)) (.rs (ops [(221,.bin .eql .num 31 (Cn 11)),
(220,.mv 221)]) (
.cond 220 none (.rs (ops [(222,.mv 0),
(223,.mv 1),
(224,.mv 6),
(225,.callV 55 [222, 223, (Cn 0), 224]),
(226,.mv 225)] (
.dia 226 (
.gop 226 true (some 227) (.load true 8 5) (
.gop 226 true (some 228) (.callV 54 [227, (.c (.bool false)), (.c (.bool false)), (.c (.bool false)), (.c (.bool false)), (Cn 0)]) (
.done))) 229 226 228 (.c (.bool false)) none (
 ops [(4,.mv 229)]))) (
.ret)) (.rs (ops [(231,.bin .eql .num 31 (Cn 12)),
(230,.mv 231)]) (
.cond 230 none (.rs (ops [(232,.mv 6),
(233,.bin .eql .num 232 (Cn 2)),
(234,.mv 233)] (
.dia 234 (
.gop 234 true (some 235) (.mv 0) (
.gop 234 true (some 236) (.mv 1) (
.gop 234 true (some 237) (.callV 53 [235, 236, (Cn 0)]) (
.gop 234 true (some 238) (.bin .eql .num 237 (Cn 1)) (
.done))))) 239 234 238 (.c (.bool false)) none (
 ops [(240,.mv 239)] (
.dia 240 (
.gop 240 true (some 241) (.mv 7) (
.done)) 242 240 241 (.c (.bool false)) none (
 ops [(243,.mv 242)] (
.dia 243 (
.gop 243 true (some 244) (.load true 8 5) (
.gop 243 true (some 245) (.callV 54 [244, (.c (.bool false)), (.c (.bool false)), (.c (.bool false)), (.c (.bool false)), (Cn 2)]) (
.done))) 246 243 245 (.c (.bool false)) none (
 ops [(4,.mv 246)]))))))) (
.ret)) (.rs (ops [(248,.bin .eql .num 31 (Cn 13)),
(247,.mv 248)]) (
.cond 247 none (.rs (ops [(249,.mv 6),
(250,.bin .eql .num 249 (Cn 1)),
(251,.mv 250)] (
.dia 251 (
.gop 251 true (some 252) (.mv 0) (
.gop 251 true (some 253) (.mv 1) (
.gop 251 true (some 254) (.callV 55 [252, 253, (Cn 0), (Cn 1)]) (
.done)))) 255 251 254 (.c (.bool false)) none (
 ops [(256,.mv 255)] (
.dia 256 (
.gop 256 true (some 257) (.load true 8 5) (
.gop 256 true (some 258) (.callV 54 [257, (.c (.bool false)), (.c (.bool false)), (.c (.bool false)), (.c (.bool false)), (Cn 0)]) (
.done))) 259 256 258 (.c (.bool false)) none (
 ops [(4,.mv 259)]))))) (
.ret)) (.skip))))))))))))))))))))))))))) (
.rs (ops [(4,.mv (.c (.bool false)))]) (
.ret))))))⟩
noncomputable def lp_q33_1 (D : Ctx) (cs_3 : List AV) (a0 : AV) (a1 : AV) (k_48 : Cur 0) : Cur 1 → Cur 1 :=
 fun go_58 i_56 s_57 =>
 (rd1 D.G (.pptr cs_3 3) s_57).bind fun t_59 =>
 (bin .lss .num i_56 t_59).bind fun t_60 =>
 aCase t_60
 ((callV D 53 [a0, a1, i_56] s_57).bind fun t_61 =>
 (callV D 56 [t_61] s_57).bind fun t_62 =>
 (un .not t_62).bind fun t_63 =>
 aCase t_63
 (some ((.bool false), s_57))
 ((bin .add .num i_56 (.int .i64 1)).bind fun t_64 =>
 go_58 t_64 s_57))
 (k_48  s_57)
theorem lp_q33_1_le {D : Ctx} (x0 x1 x2 k3) {k3'} (hk3 : Cle k3 k3') {u u'} (h : Cle u u') : Cle (lp_q33_1 D x0 x1 x2 k3 u) (lp_q33_1 D x0 x1 x2 k3' u') := by
 unfold lp_q33_1
 repeat (first
  | with_reducible refine Ole.bindr fun _ => ?_
  | with_reducible refine Ole.aCase ?_ ?_
  | refine Cle.succ fun _ => ?_
  | refine Cle.zero fun _ => ?_
  | exact Cle.use0 (by assumption)
  | exact Cle.use1 (by assumption)
  | with_reducible exact Ole.refl _)
theorem lp_q33_1_mono (D x0 x1 x2 k3) : Mono (lp_q33_1 D x0 x1 x2 k3) := fun _ _ => lp_q33_1_le _ _ _ _ (Cle.refl _)
noncomputable def lp_q33_2 (D : Ctx) (t_13 : AV) (a0 : AV) (a1 : AV) (k_15 : Cur 0) : Cur 1 → Cur 1 :=
 fun go_20 t_18 s_19 =>
 (bin .lss .num t_18 t_13).bind fun t_21 =>
 aCase t_21
 ((callV D 53 [a0, a1, t_18] s_19).bind fun t_22 =>
 (callV D 42 [t_22] s_19).bind fun t_23 =>
 (un .not t_23).bind fun t_24 =>
 aCase t_24
 (some ((.bool false), s_19))
 ((bin .add .num t_18 (.int .i64 1)).bind fun t_25 =>
 go_20 t_25 s_19))
 (k_15  s_19)
theorem lp_q33_2_le {D : Ctx} (x0 x1 x2 k3) {k3'} (hk3 : Cle k3 k3') {u u'} (h : Cle u u') : Cle (lp_q33_2 D x0 x1 x2 k3 u) (lp_q33_2 D x0 x1 x2 k3' u') := by
 unfold lp_q33_2
 repeat (first
  | with_reducible refine Ole.bindr fun _ => ?_
  | with_reducible refine Ole.aCase ?_ ?_
  | refine Cle.succ fun _ => ?_
  | refine Cle.zero fun _ => ?_
  | exact Cle.use0 (by assumption)
  | exact Cle.use1 (by assumption)
  | with_reducible exact Ole.refl _)
theorem lp_q33_2_mono (D x0 x1 x2 k3) : Mono (lp_q33_2 D x0 x1 x2 k3) := fun _ _ => lp_q33_2_le _ _ _ _ (Cle.refl _)
noncomputable def sh_q33 (D : Ctx) (a0 a1 : AV) (σ : Store) : Res :=
 (idx 8 a0 a1).bind fun t_1 =>
 (rdN 8 t_1 σ).bind fun t_2 =>
 (asplit 8 (.agg t_2)).bind fun cs_3 =>
 (rd1 D.G (.pptr cs_3 7) σ).bind fun t_4 =>
 (lenV .sl t_4 σ).bind fun t_5 =>
 (bin .gtr .num t_5 (.int .i64 0)).bind fun t_6 =>
 jn 1 (fun t_7 s_8 =>
 (rd1 D.G (.pptr cs_3 0) s_8).bind fun t_10 =>
 (bin .eql .num t_10 (.int .i64 1)).bind fun t_11 =>
 aCase t_11
 ((rd1 D.G (.pptr cs_3 7) s_8).bind fun t_12 =>
 (lenV .sl t_12 s_8).bind fun t_13 =>
 jn 0 (fun  s_14 =>
 (rdN 8 (.pptr cs_3 0) s_14).bind fun t_16 =>
 (callV D 54 [(.agg t_16), (.bool false), (.bool false), (.bool false), (.bool false), (.int .i64 0)] s_14).bind fun t_17 =>
 some (t_17, s_14))
 (fun k_15 =>
 lpFix 1 (lp_q33_2 D t_13 a0 a1 k_15) (.int .i64 0) s_8))
 ((bin .eql .num t_10 (.int .i64 2)).bind fun t_26 =>
 aCase t_26
 ((rd1 D.G (.pptr cs_3 6) s_8).bind fun t_27 =>
 (lenV .sl t_27 s_8).bind fun t_28 =>
 (bin .gtr .num t_28 (.int .i64 0)).bind fun t_29 =>
 jn 1 (fun t_30 s_31 =>
 jn 1 (fun t_33 s_34 =>
 some (t_33, s_34))
 (fun j_35 =>
 aCase t_30
 ((callV D 55 [a0, a1, (.int .i64 0), t_5] s_31).bind fun t_36 =>
 j_35 t_36 s_31)
 (j_35 (.bool false) s_31)))
 (fun j_32 =>
 aCase t_29
 ((rdN 8 (.pptr cs_3 0) s_8).bind fun t_37 =>
 (rd1 D.G (.pptr cs_3 6) s_8).bind fun t_38 =>
 (lenV .sl t_38 s_8).bind fun t_39 =>
 (callV D 54 [(.agg t_37), (.bool false), (.bool false), (.bool false), (.bool false), t_39] s_8).bind fun t_40 =>
 j_32 t_40 s_8)
 (j_32 (.bool false) s_8)))
 ((bin .eql .num t_10 (.int .i64 3)).bind fun t_41 =>
 aCase t_41
 ((rd1 D.G (.pptr cs_3 3) s_8).bind fun t_42 =>
 (bin .lss .num t_42 (.int .i64 1)).bind fun t_43 =>
 jn 1 (fun t_44 s_45 =>
 aCase t_44
 (some ((.bool false), s_45))
 (jn 0 (fun  s_47 =>
 (rdN 8 (.pptr cs_3 0) s_47).bind fun t_49 =>
 (callV D 54 [(.agg t_49), (.bool false), (.bool true), (.bool false), (.bool false), (.int .i64 0)] s_47).bind fun t_50 =>
 jn 1 (fun t_51 s_52 =>
 some (t_51, s_52))
 (fun j_53 =>
 aCase t_50
 ((rd1 D.G (.pptr cs_3 3) s_47).bind fun t_54 =>
 (callV D 55 [a0, a1, t_54, t_5] s_47).bind fun t_55 =>
 j_53 t_55 s_47)
 (j_53 (.bool false) s_47)))
 (fun k_48 =>
 lpFix 1 (lp_q33_1 D cs_3 a0 a1 k_48) (.int .i64 0) s_45)))
 (fun j_46 =>
 aCase t_43
 (j_46 (.bool true) s_8)
 ((rd1 D.G (.pptr cs_3 3) s_8).bind fun t_65 =>
 (bin .geq .num t_65 t_5).bind fun t_66 =>
 j_46 t_66 s_8)))
 ((bin .eql .num t_10 (.int .i64 4)).bind fun t_67 =>
 jn 1 (fun t_68 s_69 =>
 aCase t_68
 ((bin .eql .num t_5 (.int .i64 1)).bind fun t_71 =>
 jn 1 (fun t_72 s_73 =>
 jn 1 (fun t_75 s_76 =>
 some (t_75, s_76))
 (fun j_77 =>
 aCase t_72
 ((rdN 8 (.pptr cs_3 0) s_73).bind fun t_78 =>
 (callV D 54 [(.agg t_78), (.bool false), (.bool false), (.bool false), (.bool false), (.int .i64 0)] s_73).bind fun t_79 =>
 j_77 t_79 s_73)
 (j_77 (.bool false) s_73)))
 (fun j_74 =>
 aCase t_71
 ((callV D 53 [a0, a1, (.int .i64 0)] s_69).bind fun t_80 =>
 (bin .eql .num t_80 (.int .i64 34)).bind fun t_81 =>
 j_74 t_81 s_69)
 (j_74 (.bool false) s_69)))
 ((bin .eql .num t_10 (.int .i64 5)).bind fun t_82 =>
 aCase t_82
 ((callV D 53 [a0, a1, (.int .i64 2)] s_69).bind fun t_83 =>
 (bin .eql .num t_5 (.int .i64 2)).bind fun t_84 =>
 jn 1 (fun t_85 s_86 =>
 jn 1 (fun t_88 s_89 =>
 jn 1 (fun t_91 s_92 =>
 jn 1 (fun t_94 s_95 =>
 some (t_94, s_95))
 (fun j_96 =>
 aCase t_91
 ((rdN 8 (.pptr cs_3 0) s_92).bind fun t_97 =>
 (callV D 54 [(.agg t_97), (.bool false), (.bool false), (.bool false), (.bool false), (.int .i64 0)] s_92).bind fun t_98 =>
 j_96 t_98 s_92)
 (j_96 (.bool false) s_92)))
 (fun j_93 =>
 aCase t_88
 ((callV D 53 [a0, a1, (.int .i64 1)] s_89).bind fun t_99 =>
 (bin .eql .num t_99 (.int .i64 1)).bind fun t_100 =>
 j_93 t_100 s_89)
 (j_93 (.bool false) s_89)))
 (fun j_90 =>
 aCase t_85
 ((callV D 55 [a0, a1, (.int .i64 0), (.int .i64 1)] s_86).bind fun t_101 =>
 j_90 t_101 s_86)
 (j_90 (.bool false) s_86)))
 (fun j_87 =>
 aCase t_84
 (j_87 (.bool true) s_69)
 ((bin .eql .num t_5 (.int .i64 3)).bind fun t_102 =>
 jn 1 (fun t_103 s_104 =>
 j_87 t_103 s_104)
 (fun j_105 =>
 aCase t_102
 ((bin .eql .num t_83 (.int .i64 1)).bind fun t_106 =>
 jn 1 (fun t_107 s_108 =>
 j_105 t_107 s_108)
 (fun j_109 =>
 aCase t_106
 (j_109 (.bool true) s_69)
 ((bin .eql .num t_83 (.int .i64 5)).bind fun t_110 =>
 j_109 t_110 s_69)))
 (j_105 (.bool false) s_69)))))
 ((bin .eql .num t_10 (.int .i64 6)).bind fun t_111 =>
 aCase t_111
 ((bin .eql .num t_5 (.int .i64 2)).bind fun t_112 =>
 jn 1 (fun t_113 s_114 =>
 jn 1 (fun t_116 s_117 =>
 jn 1 (fun t_119 s_120 =>
 some (t_119, s_120))
 (fun j_121 =>
 aCase t_116
 ((rdN 8 (.pptr cs_3 0) s_117).bind fun t_122 =>
 (callV D 54 [(.agg t_122), (.bool false), (.bool false), (.bool false), (.bool false), (.int .i64 0)] s_117).bind fun t_123 =>
 j_121 t_123 s_117)
 (j_121 (.bool false) s_117)))
 (fun j_118 =>
 aCase t_113
 (j_118 t_7 s_114)
 (j_118 (.bool false) s_114)))
 (fun j_115 =>
 aCase t_112
 ((callV D 55 [a0, a1, (.int .i64 0), (.int .i64 1)] s_69).bind fun t_124 =>
 j_115 t_124 s_69)
 (j_115 (.bool false) s_69)))
 ((bin .eql .num t_10 (.int .i64 7)).bind fun t_125 =>
 aCase t_125
 ((bin .eql .num t_5 (.int .i64 4)).bind fun t_126 =>
 jn 1 (fun t_127 s_128 =>
 jn 1 (fun t_130 s_131 =>
 jn 1 (fun t_133 s_134 =>
 some (t_133, s_134))
 (fun j_135 =>
 aCase t_130
 ((rdN 8 (.pptr cs_3 0) s_131).bind fun t_136 =>
 (callV D 54 [(.agg t_136), (.bool false), (.bool false), (.bool false), (.bool false), (.int .i64 1)] s_131).bind fun t_137 =>
 j_135 t_137 s_131)
 (j_135 (.bool false) s_131)))
 (fun j_132 =>
 aCase t_127
 (j_132 t_7 s_128)
 (j_132 (.bool false) s_128)))
 (fun j_129 =>
 aCase t_126
 ((callV D 55 [a0, a1, (.int .i64 0), (.int .i64 3)] s_69).bind fun t_138 =>
 j_129 t_138 s_69)
 (j_129 (.bool false) s_69)))
 ((bin .eql .num t_10 (.int .i64 8)).bind fun t_139 =>
 aCase t_139
 ((rd1 D.G (.pptr cs_3 6) s_69).bind fun t_140 =>
 (lenV .sl t_140 s_69).bind fun t_141 =>
 (bin .eql .num t_5 (.int .i64 2)).bind fun t_142 =>
 jn 1 (fun t_143 s_144 =>
 jn 1 (fun t_146 s_147 =>
 jn 1 (fun t_149 s_150 =>
 jn 1 (fun t_152 s_153 =>
 jn 1 (fun t_155 s_156 =>
 some (t_155, s_156))
 (fun j_157 =>
 aCase t_152
 ((rdN 8 (.pptr cs_3 0) s_153).bind fun t_158 =>
 (callV D 54 [(.agg t_158), (.bool false), (.bool false), (.bool false), (.bool false), t_141] s_153).bind fun t_159 =>
 j_157 t_159 s_153)
 (j_157 (.bool false) s_153)))
 (fun j_154 =>
 aCase t_149
 (j_154 t_7 s_150)
 (j_154 (.bool false) s_150)))
 (fun j_151 =>
 aCase t_146
 ((callV D 55 [a0, a1, (.int .i64 0), (.int .i64 1)] s_147).bind fun t_160 =>
 j_151 t_160 s_147)
 (j_151 (.bool false) s_147)))
 (fun j_148 =>
 aCase t_143
 ((bin .leq .num t_141 (.int .i64 4)).bind fun t_161 =>
 j_148 t_161 s_144)
 (j_148 (.bool false) s_144)))
 (fun j_145 =>
 aCase t_142
 ((bin .geq .num t_141 (.int .i64 1)).bind fun t_162 =>
 j_145 t_162 s_69)
 (j_145 (.bool false) s_69)))
 ((bin .eql .num t_10 (.int .i64 9)).bind fun t_163 =>
 jn 1 (fun t_164 s_165 =>
 aCase t_164
 ((bin .eql .num t_5 (.int .i64 0)).bind fun t_167 =>
 jn 1 (fun t_168 s_169 =>
 some (t_168, s_169))
 (fun j_170 =>
 aCase t_167
 ((rdN 8 (.pptr cs_3 0) s_165).bind fun t_171 =>
 (callV D 54 [(.agg t_171), (.bool false), (.bool false), (.bool false), (.bool false), (.int .i64 0)] s_165).bind fun t_172 =>
 j_170 t_172 s_165)
 (j_170 (.bool false) s_165)))
 ((bin .eql .num t_10 (.int .i64 11)).bind fun t_173 =>
 aCase t_173
 ((callV D 55 [a0, a1, (.int .i64 0), t_5] s_165).bind fun t_174 =>
 jn 1 (fun t_175 s_176 =>
 some (t_175, s_176))
 (fun j_177 =>
 aCase t_174
 ((rdN 8 (.pptr cs_3 0) s_165).bind fun t_178 =>
 (callV D 54 [(.agg t_178), (.bool false), (.bool false), (.bool false), (.bool false), (.int .i64 0)] s_165).bind fun t_179 =>
 j_177 t_179 s_165)
 (j_177 (.bool false) s_165)))
 ((bin .eql .num t_10 (.int .i64 12)).bind fun t_180 =>
 aCase t_180
 ((bin .eql .num t_5 (.int .i64 2)).bind fun t_181 =>
 jn 1 (fun t_182 s_183 =>
 jn 1 (fun t_185 s_186 =>
 jn 1 (fun t_188 s_189 =>
 some (t_188, s_189))
 (fun j_190 =>
 aCase t_185
 ((rdN 8 (.pptr cs_3 0) s_186).bind fun t_191 =>
 (callV D 54 [(.agg t_191), (.bool false), (.bool false), (.bool false), (.bool false), (.int .i64 2)] s_186).bind fun t_192 =>
 j_190 t_192 s_186)
 (j_190 (.bool false) s_186)))
 (fun j_187 =>
 aCase t_182
 (j_187 t_7 s_183)
 (j_187 (.bool false) s_183)))
 (fun j_184 =>
 aCase t_181
 ((callV D 53 [a0, a1, (.int .i64 0)] s_165).bind fun t_193 =>
 (bin .eql .num t_193 (.int .i64 1)).bind fun t_194 =>
 j_184 t_194 s_165)
 (j_184 (.bool false) s_165)))
 ((bin .eql .num t_10 (.int .i64 13)).bind fun t_195 =>
 aCase t_195
 ((bin .eql .num t_5 (.int .i64 1)).bind fun t_196 =>
 jn 1 (fun t_197 s_198 =>
 jn 1 (fun t_200 s_201 =>
 some (t_200, s_201))
 (fun j_202 =>
 aCase t_197
 ((rdN 8 (.pptr cs_3 0) s_198).bind fun t_203 =>
 (callV D 54 [(.agg t_203), (.bool false), (.bool false), (.bool false), (.bool false), (.int .i64 0)] s_198).bind fun t_204 =>
 j_202 t_204 s_198)
 (j_202 (.bool false) s_198)))
 (fun j_199 =>
 aCase t_196
 ((callV D 55 [a0, a1, (.int .i64 0), (.int .i64 1)] s_165).bind fun t_205 =>
 j_199 t_205 s_165)
 (j_199 (.bool false) s_165)))
 (some ((.bool false), s_165))))))
 (fun k_166 =>
 aCase t_163
 (k_166 t_163 s_69)
 ((bin .eql .num t_10 (.int .i64 10)).bind fun t_206 =>
 k_166 t_206 s_69))))))))
 (fun k_70 =>
 aCase t_67
 (k_70 t_67 s_8)
 ((bin .eql .num t_10 (.int .i64 14)).bind fun t_207 =>
 k_70 t_207 s_8))))))
 (fun j_9 =>
 aCase t_6
 ((bin .sub .num t_5 (.int .i64 1)).bind fun t_208 =>
 (callV D 53 [a0, a1, t_208] σ).bind fun t_209 =>
 (bin .eql .num t_209 (.int .i64 1)).bind fun t_210 =>
 j_9 t_210 σ)
 (j_9 (.bool false) σ))
theorem sh_q33_eq (D : Ctx) (a0 a1 : AV) (σ : Store) : runFn D ir_q33 [a0, a1] σ = sh_q33 D a0 a1 σ := by kernel_rfl
def ir_q34 : IFn := ⟨[.tmp 4],
.rs (ops [(4,.mv (.c (.bool false)))]) (
.rs (ops [(9,.mv 0),
(10,.mv 1),
(11,.idx 8 9 10),
(12,.load true 8 11),
(5,.zalloc [(.int .i64 0), (.int .i64 0), (.int .i64 0), (.int .i64 0), (.flt 0), (.str ⟨#[]⟩), .nilslice, .nilslice])] (
.op none (.store true 8 5 12) (
.freeze 5 (
.done)))) (
.rs (ops [(13,.fadd 7 5),
(14,.load false 1 13),
(15,.len .sl 14),
(6,.mv 15)]) (
.rs (ops [(16,.mv 0),
(17,.mv 1),
(18,.mv 6),
(19,.callV 55 [16, 17, (Cn 0), 18]),
(7,.mv 19)]) (
.seq (.rs (ops [(20,.fadd 0 5),
(21,.load false 1 20)]) (
.block 0 none (
.seq (.rs (ops [(23,.bin .eql .num 21 (Cn 20)),
(22,.mv 23)]) (
.cond 22 (some ⟨[22], []⟩) (.skip) (.rs (ops [(24,.bin .eql .num 21 (Cn 21)),
(22,.mv 24)]) (
.cond 22 (some ⟨[22], []⟩) (.skip) (.rs (ops [(25,.bin .eql .num 21 (Cn 22)),
(22,.mv 25)]) (
.cond 22 (some ⟨[22], []⟩) (.skip) (.reg (ops [(26,.bin .eql .num 21 (Cn 37)),
(22,.mv 26)])))))))) (
.cond 22 none (.rs (ops [(27,.mv 6),
(28,.bin .eql .num 27 (Cn 0)),
(29,.mv 28)] (
.dia 29 (
.gop 29 true (some 30) (.load true 8 5) (
.gop 29 true (some 31) (.callV 54 [30, (.c (.bool false)), (.c (.bool false)), (.c (.bool false)), (.c (.bool false)), (Cn 0)]) (
.done))) 32 29 31 (.c (.bool false)) none (
 ops [(4,.mv 32)]))) (
.ret)) (.rs (ops [(34,.bin .eql .num 21 (Cn 23)),
(33,.mv 34)]) (
.cond 33 none (.rs (ops [(35,.mv 6),
(36,.bin .eql .num 35 (Cn 0)),
(37,.mv 36)] (
.dia 37 (
.gop 37 true (some 38) (.load true 8 5) (
.gop 37 true (some 39) (.callV 54 [38, (.c (.bool false)), (.c (.bool true)), (.c (.bool false)), (.c (.bool false)), (Cn 0)]) (
.done))) 40 37 39 (.c (.bool false)) none (
 ops [(4,.mv 40)]))) (
.ret)) (.rs (ops [(42,.bin .eql .num 21 (Cn 24)),
(41,.mv 42)]) (
.cond 41 none (.rs (ops [(43,.mv 6),
(44,.bin .eql .num 43 (Cn 0)),
(45,.mv 44)] (
.dia 45 (
.gop 45 true (some 46) (.fadd 4 5) (
.gop 45 true (some 47) (.load false 1 46) (
.gop 45 true (some 48) (.fadd 4 5) (
.gop 45 true (some 49) (.load false 1 48) (
.gop 45 true (some 50) (.bin .eql .num 47 49) (
.done)))))) 51 45 50 (.c (.bool false)) none (
 ops [(52,.mv 51)] (
.dia 52 (
.gop 52 true (some 53) (.load true 8 5) (
.gop 52 true (some 54) (.callV 54 [53, (.c (.bool false)), (.c (.bool false)), (.c (.bool true)), (.c (.bool false)), (Cn 0)]) (
.done))) 55 52 54 (.c (.bool false)) none (
 ops [(4,.mv 55)]))))) (
.ret)) (.rs (ops [(57,.bin .eql .num 21 (Cn 25)),
(56,.mv 57)]) (
.cond 56 none (.rs (ops [(58,.mv 6),
(59,.bin .eql .num 58 (Cn 0)),
(60,.mv 59)] (
.dia 60 (
.gop 60 true (some 61) (.fadd 5 5) (
.gop 60 true (some 62) (.load false 1 61) (
.gop 60 true (some 63) (.len .str 62) (
.gop 60 true (some 64) (.bin .leq .num 63 (Cn 4000)) (
.done))))) 65 60 64 (.c (.bool false)) none (
 ops [(66,.mv 65)] (
.dia 66 (
.gop 66 true (some 67) (.load true 8 5) (
.gop 66 true (some 68) (.callV 54 [67, (.c (.bool false)), (.c (.bool false)), (.c (.bool false)), (.c (.bool true)), (Cn 0)]) (
.done))) 69 66 68 (.c (.bool false)) none (
 ops [(4,.mv 69)]))))) (
.ret)) (.seq (.rs (ops [(71,.bin .eql .num 21 (Cn 26)),
(70,.mv 71)]) (
.cond 70 (some ⟨[70], []⟩) (.skip) (.rs (ops [(72,.bin .eql .num 21 (Cn 27)),
(70,.mv 72)]) (
.cond 70 (some ⟨[70], []⟩) (.skip) (.reg (ops [(73,.bin .eql .num 21 (Cn 36)),
(70,.mv 73)])))))) (
.cond 70 none (.rs (ops [(74,.mv 6),
(75,.bin .eql .num 74 (Cn 0)),
(76,.mv 75)] (
.dia 76 (
.gop 76 true (some 77) (.load true 8 5) (
.gop 76 true (some 78) (.callV 54 [77, (.c (.bool false)), (.c (.bool false)), (.c (.bool false)), (.c (.bool false)), (Cn 1)]) (
.done))) 79 76 78 (.c (.bool false)) none (
 ops [(4,.mv 79)]))) (
.ret)) (.rs (ops [(81,.bin .eql .num 21 (Cn 28)),
(80,.mv 81)]) (
.cond 80 none (.rs (ops [(82,.mv 6),
(83,.bin .eql .num 82 (Cn 0)),
(84,.mv 83)] (
.dia 84 (
.gop 84 true (some 85) (.fadd 3 5) (
.gop 84 true (some 86) (.load false 1 85) (
.gop 84 true (some 87) (.bin .geq .num 86 (Cn 0)) (
.done)))) 88 84 87 (.c (.bool false)) none (
 ops [(89,.mv 88)] (
.dia 89 (
.gop 89 true (some 90) (.fadd 3 5) (
.gop 89 true (some 91) (.load false 1 90) (
.gop 89 true (some 92) (.bin .lss .num 91 (Cn 15)) (
.done)))) 93 89 92 (.c (.bool false)) none (
 ops [(94,.mv 93)] (
.dia 94 (
.gop 94 true (some 95) (.load true 8 5) (
.gop 94 true (some 96) (.callV 54 [95, (.c (.bool false)), (.c (.bool true)), (.c (.bool false)), (.c (.bool false)), (Cn 0)]) (
.done))) 97 94 96 (.c (.bool false)) none (
 ops [(4,.mv 97)]))))))) (
.ret)) (.seq (.rs (ops [(99,.bin .eql .num 21 (Cn 29)),
(98,.mv 99)]) (
.cond 98 (some ⟨[98], []⟩) (.skip) (.rs (ops [(100,.bin .eql .num 21 (Cn 30)),
(98,.mv 100)]) (
.cond 98 (some ⟨[98], []⟩) (.skip) (.reg (ops [(101,.bin .eql .num 21 (Cn 33)),
(98,.mv 101)])))))) (
.cond 98 none (.rs (ops [(102,.mv 6),
(103,.bin .eql .num 102 (Cn 2)),
(104,.mv 103)] (
.dia 104 (
.gop 104 true (some 105) (.mv 7) (
.done)) 106 104 105 (.c (.bool false)) none (
 ops [(107,.mv 106)] (
.dia 107 (
.gop 107 true (some 108) (.load true 8 5) (
.gop 107 true (some 109) (.callV 54 [108, (.c (.bool false)), (.c (.bool false)), (.c (.bool false)), (.c (.bool false)), (Cn 0)]) (
.done))) 110 107 109 (.c (.bool false)) none (
 ops [(4,.mv 110)]))))) (
.ret)) (.rs (ops [(112,.bin .eql .num 21 (Cn 31)),
(111,.mv 112)]) (
.cond 111 none (.rs (ops [(113,.mv 6),
(114,.bin .eql .num 113 (Cn 1)),
(115,.mv 114)] (
.dia 115 (
.gop 115 true (some 116) (.mv 7) (
.done)) 117 115 116 (.c (.bool false)) none (
 ops [(118,.mv 117)] (
.dia 118 (
.gop 118 true (some 119) (.fadd 2 5) (
.gop 118 true (some 120) (.load false 1 119) (
.gop 118 true (some 121) (.bin .geq .num 120 (Cn 19)) (
.done)))) 122 118 121 (.c (.bool false)) none (
 ops [(123,.mv 122)] (
.dia 123 (
.gop 123 true (some 124) (.fadd 2 5) (
.gop 123 true (some 125) (.load false 1 124) (
.gop 123 true (some 126) (.bin .leq .num 125 (Cn 22)) (
.done)))) 127 123 126 (.c (.bool false)) none (
 ops [(128,.mv 127)] (
.dia 128 (
.gop 128 true (some 129) (.load true 8 5) (
.gop 128 true (some 130) (.callV 54 [129, (.c (.bool true)), (.c (.bool false)), (.c (.bool false)), (.c (.bool false)), (Cn 0)]) (
.done))) 131 128 130 (.c (.bool false)) none (
 ops [(4,.mv 131)]))))))))) (
.ret)) (.rs (ops [(133,.bin .eql .num 21 (Cn 32)),
(132,.mv 133)]) (
.cond 132 none (.rs (ops [(134,.mv 6),
(135,.bin .eql .num 134 (Cn 2)),
(136,.mv 135)] (
.dia 136 (
.gop 136 true (some 137) (.mv 7) (
.done)) 138 136 137 (.c (.bool false)) none (
 ops [(139,.mv 138)] (
.dia 139 (
.gop 139 true (some 140) (.fadd 2 5) (
.gop 139 true (some 141) (.load false 1 140) (
.gop 139 true (some 142) (.bin .geq .num 141 (Cn 1)) (
.done)))) 143 139 142 (.c (.bool false)) none (
 ops [(144,.mv 143)] (
.dia 144 (
.gop 144 true (some 145) (.fadd 2 5) (
.gop 144 true (some 146) (.load false 1 145) (
.gop 144 true (some 147) (.bin .leq .num 146 (Cn 18)) (
.done)))) 148 144 147 (.c (.bool false)) none (
 ops [(149,.mv 148)] (
.dia 149 (
.gop 149 true (some 150) (.load true 8 5) (
.gop 149 true (some 151) (.callV 54 [150, (.c (.bool true)), (.c (.bool false)), (.c (.bool false)), (.c (.bool false)), (Cn 0)]) (
.done))) 152 149 151 (.c (.bool false)) none (
 ops [(4,.mv 152)]))))))))) (
.ret)) (.rs (ops [(154,.bin .eql .num 21 (Cn 34)),
(153,.mv 154)]) (
.cond 153 none (.rs (ops [(155,.mv 6),
(156,.bin .geq .num 155 (Cn 1)),
(157,.mv 156)] (
.dia 157 (
.gop 157 true (some 158) (.mv 7) (
.done)) 159 157 158 (.c (.bool false)) none (
 ops [(160,.mv 159)] (
.dia 160 (
.gop 160 true (some 161) (.load true 8 5) (
.gop 160 true (some 162) (.callV 54 [161, (.c (.bool false)), (.c (.bool false)), (.c (.bool false)), (.c (.bool false)), (Cn 0)]) (
.done))) 163 160 162 (.c (.bool false)) none (
 ops [(4,.mv 163)]))))) (
.ret)) (.rs (ops [(165,.bin .eql .num 21 (Cn 35)),
(164,.mv 165)]) (
.cond 164 none (.rs (ops [(166,.fadd 2 5),
(167,.load false 1 166),
(168,.bin .eql .num 167 (Cn 0)),
(169,.mv 168)] (
.dia 169 (
.gop 169 false (some 170) (.fadd 2 5) (
.gop 169 false (some 171) (.load false 1 170) (
.gop 169 false (some 172) (.bin .eql .num 171 (Cn 1)) (
.gop 169 false (some 173) (.mv 172) (
.dia 173 (
.gop 173 true (some 174) (.mv 6) (
.gop 173 true (some 175) (.bin .geq .num 174 (Cn 2)) (
.done))) 176 173 175 (.c (.bool false)) (some (169, false)) (
.gop 169 false (some 177) (.mv 176) (
.dia 177 (
.gop 177 true (some 178) (.mv 0) (
.gop 177 true (some 179) (.mv 1) (
.gop 177 true (some 180) (.mv 6) (
.gop 177 true (some 181) (.bin .sub .num 180 (Cn 2)) (
.gop 177 true (some 182) (.callV 53 [178, 179, 181]) (
.gop 177 true (some 183) (.bin .eql .num 182 (Cn 23)) (
.done))))))) 184 177 183 (.c (.bool false)) (some (169, false)) (
.gop 169 false (some 185) (.mv 184) (
.dia 185 (
.gop 185 true (some 186) (.mv 0) (
.gop 185 true (some 187) (.mv 1) (
.gop 185 true (some 188) (.mv 6) (
.gop 185 true (some 189) (.bin .sub .num 188 (Cn 1)) (
.gop 185 true (some 190) (.callV 53 [186, 187, 189]) (
.gop 185 true (some 191) (.callV 57 [190]) (
.done))))))) 192 185 191 (.c (.bool false)) (some (169, false)) (
.done)))))))))) 193 169 (.c (.bool true)) 192 none (
 ops [(8,.mv 193)]))) (
.rs (ops [(194,.mv 6),
(195,.bin .rem .num 194 (Cn 2)),
(196,.bin .eql .num 195 (Cn 0)),
(197,.mv 196)] (
.dia 197 (
.gop 197 true (some 198) (.mv 7) (
.done)) 199 197 198 (.c (.bool false)) none (
 ops [(200,.mv 199)] (
.dia 200 (
.gop 200 true (some 201) (.mv 8) (
.done)) 202 200 201 (.c (.bool false)) none (
 ops [(203,.mv 202)] (
.dia 203 (
.gop 203 true (some 204) (.load true 8 5) (
.gop 203 true (some 205) (.callV 54 [204, (.c (.bool true)), (.c (.bool false)), (.c (.bool false)), (.c (.bool false)), (Cn 0)]) (
.done))) 206 203 205 (.c (.bool false)) none (
 ops [(4,.mv 206)]))))))) (
.ret))) (.rs (ops [(208,.bin .eql .num 21 (Cn 38)),
(207,.mv 208)]) (
.cond 207 none (.rs (ops [(209,.mv 6),
(210,.bin .eql .num 209 (Cn 1)),
(211,.mv 210)] (
.dia 211 (
.gop 211 true (some 212) (.mv 0) (
.gop 211 true (some 213) (.mv 1) (
.gop 211 true (some 214) (.callV 53 [212, 213, (Cn 0)]) (
.gop 211 true (some 215) (.callV 57 [214]) (
.done))))) 216 211 215 (.c (.bool false)) none (
 ops [(217,.mv 216)] (
.dia 217 (
.gop 217 true (some 218) (.load true 8 5) (
.gop 217 true (some 219) (.callV 54 [218, (.c (.bool false)), (.c (.bool false)), (.c (.bool false)), (.c (.bool false)), (Cn 0)]) (
.done))) 220 217 219 (.c (.bool false)) none (
 ops [(4,.mv 220)]))))) (
.ret)) (.skip))))))))))))))))))))))))))) (
.rs (ops [(4,.mv (.c (.bool false)))]) (
.ret))))))⟩
noncomputable def sh_q34 (D : Ctx) (a0 a1 : AV) (σ : Store) : Res :=
 (idx 8 a0 a1).bind fun t_1 =>
 (rdN 8 t_1 σ).bind fun t_2 =>
 (asplit 8 (.agg t_2)).bind fun cs_3 =>
 (rd1 D.G (.pptr cs_3 7) σ).bind fun t_4 =>
 (lenV .sl t_4 σ).bind fun t_5 =>
 (callV D 55 [a0, a1, (.int .i64 0), t_5] σ).bind fun t_6 =>
 (rd1 D.G (.pptr cs_3 0) σ).bind fun t_7 =>
 (bin .eql .num t_7 (.int .i64 20)).bind fun t_8 =>
 jn 1 (fun t_9 s_10 =>
 aCase t_9
 ((bin .eql .num t_5 (.int .i64 0)).bind fun t_12 =>
 jn 1 (fun t_13 s_14 =>
 some (t_13, s_14))
 (fun j_15 =>
 aCase t_12
 ((rdN 8 (.pptr cs_3 0) s_10).bind fun t_16 =>
 (callV D 54 [(.agg t_16), (.bool false), (.bool false), (.bool false), (.bool false), (.int .i64 0)] s_10).bind fun t_17 =>
 j_15 t_17 s_10)
 (j_15 (.bool false) s_10)))
 ((bin .eql .num t_7 (.int .i64 23)).bind fun t_18 =>
 aCase t_18
 ((bin .eql .num t_5 (.int .i64 0)).bind fun t_19 =>
 jn 1 (fun t_20 s_21 =>
 some (t_20, s_21))
 (fun j_22 =>
 aCase t_19
 ((rdN 8 (.pptr cs_3 0) s_10).bind fun t_23 =>
 (callV D 54 [(.agg t_23), (.bool false), (.bool true), (.bool false), (.bool false), (.int .i64 0)] s_10).bind fun t_24 =>
 j_22 t_24 s_10)
 (j_22 (.bool false) s_10)))
 ((bin .eql .num t_7 (.int .i64 24)).bind fun t_25 =>
 aCase t_25
 ((bin .eql .num t_5 (.int .i64 0)).bind fun t_26 =>
 jn 1 (fun t_27 s_28 =>
 jn 1 (fun t_30 s_31 =>
 some (t_30, s_31))
 (fun j_32 =>
 aCase t_27
 ((rdN 8 (.pptr cs_3 0) s_28).bind fun t_33 =>
 (callV D 54 [(.agg t_33), (.bool false), (.bool false), (.bool true), (.bool false), (.int .i64 0)] s_28).bind fun t_34 =>
 j_32 t_34 s_28)
 (j_32 (.bool false) s_28)))
 (fun j_29 =>
 aCase t_26
 ((rd1 D.G (.pptr cs_3 4) s_10).bind fun t_35 =>
 (rd1 D.G (.pptr cs_3 4) s_10).bind fun t_36 =>
 (bin .eql .num t_35 t_36).bind fun t_37 =>
 j_29 t_37 s_10)
 (j_29 (.bool false) s_10)))
 ((bin .eql .num t_7 (.int .i64 25)).bind fun t_38 =>
 aCase t_38
 ((bin .eql .num t_5 (.int .i64 0)).bind fun t_39 =>
 jn 1 (fun t_40 s_41 =>
 jn 1 (fun t_43 s_44 =>
 some (t_43, s_44))
 (fun j_45 =>
 aCase t_40
 ((rdN 8 (.pptr cs_3 0) s_41).bind fun t_46 =>
 (callV D 54 [(.agg t_46), (.bool false), (.bool false), (.bool false), (.bool true), (.int .i64 0)] s_41).bind fun t_47 =>
 j_45 t_47 s_41)
 (j_45 (.bool false) s_41)))
 (fun j_42 =>
 aCase t_39
 ((rd1 D.G (.pptr cs_3 5) s_10).bind fun t_48 =>
 (lenV .str t_48 s_10).bind fun t_49 =>
 (bin .leq .num t_49 (.int .i64 4000)).bind fun t_50 =>
 j_42 t_50 s_10)
 (j_42 (.bool false) s_10)))
 ((bin .eql .num t_7 (.int .i64 26)).bind fun t_51 =>
 jn 1 (fun t_52 s_53 =>
 aCase t_52
 ((bin .eql .num t_5 (.int .i64 0)).bind fun t_55 =>
 jn 1 (fun t_56 s_57 =>
 some (t_56, s_57))
 (fun j_58 =>
 aCase t_55
 ((rdN 8 (.pptr cs_3 0) s_53).bind fun t_59 =>
 (callV D 54 [(.agg t_59), (.bool false), (.bool false), (.bool false), (.bool false), (.int .i64 1)] s_53).bind fun t_60 =>
 j_58 t_60 s_53)
 (j_58 (.bool false) s_53)))
 ((bin .eql .num t_7 (.int .i64 28)).bind fun t_61 =>
 aCase t_61
 ((bin .eql .num t_5 (.int .i64 0)).bind fun t_62 =>
 jn 1 (fun t_63 s_64 =>
 jn 1 (fun t_66 s_67 =>
 jn 1 (fun t_69 s_70 =>
 some (t_69, s_70))
 (fun j_71 =>
 aCase t_66
 ((rdN 8 (.pptr cs_3 0) s_67).bind fun t_72 =>
 (callV D 54 [(.agg t_72), (.bool false), (.bool true), (.bool false), (.bool false), (.int .i64 0)] s_67).bind fun t_73 =>
 j_71 t_73 s_67)
 (j_71 (.bool false) s_67)))
 (fun j_68 =>
 aCase t_63
 ((rd1 D.G (.pptr cs_3 3) s_64).bind fun t_74 =>
 (bin .lss .num t_74 (.int .i64 15)).bind fun t_75 =>
 j_68 t_75 s_64)
 (j_68 (.bool false) s_64)))
 (fun j_65 =>
 aCase t_62
 ((rd1 D.G (.pptr cs_3 3) s_53).bind fun t_76 =>
 (bin .geq .num t_76 (.int .i64 0)).bind fun t_77 =>
 j_65 t_77 s_53)
 (j_65 (.bool false) s_53)))
 ((bin .eql .num t_7 (.int .i64 29)).bind fun t_78 =>
 jn 1 (fun t_79 s_80 =>
 aCase t_79
 ((bin .eql .num t_5 (.int .i64 2)).bind fun t_82 =>
 jn 1 (fun t_83 s_84 =>
 jn 1 (fun t_86 s_87 =>
 some (t_86, s_87))
 (fun j_88 =>
 aCase t_83
 ((rdN 8 (.pptr cs_3 0) s_84).bind fun t_89 =>
 (callV D 54 [(.agg t_89), (.bool false), (.bool false), (.bool false), (.bool false), (.int .i64 0)] s_84).bind fun t_90 =>
 j_88 t_90 s_84)
 (j_88 (.bool false) s_84)))
 (fun j_85 =>
 aCase t_82
 (j_85 t_6 s_80)
 (j_85 (.bool false) s_80)))
 ((bin .eql .num t_7 (.int .i64 31)).bind fun t_91 =>
 aCase t_91
 ((bin .eql .num t_5 (.int .i64 1)).bind fun t_92 =>
 jn 1 (fun t_93 s_94 =>
 jn 1 (fun t_96 s_97 =>
 jn 1 (fun t_99 s_100 =>
 jn 1 (fun t_102 s_103 =>
 some (t_102, s_103))
 (fun j_104 =>
 aCase t_99
 ((rdN 8 (.pptr cs_3 0) s_100).bind fun t_105 =>
 (callV D 54 [(.agg t_105), (.bool true), (.bool false), (.bool false), (.bool false), (.int .i64 0)] s_100).bind fun t_106 =>
 j_104 t_106 s_100)
 (j_104 (.bool false) s_100)))
 (fun j_101 =>
 aCase t_96
 ((rd1 D.G (.pptr cs_3 2) s_97).bind fun t_107 =>
 (bin .leq .num t_107 (.int .i64 22)).bind fun t_108 =>
 j_101 t_108 s_97)
 (j_101 (.bool false) s_97)))
 (fun j_98 =>
 aCase t_93
 ((rd1 D.G (.pptr cs_3 2) s_94).bind fun t_109 =>
 (bin .geq .num t_109 (.int .i64 19)).bind fun t_110 =>
 j_98 t_110 s_94)
 (j_98 (.bool false) s_94)))
 (fun j_95 =>
 aCase t_92
 (j_95 t_6 s_80)
 (j_95 (.bool false) s_80)))
 ((bin .eql .num t_7 (.int .i64 32)).bind fun t_111 =>
 aCase t_111
 ((bin .eql .num t_5 (.int .i64 2)).bind fun t_112 =>
 jn 1 (fun t_113 s_114 =>
 jn 1 (fun t_116 s_117 =>
 jn 1 (fun t_119 s_120 =>
 jn 1 (fun t_122 s_123 =>
 some (t_122, s_123))
 (fun j_124 =>
 aCase t_119
 ((rdN 8 (.pptr cs_3 0) s_120).bind fun t_125 =>
 (callV D 54 [(.agg t_125), (.bool true), (.bool false), (.bool false), (.bool false), (.int .i64 0)] s_120).bind fun t_126 =>
 j_124 t_126 s_120)
 (j_124 (.bool false) s_120)))
 (fun j_121 =>
 aCase t_116
 ((rd1 D.G (.pptr cs_3 2) s_117).bind fun t_127 =>
 (bin .leq .num t_127 (.int .i64 18)).bind fun t_128 =>
 j_121 t_128 s_117)
 (j_121 (.bool false) s_117)))
 (fun j_118 =>
 aCase t_113
 ((rd1 D.G (.pptr cs_3 2) s_114).bind fun t_129 =>
 (bin .geq .num t_129 (.int .i64 1)).bind fun t_130 =>
 j_118 t_130 s_114)
 (j_118 (.bool false) s_114)))
 (fun j_115 =>
 aCase t_112
 (j_115 t_6 s_80)
 (j_115 (.bool false) s_80)))
 ((bin .eql .num t_7 (.int .i64 34)).bind fun t_131 =>
 aCase t_131
 ((bin .geq .num t_5 (.int .i64 1)).bind fun t_132 =>
 jn 1 (fun t_133 s_134 =>
 jn 1 (fun t_136 s_137 =>
 some (t_136, s_137))
 (fun j_138 =>
 aCase t_133
 ((rdN 8 (.pptr cs_3 0) s_134).bind fun t_139 =>
 (callV D 54 [(.agg t_139), (.bool false), (.bool false), (.bool false), (.bool false), (.int .i64 0)] s_134).bind fun t_140 =>
 j_138 t_140 s_134)
 (j_138 (.bool false) s_134)))
 (fun j_135 =>
 aCase t_132
 (j_135 t_6 s_80)
 (j_135 (.bool false) s_80)))
 ((bin .eql .num t_7 (.int .i64 35)).bind fun t_141 =>
 aCase t_141
 ((rd1 D.G (.pptr cs_3 2) s_80).bind fun t_142 =>
 (bin .eql .num t_142 (.int .i64 0)).bind fun t_143 =>
 jn 1 (fun t_144 s_145 =>
 (bin .rem .num t_5 (.int .i64 2)).bind fun t_147 =>
 (bin .eql .num t_147 (.int .i64 0)).bind fun t_148 =>
 jn 1 (fun t_149 s_150 =>
 jn 1 (fun t_152 s_153 =>
 jn 1 (fun t_155 s_156 =>
 some (t_155, s_156))
 (fun j_157 =>
 aCase t_152
 ((rdN 8 (.pptr cs_3 0) s_153).bind fun t_158 =>
 (callV D 54 [(.agg t_158), (.bool true), (.bool false), (.bool false), (.bool false), (.int .i64 0)] s_153).bind fun t_159 =>
 j_157 t_159 s_153)
 (j_157 (.bool false) s_153)))
 (fun j_154 =>
 aCase t_149
 (j_154 t_144 s_150)
 (j_154 (.bool false) s_150)))
 (fun j_151 =>
 aCase t_148
 (j_151 t_6 s_145)
 (j_151 (.bool false) s_145)))
 (fun j_146 =>
 aCase t_143
 (j_146 (.bool true) s_80)
 ((rd1 D.G (.pptr cs_3 2) s_80).bind fun t_160 =>
 (bin .eql .num t_160 (.int .i64 1)).bind fun t_161 =>
 jn 1 (fun t_162 s_163 =>
 jn 1 (fun t_165 s_166 =>
 jn 1 (fun t_168 s_169 =>
 j_146 t_168 s_169)
 (fun j_170 =>
 aCase t_165
 ((bin .sub .num t_5 (.int .i64 1)).bind fun t_171 =>
 (callV D 53 [a0, a1, t_171] s_166).bind fun t_172 =>
 (callV D 57 [t_172] s_166).bind fun t_173 =>
 j_170 t_173 s_166)
 (j_170 (.bool false) s_166)))
 (fun j_167 =>
 aCase t_162
 ((bin .sub .num t_5 (.int .i64 2)).bind fun t_174 =>
 (callV D 53 [a0, a1, t_174] s_163).bind fun t_175 =>
 (bin .eql .num t_175 (.int .i64 23)).bind fun t_176 =>
 j_167 t_176 s_163)
 (j_167 (.bool false) s_163)))
 (fun j_164 =>
 aCase t_161
 ((bin .geq .num t_5 (.int .i64 2)).bind fun t_177 =>
 j_164 t_177 s_80)
 (j_164 (.bool false) s_80)))))
 ((bin .eql .num t_7 (.int .i64 38)).bind fun t_178 =>
 aCase t_178
 ((bin .eql .num t_5 (.int .i64 1)).bind fun t_179 =>
 jn 1 (fun t_180 s_181 =>
 jn 1 (fun t_183 s_184 =>
 some (t_183, s_184))
 (fun j_185 =>
 aCase t_180
 ((rdN 8 (.pptr cs_3 0) s_181).bind fun t_186 =>
 (callV D 54 [(.agg t_186), (.bool false), (.bool false), (.bool false), (.bool false), (.int .i64 0)] s_181).bind fun t_187 =>
 j_185 t_187 s_181)
 (j_185 (.bool false) s_181)))
 (fun j_182 =>
 aCase t_179
 ((callV D 53 [a0, a1, (.int .i64 0)] s_80).bind fun t_188 =>
 (callV D 57 [t_188] s_80).bind fun t_189 =>
 j_182 t_189 s_80)
 (j_182 (.bool false) s_80)))
 (some ((.bool false), s_80))))))))
 (fun k_81 =>
 aCase t_78
 (k_81 t_78 s_53)
 ((bin .eql .num t_7 (.int .i64 30)).bind fun t_190 =>
 jn 1 (fun t_191 s_192 =>
 k_81 t_191 s_192)
 (fun k_193 =>
 aCase t_190
 (k_193 t_190 s_53)
 ((bin .eql .num t_7 (.int .i64 33)).bind fun t_194 =>
 k_193 t_194 s_53)))))))
 (fun k_54 =>
 aCase t_51
 (k_54 t_51 s_10)
 ((bin .eql .num t_7 (.int .i64 27)).bind fun t_195 =>
 jn 1 (fun t_196 s_197 =>
 k_54 t_196 s_197)
 (fun k_198 =>
 aCase t_195
 (k_198 t_195 s_10)
 ((bin .eql .num t_7 (.int .i64 36)).bind fun t_199 =>
 k_198 t_199 s_10)))))))))
 (fun k_11 =>
 aCase t_8
 (k_11 t_8 σ)
 ((bin .eql .num t_7 (.int .i64 21)).bind fun t_200 =>
 jn 1 (fun t_201 s_202 =>
 k_11 t_201 s_202)
 (fun k_203 =>
 aCase t_200
 (k_203 t_200 σ)
 ((bin .eql .num t_7 (.int .i64 22)).bind fun t_204 =>
 jn 1 (fun t_205 s_206 =>
 k_203 t_205 s_206)
 (fun k_207 =>
 aCase t_204
 (k_207 t_204 σ)
 ((bin .eql .num t_7 (.int .i64 37)).bind fun t_208 =>
 k_207 t_208 σ))))))
theorem sh_q34_eq (D : Ctx) (a0 a1 : AV) (σ : Store) : runFn D ir_q34 [a0, a1] σ = sh_q34 D a0 a1 σ := by kernel_rfl
def ir_q35 : IFn := ⟨[.tmp 8],
.rs (ops [(4,.pbox 0),
(5,.pbox 1),
(8,.mv (.c (.bool false)))]) (
.seq (.rs (ops [(15,.mv 3),
(16,.fadd 2 4),
(17,.load false 1 16),
(18,.bin .lss .num 15 17)]) (
.cond 18 none (.rs (ops [(8,.mv (.c (.bool true)))]) (
.ret)) (.skip))) (
.rs (ops [(19,.mv 2),
(9,.mv 19)]) (
.seq (.rs (ops [(20,.fadd 0 5),
(21,.load false 1 20),
(22,.mv 2),
(23,.idx 1 21 22),
(24,.load false 1 23),
(10,.mv 24)]) (
.block 0 (some ⟨[], []⟩) (
.loop ⟨[9, 10], []⟩ (
.seq (.rs (ops [(25,.mv 10),
(26,.bin .geq .num 25 (Cn 0))]) (
.cond 26 none (.skip) (.exit 0))) (
.seq (.block 1 none (
.rs (ops [(32,.fadd 6 4),
(33,.load false 1 32),
(34,.mv 10),
(35,.idx 8 33 34),
(36,.load true 8 35),
(11,.zalloc [(.int .i64 0), (.int .i64 0), (.int .i64 0), (.int .i64 0), (.flt 0), (.str ⟨#[]⟩), .nilslice, .nilslice])] (
.op none (.store true 8 11 36) (
.freeze 11 (
.done)))) (
.rs (ops [(37,.fadd 7 11),
(38,.load false 1 37),
(39,.mv 9),
(40,.callV 58 [38, 39]),
(12,.mv 40)]) (
.seq (.rs (ops [(41,.fadd 0 11),
(42,.load false 1 41),
(43,.bin .eql .num 42 (Cn 1))]) (
.cond 43 (some ⟨[], []⟩) (.rs (ops [(13,.mv (Cn 0))]) (
.block 2 (some ⟨[], []⟩) (
.loop ⟨[13], []⟩ (
.seq (.rs (ops [(44,.mv 13),
(45,.mv 12),
(46,.bin .lss .num 44 45)]) (
.cond 46 none (.skip) (.exit 2))) (
.seq (.block 3 none (
.seq (.drw (.row 49 (.fadd 6 4) (
.row 50 (.load false 1 49) (
.row 51 (.fadd 7 11) (
.row 52 (.load false 1 51) (
.row 53 (.mv 13) (
.row 54 (.idx 1 52 53) (
.row 55 (.load false 1 54) (
.row 56 (.idx 8 50 55) (
.row 57 (.load true 8 56) (
.done)))))))))) [] [(14, [(.int .i64 0), (.int .i64 0), (.int .i64 0), (.int .i64 0), (.flt 0), (.str ⟨#[]⟩), .nilslice, .nilslice])] (.op none (.store true 8 14 57) (
.freeze 14 (
.done)))) (
.rs (ops [(58,.fadd 0 14),
(59,.load false 1 58),
(60,.bin .eql .num 59 (Cn 2)),
(61,.mv 60)] (
.dia 61 (
.gop 61 true (some 62) (.load true 8 14) (
.gop 61 true (some 63) (.mv 3) (
.gop 61 true (some 64) (.callV 59 [62, 63]) (
.done)))) 65 61 64 (.c (.bool false)) none (
.done))) (
.cond 65 none (.rs (ops [(8,.mv (.c (.bool true)))]) (
.ret)) (.skip))))) (
.reg (ops [(47,.mv 13),
(48,.bin .add .num 47 (Cn 1)),
(13,.mv 48)]))))))) (.skip))) (
.seq (.rs (ops [(66,.fadd 0 11),
(67,.load false 1 66),
(68,.bin .eql .num 67 (Cn 7)),
(69,.mv 68)] (
.dia 69 (
.gop 69 false (some 70) (.fadd 0 11) (
.gop 69 false (some 71) (.load false 1 70) (
.gop 69 false (some 72) (.bin .eql .num 71 (Cn 8)) (
.done)))) 73 69 (.c (.bool true)) 72 none (
 ops [(74,.mv 73)] (
.dia 74 (
.gop 74 false (some 75) (.fadd 0 11) (
.gop 74 false (some 76) (.load false 1 75) (
.gop 74 false (some 77) (.bin .eql .num 76 (Cn 12)) (
.done)))) 78 74 (.c (.bool true)) 77 none (
 ops [(79,.mv 78)] (
.dia 79 (
.gop 79 true (some 80) (.mv 12) (
.gop 79 true (some 81) (.fadd 7 11) (
.gop 79 true (some 82) (.load false 1 81) (
.gop 79 true (some 83) (.len .sl 82) (
.gop 79 true (some 84) (.bin .sub .num 83 (Cn 1)) (
.gop 79 true (some 85) (.bin .eql .num 80 84) (
.done))))))) 86 79 85 (.c (.bool false)) none (
 ops [(87,.mv 86)] (
.dia 87 (
.gop 87 true (some 88) (.load true 8 11) (
.gop 87 true (some 89) (.mv 3) (
.gop 87 true (some 90) (.callV 59 [88, 89]) (
.done)))) 91 87 90 (.c (.bool false)) none (
.done))))))))) (
.cond 91 none (.rs (ops [(8,.mv (.c (.bool true)))]) (
.ret)) (.skip))) (
.reg (ops [(92,.mv 10),
(9,.mv 92)]))))))) (
.reg (ops [(27,.fadd 0 5),
(28,.load false 1 27),
(29,.mv 10),
(30,.idx 1 28 29),
(31,.load false 1 30),
(10,.mv 31)]))))))) (
.rs (ops [(8,.mv (.c (.bool false)))]) (
.ret)))))⟩
noncomputable def lp_q35_1 (D : Ctx) (t_18 : AV) (a0 : AV) (cs_16 : List AV) (a3 : AV) (k_51 : Cur 0) : Cur 1 → Cur 1 :=
 fun go_54 i_52 s_53 =>
 (bin .lss .num i_52 t_18).bind fun t_55 =>
 aCase t_55
 ((rd1 D.G (.pptr (AV.cells a0) 6) s_53).bind fun t_56 =>
 (rd1 D.G (.pptr cs_16 7) s_53).bind fun t_57 =>
 (idx 1 t_57 i_52).bind fun t_58 =>
 (rd1 D.G t_58 s_53).bind fun t_59 =>
 (idx 8 t_56 t_59).bind fun t_60 =>
 (rdN 8 t_60 s_53).bind fun t_61 =>
 (asplit 8 (.agg t_61)).bind fun cs_62 =>
 (rd1 D.G (.pptr cs_62 0) s_53).bind fun t_63 =>
 (bin .eql .num t_63 (.int .i64 2)).bind fun t_64 =>
 jn 1 (fun t_65 s_66 =>
 aCase t_65
 (some ((.bool true), s_66))
 ((bin .add .num i_52 (.int .i64 1)).bind fun t_68 =>
 go_54 t_68 s_66))
 (fun j_67 =>
 aCase t_64
 ((rdN 8 (.pptr cs_62 0) s_53).bind fun t_69 =>
 (callV D 59 [(.agg t_69), a3] s_53).bind fun t_70 =>
 j_67 t_70 s_53)
 (j_67 (.bool false) s_53)))
 (k_51  s_53)
theorem lp_q35_1_le {D : Ctx} (x0 x1 x2 x3 k4) {k4'} (hk4 : Cle k4 k4') {u u'} (h : Cle u u') : Cle (lp_q35_1 D x0 x1 x2 x3 k4 u) (lp_q35_1 D x0 x1 x2 x3 k4' u') := by
 unfold lp_q35_1
 repeat (first
  | with_reducible refine Ole.bindr fun _ => ?_
  | with_reducible refine Ole.aCase ?_ ?_
  | refine Ole.jn ?_ (fun _ _ _ => ?_)
  | refine Cle.succ fun _ => ?_
  | refine Cle.zero fun _ => ?_
  | exact Cle.use0 (by assumption)
  | exact Cle.use1 (by assumption)
  | with_reducible exact Ole.refl _)
theorem lp_q35_1_mono (D x0 x1 x2 x3 k4) : Mono (lp_q35_1 D x0 x1 x2 x3 k4) := fun _ _ => lp_q35_1_le _ _ _ _ _ (Cle.refl _)
noncomputable def lp_q35_2 (D : Ctx) (a0 : AV) (a1 : AV) (a3 : AV) (k_7 : Cur 0) : Cur 2 → Cur 2 :=
 fun go_11 below_8 up_9 s_10 =>
 (bin .geq .num up_9 (.int .i64 0)).bind fun t_12 =>
 aCase t_12
 ((rd1 D.G (.pptr (AV.cells a0) 6) s_10).bind fun t_13 =>
 (idx 8 t_13 up_9).bind fun t_14 =>
 (rdN 8 t_14 s_10).bind fun t_15 =>
 (asplit 8 (.agg t_15)).bind fun cs_16 =>
 (rd1 D.G (.pptr cs_16 7) s_10).bind fun t_17 =>
 (callV D 58 [t_17, below_8] s_10).bind fun t_18 =>
 (rd1 D.G (.pptr cs_16 0) s_10).bind fun t_19 =>
 (bin .eql .num t_19 (.int .i64 1)).bind fun t_20 =>
 jn 0 (fun  s_21 =>
 (rd1 D.G (.pptr cs_16 0) s_21).bind fun t_23 =>
 (bin .eql .num t_23 (.int .i64 7)).bind fun t_24 =>
 jn 1 (fun t_25 s_26 =>
 jn 1 (fun t_28 s_29 =>
 jn 1 (fun t_31 s_32 =>
 jn 1 (fun t_34 s_35 =>
 aCase t_34
 (some ((.bool true), s_35))
 ((rd1 D.G (.pptr (AV.cells a1) 0) s_35).bind fun t_37 =>
 (idx 1 t_37 up_9).bind fun t_38 =>
 (rd1 D.G t_38 s_35).bind fun t_39 =>
 go_11 up_9 t_39 s_35))
 (fun j_36 =>
 aCase t_31
 ((rdN 8 (.pptr cs_16 0) s_32).bind fun t_40 =>
 (callV D 59 [(.agg t_40), a3] s_32).bind fun t_41 =>
 j_36 t_41 s_32)
 (j_36 (.bool false) s_32)))
 (fun j_33 =>
 aCase t_28
 ((rd1 D.G (.pptr cs_16 7) s_29).bind fun t_42 =>
 (lenV .sl t_42 s_29).bind fun t_43 =>
 (bin .sub .num t_43 (.int .i64 1)).bind fun t_44 =>
 (bin .eql .num t_18 t_44).bind fun t_45 =>
 j_33 t_45 s_29)
 (j_33 (.bool false) s_29)))
 (fun j_30 =>
 aCase t_25
 (j_30 (.bool true) s_26)
 ((rd1 D.G (.pptr cs_16 0) s_26).bind fun t_46 =>
 (bin .eql .num t_46 (.int .i64 12)).bind fun t_47 =>
 j_30 t_47 s_26)))
 (fun j_27 =>
 aCase t_24
 (j_27 (.bool true) s_21)
 ((rd1 D.G (.pptr cs_16 0) s_21).bind fun t_48 =>
 (bin .eql .num t_48 (.int .i64 8)).bind fun t_49 =>
 j_27 t_49 s_21)))
 (fun k_22 =>
 aCase t_20
 (jn 0 (fun  s_50 =>
 k_22  s_50)
 (fun k_51 =>
 lpFix 1 (lp_q35_1 D t_18 a0 cs_16 a3 k_51) (.int .i64 0) s_10))
 (k_22  s_10)))
 (k_7  s_10)
theorem lp_q35_2_le {D : Ctx} (x0 x1 x2 k3) {k3'} (hk3 : Cle k3 k3') {u u'} (h : Cle u u') : Cle (lp_q35_2 D x0 x1 x2 k3 u) (lp_q35_2 D x0 x1 x2 k3' u') := by
 unfold lp_q35_2
 repeat (first
  | with_reducible refine Ole.bindr fun _ => ?_
  | with_reducible refine Ole.aCase ?_ ?_
  | refine Ole.jn ?_ (fun _ _ _ => ?_)
  | refine Cle.succ fun _ => ?_
  | refine Cle.zero fun _ => ?_
  | exact Cle.use0 (by assumption)
  | exact Cle.use1 (by assumption)
  | exact Cle.use2 (by assumption)
  | exact Cle.use1 (lpFix_mono (lp_q35_1_mono _ _ _ _ _ _) (lp_q35_1_mono _ _ _ _ _ _) fun _ => lp_q35_1_le _ _ _ _ _ (by first | assumption | exact Cle.refl _) (Cle.refl _))
  | with_reducible exact Ole.refl _)
theorem lp_q35_2_mono (D x0 x1 x2 k3) : Mono (lp_q35_2 D x0 x1 x2 k3) := fun _ _ => lp_q35_2_le _ _ _ _ (Cle.refl _)
noncomputable def sh_q35 (D : Ctx) (a0 a1 a2 a3 : AV) (σ : Store) : Res :=
 (rd1 D.G (.pptr (AV.cells a0) 2) σ).bind fun t_1 =>
 (bin .lss .num a3 t_1).bind fun t_2 =>
 aCase t_2
 (some ((.bool true), σ))
 ((rd1 D.G (.pptr (AV.cells a1) 0) σ).bind fun t_3 =>
 (idx 1 t_3 a2).bind fun t_4 =>
 (rd1 D.G t_4 σ).bind fun t_5 =>
 jn 0 (fun  s_6 =>
 some ((.bool false), s_6))
 (fun k_7 =>
 lpFix 2 (lp_q35_2 D a0 a1 a3 k_7) a2 t_5 σ))
theorem sh_q35_eq (D : Ctx) (a0 a1 a2 a3 : AV) (σ : Store) : runFn D ir_q35 [a0, a1, a2, a3] σ = sh_q35 D a0 a1 a2 a3 σ := by kernel_rfl
def ir_q36 : IFn := ⟨[.tmp 2],
.rs (ops [(2,.mv (.c .nilslice))]) (
.rs (ops [(5,.mv 0),
(6,.len .sl 5),
(7,.mkSlice [(.str ⟨#[]⟩)] 6),
(3,.mv 7)]) (
.seq (.rs (ops [(4,.mv (Cn 0))]) (
.block 0 (some ⟨[], []⟩) (
.loop ⟨[4], []⟩ (
.seq (.rs (ops [(8,.mv 4),
(9,.mv 0),
(10,.len .sl 9),
(11,.bin .lss .num 8 10)]) (
.cond 11 none (.skip) (.exit 0))) (
.seq (.block 1 none (
.reg (ops [(14,.mv 3),
(15,.mv 4),
(16,.mv 0),
(17,.mv 4),
(18,.idx 1 16 17),
(19,.load false 1 18),
(20,.idx 1 14 15)] (
.op none (.store false 1 20 19) (
.done))))) (
.reg (ops [(12,.mv 4),
(13,.bin .add .num 12 (Cn 1)),
(4,.mv 13)]))))))) (
.rs (ops [(21,.mv 3),
(2,.mv 21)]) (
.ret))))⟩
noncomputable def lp_q36_1 (D : Ctx) (a0 : AV) (t_2 : AV × Store) (k_4 : Cur 0) : Cur 1 → Cur 1 :=
 fun go_7 i_5 s_6 =>
 (lenV .sl a0 s_6).bind fun t_8 =>
 (bin .lss .num i_5 t_8).bind fun t_9 =>
 aCase t_9
 ((idx 1 a0 i_5).bind fun t_10 =>
 (rd1 D.G t_10 s_6).bind fun t_11 =>
 (idx 1 t_2.1 i_5).bind fun t_12 =>
 (one t_11).bind fun o_13 =>
 (wr t_12 [o_13] s_6).bind fun s_14 =>
 (bin .add .num i_5 (.int .i64 1)).bind fun t_15 =>
 go_7 t_15 s_14)
 (k_4  s_6)
theorem lp_q36_1_le {D : Ctx} (x0 x1 k2) {k2'} (hk2 : Cle k2 k2') {u u'} (h : Cle u u') : Cle (lp_q36_1 D x0 x1 k2 u) (lp_q36_1 D x0 x1 k2' u') := by
 unfold lp_q36_1
 repeat (first
  | with_reducible refine Ole.bindr fun _ => ?_
  | with_reducible refine Ole.aCase ?_ ?_
  | refine Cle.succ fun _ => ?_
  | refine Cle.zero fun _ => ?_
  | exact Cle.use0 (by assumption)
  | exact Cle.use1 (by assumption)
  | with_reducible exact Ole.refl _)
theorem lp_q36_1_mono (D x0 x1 k2) : Mono (lp_q36_1 D x0 x1 k2) := fun _ _ => lp_q36_1_le _ _ _ (Cle.refl _)
noncomputable def sh_q36 (D : Ctx) (a0 : AV) (σ : Store) : Res :=
 (lenV .sl a0 σ).bind fun t_1 =>
 (mkSlice [(.str ⟨#[]⟩)] t_1 σ).bind fun t_2 =>
 jn 0 (fun  s_3 =>
 some (t_2.1, s_3))
 (fun k_4 =>
 lpFix 1 (lp_q36_1 D a0 t_2 k_4) (.int .i64 0) t_2.2)
theorem sh_q36_eq (D : Ctx) (a0 : AV) (σ : Store) : runFn D ir_q36 [a0] σ = sh_q36 D a0 σ := by kernel_rfl
def ir_q37 : IFn := ⟨[.tmp 2],
.rs (ops [(2,.mv (.c .nilslice))]) (
.rs (ops [(5,.mv 0),
(6,.len .sl 5),
(7,.mkSlice [(.bool false), (.int .i64 0)] 6),
(3,.mv 7)]) (
.seq (.rs (ops [(4,.mv (Cn 0))]) (
.block 0 (some ⟨[], []⟩) (
.loop ⟨[4], []⟩ (
.seq (.rs (ops [(8,.mv 4),
(9,.mv 0),
(10,.len .sl 9),
(11,.bin .lss .num 8 10)]) (
.cond 11 none (.skip) (.exit 0))) (
.seq (.block 1 none (
.reg (ops [(14,.mv 3),
(15,.mv 4),
(16,.mv 0),
(17,.mv 4),
(18,.idx 2 16 17),
(19,.load true 2 18),
(20,.callV 60 [19]),
(21,.idx 2 14 15)] (
.op none (.store true 2 21 20) (
.done))))) (
.reg (ops [(12,.mv 4),
(13,.bin .add .num 12 (Cn 1)),
(4,.mv 13)]))))))) (
.rs (ops [(22,.mv 3),
(2,.mv 22)]) (
.ret))))⟩
noncomputable def lp_q37_1 (D : Ctx) (a0 : AV) (t_2 : AV × Store) (k_4 : Cur 0) : Cur 1 → Cur 1 :=
 fun go_7 i_5 s_6 =>
 (lenV .sl a0 s_6).bind fun t_8 =>
 (bin .lss .num i_5 t_8).bind fun t_9 =>
 aCase t_9
 ((idx 2 a0 i_5).bind fun t_10 =>
 (rdN 2 t_10 s_6).bind fun t_11 =>
 (callV D 60 [(.agg t_11)] s_6).bind fun t_12 =>
 (idx 2 t_2.1 i_5).bind fun t_13 =>
 (asplit 2 t_12).bind fun cs_14 =>
 (wr t_13 cs_14 s_6).bind fun s_15 =>
 (bin .add .num i_5 (.int .i64 1)).bind fun t_16 =>
 go_7 t_16 s_15)
 (k_4  s_6)
theorem lp_q37_1_le {D : Ctx} (x0 x1 k2) {k2'} (hk2 : Cle k2 k2') {u u'} (h : Cle u u') : Cle (lp_q37_1 D x0 x1 k2 u) (lp_q37_1 D x0 x1 k2' u') := by
 unfold lp_q37_1
 repeat (first
  | with_reducible refine Ole.bindr fun _ => ?_
  | with_reducible refine Ole.aCase ?_ ?_
  | refine Cle.succ fun _ => ?_
  | refine Cle.zero fun _ => ?_
  | exact Cle.use0 (by assumption)
  | exact Cle.use1 (by assumption)
  | with_reducible exact Ole.refl _)
theorem lp_q37_1_mono (D x0 x1 k2) : Mono (lp_q37_1 D x0 x1 k2) := fun _ _ => lp_q37_1_le _ _ _ (Cle.refl _)
noncomputable def sh_q37 (D : Ctx) (a0 : AV) (σ : Store) : Res :=
 (lenV .sl a0 σ).bind fun t_1 =>
 (mkSlice [(.bool false), (.int .i64 0)] t_1 σ).bind fun t_2 =>
 jn 0 (fun  s_3 =>
 some (t_2.1, s_3))
 (fun k_4 =>
 lpFix 1 (lp_q37_1 D a0 t_2 k_4) (.int .i64 0) t_2.2)
theorem sh_q37_eq (D : Ctx) (a0 : AV) (σ : Store) : runFn D ir_q37 [a0] σ = sh_q37 D a0 σ := by kernel_rfl
def ir_q38 : IFn := ⟨[.tmp 2],
.rs (ops [(2,.mv (.c .nilslice))]) (
.rs (ops [(5,.mv 0),
(6,.len .sl 5),
(7,.mkSlice [(.int .i64 0), (.int .i64 0), (.int .i64 0), (.int .i64 0), (.flt 0), (.str ⟨#[]⟩), .nilslice, .nilslice] 6),
(3,.mv 7)]) (
.seq (.rs (ops [(4,.mv (Cn 0))]) (
.block 0 (some ⟨[], []⟩) (
.loop ⟨[4], []⟩ (
.seq (.rs (ops [(8,.mv 4),
(9,.mv 0),
(10,.len .sl 9),
(11,.bin .lss .num 8 10)]) (
.cond 11 none (.skip) (.exit 0))) (
.seq (.block 1 none (
.reg (ops [(14,.mv 3),
(15,.mv 4),
(16,.mv 0),
(17,.mv 4),
(18,.idx 8 16 17),
(19,.load true 8 18),
(20,.callP 61 [19]),
(21,.idx 8 14 15)] (
.op none (.store true 8 21 20) (
.done))))) (
.reg (ops [(12,.mv 4),
(13,.bin .add .num 12 (Cn 1)),
(4,.mv 13)]))))))) (
.rs (ops [(22,.mv 3),
(2,.mv 22)]) (
.ret))))⟩
noncomputable def lp_q38_1 (D : Ctx) (a0 : AV) (t_2 : AV × Store) (k_4 : Cur 0) : Cur 1 → Cur 1 :=
 fun go_7 i_5 s_6 =>
 (lenV .sl a0 s_6).bind fun t_8 =>
 (bin .lss .num i_5 t_8).bind fun t_9 =>
 aCase t_9
 ((idx 8 a0 i_5).bind fun t_10 =>
 (rdN 8 t_10 s_6).bind fun t_11 =>
 (callP D 61 [(.agg t_11)]).bind fun t_12 =>
 (idx 8 t_2.1 i_5).bind fun t_13 =>
 (asplit 8 t_12).bind fun cs_14 =>
 (wr t_13 cs_14 s_6).bind fun s_15 =>
 (bin .add .num i_5 (.int .i64 1)).bind fun t_16 =>
 go_7 t_16 s_15)
 (k_4  s_6)
theorem lp_q38_1_le {D : Ctx} (x0 x1 k2) {k2'} (hk2 : Cle k2 k2') {u u'} (h : Cle u u') : Cle (lp_q38_1 D x0 x1 k2 u) (lp_q38_1 D x0 x1 k2' u') := by
 unfold lp_q38_1
 repeat (first
  | with_reducible refine Ole.bindr fun _ => ?_
  | with_reducible refine Ole.aCase ?_ ?_
  | refine Cle.succ fun _ => ?_
  | refine Cle.zero fun _ => ?_
  | exact Cle.use0 (by assumption)
  | exact Cle.use1 (by assumption)
  | with_reducible exact Ole.refl _)
theorem lp_q38_1_mono (D x0 x1 k2) : Mono (lp_q38_1 D x0 x1 k2) := fun _ _ => lp_q38_1_le _ _ _ (Cle.refl _)
noncomputable def sh_q38 (D : Ctx) (a0 : AV) (σ : Store) : Res :=
 (lenV .sl a0 σ).bind fun t_1 =>
 (mkSlice [(.int .i64 0), (.int .i64 0), (.int .i64 0), (.int .i64 0), (.flt 0), (.str ⟨#[]⟩), .nilslice, .nilslice] t_1 σ).bind fun t_2 =>
 jn 0 (fun  s_3 =>
 some (t_2.1, s_3))
 (fun k_4 =>
 lpFix 1 (lp_q38_1 D a0 t_2 k_4) (.int .i64 0) t_2.2)
theorem sh_q38_eq (D : Ctx) (a0 : AV) (σ : Store) : runFn D ir_q38 [a0] σ = sh_q38 D a0 σ := by kernel_rfl
def ir_q39 : IFn := ⟨[.tmp 4],
.rs (ops [(4,.mv (.c (.bool false)))]) (
.seq (.rs (ops [(6,.mv 0),
(7,.len .sl 6),
(8,.mv 1),
(9,.len .sl 8),
(10,.bin .neq .num 7 9)]) (
.cond 10 none (.rs (ops [(4,.mv (.c (.bool false)))]) (
.ret)) (.skip))) (
.seq (.rs (ops [(5,.mv (Cn 0))]) (
.block 0 (some ⟨[], []⟩) (
.loop ⟨[5], []⟩ (
.seq (.rs (ops [(11,.mv 5),
(12,.mv 0),
(13,.len .sl 12),
(14,.bin .lss .num 11 13)]) (
.cond 14 none (.skip) (.exit 0))) (
.seq (.block 1 none (
.seq (.drw (.row 17 (.mv 0) (
.row 18 (.mv 5) (
.row 19 (.idx 1 17 18) (
.row 20 (.load false 1 19) (
.row 21 (.mv 1) (
.row 22 (.mv 5) (
.row 23 (.idx 1 21 22) (
.row 24 (.load false 1 23) (
.row 25 (.bin .neq .num 20 24) (
.done)))))))))) [] [] (.done)) (
.cond 25 none (.rs (ops [(4,.mv (.c (.bool false)))]) (
.ret)) (.skip)))) (
.reg (ops [(15,.mv 5),
(16,.bin .add .num 15 (Cn 1)),
(5,.mv 16)]))))))) (
.rs (ops [(4,.mv (.c (.bool true)))]) (
.ret))))⟩
noncomputable def lp_q39_1 (D : Ctx) (a0 : AV) (a1 : AV) (k_5 : Cur 0) : Cur 1 → Cur 1 :=
 fun go_8 i_6 s_7 =>
 (lenV .sl a0 s_7).bind fun t_9 =>
 (bin .lss .num i_6 t_9).bind fun t_10 =>
 aCase t_10
 ((idx 1 a0 i_6).bind fun t_11 =>
 (rd1 D.G t_11 s_7).bind fun t_12 =>
 (idx 1 a1 i_6).bind fun t_13 =>
 (rd1 D.G t_13 s_7).bind fun t_14 =>
 (bin .neq .num t_12 t_14).bind fun t_15 =>
 aCase t_15
 (some ((.bool false), s_7))
 ((bin .add .num i_6 (.int .i64 1)).bind fun t_16 =>
 go_8 t_16 s_7))
 (k_5  s_7)
theorem lp_q39_1_le {D : Ctx} (x0 x1 k2) {k2'} (hk2 : Cle k2 k2') {u u'} (h : Cle u u') : Cle (lp_q39_1 D x0 x1 k2 u) (lp_q39_1 D x0 x1 k2' u') := by
 unfold lp_q39_1
 repeat (first
  | with_reducible refine Ole.bindr fun _ => ?_
  | with_reducible refine Ole.aCase ?_ ?_
  | refine Cle.succ fun _ => ?_
  | refine Cle.zero fun _ => ?_
  | exact Cle.use0 (by assumption)
  | exact Cle.use1 (by assumption)
  | with_reducible exact Ole.refl _)
theorem lp_q39_1_mono (D x0 x1 k2) : Mono (lp_q39_1 D x0 x1 k2) := fun _ _ => lp_q39_1_le _ _ _ (Cle.refl _)
noncomputable def sh_q39 (D : Ctx) (a0 a1 : AV) (σ : Store) : Res :=
 (lenV .sl a0 σ).bind fun t_1 =>
 (lenV .sl a1 σ).bind fun t_2 =>
 (bin .neq .num t_1 t_2).bind fun t_3 =>
 aCase t_3
 (some ((.bool false), σ))
 (jn 0 (fun  s_4 =>
 some ((.bool true), s_4))
 (fun k_5 =>
 lpFix 1 (lp_q39_1 D a0 a1 k_5) (.int .i64 0) σ))
theorem sh_q39_eq (D : Ctx) (a0 a1 : AV) (σ : Store) : runFn D ir_q39 [a0, a1] σ = sh_q39 D a0 a1 σ := by kernel_rfl
def ir_q40 : IFn := ⟨[.tmp 4],
.rs (ops [(4,.mv (.c (.bool false)))]) (
.seq (.rs (ops [(6,.mv 0),
(7,.len .sl 6),
(8,.mv 1),
(9,.len .sl 8),
(10,.bin .neq .num 7 9)]) (
.cond 10 none (.rs (ops [(4,.mv (.c (.bool false)))]) (
.ret)) (.skip))) (
.seq (.rs (ops [(5,.mv (Cn 0))]) (
.block 0 (some ⟨[], []⟩) (
.loop ⟨[5], []⟩ (
.seq (.rs (ops [(11,.mv 5),
(12,.mv 0),
(13,.len .sl 12),
(14,.bin .lss .num 11 13)]) (
.cond 14 none (.skip) (.exit 0))) (
.seq (.block 1 none (
.seq (.drw (.row 17 (.mv 0) (
.row 18 (.mv 5) (
.row 19 (.idx 2 17 18) (
.row 20 (.load true 2 19) (
.row 21 (.mv 1) (
.row 22 (.mv 5) (
.row 23 (.idx 2 21 22) (
.row 24 (.load true 2 23) (
.row 25 (.callV 62 [20, 24]) (
.row 26 (.un .not 25) (
.done))))))))))) [] [] (.done)) (
.cond 26 none (.rs (ops [(4,.mv (.c (.bool false)))]) (
.ret)) (.skip)))) (
.reg (ops [(15,.mv 5),
(16,.bin .add .num 15 (Cn 1)),
(5,.mv 16)]))))))) (
.rs (ops [(4,.mv (.c (.bool true)))]) (
.ret))))⟩
noncomputable def lp_q40_1 (D : Ctx) (a0 : AV) (a1 : AV) (k_5 : Cur 0) : Cur 1 → Cur 1 :=
 fun go_8 i_6 s_7 =>
 (lenV .sl a0 s_7).bind fun t_9 =>
 (bin .lss .num i_6 t_9).bind fun t_10 =>
 aCase t_10
 ((idx 2 a0 i_6).bind fun t_11 =>
 (rdN 2 t_11 s_7).bind fun t_12 =>
 (idx 2 a1 i_6).bind fun t_13 =>
 (rdN 2 t_13 s_7).bind fun t_14 =>
 (callV D 62 [(.agg t_12), (.agg t_14)] s_7).bind fun t_15 =>
 (un .not t_15).bind fun t_16 =>
 aCase t_16
 (some ((.bool false), s_7))
 ((bin .add .num i_6 (.int .i64 1)).bind fun t_17 =>
 go_8 t_17 s_7))
 (k_5  s_7)
theorem lp_q40_1_le {D : Ctx} (x0 x1 k2) {k2'} (hk2 : Cle k2 k2') {u u'} (h : Cle u u') : Cle (lp_q40_1 D x0 x1 k2 u) (lp_q40_1 D x0 x1 k2' u') := by
 unfold lp_q40_1
 repeat (first
  | with_reducible refine Ole.bindr fun _ => ?_
  | with_reducible refine Ole.aCase ?_ ?_
  | refine Cle.succ fun _ => ?_
  | refine Cle.zero fun _ => ?_
  | exact Cle.use0 (by assumption)
  | exact Cle.use1 (by assumption)
  | with_reducible exact Ole.refl _)
theorem lp_q40_1_mono (D x0 x1 k2) : Mono (lp_q40_1 D x0 x1 k2) := fun _ _ => lp_q40_1_le _ _ _ (Cle.refl _)
noncomputable def sh_q40 (D : Ctx) (a0 a1 : AV) (σ : Store) : Res :=
 (lenV .sl a0 σ).bind fun t_1 =>
 (lenV .sl a1 σ).bind fun t_2 =>
 (bin .neq .num t_1 t_2).bind fun t_3 =>
 aCase t_3
 (some ((.bool false), σ))
 (jn 0 (fun  s_4 =>
 some ((.bool true), s_4))
 (fun k_5 =>
 lpFix 1 (lp_q40_1 D a0 a1 k_5) (.int .i64 0) σ))
theorem sh_q40_eq (D : Ctx) (a0 a1 : AV) (σ : Store) : runFn D ir_q40 [a0, a1] σ = sh_q40 D a0 a1 σ := by kernel_rfl
def ir_q41 : IFn := ⟨[.tmp 4],
.rs (ops [(4,.mv (.c (.bool false)))]) (
.seq (.rs (ops [(6,.mv 0),
(7,.len .sl 6),
(8,.mv 1),
(9,.len .sl 8),
(10,.bin .neq .num 7 9)]) (
.cond 10 none (.rs (ops [(4,.mv (.c (.bool false)))]) (
.ret)) (.skip))) (
.seq (.rs (ops [(5,.mv (Cn 0))]) (
.block 0 (some ⟨[], []⟩) (
.loop ⟨[5], []⟩ (
.seq (.rs (ops [(11,.mv 5),
(12,.mv 0),
(13,.len .sl 12),
(14,.bin .lss .num 11 13)]) (
.cond 14 none (.skip) (.exit 0))) (
.seq (.block 1 none (
.seq (.drw (.row 17 (.mv 0) (
.row 18 (.mv 5) (
.row 19 (.idx 8 17 18) (
.row 20 (.load true 8 19) (
.row 21 (.mv 1) (
.row 22 (.mv 5) (
.row 23 (.idx 8 21 22) (
.row 24 (.load true 8 23) (
.row 25 (.callV 63 [20, 24]) (
.row 26 (.un .not 25) (
.done))))))))))) [] [] (.done)) (
.cond 26 none (.rs (ops [(4,.mv (.c (.bool false)))]) (
.ret)) (.skip)))) (
.reg (ops [(15,.mv 5),
(16,.bin .add .num 15 (Cn 1)),
(5,.mv 16)]))))))) (
.rs (ops [(4,.mv (.c (.bool true)))]) (
.ret))))⟩
noncomputable def lp_q41_1 (D : Ctx) (a0 : AV) (a1 : AV) (k_5 : Cur 0) : Cur 1 → Cur 1 :=
 fun go_8 i_6 s_7 =>
 (lenV .sl a0 s_7).bind fun t_9 =>
 (bin .lss .num i_6 t_9).bind fun t_10 =>
 aCase t_10
 ((idx 8 a0 i_6).bind fun t_11 =>
 (rdN 8 t_11 s_7).bind fun t_12 =>
 (idx 8 a1 i_6).bind fun t_13 =>
 (rdN 8 t_13 s_7).bind fun t_14 =>
 (callV D 63 [(.agg t_12), (.agg t_14)] s_7).bind fun t_15 =>
 (un .not t_15).bind fun t_16 =>
 aCase t_16
 (some ((.bool false), s_7))
 ((bin .add .num i_6 (.int .i64 1)).bind fun t_17 =>
 go_8 t_17 s_7))
 (k_5  s_7)
theorem lp_q41_1_le {D : Ctx} (x0 x1 k2) {k2'} (hk2 : Cle k2 k2') {u u'} (h : Cle u u') : Cle (lp_q41_1 D x0 x1 k2 u) (lp_q41_1 D x0 x1 k2' u') := by
 unfold lp_q41_1
 repeat (first
  | with_reducible refine Ole.bindr fun _ => ?_
  | with_reducible refine Ole.aCase ?_ ?_
  | refine Cle.succ fun _ => ?_
  | refine Cle.zero fun _ => ?_
  | exact Cle.use0 (by assumption)
  | exact Cle.use1 (by assumption)
  | with_reducible exact Ole.refl _)
theorem lp_q41_1_mono (D x0 x1 k2) : Mono (lp_q41_1 D x0 x1 k2) := fun _ _ => lp_q41_1_le _ _ _ (Cle.refl _)
noncomputable def sh_q41 (D : Ctx) (a0 a1 : AV) (σ : Store) : Res :=
 (lenV .sl a0 σ).bind fun t_1 =>
 (lenV .sl a1 σ).bind fun t_2 =>
 (bin .neq .num t_1 t_2).bind fun t_3 =>
 aCase t_3
 (some ((.bool false), σ))
 (jn 0 (fun  s_4 =>
 some ((.bool true), s_4))
 (fun k_5 =>
 lpFix 1 (lp_q41_1 D a0 a1 k_5) (.int .i64 0) σ))
theorem sh_q41_eq (D : Ctx) (a0 a1 : AV) (σ : Store) : runFn D ir_q41 [a0, a1] σ = sh_q41 D a0 a1 σ := by kernel_rfl
def ir_q42 : IFn := ⟨[.tmp 4],
.rs (ops [(2,.pbox 0),
(4,.mv (Cn 0))]) (
.rs (ops [(5,.mv 1),
(6,.fadd 5 2),
(7,.load false 1 6),
(8,.len .str 7),
(9,.bin .sub .num 5 8),
(1,.mv 9)]) (
.seq (.rs (ops [(10,.mv 1),
(11,.bin .lss .num 10 (Cn 0))]) (
.cond 11 none (.rs (ops [(4,.mv (Cn (-1)))]) (
.ret)) (.skip))) (
.rs (ops [(12,.fadd 6 2),
(13,.load false 1 12),
(14,.mv 1),
(15,.callV 64 [13, 14]),
(1,.mv 15)]) (
.seq (.rs (ops [(16,.mv 1),
(17,.bin .lss .num 16 (Cn 0))]) (
.cond 17 none (.rs (ops [(4,.mv (Cn (-1)))]) (
.ret)) (.skip))) (
.rs (ops [(18,.fadd 7 2),
(19,.load false 1 18),
(20,.mv 1),
(21,.callV 64 [19, 20]),
(1,.mv 21)]) (
.seq (.rs (ops [(22,.mv 1),
(23,.bin .lss .num 22 (Cn 0))]) (
.cond 23 none (.rs (ops [(4,.mv (Cn (-1)))]) (
.ret)) (.skip))) (
.rs (ops [(24,.mv 1),
(4,.mv 24)]) (
.ret))))))))⟩
noncomputable def sh_q42 (D : Ctx) (a0 a1 : AV) (σ : Store) : Res :=
 (rd1 D.G (.pptr (AV.cells a0) 5) σ).bind fun t_1 =>
 (lenV .str t_1 σ).bind fun t_2 =>
 (bin .sub .num a1 t_2).bind fun t_3 =>
 (bin .lss .num t_3 (.int .i64 0)).bind fun t_4 =>
 aCase t_4
 (some ((.int .i64 (-1)), σ))
 ((rd1 D.G (.pptr (AV.cells a0) 6) σ).bind fun t_5 =>
 (callV D 64 [t_5, t_3] σ).bind fun t_6 =>
 (bin .lss .num t_6 (.int .i64 0)).bind fun t_7 =>
 aCase t_7
 (some ((.int .i64 (-1)), σ))
 ((rd1 D.G (.pptr (AV.cells a0) 7) σ).bind fun t_8 =>
 (callV D 64 [t_8, t_6] σ).bind fun t_9 =>
 (bin .lss .num t_9 (.int .i64 0)).bind fun t_10 =>
 aCase t_10
 (some ((.int .i64 (-1)), σ))
 (some (t_9, σ))))
theorem sh_q42_eq (D : Ctx) (a0 a1 : AV) (σ : Store) : runFn D ir_q42 [a0, a1] σ = sh_q42 D a0 a1 σ := by kernel_rfl
def ir_q43 : IFn := ⟨[.tmp 6],
.rs (ops [(6,.mv (Cn 0))]) (
.seq (.rs (ops [(8,.mv 2),
(9,.mv 0),
(10,.mv 1),
(11,.idx 8 9 10),
(12,.fadd 7 11),
(13,.load false 1 12),
(14,.len .sl 13),
(15,.bin .geq .num 8 14)]) (
.cond 15 none (.rs (ops [(6,.mv (Cn 0))]) (
.ret)) (.skip))) (
.rs (ops [(16,.mv 0),
(17,.mv 1),
(18,.idx 8 16 17),
(19,.fadd 7 18),
(20,.load false 1 19),
(21,.mv 2),
(22,.idx 1 20 21),
(23,.load false 1 22),
(7,.mv 23)]) (
.seq (.rs (ops [(24,.mv 7),
(25,.bin .lss .num 24 (Cn 0)),
(26,.mv 25)] (
.dia 26 (
.gop 26 false (some 27) (.mv 7) (
.gop 26 false (some 28) (.mv 1) (
.gop 26 false (some 29) (.bin .geq .num 27 28) (
.done)))) 30 26 (.c (.bool true)) 29 none (
.done))) (
.cond 30 none (.rs (ops [(6,.mv (Cn 0))]) (
.ret)) (.skip))) (
.rs (ops [(31,.mv 0),
(32,.mv 7),
(33,.idx 8 31 32),
(34,.fadd 0 33),
(35,.load false 1 34),
(6,.mv 35)]) (
.ret)))))⟩
noncomputable def sh_q43 (D : Ctx) (a0 a1 a2 : AV) (σ : Store) : Res :=
 (idx 8 a0 a1).bind fun t_1 =>
 (fadd t_1 7).bind fun t_2 =>
 (rd1 D.G t_2 σ).bind fun t_3 =>
 (lenV .sl t_3 σ).bind fun t_4 =>
 (bin .geq .num a2 t_4).bind fun t_5 =>
 aCase t_5
 (some ((.int .i64 0), σ))
 ((idx 8 a0 a1).bind fun t_6 =>
 (fadd t_6 7).bind fun t_7 =>
 (rd1 D.G t_7 σ).bind fun t_8 =>
 (idx 1 t_8 a2).bind fun t_9 =>
 (rd1 D.G t_9 σ).bind fun t_10 =>
 (bin .lss .num t_10 (.int .i64 0)).bind fun t_11 =>
 jn 1 (fun t_12 s_13 =>
 aCase t_12
 (some ((.int .i64 0), s_13))
 ((idx 8 a0 t_10).bind fun t_15 =>
 (fadd t_15 0).bind fun t_16 =>
 (rd1 D.G t_16 s_13).bind fun t_17 =>
 some (t_17, s_13)))
 (fun j_14 =>
 aCase t_11
 (j_14 (.bool true) σ)
 ((bin .geq .num t_10 a1).bind fun t_18 =>
 j_14 t_18 σ)))
theorem sh_q43_eq (D : Ctx) (a0 a1 a2 : AV) (σ : Store) : runFn D ir_q43 [a0, a1, a2] σ = sh_q43 D a0 a1 a2 σ := by kernel_rfl
def ir_q44 : IFn := ⟨[.tmp 12],
.rs (ops [(6,.pbox 0),
(12,.mv (.c (.bool false)))]) (
.rs (ops [(13,.mv 1),
(14,.mv 13)] (
.dia 14 (
.gop 14 false (some 15) (.fadd 2 6) (
.gop 14 false (some 16) (.load false 1 15) (
.gop 14 false (some 17) (.bin .eql .num 16 (Cn 0)) (
.done)))) 18 14 (.c (.bool true)) 17 none (
 ops [(19,.mv 18)] (
.dia 19 (
.gop 19 true (some 20) (.mv 2) (
.gop 19 true (some 21) (.mv 20) (
.dia 21 (
.gop 21 false (some 22) (.fadd 3 6) (
.gop 21 false (some 23) (.load false 1 22) (
.gop 21 false (some 24) (.bin .eql .num 23 (Cn 0)) (
.done)))) 25 21 (.c (.bool true)) 24 (some (19, true)) (
.done)))) 26 19 25 (.c (.bool false)) none (
 ops [(27,.mv 26)] (
.dia 27 (
.gop 27 true (some 28) (.mv 3) (
.gop 27 true (some 29) (.mv 28) (
.dia 29 (
.gop 29 false (some 30) (.fadd 4 6) (
.gop 29 false (some 31) (.load false 1 30) (
.gop 29 false (some 32) (.bin .eql .num 31 (.c (.flt 0))) (
.done)))) 33 29 (.c (.bool true)) 32 (some (27, true)) (
.done)))) 34 27 33 (.c (.bool false)) none (
 ops [(35,.mv 34)] (
.dia 35 (
.gop 35 true (some 36) (.mv 4) (
.gop 35 true (some 37) (.mv 36) (
.dia 37 (
.gop 37 false (some 38) (.fadd 5 6) (
.gop 37 false (some 39) (.load false 1 38) (
.gop 37 false (some 40) (.bin .eql .num 39 (.c (.str ⟨#[]⟩))) (
.done)))) 41 37 (.c (.bool true)) 40 (some (35, true)) (
.done)))) 42 35 41 (.c (.bool false)) none (
 ops [(43,.mv 42)] (
.dia 43 (
.gop 43 true (some 44) (.fadd 6 6) (
.gop 43 true (some 45) (.load false 1 44) (
.gop 43 true (some 46) (.len .sl 45) (
.gop 43 true (some 47) (.mv 5) (
.gop 43 true (some 48) (.bin .eql .num 46 47) (
.done)))))) 49 43 48 (.c (.bool false)) none (
 ops [(12,.mv 49)]))))))))))) (
.ret))⟩
noncomputable def sh_q44 (D : Ctx) (a0 a1 a2 a3 a4 a5 : AV) (σ : Store) : Res :=
 jn 1 (fun t_1 s_2 =>
 jn 1 (fun t_4 s_5 =>
 jn 1 (fun t_7 s_8 =>
 jn 1 (fun t_10 s_11 =>
 jn 1 (fun t_13 s_14 =>
 some (t_13, s_14))
 (fun j_15 =>
 aCase t_10
 ((rd1 D.G (.pptr (AV.cells a0) 6) s_11).bind fun t_16 =>
 (lenV .sl t_16 s_11).bind fun t_17 =>
 (bin .eql .num t_17 a5).bind fun t_18 =>
 j_15 t_18 s_11)
 (j_15 (.bool false) s_11)))
 (fun j_12 =>
 aCase t_7
 (jn 1 (fun t_19 s_20 =>
 j_12 t_19 s_20)
 (fun j_21 =>
 aCase a4
 (j_21 (.bool true) s_8)
 ((rd1 D.G (.pptr (AV.cells a0) 5) s_8).bind fun t_22 =>
 (bin .eql .num t_22 (.str ⟨#[]⟩)).bind fun t_23 =>
 j_21 t_23 s_8)))
 (j_12 (.bool false) s_8)))
 (fun j_9 =>
 aCase t_4
 (jn 1 (fun t_24 s_25 =>
 j_9 t_24 s_25)
 (fun j_26 =>
 aCase a3
 (j_26 (.bool true) s_5)
 ((rd1 D.G (.pptr (AV.cells a0) 4) s_5).bind fun t_27 =>
 (bin .eql .num t_27 (.flt 0)).bind fun t_28 =>
 j_26 t_28 s_5)))
 (j_9 (.bool false) s_5)))
 (fun j_6 =>
 aCase t_1
 (jn 1 (fun t_29 s_30 =>
 j_6 t_29 s_30)
 (fun j_31 =>
 aCase a2
 (j_31 (.bool true) s_2)
 ((rd1 D.G (.pptr (AV.cells a0) 3) s_2).bind fun t_32 =>
 (bin .eql .num t_32 (.int .i64 0)).bind fun t_33 =>
 j_31 t_33 s_2)))
 (j_6 (.bool false) s_2)))
 (fun j_3 =>
 aCase a1
 (j_3 (.bool true) σ)
 ((rd1 D.G (.pptr (AV.cells a0) 2) σ).bind fun t_34 =>
 (bin .eql .num t_34 (.int .i64 0)).bind fun t_35 =>
 j_3 t_35 σ))
theorem sh_q44_eq (D : Ctx) (a0 a1 a2 a3 a4 a5 : AV) (σ : Store) : runFn D ir_q44 [a0, a1, a2, a3, a4, a5] σ = sh_q44 D a0 a1 a2 a3 a4 a5 σ := by kernel_rfl
def ir_q45 : IFn := ⟨[.tmp 8],
.rs (ops [(8,.mv (.c (.bool false)))]) (
.seq (.rs (ops [(10,.mv 2),
(9,.mv 10)]) (
.block 0 (some ⟨[], []⟩) (
.loop ⟨[9], []⟩ (
.seq (.rs (ops [(11,.mv 9),
(12,.mv 3),
(13,.bin .lss .num 11 12)]) (
.cond 13 none (.skip) (.exit 0))) (
.seq (.block 1 none (
.rs (ops [(16,.mv 0),
(17,.mv 1),
(18,.mv 9),
(19,.callV 53 [16, 17, 18]),
(20,.callV 65 [19]),
(21,.un .not 20)]) (
.cond 21 none (.rs (ops [(8,.mv (.c (.bool false)))]) (
.ret)) (.skip)))) (
.reg (ops [(14,.mv 9),
(15,.bin .add .num 14 (Cn 1)),
(9,.mv 15)]))))))) (
.rs (ops [(8,.mv (.c (.bool true)))]) (
.ret)))⟩
noncomputable def lp_q45_1 (D : Ctx) (a3 : AV) (a0 : AV) (a1 : AV) (k_2 : Cur 0) : Cur 1 → Cur 1 :=
 fun go_5 i_3 s_4 =>
 (bin .lss .num i_3 a3).bind fun t_6 =>
 aCase t_6
 ((callV D 53 [a0, a1, i_3] s_4).bind fun t_7 =>
 (callV D 65 [t_7] s_4).bind fun t_8 =>
 (un .not t_8).bind fun t_9 =>
 aCase t_9
 (some ((.bool false), s_4))
 ((bin .add .num i_3 (.int .i64 1)).bind fun t_10 =>
 go_5 t_10 s_4))
 (k_2  s_4)
theorem lp_q45_1_le {D : Ctx} (x0 x1 x2 k3) {k3'} (hk3 : Cle k3 k3') {u u'} (h : Cle u u') : Cle (lp_q45_1 D x0 x1 x2 k3 u) (lp_q45_1 D x0 x1 x2 k3' u') := by
 unfold lp_q45_1
 repeat (first
  | with_reducible refine Ole.bindr fun _ => ?_
  | with_reducible refine Ole.aCase ?_ ?_
  | refine Cle.succ fun _ => ?_
  | refine Cle.zero fun _ => ?_
  | exact Cle.use0 (by assumption)
  | exact Cle.use1 (by assumption)
  | with_reducible exact Ole.refl _)
theorem lp_q45_1_mono (D x0 x1 x2 k3) : Mono (lp_q45_1 D x0 x1 x2 k3) := fun _ _ => lp_q45_1_le _ _ _ _ (Cle.refl _)
noncomputable def sh_q45 (D : Ctx) (a0 a1 a2 a3 : AV) (σ : Store) : Res :=
 jn 0 (fun  s_1 =>
 some ((.bool true), s_1))
 (fun k_2 =>
 lpFix 1 (lp_q45_1 D a3 a0 a1 k_2) a2 σ)
theorem sh_q45_eq (D : Ctx) (a0 a1 a2 a3 : AV) (σ : Store) : runFn D ir_q45 [a0, a1, a2, a3] σ = sh_q45 D a0 a1 a2 a3 σ := by kernel_rfl
def ir_q46 : IFn := ⟨[.tmp 2],
.rs (ops [(2,.mv (.c (.bool false)))]) (
.rs (ops [(3,.mv 0),
(4,.bin .eql .num 3 (Cn 26)),
(5,.mv 4)] (
.dia 5 (
.gop 5 false (some 6) (.mv 0) (
.gop 5 false (some 7) (.bin .eql .num 6 (Cn 27)) (
.done))) 8 5 (.c (.bool true)) 7 none (
 ops [(9,.mv 8)] (
.dia 9 (
.gop 9 false (some 10) (.mv 0) (
.gop 9 false (some 11) (.bin .eql .num 10 (Cn 33)) (
.done))) 12 9 (.c (.bool true)) 11 none (
 ops [(2,.mv 12)]))))) (
.ret))⟩
noncomputable def sh_q46 (D : Ctx) (a0 : AV) (σ : Store) : Res :=
 (bin .eql .num a0 (.int .i64 26)).bind fun t_1 =>
 jn 1 (fun t_2 s_3 =>
 jn 1 (fun t_5 s_6 =>
 some (t_5, s_6))
 (fun j_7 =>
 aCase t_2
 (j_7 (.bool true) s_3)
 ((bin .eql .num a0 (.int .i64 33)).bind fun t_8 =>
 j_7 t_8 s_3)))
 (fun j_4 =>
 aCase t_1
 (j_4 (.bool true) σ)
 ((bin .eql .num a0 (.int .i64 27)).bind fun t_9 =>
 j_4 t_9 σ))
theorem sh_q46_eq (D : Ctx) (a0 : AV) (σ : Store) : runFn D ir_q46 [a0] σ = sh_q46 D a0 σ := by kernel_rfl
def ir_q47 : IFn := ⟨[.tmp 2],
.rs (ops [(2,.mv (.c (.bool false)))]) (
.rs (ops [(3,.mv 0),
(4,.bin .eql .num 3 (Cn 34)),
(5,.mv 4)] (
.dia 5 (
.gop 5 false (some 6) (.mv 0) (
.gop 5 false (some 7) (.bin .eql .num 6 (Cn 37)) (
.done))) 8 5 (.c (.bool true)) 7 none (
 ops [(2,.mv 8)]))) (
.ret))⟩
noncomputable def sh_q47 (D : Ctx) (a0 : AV) (σ : Store) : Res :=
 (bin .eql .num a0 (.int .i64 34)).bind fun t_1 =>
 jn 1 (fun t_2 s_3 =>
 some (t_2, s_3))
 (fun j_4 =>
 aCase t_1
 (j_4 (.bool true) σ)
 ((bin .eql .num a0 (.int .i64 37)).bind fun t_5 =>
 j_4 t_5 σ))
theorem sh_q47_eq (D : Ctx) (a0 : AV) (σ : Store) : runFn D ir_q47 [a0] σ = sh_q47 D a0 σ := by kernel_rfl
def ir_q48 : IFn := ⟨[.tmp 4],
.rs (ops [(4,.mv (Cn 0))]) (
.seq (.rs (ops [(7,.mv 0),
(8,.len .sl 7),
(9,.mv (Cn 0))]) (
.block 0 (some ⟨[], []⟩) (
.loop ⟨[9], []⟩ (
.rs (ops [(10,.bin .lss .num 9 8)]) (
.seq (.cond 10 none (.skip) (.exit 0)) (
.seq (.block 1 none (
.rs (ops [(11,.mv 9),
(12,.idx 1 7 9),
(13,.load false 1 12),
(5,.mv 11),
(6,.mv 13)]) (
.rs (ops [(14,.mv 6),
(15,.mv 1),
(16,.bin .eql .num 14 15)]) (
.cond 16 none (.rs (ops [(17,.mv 5),
(4,.mv 17)]) (
.ret)) (.skip))))) (
.reg (ops [(18,.bin .add .num 9 (Cn 1)),
(9,.mv 18)])))))))) (
.rs (ops [(4,.mv (Cn (-1)))]) (
.ret)))⟩
noncomputable def lp_q48_1 (D : Ctx) (t_1 : AV) (a0 : AV) (a1 : AV) (k_3 : Cur 0) : Cur 1 → Cur 1 :=
 fun go_6 t_4 s_5 =>
 (bin .lss .num t_4 t_1).bind fun t_7 =>
 aCase t_7
 ((idx 1 a0 t_4).bind fun t_8 =>
 (rd1 D.G t_8 s_5).bind fun t_9 =>
 (bin .eql .num t_9 a1).bind fun t_10 =>
 aCase t_10
 (some (t_4, s_5))
 ((bin .add .num t_4 (.int .i64 1)).bind fun t_11 =>
 go_6 t_11 s_5))
 (k_3  s_5)
theorem lp_q48_1_le {D : Ctx} (x0 x1 x2 k3) {k3'} (hk3 : Cle k3 k3') {u u'} (h : Cle u u') : Cle (lp_q48_1 D x0 x1 x2 k3 u) (lp_q48_1 D x0 x1 x2 k3' u') := by
 unfold lp_q48_1
 repeat (first
  | with_reducible refine Ole.bindr fun _ => ?_
  | with_reducible refine Ole.aCase ?_ ?_
  | refine Cle.succ fun _ => ?_
  | refine Cle.zero fun _ => ?_
  | exact Cle.use0 (by assumption)
  | exact Cle.use1 (by assumption)
  | with_reducible exact Ole.refl _)
theorem lp_q48_1_mono (D x0 x1 x2 k3) : Mono (lp_q48_1 D x0 x1 x2 k3) := fun _ _ => lp_q48_1_le _ _ _ _ (Cle.refl _)
noncomputable def sh_q48 (D : Ctx) (a0 a1 : AV) (σ : Store) : Res :=
 (lenV .sl a0 σ).bind fun t_1 =>
 jn 0 (fun  s_2 =>
 some ((.int .i64 (-1)), s_2))
 (fun k_3 =>
 lpFix 1 (lp_q48_1 D t_1 a0 a1 k_3) (.int .i64 0) σ)
theorem sh_q48_eq (D : Ctx) (a0 a1 : AV) (σ : Store) : runFn D ir_q48 [a0, a1] σ = sh_q48 D a0 a1 σ := by kernel_rfl
def ir_q49 : IFn := ⟨[.tmp 4],
.rs (ops [(2,.pbox 0),
(4,.mv (.c (.bool false)))]) (
.seq (.rs (ops [(5,.fadd 0 2),
(6,.load false 1 5),
(7,.bin .neq .num 6 (Cn 2)),
(8,.mv 7)] (
.dia 8 (
.gop 8 true (some 9) (.fadd 0 2) (
.gop 8 true (some 10) (.load false 1 9) (
.gop 8 true (some 11) (.bin .neq .num 10 (Cn 7)) (
.done)))) 12 8 11 (.c (.bool false)) none (
 ops [(13,.mv 12)] (
.dia 13 (
.gop 13 true (some 14) (.fadd 0 2) (
.gop 13 true (some 15) (.load false 1 14) (
.gop 13 true (some 16) (.bin .neq .num 15 (Cn 8)) (
.done)))) 17 13 16 (.c (.bool false)) none (
 ops [(18,.mv 17)] (
.dia 18 (
.gop 18 true (some 19) (.fadd 0 2) (
.gop 18 true (some 20) (.load false 1 19) (
.gop 18 true (some 21) (.bin .neq .num 20 (Cn 12)) (
.done)))) 22 18 21 (.c (.bool false)) none (
.done))))))) (
.cond 22 none (.rs (ops [(4,.mv (.c (.bool false)))]) (
.ret)) (.skip))) (
.rs (ops [(23,.fadd 6 2),
(24,.load false 1 23),
(25,.mv 1),
(26,.callV 58 [24, 25]),
(27,.bin .geq .num 26 (Cn 0)),
(4,.mv 27)]) (
.ret)))⟩
noncomputable def sh_q49 (D : Ctx) (a0 a1 : AV) (σ : Store) : Res :=
 (rd1 D.G (.pptr (AV.cells a0) 0) σ).bind fun t_1 =>
 (bin .neq .num t_1 (.int .i64 2)).bind fun t_2 =>
 jn 1 (fun t_3 s_4 =>
 jn 1 (fun t_6 s_7 =>
 jn 1 (fun t_9 s_10 =>
 aCase t_9
 (some ((.bool false), s_10))
 ((rd1 D.G (.pptr (AV.cells a0) 6) s_10).bind fun t_12 =>
 (callV D 58 [t_12, a1] s_10).bind fun t_13 =>
 (bin .geq .num t_13 (.int .i64 0)).bind fun t_14 =>
 some (t_14, s_10)))
 (fun j_11 =>
 aCase t_6
 ((rd1 D.G (.pptr (AV.cells a0) 0) s_7).bind fun t_15 =>
 (bin .neq .num t_15 (.int .i64 12)).bind fun t_16 =>
 j_11 t_16 s_7)
 (j_11 (.bool false) s_7)))
 (fun j_8 =>
 aCase t_3
 ((rd1 D.G (.pptr (AV.cells a0) 0) s_4).bind fun t_17 =>
 (bin .neq .num t_17 (.int .i64 8)).bind fun t_18 =>
 j_8 t_18 s_4)
 (j_8 (.bool false) s_4)))
 (fun j_5 =>
 aCase t_2
 ((rd1 D.G (.pptr (AV.cells a0) 0) σ).bind fun t_19 =>
 (bin .neq .num t_19 (.int .i64 7)).bind fun t_20 =>
 j_5 t_20 σ)
 (j_5 (.bool false) σ))
theorem sh_q49_eq (D : Ctx) (a0 a1 : AV) (σ : Store) : runFn D ir_q49 [a0, a1] σ = sh_q49 D a0 a1 σ := by kernel_rfl
def ir_q50 : IFn := ⟨[.cell 2 true 2],
.rs (ops [(1,.pbox 0),
(2,.zalloc [(.bool false), (.int .i64 0)])]) (
.rs (ops [(3,.zalloc [(.bool false), (.int .i64 0)])]) (
.rs (ops [(4,.fadd 0 1),
(5,.load false 1 4),
(6,.fadd 0 3)] (
.op none (.store false 1 6 5) (
.done))) (
.rs (ops [(7,.fadd 1 1),
(8,.load false 1 7),
(9,.fadd 1 3)] (
.op none (.store false 1 9 8) (
.done))) (
.rs (ops [(10,.load true 2 3)] (
.op none (.store true 2 2 10) (
.freeze 2 (
.done)))) (
.ret)))))⟩
noncomputable def sh_q50 (D : Ctx) (a0 : AV) (σ : Store) : Res :=
 (rd1 D.G (.pptr (AV.cells a0) 0) σ).bind fun t_1 =>
 (one t_1).bind fun o_2 =>
 (rd1 D.G (.pptr (AV.cells a0) 1) σ).bind fun t_3 =>
 (one t_3).bind fun o_4 =>
 some ((.agg [o_2, o_4]), σ)
theorem sh_q50_eq (D : Ctx) (a0 : AV) (σ : Store) : runFn D ir_q50 [a0] σ = sh_q50 D a0 σ := by kernel_rfl
def ir_q51 : IFn := ⟨[.cell 2 true 8],
.rs (ops [(1,.pbox 0),
(2,.zalloc [(.int .i64 0), (.int .i64 0), (.int .i64 0), (.int .i64 0), (.flt 0), (.str ⟨#[]⟩), .nilslice, .nilslice])]) (
.rs (ops [(3,.zalloc [(.int .i64 0), (.int .i64 0), (.int .i64 0), (.int .i64 0), (.flt 0), (.str ⟨#[]⟩), .nilslice, .nilslice])]) (
.rs (ops [(4,.fadd 0 1),
(5,.load false 1 4),
(6,.fadd 0 3)] (
.op none (.store false 1 6 5) (
.done))) (
.rs (ops [(7,.fadd 1 1),
(8,.load false 1 7),
(9,.fadd 1 3)] (
.op none (.store false 1 9 8) (
.done))) (
.rs (ops [(10,.fadd 2 1),
(11,.load false 1 10),
(12,.fadd 2 3)] (
.op none (.store false 1 12 11) (
.done))) (
.rs (ops [(13,.fadd 3 1),
(14,.load false 1 13),
(15,.fadd 3 3)] (
.op none (.store false 1 15 14) (
.done))) (
.rs (ops [(16,.fadd 4 1),
(17,.load false 1 16),
(18,.fadd 4 3)] (
.op none (.store false 1 18 17) (
.done))) (
.rs (ops [(19,.fadd 5 1),
(20,.load false 1 19),
(21,.fadd 5 3)] (
.op none (.store false 1 21 20) (
.done))) (
.rs (ops [(22,.fadd 6 1),
(23,.load false 1 22),
(24,.callP 66 [23]),
(25,.fadd 6 3)] (
.op none (.store false 1 25 24) (
.done))) (
.rs (ops [(26,.fadd 7 1),
(27,.load false 1 26),
(28,.callP 66 [27]),
(29,.fadd 7 3)] (
.op none (.store false 1 29 28) (
.done))) (
.rs (ops [(30,.load true 8 3)] (
.op none (.store true 8 2 30) (
.freeze 2 (
.done)))) (
.ret)))))))))))⟩
noncomputable def sh_q51 (D : Ctx) (a0 : AV) (σ : Store) : Res :=
 (rd1 D.G (.pptr (AV.cells a0) 0) σ).bind fun t_1 =>
 (one t_1).bind fun o_2 =>
 (rd1 D.G (.pptr (AV.cells a0) 1) σ).bind fun t_3 =>
 (one t_3).bind fun o_4 =>
 (rd1 D.G (.pptr (AV.cells a0) 2) σ).bind fun t_5 =>
 (one t_5).bind fun o_6 =>
 (rd1 D.G (.pptr (AV.cells a0) 3) σ).bind fun t_7 =>
 (one t_7).bind fun o_8 =>
 (rd1 D.G (.pptr (AV.cells a0) 4) σ).bind fun t_9 =>
 (one t_9).bind fun o_10 =>
 (rd1 D.G (.pptr (AV.cells a0) 5) σ).bind fun t_11 =>
 (one t_11).bind fun o_12 =>
 (rd1 D.G (.pptr (AV.cells a0) 6) σ).bind fun t_13 =>
 (callP D 66 [t_13]).bind fun t_14 =>
 (one t_14).bind fun o_15 =>
 (rd1 D.G (.pptr (AV.cells a0) 7) σ).bind fun t_16 =>
 (callP D 66 [t_16]).bind fun t_17 =>
 (one t_17).bind fun o_18 =>
 some ((.agg [o_2, o_4, o_6, o_8, o_10, o_12, o_15, o_18]), σ)
theorem sh_q51_eq (D : Ctx) (a0 : AV) (σ : Store) : runFn D ir_q51 [a0] σ = sh_q51 D a0 σ := by kernel_rfl
def ir_q52 : IFn := ⟨[.tmp 4],
.rs (ops [(2,.pbox 0),
(3,.pbox 1),
(4,.mv (.c (.bool false)))]) (
.seq (.rs (ops [(5,.fadd 0 2),
(6,.load false 1 5),
(7,.fadd 0 3),
(8,.load false 1 7),
(9,.bin .neq .bool 6 8)]) (
.cond 9 none (.rs (ops [(4,.mv (.c (.bool false)))]) (
.ret)) (.skip))) (
.seq (.rs (ops [(10,.fadd 1 2),
(11,.load false 1 10),
(12,.fadd 1 3),
(13,.load false 1 12),
(14,.bin .neq .num 11 13)]) (
.cond 14 none (.rs (ops [(4,.mv (.c (.bool false)))]) (
.ret)) (.skip))) (
.rs (ops [(4,.mv (.c (.bool true)))]) (
.ret))))⟩
noncomputable def sh_q52 (D : Ctx) (a0 a1 : AV) (σ : Store) : Res :=
 (rd1 D.G (.pptr (AV.cells a0) 0) σ).bind fun t_1 =>
 (rd1 D.G (.pptr (AV.cells a1) 0) σ).bind fun t_2 =>
 (bin .neq .bool t_1 t_2).bind fun t_3 =>
 aCase t_3
 (some ((.bool false), σ))
 ((rd1 D.G (.pptr (AV.cells a0) 1) σ).bind fun t_4 =>
 (rd1 D.G (.pptr (AV.cells a1) 1) σ).bind fun t_5 =>
 (bin .neq .num t_4 t_5).bind fun t_6 =>
 aCase t_6
 (some ((.bool false), σ))
 (some ((.bool true), σ)))
theorem sh_q52_eq (D : Ctx) (a0 a1 : AV) (σ : Store) : runFn D ir_q52 [a0, a1] σ = sh_q52 D a0 a1 σ := by kernel_rfl
def ir_q53 : IFn := ⟨[.tmp 4],
.rs (ops [(2,.pbox 0),
(3,.pbox 1),
(4,.mv (.c (.bool false)))]) (
.seq (.rs (ops [(5,.fadd 0 2),
(6,.load false 1 5),
(7,.fadd 0 3),
(8,.load false 1 7),
(9,.bin .neq .num 6 8)]) (
.cond 9 none (.rs (ops [(4,.mv (.c (.bool false)))]) (
.ret)) (.skip))) (
.seq (.rs (ops [(10,.fadd 1 2),
(11,.load false 1 10),
(12,.fadd 1 3),
(13,.load false 1 12),
(14,.bin .neq .num 11 13)]) (
.cond 14 none (.rs (ops [(4,.mv (.c (.bool false)))]) (
.ret)) (.skip))) (
.seq (.rs (ops [(15,.fadd 2 2),
(16,.load false 1 15),
(17,.fadd 2 3),
(18,.load false 1 17),
(19,.bin .neq .num 16 18)]) (
.cond 19 none (.rs (ops [(4,.mv (.c (.bool false)))]) (
.ret)) (.skip))) (
.seq (.rs (ops [(20,.fadd 3 2),
(21,.load false 1 20),
(22,.fadd 3 3),
(23,.load false 1 22),
(24,.bin .neq .num 21 23)]) (
.cond 24 none (.rs (ops [(4,.mv (.c (.bool false)))]) (
.ret)) (.skip))) (
.seq (.rs (ops [(25,.fadd 4 2),
(26,.load false 1 25),
(27,.fadd 4 3),
(28,.load false 1 27),
(29,.callV 67 [26, 28]),
(30,.un .not 29)]) (
.cond 30 none (.rs (ops [(4,.mv (.c (.bool false)))]) (
.ret)) (.skip))) (
.seq (.rs (ops [(31,.fadd 5 2),
(32,.load false 1 31),
(33,.fadd 5 3),
(34,.load false 1 33),
(35,.bin .neq .num 32 34)]) (
.cond 35 none (.rs (ops [(4,.mv (.c (.bool false)))]) (
.ret)) (.skip))) (
.seq (.rs (ops [(36,.fadd 6 2),
(37,.load false 1 36),
(38,.fadd 6 3),
(39,.load false 1 38),
(40,.callV 68 [37, 39]),
(41,.un .not 40)]) (
.cond 41 none (.rs (ops [(4,.mv (.c (.bool false)))]) (
.ret)) (.skip))) (
.seq (.rs (ops [(42,.fadd 7 2),
(43,.load false 1 42),
(44,.fadd 7 3),
(45,.load false 1 44),
(46,.callV 68 [43, 45]),
(47,.un .not 46)]) (
.cond 47 none (.rs (ops [(4,.mv (.c (.bool false)))]) (
.ret)) (.skip))) (
.rs (ops [(4,.mv (.c (.bool true)))]) (
.ret))))))))))⟩
noncomputable def sh_q53 (D : Ctx) (a0 a1 : AV) (σ : Store) : Res :=
 (rd1 D.G (.pptr (AV.cells a0) 0) σ).bind fun t_1 =>
 (rd1 D.G (.pptr (AV.cells a1) 0) σ).bind fun t_2 =>
 (bin .neq .num t_1 t_2).bind fun t_3 =>
 aCase t_3
 (some ((.bool false), σ))
 ((rd1 D.G (.pptr (AV.cells a0) 1) σ).bind fun t_4 =>
 (rd1 D.G (.pptr (AV.cells a1) 1) σ).bind fun t_5 =>
 (bin .neq .num t_4 t_5).bind fun t_6 =>
 aCase t_6
 (some ((.bool false), σ))
 ((rd1 D.G (.pptr (AV.cells a0) 2) σ).bind fun t_7 =>
 (rd1 D.G (.pptr (AV.cells a1) 2) σ).bind fun t_8 =>
 (bin .neq .num t_7 t_8).bind fun t_9 =>
 aCase t_9
 (some ((.bool false), σ))
 ((rd1 D.G (.pptr (AV.cells a0) 3) σ).bind fun t_10 =>
 (rd1 D.G (.pptr (AV.cells a1) 3) σ).bind fun t_11 =>
 (bin .neq .num t_10 t_11).bind fun t_12 =>
 aCase t_12
 (some ((.bool false), σ))
 ((rd1 D.G (.pptr (AV.cells a0) 4) σ).bind fun t_13 =>
 (rd1 D.G (.pptr (AV.cells a1) 4) σ).bind fun t_14 =>
 (callV D 67 [t_13, t_14] σ).bind fun t_15 =>
 (un .not t_15).bind fun t_16 =>
 aCase t_16
 (some ((.bool false), σ))
 ((rd1 D.G (.pptr (AV.cells a0) 5) σ).bind fun t_17 =>
 (rd1 D.G (.pptr (AV.cells a1) 5) σ).bind fun t_18 =>
 (bin .neq .num t_17 t_18).bind fun t_19 =>
 aCase t_19
 (some ((.bool false), σ))
 ((rd1 D.G (.pptr (AV.cells a0) 6) σ).bind fun t_20 =>
 (rd1 D.G (.pptr (AV.cells a1) 6) σ).bind fun t_21 =>
 (callV D 68 [t_20, t_21] σ).bind fun t_22 =>
 (un .not t_22).bind fun t_23 =>
 aCase t_23
 (some ((.bool false), σ))
 ((rd1 D.G (.pptr (AV.cells a0) 7) σ).bind fun t_24 =>
 (rd1 D.G (.pptr (AV.cells a1) 7) σ).bind fun t_25 =>
 (callV D 68 [t_24, t_25] σ).bind fun t_26 =>
 (un .not t_26).bind fun t_27 =>
 aCase t_27
 (some ((.bool false), σ))
 (some ((.bool true), σ)))))))))
theorem sh_q53_eq (D : Ctx) (a0 a1 : AV) (σ : Store) : runFn D ir_q53 [a0, a1] σ = sh_q53 D a0 a1 σ := by kernel_rfl
def ir_q54 : IFn := ⟨[.tmp 4],
.rs (ops [(4,.mv (Cn 0))]) (
.rs (ops [(5,.mv 1),
(6,.mv 0),
(7,.len .sl 6),
(8,.bin .sub .num 5 7),
(1,.mv 8)]) (
.seq (.rs (ops [(9,.mv 1),
(10,.bin .lss .num 9 (Cn 0))]) (
.cond 10 none (.rs (ops [(4,.mv (Cn (-1)))]) (
.ret)) (.skip))) (
.rs (ops [(11,.mv 1),
(4,.mv 11)]) (
.ret))))⟩
noncomputable def sh_q54 (D : Ctx) (a0 a1 : AV) (σ : Store) : Res :=
 (lenV .sl a0 σ).bind fun t_1 =>
 (bin .sub .num a1 t_1).bind fun t_2 =>
 (bin .lss .num t_2 (.int .i64 0)).bind fun t_3 =>
 aCase t_3
 (some ((.int .i64 (-1)), σ))
 (some (t_2, σ))
theorem sh_q54_eq (D : Ctx) (a0 a1 : AV) (σ : Store) : runFn D ir_q54 [a0, a1] σ = sh_q54 D a0 a1 σ := by kernel_rfl
def ir_q55 : IFn := ⟨[.tmp 2],
.rs (ops [(2,.mv (.c (.bool false)))]) (
.rs (ops [(3,.mv 0),
(4,.bin .geq .num 3 (Cn 20)),
(5,.mv 4)] (
.dia 5 (
.gop 5 true (some 6) (.mv 0) (
.gop 5 true (some 7) (.bin .leq .num 6 (Cn 38)) (
.done))) 8 5 7 (.c (.bool false)) none (
 ops [(2,.mv 8)]))) (
.ret))⟩
noncomputable def sh_q55 (D : Ctx) (a0 : AV) (σ : Store) : Res :=
 (bin .geq .num a0 (.int .i64 20)).bind fun t_1 =>
 jn 1 (fun t_2 s_3 =>
 some (t_2, s_3))
 (fun j_4 =>
 aCase t_1
 ((bin .leq .num a0 (.int .i64 38)).bind fun t_5 =>
 j_4 t_5 σ)
 (j_4 (.bool false) σ))
theorem sh_q55_eq (D : Ctx) (a0 : AV) (σ : Store) : runFn D ir_q55 [a0] σ = sh_q55 D a0 σ := by kernel_rfl
def ir_q56 : IFn := ⟨[.tmp 2],
.rs (ops [(2,.mv (.c .nilslice))]) (
.rs (ops [(5,.mv 0),
(6,.len .sl 5),
(7,.mkSlice [(.int .i64 0)] 6),
(3,.mv 7)]) (
.seq (.rs (ops [(4,.mv (Cn 0))]) (
.block 0 (some ⟨[], []⟩) (
.loop ⟨[4], []⟩ (
.seq (.rs (ops [(8,.mv 4),
(9,.mv 0),
(10,.len .sl 9),
(11,.bin .lss .num 8 10)]) (
.cond 11 none (.skip) (.exit 0))) (
.seq (.block 1 none (
.reg (ops [(14,.mv 3),
(15,.mv 4),
(16,.mv 0),
(17,.mv 4),
(18,.idx 1 16 17),
(19,.load false 1 18),
(20,.idx 1 14 15)] (
.op none (.store false 1 20 19) (
.done))))) (
.reg (ops [(12,.mv 4),
(13,.bin .add .num 12 (Cn 1)),
(4,.mv 13)]))))))) (
.rs (ops [(21,.mv 3),
(2,.mv 21)]) (
.ret))))⟩
noncomputable def lp_q56_1 (D : Ctx) (a0 : AV) (t_2 : AV × Store) (k_4 : Cur 0) : Cur 1 → Cur 1 :=
 fun go_7 i_5 s_6 =>
 (lenV .sl a0 s_6).bind fun t_8 =>
 (bin .lss .num i_5 t_8).bind fun t_9 =>
 aCase t_9
 ((idx 1 a0 i_5).bind fun t_10 =>
 (rd1 D.G t_10 s_6).bind fun t_11 =>
 (idx 1 t_2.1 i_5).bind fun t_12 =>
 (one t_11).bind fun o_13 =>
 (wr t_12 [o_13] s_6).bind fun s_14 =>
 (bin .add .num i_5 (.int .i64 1)).bind fun t_15 =>
 go_7 t_15 s_14)
 (k_4  s_6)
theorem lp_q56_1_le {D : Ctx} (x0 x1 k2) {k2'} (hk2 : Cle k2 k2') {u u'} (h : Cle u u') : Cle (lp_q56_1 D x0 x1 k2 u) (lp_q56_1 D x0 x1 k2' u') := by
 unfold lp_q56_1
 repeat (first
  | with_reducible refine Ole.bindr fun _ => ?_
  | with_reducible refine Ole.aCase ?_ ?_
  | refine Cle.succ fun _ => ?_
  | refine Cle.zero fun _ => ?_
  | exact Cle.use0 (by assumption)
  | exact Cle.use1 (by assumption)
  | with_reducible exact Ole.refl _)
theorem lp_q56_1_mono (D x0 x1 k2) : Mono (lp_q56_1 D x0 x1 k2) := fun _ _ => lp_q56_1_le _ _ _ (Cle.refl _)
noncomputable def sh_q56 (D : Ctx) (a0 : AV) (σ : Store) : Res :=
 (lenV .sl a0 σ).bind fun t_1 =>
 (mkSlice [(.int .i64 0)] t_1 σ).bind fun t_2 =>
 jn 0 (fun  s_3 =>
 some (t_2.1, s_3))
 (fun k_4 =>
 lpFix 1 (lp_q56_1 D a0 t_2 k_4) (.int .i64 0) t_2.2)
theorem sh_q56_eq (D : Ctx) (a0 : AV) (σ : Store) : runFn D ir_q56 [a0] σ = sh_q56 D a0 σ := by kernel_rfl
def ir_q57 : IFn := ⟨[.tmp 4],
.rs (ops [(4,.mv (.c (.bool false)))]) (
.seq (.rs (ops [(5,.mv 0),
(6,.mv 0),
(7,.bin .neq .num 5 6),
(8,.mv 7)] (
.dia 8 (
.gop 8 false (some 9) (.mv 1) (
.gop 8 false (some 10) (.mv 1) (
.gop 8 false (some 11) (.bin .neq .num 9 10) (
.done)))) 12 8 (.c (.bool true)) 11 none (
.done))) (
.cond 12 none (.rs (ops [(13,.mv 0),
(14,.mv 0),
(15,.bin .neq .num 13 14),
(16,.mv 15)] (
.dia 16 (
.gop 16 true (some 17) (.mv 1) (
.gop 16 true (some 18) (.mv 1) (
.gop 16 true (some 19) (.bin .neq .num 17 18) (
.done)))) 20 16 19 (.c (.bool false)) none (
 ops [(4,.mv 20)]))) (
.ret)) (.skip))) (
.seq (.rs (ops [(21,.mv 0),
(22,.bin .eql .num 21 (.c (.flt 0))),
(23,.mv 22)] (
.dia 23 (
.gop 23 true (some 24) (.mv 1) (
.gop 23 true (some 25) (.bin .eql .num 24 (.c (.flt 0))) (
.done))) 26 23 25 (.c (.bool false)) none (
.done))) (
.cond 26 none (.rs (ops [(27,.mv 0),
(28,.bin .quo .num (.c (.flt 4607182418800017408)) 27),
(29,.bin .gtr .num 28 (.c (.flt 0))),
(30,.mv 1),
(31,.bin .quo .num (.c (.flt 4607182418800017408)) 30),
(32,.bin .gtr .num 31 (.c (.flt 0))),
(33,.bin .eql .bool 29 32),
(4,.mv 33)]) (
.ret)) (.skip))) (
.rs (ops [(34,.mv 0),
(35,.mv 1),
(36,.bin .eql .num 34 35),
(4,.mv 36)]) (
.ret))))⟩
noncomputable def sh_q57 (D : Ctx) (a0 a1 : AV) (σ : Store) : Res :=
 (bin .neq .num a0 a0).bind fun t_1 =>
 jn 1 (fun t_2 s_3 =>
 aCase t_2
 ((bin .neq .num a0 a0).bind fun t_5 =>
 jn 1 (fun t_6 s_7 =>
 some (t_6, s_7))
 (fun j_8 =>
 aCase t_5
 ((bin .neq .num a1 a1).bind fun t_9 =>
 j_8 t_9 s_3)
 (j_8 (.bool false) s_3)))
 ((bin .eql .num a0 (.flt 0)).bind fun t_10 =>
 jn 1 (fun t_11 s_12 =>
 aCase t_11
 ((bin .quo .num (.flt 4607182418800017408) a0).bind fun t_14 =>
 (bin .gtr .num t_14 (.flt 0)).bind fun t_15 =>
 (bin .quo .num (.flt 4607182418800017408) a1).bind fun t_16 =>
 (bin .gtr .num t_16 (.flt 0)).bind fun t_17 =>
 (bin .eql .bool t_15 t_17).bind fun t_18 =>
 some (t_18, s_12))
 ((bin .eql .num a0 a1).bind fun t_19 =>
 some (t_19, s_12)))
 (fun j_13 =>
 aCase t_10
 ((bin .eql .num a1 (.flt 0)).bind fun t_20 =>
 j_13 t_20 s_3)
 (j_13 (.bool false) s_3))))
 (fun j_4 =>
 aCase t_1
 (j_4 (.bool true) σ)
 ((bin .neq .num a1 a1).bind fun t_21 =>
 j_4 t_21 σ))
theorem sh_q57_eq (D : Ctx) (a0 a1 : AV) (σ : Store) : runFn D ir_q57 [a0, a1] σ = sh_q57 D a0 a1 σ := by kernel_rfl
end Go.Asm.UnitF
namespace Go.Asm.UnitF
open Go Go.Asm
set_option maxRecDepth 100000
def ir_q58 : IFn := ⟨[.tmp 4],
.rs (ops [(4,.mv (.c (.bool false)))]) (
.seq (.rs (ops [(6,.mv 0),
(7,.len .sl 6),
(8,.mv 1),
(9,.len .sl 8),
(10,.bin .neq .num 7 9)]) (
.cond 10 none (.rs (ops [(4,.mv (.c (.bool false)))]) (
.ret)) (.skip))) (
.seq (.rs (ops [(5,.mv (Cn 0))]) (
.block 0 (some ⟨[], []⟩) (
.loop ⟨[5], []⟩ (
.seq (.rs (ops [(11,.mv 5),
(12,.mv 0),
(13,.len .sl 12),
(14,.bin .lss .num 11 13)]) (
.cond 14 none (.skip) (.exit 0))) (
.seq (.block 1 none (
.seq (.drw (.row 17 (.mv 0) (
.row 18 (.mv 5) (
.row 19 (.idx 1 17 18) (
.row 20 (.load false 1 19) (
.row 21 (.mv 1) (
.row 22 (.mv 5) (
.row 23 (.idx 1 21 22) (
.row 24 (.load false 1 23) (
.row 25 (.bin .neq .num 20 24) (
.done)))))))))) [] [] (.done)) (
.cond 25 none (.rs (ops [(4,.mv (.c (.bool false)))]) (
.ret)) (.skip)))) (
.reg (ops [(15,.mv 5),
(16,.bin .add .num 15 (Cn 1)),
(5,.mv 16)]))))))) (
.rs (ops [(4,.mv (.c (.bool true)))]) (
.ret))))⟩
noncomputable def lp_q58_1 (D : Ctx) (a0 : AV) (a1 : AV) (k_5 : Cur 0) : Cur 1 → Cur 1 :=
 fun go_8 i_6 s_7 =>
 (lenV .sl a0 s_7).bind fun t_9 =>
 (bin .lss .num i_6 t_9).bind fun t_10 =>
 aCase t_10
 ((idx 1 a0 i_6).bind fun t_11 =>
 (rd1 D.G t_11 s_7).bind fun t_12 =>
 (idx 1 a1 i_6).bind fun t_13 =>
 (rd1 D.G t_13 s_7).bind fun t_14 =>
 (bin .neq .num t_12 t_14).bind fun t_15 =>
 aCase t_15
 (some ((.bool false), s_7))
 ((bin .add .num i_6 (.int .i64 1)).bind fun t_16 =>
 go_8 t_16 s_7))
 (k_5  s_7)
theorem lp_q58_1_le {D : Ctx} (x0 x1 k2) {k2'} (hk2 : Cle k2 k2') {u u'} (h : Cle u u') : Cle (lp_q58_1 D x0 x1 k2 u) (lp_q58_1 D x0 x1 k2' u') := by
 unfold lp_q58_1
 repeat (first
  | with_reducible refine Ole.bindr fun _ => ?_
  | with_reducible refine Ole.aCase ?_ ?_
  | refine Cle.succ fun _ => ?_
  | refine Cle.zero fun _ => ?_
  | exact Cle.use0 (by assumption)
  | exact Cle.use1 (by assumption)
  | with_reducible exact Ole.refl _)
theorem lp_q58_1_mono (D x0 x1 k2) : Mono (lp_q58_1 D x0 x1 k2) := fun _ _ => lp_q58_1_le _ _ _ (Cle.refl _)
noncomputable def sh_q58 (D : Ctx) (a0 a1 : AV) (σ : Store) : Res :=
 (lenV .sl a0 σ).bind fun t_1 =>
 (lenV .sl a1 σ).bind fun t_2 =>
 (bin .neq .num t_1 t_2).bind fun t_3 =>
 aCase t_3
 (some ((.bool false), σ))
 (jn 0 (fun  s_4 =>
 some ((.bool true), s_4))
 (fun k_5 =>
 lpFix 1 (lp_q58_1 D a0 a1 k_5) (.int .i64 0) σ))
theorem sh_q58_eq (D : Ctx) (a0 a1 : AV) (σ : Store) : runFn D ir_q58 [a0, a1] σ = sh_q58 D a0 a1 σ := by kernel_rfl
def fns : Nat → Option IFn
 | 4 => some ir_q0
 | 5 => some ir_q1
 | 6 => some ir_q2
 | 7 => some ir_q3
 | 8 => some ir_q4
 | 9 => some ir_q5
 | 10 => some ir_q6
 | 11 => some ir_q7
 | 12 => some ir_q8
 | 13 => some ir_q9
 | 14 => some ir_q10
 | 15 => some ir_q11
 | 16 => some ir_q12
 | 17 => some ir_q13
 | 18 => some ir_q4_1
 | 19 => some ir_q14
 | 20 => some ir_q15
 | 21 => some ir_q16
 | 22 => some ir_q17
 | 23 => some ir_q18
 | 24 => some ir_q19
 | 25 => some ir_q20
 | 26 => some ir_q21
 | 27 => some ir_q22
 | 28 => some ir_q23
 | 29 => some ir_q24
 | 30 => some ir_q12_1
 | 31 => some ir_q12_2
 | 32 => some ir_q25
 | 33 => some ir_q26
 | 34 => some ir_q12_3
 | 35 => some ir_q13_1
 | 36 => some ir_q13_1_1
 | 37 => some ir_q27
 | 38 => some ir_q28
 | 39 => some ir_q29
 | 40 => some ir_q30
 | 41 => some ir_q31
 | 42 => some ir_q32
 | 43 => some ir_q33
 | 44 => some ir_q34
 | 45 => some ir_q35
 | 46 => some ir_q36
 | 47 => some ir_q37
 | 48 => some ir_q38
 | 49 => some ir_q39
 | 50 => some ir_q40
 | 51 => some ir_q41
 | 52 => some ir_q42
 | 53 => some ir_q43
 | 54 => some ir_q44
 | 55 => some ir_q45
 | 56 => some ir_q46
 | 57 => some ir_q47
 | 58 => some ir_q48
 | 59 => some ir_q49
 | 60 => some ir_q50
 | 61 => some ir_q51
 | 62 => some ir_q52
 | 63 => some ir_q53
 | 64 => some ir_q54
 | 65 => some ir_q55
 | 66 => some ir_q56
 | 67 => some ir_q57
 | 68 => some ir_q58
 | _ => none
/-- What a call of each function comes to. -/
structure Door (D : Ctx) : Prop where
 f4 : ∀ (a0 : AV) (σ : Store), D.call 4 [a0] σ = sh_q0 D a0 σ
 f5 : ∀ (a0 a1 : AV) (σ : Store), D.call 5 [a0, a1] σ = sh_q1 D a0 a1 σ
 f6 : ∀ (a0 : AV) (σ : Store), D.call 6 [a0] σ = sh_q2 D a0 σ
 f7 : ∀ (a0 : AV) (σ : Store), D.call 7 [a0] σ = sh_q3 D a0 σ
 f8 : ∀ (a0 : AV) (σ : Store), D.call 8 [a0] σ = sh_q4 D a0 σ
 f9 : ∀ (a0 a1 : AV) (σ : Store), D.call 9 [a0, a1] σ = sh_q5 D a0 a1 σ
 f10 : ∀ (a0 a1 : AV) (σ : Store), D.call 10 [a0, a1] σ = sh_q6 D a0 a1 σ
 f11 : ∀ (a0 a1 : AV) (σ : Store), D.call 11 [a0, a1] σ = sh_q7 D a0 a1 σ
 f12 : ∀ (a0 : AV) (σ : Store), D.call 12 [a0] σ = sh_q8 D a0 σ
 f13 : ∀ (a0 : AV) (σ : Store), D.call 13 [a0] σ = sh_q9 D a0 σ
 f14 : ∀ (a0 : AV) (σ : Store), D.call 14 [a0] σ = sh_q10 D a0 σ
 f15 : ∀ (a0 : AV) (σ : Store), D.call 15 [a0] σ = sh_q11 D a0 σ
 f16 : ∀ (a0 a1 : AV) (σ : Store), D.call 16 [a0, a1] σ = sh_q12 D a0 a1 σ
 f17 : ∀ (a0 a1 : AV) (σ : Store), D.call 17 [a0, a1] σ = sh_q13 D a0 a1 σ
 f18 : ∀ (a0 a1 a2 a3 a4 a5 a6 a7 : AV) (σ : Store), D.call 18 [a0, a1, a2, a3, a4, a5, a6, a7] σ = sh_q4_1 D a0 a1 a2 a3 a4 a5 a6 a7 σ
 f19 : ∀ (a0 : AV) (σ : Store), D.call 19 [a0] σ = sh_q14 D a0 σ
 f20 : ∀ (a0 a1 : AV) (σ : Store), D.call 20 [a0, a1] σ = sh_q15 D a0 a1 σ
 f21 : ∀ (a0 a1 : AV) (σ : Store), D.call 21 [a0, a1] σ = sh_q16 D a0 a1 σ
 f22 : ∀ (a0 a1 a2 : AV) (σ : Store), D.call 22 [a0, a1, a2] σ = sh_q17 D a0 a1 a2 σ
 f23 : ∀ (a0 a1 : AV) (σ : Store), D.call 23 [a0, a1] σ = sh_q18 D a0 a1 σ
 f24 : ∀ (a0 a1 : AV) (σ : Store), D.call 24 [a0, a1] σ = sh_q19 D a0 a1 σ
 f25 : ∀ (a0 : AV) (σ : Store), D.call 25 [a0] σ = sh_q20 D a0 σ
 f26 : ∀ (a0 a1 a2 a3 a4 : AV) (σ : Store), D.call 26 [a0, a1, a2, a3, a4] σ = sh_q21 D a0 a1 a2 a3 a4 σ
 f27 : ∀ (a0 a1 a2 : AV) (σ : Store), D.call 27 [a0, a1, a2] σ = sh_q22 D a0 a1 a2 σ
 f28 : ∀ (a0 a1 a2 a3 a4 : AV) (σ : Store), D.call 28 [a0, a1, a2, a3, a4] σ = sh_q23 D a0 a1 a2 a3 a4 σ
 f29 : ∀ (a0 : AV) (σ : Store), D.call 29 [a0] σ = sh_q24 D a0 σ
 f30 : ∀ (a0 a1 a2 a3 : AV) (σ : Store), D.call 30 [a0, a1, a2, a3] σ = sh_q12_1 D a0 a1 a2 a3 σ
 f31 : ∀ (a0 a1 a2 : AV) (σ : Store), D.call 31 [a0, a1, a2] σ = sh_q12_2 D a0 a1 a2 σ
 f32 : ∀ (a0 : AV) (σ : Store), D.call 32 [a0] σ = sh_q25 D a0 σ
 f33 : ∀ (a0 : AV) (σ : Store), D.call 33 [a0] σ = sh_q26 D a0 σ
 f34 : ∀ (a0 : AV) (σ : Store), D.call 34 [a0] σ = sh_q12_3 D a0 σ
 f35 : ∀ (a0 a1 a2 a3 a4 a5 : AV) (σ : Store), D.call 35 [a0, a1, a2, a3, a4, a5] σ = sh_q13_1 D a0 a1 a2 a3 a4 a5 σ
 f36 : ∀ (a0 a1 a2 : AV) (σ : Store), D.call 36 [a0, a1, a2] σ = sh_q13_1_1 D a0 a1 a2 σ
 f37 : ∀ (a0 a1 : AV) (σ : Store), D.call 37 [a0, a1] σ = sh_q27 D a0 a1 σ
 f38 : ∀ (a0 a1 : AV) (σ : Store), D.call 38 [a0, a1] σ = sh_q28 D a0 a1 σ
 f39 : ∀ (a0 a1 : AV) (σ : Store), D.call 39 [a0, a1] σ = sh_q29 D a0 a1 σ
 f40 : ∀ (a0 a1 : AV) (σ : Store), D.call 40 [a0, a1] σ = sh_q30 D a0 a1 σ
 f41 : ∀ (a0 a1 : AV) (σ : Store), D.call 41 [a0, a1] σ = sh_q31 D a0 a1 σ
 f42 : ∀ (a0 : AV) (σ : Store), D.call 42 [a0] σ = sh_q32 D a0 σ
 f43 : ∀ (a0 a1 : AV) (σ : Store), D.call 43 [a0, a1] σ = sh_q33 D a0 a1 σ
 f44 : ∀ (a0 a1 : AV) (σ : Store), D.call 44 [a0, a1] σ = sh_q34 D a0 a1 σ
 f45 : ∀ (a0 a1 a2 a3 : AV) (σ : Store), D.call 45 [a0, a1, a2, a3] σ = sh_q35 D a0 a1 a2 a3 σ
 f46 : ∀ (a0 : AV) (σ : Store), D.call 46 [a0] σ = sh_q36 D a0 σ
 f47 : ∀ (a0 : AV) (σ : Store), D.call 47 [a0] σ = sh_q37 D a0 σ
 f48 : ∀ (a0 : AV) (σ : Store), D.call 48 [a0] σ = sh_q38 D a0 σ
 f49 : ∀ (a0 a1 : AV) (σ : Store), D.call 49 [a0, a1] σ = sh_q39 D a0 a1 σ
 f50 : ∀ (a0 a1 : AV) (σ : Store), D.call 50 [a0, a1] σ = sh_q40 D a0 a1 σ
 f51 : ∀ (a0 a1 : AV) (σ : Store), D.call 51 [a0, a1] σ = sh_q41 D a0 a1 σ
 f52 : ∀ (a0 a1 : AV) (σ : Store), D.call 52 [a0, a1] σ = sh_q42 D a0 a1 σ
 f53 : ∀ (a0 a1 a2 : AV) (σ : Store), D.call 53 [a0, a1, a2] σ = sh_q43 D a0 a1 a2 σ
 f54 : ∀ (a0 a1 a2 a3 a4 a5 : AV) (σ : Store), D.call 54 [a0, a1, a2, a3, a4, a5] σ = sh_q44 D a0 a1 a2 a3 a4 a5 σ
 f55 : ∀ (a0 a1 a2 a3 : AV) (σ : Store), D.call 55 [a0, a1, a2, a3] σ = sh_q45 D a0 a1 a2 a3 σ
 f56 : ∀ (a0 : AV) (σ : Store), D.call 56 [a0] σ = sh_q46 D a0 σ
 f57 : ∀ (a0 : AV) (σ : Store), D.call 57 [a0] σ = sh_q47 D a0 σ
 f58 : ∀ (a0 a1 : AV) (σ : Store), D.call 58 [a0, a1] σ = sh_q48 D a0 a1 σ
 f59 : ∀ (a0 a1 : AV) (σ : Store), D.call 59 [a0, a1] σ = sh_q49 D a0 a1 σ
 f60 : ∀ (a0 : AV) (σ : Store), D.call 60 [a0] σ = sh_q50 D a0 σ
 f61 : ∀ (a0 : AV) (σ : Store), D.call 61 [a0] σ = sh_q51 D a0 σ
 f62 : ∀ (a0 a1 : AV) (σ : Store), D.call 62 [a0, a1] σ = sh_q52 D a0 a1 σ
 f63 : ∀ (a0 a1 : AV) (σ : Store), D.call 63 [a0, a1] σ = sh_q53 D a0 a1 σ
 f64 : ∀ (a0 a1 : AV) (σ : Store), D.call 64 [a0, a1] σ = sh_q54 D a0 a1 σ
 f65 : ∀ (a0 : AV) (σ : Store), D.call 65 [a0] σ = sh_q55 D a0 σ
 f66 : ∀ (a0 : AV) (σ : Store), D.call 66 [a0] σ = sh_q56 D a0 σ
 f67 : ∀ (a0 a1 : AV) (σ : Store), D.call 67 [a0, a1] σ = sh_q57 D a0 a1 σ
 f68 : ∀ (a0 a1 : AV) (σ : Store), D.call 68 [a0, a1] σ = sh_q58 D a0 a1 σ
theorem door (G : Nat → Option AV) : Door (Ctx.den fns G) where
 f4 := fun a0 σ => (den_eq fns G rfl _ _).trans (sh_q0_eq _ _ _)
 f5 := fun a0 a1 σ => (den_eq fns G rfl _ _).trans (sh_q1_eq _ _ _ _)
 f6 := fun a0 σ => (den_eq fns G rfl _ _).trans (sh_q2_eq _ _ _)
 f7 := fun a0 σ => (den_eq fns G rfl _ _).trans (sh_q3_eq _ _ _)
 f8 := fun a0 σ => (den_eq fns G rfl _ _).trans (sh_q4_eq _ _ _)
 f9 := fun a0 a1 σ => (den_eq fns G rfl _ _).trans (sh_q5_eq _ _ _ _)
 f10 := fun a0 a1 σ => (den_eq fns G rfl _ _).trans (sh_q6_eq _ _ _ _)
 f11 := fun a0 a1 σ => (den_eq fns G rfl _ _).trans (sh_q7_eq _ _ _ _)
 f12 := fun a0 σ => (den_eq fns G rfl _ _).trans (sh_q8_eq _ _ _)
 f13 := fun a0 σ => (den_eq fns G rfl _ _).trans (sh_q9_eq _ _ _)
 f14 := fun a0 σ => (den_eq fns G rfl _ _).trans (sh_q10_eq _ _ _)
 f15 := fun a0 σ => (den_eq fns G rfl _ _).trans (sh_q11_eq _ _ _)
 f16 := fun a0 a1 σ => (den_eq fns G rfl _ _).trans (sh_q12_eq _ _ _ _)
 f17 := fun a0 a1 σ => (den_eq fns G rfl _ _).trans (sh_q13_eq _ _ _ _)
 f18 := fun a0 a1 a2 a3 a4 a5 a6 a7 σ => (den_eq fns G rfl _ _).trans (sh_q4_1_eq _ _ _ _ _ _ _ _ _ _)
 f19 := fun a0 σ => (den_eq fns G rfl _ _).trans (sh_q14_eq _ _ _)
 f20 := fun a0 a1 σ => (den_eq fns G rfl _ _).trans (sh_q15_eq _ _ _ _)
 f21 := fun a0 a1 σ => (den_eq fns G rfl _ _).trans (sh_q16_eq _ _ _ _)
 f22 := fun a0 a1 a2 σ => (den_eq fns G rfl _ _).trans (sh_q17_eq _ _ _ _ _)
 f23 := fun a0 a1 σ => (den_eq fns G rfl _ _).trans (sh_q18_eq _ _ _ _)
 f24 := fun a0 a1 σ => (den_eq fns G rfl _ _).trans (sh_q19_eq _ _ _ _)
 f25 := fun a0 σ => (den_eq fns G rfl _ _).trans (sh_q20_eq _ _ _)
 f26 := fun a0 a1 a2 a3 a4 σ => (den_eq fns G rfl _ _).trans (sh_q21_eq _ _ _ _ _ _ _)
 f27 := fun a0 a1 a2 σ => (den_eq fns G rfl _ _).trans (sh_q22_eq _ _ _ _ _)
 f28 := fun a0 a1 a2 a3 a4 σ => (den_eq fns G rfl _ _).trans (sh_q23_eq _ _ _ _ _ _ _)
 f29 := fun a0 σ => (den_eq fns G rfl _ _).trans (sh_q24_eq _ _ _)
 f30 := fun a0 a1 a2 a3 σ => (den_eq fns G rfl _ _).trans (sh_q12_1_eq _ _ _ _ _ _)
 f31 := fun a0 a1 a2 σ => (den_eq fns G rfl _ _).trans (sh_q12_2_eq _ _ _ _ _)
 f32 := fun a0 σ => (den_eq fns G rfl _ _).trans (sh_q25_eq _ _ _)
 f33 := fun a0 σ => (den_eq fns G rfl _ _).trans (sh_q26_eq _ _ _)
 f34 := fun a0 σ => (den_eq fns G rfl _ _).trans (sh_q12_3_eq _ _ _)
 f35 := fun a0 a1 a2 a3 a4 a5 σ => (den_eq fns G rfl _ _).trans (sh_q13_1_eq _ _ _ _ _ _ _ _)
 f36 := fun a0 a1 a2 σ => (den_eq fns G rfl _ _).trans (sh_q13_1_1_eq _ _ _ _ _)
 f37 := fun a0 a1 σ => (den_eq fns G rfl _ _).trans (sh_q27_eq _ _ _ _)
 f38 := fun a0 a1 σ => (den_eq fns G rfl _ _).trans (sh_q28_eq _ _ _ _)
 f39 := fun a0 a1 σ => (den_eq fns G rfl _ _).trans (sh_q29_eq _ _ _ _)
 f40 := fun a0 a1 σ => (den_eq fns G rfl _ _).trans (sh_q30_eq _ _ _ _)
 f41 := fun a0 a1 σ => (den_eq fns G rfl _ _).trans (sh_q31_eq _ _ _ _)
 f42 := fun a0 σ => (den_eq fns G rfl _ _).trans (sh_q32_eq _ _ _)
 f43 := fun a0 a1 σ => (den_eq fns G rfl _ _).trans (sh_q33_eq _ _ _ _)
 f44 := fun a0 a1 σ => (den_eq fns G rfl _ _).trans (sh_q34_eq _ _ _ _)
 f45 := fun a0 a1 a2 a3 σ => (den_eq fns G rfl _ _).trans (sh_q35_eq _ _ _ _ _ _)
 f46 := fun a0 σ => (den_eq fns G rfl _ _).trans (sh_q36_eq _ _ _)
 f47 := fun a0 σ => (den_eq fns G rfl _ _).trans (sh_q37_eq _ _ _)
 f48 := fun a0 σ => (den_eq fns G rfl _ _).trans (sh_q38_eq _ _ _)
 f49 := fun a0 a1 σ => (den_eq fns G rfl _ _).trans (sh_q39_eq _ _ _ _)
 f50 := fun a0 a1 σ => (den_eq fns G rfl _ _).trans (sh_q40_eq _ _ _ _)
 f51 := fun a0 a1 σ => (den_eq fns G rfl _ _).trans (sh_q41_eq _ _ _ _)
 f52 := fun a0 a1 σ => (den_eq fns G rfl _ _).trans (sh_q42_eq _ _ _ _)
 f53 := fun a0 a1 a2 σ => (den_eq fns G rfl _ _).trans (sh_q43_eq _ _ _ _ _)
 f54 := fun a0 a1 a2 a3 a4 a5 σ => (den_eq fns G rfl _ _).trans (sh_q44_eq _ _ _ _ _ _ _ _)
 f55 := fun a0 a1 a2 a3 σ => (den_eq fns G rfl _ _).trans (sh_q45_eq _ _ _ _ _ _)
 f56 := fun a0 σ => (den_eq fns G rfl _ _).trans (sh_q46_eq _ _ _)
 f57 := fun a0 σ => (den_eq fns G rfl _ _).trans (sh_q47_eq _ _ _)
 f58 := fun a0 a1 σ => (den_eq fns G rfl _ _).trans (sh_q48_eq _ _ _ _)
 f59 := fun a0 a1 σ => (den_eq fns G rfl _ _).trans (sh_q49_eq _ _ _ _)
 f60 := fun a0 σ => (den_eq fns G rfl _ _).trans (sh_q50_eq _ _ _)
 f61 := fun a0 σ => (den_eq fns G rfl _ _).trans (sh_q51_eq _ _ _)
 f62 := fun a0 a1 σ => (den_eq fns G rfl _ _).trans (sh_q52_eq _ _ _ _)
 f63 := fun a0 a1 σ => (den_eq fns G rfl _ _).trans (sh_q53_eq _ _ _ _)
 f64 := fun a0 a1 σ => (den_eq fns G rfl _ _).trans (sh_q54_eq _ _ _ _)
 f65 := fun a0 σ => (den_eq fns G rfl _ _).trans (sh_q55_eq _ _ _)
 f66 := fun a0 σ => (den_eq fns G rfl _ _).trans (sh_q56_eq _ _ _)
 f67 := fun a0 a1 σ => (den_eq fns G rfl _ _).trans (sh_q57_eq _ _ _ _)
 f68 := fun a0 a1 σ => (den_eq fns G rfl _ _).trans (sh_q58_eq _ _ _ _)
end Go.Asm.UnitF

