/- Part 4 of 8 of a proof. -/
import Derived.KernelRfl
import Derived.Test.YtebmeojmlakkoaaT3
set_option linter.all false
namespace Go.Asm.UnitF
open Go Go.Asm
set_option maxRecDepth 100000
def ir_q0 : IFn := ⟨[.tmp 2],
.rs (ops [(1,.pbox 0),
(2,.mv (.c (.bool false)))]) (
.rs (ops [(3,.mv (Cn 1048576))]) (
.rs (ops [(7,.load true 1 1),
(8,.mv 3),
(9,.callV 5 [7, 8]),
(3,.mv 9)]) (
.seq (.rs (ops [(10,.mv 3),
(11,.bin .lss .num 10 (Cn 0))]) (
.cond 11 none (.rs (ops [(2,.mv (.c (.bool true)))]) (
.ret)) (.skip))) (
.rs (ops [(12,.load true 1 1),
(13,.callP 7 [12]),
(14,.callV 6 [13]),
(4,.zalloc [(.int .i64 0), (.int .i64 0), (.int .i64 0)])] (
.op none (.store true 3 4 14) (
.freeze 4 (
.done)))) (
.rs (ops [(15,.load true 1 1),
(16,.callP 7 [15]),
(5,.zalloc [.nilslice])] (
.op none (.store true 1 5 16) (
.freeze 5 (
.done)))) (
.rs (ops [(17,.load true 1 5),
(18,.callV 8 [17]),
(6,.zalloc [(.int .i64 0), (.int .i64 0), (.int .i64 0)])] (
.op none (.store true 3 6 18) (
.freeze 6 (
.done)))) (
.seq (.rs (ops [(19,.load true 3 6),
(20,.load true 3 4),
(21,.callV 9 [19, 20]),
(22,.un .not 21)]) (
.cond 22 none (.rs (ops [(2,.mv (.c (.bool false)))]) (
.ret)) (.skip))) (
.seq (.seq (.drw (.row 23 (.load true 1 5) (
.row 24 (.load true 1 1) (
.row 25 (.callP 7 [24]) (
.row 26 (.callV 10 [23, 25]) (
.row 27 (.un .not 26) (
.done)))))) [] [] (.done)) (
.cond 27 none (.rs (ops [(2,.mv (.c (.bool false)))]) (
.ret)) (.skip))) (
.rs (ops [(2,.mv (.c (.bool true)))]) (
.ret))))))))))⟩
noncomputable def sh_q0 (D : Ctx) (a0 : AV) (σ : Store) : Res :=
 (rdN 1 (.pptr (AV.cells a0) 0) σ).bind fun t_1 =>
 (callV D 5 [(.agg t_1), (.int .i64 1048576)] σ).bind fun t_2 =>
 (bin .lss .num t_2 (.int .i64 0)).bind fun t_3 =>
 aCase t_3
 (some ((.bool true), σ))
 ((rdN 1 (.pptr (AV.cells a0) 0) σ).bind fun t_4 =>
 (callP D 7 [(.agg t_4)]).bind fun t_5 =>
 (callV D 6 [t_5] σ).bind fun t_6 =>
 (asplit 3 t_6).bind fun cs_7 =>
 (rdN 1 (.pptr (AV.cells a0) 0) σ).bind fun t_8 =>
 (callP D 7 [(.agg t_8)]).bind fun t_9 =>
 (asplit 1 t_9).bind fun cs_10 =>
 (rdN 1 (.pptr cs_10 0) σ).bind fun t_11 =>
 (callV D 8 [(.agg t_11)] σ).bind fun t_12 =>
 (asplit 3 t_12).bind fun cs_13 =>
 (rdN 3 (.pptr cs_13 0) σ).bind fun t_14 =>
 (rdN 3 (.pptr cs_7 0) σ).bind fun t_15 =>
 (callV D 9 [(.agg t_14), (.agg t_15)] σ).bind fun t_16 =>
 (un .not t_16).bind fun t_17 =>
 aCase t_17
 (some ((.bool false), σ))
 ((rdN 1 (.pptr cs_10 0) σ).bind fun t_18 =>
 (rdN 1 (.pptr (AV.cells a0) 0) σ).bind fun t_19 =>
 (callP D 7 [(.agg t_19)]).bind fun t_20 =>
 (callV D 10 [(.agg t_18), t_20] σ).bind fun t_21 =>
 (un .not t_21).bind fun t_22 =>
 aCase t_22
 (some ((.bool false), σ))
 (some ((.bool true), σ))))
theorem sh_q0_eq (D : Ctx) (a0 : AV) (σ : Store) : runFn D ir_q0 [a0] σ = sh_q0 D a0 σ := by kernel_rfl
def ir_q1 : IFn := ⟨[.tmp 4],
.rs (ops [(2,.pbox 0),
(4,.mv (Cn 0))]) (
.rs (ops [(5,.fadd 0 2),
(6,.load false 1 5),
(7,.mv 1),
(8,.callV 11 [6, 7]),
(1,.mv 8)]) (
.seq (.rs (ops [(9,.mv 1),
(10,.bin .lss .num 9 (Cn 0))]) (
.cond 10 none (.rs (ops [(4,.mv (Cn (-1)))]) (
.ret)) (.skip))) (
.rs (ops [(11,.mv 1),
(4,.mv 11)]) (
.ret))))⟩
noncomputable def sh_q1 (D : Ctx) (a0 a1 : AV) (σ : Store) : Res :=
 (rd1 D.G (.pptr (AV.cells a0) 0) σ).bind fun t_1 =>
 (callV D 11 [t_1, a1] σ).bind fun t_2 =>
 (bin .lss .num t_2 (.int .i64 0)).bind fun t_3 =>
 aCase t_3
 (some ((.int .i64 (-1)), σ))
 (some (t_2, σ))
theorem sh_q1_eq (D : Ctx) (a0 a1 : AV) (σ : Store) : runFn D ir_q1 [a0, a1] σ = sh_q1 D a0 a1 σ := by kernel_rfl
def ir_q2 : IFn := ⟨[.cell 2 true 3],
.rs (ops [(1,.pbox 0),
(2,.zalloc [(.int .i64 0), (.int .i64 0), (.int .i64 0)])]) (
.rs (ops [(5,.load true 1 1),
(6,.callV 12 [5]),
(3,.zalloc [(.int .i64 0), (.int .i64 0), (.int .i64 0)])] (
.op none (.store true 3 3 6) (
.freeze 3 (
.done)))) (
.seq (.rs (ops [(7,.fadd 0 3),
(8,.load false 1 7),
(9,.bin .neq .num 8 (Cn 0))]) (
.cond 9 none (.rs (ops [(10,.load true 3 3)] (
.op none (.store true 3 2 10) (
.done))) (
.ret)) (.skip))) (
.rs (ops [(11,.load true 1 1),
(12,.callV 13 [11]),
(4,.zalloc [(.int .i64 0), (.int .i64 0), (.int .i64 0)])] (
.op none (.store true 3 4 12) (
.freeze 4 (
.done)))) (
.seq (.rs (ops [(13,.fadd 0 4),
(14,.load false 1 13),
(15,.bin .neq .num 14 (Cn 0))]) (
.cond 15 none (.rs (ops [(16,.load true 3 4)] (
.op none (.store true 3 2 16) (
.done))) (
.ret)) (.skip))) (
.rs (ops [(17,.load true 1 1),
(18,.callV 14 [17])] (
.op none (.store true 3 2 18) (
.done))) (
.ret))))))⟩
noncomputable def sh_q2 (D : Ctx) (a0 : AV) (σ : Store) : Res :=
 (rdN 1 (.pptr (AV.cells a0) 0) σ).bind fun t_1 =>
 (callV D 12 [(.agg t_1)] σ).bind fun t_2 =>
 (asplit 3 t_2).bind fun cs_3 =>
 (rd1 D.G (.pptr cs_3 0) σ).bind fun t_4 =>
 (bin .neq .num t_4 (.int .i64 0)).bind fun t_5 =>
 aCase t_5
 ((rdN 3 (.pptr cs_3 0) σ).bind fun t_6 =>
 (asplit 3 (.agg t_6)).bind fun cs_7 =>
 some ((.agg cs_7), σ))
 ((rdN 1 (.pptr (AV.cells a0) 0) σ).bind fun t_8 =>
 (callV D 13 [(.agg t_8)] σ).bind fun t_9 =>
 (asplit 3 t_9).bind fun cs_10 =>
 (rd1 D.G (.pptr cs_10 0) σ).bind fun t_11 =>
 (bin .neq .num t_11 (.int .i64 0)).bind fun t_12 =>
 aCase t_12
 ((rdN 3 (.pptr cs_10 0) σ).bind fun t_13 =>
 (asplit 3 (.agg t_13)).bind fun cs_14 =>
 some ((.agg cs_14), σ))
 ((rdN 1 (.pptr (AV.cells a0) 0) σ).bind fun t_15 =>
 (callV D 14 [(.agg t_15)] σ).bind fun t_16 =>
 (asplit 3 t_16).bind fun cs_17 =>
 some ((.agg cs_17), σ)))
theorem sh_q2_eq (D : Ctx) (a0 : AV) (σ : Store) : runFn D ir_q2 [a0] σ = sh_q2 D a0 σ := by kernel_rfl
def ir_q3 : IFn := ⟨[.cell 2 true 1],
.rs (ops [(1,.pbox 0),
(2,.zalloc [.nilslice])]) (
.rs (ops [(3,.zalloc [.nilslice])]) (
.rs (ops [(4,.fadd 0 1),
(5,.load false 1 4),
(6,.callP 15 [5]),
(7,.fadd 0 3)] (
.op none (.store false 1 7 6) (
.freeze 3 (
.done)))) (
.rs (ops [(8,.load true 1 3)] (
.op none (.store true 1 2 8) (
.freeze 2 (
.done)))) (
.ret))))⟩
noncomputable def sh_q3 (D : Ctx) (a0 : AV) (σ : Store) : Res :=
 (rd1 D.G (.pptr (AV.cells a0) 0) σ).bind fun t_1 =>
 (callP D 15 [t_1]).bind fun t_2 =>
 (one t_2).bind fun o_3 =>
 some ((.agg [o_3]), σ)
theorem sh_q3_eq (D : Ctx) (a0 : AV) (σ : Store) : runFn D ir_q3 [a0] σ = sh_q3 D a0 σ := by kernel_rfl
def ir_q4 : IFn := ⟨[.cell 2 true 3],
.rs (ops [(1,.pbox 0),
(2,.zalloc [(.int .i64 0), (.int .i64 0), (.int .i64 0)])]) (
.rs (ops [(3,.mv (Cn 0))]) (
.seq (.rs (ops [(60,.fadd 0 1),
(61,.load false 1 60),
(62,.len .sl 61),
(63,.mv (Cn 0))]) (
.block 0 (some ⟨[3], [(2, 3)]⟩) (
.loop ⟨[3, 63], [(2, 3)]⟩ (
.rs (ops [(64,.bin .lss .num 63 62)]) (
.seq (.cond 64 none (.skip) (.exit 0)) (
.seq (.block 1 none (
.rs (ops [(65,.idx 7 61 63),
(66,.load true 7 65),
(5,.zalloc [(.str ⟨#[]⟩), (.int .i64 0), (.int .i64 0), (.bool false), .nilslice, .nilslice, .nilslice])] (
.op none (.store true 7 5 66) (
.freeze 5 (
.done)))) (
.rs (ops [(67,.mv 3),
(68,.fadd 6 5),
(69,.load false 1 68),
(70,.len .sl 69),
(71,.bin .add .num 67 70),
(3,.mv 71)]) (
.rs (ops [(72,.mv 3),
(73,.bin .gtr .num 72 (Cn 3000))]) (
.cond 73 none (.exit 0) (.skip)))))) (
.reg (ops [(74,.bin .add .num 63 (Cn 1)),
(63,.mv 74)])))))))) (
.seq (.rs (ops [(75,.fadd 0 1),
(76,.load false 1 75),
(77,.len .sl 76),
(78,.bin .lss .num 77 (Cn 1)),
(79,.mv 78)] (
.dia 79 (
.gop 79 false (some 80) (.fadd 0 1) (
.gop 79 false (some 81) (.load false 1 80) (
.gop 79 false (some 82) (.len .sl 81) (
.gop 79 false (some 83) (.bin .gtr .num 82 (Cn 300)) (
.done))))) 84 79 (.c (.bool true)) 83 none (
 ops [(85,.mv 84)] (
.dia 85 (
.gop 85 false (some 86) (.mv 3) (
.gop 85 false (some 87) (.bin .gtr .num 86 (Cn 3000)) (
.done))) 88 85 (.c (.bool true)) 87 none (
.done))))) (
.cond 88 none (.rs (ops [(89,.build [(.int .i64 0), (.int .i64 0), (.int .i64 0)] [(0, 1, false, (Cn 1)), (1, 1, false, (Cn 0)), (2, 1, false, (Cn 0))])] (
.op none (.store true 3 2 89) (
.done))) (
.ret)) (.skip))) (
.seq (.rs (ops [(90,.fadd 0 1),
(91,.load false 1 90),
(92,.len .sl 91),
(93,.mv (Cn 0))]) (
.block 2 (some ⟨[], [(2, 3)]⟩) (
.loop ⟨[93], [(2, 3)]⟩ (
.rs (ops [(94,.bin .lss .num 93 92)]) (
.seq (.cond 94 none (.skip) (.exit 2)) (
.seq (.block 3 none (
.rs (ops [(95,.mv 93),
(96,.idx 7 91 93),
(97,.load true 7 96),
(7,.zalloc [(.str ⟨#[]⟩), (.int .i64 0), (.int .i64 0), (.bool false), .nilslice, .nilslice, .nilslice]),
(6,.mv 95)] (
.op none (.store true 7 7 97) (
.freeze 7 (
.done)))) (
.seq (.rs (ops [(98,.fadd 6 7),
(99,.load false 1 98),
(100,.len .sl 99),
(101,.bin .eql .num 100 (Cn 0)),
(102,.mv 101)] (
.dia 102 (
.gop 102 false (some 103) (.fadd 4 7) (
.gop 102 false (some 104) (.load false 1 103) (
.gop 102 false (some 105) (.len .sl 104) (
.gop 102 false (some 106) (.bin .gtr .num 105 (Cn 200)) (
.done))))) 107 102 (.c (.bool true)) 106 none (
 ops [(108,.mv 107)] (
.dia 108 (
.gop 108 false (some 109) (.fadd 5 7) (
.gop 108 false (some 110) (.load false 1 109) (
.gop 108 false (some 111) (.len .sl 110) (
.gop 108 false (some 112) (.bin .gtr .num 111 (Cn 200)) (
.done))))) 113 108 (.c (.bool true)) 112 none (
 ops [(114,.mv 113)] (
.dia 114 (
.gop 114 false (some 115) (.fadd 2 7) (
.gop 114 false (some 116) (.load false 1 115) (
.gop 114 false (some 117) (.bin .lss .num 116 (Cn 0)) (
.done)))) 118 114 (.c (.bool true)) 117 none (
 ops [(119,.mv 118)] (
.dia 119 (
.gop 119 false (some 120) (.fadd 2 7) (
.gop 119 false (some 121) (.load false 1 120) (
.gop 119 false (some 122) (.fadd 4 7) (
.gop 119 false (some 123) (.load false 1 122) (
.gop 119 false (some 124) (.len .sl 123) (
.gop 119 false (some 125) (.bin .gtr .num 121 124) (
.done))))))) 126 119 (.c (.bool true)) 125 none (
 ops [(127,.mv 126)] (
.dia 127 (
.gop 127 false (some 128) (.fadd 1 7) (
.gop 127 false (some 129) (.load false 1 128) (
.gop 127 false (some 130) (.bin .lss .num 129 (Cn 0)) (
.done)))) 131 127 (.c (.bool true)) 130 none (
 ops [(132,.mv 131)] (
.dia 132 (
.gop 132 false (some 133) (.fadd 1 7) (
.gop 132 false (some 134) (.load false 1 133) (
.gop 132 false (some 135) (.bin .gtr .num 134 (Cn 100000)) (
.done)))) 136 132 (.c (.bool true)) 135 none (
 ops [(137,.mv 136)] (
.dia 137 (
.gop 137 false (some 138) (.fadd 0 7) (
.gop 137 false (some 139) (.load false 1 138) (
.gop 137 false (some 140) (.len .str 139) (
.gop 137 false (some 141) (.bin .gtr .num 140 (Cn 40)) (
.done))))) 142 137 (.c (.bool true)) 141 none (
 ops [(143,.mv 142)] (
.dia 143 (
.gop 143 false (some 144) (.mv 6) (
.gop 143 false (some 145) (.bin .eql .num 144 (Cn 0)) (
.gop 143 false (some 146) (.mv 145) (
.dia 146 (
.gop 146 true (some 147) (.fadd 2 7) (
.gop 146 true (some 148) (.load false 1 147) (
.gop 146 true (some 149) (.bin .gtr .num 148 (Cn 0)) (
.gop 146 true (some 150) (.mv 149) (
.dia 150 (
.gop 150 false (some 151) (.fadd 5 7) (
.gop 150 false (some 152) (.load false 1 151) (
.gop 150 false (some 153) (.len .sl 152) (
.gop 150 false (some 154) (.bin .gtr .num 153 (Cn 0)) (
.done))))) 155 150 (.c (.bool true)) 154 (some (146, true)) (
.done)))))) 156 146 155 (.c (.bool false)) (some (143, false)) (
.done))))) 157 143 (.c (.bool true)) 156 none (
.done))))))))))))))))) (
.cond 157 none (.rs (ops [(158,.mv 6),
(159,.build [(.int .i64 0), (.int .i64 0), (.int .i64 0)] [(0, 1, false, (Cn 2)), (1, 1, false, 158), (2, 1, false, (Cn 0))])] (
.op none (.store true 3 2 159) (
.done))) (
.ret)) (.skip))) (
.rs (ops [(160,.fadd 4 7),
(161,.load false 1 160),
(162,.len .sl 161),
(163,.mv (Cn 0))]) (
.block 4 (some ⟨[], [(2, 3)]⟩) (
.loop ⟨[163], [(2, 3)]⟩ (
.rs (ops [(164,.bin .lss .num 163 162)]) (
.seq (.cond 164 none (.skip) (.exit 4)) (
.seq (.block 5 none (
.rs (ops [(165,.idx 1 161 163),
(166,.load false 1 165),
(9,.mv 166)]) (
.rs (ops [(167,.mv 9),
(168,.len .str 167),
(169,.bin .lss .num 168 (Cn 1)),
(170,.mv 169)] (
.dia 170 (
.gop 170 false (some 171) (.mv 9) (
.gop 170 false (some 172) (.len .str 171) (
.gop 170 false (some 173) (.bin .gtr .num 172 (Cn 40)) (
.done)))) 174 170 (.c (.bool true)) 173 none (
.done))) (
.cond 174 none (.rs (ops [(175,.mv 6),
(176,.build [(.int .i64 0), (.int .i64 0), (.int .i64 0)] [(0, 1, false, (Cn 2)), (1, 1, false, 175), (2, 1, false, (Cn 0))])] (
.op none (.store true 3 2 176) (
.done))) (
.ret)) (.skip))))) (
.reg (ops [(177,.bin .add .num 163 (Cn 1)),
(163,.mv 177)]))))))))))) (
.reg (ops [(178,.bin .add .num 93 (Cn 1)),
(93,.mv 178)])))))))) (
.seq (.rs (ops [(179,.fadd 0 1),
(180,.load false 1 179),
(181,.len .sl 180),
(182,.mv (Cn 0))]) (
.block 6 (some ⟨[], [(2, 3)]⟩) (
.loop ⟨[182], [(2, 3)]⟩ (
.rs (ops [(183,.bin .lss .num 182 181)]) (
.seq (.cond 183 none (.skip) (.exit 6)) (
.seq (.block 7 none (
.rs (ops [(184,.mv 182),
(185,.idx 7 180 182),
(186,.load true 7 185),
(11,.zalloc [(.str ⟨#[]⟩), (.int .i64 0), (.int .i64 0), (.bool false), .nilslice, .nilslice, .nilslice]),
(10,.mv 184)] (
.op none (.store true 7 11 186) (
.freeze 11 (
.done)))) (
.rs (ops [(187,.fadd 6 11),
(188,.load false 1 187),
(189,.len .sl 188),
(190,.mv (Cn 0))]) (
.block 8 (some ⟨[], [(2, 3)]⟩) (
.loop ⟨[190], [(2, 3)]⟩ (
.rs (ops [(191,.bin .lss .num 190 189)]) (
.seq (.cond 191 none (.skip) (.exit 8)) (
.seq (.block 9 none (
.rs (ops [(192,.mv 190),
(193,.idx 8 188 190),
(194,.load true 8 193),
(13,.zalloc [(.int .i64 0), (.int .i64 0), (.int .i64 0), (.int .i64 0), (.flt 0), (.str ⟨#[]⟩), .nilslice, .nilslice]),
(12,.mv 192)] (
.op none (.store true 8 13 194) (
.freeze 13 (
.done)))) (
.rs (ops [(14,.mv (.c .nilslice))]) (
.rs (ops [(15,.mv (.c (.bool true)))]) (
.seq (.rs (ops [(195,.fadd 7 13),
(196,.load false 1 195),
(197,.len .sl 196),
(198,.mv (Cn 0))]) (
.block 10 (some ⟨[14, 15], [(2, 3)]⟩) (
.loop ⟨[14, 15, 198], [(2, 3)]⟩ (
.rs (ops [(199,.bin .lss .num 198 197)]) (
.seq (.cond 199 none (.skip) (.exit 10)) (
.seq (.block 11 none (
.rs (ops [(200,.idx 1 196 198),
(201,.load false 1 200),
(17,.mv 201)]) (
.seq (.rs (ops [(202,.mv 17),
(203,.bin .lss .num 202 (Cn 0)),
(204,.mv 203)] (
.dia 204 (
.gop 204 false (some 205) (.mv 17) (
.gop 204 false (some 206) (.mv 12) (
.gop 204 false (some 207) (.bin .geq .num 205 206) (
.done)))) 208 204 (.c (.bool true)) 207 none (
.done))) (
.cond 208 none (.rs (ops [(15,.mv (.c (.bool false)))]) (
.exit 10)) (.skip))) (
.reg (ops [(209,.mv 14),
(210,.fadd 6 11),
(211,.load false 1 210),
(212,.mv 17),
(213,.idx 8 211 212),
(214,.fadd 0 213),
(215,.load false 1 214),
(216,.pslice 1 [(.int .i64 0)] 1 [(0, false, 215)]),
(217,.app 1 209 216),
(14,.mv 217)]))))) (
.reg (ops [(218,.bin .add .num 198 (Cn 1)),
(198,.mv 218)])))))))) (
.rs (ops [(219,.mv 15),
(220,.un .not 219),
(221,.mv 220)] (
.dia 221 (
.gop 221 false (some 222) (.load true 8 13) (
.gop 221 false (some 223) (.mv 14) (
.gop 221 false (some 224) (.callV 16 [222, 223]) (
.gop 221 false (some 225) (.un .not 224) (
.done))))) 226 221 (.c (.bool true)) 225 none (
.done))) (
.cond 226 none (.rs (ops [(227,.mv 10),
(228,.mv 12),
(229,.build [(.int .i64 0), (.int .i64 0), (.int .i64 0)] [(0, 1, false, (Cn 3)), (1, 1, false, 227), (2, 1, false, 228)])] (
.op none (.store true 3 2 229) (
.done))) (
.ret)) (.skip)))))))) (
.reg (ops [(230,.bin .add .num 190 (Cn 1)),
(190,.mv 230)])))))))))) (
.reg (ops [(231,.bin .add .num 182 (Cn 1)),
(182,.mv 231)])))))))) (
.seq (.rs (ops [(232,.fadd 0 1),
(233,.load false 1 232),
(234,.len .sl 233),
(235,.mv (Cn 0))]) (
.block 12 (some ⟨[], [(2, 3)]⟩) (
.loop ⟨[235], [(2, 3)]⟩ (
.rs (ops [(236,.bin .lss .num 235 234)]) (
.seq (.cond 236 none (.skip) (.exit 12)) (
.seq (.block 13 none (
.rs (ops [(237,.mv 235),
(238,.idx 7 233 235),
(239,.load true 7 238),
(19,.zalloc [(.str ⟨#[]⟩), (.int .i64 0), (.int .i64 0), (.bool false), .nilslice, .nilslice, .nilslice]),
(18,.mv 237)] (
.op none (.store true 7 19 239) (
.freeze 19 (
.done)))) (
.rs (ops [(240,.fadd 6 19),
(241,.load false 1 240),
(242,.len .sl 241),
(243,.mkSlice [(.int .i64 0)] 242),
(20,.mv 243)]) (
.seq (.rs (ops [(244,.fadd 6 19),
(245,.load false 1 244),
(246,.len .sl 245),
(247,.mv (Cn 0))]) (
.block 14 (some ⟨[], [(2, 3)]⟩) (
.loop ⟨[247], [(2, 3)]⟩ (
.rs (ops [(248,.bin .lss .num 247 246)]) (
.seq (.cond 248 none (.skip) (.exit 14)) (
.seq (.block 15 none (
.rs (ops [(249,.idx 8 245 247),
(250,.load true 8 249),
(22,.zalloc [(.int .i64 0), (.int .i64 0), (.int .i64 0), (.int .i64 0), (.flt 0), (.str ⟨#[]⟩), .nilslice, .nilslice])] (
.op none (.store true 8 22 250) (
.freeze 22 (
.done)))) (
.rs (ops [(251,.fadd 7 22),
(252,.load false 1 251),
(253,.len .sl 252),
(254,.mv (Cn 0))]) (
.block 16 (some ⟨[], [(2, 3)]⟩) (
.loop ⟨[254], [(2, 3)]⟩ (
.rs (ops [(255,.bin .lss .num 254 253)]) (
.seq (.cond 255 none (.skip) (.exit 16)) (
.seq (.block 17 none (
.rs (ops [(256,.idx 1 252 254),
(257,.load false 1 256),
(24,.mv 257)]) (
.reg (ops [(258,.mv 20),
(259,.mv 24),
(260,.idx 1 258 259),
(261,.load false 1 260),
(262,.bin .add .num 261 (Cn 1)),
(263,.idx 1 258 259)] (
.op none (.store false 1 263 262) (
.done)))))) (
.reg (ops [(264,.bin .add .num 254 (Cn 1)),
(254,.mv 264)])))))))))) (
.reg (ops [(265,.bin .add .num 247 (Cn 1)),
(247,.mv 265)])))))))) (
.rs (ops [(266,.fadd 6 19),
(267,.load false 1 266),
(268,.len .sl 267),
(269,.bin .sub .num 268 (Cn 1)),
(25,.mv 269)]) (
.rs (ops [(270,.fadd 6 19),
(271,.load false 1 270),
(272,.len .sl 271),
(273,.mv (Cn 0))]) (
.block 18 (some ⟨[], [(2, 3)]⟩) (
.loop ⟨[273], [(2, 3)]⟩ (
.rs (ops [(274,.bin .lss .num 273 272)]) (
.seq (.cond 274 none (.skip) (.exit 18)) (
.seq (.block 19 none (
.rs (ops [(275,.mv 273),
(26,.mv 275)]) (
.rs (ops [(276,.mv 26),
(277,.mv 25),
(278,.bin .lss .num 276 277),
(279,.mv 278)] (
.dia 279 (
.gop 279 true (some 280) (.mv 20) (
.gop 279 true (some 281) (.mv 26) (
.gop 279 true (some 282) (.idx 1 280 281) (
.gop 279 true (some 283) (.load false 1 282) (
.gop 279 true (some 284) (.bin .neq .num 283 (Cn 1)) (
.done)))))) 285 279 284 (.c (.bool false)) none (
 ops [(286,.mv 285)] (
.dia 286 (
.gop 286 false (some 287) (.mv 26) (
.gop 286 false (some 288) (.mv 25) (
.gop 286 false (some 289) (.bin .eql .num 287 288) (
.gop 286 false (some 290) (.mv 289) (
.dia 290 (
.gop 290 true (some 291) (.fadd 6 19) (
.gop 290 true (some 292) (.load false 1 291) (
.gop 290 true (some 293) (.mv 26) (
.gop 290 true (some 294) (.idx 8 292 293) (
.gop 290 true (some 295) (.fadd 0 294) (
.gop 290 true (some 296) (.load false 1 295) (
.gop 290 true (some 297) (.bin .neq .num 296 (Cn 1)) (
.done)))))))) 298 290 297 (.c (.bool false)) (some (286, false)) (
.done)))))) 299 286 (.c (.bool true)) 298 none (
.done))))) (
.cond 299 none (.rs (ops [(300,.mv 18),
(301,.mv 26),
(302,.build [(.int .i64 0), (.int .i64 0), (.int .i64 0)] [(0, 1, false, (Cn 4)), (1, 1, false, 300), (2, 1, false, 301)])] (
.op none (.store true 3 2 302) (
.done))) (
.ret)) (.skip))))) (
.reg (ops [(303,.bin .add .num 273 (Cn 1)),
(273,.mv 303)]))))))))))))) (
.reg (ops [(304,.bin .add .num 235 (Cn 1)),
(235,.mv 304)])))))))) (
.seq (.rs (ops [(305,.fadd 0 1),
(306,.load false 1 305),
(307,.len .sl 306),
(308,.mv (Cn 0))]) (
.block 20 (some ⟨[], [(2, 3)]⟩) (
.loop ⟨[308], [(2, 3)]⟩ (
.rs (ops [(309,.bin .lss .num 308 307)]) (
.seq (.cond 309 none (.skip) (.exit 20)) (
.seq (.block 21 none (
.rs (ops [(310,.mv 308),
(311,.idx 7 306 308),
(312,.load true 7 311),
(28,.zalloc [(.str ⟨#[]⟩), (.int .i64 0), (.int .i64 0), (.bool false), .nilslice, .nilslice, .nilslice]),
(27,.mv 310)] (
.op none (.store true 7 28 312) (
.freeze 28 (
.done)))) (
.rs (ops [(313,.fadd 6 28),
(314,.load false 1 313),
(315,.len .sl 314),
(316,.mkSlice [(.int .i64 0)] 315),
(29,.mv 316)]) (
.seq (.rs (ops [(317,.fadd 6 28),
(318,.load false 1 317),
(319,.len .sl 318),
(320,.bin .sub .num 319 (Cn 1)),
(30,.mv 320)]) (
.block 22 (some ⟨[], [(2, 3)]⟩) (
.loop ⟨[30], [(2, 3)]⟩ (
.seq (.rs (ops [(321,.mv 30),
(322,.bin .geq .num 321 (Cn 0))]) (
.cond 322 none (.skip) (.exit 22))) (
.seq (.block 23 none (
.rs (ops [(325,.fadd 6 28),
(326,.load false 1 325),
(327,.mv 30),
(328,.idx 8 326 327),
(329,.fadd 7 328),
(330,.load false 1 329),
(331,.len .sl 330),
(332,.mv (Cn 0))]) (
.block 24 (some ⟨[], [(2, 3)]⟩) (
.loop ⟨[332], [(2, 3)]⟩ (
.rs (ops [(333,.bin .lss .num 332 331)]) (
.seq (.cond 333 none (.skip) (.exit 24)) (
.seq (.block 25 none (
.rs (ops [(334,.idx 1 330 332),
(335,.load false 1 334),
(32,.mv 335)]) (
.reg (ops [(336,.mv 29),
(337,.mv 32),
(338,.mv 29),
(339,.mv 30),
(340,.idx 1 338 339),
(341,.load false 1 340),
(342,.bin .add .num 341 (Cn 1)),
(343,.idx 1 336 337)] (
.op none (.store false 1 343 342) (
.done)))))) (
.reg (ops [(344,.bin .add .num 332 (Cn 1)),
(332,.mv 344)]))))))))) (
.reg (ops [(323,.mv 30),
(324,.bin .sub .num 323 (Cn 1)),
(30,.mv 324)]))))))) (
.rs (ops [(345,.fadd 6 28),
(346,.load false 1 345),
(347,.len .sl 346),
(348,.mv (Cn 0))]) (
.block 26 (some ⟨[], [(2, 3)]⟩) (
.loop ⟨[348], [(2, 3)]⟩ (
.rs (ops [(349,.bin .lss .num 348 347)]) (
.seq (.cond 349 none (.skip) (.exit 26)) (
.seq (.block 27 none (
.rs (ops [(350,.mv 348),
(33,.mv 350)]) (
.rs (ops [(351,.mv 29),
(352,.mv 33),
(353,.idx 1 351 352),
(354,.load false 1 353),
(355,.bin .gtr .num 354 (Cn 100))]) (
.cond 355 none (.rs (ops [(356,.mv 27),
(357,.mv 33),
(358,.build [(.int .i64 0), (.int .i64 0), (.int .i64 0)] [(0, 1, false, (Cn 5)), (1, 1, false, 356), (2, 1, false, 357)])] (
.op none (.store true 3 2 358) (
.done))) (
.ret)) (.skip))))) (
.reg (ops [(359,.bin .add .num 348 (Cn 1)),
(348,.mv 359)])))))))))))) (
.reg (ops [(360,.bin .add .num 308 (Cn 1)),
(308,.mv 360)])))))))) (
.rs (ops [(361,.mkMap (.agg [(.int .i64), (.int .i64)])),
(34,.zalloc [.nilmap])] (
.op none (.store false 1 34 361) (
.freeze 34 (
.done)))) (
.rs (ops [(362,.mkMap (.agg [(.int .i64), (.int .i64)])),
(35,.zalloc [.nilmap])] (
.op none (.store false 1 35 362) (
.freeze 35 (
.done)))) (
.rs (ops [(363,.mkMap (.agg [(.int .i64), (.int .i64)])),
(36,.zalloc [.nilmap])] (
.op none (.store false 1 36 363) (
.freeze 36 (
.done)))) (
.seq (.rs (ops [(364,.fadd 0 1),
(365,.load false 1 364),
(366,.len .sl 365),
(367,.mv (Cn 0))]) (
.block 28 (some ⟨[], [(2, 3)]⟩) (
.loop ⟨[367], [(2, 3)]⟩ (
.rs (ops [(368,.bin .lss .num 367 366)]) (
.seq (.cond 368 none (.skip) (.exit 28)) (
.seq (.block 29 none (
.rs (ops [(369,.mv 367),
(370,.idx 7 365 367),
(371,.load true 7 370),
(37,.zalloc [(.int .i64 0)]),
(38,.zalloc [(.str ⟨#[]⟩), (.int .i64 0), (.int .i64 0), (.bool false), .nilslice, .nilslice, .nilslice])] (
.op none (.store false 1 37 369) (
.freeze 37 (
.op none (.store true 7 38 371) (
.freeze 38 (
.done)))))) (
.reg (ops [(372,.load true 7 38),
(373,.mkFunc 18 [] [38, 34, 37, 35, 36]),
(374,.callS 17 [372, 373])])))) (
.reg (ops [(375,.bin .add .num 367 (Cn 1)),
(367,.mv 375)])))))))) (
.seq (.rs (ops [(376,.fadd 0 1),
(377,.load false 1 376),
(378,.len .sl 377),
(379,.mv (Cn 0))]) (
.block 30 (some ⟨[], [(2, 3)]⟩) (
.loop ⟨[379], [(2, 3)]⟩ (
.rs (ops [(380,.bin .lss .num 379 378)]) (
.seq (.cond 380 none (.skip) (.exit 30)) (
.seq (.block 31 none (
.rs (ops [(381,.mv 379),
(382,.idx 7 377 379),
(383,.load true 7 382),
(40,.zalloc [(.str ⟨#[]⟩), (.int .i64 0), (.int .i64 0), (.bool false), .nilslice, .nilslice, .nilslice]),
(39,.mv 381)] (
.op none (.store true 7 40 383) (
.freeze 40 (
.done)))) (
.rs (ops [(384,.mkMap (.int .i64)),
(41,.mv 384)]) (
.seq (.rs (ops [(385,.fadd 2 40),
(386,.load false 1 385),
(387,.mv (Cn 0))]) (
.block 32 (some ⟨[], [(2, 3)]⟩) (
.loop ⟨[387], [(2, 3)]⟩ (
.rs (ops [(388,.bin .lss .num 387 386)]) (
.seq (.cond 388 none (.skip) (.exit 32)) (
.seq (.block 33 none (
.rs (ops [(389,.mv 387),
(42,.mv 389)]) (
.reg (ops [(390,.mv 41),
(391,.mv 42)] (
.op none (.mapSet (.int .i64) 390 391 (.c (.bool true))) (
.done)))))) (
.reg (ops [(392,.bin .add .num 387 (Cn 1)),
(387,.mv 392)])))))))) (
.rs (ops [(393,.fadd 6 40),
(394,.load false 1 393),
(395,.len .sl 394),
(396,.mv (Cn 0))]) (
.block 34 (some ⟨[], [(2, 3)]⟩) (
.loop ⟨[396], [(2, 3)]⟩ (
.rs (ops [(397,.bin .lss .num 396 395)]) (
.seq (.cond 397 none (.skip) (.exit 34)) (
.seq (.block 35 none (
.rs (ops [(398,.mv 396),
(399,.idx 8 394 396),
(400,.load true 8 399),
(44,.zalloc [(.int .i64 0), (.int .i64 0), (.int .i64 0), (.int .i64 0), (.flt 0), (.str ⟨#[]⟩), .nilslice, .nilslice]),
(43,.mv 398)] (
.op none (.store true 8 44 400) (
.freeze 44 (
.done)))) (
.seq (.rs (ops [(401,.fadd 6 44),
(402,.load false 1 401),
(403,.len .sl 402),
(404,.mv (Cn 0))]) (
.block 36 (some ⟨[], [(2, 3)]⟩) (
.loop ⟨[404], [(2, 3)]⟩ (
.rs (ops [(405,.bin .lss .num 404 403)]) (
.seq (.cond 405 none (.skip) (.exit 36)) (
.seq (.block 37 none (
.rs (ops [(406,.idx 1 402 404),
(407,.load false 1 406),
(46,.mv 407)]) (
.rs (ops [(408,.fadd 4 40),
(409,.load false 1 408),
(410,.len .sl 409),
(47,.mv 410)]) (
.seq (.rs (ops [(411,.fadd 0 44),
(412,.load false 1 411),
(413,.bin .eql .num 412 (Cn 27))]) (
.cond 413 (some ⟨[47], [(2, 3)]⟩) (.reg (ops [(414,.fadd 5 40),
(415,.load false 1 414),
(416,.len .sl 415),
(47,.mv 416)])) (.skip))) (
.seq (.rs (ops [(417,.fadd 0 44),
(418,.load false 1 417),
(419,.bin .eql .num 418 (Cn 36))]) (
.cond 419 (some ⟨[47], [(2, 3)]⟩) (.reg (ops [(420,.fadd 0 1),
(421,.load false 1 420),
(422,.len .sl 421),
(47,.mv 422)])) (.skip))) (
.seq (.rs (ops [(423,.mv 46),
(424,.bin .lss .num 423 (Cn 0)),
(425,.mv 424)] (
.dia 425 (
.gop 425 false (some 426) (.mv 46) (
.gop 425 false (some 427) (.mv 47) (
.gop 425 false (some 428) (.bin .geq .num 426 427) (
.done)))) 429 425 (.c (.bool true)) 428 none (
.done))) (
.cond 429 none (.rs (ops [(430,.mv 39),
(431,.mv 43),
(432,.build [(.int .i64 0), (.int .i64 0), (.int .i64 0)] [(0, 1, false, (Cn 6)), (1, 1, false, 430), (2, 1, false, 431)])] (
.op none (.store true 3 2 432) (
.done))) (
.ret)) (.skip))) (
.rs (ops [(433,.fadd 0 44),
(434,.load false 1 433),
(435,.callV 19 [434])]) (
.cond 435 (some ⟨[], [(2, 3)]⟩) (.seq (.rs (ops [(436,.mv 41),
(437,.mv 46),
(438,.look1 (.int .i64) (.bool false) 436 437)]) (
.cond 438 none (.rs (ops [(439,.mv 39),
(440,.mv 43),
(441,.build [(.int .i64 0), (.int .i64 0), (.int .i64 0)] [(0, 1, false, (Cn 6)), (1, 1, false, 439), (2, 1, false, 440)])] (
.op none (.store true 3 2 441) (
.done))) (
.ret)) (.skip))) (
.reg (ops [(442,.mv 41),
(443,.mv 46)] (
.op none (.mapSet (.int .i64) 442 443 (.c (.bool true))) (
.done))))) (.skip))))))))) (
.reg (ops [(444,.bin .add .num 404 (Cn 1)),
(404,.mv 444)])))))))) (
.rs (ops [(445,.load false 1 34),
(446,.mv 39),
(447,.mv 43),
(448,.build [(.int .i64 0), (.int .i64 0)] [(0, 1, false, 446), (1, 1, false, 447)]),
(449,.look1 (.agg [(.int .i64), (.int .i64)]) (.bool false) 445 448)]) (
.cond 449 none (.rs (ops [(450,.mv 39),
(451,.mv 43),
(452,.build [(.int .i64 0), (.int .i64 0), (.int .i64 0)] [(0, 1, false, (Cn 6)), (1, 1, false, 450), (2, 1, false, 451)])] (
.op none (.store true 3 2 452) (
.done))) (
.ret)) (.skip)))))) (
.reg (ops [(453,.bin .add .num 396 (Cn 1)),
(396,.mv 453)])))))))))))) (
.reg (ops [(454,.bin .add .num 379 (Cn 1)),
(379,.mv 454)])))))))) (
.seq (.rs (ops [(455,.fadd 0 1),
(456,.load false 1 455),
(457,.len .sl 456),
(458,.mv (Cn 0))]) (
.block 38 (some ⟨[], [(2, 3)]⟩) (
.loop ⟨[458], [(2, 3)]⟩ (
.rs (ops [(459,.bin .lss .num 458 457)]) (
.seq (.cond 459 none (.skip) (.exit 38)) (
.seq (.block 39 none (
.rs (ops [(460,.mv 458),
(461,.idx 7 456 458),
(462,.load true 7 461),
(49,.zalloc [(.str ⟨#[]⟩), (.int .i64 0), (.int .i64 0), (.bool false), .nilslice, .nilslice, .nilslice]),
(48,.mv 460)] (
.op none (.store true 7 49 462) (
.freeze 49 (
.done)))) (
.rs (ops [(463,.fadd 6 49),
(464,.load false 1 463),
(465,.len .sl 464),
(466,.mv (Cn 0))]) (
.block 40 (some ⟨[], [(2, 3)]⟩) (
.loop ⟨[466], [(2, 3)]⟩ (
.rs (ops [(467,.bin .lss .num 466 465)]) (
.seq (.cond 467 none (.skip) (.exit 40)) (
.seq (.block 41 none (
.rs (ops [(468,.mv 466),
(50,.mv 468)]) (
.rs (ops [(469,.load false 1 35),
(470,.mv 48),
(471,.mv 50),
(472,.build [(.int .i64 0), (.int .i64 0)] [(0, 1, false, 470), (1, 1, false, 471)]),
(473,.look1 (.agg [(.int .i64), (.int .i64)]) (.bool false) 469 472)]) (
.cond 473 none (.rs (ops [(474,.mv 48),
(475,.mv 50),
(476,.build [(.int .i64 0), (.int .i64 0), (.int .i64 0)] [(0, 1, false, (Cn 7)), (1, 1, false, 474), (2, 1, false, 475)])] (
.op none (.store true 3 2 476) (
.done))) (
.ret)) (.skip))))) (
.reg (ops [(477,.bin .add .num 466 (Cn 1)),
(466,.mv 477)])))))))))) (
.reg (ops [(478,.bin .add .num 458 (Cn 1)),
(458,.mv 478)])))))))) (
.rs (ops [(479,.mkMap (.int .i64)),
(51,.mv 479)]) (
.seq (.rs (ops [(480,.fadd 0 1),
(481,.load false 1 480),
(482,.len .sl 481),
(483,.mv (Cn 0))]) (
.block 42 (some ⟨[], [(2, 3)]⟩) (
.loop ⟨[483], [(2, 3)]⟩ (
.rs (ops [(484,.bin .lss .num 483 482)]) (
.seq (.cond 484 none (.skip) (.exit 42)) (
.seq (.block 43 none (
.rs (ops [(485,.mv 483),
(486,.idx 7 481 483),
(487,.load true 7 486),
(53,.zalloc [(.str ⟨#[]⟩), (.int .i64 0), (.int .i64 0), (.bool false), .nilslice, .nilslice, .nilslice]),
(52,.mv 485)] (
.op none (.store true 7 53 487) (
.freeze 53 (
.done)))) (
.rs (ops [(488,.fadd 6 53),
(489,.load false 1 488),
(490,.len .sl 489),
(491,.mv (Cn 0))]) (
.block 44 (some ⟨[], [(2, 3)]⟩) (
.loop ⟨[491], [(2, 3)]⟩ (
.rs (ops [(492,.bin .lss .num 491 490)]) (
.seq (.cond 492 none (.skip) (.exit 44)) (
.seq (.block 45 (some ⟨[], [(2, 3)]⟩) (
.rs (ops [(493,.mv 491),
(494,.idx 8 489 491),
(495,.load true 8 494),
(55,.zalloc [(.int .i64 0), (.int .i64 0), (.int .i64 0), (.int .i64 0), (.flt 0), (.str ⟨#[]⟩), .nilslice, .nilslice]),
(54,.mv 493)] (
.op none (.store true 8 55 495) (
.freeze 55 (
.done)))) (
.seq (.rs (ops [(496,.fadd 0 55),
(497,.load false 1 496),
(498,.bin .eql .num 497 (Cn 37)),
(499,.mv 498)] (
.dia 499 (
.gop 499 true (some 500) (.fadd 3 53) (
.gop 499 true (some 501) (.load false 1 500) (
.gop 499 true (some 502) (.un .not 501) (
.done)))) 503 499 502 (.c (.bool false)) none (
.done))) (
.cond 503 none (.rs (ops [(504,.mv 52),
(505,.mv 54),
(506,.build [(.int .i64 0), (.int .i64 0), (.int .i64 0)] [(0, 1, false, (Cn 8)), (1, 1, false, 504), (2, 1, false, 505)])] (
.op none (.store true 3 2 506) (
.done))) (
.ret)) (.skip))) (
.seq (.rs (ops [(507,.fadd 0 55),
(508,.load false 1 507),
(509,.bin .neq .num 508 (Cn 36))]) (
.cond 509 none (.exit 45) (.skip))) (
.rs (ops [(510,.fadd 6 55),
(511,.load false 1 510),
(512,.idx 1 511 (Cn 0)),
(513,.load false 1 512),
(56,.mv 513)]) (
.seq (.rs (ops [(514,.mv 56),
(515,.mv 52),
(516,.bin .leq .num 514 515),
(517,.mv 516)] (
.dia 517 (
.gop 517 false (some 518) (.mv 51) (
.gop 517 false (some 519) (.mv 56) (
.gop 517 false (some 520) (.look1 (.int .i64) (.bool false) 518 519) (
.done)))) 521 517 (.c (.bool true)) 520 none (
.done))) (
.cond 521 none (.rs (ops [(522,.mv 52),
(523,.mv 54),
(524,.build [(.int .i64 0), (.int .i64 0), (.int .i64 0)] [(0, 1, false, (Cn 8)), (1, 1, false, 522), (2, 1, false, 523)])] (
.op none (.store true 3 2 524) (
.done))) (
.ret)) (.skip))) (
.rs (ops [(525,.mv 51),
(526,.mv 56)] (
.op none (.mapSet (.int .i64) 525 526 (.c (.bool true))) (
.done))) (
.rs (ops [(527,.fadd 0 1),
(528,.load false 1 527),
(529,.mv 56),
(530,.idx 7 528 529),
(531,.fadd 5 530),
(532,.load false 1 531),
(533,.len .sl 532),
(534,.mv (Cn 0))]) (
.block 46 (some ⟨[], [(2, 3)]⟩) (
.loop ⟨[534], [(2, 3)]⟩ (
.rs (ops [(535,.bin .lss .num 534 533)]) (
.seq (.cond 535 none (.skip) (.exit 46)) (
.seq (.block 47 none (
.rs (ops [(536,.idx 2 532 534),
(537,.load true 2 536),
(58,.zalloc [(.bool false), (.int .i64 0)])] (
.op none (.store true 2 58 537) (
.freeze 58 (
.done)))) (
.seq (.drw (.row 538 (.fadd 0 58) (
.row 539 (.load false 1 538) (
.row 540 (.mv 539) (
.dia 540 (
.gop 540 true 541 (.fadd 1 58) (
.gop 540 true 542 (.load false 1 541) (
.gop 540 true 543 (.bin .lss .num 542 (Cn 0)) (
.gop 540 true 544 (.mv 543) (
.dia 544 (
.gop 544 false 545 (.load false 1 36) (
.gop 544 false 546 (.mv 52) (
.gop 544 false 547 (.mv 54) (
.gop 544 false 548 (.build [(.int .i64 0), (.int .i64 0)] [(0, 1, false, 546), (1, 1, false, 547)]) (
.gop 544 false 549 (.look1 (.agg [(.int .i64), (.int .i64)]) .nilmap 545 548) (
.gop 544 false 550 (.fadd 1 58) (
.gop 544 false 551 (.load false 1 550) (
.gop 544 false 552 (.look1 (.int .i64) (.bool false) 549 551) (
.gop 544 false 553 (.un .not 552) (
.done)))))))))) 554 544 (.c (.bool true)) 553 (some (540, true)) (
.done)))))) 555 540 554 (.c (.bool false)) none (
.row 556 (.mv 555) (
.dia 556 (
.gop 556 false 557 (.fadd 0 58) (
.gop 556 false 558 (.load false 1 557) (
.gop 556 false 559 (.un .not 558) (
.gop 556 false 560 (.mv 559) (
.dia 560 (
.gop 560 true 561 (.fadd 1 58) (
.gop 560 true 562 (.load false 1 561) (
.gop 560 true 563 (.bin .lss .num 562 (Cn 0)) (
.gop 560 true 564 (.mv 563) (
.dia 564 (
.gop 564 false 565 (.fadd 1 58) (
.gop 564 false 566 (.load false 1 565) (
.gop 564 false 567 (.fadd 5 53) (
.gop 564 false 568 (.load false 1 567) (
.gop 564 false 569 (.len .sl 568) (
.gop 564 false 570 (.bin .geq .num 566 569) (
.done))))))) 571 564 (.c (.bool true)) 570 (some (560, true)) (
.done)))))) 572 560 571 (.c (.bool false)) (some (556, false)) (
.done)))))) 573 556 (.c (.bool true)) 572 none (
.done))))))) [] [] (.done)) (
.cond 573 none (.rs (ops [(574,.mv 52),
(575,.mv 54),
(576,.build [(.int .i64 0), (.int .i64 0), (.int .i64 0)] [(0, 1, false, (Cn 8)), (1, 1, false, 574), (2, 1, false, 575)])] (
.op none (.store true 3 2 576) (
.done))) (
.ret)) (.skip))))) (
.reg (ops [(577,.bin .add .num 534 (Cn 1)),
(534,.mv 577)]))))))))))))))) (
.reg (ops [(578,.bin .add .num 491 (Cn 1)),
(491,.mv 578)])))))))))) (
.reg (ops [(579,.bin .add .num 483 (Cn 1)),
(483,.mv 579)])))))))) (
.seq (.rs (ops [(580,.fadd 0 1),
(581,.load false 1 580),
(582,.len .sl 581),
(583,.mv (Cn 0))]) (
.block 48 (some ⟨[], [(2, 3)]⟩) (
.loop ⟨[583], [(2, 3)]⟩ (
.rs (ops [(584,.bin .lss .num 583 582)]) (
.seq (.cond 584 none (.skip) (.exit 48)) (
.seq (.block 49 none (
.rs (ops [(585,.mv 583),
(59,.mv 585)]) (
.rs (ops [(586,.mv 59),
(587,.bin .gtr .num 586 (Cn 0)),
(588,.mv 587)] (
.dia 588 (
.gop 588 true (some 589) (.mv 51) (
.gop 588 true (some 590) (.mv 59) (
.gop 588 true (some 591) (.look1 (.int .i64) (.bool false) 589 590) (
.gop 588 true (some 592) (.un .not 591) (
.done))))) 593 588 592 (.c (.bool false)) none (
.done))) (
.cond 593 none (.rs (ops [(594,.mv 59),
(595,.build [(.int .i64 0), (.int .i64 0), (.int .i64 0)] [(0, 1, false, (Cn 9)), (1, 1, false, 594), (2, 1, false, (Cn 0))])] (
.op none (.store true 3 2 595) (
.done))) (
.ret)) (.skip))))) (
.reg (ops [(596,.bin .add .num 583 (Cn 1)),
(583,.mv 596)])))))))) (
.rs (ops [(597,.build [(.int .i64 0), (.int .i64 0), (.int .i64 0)] [])] (
.op none (.store true 3 2 597) (
.done))) (
.ret))))))))))))))))))⟩
noncomputable def lp_q4_1 (D : Ctx) (t_2 : AV) (t_1 : AV) (k_6 : Cur 2) : Cur 3 → Cur 3 :=
 fun go_595 total_591 t_592 t_593 s_594 =>
 (bin .lss .num t_592 t_2).bind fun t_596 =>
 aCase t_596
 ((idx 7 t_1 t_592).bind fun t_597 =>
 (rdN 7 t_597 s_594).bind fun t_598 =>
 (asplit 7 (.agg t_598)).bind fun cs_599 =>
 (rd1 D.G (.pptr cs_599 6) s_594).bind fun t_600 =>
 (lenV .sl t_600 s_594).bind fun t_601 =>
 (bin .add .num total_591 t_601).bind fun t_602 =>
 (bin .gtr .num t_602 (.int .i64 3000)).bind fun t_603 =>
 aCase t_603
 (k_6 t_602 (.agg (AV.cells t_593)) s_594)
 ((bin .add .num t_592 (.int .i64 1)).bind fun t_604 =>
 go_595 t_602 t_604 (.agg (AV.cells t_593)) s_594))
 (k_6 total_591 (.agg (AV.cells t_593)) s_594)
theorem lp_q4_1_le {D : Ctx} (x0 x1 k2) {k2'} (hk2 : Cle k2 k2') {u u'} (h : Cle u u') : Cle (lp_q4_1 D x0 x1 k2 u) (lp_q4_1 D x0 x1 k2' u') := by
 unfold lp_q4_1
 repeat (first
  | with_reducible refine Ole.bindr fun _ => ?_
  | with_reducible refine Ole.aCase ?_ ?_
  | refine Cle.succ fun _ => ?_
  | refine Cle.zero fun _ => ?_
  | exact Cle.use2 (by assumption)
  | exact Cle.use3 (by assumption)
  | with_reducible exact Ole.refl _)
theorem lp_q4_1_mono (D x0 x1 k2) : Mono (lp_q4_1 D x0 x1 k2) := fun _ _ => lp_q4_1_le _ _ _ (Cle.refl _)
noncomputable def lp_q4_2 (D : Ctx) (t_535 : AV) (t_534 : AV) (t_498 : AV) (k_538 : Cur 1) : Cur 2 → Cur 2 :=
 fun go_543 t_540 t_541 s_542 =>
 (bin .lss .num t_540 t_535).bind fun t_544 =>
 aCase t_544
 ((idx 1 t_534 t_540).bind fun t_545 =>
 (rd1 D.G t_545 s_542).bind fun t_546 =>
 (lenV .str t_546 s_542).bind fun t_547 =>
 (bin .lss .num t_547 (.int .i64 1)).bind fun t_548 =>
 jn 1 (fun t_549 s_550 =>
 aCase t_549
 ((one t_498).bind fun o_552 =>
 some ((.agg [(.int .i64 2), o_552, (.int .i64 0)]), s_550))
 ((bin .add .num t_540 (.int .i64 1)).bind fun t_553 =>
 go_543 t_553 (.agg (AV.cells t_541)) s_550))
 (fun j_551 =>
 aCase t_548
 (j_551 (.bool true) s_542)
 ((lenV .str t_546 s_542).bind fun t_554 =>
 (bin .gtr .num t_554 (.int .i64 40)).bind fun t_555 =>
 j_551 t_555 s_542)))
 (k_538 (.agg (AV.cells t_541)) s_542)
theorem lp_q4_2_le {D : Ctx} (x0 x1 x2 k3) {k3'} (hk3 : Cle k3 k3') {u u'} (h : Cle u u') : Cle (lp_q4_2 D x0 x1 x2 k3 u) (lp_q4_2 D x0 x1 x2 k3' u') := by
 unfold lp_q4_2
 repeat (first
  | with_reducible refine Ole.bindr fun _ => ?_
  | with_reducible refine Ole.aCase ?_ ?_
  | refine Ole.jn ?_ (fun _ _ _ => ?_)
  | refine Cle.succ fun _ => ?_
  | refine Cle.zero fun _ => ?_
  | exact Cle.use1 (by assumption)
  | exact Cle.use2 (by assumption)
  | with_reducible exact Ole.refl _)
theorem lp_q4_2_mono (D x0 x1 x2 k3) : Mono (lp_q4_2 D x0 x1 x2 k3) := fun _ _ => lp_q4_2_le _ _ _ _ (Cle.refl _)
noncomputable def lp_q4_3 (D : Ctx) (t_17 : AV) (t_16 : AV) (k_20 : Cur 1) : Cur 2 → Cur 2 :=
 fun go_501 t_498 t_499 s_500 =>
 (bin .lss .num t_498 t_17).bind fun t_502 =>
 aCase t_502
 ((idx 7 t_16 t_498).bind fun t_503 =>
 (rdN 7 t_503 s_500).bind fun t_504 =>
 (asplit 7 (.agg t_504)).bind fun cs_505 =>
 (rd1 D.G (.pptr cs_505 6) s_500).bind fun t_506 =>
 (lenV .sl t_506 s_500).bind fun t_507 =>
 (bin .eql .num t_507 (.int .i64 0)).bind fun t_508 =>
 jn 1 (fun t_509 s_510 =>
 jn 1 (fun t_512 s_513 =>
 jn 1 (fun t_515 s_516 =>
 jn 1 (fun t_518 s_519 =>
 jn 1 (fun t_521 s_522 =>
 jn 1 (fun t_524 s_525 =>
 jn 1 (fun t_527 s_528 =>
 jn 1 (fun t_530 s_531 =>
 aCase t_530
 ((one t_498).bind fun o_533 =>
 some ((.agg [(.int .i64 2), o_533, (.int .i64 0)]), s_531))
 ((rd1 D.G (.pptr cs_505 4) s_531).bind fun t_534 =>
 (lenV .sl t_534 s_531).bind fun t_535 =>
 jn 1 (fun t_536 s_537 =>
 (bin .add .num t_498 (.int .i64 1)).bind fun t_539 =>
 go_501 t_539 (.agg (AV.cells t_536)) s_537)
 (fun k_538 =>
 lpFix 2 (lp_q4_2 D t_535 t_534 t_498 k_538) (.int .i64 0) (.agg (AV.cells t_499)) s_531)))
 (fun j_532 =>
 aCase t_527
 (j_532 (.bool true) s_528)
 ((bin .eql .num t_498 (.int .i64 0)).bind fun t_556 =>
 jn 1 (fun t_557 s_558 =>
 j_532 t_557 s_558)
 (fun j_559 =>
 aCase t_556
 ((rd1 D.G (.pptr cs_505 2) s_528).bind fun t_560 =>
 (bin .gtr .num t_560 (.int .i64 0)).bind fun t_561 =>
 jn 1 (fun t_562 s_563 =>
 j_559 t_562 s_563)
 (fun j_564 =>
 aCase t_561
 (j_564 (.bool true) s_528)
 ((rd1 D.G (.pptr cs_505 5) s_528).bind fun t_565 =>
 (lenV .sl t_565 s_528).bind fun t_566 =>
 (bin .gtr .num t_566 (.int .i64 0)).bind fun t_567 =>
 j_564 t_567 s_528)))
 (j_559 (.bool false) s_528)))))
 (fun j_529 =>
 aCase t_524
 (j_529 (.bool true) s_525)
 ((rd1 D.G (.pptr cs_505 0) s_525).bind fun t_568 =>
 (lenV .str t_568 s_525).bind fun t_569 =>
 (bin .gtr .num t_569 (.int .i64 40)).bind fun t_570 =>
 j_529 t_570 s_525)))
 (fun j_526 =>
 aCase t_521
 (j_526 (.bool true) s_522)
 ((rd1 D.G (.pptr cs_505 1) s_522).bind fun t_571 =>
 (bin .gtr .num t_571 (.int .i64 100000)).bind fun t_572 =>
 j_526 t_572 s_522)))
 (fun j_523 =>
 aCase t_518
 (j_523 (.bool true) s_519)
 ((rd1 D.G (.pptr cs_505 1) s_519).bind fun t_573 =>
 (bin .lss .num t_573 (.int .i64 0)).bind fun t_574 =>
 j_523 t_574 s_519)))
 (fun j_520 =>
 aCase t_515
 (j_520 (.bool true) s_516)
 ((rd1 D.G (.pptr cs_505 2) s_516).bind fun t_575 =>
 (rd1 D.G (.pptr cs_505 4) s_516).bind fun t_576 =>
 (lenV .sl t_576 s_516).bind fun t_577 =>
 (bin .gtr .num t_575 t_577).bind fun t_578 =>
 j_520 t_578 s_516)))
 (fun j_517 =>
 aCase t_512
 (j_517 (.bool true) s_513)
 ((rd1 D.G (.pptr cs_505 2) s_513).bind fun t_579 =>
 (bin .lss .num t_579 (.int .i64 0)).bind fun t_580 =>
 j_517 t_580 s_513)))
 (fun j_514 =>
 aCase t_509
 (j_514 (.bool true) s_510)
 ((rd1 D.G (.pptr cs_505 5) s_510).bind fun t_581 =>
 (lenV .sl t_581 s_510).bind fun t_582 =>
 (bin .gtr .num t_582 (.int .i64 200)).bind fun t_583 =>
 j_514 t_583 s_510)))
 (fun j_511 =>
 aCase t_508
 (j_511 (.bool true) s_500)
 ((rd1 D.G (.pptr cs_505 4) s_500).bind fun t_584 =>
 (lenV .sl t_584 s_500).bind fun t_585 =>
 (bin .gtr .num t_585 (.int .i64 200)).bind fun t_586 =>
 j_511 t_586 s_500)))
 (k_20 (.agg (AV.cells t_499)) s_500)
theorem lp_q4_3_le {D : Ctx} (x0 x1 k2) {k2'} (hk2 : Cle k2 k2') {u u'} (h : Cle u u') : Cle (lp_q4_3 D x0 x1 k2 u) (lp_q4_3 D x0 x1 k2' u') := by
 unfold lp_q4_3
 repeat (first
  | with_reducible refine Ole.bindr fun _ => ?_
  | with_reducible refine Ole.aCase ?_ ?_
  | refine Ole.jn ?_ (fun _ _ _ => ?_)
  | refine Cle.succ fun _ => ?_
  | refine Cle.zero fun _ => ?_
  | exact Cle.use1 (by assumption)
  | exact Cle.use2 (by assumption)
  | exact Cle.use2 (lpFix_mono (lp_q4_2_mono _ _ _ _ _) (lp_q4_2_mono _ _ _ _ _) fun _ => lp_q4_2_le _ _ _ _ (by first | assumption | exact Cle.refl _) (Cle.refl _))
  | with_reducible exact Ole.refl _)
theorem lp_q4_3_mono (D x0 x1 k2) : Mono (lp_q4_3 D x0 x1 k2) := fun _ _ => lp_q4_3_le _ _ _ (Cle.refl _)
noncomputable def lp_q4_4 (D : Ctx) (t_461 : AV) (t_460 : AV) (k_466 : Cur 3) (cs_445 : List AV) (t_452 : AV) : Cur 4 → Cur 4 :=
 fun go_482 k_477 ok_478 t_479 t_480 s_481 =>
 (bin .lss .num t_479 t_461).bind fun t_483 =>
 aCase t_483
 ((idx 1 t_460 t_479).bind fun t_484 =>
 (rd1 D.G t_484 s_481).bind fun t_485 =>
 (bin .lss .num t_485 (.int .i64 0)).bind fun t_486 =>
 jn 1 (fun t_487 s_488 =>
 aCase t_487
 (k_466 k_477 (.bool false) (.agg (AV.cells t_480)) s_488)
 ((rd1 D.G (.pptr cs_445 6) s_488).bind fun t_490 =>
 (idx 8 t_490 t_485).bind fun t_491 =>
 (fadd t_491 0).bind fun t_492 =>
 (rd1 D.G t_492 s_488).bind fun t_493 =>
 (one t_493).bind fun o_494 =>
 (app 1 k_477 (.pslice 1 [(.agg [o_494])]) s_488).bind fun t_495 =>
 (bin .add .num t_479 (.int .i64 1)).bind fun t_496 =>
 go_482 t_495.1 ok_478 t_496 (.agg (AV.cells t_480)) t_495.2))
 (fun j_489 =>
 aCase t_486
 (j_489 (.bool true) s_481)
 ((bin .geq .num t_485 t_452).bind fun t_497 =>
 j_489 t_497 s_481)))
 (k_466 k_477 ok_478 (.agg (AV.cells t_480)) s_481)
theorem lp_q4_4_le {D : Ctx} (x0 x1 k2 x3 x4) {k2'} (hk2 : Cle k2 k2') {u u'} (h : Cle u u') : Cle (lp_q4_4 D x0 x1 k2 x3 x4 u) (lp_q4_4 D x0 x1 k2' x3 x4 u') := by
 unfold lp_q4_4
 repeat (first
  | with_reducible refine Ole.bindr fun _ => ?_
  | with_reducible refine Ole.aCase ?_ ?_
  | refine Ole.jn ?_ (fun _ _ _ => ?_)
  | refine Cle.succ fun _ => ?_
  | refine Cle.zero fun _ => ?_
  | exact Cle.use1 (by assumption)
  | exact Cle.use3 (by assumption)
  | exact Cle.use4 (by assumption)
  | with_reducible exact Ole.refl _)
theorem lp_q4_4_mono (D x0 x1 k2 x3 x4) : Mono (lp_q4_4 D x0 x1 k2 x3 x4) := fun _ _ => lp_q4_4_le _ _ _ _ _ (Cle.refl _)
noncomputable def lp_q4_5 (D : Ctx) (t_447 : AV) (t_446 : AV) (t_438 : AV) (cs_445 : List AV) (k_450 : Cur 1) : Cur 2 → Cur 2 :=
 fun go_455 t_452 t_453 s_454 =>
 (bin .lss .num t_452 t_447).bind fun t_456 =>
 aCase t_456
 ((idx 8 t_446 t_452).bind fun t_457 =>
 (rdN 8 t_457 s_454).bind fun t_458 =>
 (asplit 8 (.agg t_458)).bind fun cs_459 =>
 (rd1 D.G (.pptr cs_459 7) s_454).bind fun t_460 =>
 (lenV .sl t_460 s_454).bind fun t_461 =>
 jn 3 (fun k_462 ok_463 t_464 s_465 =>
 (un .not ok_463).bind fun t_467 =>
 jn 1 (fun t_468 s_469 =>
 aCase t_468
 ((one t_438).bind fun o_471 =>
 (one t_452).bind fun o_472 =>
 some ((.agg [(.int .i64 3), o_471, o_472]), s_469))
 ((bin .add .num t_452 (.int .i64 1)).bind fun t_473 =>
 go_455 t_473 (.agg (AV.cells t_464)) s_469))
 (fun j_470 =>
 aCase t_467
 (j_470 (.bool true) s_465)
 ((rdN 8 (.pptr cs_459 0) s_465).bind fun t_474 =>
 (callV D 16 [(.agg t_474), k_462] s_465).bind fun t_475 =>
 (un .not t_475).bind fun t_476 =>
 j_470 t_476 s_465)))
 (fun k_466 =>
 lpFix 4 (lp_q4_4 D t_461 t_460 k_466 cs_445 t_452) .nilslice (.bool true) (.int .i64 0) (.agg (AV.cells t_453)) s_454))
 (k_450 (.agg (AV.cells t_453)) s_454)
theorem lp_q4_5_le {D : Ctx} (x0 x1 x2 x3 k4) {k4'} (hk4 : Cle k4 k4') {u u'} (h : Cle u u') : Cle (lp_q4_5 D x0 x1 x2 x3 k4 u) (lp_q4_5 D x0 x1 x2 x3 k4' u') := by
 unfold lp_q4_5
 repeat (first
  | with_reducible refine Ole.bindr fun _ => ?_
  | with_reducible refine Ole.aCase ?_ ?_
  | refine Ole.jn ?_ (fun _ _ _ => ?_)
  | refine Cle.succ fun _ => ?_
  | refine Cle.zero fun _ => ?_
  | exact Cle.use1 (by assumption)
  | exact Cle.use2 (by assumption)
  | exact Cle.use3 (by assumption)
  | exact Cle.use4 (lpFix_mono (lp_q4_4_mono _ _ _ _ _ _) (lp_q4_4_mono _ _ _ _ _ _) fun _ => lp_q4_4_le _ _ _ _ _ (by first | assumption | exact Cle.refl _) (Cle.refl _))
  | with_reducible exact Ole.refl _)
theorem lp_q4_5_mono (D x0 x1 x2 x3 k4) : Mono (lp_q4_5 D x0 x1 x2 x3 k4) := fun _ _ => lp_q4_5_le _ _ _ _ _ (Cle.refl _)
noncomputable def lp_q4_6 (D : Ctx) (t_22 : AV) (t_21 : AV) (k_25 : Cur 1) : Cur 2 → Cur 2 :=
 fun go_441 t_438 t_439 s_440 =>
 (bin .lss .num t_438 t_22).bind fun t_442 =>
 aCase t_442
 ((idx 7 t_21 t_438).bind fun t_443 =>
 (rdN 7 t_443 s_440).bind fun t_444 =>
 (asplit 7 (.agg t_444)).bind fun cs_445 =>
 (rd1 D.G (.pptr cs_445 6) s_440).bind fun t_446 =>
 (lenV .sl t_446 s_440).bind fun t_447 =>
 jn 1 (fun t_448 s_449 =>
 (bin .add .num t_438 (.int .i64 1)).bind fun t_451 =>
 go_441 t_451 (.agg (AV.cells t_448)) s_449)
 (fun k_450 =>
 lpFix 2 (lp_q4_5 D t_447 t_446 t_438 cs_445 k_450) (.int .i64 0) (.agg (AV.cells t_439)) s_440))
 (k_25 (.agg (AV.cells t_439)) s_440)
theorem lp_q4_6_le {D : Ctx} (x0 x1 k2) {k2'} (hk2 : Cle k2 k2') {u u'} (h : Cle u u') : Cle (lp_q4_6 D x0 x1 k2 u) (lp_q4_6 D x0 x1 k2' u') := by
 unfold lp_q4_6
 repeat (first
  | with_reducible refine Ole.bindr fun _ => ?_
  | with_reducible refine Ole.aCase ?_ ?_
  | refine Ole.jn ?_ (fun _ _ _ => ?_)
  | refine Cle.succ fun _ => ?_
  | refine Cle.zero fun _ => ?_
  | exact Cle.use1 (by assumption)
  | exact Cle.use2 (by assumption)
  | exact Cle.use2 (lpFix_mono (lp_q4_5_mono _ _ _ _ _ _) (lp_q4_5_mono _ _ _ _ _ _) fun _ => lp_q4_5_le _ _ _ _ _ (by first | assumption | exact Cle.refl _) (Cle.refl _))
  | with_reducible exact Ole.refl _)
theorem lp_q4_6_mono (D x0 x1 k2) : Mono (lp_q4_6 D x0 x1 k2) := fun _ _ => lp_q4_6_le _ _ _ (Cle.refl _)
noncomputable def lp_q4_7 (D : Ctx) (t_419 : AV) (t_418 : AV) (t_368 : AV × Store) (k_422 : Cur 1) : Cur 2 → Cur 2 :=
 fun go_427 t_424 t_425 s_426 =>
 (bin .lss .num t_424 t_419).bind fun t_428 =>
 aCase t_428
 ((idx 1 t_418 t_424).bind fun t_429 =>
 (rd1 D.G t_429 s_426).bind fun t_430 =>
 (idx 1 t_368.1 t_430).bind fun t_431 =>
 (rd1 D.G t_431 s_426).bind fun t_432 =>
 (bin .add .num t_432 (.int .i64 1)).bind fun t_433 =>
 (idx 1 t_368.1 t_430).bind fun t_434 =>
 (one t_433).bind fun o_435 =>
 (wr t_434 [o_435] s_426).bind fun s_436 =>
 (bin .add .num t_424 (.int .i64 1)).bind fun t_437 =>
 go_427 t_437 (.agg (AV.cells t_425)) s_436)
 (k_422 (.agg (AV.cells t_425)) s_426)
theorem lp_q4_7_le {D : Ctx} (x0 x1 x2 k3) {k3'} (hk3 : Cle k3 k3') {u u'} (h : Cle u u') : Cle (lp_q4_7 D x0 x1 x2 k3 u) (lp_q4_7 D x0 x1 x2 k3' u') := by
 unfold lp_q4_7
 repeat (first
  | with_reducible refine Ole.bindr fun _ => ?_
  | with_reducible refine Ole.aCase ?_ ?_
  | refine Cle.succ fun _ => ?_
  | refine Cle.zero fun _ => ?_
  | exact Cle.use1 (by assumption)
  | exact Cle.use2 (by assumption)
  | with_reducible exact Ole.refl _)
theorem lp_q4_7_mono (D x0 x1 x2 k3) : Mono (lp_q4_7 D x0 x1 x2 k3) := fun _ _ => lp_q4_7_le _ _ _ _ (Cle.refl _)
noncomputable def lp_q4_8 (D : Ctx) (t_370 : AV) (t_369 : AV) (t_368 : AV × Store) (k_373 : Cur 1) : Cur 2 → Cur 2 :=
 fun go_413 t_410 t_411 s_412 =>
 (bin .lss .num t_410 t_370).bind fun t_414 =>
 aCase t_414
 ((idx 8 t_369 t_410).bind fun t_415 =>
 (rdN 8 t_415 s_412).bind fun t_416 =>
 (asplit 8 (.agg t_416)).bind fun cs_417 =>
 (rd1 D.G (.pptr cs_417 7) s_412).bind fun t_418 =>
 (lenV .sl t_418 s_412).bind fun t_419 =>
 jn 1 (fun t_420 s_421 =>
 (bin .add .num t_410 (.int .i64 1)).bind fun t_423 =>
 go_413 t_423 (.agg (AV.cells t_420)) s_421)
 (fun k_422 =>
 lpFix 2 (lp_q4_7 D t_419 t_418 t_368 k_422) (.int .i64 0) (.agg (AV.cells t_411)) s_412))
 (k_373 (.agg (AV.cells t_411)) s_412)
theorem lp_q4_8_le {D : Ctx} (x0 x1 x2 k3) {k3'} (hk3 : Cle k3 k3') {u u'} (h : Cle u u') : Cle (lp_q4_8 D x0 x1 x2 k3 u) (lp_q4_8 D x0 x1 x2 k3' u') := by
 unfold lp_q4_8
 repeat (first
  | with_reducible refine Ole.bindr fun _ => ?_
  | with_reducible refine Ole.aCase ?_ ?_
  | refine Ole.jn ?_ (fun _ _ _ => ?_)
  | refine Cle.succ fun _ => ?_
  | refine Cle.zero fun _ => ?_
  | exact Cle.use1 (by assumption)
  | exact Cle.use2 (by assumption)
  | exact Cle.use2 (lpFix_mono (lp_q4_7_mono _ _ _ _ _) (lp_q4_7_mono _ _ _ _ _) fun _ => lp_q4_7_le _ _ _ _ (by first | assumption | exact Cle.refl _) (Cle.refl _))
  | with_reducible exact Ole.refl _)
theorem lp_q4_8_mono (D x0 x1 x2 k3) : Mono (lp_q4_8 D x0 x1 x2 k3) := fun _ _ => lp_q4_8_le _ _ _ _ (Cle.refl _)
noncomputable def lp_q4_9 (D : Ctx) (t_378 : AV) (t_376 : AV) (t_358 : AV) (cs_365 : List AV) (t_368 : AV × Store) (k_381 : Cur 1) : Cur 2 → Cur 2 :=
 fun go_386 t_383 t_384 s_385 =>
 (bin .lss .num t_383 t_378).bind fun t_387 =>
 aCase t_387
 ((bin .lss .num t_383 t_376).bind fun t_388 =>
 jn 1 (fun t_389 s_390 =>
 jn 1 (fun t_392 s_393 =>
 aCase t_392
 ((one t_358).bind fun o_395 =>
 (one t_383).bind fun o_396 =>
 some ((.agg [(.int .i64 4), o_395, o_396]), s_393))
 ((bin .add .num t_383 (.int .i64 1)).bind fun t_397 =>
 go_386 t_397 (.agg (AV.cells t_384)) s_393))
 (fun j_394 =>
 aCase t_389
 (j_394 (.bool true) s_390)
 ((bin .eql .num t_383 t_376).bind fun t_398 =>
 jn 1 (fun t_399 s_400 =>
 j_394 t_399 s_400)
 (fun j_401 =>
 aCase t_398
 ((rd1 D.G (.pptr cs_365 6) s_390).bind fun t_402 =>
 (idx 8 t_402 t_383).bind fun t_403 =>
 (fadd t_403 0).bind fun t_404 =>
 (rd1 D.G t_404 s_390).bind fun t_405 =>
 (bin .neq .num t_405 (.int .i64 1)).bind fun t_406 =>
 j_401 t_406 s_390)
 (j_401 (.bool false) s_390)))))
 (fun j_391 =>
 aCase t_388
 ((idx 1 t_368.1 t_383).bind fun t_407 =>
 (rd1 D.G t_407 s_385).bind fun t_408 =>
 (bin .neq .num t_408 (.int .i64 1)).bind fun t_409 =>
 j_391 t_409 s_385)
 (j_391 (.bool false) s_385)))
 (k_381 (.agg (AV.cells t_384)) s_385)
theorem lp_q4_9_le {D : Ctx} (x0 x1 x2 x3 x4 k5) {k5'} (hk5 : Cle k5 k5') {u u'} (h : Cle u u') : Cle (lp_q4_9 D x0 x1 x2 x3 x4 k5 u) (lp_q4_9 D x0 x1 x2 x3 x4 k5' u') := by
 unfold lp_q4_9
 repeat (first
  | with_reducible refine Ole.bindr fun _ => ?_
  | with_reducible refine Ole.aCase ?_ ?_
  | refine Ole.jn ?_ (fun _ _ _ => ?_)
  | refine Cle.succ fun _ => ?_
  | refine Cle.zero fun _ => ?_
  | exact Cle.use1 (by assumption)
  | exact Cle.use2 (by assumption)
  | with_reducible exact Ole.refl _)
theorem lp_q4_9_mono (D x0 x1 x2 x3 x4 k5) : Mono (lp_q4_9 D x0 x1 x2 x3 x4 k5) := fun _ _ => lp_q4_9_le _ _ _ _ _ _ (Cle.refl _)
noncomputable def lp_q4_10 (D : Ctx) (t_27 : AV) (t_26 : AV) (k_30 : Cur 1) : Cur 2 → Cur 2 :=
 fun go_361 t_358 t_359 s_360 =>
 (bin .lss .num t_358 t_27).bind fun t_362 =>
 aCase t_362
 ((idx 7 t_26 t_358).bind fun t_363 =>
 (rdN 7 t_363 s_360).bind fun t_364 =>
 (asplit 7 (.agg t_364)).bind fun cs_365 =>
 (rd1 D.G (.pptr cs_365 6) s_360).bind fun t_366 =>
 (lenV .sl t_366 s_360).bind fun t_367 =>
 (mkSlice [(.int .i64 0)] t_367 s_360).bind fun t_368 =>
 (rd1 D.G (.pptr cs_365 6) t_368.2).bind fun t_369 =>
 (lenV .sl t_369 t_368.2).bind fun t_370 =>
 jn 1 (fun t_371 s_372 =>
 (rd1 D.G (.pptr cs_365 6) s_372).bind fun t_374 =>
 (lenV .sl t_374 s_372).bind fun t_375 =>
 (bin .sub .num t_375 (.int .i64 1)).bind fun t_376 =>
 (rd1 D.G (.pptr cs_365 6) s_372).bind fun t_377 =>
 (lenV .sl t_377 s_372).bind fun t_378 =>
 jn 1 (fun t_379 s_380 =>
 (bin .add .num t_358 (.int .i64 1)).bind fun t_382 =>
 go_361 t_382 (.agg (AV.cells t_379)) s_380)
 (fun k_381 =>
 lpFix 2 (lp_q4_9 D t_378 t_376 t_358 cs_365 t_368 k_381) (.int .i64 0) (.agg (AV.cells t_371)) s_372))
 (fun k_373 =>
 lpFix 2 (lp_q4_8 D t_370 t_369 t_368 k_373) (.int .i64 0) (.agg (AV.cells t_359)) t_368.2))
 (k_30 (.agg (AV.cells t_359)) s_360)
theorem lp_q4_10_le {D : Ctx} (x0 x1 k2) {k2'} (hk2 : Cle k2 k2') {u u'} (h : Cle u u') : Cle (lp_q4_10 D x0 x1 k2 u) (lp_q4_10 D x0 x1 k2' u') := by
 unfold lp_q4_10
 repeat (first
  | with_reducible refine Ole.bindr fun _ => ?_
  | with_reducible refine Ole.aCase ?_ ?_
  | refine Ole.jn ?_ (fun _ _ _ => ?_)
  | refine Cle.succ fun _ => ?_
  | refine Cle.zero fun _ => ?_
  | exact Cle.use1 (by assumption)
  | exact Cle.use2 (by assumption)
  | exact Cle.use2 (lpFix_mono (lp_q4_8_mono _ _ _ _ _) (lp_q4_8_mono _ _ _ _ _) fun _ => lp_q4_8_le _ _ _ _ (by first | assumption | exact Cle.refl _) (Cle.refl _))
  | exact Cle.use2 (lpFix_mono (lp_q4_9_mono _ _ _ _ _ _ _) (lp_q4_9_mono _ _ _ _ _ _ _) fun _ => lp_q4_9_le _ _ _ _ _ _ (by first | assumption | exact Cle.refl _) (Cle.refl _))
  | with_reducible exact Ole.refl _)
theorem lp_q4_10_mono (D x0 x1 k2) : Mono (lp_q4_10 D x0 x1 k2) := fun _ _ => lp_q4_10_le _ _ _ (Cle.refl _)
noncomputable def lp_q4_11 (D : Ctx) (t_339 : AV) (t_338 : AV) (t_306 : AV × Store) (n_330 : AV) (k_342 : Cur 1) : Cur 2 → Cur 2 :=
 fun go_347 t_344 t_345 s_346 =>
 (bin .lss .num t_344 t_339).bind fun t_348 =>
 aCase t_348
 ((idx 1 t_338 t_344).bind fun t_349 =>
 (rd1 D.G t_349 s_346).bind fun t_350 =>
 (idx 1 t_306.1 n_330).bind fun t_351 =>
 (rd1 D.G t_351 s_346).bind fun t_352 =>
 (bin .add .num t_352 (.int .i64 1)).bind fun t_353 =>
 (idx 1 t_306.1 t_350).bind fun t_354 =>
 (one t_353).bind fun o_355 =>
 (wr t_354 [o_355] s_346).bind fun s_356 =>
 (bin .add .num t_344 (.int .i64 1)).bind fun t_357 =>
 go_347 t_357 (.agg (AV.cells t_345)) s_356)
 (k_342 (.agg (AV.cells t_345)) s_346)
theorem lp_q4_11_le {D : Ctx} (x0 x1 x2 x3 k4) {k4'} (hk4 : Cle k4 k4') {u u'} (h : Cle u u') : Cle (lp_q4_11 D x0 x1 x2 x3 k4 u) (lp_q4_11 D x0 x1 x2 x3 k4' u') := by
 unfold lp_q4_11
 repeat (first
  | with_reducible refine Ole.bindr fun _ => ?_
  | with_reducible refine Ole.aCase ?_ ?_
  | refine Cle.succ fun _ => ?_
  | refine Cle.zero fun _ => ?_
  | exact Cle.use1 (by assumption)
  | exact Cle.use2 (by assumption)
  | with_reducible exact Ole.refl _)
theorem lp_q4_11_mono (D x0 x1 x2 x3 k4) : Mono (lp_q4_11 D x0 x1 x2 x3 k4) := fun _ _ => lp_q4_11_le _ _ _ _ _ (Cle.refl _)
noncomputable def lp_q4_12 (D : Ctx) (cs_303 : List AV) (t_306 : AV × Store) (k_312 : Cur 1) : Cur 2 → Cur 2 :=
 fun go_333 n_330 t_331 s_332 =>
 (bin .geq .num n_330 (.int .i64 0)).bind fun t_334 =>
 aCase t_334
 ((rd1 D.G (.pptr cs_303 6) s_332).bind fun t_335 =>
 (idx 8 t_335 n_330).bind fun t_336 =>
 (fadd t_336 7).bind fun t_337 =>
 (rd1 D.G t_337 s_332).bind fun t_338 =>
 (lenV .sl t_338 s_332).bind fun t_339 =>
 jn 1 (fun t_340 s_341 =>
 (bin .sub .num n_330 (.int .i64 1)).bind fun t_343 =>
 go_333 t_343 (.agg (AV.cells t_340)) s_341)
 (fun k_342 =>
 lpFix 2 (lp_q4_11 D t_339 t_338 t_306 n_330 k_342) (.int .i64 0) (.agg (AV.cells t_331)) s_332))
 (k_312 (.agg (AV.cells t_331)) s_332)
theorem lp_q4_12_le {D : Ctx} (x0 x1 k2) {k2'} (hk2 : Cle k2 k2') {u u'} (h : Cle u u') : Cle (lp_q4_12 D x0 x1 k2 u) (lp_q4_12 D x0 x1 k2' u') := by
 unfold lp_q4_12
 repeat (first
  | with_reducible refine Ole.bindr fun _ => ?_
  | with_reducible refine Ole.aCase ?_ ?_
  | refine Ole.jn ?_ (fun _ _ _ => ?_)
  | refine Cle.succ fun _ => ?_
  | refine Cle.zero fun _ => ?_
  | exact Cle.use1 (by assumption)
  | exact Cle.use2 (by assumption)
  | exact Cle.use2 (lpFix_mono (lp_q4_11_mono _ _ _ _ _ _) (lp_q4_11_mono _ _ _ _ _ _) fun _ => lp_q4_11_le _ _ _ _ _ (by first | assumption | exact Cle.refl _) (Cle.refl _))
  | with_reducible exact Ole.refl _)
theorem lp_q4_12_mono (D x0 x1 k2) : Mono (lp_q4_12 D x0 x1 k2) := fun _ _ => lp_q4_12_le _ _ _ (Cle.refl _)
noncomputable def lp_q4_13 (D : Ctx) (t_314 : AV) (t_306 : AV × Store) (t_296 : AV) (k_317 : Cur 1) : Cur 2 → Cur 2 :=
 fun go_322 t_319 t_320 s_321 =>
 (bin .lss .num t_319 t_314).bind fun t_323 =>
 aCase t_323
 ((idx 1 t_306.1 t_319).bind fun t_324 =>
 (rd1 D.G t_324 s_321).bind fun t_325 =>
 (bin .gtr .num t_325 (.int .i64 100)).bind fun t_326 =>
 aCase t_326
 ((one t_296).bind fun o_327 =>
 (one t_319).bind fun o_328 =>
 some ((.agg [(.int .i64 5), o_327, o_328]), s_321))
 ((bin .add .num t_319 (.int .i64 1)).bind fun t_329 =>
 go_322 t_329 (.agg (AV.cells t_320)) s_321))
 (k_317 (.agg (AV.cells t_320)) s_321)
theorem lp_q4_13_le {D : Ctx} (x0 x1 x2 k3) {k3'} (hk3 : Cle k3 k3') {u u'} (h : Cle u u') : Cle (lp_q4_13 D x0 x1 x2 k3 u) (lp_q4_13 D x0 x1 x2 k3' u') := by
 unfold lp_q4_13
 repeat (first
  | with_reducible refine Ole.bindr fun _ => ?_
  | with_reducible refine Ole.aCase ?_ ?_
  | refine Cle.succ fun _ => ?_
  | refine Cle.zero fun _ => ?_
  | exact Cle.use1 (by assumption)
  | exact Cle.use2 (by assumption)
  | with_reducible exact Ole.refl _)
theorem lp_q4_13_mono (D x0 x1 x2 k3) : Mono (lp_q4_13 D x0 x1 x2 k3) := fun _ _ => lp_q4_13_le _ _ _ _ (Cle.refl _)
noncomputable def lp_q4_14 (D : Ctx) (t_32 : AV) (t_31 : AV) (k_35 : Cur 1) : Cur 2 → Cur 2 :=
 fun go_299 t_296 t_297 s_298 =>
 (bin .lss .num t_296 t_32).bind fun t_300 =>
 aCase t_300
 ((idx 7 t_31 t_296).bind fun t_301 =>
 (rdN 7 t_301 s_298).bind fun t_302 =>
 (asplit 7 (.agg t_302)).bind fun cs_303 =>
 (rd1 D.G (.pptr cs_303 6) s_298).bind fun t_304 =>
 (lenV .sl t_304 s_298).bind fun t_305 =>
 (mkSlice [(.int .i64 0)] t_305 s_298).bind fun t_306 =>
 (rd1 D.G (.pptr cs_303 6) t_306.2).bind fun t_307 =>
 (lenV .sl t_307 t_306.2).bind fun t_308 =>
 (bin .sub .num t_308 (.int .i64 1)).bind fun t_309 =>
 jn 1 (fun t_310 s_311 =>
 (rd1 D.G (.pptr cs_303 6) s_311).bind fun t_313 =>
 (lenV .sl t_313 s_311).bind fun t_314 =>
 jn 1 (fun t_315 s_316 =>
 (bin .add .num t_296 (.int .i64 1)).bind fun t_318 =>
 go_299 t_318 (.agg (AV.cells t_315)) s_316)
 (fun k_317 =>
 lpFix 2 (lp_q4_13 D t_314 t_306 t_296 k_317) (.int .i64 0) (.agg (AV.cells t_310)) s_311))
 (fun k_312 =>
 lpFix 2 (lp_q4_12 D cs_303 t_306 k_312) t_309 (.agg (AV.cells t_297)) t_306.2))
 (k_35 (.agg (AV.cells t_297)) s_298)
theorem lp_q4_14_le {D : Ctx} (x0 x1 k2) {k2'} (hk2 : Cle k2 k2') {u u'} (h : Cle u u') : Cle (lp_q4_14 D x0 x1 k2 u) (lp_q4_14 D x0 x1 k2' u') := by
 unfold lp_q4_14
 repeat (first
  | with_reducible refine Ole.bindr fun _ => ?_
  | with_reducible refine Ole.aCase ?_ ?_
  | refine Ole.jn ?_ (fun _ _ _ => ?_)
  | refine Cle.succ fun _ => ?_
  | refine Cle.zero fun _ => ?_
  | exact Cle.use1 (by assumption)
  | exact Cle.use2 (by assumption)
  | exact Cle.use2 (lpFix_mono (lp_q4_12_mono _ _ _ _) (lp_q4_12_mono _ _ _ _) fun _ => lp_q4_12_le _ _ _ (by first | assumption | exact Cle.refl _) (Cle.refl _))
  | exact Cle.use2 (lpFix_mono (lp_q4_13_mono _ _ _ _ _) (lp_q4_13_mono _ _ _ _ _) fun _ => lp_q4_13_le _ _ _ _ (by first | assumption | exact Cle.refl _) (Cle.refl _))
  | with_reducible exact Ole.refl _)
theorem lp_q4_14_mono (D x0 x1 k2) : Mono (lp_q4_14 D x0 x1 k2) := fun _ _ => lp_q4_14_le _ _ _ (Cle.refl _)
noncomputable def lp_q4_15 (D : Ctx) (t_37 : AV) (t_36 : AV) (s_34 : Store) (k_40 : Cur 1) : Cur 2 → Cur 2 :=
 fun go_287 t_284 t_285 s_286 =>
 (bin .lss .num t_284 t_37).bind fun t_288 =>
 aCase t_288
 ((idx 7 t_36 t_284).bind fun t_289 =>
 (rdN 7 t_289 s_286).bind fun t_290 =>
 (one t_284).bind fun o_291 =>
 (asplit 7 (.agg t_290)).bind fun cs_292 =>
 (rdN 7 (.pptr cs_292 0) s_286).bind fun t_293 =>
 (D.call 17 [(.agg t_293), (.func 18 [] [(.pptr cs_292 0), (.pptr [(.hmap s_34.next)] 0), (.pptr [o_291] 0), (.pptr [(.hmap (s_34.add (.map (.agg [(.int .i64), (.int .i64)]) fun _ => none)).next)] 0), (.pptr [(.hmap ((s_34.add (.map (.agg [(.int .i64), (.int .i64)]) fun _ => none)).add (.map (.agg [(.int .i64), (.int .i64)]) fun _ => none)).next)] 0)])] s_286).bind fun t_294 =>
 (bin .add .num t_284 (.int .i64 1)).bind fun t_295 =>
 go_287 t_295 (.agg (AV.cells t_285)) t_294.2)
 (k_40 (.agg (AV.cells t_285)) s_286)
theorem lp_q4_15_le {D : Ctx} (x0 x1 x2 k3) {k3'} (hk3 : Cle k3 k3') {u u'} (h : Cle u u') : Cle (lp_q4_15 D x0 x1 x2 k3 u) (lp_q4_15 D x0 x1 x2 k3' u') := by
 unfold lp_q4_15
 repeat (first
  | with_reducible refine Ole.bindr fun _ => ?_
  | with_reducible refine Ole.aCase ?_ ?_
  | refine Cle.succ fun _ => ?_
  | refine Cle.zero fun _ => ?_
  | exact Cle.use1 (by assumption)
  | exact Cle.use2 (by assumption)
  | with_reducible exact Ole.refl _)
theorem lp_q4_15_mono (D x0 x1 x2 k3) : Mono (lp_q4_15 D x0 x1 x2 k3) := fun _ _ => lp_q4_15_le _ _ _ _ (Cle.refl _)
noncomputable def lp_q4_16 (D : Ctx) (t_206 : AV) (s_200 : Store) (k_209 : Cur 1) : Cur 2 → Cur 2 :=
 fun go_280 t_277 t_278 s_279 =>
 (bin .lss .num t_277 t_206).bind fun t_281 =>
 aCase t_281
 ((mapSet (.int .i64) (.hmap s_200.next) t_277 (.bool true) s_279).bind fun s_282 =>
 (bin .add .num t_277 (.int .i64 1)).bind fun t_283 =>
 go_280 t_283 (.agg (AV.cells t_278)) s_282)
 (k_209 (.agg (AV.cells t_278)) s_279)
theorem lp_q4_16_le {D : Ctx} (x0 x1 k2) {k2'} (hk2 : Cle k2 k2') {u u'} (h : Cle u u') : Cle (lp_q4_16 D x0 x1 k2 u) (lp_q4_16 D x0 x1 k2' u') := by
 unfold lp_q4_16
 repeat (first
  | with_reducible refine Ole.bindr fun _ => ?_
  | with_reducible refine Ole.aCase ?_ ?_
  | refine Cle.succ fun _ => ?_
  | refine Cle.zero fun _ => ?_
  | exact Cle.use1 (by assumption)
  | exact Cle.use2 (by assumption)
  | with_reducible exact Ole.refl _)
theorem lp_q4_16_mono (D x0 x1 k2) : Mono (lp_q4_16 D x0 x1 k2) := fun _ _ => lp_q4_16_le _ _ _ (Cle.refl _)
noncomputable def lp_q4_17 (D : Ctx) (t_225 : AV) (t_224 : AV) (cs_205 : List AV) (cs_223 : List AV) (t_198 : AV) (t_216 : AV) (s_200 : Store) (a0 : AV) (k_228 : Cur 1) : Cur 2 → Cur 2 :=
 fun go_238 t_235 t_236 s_237 =>
 (bin .lss .num t_235 t_225).bind fun t_239 =>
 aCase t_239
 ((idx 1 t_224 t_235).bind fun t_240 =>
 (rd1 D.G t_240 s_237).bind fun t_241 =>
 (rd1 D.G (.pptr cs_205 4) s_237).bind fun t_242 =>
 (lenV .sl t_242 s_237).bind fun t_243 =>
 (rd1 D.G (.pptr cs_223 0) s_237).bind fun t_244 =>
 (bin .eql .num t_244 (.int .i64 27)).bind fun t_245 =>
 jn 2 (fun most_246 t_247 s_248 =>
 (rd1 D.G (.pptr cs_223 0) s_248).bind fun t_250 =>
 (bin .eql .num t_250 (.int .i64 36)).bind fun t_251 =>
 jn 2 (fun most_252 t_253 s_254 =>
 (bin .lss .num t_241 (.int .i64 0)).bind fun t_256 =>
 jn 1 (fun t_257 s_258 =>
 aCase t_257
 ((one t_198).bind fun o_260 =>
 (one t_216).bind fun o_261 =>
 some ((.agg [(.int .i64 6), o_260, o_261]), s_258))
 ((rd1 D.G (.pptr cs_223 0) s_258).bind fun t_262 =>
 (callV D 19 [t_262] s_258).bind fun t_263 =>
 jn 1 (fun t_264 s_265 =>
 (bin .add .num t_235 (.int .i64 1)).bind fun t_267 =>
 go_238 t_267 (.agg (AV.cells t_264)) s_265)
 (fun k_266 =>
 aCase t_263
 ((lookup1 (.int .i64) (.bool false) (.hmap s_200.next) t_241 s_258).bind fun t_268 =>
 aCase t_268
 ((one t_198).bind fun o_269 =>
 (one t_216).bind fun o_270 =>
 some ((.agg [(.int .i64 6), o_269, o_270]), s_258))
 ((mapSet (.int .i64) (.hmap s_200.next) t_241 (.bool true) s_258).bind fun s_271 =>
 k_266 (.agg (AV.cells t_253)) s_271))
 (k_266 (.agg (AV.cells t_253)) s_258))))
 (fun j_259 =>
 aCase t_256
 (j_259 (.bool true) s_254)
 ((bin .geq .num t_241 most_252).bind fun t_272 =>
 j_259 t_272 s_254)))
 (fun k_255 =>
 aCase t_251
 ((rd1 D.G (.pptr (AV.cells a0) 0) s_248).bind fun t_273 =>
 (lenV .sl t_273 s_248).bind fun t_274 =>
 k_255 t_274 (.agg (AV.cells t_247)) s_248)
 (k_255 most_246 (.agg (AV.cells t_247)) s_248)))
 (fun k_249 =>
 aCase t_245
 ((rd1 D.G (.pptr cs_205 5) s_237).bind fun t_275 =>
 (lenV .sl t_275 s_237).bind fun t_276 =>
 k_249 t_276 (.agg (AV.cells t_236)) s_237)
 (k_249 t_243 (.agg (AV.cells t_236)) s_237)))
 (k_228 (.agg (AV.cells t_236)) s_237)
theorem lp_q4_17_le {D : Ctx} (x0 x1 x2 x3 x4 x5 x6 x7 k8) {k8'} (hk8 : Cle k8 k8') {u u'} (h : Cle u u') : Cle (lp_q4_17 D x0 x1 x2 x3 x4 x5 x6 x7 k8 u) (lp_q4_17 D x0 x1 x2 x3 x4 x5 x6 x7 k8' u') := by
 unfold lp_q4_17
 repeat (first
  | with_reducible refine Ole.bindr fun _ => ?_
  | with_reducible refine Ole.aCase ?_ ?_
  | refine Ole.jn ?_ (fun _ _ _ => ?_)
  | refine Cle.succ fun _ => ?_
  | refine Cle.zero fun _ => ?_
  | exact Cle.use1 (by assumption)
  | exact Cle.use2 (by assumption)
  | with_reducible exact Ole.refl _)
theorem lp_q4_17_mono (D x0 x1 x2 x3 x4 x5 x6 x7 k8) : Mono (lp_q4_17 D x0 x1 x2 x3 x4 x5 x6 x7 k8) := fun _ _ => lp_q4_17_le _ _ _ _ _ _ _ _ _ (Cle.refl _)
noncomputable def lp_q4_18 (D : Ctx) (t_211 : AV) (t_210 : AV) (t_198 : AV) (s_34 : Store) (cs_205 : List AV) (s_200 : Store) (a0 : AV) (k_214 : Cur 1) : Cur 2 → Cur 2 :=
 fun go_219 t_216 t_217 s_218 =>
 (bin .lss .num t_216 t_211).bind fun t_220 =>
 aCase t_220
 ((idx 8 t_210 t_216).bind fun t_221 =>
 (rdN 8 t_221 s_218).bind fun t_222 =>
 (asplit 8 (.agg t_222)).bind fun cs_223 =>
 (rd1 D.G (.pptr cs_223 6) s_218).bind fun t_224 =>
 (lenV .sl t_224 s_218).bind fun t_225 =>
 jn 1 (fun t_226 s_227 =>
 (one t_198).bind fun o_229 =>
 (one t_216).bind fun o_230 =>
 (lookup1 (.agg [(.int .i64), (.int .i64)]) (.bool false) (.hmap s_34.next) (.agg [o_229, o_230]) s_227).bind fun t_231 =>
 aCase t_231
 ((one t_198).bind fun o_232 =>
 (one t_216).bind fun o_233 =>
 some ((.agg [(.int .i64 6), o_232, o_233]), s_227))
 ((bin .add .num t_216 (.int .i64 1)).bind fun t_234 =>
 go_219 t_234 (.agg (AV.cells t_226)) s_227))
 (fun k_228 =>
 lpFix 2 (lp_q4_17 D t_225 t_224 cs_205 cs_223 t_198 t_216 s_200 a0 k_228) (.int .i64 0) (.agg (AV.cells t_217)) s_218))
 (k_214 (.agg (AV.cells t_217)) s_218)
theorem lp_q4_18_le {D : Ctx} (x0 x1 x2 x3 x4 x5 x6 k7) {k7'} (hk7 : Cle k7 k7') {u u'} (h : Cle u u') : Cle (lp_q4_18 D x0 x1 x2 x3 x4 x5 x6 k7 u) (lp_q4_18 D x0 x1 x2 x3 x4 x5 x6 k7' u') := by
 unfold lp_q4_18
 repeat (first
  | with_reducible refine Ole.bindr fun _ => ?_
  | with_reducible refine Ole.aCase ?_ ?_
  | refine Ole.jn ?_ (fun _ _ _ => ?_)
  | refine Cle.succ fun _ => ?_
  | refine Cle.zero fun _ => ?_
  | exact Cle.use1 (by assumption)
  | exact Cle.use2 (by assumption)
  | exact Cle.use2 (lpFix_mono (lp_q4_17_mono _ _ _ _ _ _ _ _ _ _) (lp_q4_17_mono _ _ _ _ _ _ _ _ _ _) fun _ => lp_q4_17_le _ _ _ _ _ _ _ _ _ (by first | assumption | exact Cle.refl _) (Cle.refl _))
  | with_reducible exact Ole.refl _)
theorem lp_q4_18_mono (D x0 x1 x2 x3 x4 x5 x6 k7) : Mono (lp_q4_18 D x0 x1 x2 x3 x4 x5 x6 k7) := fun _ _ => lp_q4_18_le _ _ _ _ _ _ _ _ (Cle.refl _)
noncomputable def lp_q4_19 (D : Ctx) (t_42 : AV) (t_41 : AV) (s_34 : Store) (a0 : AV) (k_45 : Cur 1) : Cur 2 → Cur 2 :=
 fun go_201 t_198 t_199 s_200 =>
 (bin .lss .num t_198 t_42).bind fun t_202 =>
 aCase t_202
 ((idx 7 t_41 t_198).bind fun t_203 =>
 (rdN 7 t_203 s_200).bind fun t_204 =>
 (asplit 7 (.agg t_204)).bind fun cs_205 =>
 (rd1 D.G (.pptr cs_205 2) (s_200.add (.map (.int .i64) fun _ => none))).bind fun t_206 =>
 jn 1 (fun t_207 s_208 =>
 (rd1 D.G (.pptr cs_205 6) s_208).bind fun t_210 =>
 (lenV .sl t_210 s_208).bind fun t_211 =>
 jn 1 (fun t_212 s_213 =>
 (bin .add .num t_198 (.int .i64 1)).bind fun t_215 =>
 go_201 t_215 (.agg (AV.cells t_212)) s_213)
 (fun k_214 =>
 lpFix 2 (lp_q4_18 D t_211 t_210 t_198 s_34 cs_205 s_200 a0 k_214) (.int .i64 0) (.agg (AV.cells t_207)) s_208))
 (fun k_209 =>
 lpFix 2 (lp_q4_16 D t_206 s_200 k_209) (.int .i64 0) (.agg (AV.cells t_199)) (s_200.add (.map (.int .i64) fun _ => none))))
 (k_45 (.agg (AV.cells t_199)) s_200)
theorem lp_q4_19_le {D : Ctx} (x0 x1 x2 x3 k4) {k4'} (hk4 : Cle k4 k4') {u u'} (h : Cle u u') : Cle (lp_q4_19 D x0 x1 x2 x3 k4 u) (lp_q4_19 D x0 x1 x2 x3 k4' u') := by
 unfold lp_q4_19
 repeat (first
  | with_reducible refine Ole.bindr fun _ => ?_
  | with_reducible refine Ole.aCase ?_ ?_
  | refine Ole.jn ?_ (fun _ _ _ => ?_)
  | refine Cle.succ fun _ => ?_
  | refine Cle.zero fun _ => ?_
  | exact Cle.use1 (by assumption)
  | exact Cle.use2 (by assumption)
  | exact Cle.use2 (lpFix_mono (lp_q4_16_mono _ _ _ _) (lp_q4_16_mono _ _ _ _) fun _ => lp_q4_16_le _ _ _ (by first | assumption | exact Cle.refl _) (Cle.refl _))
  | exact Cle.use2 (lpFix_mono (lp_q4_18_mono _ _ _ _ _ _ _ _ _) (lp_q4_18_mono _ _ _ _ _ _ _ _ _) fun _ => lp_q4_18_le _ _ _ _ _ _ _ _ (by first | assumption | exact Cle.refl _) (Cle.refl _))
  | with_reducible exact Ole.refl _)
theorem lp_q4_19_mono (D x0 x1 x2 x3 k4) : Mono (lp_q4_19 D x0 x1 x2 x3 k4) := fun _ _ => lp_q4_19_le _ _ _ _ _ (Cle.refl _)
noncomputable def lp_q4_20 (D : Ctx) (t_182 : AV) (t_173 : AV) (s_34 : Store) (k_185 : Cur 1) : Cur 2 → Cur 2 :=
 fun go_190 t_187 t_188 s_189 =>
 (bin .lss .num t_187 t_182).bind fun t_191 =>
 aCase t_191
 ((one t_173).bind fun o_192 =>
 (one t_187).bind fun o_193 =>
 (lookup1 (.agg [(.int .i64), (.int .i64)]) (.bool false) (.hmap (s_34.add (.map (.agg [(.int .i64), (.int .i64)]) fun _ => none)).next) (.agg [o_192, o_193]) s_189).bind fun t_194 =>
 aCase t_194
 ((one t_173).bind fun o_195 =>
 (one t_187).bind fun o_196 =>
 some ((.agg [(.int .i64 7), o_195, o_196]), s_189))
 ((bin .add .num t_187 (.int .i64 1)).bind fun t_197 =>
 go_190 t_197 (.agg (AV.cells t_188)) s_189))
 (k_185 (.agg (AV.cells t_188)) s_189)
theorem lp_q4_20_le {D : Ctx} (x0 x1 x2 k3) {k3'} (hk3 : Cle k3 k3') {u u'} (h : Cle u u') : Cle (lp_q4_20 D x0 x1 x2 k3 u) (lp_q4_20 D x0 x1 x2 k3' u') := by
 unfold lp_q4_20
 repeat (first
  | with_reducible refine Ole.bindr fun _ => ?_
  | with_reducible refine Ole.aCase ?_ ?_
  | refine Cle.succ fun _ => ?_
  | refine Cle.zero fun _ => ?_
  | exact Cle.use1 (by assumption)
  | exact Cle.use2 (by assumption)
  | with_reducible exact Ole.refl _)
theorem lp_q4_20_mono (D x0 x1 x2 k3) : Mono (lp_q4_20 D x0 x1 x2 k3) := fun _ _ => lp_q4_20_le _ _ _ _ (Cle.refl _)
noncomputable def lp_q4_21 (D : Ctx) (t_47 : AV) (t_46 : AV) (s_34 : Store) (k_50 : Cur 1) : Cur 2 → Cur 2 :=
 fun go_176 t_173 t_174 s_175 =>
 (bin .lss .num t_173 t_47).bind fun t_177 =>
 aCase t_177
 ((idx 7 t_46 t_173).bind fun t_178 =>
 (rdN 7 t_178 s_175).bind fun t_179 =>
 (asplit 7 (.agg t_179)).bind fun cs_180 =>
 (rd1 D.G (.pptr cs_180 6) s_175).bind fun t_181 =>
 (lenV .sl t_181 s_175).bind fun t_182 =>
 jn 1 (fun t_183 s_184 =>
 (bin .add .num t_173 (.int .i64 1)).bind fun t_186 =>
 go_176 t_186 (.agg (AV.cells t_183)) s_184)
 (fun k_185 =>
 lpFix 2 (lp_q4_20 D t_182 t_173 s_34 k_185) (.int .i64 0) (.agg (AV.cells t_174)) s_175))
 (k_50 (.agg (AV.cells t_174)) s_175)
theorem lp_q4_21_le {D : Ctx} (x0 x1 x2 k3) {k3'} (hk3 : Cle k3 k3') {u u'} (h : Cle u u') : Cle (lp_q4_21 D x0 x1 x2 k3 u) (lp_q4_21 D x0 x1 x2 k3' u') := by
 unfold lp_q4_21
 repeat (first
  | with_reducible refine Ole.bindr fun _ => ?_
  | with_reducible refine Ole.aCase ?_ ?_
  | refine Ole.jn ?_ (fun _ _ _ => ?_)
  | refine Cle.succ fun _ => ?_
  | refine Cle.zero fun _ => ?_
  | exact Cle.use1 (by assumption)
  | exact Cle.use2 (by assumption)
  | exact Cle.use2 (lpFix_mono (lp_q4_20_mono _ _ _ _ _) (lp_q4_20_mono _ _ _ _ _) fun _ => lp_q4_20_le _ _ _ _ (by first | assumption | exact Cle.refl _) (Cle.refl _))
  | with_reducible exact Ole.refl _)
theorem lp_q4_21_mono (D x0 x1 x2 k3) : Mono (lp_q4_21 D x0 x1 x2 k3) := fun _ _ => lp_q4_21_le _ _ _ _ (Cle.refl _)
noncomputable def lp_q4_22 (D : Ctx) (t_123 : AV) (t_122 : AV) (t_74 : AV) (t_88 : AV) (cs_81 : List AV) (s_34 : Store) (k_126 : Cur 1) : Cur 2 → Cur 2 :=
 fun go_130 t_127 t_128 s_129 =>
 (bin .lss .num t_127 t_123).bind fun t_131 =>
 aCase t_131
 ((idx 2 t_122 t_127).bind fun t_132 =>
 (rdN 2 t_132 s_129).bind fun t_133 =>
 (asplit 2 (.agg t_133)).bind fun cs_134 =>
 (rd1 D.G (.pptr cs_134 0) s_129).bind fun t_135 =>
 jn 1 (fun t_136 s_137 =>
 jn 1 (fun t_139 s_140 =>
 aCase t_139
 ((one t_74).bind fun o_142 =>
 (one t_88).bind fun o_143 =>
 some ((.agg [(.int .i64 8), o_142, o_143]), s_140))
 ((bin .add .num t_127 (.int .i64 1)).bind fun t_144 =>
 go_130 t_144 (.agg (AV.cells t_128)) s_140))
 (fun j_141 =>
 aCase t_136
 (j_141 (.bool true) s_137)
 ((rd1 D.G (.pptr cs_134 0) s_137).bind fun t_145 =>
 (un .not t_145).bind fun t_146 =>
 jn 1 (fun t_147 s_148 =>
 j_141 t_147 s_148)
 (fun j_149 =>
 aCase t_146
 ((rd1 D.G (.pptr cs_134 1) s_137).bind fun t_150 =>
 (bin .lss .num t_150 (.int .i64 0)).bind fun t_151 =>
 jn 1 (fun t_152 s_153 =>
 j_149 t_152 s_153)
 (fun j_154 =>
 aCase t_151
 (j_154 (.bool true) s_137)
 ((rd1 D.G (.pptr cs_134 1) s_137).bind fun t_155 =>
 (rd1 D.G (.pptr cs_81 5) s_137).bind fun t_156 =>
 (lenV .sl t_156 s_137).bind fun t_157 =>
 (bin .geq .num t_155 t_157).bind fun t_158 =>
 j_154 t_158 s_137)))
 (j_149 (.bool false) s_137)))))
 (fun j_138 =>
 aCase t_135
 ((rd1 D.G (.pptr cs_134 1) s_129).bind fun t_159 =>
 (bin .lss .num t_159 (.int .i64 0)).bind fun t_160 =>
 jn 1 (fun t_161 s_162 =>
 j_138 t_161 s_162)
 (fun j_163 =>
 aCase t_160
 (j_163 (.bool true) s_129)
 ((one t_74).bind fun o_164 =>
 (one t_88).bind fun o_165 =>
 (lookup1 (.agg [(.int .i64), (.int .i64)]) .nilmap (.hmap ((s_34.add (.map (.agg [(.int .i64), (.int .i64)]) fun _ => none)).add (.map (.agg [(.int .i64), (.int .i64)]) fun _ => none)).next) (.agg [o_164, o_165]) s_129).bind fun t_166 =>
 (rd1 D.G (.pptr cs_134 1) s_129).bind fun t_167 =>
 (lookup1 (.int .i64) (.bool false) t_166 t_167 s_129).bind fun t_168 =>
 (un .not t_168).bind fun t_169 =>
 j_163 t_169 s_129)))
 (j_138 (.bool false) s_129)))
 (k_126 (.agg (AV.cells t_128)) s_129)
theorem lp_q4_22_le {D : Ctx} (x0 x1 x2 x3 x4 x5 k6) {k6'} (hk6 : Cle k6 k6') {u u'} (h : Cle u u') : Cle (lp_q4_22 D x0 x1 x2 x3 x4 x5 k6 u) (lp_q4_22 D x0 x1 x2 x3 x4 x5 k6' u') := by
 unfold lp_q4_22
 repeat (first
  | with_reducible refine Ole.bindr fun _ => ?_
  | with_reducible refine Ole.aCase ?_ ?_
  | refine Ole.jn ?_ (fun _ _ _ => ?_)
  | refine Cle.succ fun _ => ?_
  | refine Cle.zero fun _ => ?_
  | exact Cle.use1 (by assumption)
  | exact Cle.use2 (by assumption)
  | with_reducible exact Ole.refl _)
theorem lp_q4_22_mono (D x0 x1 x2 x3 x4 x5 k6) : Mono (lp_q4_22 D x0 x1 x2 x3 x4 x5 k6) := fun _ _ => lp_q4_22_le _ _ _ _ _ _ _ (Cle.refl _)
noncomputable def lp_q4_23 (D : Ctx) (t_83 : AV) (t_82 : AV) (t_74 : AV) (s_49 : Store) (a0 : AV) (cs_81 : List AV) (s_34 : Store) (k_86 : Cur 1) : Cur 2 → Cur 2 :=
 fun go_91 t_88 t_89 s_90 =>
 (bin .lss .num t_88 t_83).bind fun t_92 =>
 aCase t_92
 (jn 1 (fun t_93 s_94 =>
 (bin .add .num t_88 (.int .i64 1)).bind fun t_96 =>
 go_91 t_96 (.agg (AV.cells t_93)) s_94)
 (fun k_95 =>
 (idx 8 t_82 t_88).bind fun t_97 =>
 (rdN 8 t_97 s_90).bind fun t_98 =>
 (asplit 8 (.agg t_98)).bind fun cs_99 =>
 (rd1 D.G (.pptr cs_99 0) s_90).bind fun t_100 =>
 (bin .eql .num t_100 (.int .i64 37)).bind fun t_101 =>
 jn 1 (fun t_102 s_103 =>
 aCase t_102
 ((one t_74).bind fun o_105 =>
 (one t_88).bind fun o_106 =>
 some ((.agg [(.int .i64 8), o_105, o_106]), s_103))
 ((rd1 D.G (.pptr cs_99 0) s_103).bind fun t_107 =>
 (bin .neq .num t_107 (.int .i64 36)).bind fun t_108 =>
 aCase t_108
 (k_95 (.agg (AV.cells t_89)) s_103)
 ((rd1 D.G (.pptr cs_99 6) s_103).bind fun t_109 =>
 (idx 1 t_109 (.int .i64 0)).bind fun t_110 =>
 (rd1 D.G t_110 s_103).bind fun t_111 =>
 (bin .leq .num t_111 t_74).bind fun t_112 =>
 jn 1 (fun t_113 s_114 =>
 aCase t_113
 ((one t_74).bind fun o_116 =>
 (one t_88).bind fun o_117 =>
 some ((.agg [(.int .i64 8), o_116, o_117]), s_114))
 ((mapSet (.int .i64) (.hmap s_49.next) t_111 (.bool true) s_114).bind fun s_118 =>
 (rd1 D.G (.pptr (AV.cells a0) 0) s_118).bind fun t_119 =>
 (idx 7 t_119 t_111).bind fun t_120 =>
 (fadd t_120 5).bind fun t_121 =>
 (rd1 D.G t_121 s_118).bind fun t_122 =>
 (lenV .sl t_122 s_118).bind fun t_123 =>
 jn 1 (fun t_124 s_125 =>
 k_95 (.agg (AV.cells t_124)) s_125)
 (fun k_126 =>
 lpFix 2 (lp_q4_22 D t_123 t_122 t_74 t_88 cs_81 s_34 k_126) (.int .i64 0) (.agg (AV.cells t_89)) s_118)))
 (fun j_115 =>
 aCase t_112
 (j_115 (.bool true) s_103)
 ((lookup1 (.int .i64) (.bool false) (.hmap s_49.next) t_111 s_103).bind fun t_170 =>
 j_115 t_170 s_103)))))
 (fun j_104 =>
 aCase t_101
 ((rd1 D.G (.pptr cs_81 3) s_90).bind fun t_171 =>
 (un .not t_171).bind fun t_172 =>
 j_104 t_172 s_90)
 (j_104 (.bool false) s_90))))
 (k_86 (.agg (AV.cells t_89)) s_90)
theorem lp_q4_23_le {D : Ctx} (x0 x1 x2 x3 x4 x5 x6 k7) {k7'} (hk7 : Cle k7 k7') {u u'} (h : Cle u u') : Cle (lp_q4_23 D x0 x1 x2 x3 x4 x5 x6 k7 u) (lp_q4_23 D x0 x1 x2 x3 x4 x5 x6 k7' u') := by
 unfold lp_q4_23
 repeat (first
  | with_reducible refine Ole.bindr fun _ => ?_
  | with_reducible refine Ole.aCase ?_ ?_
  | refine Ole.jn ?_ (fun _ _ _ => ?_)
  | refine Cle.succ fun _ => ?_
  | refine Cle.zero fun _ => ?_
  | exact Cle.use1 (by assumption)
  | exact Cle.use2 (by assumption)
  | exact Cle.use2 (lpFix_mono (lp_q4_22_mono _ _ _ _ _ _ _ _) (lp_q4_22_mono _ _ _ _ _ _ _ _) fun _ => lp_q4_22_le _ _ _ _ _ _ _ (by first | assumption | exact Cle.refl _) (Cle.refl _))
  | with_reducible exact Ole.refl _)
theorem lp_q4_23_mono (D x0 x1 x2 x3 x4 x5 x6 k7) : Mono (lp_q4_23 D x0 x1 x2 x3 x4 x5 x6 k7) := fun _ _ => lp_q4_23_le _ _ _ _ _ _ _ _ (Cle.refl _)
noncomputable def lp_q4_24 (D : Ctx) (t_52 : AV) (t_51 : AV) (s_49 : Store) (a0 : AV) (s_34 : Store) (k_55 : Cur 1) : Cur 2 → Cur 2 :=
 fun go_77 t_74 t_75 s_76 =>
 (bin .lss .num t_74 t_52).bind fun t_78 =>
 aCase t_78
 ((idx 7 t_51 t_74).bind fun t_79 =>
 (rdN 7 t_79 s_76).bind fun t_80 =>
 (asplit 7 (.agg t_80)).bind fun cs_81 =>
 (rd1 D.G (.pptr cs_81 6) s_76).bind fun t_82 =>
 (lenV .sl t_82 s_76).bind fun t_83 =>
 jn 1 (fun t_84 s_85 =>
 (bin .add .num t_74 (.int .i64 1)).bind fun t_87 =>
 go_77 t_87 (.agg (AV.cells t_84)) s_85)
 (fun k_86 =>
 lpFix 2 (lp_q4_23 D t_83 t_82 t_74 s_49 a0 cs_81 s_34 k_86) (.int .i64 0) (.agg (AV.cells t_75)) s_76))
 (k_55 (.agg (AV.cells t_75)) s_76)
theorem lp_q4_24_le {D : Ctx} (x0 x1 x2 x3 x4 k5) {k5'} (hk5 : Cle k5 k5') {u u'} (h : Cle u u') : Cle (lp_q4_24 D x0 x1 x2 x3 x4 k5 u) (lp_q4_24 D x0 x1 x2 x3 x4 k5' u') := by
 unfold lp_q4_24
 repeat (first
  | with_reducible refine Ole.bindr fun _ => ?_
  | with_reducible refine Ole.aCase ?_ ?_
  | refine Ole.jn ?_ (fun _ _ _ => ?_)
  | refine Cle.succ fun _ => ?_
  | refine Cle.zero fun _ => ?_
  | exact Cle.use1 (by assumption)
  | exact Cle.use2 (by assumption)
  | exact Cle.use2 (lpFix_mono (lp_q4_23_mono _ _ _ _ _ _ _ _ _) (lp_q4_23_mono _ _ _ _ _ _ _ _ _) fun _ => lp_q4_23_le _ _ _ _ _ _ _ _ (by first | assumption | exact Cle.refl _) (Cle.refl _))
  | with_reducible exact Ole.refl _)
theorem lp_q4_24_mono (D x0 x1 x2 x3 x4 k5) : Mono (lp_q4_24 D x0 x1 x2 x3 x4 k5) := fun _ _ => lp_q4_24_le _ _ _ _ _ _ (Cle.refl _)
noncomputable def lp_q4_25 (D : Ctx) (t_57 : AV) (s_49 : Store) (k_60 : Cur 1) : Cur 2 → Cur 2 :=
 fun go_64 t_61 t_62 s_63 =>
 (bin .lss .num t_61 t_57).bind fun t_65 =>
 aCase t_65
 ((bin .gtr .num t_61 (.int .i64 0)).bind fun t_66 =>
 jn 1 (fun t_67 s_68 =>
 aCase t_67
 ((one t_61).bind fun o_70 =>
 some ((.agg [(.int .i64 9), o_70, (.int .i64 0)]), s_68))
 ((bin .add .num t_61 (.int .i64 1)).bind fun t_71 =>
 go_64 t_71 (.agg (AV.cells t_62)) s_68))
 (fun j_69 =>
 aCase t_66
 ((lookup1 (.int .i64) (.bool false) (.hmap s_49.next) t_61 s_63).bind fun t_72 =>
 (un .not t_72).bind fun t_73 =>
 j_69 t_73 s_63)
 (j_69 (.bool false) s_63)))
 (k_60 (.agg (AV.cells t_62)) s_63)
theorem lp_q4_25_le {D : Ctx} (x0 x1 k2) {k2'} (hk2 : Cle k2 k2') {u u'} (h : Cle u u') : Cle (lp_q4_25 D x0 x1 k2 u) (lp_q4_25 D x0 x1 k2' u') := by
 unfold lp_q4_25
 repeat (first
  | with_reducible refine Ole.bindr fun _ => ?_
  | with_reducible refine Ole.aCase ?_ ?_
  | refine Ole.jn ?_ (fun _ _ _ => ?_)
  | refine Cle.succ fun _ => ?_
  | refine Cle.zero fun _ => ?_
  | exact Cle.use1 (by assumption)
  | exact Cle.use2 (by assumption)
  | with_reducible exact Ole.refl _)
theorem lp_q4_25_mono (D x0 x1 k2) : Mono (lp_q4_25 D x0 x1 k2) := fun _ _ => lp_q4_25_le _ _ _ (Cle.refl _)
noncomputable def sh_q4 (D : Ctx) (a0 : AV) (σ : Store) : Res :=
 (rd1 D.G (.pptr (AV.cells a0) 0) σ).bind fun t_1 =>
 (lenV .sl t_1 σ).bind fun t_2 =>
 jn 2 (fun total_3 t_4 s_5 =>
 (rd1 D.G (.pptr (AV.cells a0) 0) s_5).bind fun t_7 =>
 (lenV .sl t_7 s_5).bind fun t_8 =>
 (bin .lss .num t_8 (.int .i64 1)).bind fun t_9 =>
 jn 1 (fun t_10 s_11 =>
 jn 1 (fun t_13 s_14 =>
 aCase t_13
 (some ((.agg [(.int .i64 1), (.int .i64 0), (.int .i64 0)]), s_14))
 ((rd1 D.G (.pptr (AV.cells a0) 0) s_14).bind fun t_16 =>
 (lenV .sl t_16 s_14).bind fun t_17 =>
 jn 1 (fun t_18 s_19 =>
 (rd1 D.G (.pptr (AV.cells a0) 0) s_19).bind fun t_21 =>
 (lenV .sl t_21 s_19).bind fun t_22 =>
 jn 1 (fun t_23 s_24 =>
 (rd1 D.G (.pptr (AV.cells a0) 0) s_24).bind fun t_26 =>
 (lenV .sl t_26 s_24).bind fun t_27 =>
 jn 1 (fun t_28 s_29 =>
 (rd1 D.G (.pptr (AV.cells a0) 0) s_29).bind fun t_31 =>
 (lenV .sl t_31 s_29).bind fun t_32 =>
 jn 1 (fun t_33 s_34 =>
 (rd1 D.G (.pptr (AV.cells a0) 0) (((s_34.add (.map (.agg [(.int .i64), (.int .i64)]) fun _ => none)).add (.map (.agg [(.int .i64), (.int .i64)]) fun _ => none)).add (.map (.agg [(.int .i64), (.int .i64)]) fun _ => none))).bind fun t_36 =>
 (lenV .sl t_36 (((s_34.add (.map (.agg [(.int .i64), (.int .i64)]) fun _ => none)).add (.map (.agg [(.int .i64), (.int .i64)]) fun _ => none)).add (.map (.agg [(.int .i64), (.int .i64)]) fun _ => none))).bind fun t_37 =>
 jn 1 (fun t_38 s_39 =>
 (rd1 D.G (.pptr (AV.cells a0) 0) s_39).bind fun t_41 =>
 (lenV .sl t_41 s_39).bind fun t_42 =>
 jn 1 (fun t_43 s_44 =>
 (rd1 D.G (.pptr (AV.cells a0) 0) s_44).bind fun t_46 =>
 (lenV .sl t_46 s_44).bind fun t_47 =>
 jn 1 (fun t_48 s_49 =>
 (rd1 D.G (.pptr (AV.cells a0) 0) (s_49.add (.map (.int .i64) fun _ => none))).bind fun t_51 =>
 (lenV .sl t_51 (s_49.add (.map (.int .i64) fun _ => none))).bind fun t_52 =>
 jn 1 (fun t_53 s_54 =>
 (rd1 D.G (.pptr (AV.cells a0) 0) s_54).bind fun t_56 =>
 (lenV .sl t_56 s_54).bind fun t_57 =>
 jn 1 (fun t_58 s_59 =>
 some ((.agg [(.int .i64 0), (.int .i64 0), (.int .i64 0)]), s_59))
 (fun k_60 =>
 lpFix 2 (lp_q4_25 D t_57 s_49 k_60) (.int .i64 0) (.agg (AV.cells t_53)) s_54))
 (fun k_55 =>
 lpFix 2 (lp_q4_24 D t_52 t_51 s_49 a0 s_34 k_55) (.int .i64 0) (.agg (AV.cells t_48)) (s_49.add (.map (.int .i64) fun _ => none))))
 (fun k_50 =>
 lpFix 2 (lp_q4_21 D t_47 t_46 s_34 k_50) (.int .i64 0) (.agg (AV.cells t_43)) s_44))
 (fun k_45 =>
 lpFix 2 (lp_q4_19 D t_42 t_41 s_34 a0 k_45) (.int .i64 0) (.agg (AV.cells t_38)) s_39))
 (fun k_40 =>
 lpFix 2 (lp_q4_15 D t_37 t_36 s_34 k_40) (.int .i64 0) (.agg (AV.cells t_33)) (((s_34.add (.map (.agg [(.int .i64), (.int .i64)]) fun _ => none)).add (.map (.agg [(.int .i64), (.int .i64)]) fun _ => none)).add (.map (.agg [(.int .i64), (.int .i64)]) fun _ => none))))
 (fun k_35 =>
 lpFix 2 (lp_q4_14 D t_32 t_31 k_35) (.int .i64 0) (.agg (AV.cells t_28)) s_29))
 (fun k_30 =>
 lpFix 2 (lp_q4_10 D t_27 t_26 k_30) (.int .i64 0) (.agg (AV.cells t_23)) s_24))
 (fun k_25 =>
 lpFix 2 (lp_q4_6 D t_22 t_21 k_25) (.int .i64 0) (.agg (AV.cells t_18)) s_19))
 (fun k_20 =>
 lpFix 2 (lp_q4_3 D t_17 t_16 k_20) (.int .i64 0) (.agg (AV.cells t_4)) s_14)))
 (fun j_15 =>
 aCase t_10
 (j_15 (.bool true) s_11)
 ((bin .gtr .num total_3 (.int .i64 3000)).bind fun t_587 =>
 j_15 t_587 s_11)))
 (fun j_12 =>
 aCase t_9
 (j_12 (.bool true) s_5)
 ((rd1 D.G (.pptr (AV.cells a0) 0) s_5).bind fun t_588 =>
 (lenV .sl t_588 s_5).bind fun t_589 =>
 (bin .gtr .num t_589 (.int .i64 300)).bind fun t_590 =>
 j_12 t_590 s_5)))
 (fun k_6 =>
 lpFix 3 (lp_q4_1 D t_2 t_1 k_6) (.int .i64 0) (.int .i64 0) (.agg [(.int .i64 0), (.int .i64 0), (.int .i64 0)]) σ)
theorem sh_q4_eq (D : Ctx) (a0 : AV) (σ : Store) : runFn D ir_q4 [a0] σ = sh_q4 D a0 σ := by kernel_rfl
def ir_q5 : IFn := ⟨[.tmp 4],
.rs (ops [(2,.pbox 0),
(3,.pbox 1),
(4,.mv (.c (.bool false)))]) (
.seq (.rs (ops [(5,.fadd 0 2),
(6,.load false 1 5),
(7,.fadd 0 3),
(8,.load false 1 7),
(9,.bin .neq .num 6 8)]) (
.cond 9 none (.rs (ops [(4,.mv (.c (.bool false)))]) (
.ret)) (.skip))) (
.seq (.rs (ops [(10,.fadd 1 2),
(11,.load false 1 10),
(12,.fadd 1 3),
(13,.load false 1 12),
(14,.bin .neq .num 11 13)]) (
.cond 14 none (.rs (ops [(4,.mv (.c (.bool false)))]) (
.ret)) (.skip))) (
.seq (.rs (ops [(15,.fadd 2 2),
(16,.load false 1 15),
(17,.fadd 2 3),
(18,.load false 1 17),
(19,.bin .neq .num 16 18)]) (
.cond 19 none (.rs (ops [(4,.mv (.c (.bool false)))]) (
.ret)) (.skip))) (
.rs (ops [(4,.mv (.c (.bool true)))]) (
.ret)))))⟩
noncomputable def sh_q5 (D : Ctx) (a0 a1 : AV) (σ : Store) : Res :=
 (rd1 D.G (.pptr (AV.cells a0) 0) σ).bind fun t_1 =>
 (rd1 D.G (.pptr (AV.cells a1) 0) σ).bind fun t_2 =>
 (bin .neq .num t_1 t_2).bind fun t_3 =>
 aCase t_3
 (some ((.bool false), σ))
 ((rd1 D.G (.pptr (AV.cells a0) 1) σ).bind fun t_4 =>
 (rd1 D.G (.pptr (AV.cells a1) 1) σ).bind fun t_5 =>
 (bin .neq .num t_4 t_5).bind fun t_6 =>
 aCase t_6
 (some ((.bool false), σ))
 ((rd1 D.G (.pptr (AV.cells a0) 2) σ).bind fun t_7 =>
 (rd1 D.G (.pptr (AV.cells a1) 2) σ).bind fun t_8 =>
 (bin .neq .num t_7 t_8).bind fun t_9 =>
 aCase t_9
 (some ((.bool false), σ))
 (some ((.bool true), σ))))
theorem sh_q5_eq (D : Ctx) (a0 a1 : AV) (σ : Store) : runFn D ir_q5 [a0, a1] σ = sh_q5 D a0 a1 σ := by kernel_rfl
def ir_q6 : IFn := ⟨[.tmp 4],
.rs (ops [(2,.pbox 0),
(3,.pbox 1),
(4,.mv (.c (.bool false)))]) (
.seq (.rs (ops [(5,.fadd 0 2),
(6,.load false 1 5),
(7,.fadd 0 3),
(8,.load false 1 7),
(9,.callV 20 [6, 8]),
(10,.un .not 9)]) (
.cond 10 none (.rs (ops [(4,.mv (.c (.bool false)))]) (
.ret)) (.skip))) (
.rs (ops [(4,.mv (.c (.bool true)))]) (
.ret)))⟩
noncomputable def sh_q6 (D : Ctx) (a0 a1 : AV) (σ : Store) : Res :=
 (rd1 D.G (.pptr (AV.cells a0) 0) σ).bind fun t_1 =>
 (rd1 D.G (.pptr (AV.cells a1) 0) σ).bind fun t_2 =>
 (callV D 20 [t_1, t_2] σ).bind fun t_3 =>
 (un .not t_3).bind fun t_4 =>
 aCase t_4
 (some ((.bool false), σ))
 (some ((.bool true), σ))
theorem sh_q6_eq (D : Ctx) (a0 a1 : AV) (σ : Store) : runFn D ir_q6 [a0, a1] σ = sh_q6 D a0 a1 σ := by kernel_rfl
def ir_q7 : IFn := ⟨[.tmp 4],
.rs (ops [(4,.mv (Cn 0))]) (
.rs (ops [(6,.mv 1),
(7,.mv 0),
(8,.len .sl 7),
(9,.bin .sub .num 6 8),
(1,.mv 9)]) (
.seq (.rs (ops [(10,.mv 1),
(11,.bin .lss .num 10 (Cn 0))]) (
.cond 11 none (.rs (ops [(4,.mv (Cn (-1)))]) (
.ret)) (.skip))) (
.seq (.rs (ops [(5,.mv (Cn 0))]) (
.block 0 (some ⟨[1], []⟩) (
.loop ⟨[1, 5], []⟩ (
.seq (.rs (ops [(12,.mv 5),
(13,.mv 0),
(14,.len .sl 13),
(15,.bin .lss .num 12 14)]) (
.cond 15 none (.skip) (.exit 0))) (
.seq (.block 1 none (
.rs (ops [(18,.mv 0),
(19,.mv 5),
(20,.idx 7 18 19),
(21,.load true 7 20),
(22,.mv 1),
(23,.callV 21 [21, 22]),
(1,.mv 23)]) (
.rs (ops [(24,.mv 1),
(25,.bin .lss .num 24 (Cn 0))]) (
.cond 25 none (.rs (ops [(4,.mv (Cn (-1)))]) (
.ret)) (.skip))))) (
.reg (ops [(16,.mv 5),
(17,.bin .add .num 16 (Cn 1)),
(5,.mv 17)]))))))) (
.rs (ops [(26,.mv 1),
(4,.mv 26)]) (
.ret)))))⟩
noncomputable def lp_q7_1 (D : Ctx) (a0 : AV) (k_6 : Cur 1) : Cur 2 → Cur 2 :=
 fun go_10 left_7 i_8 s_9 =>
 (lenV .sl a0 s_9).bind fun t_11 =>
 (bin .lss .num i_8 t_11).bind fun t_12 =>
 aCase t_12
 ((idx 7 a0 i_8).bind fun t_13 =>
 (rdN 7 t_13 s_9).bind fun t_14 =>
 (callV D 21 [(.agg t_14), left_7] s_9).bind fun t_15 =>
 (bin .lss .num t_15 (.int .i64 0)).bind fun t_16 =>
 aCase t_16
 (some ((.int .i64 (-1)), s_9))
 ((bin .add .num i_8 (.int .i64 1)).bind fun t_17 =>
 go_10 t_15 t_17 s_9))
 (k_6 left_7 s_9)
theorem lp_q7_1_le {D : Ctx} (x0 k1) {k1'} (hk1 : Cle k1 k1') {u u'} (h : Cle u u') : Cle (lp_q7_1 D x0 k1 u) (lp_q7_1 D x0 k1' u') := by
 unfold lp_q7_1
 repeat (first
  | with_reducible refine Ole.bindr fun _ => ?_
  | with_reducible refine Ole.aCase ?_ ?_
  | refine Cle.succ fun _ => ?_
  | refine Cle.zero fun _ => ?_
  | exact Cle.use1 (by assumption)
  | exact Cle.use2 (by assumption)
  | with_reducible exact Ole.refl _)
theorem lp_q7_1_mono (D x0 k1) : Mono (lp_q7_1 D x0 k1) := fun _ _ => lp_q7_1_le _ _ (Cle.refl _)
noncomputable def sh_q7 (D : Ctx) (a0 a1 : AV) (σ : Store) : Res :=
 (lenV .sl a0 σ).bind fun t_1 =>
 (bin .sub .num a1 t_1).bind fun t_2 =>
 (bin .lss .num t_2 (.int .i64 0)).bind fun t_3 =>
 aCase t_3
 (some ((.int .i64 (-1)), σ))
 (jn 1 (fun left_4 s_5 =>
 some (left_4, s_5))
 (fun k_6 =>
 lpFix 2 (lp_q7_1 D a0 k_6) t_2 (.int .i64 0) σ))
theorem sh_q7_eq (D : Ctx) (a0 a1 : AV) (σ : Store) : runFn D ir_q7 [a0, a1] σ = sh_q7 D a0 a1 σ := by kernel_rfl
def ir_q8 : IFn := ⟨[.cell 2 true 3],
.rs (ops [(1,.pbox 0),
(2,.zalloc [(.int .i64 0), (.int .i64 0), (.int .i64 0)])]) (
.rs (ops [(3,.mv (Cn 0))]) (
.seq (.rs (ops [(9,.fadd 0 1),
(10,.load false 1 9),
(11,.len .sl 10),
(12,.mv (Cn 0))]) (
.block 0 (some ⟨[3], [(2, 3)]⟩) (
.loop ⟨[3, 12], [(2, 3)]⟩ (
.rs (ops [(13,.bin .lss .num 12 11)]) (
.seq (.cond 13 none (.skip) (.exit 0)) (
.seq (.block 1 none (
.rs (ops [(14,.idx 7 10 12),
(15,.load true 7 14),
(5,.zalloc [(.str ⟨#[]⟩), (.int .i64 0), (.int .i64 0), (.bool false), .nilslice, .nilslice, .nilslice])] (
.op none (.store true 7 5 15) (
.freeze 5 (
.done)))) (
.reg (ops [(16,.mv 3),
(17,.fadd 6 5),
(18,.load false 1 17),
(19,.len .sl 18),
(20,.bin .add .num 16 19),
(3,.mv 20)])))) (
.reg (ops [(21,.bin .add .num 12 (Cn 1)),
(12,.mv 21)])))))))) (
.seq (.rs (ops [(22,.fadd 0 1),
(23,.load false 1 22),
(24,.len .sl 23),
(25,.bin .eql .num 24 (Cn 0)),
(26,.mv 25)] (
.dia 26 (
.gop 26 false (some 27) (.fadd 0 1) (
.gop 26 false (some 28) (.load false 1 27) (
.gop 26 false (some 29) (.len .sl 28) (
.gop 26 false (some 30) (.bin .gtr .num 29 (Cn 300)) (
.done))))) 31 26 (.c (.bool true)) 30 none (
 ops [(32,.mv 31)] (
.dia 32 (
.gop 32 false (some 33) (.mv 3) (
.gop 32 false (some 34) (.bin .gtr .num 33 (Cn 3000)) (
.done))) 35 32 (.c (.bool true)) 34 none (
.done))))) (
.cond 35 none (.rs (ops [(36,.callV 22 [(Cn 1), (Cn 0), (Cn 0)])] (
.op none (.store true 3 2 36) (
.done))) (
.ret)) (.skip))) (
.seq (.rs (ops [(37,.fadd 0 1),
(38,.load false 1 37),
(39,.len .sl 38),
(40,.mv (Cn 0))]) (
.block 2 (some ⟨[], [(2, 3)]⟩) (
.loop ⟨[40], [(2, 3)]⟩ (
.rs (ops [(41,.bin .lss .num 40 39)]) (
.seq (.cond 41 none (.skip) (.exit 2)) (
.seq (.block 3 none (
.rs (ops [(42,.mv 40),
(6,.mv 42)]) (
.rs (ops [(43,.load true 1 1),
(44,.mv 6),
(45,.callV 23 [43, 44]),
(46,.un .not 45)]) (
.cond 46 none (.rs (ops [(47,.mv 6),
(48,.callV 22 [(Cn 2), 47, (Cn 0)])] (
.op none (.store true 3 2 48) (
.done))) (
.ret)) (.skip))))) (
.reg (ops [(49,.bin .add .num 40 (Cn 1)),
(40,.mv 49)])))))))) (
.seq (.rs (ops [(50,.fadd 0 1),
(51,.load false 1 50),
(52,.len .sl 51),
(53,.mv (Cn 0))]) (
.block 4 (some ⟨[], [(2, 3)]⟩) (
.loop ⟨[53], [(2, 3)]⟩ (
.rs (ops [(54,.bin .lss .num 53 52)]) (
.seq (.cond 54 none (.skip) (.exit 4)) (
.seq (.block 5 none (
.rs (ops [(55,.mv 53),
(7,.mv 55)]) (
.rs (ops [(56,.fadd 0 1),
(57,.load false 1 56),
(58,.mv 7),
(59,.idx 7 57 58),
(60,.fadd 6 59),
(61,.load false 1 60),
(62,.len .sl 61),
(63,.mv (Cn 0))]) (
.block 6 (some ⟨[], [(2, 3)]⟩) (
.loop ⟨[63], [(2, 3)]⟩ (
.rs (ops [(64,.bin .lss .num 63 62)]) (
.seq (.cond 64 none (.skip) (.exit 6)) (
.seq (.block 7 none (
.rs (ops [(65,.mv 63),
(8,.mv 65)]) (
.rs (ops [(66,.fadd 0 1),
(67,.load false 1 66),
(68,.mv 7),
(69,.idx 7 67 68),
(70,.fadd 6 69),
(71,.load false 1 70),
(72,.mv 8),
(73,.callV 24 [71, 72]),
(74,.un .not 73)]) (
.cond 74 none (.rs (ops [(75,.mv 7),
(76,.mv 8),
(77,.callV 22 [(Cn 3), 75, 76])] (
.op none (.store true 3 2 77) (
.done))) (
.ret)) (.skip))))) (
.reg (ops [(78,.bin .add .num 63 (Cn 1)),
(63,.mv 78)])))))))))) (
.reg (ops [(79,.bin .add .num 53 (Cn 1)),
(53,.mv 79)])))))))) (
.rs (ops [(80,.build [(.int .i64 0), (.int .i64 0), (.int .i64 0)] [])] (
.op none (.store true 3 2 80) (
.done))) (
.ret)))))))⟩
noncomputable def lp_q8_1 (D : Ctx) (t_2 : AV) (t_1 : AV) (k_6 : Cur 2) : Cur 3 → Cur 3 :=
 fun go_75 total_71 t_72 t_73 s_74 =>
 (bin .lss .num t_72 t_2).bind fun t_76 =>
 aCase t_76
 ((idx 7 t_1 t_72).bind fun t_77 =>
 (rdN 7 t_77 s_74).bind fun t_78 =>
 (asplit 7 (.agg t_78)).bind fun cs_79 =>
 (rd1 D.G (.pptr cs_79 6) s_74).bind fun t_80 =>
 (lenV .sl t_80 s_74).bind fun t_81 =>
 (bin .add .num total_71 t_81).bind fun t_82 =>
 (bin .add .num t_72 (.int .i64 1)).bind fun t_83 =>
 go_75 t_82 t_83 (.agg (AV.cells t_73)) s_74)
 (k_6 total_71 (.agg (AV.cells t_73)) s_74)
theorem lp_q8_1_le {D : Ctx} (x0 x1 k2) {k2'} (hk2 : Cle k2 k2') {u u'} (h : Cle u u') : Cle (lp_q8_1 D x0 x1 k2 u) (lp_q8_1 D x0 x1 k2' u') := by
 unfold lp_q8_1
 repeat (first
  | with_reducible refine Ole.bindr fun _ => ?_
  | with_reducible refine Ole.aCase ?_ ?_
  | refine Cle.succ fun _ => ?_
  | refine Cle.zero fun _ => ?_
  | exact Cle.use2 (by assumption)
  | exact Cle.use3 (by assumption)
  | with_reducible exact Ole.refl _)
theorem lp_q8_1_mono (D x0 x1 k2) : Mono (lp_q8_1 D x0 x1 k2) := fun _ _ => lp_q8_1_le _ _ _ (Cle.refl _)
noncomputable def lp_q8_2 (D : Ctx) (t_19 : AV) (a0 : AV) (k_22 : Cur 1) : Cur 2 → Cur 2 :=
 fun go_59 t_56 t_57 s_58 =>
 (bin .lss .num t_56 t_19).bind fun t_60 =>
 aCase t_60
 ((rdN 1 (.pptr (AV.cells a0) 0) s_58).bind fun t_61 =>
 (callV D 23 [(.agg t_61), t_56] s_58).bind fun t_62 =>
 (un .not t_62).bind fun t_63 =>
 aCase t_63
 ((callV D 22 [(.int .i64 2), t_56, (.int .i64 0)] s_58).bind fun t_64 =>
 (asplit 3 t_64).bind fun cs_65 =>
 some ((.agg cs_65), s_58))
 ((bin .add .num t_56 (.int .i64 1)).bind fun t_66 =>
 go_59 t_66 (.agg (AV.cells t_57)) s_58))
 (k_22 (.agg (AV.cells t_57)) s_58)
theorem lp_q8_2_le {D : Ctx} (x0 x1 k2) {k2'} (hk2 : Cle k2 k2') {u u'} (h : Cle u u') : Cle (lp_q8_2 D x0 x1 k2 u) (lp_q8_2 D x0 x1 k2' u') := by
 unfold lp_q8_2
 repeat (first
  | with_reducible refine Ole.bindr fun _ => ?_
  | with_reducible refine Ole.aCase ?_ ?_
  | refine Cle.succ fun _ => ?_
  | refine Cle.zero fun _ => ?_
  | exact Cle.use1 (by assumption)
  | exact Cle.use2 (by assumption)
  | with_reducible exact Ole.refl _)
theorem lp_q8_2_mono (D x0 x1 k2) : Mono (lp_q8_2 D x0 x1 k2) := fun _ _ => lp_q8_2_le _ _ _ (Cle.refl _)
noncomputable def lp_q8_3 (D : Ctx) (t_37 : AV) (a0 : AV) (t_28 : AV) (k_40 : Cur 1) : Cur 2 → Cur 2 :=
 fun go_45 t_42 t_43 s_44 =>
 (bin .lss .num t_42 t_37).bind fun t_46 =>
 aCase t_46
 ((rd1 D.G (.pptr (AV.cells a0) 0) s_44).bind fun t_47 =>
 (idx 7 t_47 t_28).bind fun t_48 =>
 (fadd t_48 6).bind fun t_49 =>
 (rd1 D.G t_49 s_44).bind fun t_50 =>
 (callV D 24 [t_50, t_42] s_44).bind fun t_51 =>
 (un .not t_51).bind fun t_52 =>
 aCase t_52
 ((callV D 22 [(.int .i64 3), t_28, t_42] s_44).bind fun t_53 =>
 (asplit 3 t_53).bind fun cs_54 =>
 some ((.agg cs_54), s_44))
 ((bin .add .num t_42 (.int .i64 1)).bind fun t_55 =>
 go_45 t_55 (.agg (AV.cells t_43)) s_44))
 (k_40 (.agg (AV.cells t_43)) s_44)
theorem lp_q8_3_le {D : Ctx} (x0 x1 x2 k3) {k3'} (hk3 : Cle k3 k3') {u u'} (h : Cle u u') : Cle (lp_q8_3 D x0 x1 x2 k3 u) (lp_q8_3 D x0 x1 x2 k3' u') := by
 unfold lp_q8_3
 repeat (first
  | with_reducible refine Ole.bindr fun _ => ?_
  | with_reducible refine Ole.aCase ?_ ?_
  | refine Cle.succ fun _ => ?_
  | refine Cle.zero fun _ => ?_
  | exact Cle.use1 (by assumption)
  | exact Cle.use2 (by assumption)
  | with_reducible exact Ole.refl _)
theorem lp_q8_3_mono (D x0 x1 x2 k3) : Mono (lp_q8_3 D x0 x1 x2 k3) := fun _ _ => lp_q8_3_le _ _ _ _ (Cle.refl _)
noncomputable def lp_q8_4 (D : Ctx) (t_24 : AV) (a0 : AV) (k_27 : Cur 1) : Cur 2 → Cur 2 :=
 fun go_31 t_28 t_29 s_30 =>
 (bin .lss .num t_28 t_24).bind fun t_32 =>
 aCase t_32
 ((rd1 D.G (.pptr (AV.cells a0) 0) s_30).bind fun t_33 =>
 (idx 7 t_33 t_28).bind fun t_34 =>
 (fadd t_34 6).bind fun t_35 =>
 (rd1 D.G t_35 s_30).bind fun t_36 =>
 (lenV .sl t_36 s_30).bind fun t_37 =>
 jn 1 (fun t_38 s_39 =>
 (bin .add .num t_28 (.int .i64 1)).bind fun t_41 =>
 go_31 t_41 (.agg (AV.cells t_38)) s_39)
 (fun k_40 =>
 lpFix 2 (lp_q8_3 D t_37 a0 t_28 k_40) (.int .i64 0) (.agg (AV.cells t_29)) s_30))
 (k_27 (.agg (AV.cells t_29)) s_30)
theorem lp_q8_4_le {D : Ctx} (x0 x1 k2) {k2'} (hk2 : Cle k2 k2') {u u'} (h : Cle u u') : Cle (lp_q8_4 D x0 x1 k2 u) (lp_q8_4 D x0 x1 k2' u') := by
 unfold lp_q8_4
 repeat (first
  | with_reducible refine Ole.bindr fun _ => ?_
  | with_reducible refine Ole.aCase ?_ ?_
  | refine Ole.jn ?_ (fun _ _ _ => ?_)
  | refine Cle.succ fun _ => ?_
  | refine Cle.zero fun _ => ?_
  | exact Cle.use1 (by assumption)
  | exact Cle.use2 (by assumption)
  | exact Cle.use2 (lpFix_mono (lp_q8_3_mono _ _ _ _ _) (lp_q8_3_mono _ _ _ _ _) fun _ => lp_q8_3_le _ _ _ _ (by first | assumption | exact Cle.refl _) (Cle.refl _))
  | with_reducible exact Ole.refl _)
theorem lp_q8_4_mono (D x0 x1 k2) : Mono (lp_q8_4 D x0 x1 k2) := fun _ _ => lp_q8_4_le _ _ _ (Cle.refl _)
noncomputable def sh_q8 (D : Ctx) (a0 : AV) (σ : Store) : Res :=
 (rd1 D.G (.pptr (AV.cells a0) 0) σ).bind fun t_1 =>
 (lenV .sl t_1 σ).bind fun t_2 =>
 jn 2 (fun total_3 t_4 s_5 =>
 (rd1 D.G (.pptr (AV.cells a0) 0) s_5).bind fun t_7 =>
 (lenV .sl t_7 s_5).bind fun t_8 =>
 (bin .eql .num t_8 (.int .i64 0)).bind fun t_9 =>
 jn 1 (fun t_10 s_11 =>
 jn 1 (fun t_13 s_14 =>
 aCase t_13
 ((callV D 22 [(.int .i64 1), (.int .i64 0), (.int .i64 0)] s_14).bind fun t_16 =>
 (asplit 3 t_16).bind fun cs_17 =>
 some ((.agg cs_17), s_14))
 ((rd1 D.G (.pptr (AV.cells a0) 0) s_14).bind fun t_18 =>
 (lenV .sl t_18 s_14).bind fun t_19 =>
 jn 1 (fun t_20 s_21 =>
 (rd1 D.G (.pptr (AV.cells a0) 0) s_21).bind fun t_23 =>
 (lenV .sl t_23 s_21).bind fun t_24 =>
 jn 1 (fun t_25 s_26 =>
 some ((.agg [(.int .i64 0), (.int .i64 0), (.int .i64 0)]), s_26))
 (fun k_27 =>
 lpFix 2 (lp_q8_4 D t_24 a0 k_27) (.int .i64 0) (.agg (AV.cells t_20)) s_21))
 (fun k_22 =>
 lpFix 2 (lp_q8_2 D t_19 a0 k_22) (.int .i64 0) (.agg (AV.cells t_4)) s_14)))
 (fun j_15 =>
 aCase t_10
 (j_15 (.bool true) s_11)
 ((bin .gtr .num total_3 (.int .i64 3000)).bind fun t_67 =>
 j_15 t_67 s_11)))
 (fun j_12 =>
 aCase t_9
 (j_12 (.bool true) s_5)
 ((rd1 D.G (.pptr (AV.cells a0) 0) s_5).bind fun t_68 =>
 (lenV .sl t_68 s_5).bind fun t_69 =>
 (bin .gtr .num t_69 (.int .i64 300)).bind fun t_70 =>
 j_12 t_70 s_5)))
 (fun k_6 =>
 lpFix 3 (lp_q8_1 D t_2 t_1 k_6) (.int .i64 0) (.int .i64 0) (.agg [(.int .i64 0), (.int .i64 0), (.int .i64 0)]) σ)
theorem sh_q8_eq (D : Ctx) (a0 : AV) (σ : Store) : runFn D ir_q8 [a0] σ = sh_q8 D a0 σ := by kernel_rfl
def ir_q9 : IFn := ⟨[.cell 2 true 3],
.rs (ops [(1,.pbox 0),
(2,.zalloc [(.int .i64 0), (.int .i64 0), (.int .i64 0)])]) (
.seq (.rs (ops [(11,.fadd 0 1),
(12,.load false 1 11),
(13,.len .sl 12),
(14,.mv (Cn 0))]) (
.block 0 (some ⟨[], [(2, 3)]⟩) (
.loop ⟨[14], [(2, 3)]⟩ (
.rs (ops [(15,.bin .lss .num 14 13)]) (
.seq (.cond 15 none (.skip) (.exit 0)) (
.seq (.block 1 none (
.rs (ops [(16,.mv 14),
(3,.mv 16)]) (
.rs (ops [(17,.fadd 0 1),
(18,.load false 1 17),
(19,.mv 3),
(20,.idx 7 18 19),
(21,.fadd 6 20),
(22,.load false 1 21),
(4,.mv 22)]) (
.rs (ops [(23,.mv 4),
(24,.callP 25 [23]),
(5,.zalloc [.nilslice, .nilslice])] (
.op none (.store true 2 5 24) (
.freeze 5 (
.done)))) (
.rs (ops [(25,.mv 4),
(26,.len .sl 25),
(27,.mv (Cn 0))]) (
.block 2 (some ⟨[], [(2, 3)]⟩) (
.loop ⟨[27], [(2, 3)]⟩ (
.rs (ops [(28,.bin .lss .num 27 26)]) (
.seq (.cond 28 none (.skip) (.exit 2)) (
.seq (.block 3 none (
.rs (ops [(29,.mv 27),
(6,.mv 29)]) (
.rs (ops [(30,.mv 6),
(31,.mv 4),
(32,.len .sl 31),
(33,.bin .sub .num 32 (Cn 1)),
(34,.bin .eql .num 30 33),
(7,.mv 34)]) (
.rs (ops [(35,.mv 7),
(36,.un .not 35),
(37,.mv 36)] (
.dia 37 (
.gop 37 true (some 38) (.fadd 0 5) (
.gop 37 true (some 39) (.load false 1 38) (
.gop 37 true (some 40) (.mv 6) (
.gop 37 true (some 41) (.idx 1 39 40) (
.gop 37 true (some 42) (.load false 1 41) (
.gop 37 true (some 43) (.bin .lss .num 42 (Cn 0)) (
.done))))))) 44 37 43 (.c (.bool false)) none (
 ops [(45,.mv 44)] (
.dia 45 (
.gop 45 false (some 46) (.mv 7) (
.gop 45 false (some 47) (.mv 46) (
.dia 47 (
.gop 47 true (some 48) (.fadd 0 5) (
.gop 47 true (some 49) (.load false 1 48) (
.gop 47 true (some 50) (.mv 6) (
.gop 47 true (some 51) (.idx 1 49 50) (
.gop 47 true (some 52) (.load false 1 51) (
.gop 47 true (some 53) (.bin .neq .num 52 (Cn (-1))) (
.gop 47 true (some 54) (.mv 53) (
.dia 54 (
.gop 54 false (some 55) (.mv 4) (
.gop 54 false (some 56) (.mv 6) (
.gop 54 false (some 57) (.idx 8 55 56) (
.gop 54 false (some 58) (.fadd 0 57) (
.gop 54 false (some 59) (.load false 1 58) (
.gop 54 false (some 60) (.bin .neq .num 59 (Cn 1)) (
.done))))))) 61 54 (.c (.bool true)) 60 (some (47, true)) (
.done))))))))) 62 47 61 (.c (.bool false)) (some (45, false)) (
.done)))) 63 45 (.c (.bool true)) 62 none (
.done))))) (
.cond 63 none (.rs (ops [(64,.mv 3),
(65,.mv 6),
(66,.callV 22 [(Cn 4), 64, 65])] (
.op none (.store true 3 2 66) (
.done))) (
.ret)) (.skip)))))) (
.reg (ops [(67,.bin .add .num 27 (Cn 1)),
(27,.mv 67)])))))))))))) (
.reg (ops [(68,.bin .add .num 14 (Cn 1)),
(14,.mv 68)])))))))) (
.seq (.rs (ops [(69,.fadd 0 1),
(70,.load false 1 69),
(71,.len .sl 70),
(72,.mv (Cn 0))]) (
.block 4 (some ⟨[], [(2, 3)]⟩) (
.loop ⟨[72], [(2, 3)]⟩ (
.rs (ops [(73,.bin .lss .num 72 71)]) (
.seq (.cond 73 none (.skip) (.exit 4)) (
.seq (.block 5 none (
.rs (ops [(74,.mv 72),
(8,.mv 74)]) (
.rs (ops [(75,.fadd 0 1),
(76,.load false 1 75),
(77,.mv 8),
(78,.idx 7 76 77),
(79,.fadd 6 78),
(80,.load false 1 79),
(81,.callP 25 [80]),
(9,.zalloc [.nilslice, .nilslice])] (
.op none (.store true 2 9 81) (
.freeze 9 (
.done)))) (
.rs (ops [(82,.fadd 0 1),
(83,.load false 1 82),
(84,.mv 8),
(85,.idx 7 83 84),
(86,.fadd 6 85),
(87,.load false 1 86),
(88,.len .sl 87),
(89,.mv (Cn 0))]) (
.block 6 (some ⟨[], [(2, 3)]⟩) (
.loop ⟨[89], [(2, 3)]⟩ (
.rs (ops [(90,.bin .lss .num 89 88)]) (
.seq (.cond 90 none (.skip) (.exit 6)) (
.seq (.block 7 none (
.rs (ops [(91,.mv 89),
(10,.mv 91)]) (
.rs (ops [(92,.fadd 1 9),
(93,.load false 1 92),
(94,.mv 10),
(95,.idx 1 93 94),
(96,.load false 1 95),
(97,.bin .gtr .num 96 (Cn 100))]) (
.cond 97 none (.rs (ops [(98,.mv 8),
(99,.mv 10),
(100,.callV 22 [(Cn 5), 98, 99])] (
.op none (.store true 3 2 100) (
.done))) (
.ret)) (.skip))))) (
.reg (ops [(101,.bin .add .num 89 (Cn 1)),
(89,.mv 101)]))))))))))) (
.reg (ops [(102,.bin .add .num 72 (Cn 1)),
(72,.mv 102)])))))))) (
.rs (ops [(103,.build [(.int .i64 0), (.int .i64 0), (.int .i64 0)] [])] (
.op none (.store true 3 2 103) (
.done))) (
.ret))))⟩
noncomputable def lp_q9_1 (D : Ctx) (t_54 : AV) (t_51 : AV) (t_43 : AV) (cs_53 : List AV) (k_57 : Cur 1) : Cur 2 → Cur 2 :=
 fun go_62 t_59 t_60 s_61 =>
 (bin .lss .num t_59 t_54).bind fun t_63 =>
 aCase t_63
 ((lenV .sl t_51 s_61).bind fun t_64 =>
 (bin .sub .num t_64 (.int .i64 1)).bind fun t_65 =>
 (bin .eql .num t_59 t_65).bind fun t_66 =>
 (un .not t_66).bind fun t_67 =>
 jn 1 (fun t_68 s_69 =>
 jn 1 (fun t_71 s_72 =>
 aCase t_71
 ((callV D 22 [(.int .i64 4), t_43, t_59] s_72).bind fun t_74 =>
 (asplit 3 t_74).bind fun cs_75 =>
 some ((.agg cs_75), s_72))
 ((bin .add .num t_59 (.int .i64 1)).bind fun t_76 =>
 go_62 t_76 (.agg (AV.cells t_60)) s_72))
 (fun j_73 =>
 aCase t_68
 (j_73 (.bool true) s_69)
 (jn 1 (fun t_77 s_78 =>
 j_73 t_77 s_78)
 (fun j_79 =>
 aCase t_66
 ((rd1 D.G (.pptr cs_53 0) s_69).bind fun t_80 =>
 (idx 1 t_80 t_59).bind fun t_81 =>
 (rd1 D.G t_81 s_69).bind fun t_82 =>
 (bin .neq .num t_82 (.int .i64 (-1))).bind fun t_83 =>
 jn 1 (fun t_84 s_85 =>
 j_79 t_84 s_85)
 (fun j_86 =>
 aCase t_83
 (j_86 (.bool true) s_69)
 ((idx 8 t_51 t_59).bind fun t_87 =>
 (fadd t_87 0).bind fun t_88 =>
 (rd1 D.G t_88 s_69).bind fun t_89 =>
 (bin .neq .num t_89 (.int .i64 1)).bind fun t_90 =>
 j_86 t_90 s_69)))
 (j_79 (.bool false) s_69)))))
 (fun j_70 =>
 aCase t_67
 ((rd1 D.G (.pptr cs_53 0) s_61).bind fun t_91 =>
 (idx 1 t_91 t_59).bind fun t_92 =>
 (rd1 D.G t_92 s_61).bind fun t_93 =>
 (bin .lss .num t_93 (.int .i64 0)).bind fun t_94 =>
 j_70 t_94 s_61)
 (j_70 (.bool false) s_61)))
 (k_57 (.agg (AV.cells t_60)) s_61)
theorem lp_q9_1_le {D : Ctx} (x0 x1 x2 x3 k4) {k4'} (hk4 : Cle k4 k4') {u u'} (h : Cle u u') : Cle (lp_q9_1 D x0 x1 x2 x3 k4 u) (lp_q9_1 D x0 x1 x2 x3 k4' u') := by
 unfold lp_q9_1
 repeat (first
  | with_reducible refine Ole.bindr fun _ => ?_
  | with_reducible refine Ole.aCase ?_ ?_
  | refine Ole.jn ?_ (fun _ _ _ => ?_)
  | refine Cle.succ fun _ => ?_
  | refine Cle.zero fun _ => ?_
  | exact Cle.use1 (by assumption)
  | exact Cle.use2 (by assumption)
  | with_reducible exact Ole.refl _)
theorem lp_q9_1_mono (D x0 x1 x2 x3 k4) : Mono (lp_q9_1 D x0 x1 x2 x3 k4) := fun _ _ => lp_q9_1_le _ _ _ _ _ (Cle.refl _)
noncomputable def lp_q9_2 (D : Ctx) (t_2 : AV) (a0 : AV) (k_5 : Cur 1) : Cur 2 → Cur 2 :=
 fun go_46 t_43 t_44 s_45 =>
 (bin .lss .num t_43 t_2).bind fun t_47 =>
 aCase t_47
 ((rd1 D.G (.pptr (AV.cells a0) 0) s_45).bind fun t_48 =>
 (idx 7 t_48 t_43).bind fun t_49 =>
 (fadd t_49 6).bind fun t_50 =>
 (rd1 D.G t_50 s_45).bind fun t_51 =>
 (callP D 25 [t_51]).bind fun t_52 =>
 (asplit 2 t_52).bind fun cs_53 =>
 (lenV .sl t_51 s_45).bind fun t_54 =>
 jn 1 (fun t_55 s_56 =>
 (bin .add .num t_43 (.int .i64 1)).bind fun t_58 =>
 go_46 t_58 (.agg (AV.cells t_55)) s_56)
 (fun k_57 =>
 lpFix 2 (lp_q9_1 D t_54 t_51 t_43 cs_53 k_57) (.int .i64 0) (.agg (AV.cells t_44)) s_45))
 (k_5 (.agg (AV.cells t_44)) s_45)
theorem lp_q9_2_le {D : Ctx} (x0 x1 k2) {k2'} (hk2 : Cle k2 k2') {u u'} (h : Cle u u') : Cle (lp_q9_2 D x0 x1 k2 u) (lp_q9_2 D x0 x1 k2' u') := by
 unfold lp_q9_2
 repeat (first
  | with_reducible refine Ole.bindr fun _ => ?_
  | with_reducible refine Ole.aCase ?_ ?_
  | refine Ole.jn ?_ (fun _ _ _ => ?_)
  | refine Cle.succ fun _ => ?_
  | refine Cle.zero fun _ => ?_
  | exact Cle.use1 (by assumption)
  | exact Cle.use2 (by assumption)
  | exact Cle.use2 (lpFix_mono (lp_q9_1_mono _ _ _ _ _ _) (lp_q9_1_mono _ _ _ _ _ _) fun _ => lp_q9_1_le _ _ _ _ _ (by first | assumption | exact Cle.refl _) (Cle.refl _))
  | with_reducible exact Ole.refl _)
theorem lp_q9_2_mono (D x0 x1 k2) : Mono (lp_q9_2 D x0 x1 k2) := fun _ _ => lp_q9_2_le _ _ _ (Cle.refl _)
noncomputable def lp_q9_3 (D : Ctx) (t_26 : AV) (cs_21 : List AV) (t_11 : AV) (k_29 : Cur 1) : Cur 2 → Cur 2 :=
 fun go_34 t_31 t_32 s_33 =>
 (bin .lss .num t_31 t_26).bind fun t_35 =>
 aCase t_35
 ((rd1 D.G (.pptr cs_21 1) s_33).bind fun t_36 =>
 (idx 1 t_36 t_31).bind fun t_37 =>
 (rd1 D.G t_37 s_33).bind fun t_38 =>
 (bin .gtr .num t_38 (.int .i64 100)).bind fun t_39 =>
 aCase t_39
 ((callV D 22 [(.int .i64 5), t_11, t_31] s_33).bind fun t_40 =>
 (asplit 3 t_40).bind fun cs_41 =>
 some ((.agg cs_41), s_33))
 ((bin .add .num t_31 (.int .i64 1)).bind fun t_42 =>
 go_34 t_42 (.agg (AV.cells t_32)) s_33))
 (k_29 (.agg (AV.cells t_32)) s_33)
theorem lp_q9_3_le {D : Ctx} (x0 x1 x2 k3) {k3'} (hk3 : Cle k3 k3') {u u'} (h : Cle u u') : Cle (lp_q9_3 D x0 x1 x2 k3 u) (lp_q9_3 D x0 x1 x2 k3' u') := by
 unfold lp_q9_3
 repeat (first
  | with_reducible refine Ole.bindr fun _ => ?_
  | with_reducible refine Ole.aCase ?_ ?_
  | refine Cle.succ fun _ => ?_
  | refine Cle.zero fun _ => ?_
  | exact Cle.use1 (by assumption)
  | exact Cle.use2 (by assumption)
  | with_reducible exact Ole.refl _)
theorem lp_q9_3_mono (D x0 x1 x2 k3) : Mono (lp_q9_3 D x0 x1 x2 k3) := fun _ _ => lp_q9_3_le _ _ _ _ (Cle.refl _)
noncomputable def lp_q9_4 (D : Ctx) (t_7 : AV) (a0 : AV) (k_10 : Cur 1) : Cur 2 → Cur 2 :=
 fun go_14 t_11 t_12 s_13 =>
 (bin .lss .num t_11 t_7).bind fun t_15 =>
 aCase t_15
 ((rd1 D.G (.pptr (AV.cells a0) 0) s_13).bind fun t_16 =>
 (idx 7 t_16 t_11).bind fun t_17 =>
 (fadd t_17 6).bind fun t_18 =>
 (rd1 D.G t_18 s_13).bind fun t_19 =>
 (callP D 25 [t_19]).bind fun t_20 =>
 (asplit 2 t_20).bind fun cs_21 =>
 (rd1 D.G (.pptr (AV.cells a0) 0) s_13).bind fun t_22 =>
 (idx 7 t_22 t_11).bind fun t_23 =>
 (fadd t_23 6).bind fun t_24 =>
 (rd1 D.G t_24 s_13).bind fun t_25 =>
 (lenV .sl t_25 s_13).bind fun t_26 =>
 jn 1 (fun t_27 s_28 =>
 (bin .add .num t_11 (.int .i64 1)).bind fun t_30 =>
 go_14 t_30 (.agg (AV.cells t_27)) s_28)
 (fun k_29 =>
 lpFix 2 (lp_q9_3 D t_26 cs_21 t_11 k_29) (.int .i64 0) (.agg (AV.cells t_12)) s_13))
 (k_10 (.agg (AV.cells t_12)) s_13)
theorem lp_q9_4_le {D : Ctx} (x0 x1 k2) {k2'} (hk2 : Cle k2 k2') {u u'} (h : Cle u u') : Cle (lp_q9_4 D x0 x1 k2 u) (lp_q9_4 D x0 x1 k2' u') := by
 unfold lp_q9_4
 repeat (first
  | with_reducible refine Ole.bindr fun _ => ?_
  | with_reducible refine Ole.aCase ?_ ?_
  | refine Ole.jn ?_ (fun _ _ _ => ?_)
  | refine Cle.succ fun _ => ?_
  | refine Cle.zero fun _ => ?_
  | exact Cle.use1 (by assumption)
  | exact Cle.use2 (by assumption)
  | exact Cle.use2 (lpFix_mono (lp_q9_3_mono _ _ _ _ _) (lp_q9_3_mono _ _ _ _ _) fun _ => lp_q9_3_le _ _ _ _ (by first | assumption | exact Cle.refl _) (Cle.refl _))
  | with_reducible exact Ole.refl _)
theorem lp_q9_4_mono (D x0 x1 k2) : Mono (lp_q9_4 D x0 x1 k2) := fun _ _ => lp_q9_4_le _ _ _ (Cle.refl _)
noncomputable def sh_q9 (D : Ctx) (a0 : AV) (σ : Store) : Res :=
 (rd1 D.G (.pptr (AV.cells a0) 0) σ).bind fun t_1 =>
 (lenV .sl t_1 σ).bind fun t_2 =>
 jn 1 (fun t_3 s_4 =>
 (rd1 D.G (.pptr (AV.cells a0) 0) s_4).bind fun t_6 =>
 (lenV .sl t_6 s_4).bind fun t_7 =>
 jn 1 (fun t_8 s_9 =>
 some ((.agg [(.int .i64 0), (.int .i64 0), (.int .i64 0)]), s_9))
 (fun k_10 =>
 lpFix 2 (lp_q9_4 D t_7 a0 k_10) (.int .i64 0) (.agg (AV.cells t_3)) s_4))
 (fun k_5 =>
 lpFix 2 (lp_q9_2 D t_2 a0 k_5) (.int .i64 0) (.agg [(.int .i64 0), (.int .i64 0), (.int .i64 0)]) σ)
theorem sh_q9_eq (D : Ctx) (a0 : AV) (σ : Store) : runFn D ir_q9 [a0] σ = sh_q9 D a0 σ := by kernel_rfl
def ir_q10 : IFn := ⟨[.cell 2 true 3],
.rs (ops [(1,.pbox 0),
(2,.zalloc [(.int .i64 0), (.int .i64 0), (.int .i64 0)])]) (
.seq (.rs (ops [(21,.fadd 0 1),
(22,.load false 1 21),
(23,.len .sl 22),
(24,.mv (Cn 0))]) (
.block 0 (some ⟨[], [(2, 3)]⟩) (
.loop ⟨[24], [(2, 3)]⟩ (
.rs (ops [(25,.bin .lss .num 24 23)]) (
.seq (.cond 25 none (.skip) (.exit 0)) (
.seq (.block 1 none (
.rs (ops [(26,.mv 24),
(27,.idx 7 22 24),
(28,.load true 7 27),
(4,.zalloc [(.str ⟨#[]⟩), (.int .i64 0), (.int .i64 0), (.bool false), .nilslice, .nilslice, .nilslice]),
(3,.mv 26)] (
.op none (.store true 7 4 28) (
.freeze 4 (
.done)))) (
.rs (ops [(29,.fadd 6 4),
(30,.load false 1 29),
(31,.callP 25 [30]),
(5,.zalloc [.nilslice, .nilslice])] (
.op none (.store true 2 5 31) (
.freeze 5 (
.done)))) (
.rs (ops [(32,.fadd 4 4),
(33,.load false 1 32),
(34,.len .sl 33),
(35,.mkSlice [(.bool false)] 34),
(6,.mv 35)]) (
.seq (.rs (ops [(7,.mv (Cn 0))]) (
.block 2 (some ⟨[], [(2, 3)]⟩) (
.loop ⟨[7], [(2, 3)]⟩ (
.seq (.rs (ops [(36,.mv 7),
(37,.fadd 2 4),
(38,.load false 1 37),
(39,.bin .lss .num 36 38)]) (
.cond 39 none (.skip) (.exit 2))) (
.seq (.block 3 none (
.reg (ops [(42,.mv 6),
(43,.mv 7),
(44,.idx 1 42 43)] (
.op none (.store false 1 44 (.c (.bool true))) (
.done))))) (
.reg (ops [(40,.mv 7),
(41,.bin .add .num 40 (Cn 1)),
(7,.mv 41)]))))))) (
.rs (ops [(45,.fadd 6 4),
(46,.load false 1 45),
(47,.len .sl 46),
(48,.mv (Cn 0))]) (
.block 4 (some ⟨[], [(2, 3)]⟩) (
.loop ⟨[48], [(2, 3)]⟩ (
.rs (ops [(49,.bin .lss .num 48 47)]) (
.seq (.cond 49 none (.skip) (.exit 4)) (
.seq (.block 5 none (
.rs (ops [(50,.mv 48),
(8,.mv 50)]) (
.rs (ops [(51,.load true 1 1),
(52,.load true 7 4),
(53,.load true 2 5),
(54,.mv 8),
(55,.mv 6),
(56,.callS 26 [51, 52, 53, 54, 55]),
(57,.un .not 56)]) (
.cond 57 none (.rs (ops [(58,.mv 3),
(59,.mv 8),
(60,.callV 22 [(Cn 6), 58, 59])] (
.op none (.store true 3 2 60) (
.done))) (
.ret)) (.skip))))) (
.reg (ops [(61,.bin .add .num 48 (Cn 1)),
(48,.mv 61)]))))))))))))) (
.reg (ops [(62,.bin .add .num 24 (Cn 1)),
(24,.mv 62)])))))))) (
.seq (.rs (ops [(63,.fadd 0 1),
(64,.load false 1 63),
(65,.len .sl 64),
(66,.mv (Cn 0))]) (
.block 6 (some ⟨[], [(2, 3)]⟩) (
.loop ⟨[66], [(2, 3)]⟩ (
.rs (ops [(67,.bin .lss .num 66 65)]) (
.seq (.cond 67 none (.skip) (.exit 6)) (
.seq (.block 7 none (
.rs (ops [(68,.mv 66),
(69,.idx 7 64 66),
(70,.load true 7 69),
(10,.zalloc [(.str ⟨#[]⟩), (.int .i64 0), (.int .i64 0), (.bool false), .nilslice, .nilslice, .nilslice]),
(9,.mv 68)] (
.op none (.store true 7 10 70) (
.freeze 10 (
.done)))) (
.rs (ops [(71,.fadd 6 10),
(72,.load false 1 71),
(73,.callP 25 [72]),
(11,.zalloc [.nilslice, .nilslice])] (
.op none (.store true 2 11 73) (
.freeze 11 (
.done)))) (
.rs (ops [(74,.fadd 6 10),
(75,.load false 1 74),
(76,.len .sl 75),
(77,.mv (Cn 0))]) (
.block 8 (some ⟨[], [(2, 3)]⟩) (
.loop ⟨[77], [(2, 3)]⟩ (
.rs (ops [(78,.bin .lss .num 77 76)]) (
.seq (.cond 78 none (.skip) (.exit 8)) (
.seq (.block 9 none (
.rs (ops [(79,.mv 77),
(12,.mv 79)]) (
.rs (ops [(80,.fadd 6 10),
(81,.load false 1 80),
(82,.mv 12),
(83,.idx 8 81 82),
(84,.fadd 0 83),
(85,.load false 1 84),
(13,.mv 85)]) (
.rs (ops [(86,.mv 13),
(87,.bin .eql .num 86 (Cn 9)),
(88,.mv 87)] (
.dia 88 (
.gop 88 false (some 89) (.mv 13) (
.gop 88 false (some 90) (.bin .eql .num 89 (Cn 10)) (
.done))) 91 88 (.c (.bool true)) 90 none (
 ops [(92,.mv 91)] (
.dia 92 (
.gop 92 true (some 93) (.load true 7 10) (
.gop 92 true (some 94) (.load true 2 11) (
.gop 92 true (some 95) (.mv 12) (
.gop 92 true (some 96) (.callV 27 [93, 94, 95]) (
.gop 92 true (some 97) (.un .not 96) (
.done)))))) 98 92 97 (.c (.bool false)) none (
.done))))) (
.cond 98 none (.rs (ops [(99,.mv 9),
(100,.mv 12),
(101,.callV 22 [(Cn 7), 99, 100])] (
.op none (.store true 3 2 101) (
.done))) (
.ret)) (.skip)))))) (
.reg (ops [(102,.bin .add .num 77 (Cn 1)),
(77,.mv 102)]))))))))))) (
.reg (ops [(103,.bin .add .num 66 (Cn 1)),
(66,.mv 103)])))))))) (
.rs (ops [(104,.fadd 0 1),
(105,.load false 1 104),
(106,.len .sl 105),
(107,.mkSlice [(.bool false)] 106),
(14,.mv 107)]) (
.seq (.rs (ops [(108,.fadd 0 1),
(109,.load false 1 108),
(110,.len .sl 109),
(111,.mv (Cn 0))]) (
.block 10 (some ⟨[], [(2, 3)]⟩) (
.loop ⟨[111], [(2, 3)]⟩ (
.rs (ops [(112,.bin .lss .num 111 110)]) (
.seq (.cond 112 none (.skip) (.exit 10)) (
.seq (.block 11 none (
.rs (ops [(113,.mv 111),
(114,.idx 7 109 111),
(115,.load true 7 114),
(16,.zalloc [(.str ⟨#[]⟩), (.int .i64 0), (.int .i64 0), (.bool false), .nilslice, .nilslice, .nilslice]),
(15,.mv 113)] (
.op none (.store true 7 16 115) (
.freeze 16 (
.done)))) (
.rs (ops [(116,.fadd 6 16),
(117,.load false 1 116),
(118,.callP 25 [117]),
(17,.zalloc [.nilslice, .nilslice])] (
.op none (.store true 2 17 118) (
.freeze 17 (
.done)))) (
.rs (ops [(119,.fadd 6 16),
(120,.load false 1 119),
(121,.len .sl 120),
(122,.mv (Cn 0))]) (
.block 12 (some ⟨[], [(2, 3)]⟩) (
.loop ⟨[122], [(2, 3)]⟩ (
.rs (ops [(123,.bin .lss .num 122 121)]) (
.seq (.cond 123 none (.skip) (.exit 12)) (
.seq (.block 13 (some ⟨[], [(2, 3)]⟩) (
.rs (ops [(124,.mv 122),
(18,.mv 124)]) (
.seq (.rs (ops [(125,.fadd 6 16),
(126,.load false 1 125),
(127,.mv 18),
(128,.idx 8 126 127),
(129,.fadd 0 128),
(130,.load false 1 129),
(131,.bin .eql .num 130 (Cn 37)),
(132,.mv 131)] (
.dia 132 (
.gop 132 true (some 133) (.fadd 3 16) (
.gop 132 true (some 134) (.load false 1 133) (
.gop 132 true (some 135) (.un .not 134) (
.done)))) 136 132 135 (.c (.bool false)) none (
.done))) (
.cond 136 none (.rs (ops [(137,.mv 15),
(138,.mv 18),
(139,.callV 22 [(Cn 8), 137, 138])] (
.op none (.store true 3 2 139) (
.done))) (
.ret)) (.skip))) (
.seq (.rs (ops [(140,.fadd 6 16),
(141,.load false 1 140),
(142,.mv 18),
(143,.idx 8 141 142),
(144,.fadd 0 143),
(145,.load false 1 144),
(146,.bin .neq .num 145 (Cn 36))]) (
.cond 146 none (.exit 13) (.skip))) (
.rs (ops [(147,.fadd 6 16),
(148,.load false 1 147),
(149,.mv 18),
(150,.idx 8 148 149),
(151,.fadd 6 150),
(152,.load false 1 151),
(153,.idx 1 152 (Cn 0)),
(154,.load false 1 153),
(19,.mv 154)]) (
.seq (.rs (ops [(155,.mv 19),
(156,.mv 15),
(157,.bin .leq .num 155 156),
(158,.mv 157)] (
.dia 158 (
.gop 158 false (some 159) (.mv 14) (
.gop 158 false (some 160) (.mv 19) (
.gop 158 false (some 161) (.idx 1 159 160) (
.gop 158 false (some 162) (.load false 1 161) (
.done))))) 163 158 (.c (.bool true)) 162 none (
 ops [(164,.mv 163)] (
.dia 164 (
.gop 164 false (some 165) (.load true 1 1) (
.gop 164 false (some 166) (.mv 15) (
.gop 164 false (some 167) (.load true 2 17) (
.gop 164 false (some 168) (.mv 18) (
.gop 164 false (some 169) (.mv 19) (
.gop 164 false (some 170) (.callV 28 [165, 166, 167, 168, 169]) (
.gop 164 false (some 171) (.un .not 170) (
.done)))))))) 172 164 (.c (.bool true)) 171 none (
.done))))) (
.cond 172 none (.rs (ops [(173,.mv 15),
(174,.mv 18),
(175,.callV 22 [(Cn 8), 173, 174])] (
.op none (.store true 3 2 175) (
.done))) (
.ret)) (.skip))) (
.reg (ops [(176,.mv 14),
(177,.mv 19),
(178,.idx 1 176 177)] (
.op none (.store false 1 178 (.c (.bool true))) (
.done)))))))))) (
.reg (ops [(179,.bin .add .num 122 (Cn 1)),
(122,.mv 179)]))))))))))) (
.reg (ops [(180,.bin .add .num 111 (Cn 1)),
(111,.mv 180)])))))))) (
.seq (.rs (ops [(20,.mv (Cn 1))]) (
.block 14 (some ⟨[], [(2, 3)]⟩) (
.loop ⟨[20], [(2, 3)]⟩ (
.seq (.rs (ops [(181,.mv 20),
(182,.fadd 0 1),
(183,.load false 1 182),
(184,.len .sl 183),
(185,.bin .lss .num 181 184)]) (
.cond 185 none (.skip) (.exit 14))) (
.seq (.block 15 none (
.rs (ops [(188,.mv 14),
(189,.mv 20),
(190,.idx 1 188 189),
(191,.load false 1 190),
(192,.un .not 191)]) (
.cond 192 none (.rs (ops [(193,.mv 20),
(194,.callV 22 [(Cn 9), 193, (Cn 0)])] (
.op none (.store true 3 2 194) (
.done))) (
.ret)) (.skip)))) (
.reg (ops [(186,.mv 20),
(187,.bin .add .num 186 (Cn 1)),
(20,.mv 187)]))))))) (
.rs (ops [(195,.build [(.int .i64 0), (.int .i64 0), (.int .i64 0)] [])] (
.op none (.store true 3 2 195) (
.done))) (
.ret)))))))⟩
noncomputable def lp_q10_1 (D : Ctx) (cs_149 : List AV) (t_155 : AV × Store) (k_158 : Cur 1) : Cur 2 → Cur 2 :=
 fun go_181 v_178 t_179 s_180 =>
 (rd1 D.G (.pptr cs_149 2) s_180).bind fun t_182 =>
 (bin .lss .num v_178 t_182).bind fun t_183 =>
 aCase t_183
 ((idx 1 t_155.1 v_178).bind fun t_184 =>
 (wr t_184 [(.bool true)] s_180).bind fun s_185 =>
 (bin .add .num v_178 (.int .i64 1)).bind fun t_186 =>
 go_181 t_186 (.agg (AV.cells t_179)) s_185)
 (k_158 (.agg (AV.cells t_179)) s_180)
theorem lp_q10_1_le {D : Ctx} (x0 x1 k2) {k2'} (hk2 : Cle k2 k2') {u u'} (h : Cle u u') : Cle (lp_q10_1 D x0 x1 k2 u) (lp_q10_1 D x0 x1 k2' u') := by
 unfold lp_q10_1
 repeat (first
  | with_reducible refine Ole.bindr fun _ => ?_
  | with_reducible refine Ole.aCase ?_ ?_
  | refine Cle.succ fun _ => ?_
  | refine Cle.zero fun _ => ?_
  | exact Cle.use1 (by assumption)
  | exact Cle.use2 (by assumption)
  | with_reducible exact Ole.refl _)
theorem lp_q10_1_mono (D x0 x1 k2) : Mono (lp_q10_1 D x0 x1 k2) := fun _ _ => lp_q10_1_le _ _ _ (Cle.refl _)
noncomputable def lp_q10_2 (D : Ctx) (t_160 : AV) (a0 : AV) (cs_149 : List AV) (cs_152 : List AV) (t_155 : AV × Store) (t_142 : AV) (k_163 : Cur 1) : Cur 2 → Cur 2 :=
 fun go_168 t_165 t_166 s_167 =>
 (bin .lss .num t_165 t_160).bind fun t_169 =>
 aCase t_169
 ((rdN 1 (.pptr (AV.cells a0) 0) s_167).bind fun t_170 =>
 (rdN 7 (.pptr cs_149 0) s_167).bind fun t_171 =>
 (rdN 2 (.pptr cs_152 0) s_167).bind fun t_172 =>
 (D.call 26 [(.agg t_170), (.agg t_171), (.agg t_172), t_165, t_155.1] s_167).bind fun t_173 =>
 (un .not t_173.1).bind fun t_174 =>
 aCase t_174
 ((callV D 22 [(.int .i64 6), t_142, t_165] t_173.2).bind fun t_175 =>
 (asplit 3 t_175).bind fun cs_176 =>
 some ((.agg cs_176), t_173.2))
 ((bin .add .num t_165 (.int .i64 1)).bind fun t_177 =>
 go_168 t_177 (.agg (AV.cells t_166)) t_173.2))
 (k_163 (.agg (AV.cells t_166)) s_167)
theorem lp_q10_2_le {D : Ctx} (x0 x1 x2 x3 x4 x5 k6) {k6'} (hk6 : Cle k6 k6') {u u'} (h : Cle u u') : Cle (lp_q10_2 D x0 x1 x2 x3 x4 x5 k6 u) (lp_q10_2 D x0 x1 x2 x3 x4 x5 k6' u') := by
 unfold lp_q10_2
 repeat (first
  | with_reducible refine Ole.bindr fun _ => ?_
  | with_reducible refine Ole.aCase ?_ ?_
  | refine Cle.succ fun _ => ?_
  | refine Cle.zero fun _ => ?_
  | exact Cle.use1 (by assumption)
  | exact Cle.use2 (by assumption)
  | with_reducible exact Ole.refl _)
theorem lp_q10_2_mono (D x0 x1 x2 x3 x4 x5 k6) : Mono (lp_q10_2 D x0 x1 x2 x3 x4 x5 k6) := fun _ _ => lp_q10_2_le _ _ _ _ _ _ _ (Cle.refl _)
noncomputable def lp_q10_3 (D : Ctx) (t_2 : AV) (t_1 : AV) (a0 : AV) (k_5 : Cur 1) : Cur 2 → Cur 2 :=
 fun go_145 t_142 t_143 s_144 =>
 (bin .lss .num t_142 t_2).bind fun t_146 =>
 aCase t_146
 ((idx 7 t_1 t_142).bind fun t_147 =>
 (rdN 7 t_147 s_144).bind fun t_148 =>
 (asplit 7 (.agg t_148)).bind fun cs_149 =>
 (rd1 D.G (.pptr cs_149 6) s_144).bind fun t_150 =>
 (callP D 25 [t_150]).bind fun t_151 =>
 (asplit 2 t_151).bind fun cs_152 =>
 (rd1 D.G (.pptr cs_149 4) s_144).bind fun t_153 =>
 (lenV .sl t_153 s_144).bind fun t_154 =>
 (mkSlice [(.bool false)] t_154 s_144).bind fun t_155 =>
 jn 1 (fun t_156 s_157 =>
 (rd1 D.G (.pptr cs_149 6) s_157).bind fun t_159 =>
 (lenV .sl t_159 s_157).bind fun t_160 =>
 jn 1 (fun t_161 s_162 =>
 (bin .add .num t_142 (.int .i64 1)).bind fun t_164 =>
 go_145 t_164 (.agg (AV.cells t_161)) s_162)
 (fun k_163 =>
 lpFix 2 (lp_q10_2 D t_160 a0 cs_149 cs_152 t_155 t_142 k_163) (.int .i64 0) (.agg (AV.cells t_156)) s_157))
 (fun k_158 =>
 lpFix 2 (lp_q10_1 D cs_149 t_155 k_158) (.int .i64 0) (.agg (AV.cells t_143)) t_155.2))
 (k_5 (.agg (AV.cells t_143)) s_144)
theorem lp_q10_3_le {D : Ctx} (x0 x1 x2 k3) {k3'} (hk3 : Cle k3 k3') {u u'} (h : Cle u u') : Cle (lp_q10_3 D x0 x1 x2 k3 u) (lp_q10_3 D x0 x1 x2 k3' u') := by
 unfold lp_q10_3
 repeat (first
  | with_reducible refine Ole.bindr fun _ => ?_
  | with_reducible refine Ole.aCase ?_ ?_
  | refine Ole.jn ?_ (fun _ _ _ => ?_)
  | refine Cle.succ fun _ => ?_
  | refine Cle.zero fun _ => ?_
  | exact Cle.use1 (by assumption)
  | exact Cle.use2 (by assumption)
  | exact Cle.use2 (lpFix_mono (lp_q10_1_mono _ _ _ _) (lp_q10_1_mono _ _ _ _) fun _ => lp_q10_1_le _ _ _ (by first | assumption | exact Cle.refl _) (Cle.refl _))
  | exact Cle.use2 (lpFix_mono (lp_q10_2_mono _ _ _ _ _ _ _ _) (lp_q10_2_mono _ _ _ _ _ _ _ _) fun _ => lp_q10_2_le _ _ _ _ _ _ _ (by first | assumption | exact Cle.refl _) (Cle.refl _))
  | with_reducible exact Ole.refl _)
theorem lp_q10_3_mono (D x0 x1 x2 k3) : Mono (lp_q10_3 D x0 x1 x2 k3) := fun _ _ => lp_q10_3_le _ _ _ _ (Cle.refl _)
noncomputable def lp_q10_4 (D : Ctx) (t_113 : AV) (cs_108 : List AV) (t_101 : AV) (cs_111 : List AV) (k_116 : Cur 1) : Cur 2 → Cur 2 :=
 fun go_121 t_118 t_119 s_120 =>
 (bin .lss .num t_118 t_113).bind fun t_122 =>
 aCase t_122
 ((rd1 D.G (.pptr cs_108 6) s_120).bind fun t_123 =>
 (idx 8 t_123 t_118).bind fun t_124 =>
 (fadd t_124 0).bind fun t_125 =>
 (rd1 D.G t_125 s_120).bind fun t_126 =>
 (bin .eql .num t_126 (.int .i64 9)).bind fun t_127 =>
 jn 1 (fun t_128 s_129 =>
 jn 1 (fun t_131 s_132 =>
 aCase t_131
 ((callV D 22 [(.int .i64 7), t_101, t_118] s_132).bind fun t_134 =>
 (asplit 3 t_134).bind fun cs_135 =>
 some ((.agg cs_135), s_132))
 ((bin .add .num t_118 (.int .i64 1)).bind fun t_136 =>
 go_121 t_136 (.agg (AV.cells t_119)) s_132))
 (fun j_133 =>
 aCase t_128
 ((rdN 7 (.pptr cs_108 0) s_129).bind fun t_137 =>
 (rdN 2 (.pptr cs_111 0) s_129).bind fun t_138 =>
 (callV D 27 [(.agg t_137), (.agg t_138), t_118] s_129).bind fun t_139 =>
 (un .not t_139).bind fun t_140 =>
 j_133 t_140 s_129)
 (j_133 (.bool false) s_129)))
 (fun j_130 =>
 aCase t_127
 (j_130 (.bool true) s_120)
 ((bin .eql .num t_126 (.int .i64 10)).bind fun t_141 =>
 j_130 t_141 s_120)))
 (k_116 (.agg (AV.cells t_119)) s_120)
theorem lp_q10_4_le {D : Ctx} (x0 x1 x2 x3 k4) {k4'} (hk4 : Cle k4 k4') {u u'} (h : Cle u u') : Cle (lp_q10_4 D x0 x1 x2 x3 k4 u) (lp_q10_4 D x0 x1 x2 x3 k4' u') := by
 unfold lp_q10_4
 repeat (first
  | with_reducible refine Ole.bindr fun _ => ?_
  | with_reducible refine Ole.aCase ?_ ?_
  | refine Ole.jn ?_ (fun _ _ _ => ?_)
  | refine Cle.succ fun _ => ?_
  | refine Cle.zero fun _ => ?_
  | exact Cle.use1 (by assumption)
  | exact Cle.use2 (by assumption)
  | with_reducible exact Ole.refl _)
theorem lp_q10_4_mono (D x0 x1 x2 x3 k4) : Mono (lp_q10_4 D x0 x1 x2 x3 k4) := fun _ _ => lp_q10_4_le _ _ _ _ _ (Cle.refl _)
noncomputable def lp_q10_5 (D : Ctx) (t_7 : AV) (t_6 : AV) (k_10 : Cur 1) : Cur 2 → Cur 2 :=
 fun go_104 t_101 t_102 s_103 =>
 (bin .lss .num t_101 t_7).bind fun t_105 =>
 aCase t_105
 ((idx 7 t_6 t_101).bind fun t_106 =>
 (rdN 7 t_106 s_103).bind fun t_107 =>
 (asplit 7 (.agg t_107)).bind fun cs_108 =>
 (rd1 D.G (.pptr cs_108 6) s_103).bind fun t_109 =>
 (callP D 25 [t_109]).bind fun t_110 =>
 (asplit 2 t_110).bind fun cs_111 =>
 (rd1 D.G (.pptr cs_108 6) s_103).bind fun t_112 =>
 (lenV .sl t_112 s_103).bind fun t_113 =>
 jn 1 (fun t_114 s_115 =>
 (bin .add .num t_101 (.int .i64 1)).bind fun t_117 =>
 go_104 t_117 (.agg (AV.cells t_114)) s_115)
 (fun k_116 =>
 lpFix 2 (lp_q10_4 D t_113 cs_108 t_101 cs_111 k_116) (.int .i64 0) (.agg (AV.cells t_102)) s_103))
 (k_10 (.agg (AV.cells t_102)) s_103)
theorem lp_q10_5_le {D : Ctx} (x0 x1 k2) {k2'} (hk2 : Cle k2 k2') {u u'} (h : Cle u u') : Cle (lp_q10_5 D x0 x1 k2 u) (lp_q10_5 D x0 x1 k2' u') := by
 unfold lp_q10_5
 repeat (first
  | with_reducible refine Ole.bindr fun _ => ?_
  | with_reducible refine Ole.aCase ?_ ?_
  | refine Ole.jn ?_ (fun _ _ _ => ?_)
  | refine Cle.succ fun _ => ?_
  | refine Cle.zero fun _ => ?_
  | exact Cle.use1 (by assumption)
  | exact Cle.use2 (by assumption)
  | exact Cle.use2 (lpFix_mono (lp_q10_4_mono _ _ _ _ _ _) (lp_q10_4_mono _ _ _ _ _ _) fun _ => lp_q10_4_le _ _ _ _ _ (by first | assumption | exact Cle.refl _) (Cle.refl _))
  | with_reducible exact Ole.refl _)
theorem lp_q10_5_mono (D x0 x1 k2) : Mono (lp_q10_5 D x0 x1 k2) := fun _ _ => lp_q10_5_le _ _ _ (Cle.refl _)
noncomputable def lp_q10_6 (D : Ctx) (t_47 : AV) (cs_42 : List AV) (t_35 : AV) (t_13 : AV × Store) (a0 : AV) (cs_45 : List AV) (k_50 : Cur 1) : Cur 2 → Cur 2 :=
 fun go_55 t_52 t_53 s_54 =>
 (bin .lss .num t_52 t_47).bind fun t_56 =>
 aCase t_56
 (jn 1 (fun t_57 s_58 =>
 (bin .add .num t_52 (.int .i64 1)).bind fun t_60 =>
 go_55 t_60 (.agg (AV.cells t_57)) s_58)
 (fun k_59 =>
 (rd1 D.G (.pptr cs_42 6) s_54).bind fun t_61 =>
 (idx 8 t_61 t_52).bind fun t_62 =>
 (fadd t_62 0).bind fun t_63 =>
 (rd1 D.G t_63 s_54).bind fun t_64 =>
 (bin .eql .num t_64 (.int .i64 37)).bind fun t_65 =>
 jn 1 (fun t_66 s_67 =>
 aCase t_66
 ((callV D 22 [(.int .i64 8), t_35, t_52] s_67).bind fun t_69 =>
 (asplit 3 t_69).bind fun cs_70 =>
 some ((.agg cs_70), s_67))
 ((rd1 D.G (.pptr cs_42 6) s_67).bind fun t_71 =>
 (idx 8 t_71 t_52).bind fun t_72 =>
 (fadd t_72 0).bind fun t_73 =>
 (rd1 D.G t_73 s_67).bind fun t_74 =>
 (bin .neq .num t_74 (.int .i64 36)).bind fun t_75 =>
 aCase t_75
 (k_59 (.agg (AV.cells t_53)) s_67)
 ((rd1 D.G (.pptr cs_42 6) s_67).bind fun t_76 =>
 (idx 8 t_76 t_52).bind fun t_77 =>
 (fadd t_77 6).bind fun t_78 =>
 (rd1 D.G t_78 s_67).bind fun t_79 =>
 (idx 1 t_79 (.int .i64 0)).bind fun t_80 =>
 (rd1 D.G t_80 s_67).bind fun t_81 =>
 (bin .leq .num t_81 t_35).bind fun t_82 =>
 jn 1 (fun t_83 s_84 =>
 jn 1 (fun t_86 s_87 =>
 aCase t_86
 ((callV D 22 [(.int .i64 8), t_35, t_52] s_87).bind fun t_89 =>
 (asplit 3 t_89).bind fun cs_90 =>
 some ((.agg cs_90), s_87))
 ((idx 1 t_13.1 t_81).bind fun t_91 =>
 (wr t_91 [(.bool true)] s_87).bind fun s_92 =>
 k_59 (.agg (AV.cells t_53)) s_92))
 (fun j_88 =>
 aCase t_83
 (j_88 (.bool true) s_84)
 ((rdN 1 (.pptr (AV.cells a0) 0) s_84).bind fun t_93 =>
 (rdN 2 (.pptr cs_45 0) s_84).bind fun t_94 =>
 (callV D 28 [(.agg t_93), t_35, (.agg t_94), t_52, t_81] s_84).bind fun t_95 =>
 (un .not t_95).bind fun t_96 =>
 j_88 t_96 s_84)))
 (fun j_85 =>
 aCase t_82
 (j_85 (.bool true) s_67)
 ((idx 1 t_13.1 t_81).bind fun t_97 =>
 (rd1 D.G t_97 s_67).bind fun t_98 =>
 j_85 t_98 s_67)))))
 (fun j_68 =>
 aCase t_65
 ((rd1 D.G (.pptr cs_42 3) s_54).bind fun t_99 =>
 (un .not t_99).bind fun t_100 =>
 j_68 t_100 s_54)
 (j_68 (.bool false) s_54))))
 (k_50 (.agg (AV.cells t_53)) s_54)
theorem lp_q10_6_le {D : Ctx} (x0 x1 x2 x3 x4 x5 k6) {k6'} (hk6 : Cle k6 k6') {u u'} (h : Cle u u') : Cle (lp_q10_6 D x0 x1 x2 x3 x4 x5 k6 u) (lp_q10_6 D x0 x1 x2 x3 x4 x5 k6' u') := by
 unfold lp_q10_6
 repeat (first
  | with_reducible refine Ole.bindr fun _ => ?_
  | with_reducible refine Ole.aCase ?_ ?_
  | refine Ole.jn ?_ (fun _ _ _ => ?_)
  | refine Cle.succ fun _ => ?_
  | refine Cle.zero fun _ => ?_
  | exact Cle.use1 (by assumption)
  | exact Cle.use2 (by assumption)
  | with_reducible exact Ole.refl _)
theorem lp_q10_6_mono (D x0 x1 x2 x3 x4 x5 k6) : Mono (lp_q10_6 D x0 x1 x2 x3 x4 x5 k6) := fun _ _ => lp_q10_6_le _ _ _ _ _ _ _ (Cle.refl _)
noncomputable def lp_q10_7 (D : Ctx) (t_15 : AV) (t_14 : AV) (t_13 : AV × Store) (a0 : AV) (k_18 : Cur 1) : Cur 2 → Cur 2 :=
 fun go_38 t_35 t_36 s_37 =>
 (bin .lss .num t_35 t_15).bind fun t_39 =>
 aCase t_39
 ((idx 7 t_14 t_35).bind fun t_40 =>
 (rdN 7 t_40 s_37).bind fun t_41 =>
 (asplit 7 (.agg t_41)).bind fun cs_42 =>
 (rd1 D.G (.pptr cs_42 6) s_37).bind fun t_43 =>
 (callP D 25 [t_43]).bind fun t_44 =>
 (asplit 2 t_44).bind fun cs_45 =>
 (rd1 D.G (.pptr cs_42 6) s_37).bind fun t_46 =>
 (lenV .sl t_46 s_37).bind fun t_47 =>
 jn 1 (fun t_48 s_49 =>
 (bin .add .num t_35 (.int .i64 1)).bind fun t_51 =>
 go_38 t_51 (.agg (AV.cells t_48)) s_49)
 (fun k_50 =>
 lpFix 2 (lp_q10_6 D t_47 cs_42 t_35 t_13 a0 cs_45 k_50) (.int .i64 0) (.agg (AV.cells t_36)) s_37))
 (k_18 (.agg (AV.cells t_36)) s_37)
theorem lp_q10_7_le {D : Ctx} (x0 x1 x2 x3 k4) {k4'} (hk4 : Cle k4 k4') {u u'} (h : Cle u u') : Cle (lp_q10_7 D x0 x1 x2 x3 k4 u) (lp_q10_7 D x0 x1 x2 x3 k4' u') := by
 unfold lp_q10_7
 repeat (first
  | with_reducible refine Ole.bindr fun _ => ?_
  | with_reducible refine Ole.aCase ?_ ?_
  | refine Ole.jn ?_ (fun _ _ _ => ?_)
  | refine Cle.succ fun _ => ?_
  | refine Cle.zero fun _ => ?_
  | exact Cle.use1 (by assumption)
  | exact Cle.use2 (by assumption)
  | exact Cle.use2 (lpFix_mono (lp_q10_6_mono _ _ _ _ _ _ _ _) (lp_q10_6_mono _ _ _ _ _ _ _ _) fun _ => lp_q10_6_le _ _ _ _ _ _ _ (by first | assumption | exact Cle.refl _) (Cle.refl _))
  | with_reducible exact Ole.refl _)
theorem lp_q10_7_mono (D x0 x1 x2 x3 k4) : Mono (lp_q10_7 D x0 x1 x2 x3 k4) := fun _ _ => lp_q10_7_le _ _ _ _ _ (Cle.refl _)
noncomputable def lp_q10_8 (D : Ctx) (a0 : AV) (t_13 : AV × Store) (k_21 : Cur 1) : Cur 2 → Cur 2 :=
 fun go_25 f_22 t_23 s_24 =>
 (rd1 D.G (.pptr (AV.cells a0) 0) s_24).bind fun t_26 =>
 (lenV .sl t_26 s_24).bind fun t_27 =>
 (bin .lss .num f_22 t_27).bind fun t_28 =>
 aCase t_28
 ((idx 1 t_13.1 f_22).bind fun t_29 =>
 (rd1 D.G t_29 s_24).bind fun t_30 =>
 (un .not t_30).bind fun t_31 =>
 aCase t_31
 ((callV D 22 [(.int .i64 9), f_22, (.int .i64 0)] s_24).bind fun t_32 =>
 (asplit 3 t_32).bind fun cs_33 =>
 some ((.agg cs_33), s_24))
 ((bin .add .num f_22 (.int .i64 1)).bind fun t_34 =>
 go_25 t_34 (.agg (AV.cells t_23)) s_24))
 (k_21 (.agg (AV.cells t_23)) s_24)
theorem lp_q10_8_le {D : Ctx} (x0 x1 k2) {k2'} (hk2 : Cle k2 k2') {u u'} (h : Cle u u') : Cle (lp_q10_8 D x0 x1 k2 u) (lp_q10_8 D x0 x1 k2' u') := by
 unfold lp_q10_8
 repeat (first
  | with_reducible refine Ole.bindr fun _ => ?_
  | with_reducible refine Ole.aCase ?_ ?_
  | refine Cle.succ fun _ => ?_
  | refine Cle.zero fun _ => ?_
  | exact Cle.use1 (by assumption)
  | exact Cle.use2 (by assumption)
  | with_reducible exact Ole.refl _)
theorem lp_q10_8_mono (D x0 x1 k2) : Mono (lp_q10_8 D x0 x1 k2) := fun _ _ => lp_q10_8_le _ _ _ (Cle.refl _)
noncomputable def sh_q10 (D : Ctx) (a0 : AV) (σ : Store) : Res :=
 (rd1 D.G (.pptr (AV.cells a0) 0) σ).bind fun t_1 =>
 (lenV .sl t_1 σ).bind fun t_2 =>
 jn 1 (fun t_3 s_4 =>
 (rd1 D.G (.pptr (AV.cells a0) 0) s_4).bind fun t_6 =>
 (lenV .sl t_6 s_4).bind fun t_7 =>
 jn 1 (fun t_8 s_9 =>
 (rd1 D.G (.pptr (AV.cells a0) 0) s_9).bind fun t_11 =>
 (lenV .sl t_11 s_9).bind fun t_12 =>
 (mkSlice [(.bool false)] t_12 s_9).bind fun t_13 =>
 (rd1 D.G (.pptr (AV.cells a0) 0) t_13.2).bind fun t_14 =>
 (lenV .sl t_14 t_13.2).bind fun t_15 =>
 jn 1 (fun t_16 s_17 =>
 jn 1 (fun t_19 s_20 =>
 some ((.agg [(.int .i64 0), (.int .i64 0), (.int .i64 0)]), s_20))
 (fun k_21 =>
 lpFix 2 (lp_q10_8 D a0 t_13 k_21) (.int .i64 1) (.agg (AV.cells t_16)) s_17))
 (fun k_18 =>
 lpFix 2 (lp_q10_7 D t_15 t_14 t_13 a0 k_18) (.int .i64 0) (.agg (AV.cells t_8)) t_13.2))
 (fun k_10 =>
 lpFix 2 (lp_q10_5 D t_7 t_6 k_10) (.int .i64 0) (.agg (AV.cells t_3)) s_4))
 (fun k_5 =>
 lpFix 2 (lp_q10_3 D t_2 t_1 a0 k_5) (.int .i64 0) (.agg [(.int .i64 0), (.int .i64 0), (.int .i64 0)]) σ)
theorem sh_q10_eq (D : Ctx) (a0 : AV) (σ : Store) : runFn D ir_q10 [a0] σ = sh_q10 D a0 σ := by kernel_rfl
def ir_q11 : IFn := ⟨[.tmp 2],
.rs (ops [(2,.mv (.c .nilslice))]) (
.rs (ops [(5,.mv 0),
(6,.len .sl 5),
(7,.mkSlice [(.str ⟨#[]⟩), (.int .i64 0), (.int .i64 0), (.bool false), .nilslice, .nilslice, .nilslice] 6),
(3,.mv 7)]) (
.seq (.rs (ops [(4,.mv (Cn 0))]) (
.block 0 (some ⟨[], []⟩) (
.loop ⟨[4], []⟩ (
.seq (.rs (ops [(8,.mv 4),
(9,.mv 0),
(10,.len .sl 9),
(11,.bin .lss .num 8 10)]) (
.cond 11 none (.skip) (.exit 0))) (
.seq (.block 1 none (
.reg (ops [(14,.mv 3),
(15,.mv 4),
(16,.mv 0),
(17,.mv 4),
(18,.idx 7 16 17),
(19,.load true 7 18),
(20,.callP 29 [19]),
(21,.idx 7 14 15)] (
.op none (.store true 7 21 20) (
.done))))) (
.reg (ops [(12,.mv 4),
(13,.bin .add .num 12 (Cn 1)),
(4,.mv 13)]))))))) (
.rs (ops [(22,.mv 3),
(2,.mv 22)]) (
.ret))))⟩
noncomputable def lp_q11_1 (D : Ctx) (a0 : AV) (t_2 : AV × Store) (k_4 : Cur 0) : Cur 1 → Cur 1 :=
 fun go_7 i_5 s_6 =>
 (lenV .sl a0 s_6).bind fun t_8 =>
 (bin .lss .num i_5 t_8).bind fun t_9 =>
 aCase t_9
 ((idx 7 a0 i_5).bind fun t_10 =>
 (rdN 7 t_10 s_6).bind fun t_11 =>
 (callP D 29 [(.agg t_11)]).bind fun t_12 =>
 (idx 7 t_2.1 i_5).bind fun t_13 =>
 (asplit 7 t_12).bind fun cs_14 =>
 (wr t_13 cs_14 s_6).bind fun s_15 =>
 (bin .add .num i_5 (.int .i64 1)).bind fun t_16 =>
 go_7 t_16 s_15)
 (k_4  s_6)
theorem lp_q11_1_le {D : Ctx} (x0 x1 k2) {k2'} (hk2 : Cle k2 k2') {u u'} (h : Cle u u') : Cle (lp_q11_1 D x0 x1 k2 u) (lp_q11_1 D x0 x1 k2' u') := by
 unfold lp_q11_1
 repeat (first
  | with_reducible refine Ole.bindr fun _ => ?_
  | with_reducible refine Ole.aCase ?_ ?_
  | refine Cle.succ fun _ => ?_
  | refine Cle.zero fun _ => ?_
  | exact Cle.use0 (by assumption)
  | exact Cle.use1 (by assumption)
  | with_reducible exact Ole.refl _)
theorem lp_q11_1_mono (D x0 x1 k2) : Mono (lp_q11_1 D x0 x1 k2) := fun _ _ => lp_q11_1_le _ _ _ (Cle.refl _)
noncomputable def sh_q11 (D : Ctx) (a0 : AV) (σ : Store) : Res :=
 (lenV .sl a0 σ).bind fun t_1 =>
 (mkSlice [(.str ⟨#[]⟩), (.int .i64 0), (.int .i64 0), (.bool false), .nilslice, .nilslice, .nilslice] t_1 σ).bind fun t_2 =>
 jn 0 (fun  s_3 =>
 some (t_2.1, s_3))
 (fun k_4 =>
 lpFix 1 (lp_q11_1 D a0 t_2 k_4) (.int .i64 0) t_2.2)
theorem sh_q11_eq (D : Ctx) (a0 : AV) (σ : Store) : runFn D ir_q11 [a0] σ = sh_q11 D a0 σ := by kernel_rfl
def ir_q12 : IFn := ⟨[.tmp 4],
.rs (ops [(2,.pbox 0),
(3,.pbox 1),
(4,.mv (.c (.bool false)))]) (
.seq (.rs (ops [(17,.load false 1 3),
(18,.len .sl 17),
(19,.bin .gtr .num 18 (Cn 200))]) (
.cond 19 none (.rs (ops [(4,.mv (.c (.bool false)))]) (
.ret)) (.skip))) (
.rs (ops [(20,.load false 1 3),
(21,.len .sl 20),
(5,.mv 21)]) (
.rs (ops [(22,.mkFunc 30 [] [3]),
(6,.mv 22)]) (
.rs (ops [(23,.mkFunc 31 [] [3]),
(7,.mv 23)]) (
.rs (ops [(24,.fadd 6 2),
(25,.load false 1 24),
(26,.len .sl 25),
(8,.mv 26)]) (
.rs (ops [(9,.mv (.c (.bool false))),
(10,.mv (.c (.bool false))),
(11,.mv (.c (.bool false))),
(12,.mv (.c (.bool false)))]) (
.rs (ops [(13,.mv (.c (.bool false)))]) (
.rs (ops [(14,.mv (Cn 0)),
(15,.mv (Cn 0))]) (
.seq (.rs (ops [(27,.fadd 0 2),
(28,.load false 1 27)]) (
.block 0 none (
.rs (ops [(30,.bin .eql .num 28 (Cn 1)),
(29,.mv 30)]) (
.cond 29 (some ⟨[9, 10, 11, 12, 13, 14, 15], []⟩) (.reg (ops [(31,.mv 6),
(32,.mv 5),
(33,.callD 31 [(.c (.func 32 [] [])), (Cn 0), 32]),
(13,.mv 33)])) (.rs (ops [(35,.bin .eql .num 28 (Cn 2)),
(34,.mv 35)]) (
.cond 34 (some ⟨[9, 10, 11, 12, 13, 14, 15], []⟩) (.rs (ops [(14,.mv (Cn 1)),
(15,.mv (Cn 9223372036854775807))]) (
.reg (ops [(36,.mv 6),
(37,.mv 5),
(38,.callD 36 [(.c (.func 33 [] [])), (Cn 0), 37]),
(13,.mv 38)]))) (.rs (ops [(40,.bin .eql .num 28 (Cn 3)),
(39,.mv 40)]) (
.cond 39 (some ⟨[9, 10, 11, 12, 13, 14, 15], []⟩) (.rs (ops [(9,.mv (.c (.bool true)))]) (
.seq (.rs (ops [(41,.fadd 3 2),
(42,.load false 1 41),
(43,.bin .lss .num 42 (Cn 1)),
(44,.mv 43)] (
.dia 44 (
.gop 44 false (some 45) (.fadd 3 2) (
.gop 44 false (some 46) (.load false 1 45) (
.gop 44 false (some 47) (.mv 5) (
.gop 44 false (some 48) (.bin .geq .num 46 47) (
.done))))) 49 44 (.c (.bool true)) 48 none (
.done))) (
.cond 49 none (.rs (ops [(4,.mv (.c (.bool false)))]) (
.ret)) (.skip))) (
.rs (ops [(50,.fadd 3 2),
(51,.load false 1 50),
(16,.mv 51)]) (
.reg (ops [(52,.mv 6),
(53,.mv 16),
(54,.callD 52 [(.c (.func 34 [] [])), (Cn 0), 53]),
(55,.mv 54)] (
.dia 55 (
.gop 55 true (some 56) (.mv 6) (
.gop 55 true (some 57) (.mv 16) (
.gop 55 true (some 58) (.mv 5) (
.gop 55 true (some 59) (.callD 56 [(.c (.func 33 [] [])), 57, 58]) (
.done))))) 60 55 59 (.c (.bool false)) none (
 ops [(13,.mv 60)]))))))) (.seq (.rs (ops [(62,.bin .eql .num 28 (Cn 4)),
(61,.mv 62)]) (
.cond 61 (some ⟨[61], []⟩) (.skip) (.reg (ops [(63,.bin .eql .num 28 (Cn 14)),
(61,.mv 63)])))) (
.cond 61 (some ⟨[9, 10, 11, 12, 13, 14, 15], []⟩) (.reg (ops [(64,.mv 5),
(65,.bin .eql .num 64 (Cn 1)),
(66,.mv 65)] (
.dia 66 (
.gop 66 true (some 67) (.mv 7) (
.gop 66 true (some 68) (.pslice 1 [(.int .i64 0)] 1 [(0, false, (Cn 34))]) (
.gop 66 true (some 69) (.callD 67 [(Cn 0), 68]) (
.done)))) 70 66 69 (.c (.bool false)) none (
 ops [(13,.mv 70)])))) (.rs (ops [(72,.bin .eql .num 28 (Cn 5)),
(71,.mv 72)]) (
.cond 71 (some ⟨[9, 10, 11, 12, 13, 14, 15], []⟩) (.reg (ops [(73,.mv 5),
(74,.bin .eql .num 73 (Cn 2)),
(75,.mv 74)] (
.dia 75 (
.gop 75 false (some 76) (.mv 5) (
.gop 75 false (some 77) (.bin .eql .num 76 (Cn 3)) (
.done))) 78 75 (.c (.bool true)) 77 none (
 ops [(79,.mv 78)] (
.dia 79 (
.gop 79 true (some 80) (.load false 1 3) (
.gop 79 true (some 81) (.idx 1 80 (Cn 0)) (
.gop 79 true (some 82) (.load false 1 81) (
.gop 79 true (some 83) (.callV 33 [82]) (
.done))))) 84 79 83 (.c (.bool false)) none (
 ops [(85,.mv 84)] (
.dia 85 (
.gop 85 true (some 86) (.mv 7) (
.gop 85 true (some 87) (.pslice 1 [(.int .i64 0)] 1 [(0, false, (Cn 1))]) (
.gop 85 true (some 88) (.callD 86 [(Cn 1), 87]) (
.done)))) 89 85 88 (.c (.bool false)) none (
 ops [(90,.mv 89)] (
.dia 90 (
.gop 90 true (some 91) (.mv 5) (
.gop 90 true (some 92) (.bin .eql .num 91 (Cn 2)) (
.gop 90 true (some 93) (.mv 92) (
.dia 93 (
.gop 93 false (some 94) (.mv 7) (
.gop 93 false (some 95) (.pslice 1 [(.int .i64 0)] 2 [(0, false, (Cn 1)), (1, false, (Cn 5))]) (
.gop 93 false (some 96) (.callD 94 [(Cn 2), 95]) (
.done)))) 97 93 (.c (.bool true)) 96 (some (90, true)) (
.done))))) 98 90 97 (.c (.bool false)) none (
 ops [(13,.mv 98)])))))))))) (.rs (ops [(100,.bin .eql .num 28 (Cn 6)),
(99,.mv 100)]) (
.cond 99 (some ⟨[9, 10, 11, 12, 13, 14, 15], []⟩) (.reg (ops [(101,.mv 5),
(102,.bin .eql .num 101 (Cn 2)),
(103,.mv 102)] (
.dia 103 (
.gop 103 true (some 104) (.load false 1 3) (
.gop 103 true (some 105) (.idx 1 104 (Cn 0)) (
.gop 103 true (some 106) (.load false 1 105) (
.gop 103 true (some 107) (.callV 33 [106]) (
.done))))) 108 103 107 (.c (.bool false)) none (
 ops [(109,.mv 108)] (
.dia 109 (
.gop 109 true (some 110) (.mv 7) (
.gop 109 true (some 111) (.pslice 1 [(.int .i64 0)] 1 [(0, false, (Cn 1))]) (
.gop 109 true (some 112) (.callD 110 [(Cn 1), 111]) (
.done)))) 113 109 112 (.c (.bool false)) none (
 ops [(13,.mv 113)])))))) (.rs (ops [(115,.bin .eql .num 28 (Cn 7)),
(114,.mv 115)]) (
.cond 114 (some ⟨[9, 10, 11, 12, 13, 14, 15], []⟩) (.rs (ops [(14,.mv (Cn 1)),
(15,.mv (Cn 1))]) (
.reg (ops [(116,.mv 5),
(117,.bin .eql .num 116 (Cn 4)),
(118,.mv 117)] (
.dia 118 (
.gop 118 true (some 119) (.mv 6) (
.gop 118 true (some 120) (.callD 119 [(.c (.func 33 [] [])), (Cn 0), (Cn 3)]) (
.done))) 121 118 120 (.c (.bool false)) none (
 ops [(122,.mv 121)] (
.dia 122 (
.gop 122 true (some 123) (.mv 7) (
.gop 122 true (some 124) (.pslice 1 [(.int .i64 0)] 1 [(0, false, (Cn 1))]) (
.gop 122 true (some 125) (.callD 123 [(Cn 3), 124]) (
.done)))) 126 122 125 (.c (.bool false)) none (
 ops [(13,.mv 126)]))))))) (.rs (ops [(128,.bin .eql .num 28 (Cn 8)),
(127,.mv 128)]) (
.cond 127 (some ⟨[9, 10, 11, 12, 13, 14, 15], []⟩) (.rs (ops [(14,.mv (Cn 1)),
(15,.mv (Cn 4))]) (
.reg (ops [(129,.mv 5),
(130,.bin .eql .num 129 (Cn 2)),
(131,.mv 130)] (
.dia 131 (
.gop 131 true (some 132) (.load false 1 3) (
.gop 131 true (some 133) (.idx 1 132 (Cn 0)) (
.gop 131 true (some 134) (.load false 1 133) (
.gop 131 true (some 135) (.callV 33 [134]) (
.done))))) 136 131 135 (.c (.bool false)) none (
 ops [(137,.mv 136)] (
.dia 137 (
.gop 137 true (some 138) (.mv 7) (
.gop 137 true (some 139) (.pslice 1 [(.int .i64 0)] 1 [(0, false, (Cn 1))]) (
.gop 137 true (some 140) (.callD 138 [(Cn 1), 139]) (
.done)))) 141 137 140 (.c (.bool false)) none (
 ops [(13,.mv 141)]))))))) (.seq (.rs (ops [(143,.bin .eql .num 28 (Cn 9)),
(142,.mv 143)]) (
.cond 142 (some ⟨[142], []⟩) (.skip) (.reg (ops [(144,.bin .eql .num 28 (Cn 10)),
(142,.mv 144)])))) (
.cond 142 (some ⟨[9, 10, 11, 12, 13, 14, 15], []⟩) (.reg (ops [(145,.mv 5),
(146,.bin .eql .num 145 (Cn 0)),
(13,.mv 146)])) (.rs (ops [(148,.bin .eql .num 28 (Cn 11)),
(147,.mv 148)]) (
.cond 147 (some ⟨[9, 10, 11, 12, 13, 14, 15], []⟩) (.reg (ops [(149,.mv 6),
(150,.mv 5),
(151,.callD 149 [(.c (.func 33 [] [])), (Cn 0), 150]),
(13,.mv 151)])) (.rs (ops [(153,.bin .eql .num 28 (Cn 12)),
(152,.mv 153)]) (
.cond 152 (some ⟨[9, 10, 11, 12, 13, 14, 15], []⟩) (.rs (ops [(14,.mv (Cn 2)),
(15,.mv (Cn 2))]) (
.reg (ops [(154,.mv 5),
(155,.bin .eql .num 154 (Cn 2)),
(156,.mv 155)] (
.dia 156 (
.gop 156 true (some 157) (.mv 7) (
.gop 156 true (some 158) (.pslice 1 [(.int .i64 0)] 1 [(0, false, (Cn 1))]) (
.gop 156 true (some 159) (.callD 157 [(Cn 0), 158]) (
.done)))) 160 156 159 (.c (.bool false)) none (
 ops [(161,.mv 160)] (
.dia 161 (
.gop 161 true (some 162) (.mv 7) (
.gop 161 true (some 163) (.pslice 1 [(.int .i64 0)] 1 [(0, false, (Cn 1))]) (
.gop 161 true (some 164) (.callD 162 [(Cn 1), 163]) (
.done)))) 165 161 164 (.c (.bool false)) none (
 ops [(13,.mv 165)]))))))) (.rs (ops [(167,.bin .eql .num 28 (Cn 13)),
(166,.mv 167)]) (
.cond 166 (some ⟨[9, 10, 11, 12, 13, 14, 15], []⟩) (.reg (ops [(168,.mv 5),
(169,.bin .eql .num 168 (Cn 1)),
(170,.mv 169)] (
.dia 170 (
.gop 170 true (some 171) (.load false 1 3) (
.gop 170 true (some 172) (.idx 1 171 (Cn 0)) (
.gop 170 true (some 173) (.load false 1 172) (
.gop 170 true (some 174) (.callV 33 [173]) (
.done))))) 175 170 174 (.c (.bool false)) none (
 ops [(13,.mv 175)])))) (.seq (.rs (ops [(177,.bin .eql .num 28 (Cn 20)),
(176,.mv 177)]) (
.cond 176 (some ⟨[176], []⟩) (.skip) (.rs (ops [(178,.bin .eql .num 28 (Cn 21)),
(176,.mv 178)]) (
.cond 176 (some ⟨[176], []⟩) (.skip) (.rs (ops [(179,.bin .eql .num 28 (Cn 22)),
(176,.mv 179)]) (
.cond 176 (some ⟨[176], []⟩) (.skip) (.reg (ops [(180,.bin .eql .num 28 (Cn 37)),
(176,.mv 180)])))))))) (
.cond 176 (some ⟨[9, 10, 11, 12, 13, 14, 15], []⟩) (.reg (ops [(181,.mv 5),
(182,.bin .eql .num 181 (Cn 0)),
(13,.mv 182)])) (.rs (ops [(184,.bin .eql .num 28 (Cn 23)),
(183,.mv 184)]) (
.cond 183 (some ⟨[9, 10, 11, 12, 13, 14, 15], []⟩) (.rs (ops [(9,.mv (.c (.bool true)))]) (
.reg (ops [(185,.mv 5),
(186,.bin .eql .num 185 (Cn 0)),
(13,.mv 186)]))) (.rs (ops [(188,.bin .eql .num 28 (Cn 24)),
(187,.mv 188)]) (
.cond 187 (some ⟨[9, 10, 11, 12, 13, 14, 15], []⟩) (.rs (ops [(10,.mv (.c (.bool true)))]) (
.reg (ops [(189,.mv 5),
(190,.bin .eql .num 189 (Cn 0)),
(191,.mv 190)] (
.dia 191 (
.gop 191 true (some 192) (.fadd 4 2) (
.gop 191 true (some 193) (.load false 1 192) (
.gop 191 true (some 194) (.fadd 4 2) (
.gop 191 true (some 195) (.load false 1 194) (
.gop 191 true (some 196) (.bin .eql .num 193 195) (
.done)))))) 197 191 196 (.c (.bool false)) none (
 ops [(13,.mv 197)]))))) (.rs (ops [(199,.bin .eql .num 28 (Cn 25)),
(198,.mv 199)]) (
.cond 198 (some ⟨[9, 11, 12, 13, 14, 15], []⟩) (.rs (ops [(11,.mv (.c (.bool true)))]) (
.reg (ops [(200,.mv 5),
(201,.bin .eql .num 200 (Cn 0)),
(202,.mv 201)] (
.dia 202 (
.gop 202 true (some 203) (.fadd 5 2) (
.gop 202 true (some 204) (.load false 1 203) (
.gop 202 true (some 205) (.len .str 204) (
.gop 202 true (some 206) (.bin .leq .num 205 (Cn 4000)) (
.done))))) 207 202 206 (.c (.bool false)) none (
 ops [(13,.mv 207)]))))) (.seq (.rs (ops [(209,.bin .eql .num 28 (Cn 26)),
(208,.mv 209)]) (
.cond 208 (some ⟨[208], []⟩) (.skip) (.reg (ops [(210,.bin .eql .num 28 (Cn 27)),
(208,.mv 210)])))) (
.cond 208 (some ⟨[9, 12, 13, 14, 15], []⟩) (.rs (ops [(14,.mv (Cn 1)),
(15,.mv (Cn 1))]) (
.reg (ops [(211,.mv 5),
(212,.bin .eql .num 211 (Cn 0)),
(13,.mv 212)]))) (.rs (ops [(214,.bin .eql .num 28 (Cn 36)),
(213,.mv 214)]) (
.cond 213 (some ⟨[9, 12, 13, 14, 15], []⟩) (.rs (ops [(14,.mv (Cn 1)),
(15,.mv (Cn 1))]) (
.reg (ops [(215,.mv 5),
(216,.bin .eql .num 215 (Cn 0)),
(13,.mv 216)]))) (.rs (ops [(218,.bin .eql .num 28 (Cn 28)),
(217,.mv 218)]) (
.cond 217 (some ⟨[9, 12, 13], []⟩) (.rs (ops [(9,.mv (.c (.bool true)))]) (
.reg (ops [(219,.mv 5),
(220,.bin .eql .num 219 (Cn 0)),
(221,.mv 220)] (
.dia 221 (
.gop 221 true (some 222) (.fadd 3 2) (
.gop 221 true (some 223) (.load false 1 222) (
.gop 221 true (some 224) (.bin .geq .num 223 (Cn 0)) (
.done)))) 225 221 224 (.c (.bool false)) none (
 ops [(226,.mv 225)] (
.dia 226 (
.gop 226 true (some 227) (.fadd 3 2) (
.gop 226 true (some 228) (.load false 1 227) (
.gop 226 true (some 229) (.bin .lss .num 228 (Cn 15)) (
.done)))) 230 226 229 (.c (.bool false)) none (
 ops [(13,.mv 230)]))))))) (.seq (.rs (ops [(232,.bin .eql .num 28 (Cn 29)),
(231,.mv 232)]) (
.cond 231 (some ⟨[231], []⟩) (.skip) (.rs (ops [(233,.bin .eql .num 28 (Cn 30)),
(231,.mv 233)]) (
.cond 231 (some ⟨[231], []⟩) (.skip) (.reg (ops [(234,.bin .eql .num 28 (Cn 33)),
(231,.mv 234)])))))) (
.cond 231 (some ⟨[12, 13], []⟩) (.reg (ops [(235,.mv 5),
(236,.bin .eql .num 235 (Cn 2)),
(237,.mv 236)] (
.dia 237 (
.gop 237 true (some 238) (.mv 6) (
.gop 237 true (some 239) (.callD 238 [(.c (.func 33 [] [])), (Cn 0), (Cn 2)]) (
.done))) 240 237 239 (.c (.bool false)) none (
 ops [(13,.mv 240)])))) (.rs (ops [(242,.bin .eql .num 28 (Cn 31)),
(241,.mv 242)]) (
.cond 241 (some ⟨[12, 13], []⟩) (.rs (ops [(12,.mv (.c (.bool true)))]) (
.reg (ops [(243,.mv 5),
(244,.bin .eql .num 243 (Cn 1)),
(245,.mv 244)] (
.dia 245 (
.gop 245 true (some 246) (.load false 1 3) (
.gop 245 true (some 247) (.idx 1 246 (Cn 0)) (
.gop 245 true (some 248) (.load false 1 247) (
.gop 245 true (some 249) (.callV 33 [248]) (
.done))))) 250 245 249 (.c (.bool false)) none (
 ops [(251,.mv 250)] (
.dia 251 (
.gop 251 true (some 252) (.fadd 2 2) (
.gop 251 true (some 253) (.load false 1 252) (
.gop 251 true (some 254) (.bin .geq .num 253 (Cn 19)) (
.done)))) 255 251 254 (.c (.bool false)) none (
 ops [(256,.mv 255)] (
.dia 256 (
.gop 256 true (some 257) (.fadd 2 2) (
.gop 256 true (some 258) (.load false 1 257) (
.gop 256 true (some 259) (.bin .leq .num 258 (Cn 22)) (
.done)))) 260 256 259 (.c (.bool false)) none (
 ops [(13,.mv 260)]))))))))) (.rs (ops [(262,.bin .eql .num 28 (Cn 32)),
(261,.mv 262)]) (
.cond 261 (some ⟨[12, 13], []⟩) (.rs (ops [(12,.mv (.c (.bool true)))]) (
.reg (ops [(263,.mv 5),
(264,.bin .eql .num 263 (Cn 2)),
(265,.mv 264)] (
.dia 265 (
.gop 265 true (some 266) (.mv 6) (
.gop 265 true (some 267) (.callD 266 [(.c (.func 33 [] [])), (Cn 0), (Cn 2)]) (
.done))) 268 265 267 (.c (.bool false)) none (
 ops [(269,.mv 268)] (
.dia 269 (
.gop 269 true (some 270) (.fadd 2 2) (
.gop 269 true (some 271) (.load false 1 270) (
.gop 269 true (some 272) (.bin .geq .num 271 (Cn 1)) (
.done)))) 273 269 272 (.c (.bool false)) none (
 ops [(274,.mv 273)] (
.dia 274 (
.gop 274 true (some 275) (.fadd 2 2) (
.gop 274 true (some 276) (.load false 1 275) (
.gop 274 true (some 277) (.bin .leq .num 276 (Cn 18)) (
.done)))) 278 274 277 (.c (.bool false)) none (
 ops [(13,.mv 278)]))))))))) (.rs (ops [(280,.bin .eql .num 28 (Cn 34)),
(279,.mv 280)]) (
.cond 279 (some ⟨[12, 13], []⟩) (.reg (ops [(281,.mv 5),
(282,.bin .geq .num 281 (Cn 1)),
(283,.mv 282)] (
.dia 283 (
.gop 283 true (some 284) (.mv 6) (
.gop 283 true (some 285) (.mv 5) (
.gop 283 true (some 286) (.callD 284 [(.c (.func 33 [] [])), (Cn 0), 285]) (
.done)))) 287 283 286 (.c (.bool false)) none (
 ops [(13,.mv 287)])))) (.rs (ops [(289,.bin .eql .num 28 (Cn 35)),
(288,.mv 289)]) (
.cond 288 (some ⟨[12, 13], []⟩) (.rs (ops [(12,.mv (.c (.bool true)))]) (
.rs (ops [(290,.fadd 2 2),
(291,.load false 1 290),
(292,.bin .eql .num 291 (Cn 0)),
(293,.mv 292)] (
.dia 293 (
.gop 293 false (some 294) (.fadd 2 2) (
.gop 293 false (some 295) (.load false 1 294) (
.gop 293 false (some 296) (.bin .eql .num 295 (Cn 1)) (
.done)))) 297 293 (.c (.bool true)) 296 none (
 ops [(298,.mv 297)] (
.dia 298 (
.gop 298 true (some 299) (.mv 5) (
.gop 298 true (some 300) (.bin .rem .num 299 (Cn 2)) (
.gop 298 true (some 301) (.bin .eql .num 300 (Cn 0)) (
.done)))) 302 298 301 (.c (.bool false)) none (
 ops [(303,.mv 302)] (
.dia 303 (
.gop 303 true (some 304) (.mv 6) (
.gop 303 true (some 305) (.mv 5) (
.gop 303 true (some 306) (.callD 304 [(.c (.func 33 [] [])), (Cn 0), 305]) (
.done)))) 307 303 306 (.c (.bool false)) none (
 ops [(13,.mv 307)]))))))) (
.rs (ops [(308,.mv 13),
(309,.mv 308)] (
.dia 309 (
.gop 309 true (some 310) (.fadd 2 2) (
.gop 309 true (some 311) (.load false 1 310) (
.gop 309 true (some 312) (.bin .eql .num 311 (Cn 1)) (
.done)))) 313 309 312 (.c (.bool false)) none (
.done))) (
.cond 313 (some ⟨[13], []⟩) (.reg (ops [(314,.mv 5),
(315,.bin .geq .num 314 (Cn 2)),
(316,.mv 315)] (
.dia 316 (
.gop 316 true (some 317) (.mv 7) (
.gop 316 true (some 318) (.mv 5) (
.gop 316 true (some 319) (.bin .sub .num 318 (Cn 2)) (
.gop 316 true (some 320) (.pslice 1 [(.int .i64 0)] 1 [(0, false, (Cn 23))]) (
.gop 316 true (some 321) (.callD 317 [319, 320]) (
.done)))))) 322 316 321 (.c (.bool false)) none (
 ops [(323,.mv 322)] (
.dia 323 (
.gop 323 true (some 324) (.mv 7) (
.gop 323 true (some 325) (.mv 5) (
.gop 323 true (some 326) (.bin .sub .num 325 (Cn 1)) (
.gop 323 true (some 327) (.pslice 1 [(.int .i64 0)] 2 [(0, false, (Cn 34)), (1, false, (Cn 37))]) (
.gop 323 true (some 328) (.callD 324 [326, 327]) (
.done)))))) 329 323 328 (.c (.bool false)) none (
 ops [(13,.mv 329)])))))) (.skip))))) (.rs (ops [(331,.bin .eql .num 28 (Cn 38)),
(330,.mv 331)]) (
.cond 330 (some ⟨[13], []⟩) (.reg (ops [(332,.mv 5),
(333,.bin .eql .num 332 (Cn 1)),
(334,.mv 333)] (
.dia 334 (
.gop 334 true (some 335) (.mv 7) (
.gop 334 true (some 336) (.pslice 1 [(.int .i64 0)] 2 [(0, false, (Cn 34)), (1, false, (Cn 37))]) (
.gop 334 true (some 337) (.callD 335 [(Cn 0), 336]) (
.done)))) 338 334 337 (.c (.bool false)) none (
 ops [(13,.mv 338)])))) (.skip))))))))))))))))))))))))))))))))))))))))))))))))))))) (
.seq (.rs (ops [(339,.mv 13),
(340,.un .not 339),
(341,.mv 340)] (
.dia 341 (
.gop 341 false (some 342) (.mv 8) (
.gop 341 false (some 343) (.mv 14) (
.gop 341 false (some 344) (.bin .lss .num 342 343) (
.done)))) 345 341 (.c (.bool true)) 344 none (
 ops [(346,.mv 345)] (
.dia 346 (
.gop 346 false (some 347) (.mv 8) (
.gop 346 false (some 348) (.mv 15) (
.gop 346 false (some 349) (.bin .gtr .num 347 348) (
.done)))) 350 346 (.c (.bool true)) 349 none (
.done))))) (
.cond 350 none (.rs (ops [(4,.mv (.c (.bool false)))]) (
.ret)) (.skip))) (
.seq (.rs (ops [(351,.fadd 0 2),
(352,.load false 1 351),
(353,.callV 32 [352])]) (
.cond 353 (some ⟨[], []⟩) (.rs (ops [(354,.fadd 1 2),
(355,.load false 1 354),
(356,.bin .lss .num 355 (Cn 1)),
(357,.mv 356)] (
.dia 357 (
.gop 357 false (some 358) (.fadd 1 2) (
.gop 357 false (some 359) (.load false 1 358) (
.gop 357 false (some 360) (.bin .gtr .num 359 (Cn 100000)) (
.done)))) 361 357 (.c (.bool true)) 360 none (
.done))) (
.cond 361 none (.rs (ops [(4,.mv (.c (.bool false)))]) (
.ret)) (.skip))) (.rs (ops [(362,.fadd 1 2),
(363,.load false 1 362),
(364,.bin .neq .num 363 (Cn 0))]) (
.cond 364 none (.rs (ops [(4,.mv (.c (.bool false)))]) (
.ret)) (.skip))))) (
.rs (ops [(365,.mv 9),
(366,.mv 365)] (
.dia 366 (
.gop 366 false (some 367) (.fadd 3 2) (
.gop 366 false (some 368) (.load false 1 367) (
.gop 366 false (some 369) (.bin .eql .num 368 (Cn 0)) (
.done)))) 370 366 (.c (.bool true)) 369 none (
 ops [(371,.mv 370)] (
.dia 371 (
.gop 371 true (some 372) (.mv 10) (
.gop 371 true (some 373) (.mv 372) (
.dia 373 (
.gop 373 false (some 374) (.fadd 4 2) (
.gop 373 false (some 375) (.load false 1 374) (
.gop 373 false (some 376) (.bin .eql .num 375 (.c (.flt 0))) (
.done)))) 377 373 (.c (.bool true)) 376 (some (371, true)) (
.done)))) 378 371 377 (.c (.bool false)) none (
 ops [(379,.mv 378)] (
.dia 379 (
.gop 379 true (some 380) (.mv 11) (
.gop 379 true (some 381) (.mv 380) (
.dia 381 (
.gop 381 false (some 382) (.fadd 5 2) (
.gop 381 false (some 383) (.load false 1 382) (
.gop 381 false (some 384) (.bin .eql .num 383 (.c (.str ⟨#[]⟩))) (
.done)))) 385 381 (.c (.bool true)) 384 (some (379, true)) (
.done)))) 386 379 385 (.c (.bool false)) none (
 ops [(387,.mv 386)] (
.dia 387 (
.gop 387 true (some 388) (.mv 12) (
.gop 387 true (some 389) (.mv 388) (
.dia 389 (
.gop 389 false (some 390) (.fadd 2 2) (
.gop 389 false (some 391) (.load false 1 390) (
.gop 389 false (some 392) (.bin .eql .num 391 (Cn 0)) (
.done)))) 393 389 (.c (.bool true)) 392 (some (387, true)) (
.done)))) 394 387 393 (.c (.bool false)) none (
 ops [(4,.mv 394)]))))))))) (
.ret)))))))))))))⟩
noncomputable def jk_q12_1 (D : Ctx) (k_359 : Cur 5) : Cur 3 :=
 fun num_362 op_363 ok_364 s_365 =>
 k_359 num_362 op_363 ok_364 (.int .i64 0) (.int .i64 0) s_365
noncomputable def jk_q12_2 (D : Ctx) (k_350 : Cur 5) : Cur 5 :=
 fun num_353 op_354 ok_355 minRefs_356 maxRefs_357 s_358 =>
 k_350 num_353 op_354 ok_355 minRefs_356 maxRefs_357 s_358
noncomputable def jk_q12_3 (D : Ctx) (k_332 : Cur 6) : Cur 5 :=
 fun num_344 op_345 ok_346 minRefs_347 maxRefs_348 s_349 =>
 k_332 num_344 (.bool false) op_345 ok_346 minRefs_347 maxRefs_348 s_349
noncomputable def jk_q12_4 (D : Ctx) (k_316 : Cur 7) : Cur 6 :=
 fun num_325 str_326 op_327 ok_328 minRefs_329 maxRefs_330 s_331 =>
 k_316 num_325 (.bool false) str_326 op_327 ok_328 minRefs_329 maxRefs_330 s_331
noncomputable def jk_q12_5 (D : Ctx) (k_305 : Cur 7) : Cur 7 :=
 fun num_308 flt_309 str_310 op_311 ok_312 minRefs_313 maxRefs_314 s_315 =>
 k_305 num_308 flt_309 str_310 op_311 ok_312 minRefs_313 maxRefs_314 s_315
noncomputable def jk_q12_6 (D : Ctx) (k_294 : Cur 7) : Cur 7 :=
 fun num_297 flt_298 str_299 op_300 ok_301 minRefs_302 maxRefs_303 s_304 =>
 k_294 num_297 flt_298 str_299 op_300 ok_301 minRefs_302 maxRefs_303 s_304
noncomputable def jk_q12_7 (D : Ctx) (k_273 : Cur 7) : Cur 7 :=
 fun num_286 flt_287 str_288 op_289 ok_290 minRefs_291 maxRefs_292 s_293 =>
 k_273 num_286 flt_287 str_288 op_289 ok_290 minRefs_291 maxRefs_292 s_293
noncomputable def jk_q12_8 (D : Ctx) (k_254 : Cur 7) : Cur 7 :=
 fun num_265 flt_266 str_267 op_268 ok_269 minRefs_270 maxRefs_271 s_272 =>
 k_254 num_265 flt_266 str_267 op_268 ok_269 minRefs_270 maxRefs_271 s_272
noncomputable def jk_q12_9 (D : Ctx) (k_243 : Cur 7) : Cur 7 :=
 fun num_246 flt_247 str_248 op_249 ok_250 minRefs_251 maxRefs_252 s_253 =>
 k_243 num_246 flt_247 str_248 op_249 ok_250 minRefs_251 maxRefs_252 s_253
noncomputable def jk_q12_10 (D : Ctx) (k_232 : Cur 7) : Cur 7 :=
 fun num_235 flt_236 str_237 op_238 ok_239 minRefs_240 maxRefs_241 s_242 =>
 k_232 num_235 flt_236 str_237 op_238 ok_239 minRefs_240 maxRefs_241 s_242
noncomputable def jk_q12_11 (D : Ctx) (k_207 : Cur 7) : Cur 7 :=
 fun num_224 flt_225 str_226 op_227 ok_228 minRefs_229 maxRefs_230 s_231 =>
 k_207 num_224 flt_225 str_226 op_227 ok_228 minRefs_229 maxRefs_230 s_231
noncomputable def jk_q12_12 (D : Ctx) (k_188 : Cur 7) : Cur 7 :=
 fun num_199 flt_200 str_201 op_202 ok_203 minRefs_204 maxRefs_205 s_206 =>
 k_188 num_199 flt_200 str_201 op_202 ok_203 minRefs_204 maxRefs_205 s_206
noncomputable def jk_q12_13 (D : Ctx) (k_166 : Cur 7) : Cur 7 :=
 fun num_180 flt_181 str_182 op_183 ok_184 minRefs_185 maxRefs_186 s_187 =>
 k_166 num_180 flt_181 str_182 op_183 ok_184 minRefs_185 maxRefs_186 s_187
noncomputable def jk_q12_14 (D : Ctx) (k_132 : Cur 7) : Cur 7 :=
 fun num_158 flt_159 str_160 op_161 ok_162 minRefs_163 maxRefs_164 s_165 =>
 k_132 num_158 flt_159 str_160 op_161 ok_162 minRefs_163 maxRefs_164 s_165
noncomputable def jk_q12_15 (D : Ctx) (k_117 : Cur 7) : Cur 7 :=
 fun num_124 flt_125 str_126 op_127 ok_128 minRefs_129 maxRefs_130 s_131 =>
 k_117 num_124 flt_125 str_126 op_127 ok_128 minRefs_129 maxRefs_130 s_131
noncomputable def jk_q12_16 (D : Ctx) (k_91 : Cur 7) : Cur 7 :=
 fun num_109 flt_110 str_111 op_112 ok_113 minRefs_114 maxRefs_115 s_116 =>
 k_91 num_109 flt_110 str_111 op_112 ok_113 minRefs_114 maxRefs_115 s_116
noncomputable def jk_q12_17 (D : Ctx) (k_80 : Cur 7) : Cur 7 :=
 fun num_83 flt_84 str_85 op_86 ok_87 minRefs_88 maxRefs_89 s_90 =>
 k_80 num_83 flt_84 str_85 op_86 ok_87 minRefs_88 maxRefs_89 s_90
noncomputable def jk_q12_18 (D : Ctx) (k_18 : Cur 7) : Cur 7 :=
 fun num_72 flt_73 str_74 op_75 ok_76 minRefs_77 maxRefs_78 s_79 =>
 k_18 num_72 flt_73 str_74 op_75 ok_76 minRefs_77 maxRefs_78 s_79
noncomputable def jk_q12_19 (D : Ctx) (a0 : AV) (t_7 : AV) : Cur 7 :=
 fun num_10 flt_11 str_12 op_13 ok_14 minRefs_15 maxRefs_16 s_17 =>
 (un .not ok_14).bind fun t_19 =>
 jn 1 (fun t_20 s_21 =>
 jn 1 (fun t_23 s_24 =>
 aCase t_23
 (some ((.bool false), s_24))
 ((rd1 D.G (.pptr (AV.cells a0) 0) s_24).bind fun t_26 =>
 (callV D 32 [t_26] s_24).bind fun t_27 =>
 jn 0 (fun  s_28 =>
 jn 1 (fun t_30 s_31 =>
 jn 1 (fun t_33 s_34 =>
 jn 1 (fun t_36 s_37 =>
 jn 1 (fun t_39 s_40 =>
 some (t_39, s_40))
 (fun j_41 =>
 aCase t_36
 (jn 1 (fun t_42 s_43 =>
 j_41 t_42 s_43)
 (fun j_44 =>
 aCase op_13
 (j_44 (.bool true) s_37)
 ((rd1 D.G (.pptr (AV.cells a0) 2) s_37).bind fun t_45 =>
 (bin .eql .num t_45 (.int .i64 0)).bind fun t_46 =>
 j_44 t_46 s_37)))
 (j_41 (.bool false) s_37)))
 (fun j_38 =>
 aCase t_33
 (jn 1 (fun t_47 s_48 =>
 j_38 t_47 s_48)
 (fun j_49 =>
 aCase str_12
 (j_49 (.bool true) s_34)
 ((rd1 D.G (.pptr (AV.cells a0) 5) s_34).bind fun t_50 =>
 (bin .eql .num t_50 (.str ⟨#[]⟩)).bind fun t_51 =>
 j_49 t_51 s_34)))
 (j_38 (.bool false) s_34)))
 (fun j_35 =>
 aCase t_30
 (jn 1 (fun t_52 s_53 =>
 j_35 t_52 s_53)
 (fun j_54 =>
 aCase flt_11
 (j_54 (.bool true) s_31)
 ((rd1 D.G (.pptr (AV.cells a0) 4) s_31).bind fun t_55 =>
 (bin .eql .num t_55 (.flt 0)).bind fun t_56 =>
 j_54 t_56 s_31)))
 (j_35 (.bool false) s_31)))
 (fun j_32 =>
 aCase num_10
 (j_32 (.bool true) s_28)
 ((rd1 D.G (.pptr (AV.cells a0) 3) s_28).bind fun t_57 =>
 (bin .eql .num t_57 (.int .i64 0)).bind fun t_58 =>
 j_32 t_58 s_28)))
 (fun k_29 =>
 aCase t_27
 ((rd1 D.G (.pptr (AV.cells a0) 1) s_24).bind fun t_59 =>
 (bin .lss .num t_59 (.int .i64 1)).bind fun t_60 =>
 jn 1 (fun t_61 s_62 =>
 aCase t_61
 (some ((.bool false), s_62))
 (k_29  s_62))
 (fun j_63 =>
 aCase t_60
 (j_63 (.bool true) s_24)
 ((rd1 D.G (.pptr (AV.cells a0) 1) s_24).bind fun t_64 =>
 (bin .gtr .num t_64 (.int .i64 100000)).bind fun t_65 =>
 j_63 t_65 s_24)))
 ((rd1 D.G (.pptr (AV.cells a0) 1) s_24).bind fun t_66 =>
 (bin .neq .num t_66 (.int .i64 0)).bind fun t_67 =>
 aCase t_67
 (some ((.bool false), s_24))
 (k_29  s_24)))))
 (fun j_25 =>
 aCase t_20
 (j_25 (.bool true) s_21)
 ((bin .gtr .num t_7 maxRefs_16).bind fun t_68 =>
 j_25 t_68 s_21)))
 (fun j_22 =>
 aCase t_19
 (j_22 (.bool true) s_17)
 ((bin .lss .num t_7 minRefs_15).bind fun t_69 =>
 j_22 t_69 s_17))
noncomputable def jb_q12_1 (D : Ctx) (k_448 : Cur 2) (t_5 : AV) (a1 : AV) (a0 : AV) : Cur 1 :=
 fun t_457 s_458 =>
 jn 1 (fun t_460 s_461 =>
 jn 1 (fun ok_463 s_464 =>
 k_448 (.bool true) ok_463 s_464)
 (fun k_465 =>
 aCase t_460
 ((bin .geq .num t_5 (.int .i64 2)).bind fun t_466 =>
 jn 1 (fun t_467 s_468 =>
 jn 1 (fun t_470 s_471 =>
 k_465 t_470 s_471)
 (fun j_472 =>
 aCase t_467
 ((bin .sub .num t_5 (.int .i64 1)).bind fun t_473 =>
 (callD D (.func 31 [] [(.pptr (AV.cells a1) 0)]) [t_473, (.pslice 1 [(.agg [(.int .i64 34)]), (.agg [(.int .i64 37)])])] s_468).bind fun t_474 =>
 j_472 t_474.1 t_474.2)
 (j_472 (.bool false) s_468)))
 (fun j_469 =>
 aCase t_466
 ((bin .sub .num t_5 (.int .i64 2)).bind fun t_475 =>
 (callD D (.func 31 [] [(.pptr (AV.cells a1) 0)]) [t_475, (.pslice 1 [(.agg [(.int .i64 23)])])] s_461).bind fun t_476 =>
 j_469 t_476.1 t_476.2)
 (j_469 (.bool false) s_461)))
 (k_465 t_457 s_461)))
 (fun j_462 =>
 aCase t_457
 ((rd1 D.G (.pptr (AV.cells a0) 2) s_458).bind fun t_477 =>
 (bin .eql .num t_477 (.int .i64 1)).bind fun t_478 =>
 j_462 t_478 s_458)
 (j_462 (.bool false) s_458))
noncomputable def jb_q12_2 (D : Ctx) (k_366 : Cur 3) (t_5 : AV) (a1 : AV) (t_8 : AV) (a0 : AV) : Cur 1 :=
 fun t_379 s_380 =>
 jn 2 (fun op_382 ok_383 s_384 =>
 k_366 (.bool false) op_382 ok_383 s_384)
 (fun k_385 =>
 aCase t_379
 ((bin .eql .num t_5 (.int .i64 2)).bind fun t_386 =>
 jn 1 (fun t_387 s_388 =>
 k_385 (.bool false) t_387 s_388)
 (fun j_389 =>
 aCase t_386
 ((callD D (.func 30 [] [(.pptr (AV.cells a1) 0)]) [(.func 33 [] []), (.int .i64 0), (.int .i64 2)] s_380).bind fun t_390 =>
 j_389 t_390.1 t_390.2)
 (j_389 (.bool false) s_380)))
 ((bin .eql .num t_8 (.int .i64 31)).bind fun t_391 =>
 jn 2 (fun op_392 ok_393 s_394 =>
 k_385 op_392 ok_393 s_394)
 (fun k_395 =>
 aCase t_391
 ((bin .eql .num t_5 (.int .i64 1)).bind fun t_396 =>
 jn 1 (fun t_397 s_398 =>
 jn 1 (fun t_400 s_401 =>
 jn 1 (fun t_403 s_404 =>
 k_395 (.bool true) t_403 s_404)
 (fun j_405 =>
 aCase t_400
 ((rd1 D.G (.pptr (AV.cells a0) 2) s_401).bind fun t_406 =>
 (bin .leq .num t_406 (.int .i64 22)).bind fun t_407 =>
 j_405 t_407 s_401)
 (j_405 (.bool false) s_401)))
 (fun j_402 =>
 aCase t_397
 ((rd1 D.G (.pptr (AV.cells a0) 2) s_398).bind fun t_408 =>
 (bin .geq .num t_408 (.int .i64 19)).bind fun t_409 =>
 j_402 t_409 s_398)
 (j_402 (.bool false) s_398)))
 (fun j_399 =>
 aCase t_396
 ((rd1 D.G (.pptr (AV.cells a1) 0) s_380).bind fun t_410 =>
 (idx 1 t_410 (.int .i64 0)).bind fun t_411 =>
 (rd1 D.G t_411 s_380).bind fun t_412 =>
 (callV D 33 [t_412] s_380).bind fun t_413 =>
 j_399 t_413 s_380)
 (j_399 (.bool false) s_380)))
 ((bin .eql .num t_8 (.int .i64 32)).bind fun t_414 =>
 jn 2 (fun op_415 ok_416 s_417 =>
 k_395 op_415 ok_416 s_417)
 (fun k_418 =>
 aCase t_414
 ((bin .eql .num t_5 (.int .i64 2)).bind fun t_419 =>
 jn 1 (fun t_420 s_421 =>
 jn 1 (fun t_423 s_424 =>
 jn 1 (fun t_426 s_427 =>
 k_418 (.bool true) t_426 s_427)
 (fun j_428 =>
 aCase t_423
 ((rd1 D.G (.pptr (AV.cells a0) 2) s_424).bind fun t_429 =>
 (bin .leq .num t_429 (.int .i64 18)).bind fun t_430 =>
 j_428 t_430 s_424)
 (j_428 (.bool false) s_424)))
 (fun j_425 =>
 aCase t_420
 ((rd1 D.G (.pptr (AV.cells a0) 2) s_421).bind fun t_431 =>
 (bin .geq .num t_431 (.int .i64 1)).bind fun t_432 =>
 j_425 t_432 s_421)
 (j_425 (.bool false) s_421)))
 (fun j_422 =>
 aCase t_419
 ((callD D (.func 30 [] [(.pptr (AV.cells a1) 0)]) [(.func 33 [] []), (.int .i64 0), (.int .i64 2)] s_380).bind fun t_433 =>
 j_422 t_433.1 t_433.2)
 (j_422 (.bool false) s_380)))
 ((bin .eql .num t_8 (.int .i64 34)).bind fun t_434 =>
 jn 2 (fun op_435 ok_436 s_437 =>
 k_418 op_435 ok_436 s_437)
 (fun k_438 =>
 aCase t_434
 ((bin .geq .num t_5 (.int .i64 1)).bind fun t_439 =>
 jn 1 (fun t_440 s_441 =>
 k_438 (.bool false) t_440 s_441)
 (fun j_442 =>
 aCase t_439
 ((callD D (.func 30 [] [(.pptr (AV.cells a1) 0)]) [(.func 33 [] []), (.int .i64 0), t_5] s_380).bind fun t_443 =>
 j_442 t_443.1 t_443.2)
 (j_442 (.bool false) s_380)))
 ((bin .eql .num t_8 (.int .i64 35)).bind fun t_444 =>
 jn 2 (fun op_445 ok_446 s_447 =>
 k_438 op_445 ok_446 s_447)
 (fun k_448 =>
 aCase t_444
 ((rd1 D.G (.pptr (AV.cells a0) 2) s_380).bind fun t_449 =>
 (bin .eql .num t_449 (.int .i64 0)).bind fun t_450 =>
 jn 1 (fun t_451 s_452 =>
 jn 1 (fun t_454 s_455 =>
 jn 1 (jb_q12_1 D k_448 t_5 a1 a0)
 (fun j_459 =>
 aCase t_454
 ((callD D (.func 30 [] [(.pptr (AV.cells a1) 0)]) [(.func 33 [] []), (.int .i64 0), t_5] s_455).bind fun t_479 =>
 j_459 t_479.1 t_479.2)
 (j_459 (.bool false) s_455)))
 (fun j_456 =>
 aCase t_451
 ((bin .rem .num t_5 (.int .i64 2)).bind fun t_480 =>
 (bin .eql .num t_480 (.int .i64 0)).bind fun t_481 =>
 j_456 t_481 s_452)
 (j_456 (.bool false) s_452)))
 (fun j_453 =>
 aCase t_450
 (j_453 (.bool true) s_380)
 ((rd1 D.G (.pptr (AV.cells a0) 2) s_380).bind fun t_482 =>
 (bin .eql .num t_482 (.int .i64 1)).bind fun t_483 =>
 j_453 t_483 s_380)))
 ((bin .eql .num t_8 (.int .i64 38)).bind fun t_484 =>
 jn 1 (fun ok_485 s_486 =>
 k_448 (.bool false) ok_485 s_486)
 (fun k_487 =>
 aCase t_484
 ((bin .eql .num t_5 (.int .i64 1)).bind fun t_488 =>
 jn 1 (fun t_489 s_490 =>
 k_487 t_489 s_490)
 (fun j_491 =>
 aCase t_488
 ((callD D (.func 31 [] [(.pptr (AV.cells a1) 0)]) [(.int .i64 0), (.pslice 1 [(.agg [(.int .i64 34)]), (.agg [(.int .i64 37)])])] s_380).bind fun t_492 =>
 j_491 t_492.1 t_492.2)
 (j_491 (.bool false) s_380)))
 (k_487 (.bool false) s_380))))))))))))
noncomputable def jb_q12_3 (D : Ctx) (k_332 : Cur 6) (t_5 : AV) (t_8 : AV) (a0 : AV) (a1 : AV) : Cur 1 :=
 fun t_341 s_342 =>
 jn 5 (jk_q12_3 D k_332)
 (fun k_350 =>
 aCase t_341
 ((bin .eql .num t_5 (.int .i64 0)).bind fun t_351 =>
 k_350 (.bool false) (.bool false) t_351 (.int .i64 1) (.int .i64 1) s_342)
 ((bin .eql .num t_8 (.int .i64 36)).bind fun t_352 =>
 jn 5 (jk_q12_2 D k_350)
 (fun k_359 =>
 aCase t_352
 ((bin .eql .num t_5 (.int .i64 0)).bind fun t_360 =>
 k_359 (.bool false) (.bool false) t_360 (.int .i64 1) (.int .i64 1) s_342)
 ((bin .eql .num t_8 (.int .i64 28)).bind fun t_361 =>
 jn 3 (jk_q12_1 D k_359)
 (fun k_366 =>
 aCase t_361
 ((bin .eql .num t_5 (.int .i64 0)).bind fun t_367 =>
 jn 1 (fun t_368 s_369 =>
 jn 1 (fun t_371 s_372 =>
 k_366 (.bool true) (.bool false) t_371 s_372)
 (fun j_373 =>
 aCase t_368
 ((rd1 D.G (.pptr (AV.cells a0) 3) s_369).bind fun t_374 =>
 (bin .lss .num t_374 (.int .i64 15)).bind fun t_375 =>
 j_373 t_375 s_369)
 (j_373 (.bool false) s_369)))
 (fun j_370 =>
 aCase t_367
 ((rd1 D.G (.pptr (AV.cells a0) 3) s_342).bind fun t_376 =>
 (bin .geq .num t_376 (.int .i64 0)).bind fun t_377 =>
 j_370 t_377 s_342)
 (j_370 (.bool false) s_342)))
 ((bin .eql .num t_8 (.int .i64 29)).bind fun t_378 =>
 jn 1 (jb_q12_2 D k_366 t_5 a1 t_8 a0)
 (fun k_381 =>
 aCase t_378
 (k_381 t_378 s_342)
 ((bin .eql .num t_8 (.int .i64 30)).bind fun t_493 =>
 jn 1 (fun t_494 s_495 =>
 k_381 t_494 s_495)
 (fun k_496 =>
 aCase t_493
 (k_496 t_493 s_342)
 ((bin .eql .num t_8 (.int .i64 33)).bind fun t_497 =>
 k_496 t_497 s_342))))))))))
noncomputable def jb_q12_4 (D : Ctx) (k_273 : Cur 7) (t_5 : AV) (t_8 : AV) (a0 : AV) (a1 : AV) : Cur 1 :=
 fun t_283 s_284 =>
 jn 7 (jk_q12_7 D k_273)
 (fun k_294 =>
 aCase t_283
 ((bin .eql .num t_5 (.int .i64 0)).bind fun t_295 =>
 k_294 (.bool false) (.bool false) (.bool false) (.bool false) t_295 (.int .i64 0) (.int .i64 0) s_284)
 ((bin .eql .num t_8 (.int .i64 23)).bind fun t_296 =>
 jn 7 (jk_q12_6 D k_294)
 (fun k_305 =>
 aCase t_296
 ((bin .eql .num t_5 (.int .i64 0)).bind fun t_306 =>
 k_305 (.bool true) (.bool false) (.bool false) (.bool false) t_306 (.int .i64 0) (.int .i64 0) s_284)
 ((bin .eql .num t_8 (.int .i64 24)).bind fun t_307 =>
 jn 7 (jk_q12_5 D k_305)
 (fun k_316 =>
 aCase t_307
 ((bin .eql .num t_5 (.int .i64 0)).bind fun t_317 =>
 jn 1 (fun t_318 s_319 =>
 k_316 (.bool false) (.bool true) (.bool false) (.bool false) t_318 (.int .i64 0) (.int .i64 0) s_319)
 (fun j_320 =>
 aCase t_317
 ((rd1 D.G (.pptr (AV.cells a0) 4) s_284).bind fun t_321 =>
 (rd1 D.G (.pptr (AV.cells a0) 4) s_284).bind fun t_322 =>
 (bin .eql .num t_321 t_322).bind fun t_323 =>
 j_320 t_323 s_284)
 (j_320 (.bool false) s_284)))
 ((bin .eql .num t_8 (.int .i64 25)).bind fun t_324 =>
 jn 6 (jk_q12_4 D k_316)
 (fun k_332 =>
 aCase t_324
 ((bin .eql .num t_5 (.int .i64 0)).bind fun t_333 =>
 jn 1 (fun t_334 s_335 =>
 k_332 (.bool false) (.bool true) (.bool false) t_334 (.int .i64 0) (.int .i64 0) s_335)
 (fun j_336 =>
 aCase t_333
 ((rd1 D.G (.pptr (AV.cells a0) 5) s_284).bind fun t_337 =>
 (lenV .str t_337 s_284).bind fun t_338 =>
 (bin .leq .num t_338 (.int .i64 4000)).bind fun t_339 =>
 j_336 t_339 s_284)
 (j_336 (.bool false) s_284)))
 ((bin .eql .num t_8 (.int .i64 26)).bind fun t_340 =>
 jn 1 (jb_q12_3 D k_332 t_5 t_8 a0 a1)
 (fun k_343 =>
 aCase t_340
 (k_343 t_340 s_284)
 ((bin .eql .num t_8 (.int .i64 27)).bind fun t_498 =>
 k_343 t_498 s_284))))))))))
noncomputable def jb_q12_5 (D : Ctx) (k_207 : Cur 7) (t_5 : AV) (t_8 : AV) (a1 : AV) (a0 : AV) : Cur 1 :=
 fun t_221 s_222 =>
 jn 7 (jk_q12_11 D k_207)
 (fun k_232 =>
 aCase t_221
 ((bin .eql .num t_5 (.int .i64 0)).bind fun t_233 =>
 k_232 (.bool false) (.bool false) (.bool false) (.bool false) t_233 (.int .i64 0) (.int .i64 0) s_222)
 ((bin .eql .num t_8 (.int .i64 11)).bind fun t_234 =>
 jn 7 (jk_q12_10 D k_232)
 (fun k_243 =>
 aCase t_234
 ((callD D (.func 30 [] [(.pptr (AV.cells a1) 0)]) [(.func 33 [] []), (.int .i64 0), t_5] s_222).bind fun t_244 =>
 k_243 (.bool false) (.bool false) (.bool false) (.bool false) t_244.1 (.int .i64 0) (.int .i64 0) t_244.2)
 ((bin .eql .num t_8 (.int .i64 12)).bind fun t_245 =>
 jn 7 (jk_q12_9 D k_243)
 (fun k_254 =>
 aCase t_245
 ((bin .eql .num t_5 (.int .i64 2)).bind fun t_255 =>
 jn 1 (fun t_256 s_257 =>
 jn 1 (fun t_259 s_260 =>
 k_254 (.bool false) (.bool false) (.bool false) (.bool false) t_259 (.int .i64 2) (.int .i64 2) s_260)
 (fun j_261 =>
 aCase t_256
 ((callD D (.func 31 [] [(.pptr (AV.cells a1) 0)]) [(.int .i64 1), (.pslice 1 [(.agg [(.int .i64 1)])])] s_257).bind fun t_262 =>
 j_261 t_262.1 t_262.2)
 (j_261 (.bool false) s_257)))
 (fun j_258 =>
 aCase t_255
 ((callD D (.func 31 [] [(.pptr (AV.cells a1) 0)]) [(.int .i64 0), (.pslice 1 [(.agg [(.int .i64 1)])])] s_222).bind fun t_263 =>
 j_258 t_263.1 t_263.2)
 (j_258 (.bool false) s_222)))
 ((bin .eql .num t_8 (.int .i64 13)).bind fun t_264 =>
 jn 7 (jk_q12_8 D k_254)
 (fun k_273 =>
 aCase t_264
 ((bin .eql .num t_5 (.int .i64 1)).bind fun t_274 =>
 jn 1 (fun t_275 s_276 =>
 k_273 (.bool false) (.bool false) (.bool false) (.bool false) t_275 (.int .i64 0) (.int .i64 0) s_276)
 (fun j_277 =>
 aCase t_274
 ((rd1 D.G (.pptr (AV.cells a1) 0) s_222).bind fun t_278 =>
 (idx 1 t_278 (.int .i64 0)).bind fun t_279 =>
 (rd1 D.G t_279 s_222).bind fun t_280 =>
 (callV D 33 [t_280] s_222).bind fun t_281 =>
 j_277 t_281 s_222)
 (j_277 (.bool false) s_222)))
 ((bin .eql .num t_8 (.int .i64 20)).bind fun t_282 =>
 jn 1 (jb_q12_4 D k_273 t_5 t_8 a0 a1)
 (fun k_285 =>
 aCase t_282
 (k_285 t_282 s_222)
 ((bin .eql .num t_8 (.int .i64 21)).bind fun t_499 =>
 jn 1 (fun t_500 s_501 =>
 k_285 t_500 s_501)
 (fun k_502 =>
 aCase t_499
 (k_502 t_499 s_222)
 ((bin .eql .num t_8 (.int .i64 22)).bind fun t_503 =>
 jn 1 (fun t_504 s_505 =>
 k_502 t_504 s_505)
 (fun k_506 =>
 aCase t_503
 (k_506 t_503 s_222)
 ((bin .eql .num t_8 (.int .i64 37)).bind fun t_507 =>
 k_506 t_507 s_222))))))))))))))
noncomputable def jb_q12_6 (D : Ctx) (k_132 : Cur 7) (t_5 : AV) (a1 : AV) : Cur 1 :=
 fun t_134 s_135 =>
 jn 1 (fun t_137 s_138 =>
 jn 1 (fun t_140 s_141 =>
 jn 1 (fun t_143 s_144 =>
 k_132 (.bool false) (.bool false) (.bool false) (.bool false) t_143 (.int .i64 0) (.int .i64 0) s_144)
 (fun j_145 =>
 aCase t_140
 ((bin .eql .num t_5 (.int .i64 2)).bind fun t_146 =>
 jn 1 (fun t_147 s_148 =>
 j_145 t_147 s_148)
 (fun j_149 =>
 aCase t_146
 (j_149 (.bool true) s_141)
 ((callD D (.func 31 [] [(.pptr (AV.cells a1) 0)]) [(.int .i64 2), (.pslice 1 [(.agg [(.int .i64 1)]), (.agg [(.int .i64 5)])])] s_141).bind fun t_150 =>
 j_149 t_150.1 t_150.2)))
 (j_145 (.bool false) s_141)))
 (fun j_142 =>
 aCase t_137
 ((callD D (.func 31 [] [(.pptr (AV.cells a1) 0)]) [(.int .i64 1), (.pslice 1 [(.agg [(.int .i64 1)])])] s_138).bind fun t_151 =>
 j_142 t_151.1 t_151.2)
 (j_142 (.bool false) s_138)))
 (fun j_139 =>
 aCase t_134
 ((rd1 D.G (.pptr (AV.cells a1) 0) s_135).bind fun t_152 =>
 (idx 1 t_152 (.int .i64 0)).bind fun t_153 =>
 (rd1 D.G t_153 s_135).bind fun t_154 =>
 (callV D 33 [t_154] s_135).bind fun t_155 =>
 j_139 t_155 s_135)
 (j_139 (.bool false) s_135))
noncomputable def jb_q12_7 (D : Ctx) (k_91 : Cur 7) (t_5 : AV) (a1 : AV) (t_8 : AV) (a0 : AV) : Cur 1 :=
 fun t_106 s_107 =>
 jn 7 (jk_q12_16 D k_91)
 (fun k_117 =>
 aCase t_106
 ((bin .eql .num t_5 (.int .i64 1)).bind fun t_118 =>
 jn 1 (fun t_119 s_120 =>
 k_117 (.bool false) (.bool false) (.bool false) (.bool false) t_119 (.int .i64 0) (.int .i64 0) s_120)
 (fun j_121 =>
 aCase t_118
 ((callD D (.func 31 [] [(.pptr (AV.cells a1) 0)]) [(.int .i64 0), (.pslice 1 [(.agg [(.int .i64 34)])])] s_107).bind fun t_122 =>
 j_121 t_122.1 t_122.2)
 (j_121 (.bool false) s_107)))
 ((bin .eql .num t_8 (.int .i64 5)).bind fun t_123 =>
 jn 7 (jk_q12_15 D k_117)
 (fun k_132 =>
 aCase t_123
 ((bin .eql .num t_5 (.int .i64 2)).bind fun t_133 =>
 jn 1 (jb_q12_6 D k_132 t_5 a1)
 (fun j_136 =>
 aCase t_133
 (j_136 (.bool true) s_107)
 ((bin .eql .num t_5 (.int .i64 3)).bind fun t_156 =>
 j_136 t_156 s_107)))
 ((bin .eql .num t_8 (.int .i64 6)).bind fun t_157 =>
 jn 7 (jk_q12_14 D k_132)
 (fun k_166 =>
 aCase t_157
 ((bin .eql .num t_5 (.int .i64 2)).bind fun t_167 =>
 jn 1 (fun t_168 s_169 =>
 jn 1 (fun t_171 s_172 =>
 k_166 (.bool false) (.bool false) (.bool false) (.bool false) t_171 (.int .i64 0) (.int .i64 0) s_172)
 (fun j_173 =>
 aCase t_168
 ((callD D (.func 31 [] [(.pptr (AV.cells a1) 0)]) [(.int .i64 1), (.pslice 1 [(.agg [(.int .i64 1)])])] s_169).bind fun t_174 =>
 j_173 t_174.1 t_174.2)
 (j_173 (.bool false) s_169)))
 (fun j_170 =>
 aCase t_167
 ((rd1 D.G (.pptr (AV.cells a1) 0) s_107).bind fun t_175 =>
 (idx 1 t_175 (.int .i64 0)).bind fun t_176 =>
 (rd1 D.G t_176 s_107).bind fun t_177 =>
 (callV D 33 [t_177] s_107).bind fun t_178 =>
 j_170 t_178 s_107)
 (j_170 (.bool false) s_107)))
 ((bin .eql .num t_8 (.int .i64 7)).bind fun t_179 =>
 jn 7 (jk_q12_13 D k_166)
 (fun k_188 =>
 aCase t_179
 ((bin .eql .num t_5 (.int .i64 4)).bind fun t_189 =>
 jn 1 (fun t_190 s_191 =>
 jn 1 (fun t_193 s_194 =>
 k_188 (.bool false) (.bool false) (.bool false) (.bool false) t_193 (.int .i64 1) (.int .i64 1) s_194)
 (fun j_195 =>
 aCase t_190
 ((callD D (.func 31 [] [(.pptr (AV.cells a1) 0)]) [(.int .i64 3), (.pslice 1 [(.agg [(.int .i64 1)])])] s_191).bind fun t_196 =>
 j_195 t_196.1 t_196.2)
 (j_195 (.bool false) s_191)))
 (fun j_192 =>
 aCase t_189
 ((callD D (.func 30 [] [(.pptr (AV.cells a1) 0)]) [(.func 33 [] []), (.int .i64 0), (.int .i64 3)] s_107).bind fun t_197 =>
 j_192 t_197.1 t_197.2)
 (j_192 (.bool false) s_107)))
 ((bin .eql .num t_8 (.int .i64 8)).bind fun t_198 =>
 jn 7 (jk_q12_12 D k_188)
 (fun k_207 =>
 aCase t_198
 ((bin .eql .num t_5 (.int .i64 2)).bind fun t_208 =>
 jn 1 (fun t_209 s_210 =>
 jn 1 (fun t_212 s_213 =>
 k_207 (.bool false) (.bool false) (.bool false) (.bool false) t_212 (.int .i64 1) (.int .i64 4) s_213)
 (fun j_214 =>
 aCase t_209
 ((callD D (.func 31 [] [(.pptr (AV.cells a1) 0)]) [(.int .i64 1), (.pslice 1 [(.agg [(.int .i64 1)])])] s_210).bind fun t_215 =>
 j_214 t_215.1 t_215.2)
 (j_214 (.bool false) s_210)))
 (fun j_211 =>
 aCase t_208
 ((rd1 D.G (.pptr (AV.cells a1) 0) s_107).bind fun t_216 =>
 (idx 1 t_216 (.int .i64 0)).bind fun t_217 =>
 (rd1 D.G t_217 s_107).bind fun t_218 =>
 (callV D 33 [t_218] s_107).bind fun t_219 =>
 j_211 t_219 s_107)
 (j_211 (.bool false) s_107)))
 ((bin .eql .num t_8 (.int .i64 9)).bind fun t_220 =>
 jn 1 (jb_q12_5 D k_207 t_5 t_8 a1 a0)
 (fun k_223 =>
 aCase t_220
 (k_223 t_220 s_107)
 ((bin .eql .num t_8 (.int .i64 10)).bind fun t_508 =>
 k_223 t_508 s_107))))))))))))
noncomputable def sh_q12 (D : Ctx) (a0 a1 : AV) (σ : Store) : Res :=
 (rd1 D.G (.pptr (AV.cells a1) 0) σ).bind fun t_1 =>
 (lenV .sl t_1 σ).bind fun t_2 =>
 (bin .gtr .num t_2 (.int .i64 200)).bind fun t_3 =>
 aCase t_3
 (some ((.bool false), σ))
 ((rd1 D.G (.pptr (AV.cells a1) 0) σ).bind fun t_4 =>
 (lenV .sl t_4 σ).bind fun t_5 =>
 (rd1 D.G (.pptr (AV.cells a0) 6) σ).bind fun t_6 =>
 (lenV .sl t_6 σ).bind fun t_7 =>
 (rd1 D.G (.pptr (AV.cells a0) 0) σ).bind fun t_8 =>
 (bin .eql .num t_8 (.int .i64 1)).bind fun t_9 =>
 jn 7 (jk_q12_19 D a0 t_7)
 (fun k_18 =>
 aCase t_9
 ((callD D (.func 30 [] [(.pptr (AV.cells a1) 0)]) [(.func 32 [] []), (.int .i64 0), t_5] σ).bind fun t_70 =>
 k_18 (.bool false) (.bool false) (.bool false) (.bool false) t_70.1 (.int .i64 0) (.int .i64 0) t_70.2)
 ((bin .eql .num t_8 (.int .i64 2)).bind fun t_71 =>
 jn 7 (jk_q12_18 D k_18)
 (fun k_80 =>
 aCase t_71
 ((callD D (.func 30 [] [(.pptr (AV.cells a1) 0)]) [(.func 33 [] []), (.int .i64 0), t_5] σ).bind fun t_81 =>
 k_80 (.bool false) (.bool false) (.bool false) (.bool false) t_81.1 (.int .i64 1) (.int .i64 9223372036854775807) t_81.2)
 ((bin .eql .num t_8 (.int .i64 3)).bind fun t_82 =>
 jn 7 (jk_q12_17 D k_80)
 (fun k_91 =>
 aCase t_82
 ((rd1 D.G (.pptr (AV.cells a0) 3) σ).bind fun t_92 =>
 (bin .lss .num t_92 (.int .i64 1)).bind fun t_93 =>
 jn 1 (fun t_94 s_95 =>
 aCase t_94
 (some ((.bool false), s_95))
 ((rd1 D.G (.pptr (AV.cells a0) 3) s_95).bind fun t_97 =>
 (callD D (.func 30 [] [(.pptr (AV.cells a1) 0)]) [(.func 34 [] []), (.int .i64 0), t_97] s_95).bind fun t_98 =>
 jn 1 (fun t_99 s_100 =>
 k_91 (.bool true) (.bool false) (.bool false) (.bool false) t_99 (.int .i64 0) (.int .i64 0) s_100)
 (fun j_101 =>
 aCase t_98.1
 ((callD D (.func 30 [] [(.pptr (AV.cells a1) 0)]) [(.func 33 [] []), t_97, t_5] t_98.2).bind fun t_102 =>
 j_101 t_102.1 t_102.2)
 (j_101 (.bool false) t_98.2))))
 (fun j_96 =>
 aCase t_93
 (j_96 (.bool true) σ)
 ((rd1 D.G (.pptr (AV.cells a0) 3) σ).bind fun t_103 =>
 (bin .geq .num t_103 t_5).bind fun t_104 =>
 j_96 t_104 σ)))
 ((bin .eql .num t_8 (.int .i64 4)).bind fun t_105 =>
 jn 1 (jb_q12_7 D k_91 t_5 a1 t_8 a0)
 (fun k_108 =>
 aCase t_105
 (k_108 t_105 σ)
 ((bin .eql .num t_8 (.int .i64 14)).bind fun t_509 =>
 k_108 t_509 σ)))))))))
theorem sh_q12_eq (D : Ctx) (a0 a1 : AV) (σ : Store) : runFn D ir_q12 [a0, a1] σ = sh_q12 D a0 a1 σ := by kernel_rfl
def ir_q13 : IFn := ⟨[],
.rs (ops [(2,.pbox 0),
(3,.pbox 1)]) (
.rs (ops [(7,.mkMap (.int .i64)),
(4,.zalloc [.nilmap])] (
.op none (.store false 1 4 7) (
.freeze 4 (
.done)))) (
.seq (.rs (ops [(8,.fadd 2 2),
(9,.load false 1 8),
(10,.mv (Cn 0))]) (
.block 0 (some ⟨[], []⟩) (
.loop ⟨[10], []⟩ (
.rs (ops [(11,.bin .lss .num 10 9)]) (
.seq (.cond 11 none (.skip) (.exit 0)) (
.seq (.block 1 none (
.rs (ops [(12,.mv 10),
(5,.mv 12)]) (
.reg (ops [(13,.load false 1 4),
(14,.mv 5),
(15,.look1 (.int .i64) (.int .i64 0) 13 14),
(16,.bin .add .num 15 (Cn 1))] (
.op none (.mapSet (.int .i64) 13 14 16) (
.done)))))) (
.reg (ops [(17,.bin .add .num 10 (Cn 1)),
(10,.mv 17)])))))))) (
.rs (ops [(6,.halloc [.nilfunc])]) (
.rs (ops [(18,.mkFunc 35 [] [2, 3, 4, 6])] (
.op none (.store false 1 6 18) (
.done))) (
.reg (ops [(19,.load false 1 6),
(20,.fadd 6 2),
(21,.load false 1 20),
(22,.len .sl 21),
(23,.bin .sub .num 22 (Cn 1)),
(24,.callD 19 [23, (.c (.bool false))])]))))))⟩
noncomputable def lp_q13_1 (D : Ctx) (t_1 : AV) (σ : Store) (k_3 : Cur 0) : Cur 1 → Cur 1 :=
 fun go_13 t_11 s_12 =>
 (bin .lss .num t_11 t_1).bind fun t_14 =>
 aCase t_14
 ((lookup1 (.int .i64) (.int .i64 0) (.hmap σ.next) t_11 s_12).bind fun t_15 =>
 (bin .add .num t_15 (.int .i64 1)).bind fun t_16 =>
 (mapSet (.int .i64) (.hmap σ.next) t_11 t_16 s_12).bind fun s_17 =>
 (bin .add .num t_11 (.int .i64 1)).bind fun t_18 =>
 go_13 t_18 s_17)
 (k_3  s_12)
theorem lp_q13_1_le {D : Ctx} (x0 x1 k2) {k2'} (hk2 : Cle k2 k2') {u u'} (h : Cle u u') : Cle (lp_q13_1 D x0 x1 k2 u) (lp_q13_1 D x0 x1 k2' u') := by
 unfold lp_q13_1
 repeat (first
  | with_reducible refine Ole.bindr fun _ => ?_
  | with_reducible refine Ole.aCase ?_ ?_
  | refine Cle.succ fun _ => ?_
  | refine Cle.zero fun _ => ?_
  | exact Cle.use0 (by assumption)
  | exact Cle.use1 (by assumption)
  | with_reducible exact Ole.refl _)
theorem lp_q13_1_mono (D x0 x1 k2) : Mono (lp_q13_1 D x0 x1 k2) := fun _ _ => lp_q13_1_le _ _ _ (Cle.refl _)
noncomputable def sh_q13 (D : Ctx) (a0 a1 : AV) (σ : Store) : Res :=
 (rd1 D.G (.pptr (AV.cells a0) 2) (σ.add (.map (.int .i64) fun _ => none))).bind fun t_1 =>
 jn 0 (fun  s_2 =>
 (wr (.hptr s_2.next 0) [(.func 35 [] [(.pptr (AV.cells a0) 0), (.pptr (AV.cells a1) 0), (.pptr [(.hmap σ.next)] 0), (.hptr s_2.next 0)])] (s_2.add (.cells [.nilfunc]))).bind fun s_5 =>
 (rd1 D.G (.hptr s_2.next 0) s_5).bind fun t_6 =>
 (rd1 D.G (.pptr (AV.cells a0) 6) s_5).bind fun t_7 =>
 (lenV .sl t_7 s_5).bind fun t_8 =>
 (bin .sub .num t_8 (.int .i64 1)).bind fun t_9 =>
 (callD D t_6 [t_9, (.bool false)] s_5).bind fun t_10 =>
 some (.tuple [], t_10.2))
 (fun k_3 =>
 lpFix 1 (lp_q13_1 D t_1 σ k_3) (.int .i64 0) (σ.add (.map (.int .i64) fun _ => none)))
theorem sh_q13_eq (D : Ctx) (a0 a1 : AV) (σ : Store) : runFn D ir_q13 [a0, a1] σ = sh_q13 D a0 a1 σ := by kernel_rfl
end Go.Asm.UnitF
