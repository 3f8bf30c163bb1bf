/-
  The locks' functions that only read. PRINTED by wip/tools/mklk.py.
-/
import Derived.Test.YtlhlgmodhblplaaJtLr
set_option autoImplicit false
set_option linter.all false
set_option maxRecDepth 10000
set_option maxHeartbeats 8000000
namespace Go.Jt
noncomputable section
variable [Gl]
class LkN where
  new : Nat
  ask : Nat
  drop : Nat
  has : Nat
  row : Nat
  con : Nat
  ask1 : Nat
  find : Nat
  clo : Nat
  may : Nat
  each : Nat
  drop1 : Nat
  row1 : Nat
  idx : Nat
  find1 : Nat
  may1 : Nat
  clash : Nat
def b_qnew [LkN] : IR := (.seq (.reg [mv 0 (.cst .nilp)]) (.seq (.reg [xo 1 (.build (.cat 1 (.one .nilp) (.one (.int .i64 0))) []), xo 2 (.box t1), mv 0 t2]) .ret))
def ir_qnew [LkN] : FnIR := ⟨3, [.tmp 0], b_qnew⟩
def b_qask [LkN] : IR := (.seq (.reg [xo 6 (.mv (.cst (.bool false))), xo 7 (.mv (.cst (.int .i64 0)))]) (.seq (.block 0 (.seq (.reg [mv 13 t0, xo 14 (.bin .eql 2 t13 (.cst .nilp)), mv 12 t14]) (.cond t12 (.seq (.reg [xo 6 (.mv (.cst (.bool false))), xo 7 (.mv (.cst (.int .i64 2)))]) .ret) (.seq (.reg [mv 16 t1, xo 17 (.bin .lss 0 t16 (.cst (.int .i64 0))), mv 18 t17, ⟨some 19, .mv t2, some (18, false)⟩, ⟨some 20, .len 1 t19, some (18, false)⟩, ⟨some 21, .bin .gtr 0 t20 (.cst (.int .i64 4)), some (18, false)⟩, xo 22 (.pick t18 (.cst (.bool true)) t21), mv 15 t22]) (.cond t15 (.seq (.reg [xo 6 (.mv (.cst (.bool false))), xo 7 (.mv (.cst (.int .i64 1)))]) .ret) .skip))))) (.seq (.seq (.reg [mv 23 t2, xo 24 (.len 1 t23), xo 25 (.mv (.cst (.int .i64 0)))]) (.block 1 (.loop (.seq (.reg [xo 26 (.bin .lss 0 t25 t24)]) (.seq (.cond t26 .skip (.exit 1)) (.seq (.block 2 (.seq (.reg [mv 27 t25, xo 28 (.ixs 2 t23 t25), xo 29 (.ldn 2 t28), xo 9 (.alloc (.cat 1 (.one (.int .i64 0)) (.one (.bool false)))), mv 8 t27, ⟨none, .st 2 t9 t29, none⟩]) (.seq (.reg [xo 30 (.fla 0 t9), xo 31 (.ld1 t30), xo 32 (.bin .lss 0 t31 (.cst (.int .i64 1))), mv 33 t32, ⟨some 34, .mv t2, some (33, false)⟩, ⟨some 35, .mv t8, some (33, false)⟩, ⟨some 36, .sll 2 t34 none (some t35) none, some (33, false)⟩, ⟨some 37, .mkf (.fn (.func LkN.ask1)) [] [t9], some (33, false)⟩, ⟨some 38, .call (.cst (.fn (.fn (.func LkN.con)) [] [])) [t36, t37], some (33, false)⟩, xo 39 (.pick t33 (.cst (.bool true)) t38)]) (.cond t39 (.seq (.reg [xo 6 (.mv (.cst (.bool false))), xo 7 (.mv (.cst (.int .i64 1)))]) .ret) .skip)))) (.reg [xo 40 (.bin .add 0 t25 (.cst (.int .i64 1))), mv 25 t40]))))))) (.seq (.block 3 (.seq (.reg [mv 42 t0, mv 43 t1, xo 44 (.call (.cst (.fn (.fn (.func LkN.find)) [] [])) [t42, t43]), xo 45 (.bin .neq 2 t44 (.cst .nilp)), mv 41 t45]) (.cond t41 (.seq (.reg [xo 6 (.mv (.cst (.bool false))), xo 7 (.mv (.cst (.int .i64 6)))]) .ret) (.seq (.reg [mv 47 t0, xo 48 (.nck t47), xo 49 (.fla 1 t48), xo 50 (.ld1 t49), xo 51 (.bin .geq 0 t50 (.cst (.int .i64 16))), mv 46 t51]) (.cond t46 (.seq (.reg [xo 6 (.mv (.cst (.bool false))), xo 7 (.mv (.cst (.int .i64 3)))]) .ret) .skip))))) (.seq (.reg [mv 52 t1, mv 53 t2, xo 54 (.call (.cst (.fn (.fn (.func LkN.clo)) [] [])) [t53]), xo 55 (.build (.cat 2 (.cat 1 (.one (.int .i64 0)) (.one .nils)) (.cat 1 (.one (.bool false)) (.one .nilp))) [(0, 1, t52), (1, 1, t54)]), xo 56 (.box t55), mv 10 t56]) (.seq (.reg [mv 57 t0, xo 58 (.nck t57), xo 59 (.fla 0 t58), mv 11 t59]) (.seq (.block 4 (.loop (.seq (.seq (.reg [mv 60 t11, xo 61 (.nck t60), xo 62 (.ld1 t61), xo 63 (.bin .neq 2 t62 (.cst .nilp))]) (.cond t63 .skip (.exit 4))) (.block 5 (.reg [mv 64 t11, xo 65 (.nck t64), xo 66 (.ld1 t65), xo 67 (.nck t66), xo 68 (.fla 3 t67), mv 11 t68]))))) (.seq (.reg [mv 69 t11, mv 70 t10, xo 71 (.nck t69), ⟨none, .st 1 t71 t70, none⟩]) (.seq (.reg [mv 72 t0, xo 73 (.nck t72), xo 74 (.fla 1 t73), xo 75 (.ld1 t74), xo 76 (.bin .add 0 t75 (.cst (.int .i64 1))), xo 77 (.nck t72), xo 78 (.fla 1 t77), ⟨none, .st 1 t78 t76, none⟩]) (.seq (.reg [mv 79 t10, mv 80 t0, mv 81 t10, xo 82 (.call (.cst (.fn (.fn (.func LkN.may)) [] [])) [t80, t81]), xo 83 (.nck t79), xo 84 (.fla 2 t83), ⟨none, .st 1 t84 t82, none⟩]) (.seq (.reg [mv 85 t10, xo 86 (.nck t85), xo 87 (.fla 2 t86), xo 88 (.ld1 t87), mv 6 t88, xo 7 (.mv (.cst (.int .i64 0)))]) .ret)))))))))))
def ir_qask [LkN] : FnIR := ⟨89, [.tmp 6, .tmp 7], b_qask⟩
def b_qdrop [LkN] : IR := (.seq (.reg [xo 2 (.box t0), mv 4 (.cst .nils), xo 5 (.mv (.cst (.int .i64 0)))]) (.seq (.seq (.reg [xo 9 (.ld1 t2), xo 10 (.bin .eql 2 t9 (.cst .nilp))]) (.cond t10 (.seq (.reg [mv 4 (.cst .nils), xo 5 (.mv (.cst (.int .i64 2)))]) .ret) .skip)) (.seq (.reg [xo 11 (.ld1 t2), mv 12 t1, xo 13 (.call (.cst (.fn (.fn (.func LkN.find)) [] [])) [t11, t12]), mv 6 t13]) (.seq (.seq (.reg [mv 14 t6, xo 15 (.bin .eql 2 t14 (.cst .nilp))]) (.cond t15 (.seq (.reg [mv 4 (.cst .nils), xo 5 (.mv (.cst (.int .i64 5)))]) .ret) .skip)) (.seq (.reg [xo 16 (.ld1 t2), xo 17 (.nck t16), xo 18 (.fla 0 t17), mv 7 t18]) (.seq (.block 0 (.loop (.seq (.seq (.reg [mv 19 t7, xo 20 (.nck t19), xo 21 (.ld1 t20), mv 22 t6, xo 23 (.bin .neq 2 t21 t22)]) (.cond t23 .skip (.exit 0))) (.block 1 (.reg [mv 24 t7, xo 25 (.nck t24), xo 26 (.ld1 t25), xo 27 (.nck t26), xo 28 (.fla 3 t27), mv 7 t28]))))) (.seq (.reg [mv 29 t7, mv 30 t6, xo 31 (.nck t30), xo 32 (.fla 3 t31), xo 33 (.ld1 t32), xo 34 (.nck t29), ⟨none, .st 1 t34 t33, none⟩]) (.seq (.reg [xo 35 (.ld1 t2), xo 36 (.nck t35), xo 37 (.fla 1 t36), xo 38 (.ld1 t37), xo 39 (.bin .sub 0 t38 (.cst (.int .i64 1))), xo 40 (.nck t35), xo 41 (.fla 1 t40), ⟨none, .st 1 t41 t39, none⟩]) (.seq (.reg [xo 8 (.alloc (.one .nils))]) (.seq (.reg [xo 42 (.ld1 t2), xo 43 (.mkf (.fn (.func LkN.drop1)) [] [t2, t8]), xo 44 (.call (.cst (.fn (.fn (.func LkN.each)) [] [])) [t42, t43])]) (.seq (.reg [xo 45 (.ld1 t8), mv 4 t45, xo 5 (.mv (.cst (.int .i64 0)))]) .ret)))))))))))
def ir_qdrop [LkN] : FnIR := ⟨46, [.tmp 4, .tmp 5], b_qdrop⟩
def b_qhas [LkN] : IR := (.seq (.reg [xo 4 (.mv (.cst (.bool false)))]) (.seq (.reg [mv 6 t0, mv 7 t1, xo 8 (.call (.cst (.fn (.fn (.func LkN.find)) [] [])) [t6, t7]), mv 5 t8]) (.seq (.reg [mv 9 t5, xo 10 (.bin .neq 2 t9 (.cst .nilp)), mv 11 t10, ⟨some 12, .mv t5, some (11, true)⟩, ⟨some 13, .nck t12, some (11, true)⟩, ⟨some 14, .fla 2 t13, some (11, true)⟩, ⟨some 15, .ld1 t14, some (11, true)⟩, xo 16 (.pick t11 t15 (.cst (.bool false))), mv 4 t16]) .ret)))
def ir_qhas [LkN] : FnIR := ⟨17, [.tmp 4], b_qhas⟩
def b_qrow [LkN] : IR := (.seq (.reg [mv 2 (.cst .nils)]) (.seq (.reg [xo 3 (.alloc (.one .nils))]) (.seq (.reg [mv 4 t0, xo 5 (.mkf (.fn (.func LkN.row1)) [] [t3]), xo 6 (.call (.cst (.fn (.fn (.func LkN.each)) [] [])) [t4, t5])]) (.seq (.reg [xo 7 (.ld1 t3), mv 2 t7]) .ret))))
def ir_qrow [LkN] : FnIR := ⟨8, [.tmp 2], b_qrow⟩
def b_qcon [LkN] : IR := (.seq (.reg [xo 4 (.mv (.cst (.bool false)))]) (.seq (.reg [mv 5 t0, mv 6 t1, xo 7 (.call (.cst (.fn (.fn (.func LkN.idx)) [] [])) [t5, t6]), xo 8 (.bin .geq 0 t7 (.cst (.int .i64 0))), mv 4 t8]) .ret))
def ir_qcon [LkN] : FnIR := ⟨9, [.tmp 4], b_qcon⟩
def b_qask1 [LkN] : IR := (.seq (.reg [xo 2 (.box t0), xo 3 (.mv (.cst (.bool false)))]) (.seq (.reg [xo 4 (.fla 0 t2), xo 5 (.ld1 t4), xo 6 (.fla 0 t1), xo 7 (.ld1 t6), xo 8 (.bin .eql 0 t5 t7), mv 3 t8]) .ret))
def ir_qask1 [LkN] : FnIR := ⟨9, [.tmp 3], b_qask1⟩
def b_qfind [LkN] : IR := (.seq (.reg [xo 3 (.box t1), mv 4 (.cst .nilp)]) (.seq (.reg [xo 5 (.alloc (.one .nilp))]) (.seq (.reg [mv 6 t0, xo 7 (.mkf (.fn (.func LkN.find1)) [] [t3, t5]), xo 8 (.call (.cst (.fn (.fn (.func LkN.each)) [] [])) [t6, t7])]) (.seq (.reg [xo 9 (.ld1 t5), mv 4 t9]) .ret))))
def ir_qfind [LkN] : FnIR := ⟨10, [.tmp 4], b_qfind⟩
def b_qclo [LkN] : IR := (.seq (.reg [mv 2 (.cst .nils)]) (.seq (.seq (.reg [mv 3 t0, xo 4 (.bin .eql 3 t3 (.cst .nils))]) (.cond t4 (.seq (.reg [mv 2 (.cst .nils)]) .ret) .skip)) (.seq (.reg [xo 5 (.bsl 0 .nil []), mv 6 t0, xo 7 (.app 2 16 (.cat 1 (.one (.int .i64 0)) (.one (.bool false))) false t5 t6), mv 2 t7]) .ret)))
def ir_qclo [LkN] : FnIR := ⟨8, [.tmp 2], b_qclo⟩
def b_qmay [LkN] : IR := (.seq (.reg [xo 3 (.box t1), xo 4 (.mv (.cst (.bool false)))]) (.seq (.reg [xo 5 (.alloc (.one (.bool false))), ⟨none, .st 1 t5 (.cst (.bool true)), none⟩]) (.seq (.reg [mv 6 t0, xo 7 (.mkf (.fn (.func LkN.may1)) [] [t3, t5]), xo 8 (.call (.cst (.fn (.fn (.func LkN.each)) [] [])) [t6, t7])]) (.seq (.reg [xo 9 (.ld1 t5), mv 4 t9]) .ret))))
def ir_qmay [LkN] : FnIR := ⟨10, [.tmp 4], b_qmay⟩
def b_qeach [LkN] : IR := (.seq (.seq (.reg [mv 5 t0, xo 6 (.bin .eql 2 t5 (.cst .nilp))]) (.cond t6 .ret .skip)) (.seq (.reg [mv 7 t0, xo 8 (.nck t7), xo 9 (.fla 0 t8), xo 10 (.ld1 t9), mv 4 t10]) (.block 0 (.loop (.seq (.seq (.reg [mv 11 t4, xo 12 (.bin .neq 2 t11 (.cst .nilp)), mv 13 t12, ⟨some 14, .mv t1, some (13, true)⟩, ⟨some 15, .mv t4, some (13, true)⟩, ⟨some 16, .call t14 [t15], some (13, true)⟩, xo 17 (.pick t13 t16 (.cst (.bool false)))]) (.cond t17 .skip (.exit 0))) (.seq (.block 1 .skip) (.reg [mv 18 t4, xo 19 (.nck t18), xo 20 (.fla 3 t19), xo 21 (.ld1 t20), mv 4 t21])))))))
def ir_qeach [LkN] : FnIR := ⟨22, [], b_qeach⟩
def b_qdrop1 [LkN] : IR := (.seq (.reg [xo 4 (.mv (.cst (.bool false)))]) (.seq (.seq (.reg [mv 5 t0, xo 6 (.nck t5), xo 7 (.fla 2 t6), xo 8 (.ld1 t7), xo 9 (.not t8), mv 10 t9, ⟨some 11, .ld1 t1, some (10, true)⟩, ⟨some 12, .mv t0, some (10, true)⟩, ⟨some 13, .call (.cst (.fn (.fn (.func LkN.may)) [] [])) [t11, t12], some (10, true)⟩, xo 14 (.pick t10 t13 (.cst (.bool false)))]) (.cond t14 (.seq (.reg [mv 15 t0, xo 16 (.nck t15), xo 17 (.fla 2 t16), ⟨none, .st 1 t17 (.cst (.bool true)), none⟩]) (.dreg [.run (xo 18 (.ld1 t2)), .run (mv 19 t0), .run (xo 20 (.nck t19)), .run (xo 21 (.fla 0 t20)), .run (xo 22 (.ld1 t21)), .run (xo 23 (.bsl 1 (.rep 1 (.int .i64 0)) [(0, 1, t22)]))] [(xo 24 (.app 1 8 (.one (.int .i64 0)) false t18 t23), []), (⟨none, .st 1 t2 t24, none⟩, [])])) .skip)) (.seq (.reg [xo 4 (.mv (.cst (.bool true)))]) .ret)))
def ir_qdrop1 [LkN] : FnIR := ⟨25, [.tmp 4], b_qdrop1⟩
def b_qrow1 [LkN] : IR := (.seq (.reg [xo 3 (.mv (.cst (.bool false)))]) (.seq (.dreg [.run (xo 4 (.ld1 t1)), .run (mv 5 t0), .run (xo 6 (.nck t5)), .run (xo 7 (.fla 0 t6)), .run (xo 8 (.ld1 t7)), .run (xo 9 (.bsl 1 (.rep 1 (.int .i64 0)) [(0, 1, t8)]))] [(xo 10 (.app 1 8 (.one (.int .i64 0)) false t4 t9), []), (⟨none, .st 1 t1 t10, none⟩, [])]) (.seq (.reg [xo 3 (.mv (.cst (.bool true)))]) .ret)))
def ir_qrow1 [LkN] : FnIR := ⟨11, [.tmp 3], b_qrow1⟩
def b_qidx [LkN] : IR := (.seq (.reg [xo 4 (.mv (.cst (.int .i64 0)))]) (.seq (.seq (.reg [mv 6 t0, xo 7 (.len 1 t6), xo 8 (.mv (.cst (.int .i64 0)))]) (.block 0 (.loop (.seq (.reg [xo 9 (.bin .lss 0 t8 t7)]) (.seq (.cond t9 .skip (.exit 0)) (.seq (.block 1 (.seq (.reg [mv 10 t8, mv 5 t10]) (.seq (.reg [mv 11 t1, mv 12 t0, mv 13 t5, xo 14 (.ixs 2 t12 t13), xo 15 (.ldn 2 t14), xo 16 (.call t11 [t15])]) (.cond t16 (.seq (.reg [mv 17 t5, mv 4 t17]) .ret) .skip)))) (.reg [xo 18 (.bin .add 0 t8 (.cst (.int .i64 1))), mv 8 t18]))))))) (.seq (.reg [xo 4 (.mv (.cst (.int .i64 (-1))))]) .ret)))
def ir_qidx [LkN] : FnIR := ⟨19, [.tmp 4], b_qidx⟩
def b_qfind1 [LkN] : IR := (.seq (.reg [xo 4 (.mv (.cst (.bool false)))]) (.seq (.seq (.dreg [.run (mv 5 t0), .run (xo 6 (.nck t5)), .run (xo 7 (.fla 0 t6)), .run (xo 8 (.ld1 t7)), .run (xo 9 (.ld1 t1)), .run (xo 10 (.bin .eql 0 t8 t9))] []) (.cond t10 (.reg [mv 11 t0, ⟨none, .st 1 t2 t11, none⟩]) .skip)) (.seq (.reg [xo 12 (.ld1 t2), xo 13 (.bin .eql 2 t12 (.cst .nilp)), mv 4 t13]) .ret)))
def ir_qfind1 [LkN] : FnIR := ⟨14, [.tmp 4], b_qfind1⟩
def b_qmay1 [LkN] : IR := (.seq (.reg [xo 4 (.mv (.cst (.bool false)))]) (.seq (.seq (.reg [xo 7 (.ld1 t1), mv 8 t0, xo 9 (.bin .eql 2 t7 t8)]) (.cond t9 (.seq (.reg [xo 4 (.mv (.cst (.bool false)))]) .ret) .skip)) (.seq (.seq (.reg [mv 10 t0, xo 11 (.nck t10), xo 12 (.fla 1 t11), xo 13 (.ld1 t12), xo 14 (.len 1 t13), xo 15 (.mv (.cst (.int .i64 0)))]) (.block 0 (.loop (.seq (.reg [xo 16 (.bin .lss 0 t15 t14)]) (.seq (.cond t16 .skip (.exit 0)) (.seq (.block 1 (.seq (.reg [xo 17 (.ixs 2 t13 t15), xo 18 (.ldn 2 t17), xo 6 (.alloc (.cat 1 (.one (.int .i64 0)) (.one (.bool false)))), ⟨none, .st 2 t6 t18, none⟩]) (.dreg [.run (xo 19 (.ld1 t2)), .run (mv 20 t19), .run ⟨some 21, .ld1 t1, some (20, true)⟩, .run ⟨some 22, .nck t21, some (20, true)⟩, .run ⟨some 23, .fla 1 t22, some (20, true)⟩, .run ⟨some 24, .ld1 t23, some (20, true)⟩, .run ⟨some 25, .ldn 2 t6, some (20, true)⟩, .run ⟨some 26, .mkf (.fn (.func LkN.clash)) [t25] [], some (20, true)⟩] [(⟨some 27, .call (.cst (.fn (.fn (.func LkN.con)) [] [])) [t24, t26], some (20, true)⟩, [.run ⟨some 28, .not t27, some (20, true)⟩, .run (xo 29 (.pick t20 t28 (.cst (.bool false))))]), (⟨none, .st 1 t2 t29, none⟩, [])]))) (.reg [xo 30 (.bin .add 0 t15 (.cst (.int .i64 1))), mv 15 t30]))))))) (.seq (.reg [xo 31 (.ld1 t2), mv 4 t31]) .ret))))
def ir_qmay1 [LkN] : FnIR := ⟨32, [.tmp 4], b_qmay1⟩
def b_qclash [LkN] : IR := (.seq (.reg [xo 2 (.box t0), xo 3 (.box t1), xo 4 (.mv (.cst (.bool false)))]) (.seq (.reg [xo 5 (.fla 0 t2), xo 6 (.ld1 t5), xo 7 (.fla 0 t3), xo 8 (.ld1 t7), xo 9 (.bin .eql 0 t6 t8), mv 10 t9, ⟨some 11, .fla 1 t2, some (10, true)⟩, ⟨some 12, .ld1 t11, some (10, true)⟩, ⟨some 13, .mv t12, some (10, true)⟩, ⟨some 14, .fla 1 t3, some (13, false)⟩, ⟨some 15, .ld1 t14, some (13, false)⟩, ⟨some 16, .pick t13 (.cst (.bool true)) t15, some (10, true)⟩, xo 17 (.pick t10 t16 (.cst (.bool false))), mv 4 t17]) .ret))
def ir_qclash [LkN] : FnIR := ⟨18, [.tmp 4], b_qclash⟩
structure LkT [LkN] (tbl : Nat → Option FT) : Prop where
  new : tbl LkN.new = some (.code ir_qnew)
  ask : tbl LkN.ask = some (.code ir_qask)
  drop : tbl LkN.drop = some (.code ir_qdrop)
  has : tbl LkN.has = some (.code ir_qhas)
  row : tbl LkN.row = some (.code ir_qrow)
  con : tbl LkN.con = some (.code ir_qcon)
  ask1 : tbl LkN.ask1 = some (.code ir_qask1)
  find : tbl LkN.find = some (.code ir_qfind)
  clo : tbl LkN.clo = some (.code ir_qclo)
  may : tbl LkN.may = some (.code ir_qmay)
  each : tbl LkN.each = some (.code ir_qeach)
  drop1 : tbl LkN.drop1 = some (.code ir_qdrop1)
  row1 : tbl LkN.row1 = some (.code ir_qrow1)
  idx : tbl LkN.idx = some (.code ir_qidx)
  find1 : tbl LkN.find1 = some (.code ir_qfind1)
  may1 : tbl LkN.may1 = some (.code ir_qmay1)
  clash : tbl LkN.clash = some (.code ir_qclash)
theorem clash_ok [LkN] {tbl : Nat → Option FT} (T : LkT tbl) {u y : Wt} {ru ry : Rp AV} {N d : Nat} (hd : 1 ≤ d) {Z : Fz} {F : List Hl} {H : AH} (hs : Sat H Z (F)) (hu : RL ru [.int .i64 u.1, .bool u.2]) (hy : RL ry [.int .i64 y.1, .bool y.2]) :
    Ct (RUN tbl N d) (.fn (.fn (.func LkN.clash)) [(.agg ru)] []) [(.agg ry)] H fun v H' => v = .bool (clw u y) ∧ Sat H' Z F := by
  obtain ⟨d, rfl⟩ : ∃ e, d = e + 1 := ⟨d - 1, by omega⟩
  refine ct_code T.clash (b := b_qclash) (env := [(.agg ru), (.agg ry), u_, u_, u_, u_, u_, u_, u_, u_, u_, u_, u_, u_, u_, u_, u_, u_]) ?_
  unfold b_qclash
  refine wp_seq (wp_reg ?_)
  obtain ⟨b1, H2, s3, k4⟩ := s_boxn hs hu
  refine wo_x (v := (.ptr b1 0)) (k4 rfl) ?_
  obtain ⟨b5, H6, s7, k8⟩ := s_boxn s3 hy
  refine wo_x (v := (.ptr b5 0)) (k8 rfl) (wo_mv (.bool false) (wo_nil (thn_n (wp_seq (wp_reg ?_)))))
  refine wo_x (v := (.ptr b1 0)) (ca_fla rfl rfl) (wo_x (v := (.int .i64 u.1)) (s_ld1 s7 1 rfl) (wo_x (v := (.ptr b5 0)) (ca_fla rfl rfl) (wo_x (v := (.int .i64 y.1)) (s_ld1 s7 0 rfl) ?_)))
  by_cases c9 : u.1 = y.1
  · refine wo_x (v := (.bool true)) (w_bin (cmp_eqlTz u.1 y.1 (by omega))) (wo_mv (.bool true) (wo_yesT (wo_x (v := (.ptr b1 1)) (ca_fla rfl rfl) (wo_yesT (wo_x (v := (.bool u.2)) (s_ld1 s7 1 rfl) ?_)))))
    refine wo_yesT (wo_mv (.bool u.2) ?_)
    by_cases c10 : u.2 = true
    · refine wo_noT (ht := (congrArg AV.bool c10)) (wo_noT (ht := (congrArg AV.bool c10)) (wo_yesT (wo_x (v := (.bool true)) (w_pickT (congrArg AV.bool c10) rfl) (wo_x (v := (.bool true)) (w_pickT rfl rfl) (wo_mv (.bool true) ?_)))))
      refine wo_nil (thn_n (wp_ret ?_))
      have s11 := s7.drop 0
      have s12 := s11.drop 0
      exact fin_1 (.bool true) ⟨congrArg AV.bool (by unfold clw; cases h1 : u.2 <;> cases h2 : y.2 <;> simp_all), s12⟩
    · refine wo_yesF (ht := (congrArg AV.bool (Bool.eq_false_iff.2 c10))) (wo_x (v := (.ptr b5 1)) (ca_fla rfl rfl) (wo_yesF (ht := (congrArg AV.bool (Bool.eq_false_iff.2 c10))) (wo_x (v := (.bool y.2)) (s_ld1 s7 0 rfl) (wo_yesT (wo_x (v := (.bool y.2)) (w_pickF (congrArg AV.bool (Bool.eq_false_iff.2 c10)) rfl) ?_)))))
      refine wo_x (v := (.bool y.2)) (w_pickT rfl rfl) (wo_mv (.bool y.2) (wo_nil (thn_n (wp_ret ?_))))
      have s13 := s7.drop 0
      have s14 := s13.drop 0
      exact fin_1 (.bool y.2) ⟨congrArg AV.bool (by unfold clw; cases h1 : u.2 <;> cases h2 : y.2 <;> simp_all), s14⟩
  · refine wo_x (v := (.bool false)) (w_bin (cmp_eqlFz u.1 y.1 (by omega))) (wo_mv (.bool false) (wo_noF (wo_noF (wo_noF (wo_noU ?_)))))
    refine wo_noU (wo_noF (wo_x (v := (.bool false)) (w_pickF rfl rfl) (wo_mv (.bool false) (wo_nil (thn_n ?_)))))
    refine wp_ret ?_
    have s15 := s7.drop 0
    have s16 := s15.drop 0
    exact fin_1 (.bool false) ⟨congrArg AV.bool (by unfold clw; cases h1 : u.2 <;> cases h2 : y.2 <;> simp_all), s16⟩
/-- what a loop found -/
def FoundW (n : Nat) (p : Nat → Bool) (z : Int) : Prop := (∃ i : Nat, z = .ofNat i ∧ i < n ∧ p i = true ∧ ∀ j, j < i → p j = false) ∨ (z = -1 ∧ ∀ i, i < n → p i = false)
theorem FoundW.geq {n : Nat} {p : Nat → Bool} {z : Int} (h : FoundW n p z) (hz : 0 ≤ z) : ∃ i, i < n ∧ p i = true := by
  rcases h with ⟨i, _, h1, h2, _⟩ | ⟨h1, _⟩
  · exact ⟨i, h1, h2⟩
  · omega
theorem FoundW.lt {n : Nat} {p : Nat → Bool} {z : Int} (h : FoundW n p z) (hz : ¬ 0 ≤ z) : ¬ ∃ i, i < n ∧ p i = true := by
  rcases h with ⟨i, h0, h1, h2, _⟩ | ⟨_, h1⟩
  · subst h0
    exact absurd (Int.natCast_nonneg i) hz
  · rintro ⟨i, hi, h⟩
    rw [h1 i hi] at h
    cases h
theorem idx_ok [LkN] {tbl : Nat → Option FT} (T : LkT tbl) {ws : List Wt} {v f : AV} {p : Nat → Bool} {N d : Nat} (hd : 2 ≤ d) {Z : Fz} {F : List Hl} {H : AH} (hs : Sat H Z (F)) (hv : Fl Z 2 v (wrow ws)) (hN : ws.length < N) (hl : ws.length ≤ 1099511627776) (hf : ∀ i, i < ws.length → ∀ (r : Rp AV), RL r [.int .i64 (wAt ws i).1, .bool (wAt ws i).2] → ∀ (H : AH), Sat H Z F → Ct (RUN tbl N (d - 1)) f [.agg r] H fun v H' => v = .bool (p i) ∧ Sat H' Z F) :
    Ct (RUN tbl N d) (.fn (.fn (.func LkN.idx)) [] []) [v, f] H fun v H' => ∃ z, v = .int .i64 z ∧ FoundW ws.length p z ∧ Sat H' Z F := by
  obtain ⟨d, rfl⟩ : ∃ e, d = e + 1 := ⟨d - 1, by omega⟩
  refine ct_code T.idx (b := b_qidx) (env := [v, f, u_, u_, u_, u_, u_, u_, u_, u_, u_, u_, u_, u_, u_, u_, u_, u_, u_]) ?_
  unfold b_qidx
  refine wp_seq (wp_reg (wo_mv (.int .i64 0) (wo_nil (thn_n (wp_seq ?_)))))
  refine wp_seq (wp_reg (wo_mv v (wo_x (v := (.int .i64 (.ofNat ws.length))) (fl_len hv (wrow_len ws) rfl) (wo_mv (.int .i64 0) (wo_nil ?_)))))
  refine thn_n (wp_block ?_)
  refine wp_loop (fun ms_ env ds H => ∃ (i : Nat), ∃ ys1 : List AV, ms_ = ws.length - i ∧ env = [v, f, u_, u_, (lget ys1 0), (lget ys1 1), v, (.int .i64 (.ofNat ws.length)), (.int .i64 (.ofNat i)), (lget ys1 2), (lget ys1 3), (lget ys1 4), (lget ys1 5), (lget ys1 6), (lget ys1 7), (lget ys1 8), (lget ys1 9), (lget ys1 10), (lget ys1 11)] ∧ ds = [] ∧ Sat H Z (F) ∧ (i ≤ ws.length) ∧ (∀ j, j < i → p j = false)) (ws.length - 0) (by omega) ⟨0, [(.int .i64 0), u_, u_, u_, u_, u_, u_, u_, u_, u_, u_, u_], rfl, rfl, rfl, hs, (by omega), (by intro j hj; omega)⟩ ?_
  rintro ms_ env ds H hms_ ⟨i, ys1, rfl, rfl, rfl, s2, hi, hno⟩
  refine wp_seq (wp_reg ?_)
  by_cases c3 : i < ws.length
  · refine wo_x (v := (.bool true)) (w_bin (cmp_lssT i ws.length (by omega))) (wo_nil (thn_n (wp_seq (wp_condT (wp_skip ?_)))))
    refine thn_n (wp_seq (wp_block (wp_seq (wp_reg (wo_mv (.int .i64 (.ofNat i)) ?_)))))
    refine wo_mv (.int .i64 (.ofNat i)) (wo_nil (thn_n (wp_seq (wp_reg (wo_mv f ?_)))))
    refine wo_mv v (wo_mv (.int .i64 (.ofNat i)) ?_)
    obtain ⟨b4, o5, L6, z7, g8, e9, n10, k11⟩ := fl_ix hv i (wrow_get (show i < ws.length by omega))
    refine wo_x (v := (.ptr b4 o5)) (k11 rfl rfl) ?_
    obtain ⟨r12, q13, k14⟩ := s_zldn s2 z7 o5 2 (hl := e9)
    rw [fl_take g8 n10 e9] at q13
    refine wo_x (v := (.agg r12)) (k14 rfl) ?_
    obtain ⟨_, H15, ⟨rfl, s16⟩, k17⟩ := hf i (by omega) _ q13 _ s2
    refine wo_call k17 (wo_nil (thn_n ?_))
    by_cases c18 : (p i) = true
    · refine wp_condT (hc := (congrArg AV.bool c18)) (wp_seq (wp_reg (wo_mv (.int .i64 (.ofNat i)) (wo_mv (.int .i64 (.ofNat i)) (wo_nil ?_)))))
      refine thn_n (wp_ret (blk_r (thn_r (lpq_r (blk_r ?_)))))
      refine thn_r ?_
      exact fin_1 (.int .i64 (.ofNat i)) ⟨_, rfl, .inl ⟨i, rfl, by omega, c18, hno⟩, s16⟩
    · refine wp_condF (hc := (congrArg AV.bool (Bool.eq_false_iff.2 c18))) (wp_skip (blk_n (thn_n (wp_reg (wo_x (v := (.int .i64 (.ofNat (i + 1)))) (w_bin (add_i64 i 1 (by omega) _ _)) ?_)))))
      refine wo_mv (.int .i64 (.ofNat (i + 1))) (wo_nil ?_)
      refine lpq_n (ws.length - (i + 1)) (by omega) ⟨(i + 1), [(lget ys1 0), (.int .i64 (.ofNat i)), (.bool true), (.int .i64 (.ofNat i)), f, v, (.int .i64 (.ofNat i)), (.ptr b4 o5), (.agg r12), (.bool (p i)), (lget ys1 10), (.int .i64 (.ofNat (i + 1)))], rfl, rfl, rfl, s16, (by omega), (by intro j hj; by_cases e : j = i; (subst e; exact Bool.eq_false_iff.2 c18); exact hno j (by omega))⟩
  · refine wo_x (v := (.bool false)) (w_bin (cmp_lssF i ws.length (by omega))) (wo_nil (thn_n (wp_seq (wp_condF (wp_exit ?_)))))
    refine thn_e (lpq_e (blk_h (thn_n (wp_seq (wp_reg ?_)))))
    refine wo_mv (.int .i64 (-1)) (wo_nil (thn_n (wp_ret ?_)))
    exact fin_1 (.int .i64 (-1)) ⟨_, rfl, .inr ⟨rfl, by intro j hj; exact hno j (by omega)⟩, s2⟩
theorem con_ok [LkN] {tbl : Nat → Option FT} (T : LkT tbl) {ws : List Wt} {v f : AV} {p : Nat → Bool} {N d : Nat} (hd : 3 ≤ d) {Z : Fz} {F : List Hl} {H : AH} (hs : Sat H Z (F)) (hv : Fl Z 2 v (wrow ws)) (hN : ws.length < N) (hl : ws.length ≤ 1099511627776) (hf : ∀ i, i < ws.length → ∀ (r : Rp AV), RL r [.int .i64 (wAt ws i).1, .bool (wAt ws i).2] → ∀ (H : AH), Sat H Z F → Ct (RUN tbl N (d - 2)) f [.agg r] H fun v H' => v = .bool (p i) ∧ Sat H' Z F) :
    Ct (RUN tbl N d) (.fn (.fn (.func LkN.con)) [] []) [v, f] H fun v H' => v = .bool (dB (∃ i, i < ws.length ∧ p i = true)) ∧ Sat H' Z F := by
  obtain ⟨d, rfl⟩ : ∃ e, d = e + 2 := ⟨d - 2, by omega⟩
  refine ct_code T.con (b := b_qcon) (env := [v, f, u_, u_, u_, u_, u_, u_, u_]) ?_
  unfold b_qcon
  refine wp_seq (wp_reg (wo_mv (.bool false) (wo_nil (thn_n (wp_seq ?_)))))
  refine wp_reg (wo_mv v (wo_mv f ?_))
  obtain ⟨_, H3, ⟨z1, rfl, h2, s4⟩, k5⟩ := idx_ok (N := N) (d := d + 1) T (by omega) hs hv hN hl hf
  refine wo_call k5 ?_
  by_cases c6 : 0 ≤ z1
  · refine wo_x (v := (.bool true)) (w_bin (cmp_geqTz z1 0 (by omega))) (wo_mv (.bool true) (wo_nil (thn_n (wp_ret ?_))))
    exact fin_1 (.bool true) ⟨congrArg AV.bool (dB_true (h2.geq c6)).symm, s4⟩
  · refine wo_x (v := (.bool false)) (w_bin (cmp_geqFz z1 0 (by omega))) (wo_mv (.bool false) (wo_nil (thn_n (wp_ret ?_))))
    exact fin_1 (.bool false) ⟨congrArg AV.bool (dB_false (h2.lt c6)).symm, s4⟩
theorem atP_sc (ids : List Nat) (j : Nat) : (atP ids j).sc = true := by unfold atP; split <;> rfl
theorem each_ok [LkN] {tbl : Nat → Option FT} (T : LkT tbl) {t : Nat} {ids : List Nat} {f : AV} {Inv : Nat → AH → Prop} {Stop : AH → Prop} {N d : Nat} (hd : 2 ≤ d) {Z : Fz} {F : List Hl} {H : AH} (hs : Sat H Z (F)) (h0 : Inv 0 H) (hN : ids.length + 2 < N) (hfirst : ∀ H, Inv 0 H → Rd H t 0 (atP ids 0)) (hnext : ∀ j H, j < ids.length → Inv (j + 1) H → Rd H (ids.getD j 0) 3 (atP ids (j + 1))) (hf : ∀ j H, j < ids.length → Inv j H → Ct (RUN tbl N (d - 1)) f [.ptr (ids.getD j 0) 0] H fun v H' => ∃ b, v = .bool b ∧ (b = true → Inv (j + 1) H') ∧ (b = false → Stop H')) :
    Ct (RUN tbl N d) (.fn (.fn (.func LkN.each)) [] []) [(.ptr t 0), f] H fun v H' => v = .tup [] ∧ (Inv ids.length H' ∨ Stop H') := by
  obtain ⟨d, rfl⟩ : ∃ e, d = e + 1 := ⟨d - 1, by omega⟩
  refine ct_code T.each (b := b_qeach) (env := [(.ptr t 0), f, u_, u_, u_, u_, u_, u_, u_, u_, u_, u_, u_, u_, u_, u_, u_, u_, u_, u_, u_, u_]) ?_
  unfold b_qeach
  refine wp_seq (wp_seq (wp_reg (wo_mv (.ptr t 0) (wo_x (v := (.bool false)) (w_lit (fun K => rfl)) (wo_nil ?_)))))
  refine thn_n (wp_condF (wp_skip (thn_n (wp_seq (wp_reg ?_)))))
  refine wo_mv (.ptr t 0) (wo_x (v := (.ptr t 0)) (w_lit (fun K => rfl)) (wo_x (v := (.ptr t 0)) (ca_fla rfl rfl) (wo_x (v := (atP ids 0)) (hfirst _ h0 rfl) (wo_mv (atP ids 0) (wo_nil ?_)))))
  refine thn_n (wp_block ?_)
  refine wp_loop (fun ms_ env ds H => ∃ (j : Nat), ∃ ys : List AV, ms_ = ids.length + 1 - j ∧ env = [(.ptr t 0), f, u_, u_, (atP ids j), (.ptr t 0), (.bool false), (.ptr t 0), (.ptr t 0), (.ptr t 0), (atP ids 0), (lget ys 0), (lget ys 1), (lget ys 2), (lget ys 3), (lget ys 4), (lget ys 5), (lget ys 6), (lget ys 7), (lget ys 8), (lget ys 9), (lget ys 10)] ∧ ds = [] ∧ j ≤ ids.length ∧ Inv j H) (ids.length + 1 - 0) (by omega) ⟨0, [u_, u_, u_, u_, u_, u_, u_, u_, u_, u_, u_], rfl, rfl, rfl, by omega, h0⟩ ?_
  rintro ms_ env ds H hms_ ⟨j, ys, rfl, rfl, rfl, hj0, hI⟩
  by_cases hj : j < ids.length
  · rw [atP_lt hj]
    refine wp_seq (wp_seq (wp_reg (wo_mv (.ptr (ids.getD j 0) 0) (wo_x (v := (.bool true)) (w_lit (fun K => rfl)) (wo_mv (.bool true) ?_)))))
    refine wo_yesT (wo_mv f (wo_yesT (wo_mv (.ptr (ids.getD j 0) 0) (wo_yesT ?_))))
    obtain ⟨_, H3, ⟨b1, rfl, h4, h5⟩, k6⟩ := hf j _ hj hI
    refine wo_call k6 (wo_x (v := (.bool b1)) (w_pickT rfl rfl) (wo_nil (thn_n ?_)))
    by_cases c8 : b1 = true
    · refine wp_condT (hc := (congrArg AV.bool c8)) (wp_skip (thn_n (wp_seq (wp_block (wp_skip ?_)))))
      refine blk_n (thn_n (wp_reg (wo_mv (.ptr (ids.getD j 0) 0) (wo_x (v := (.ptr (ids.getD j 0) 0)) (w_lit (fun K => rfl)) (wo_x (v := (.ptr (ids.getD j 0) 3)) (ca_fla rfl rfl) ?_)))))
      refine wo_x (v := (atP ids (j + 1))) (hnext j _ hj (h4 c8) rfl) (wo_mv (atP ids (j + 1)) (wo_nil ?_))
      refine lpq_n (ids.length + 1 - (j + 1)) (by omega) ⟨j + 1, [(.ptr (ids.getD j 0) 0), (.bool true), (.bool true), f, (.ptr (ids.getD j 0) 0), (.bool b1), (.bool b1), (.ptr (ids.getD j 0) 0), (.ptr (ids.getD j 0) 0), (.ptr (ids.getD j 0) 3), (atP ids (j + 1))], rfl, rfl, rfl, by omega, (h4 c8)⟩
    · refine wp_condF (hc := (congrArg AV.bool (Bool.eq_false_iff.2 c8))) (wp_exit (thn_e (lpq_e (blk_h ?_))))
      exact fin_0  ⟨rfl, .inr (h5 (Bool.eq_false_iff.2 c8))⟩
  · rw [atP_ge hj]
    refine wp_seq (wp_seq (wp_reg (wo_mv .nilp (wo_x (v := (.bool false)) (w_lit (fun K => rfl)) (wo_mv (.bool false) ?_)))))
    refine wo_noF (wo_noF (wo_noF (wo_x (v := (.bool false)) (w_pickF rfl rfl) (wo_nil (thn_n ?_)))))
    refine wp_condF (wp_exit (thn_e (lpq_e (blk_h ?_))))
    exact fin_0  ⟨rfl, .inl (by rw [show ids.length = j by omega]; exact hI)⟩
theorem find1Y_ok [LkN] {tbl : Nat → Option FT} (T : LkT tbl) {b bn bo : Nat} {m n : Int} {x1 x2 x3 : AV} {N d : Nat} (hd : 1 ≤ d) {Z : Fz} {F : List Hl} {H : AH} (hs : Sat H Z ((.cells bn [(.int .i64 n)]) :: (.cells bo [.nilp]) :: F)) (hx : Hl.loc b [.int .i64 m, x1, x2, x3] ∈ F) (he : m = n) :
    Ct (RUN tbl N d) (.fn (.fn (.func LkN.find1)) [] [(.ptr bn 0), (.ptr bo 0)]) [(.ptr b 0)] H fun v H' => v = .bool false ∧ Sat H' Z ((.cells bn [.int .i64 n]) :: (.cells bo [(.ptr b 0)]) :: F) := by
  obtain ⟨d, rfl⟩ : ∃ e, d = e + 1 := ⟨d - 1, by omega⟩
  refine ct_code T.find1 (b := b_qfind1) (env := [(.ptr b 0), (.ptr bn 0), (.ptr bo 0), u_, u_, u_, u_, u_, u_, u_, u_, u_, u_, u_]) ?_
  unfold b_qfind1
  refine wp_seq (wp_reg (wo_mv (.bool false) (wo_nil (thn_n (wp_seq ?_)))))
  refine wp_seq (wp_dreg (wd_run (wo_mv (.ptr b 0) (wo_nil (wd_run ?_)))))
  refine wo_x (v := (.ptr b 0)) (w_lit (fun K => rfl)) (wo_nil (wd_run (wo_x (v := (.ptr b 0)) (ca_fla rfl rfl) (wo_nil (wd_run ?_)))))
  refine wo_x (v := (.int .i64 m)) (o_ldm (v := (.int .i64 m)) hs (.tail _ (.tail _ hx)) rfl) (wo_nil (wd_run (wo_x (v := (.int .i64 n)) (s_ld1 hs 0 rfl) (wo_nil (wd_run ?_)))))
  refine wo_x (v := (.bool true)) (w_bin (cmp_eqlTz m n (by omega))) (wo_nil (wd_nil (ws_nil (thn_n (wp_condT ?_)))))
  refine wp_reg (wo_mv (.ptr b 0) ?_)
  have s1 := hs.pull 1
  obtain ⟨H2, s3, k4⟩ := s_st s1 0 (.ptr b 0) (Nat.le_of_ble_eq_true rfl)
  refine wo_n (k4 rfl rfl) (wo_nil (thn_n (wp_seq (wp_reg (wo_x (v := (.ptr b 0)) (s_ld1 s3 0 rfl) ?_)))))
  refine wo_x (v := (.bool false)) (w_lit (fun K => rfl)) (wo_mv (.bool false) (wo_nil (thn_n (wp_ret ?_))))
  have s5 := s3.pull 1
  exact fin_1 (.bool false) ⟨rfl, s5⟩
theorem find1N_ok [LkN] {tbl : Nat → Option FT} (T : LkT tbl) {b bn bo : Nat} {m n : Int} {x1 x2 x3 : AV} {N d : Nat} (hd : 1 ≤ d) {Z : Fz} {F : List Hl} {H : AH} (hs : Sat H Z ((.cells bn [(.int .i64 n)]) :: (.cells bo [.nilp]) :: F)) (hx : Hl.loc b [.int .i64 m, x1, x2, x3] ∈ F) (he : ¬ m = n) :
    Ct (RUN tbl N d) (.fn (.fn (.func LkN.find1)) [] [(.ptr bn 0), (.ptr bo 0)]) [(.ptr b 0)] H fun v H' => v = .bool true ∧ Sat H' Z ((.cells bn [.int .i64 n]) :: (.cells bo [.nilp]) :: F) := by
  obtain ⟨d, rfl⟩ : ∃ e, d = e + 1 := ⟨d - 1, by omega⟩
  refine ct_code T.find1 (b := b_qfind1) (env := [(.ptr b 0), (.ptr bn 0), (.ptr bo 0), u_, u_, u_, u_, u_, u_, u_, u_, u_, u_, u_]) ?_
  unfold b_qfind1
  refine wp_seq (wp_reg (wo_mv (.bool false) (wo_nil (thn_n (wp_seq ?_)))))
  refine wp_seq (wp_dreg (wd_run (wo_mv (.ptr b 0) (wo_nil (wd_run ?_)))))
  refine wo_x (v := (.ptr b 0)) (w_lit (fun K => rfl)) (wo_nil (wd_run (wo_x (v := (.ptr b 0)) (ca_fla rfl rfl) (wo_nil (wd_run ?_)))))
  refine wo_x (v := (.int .i64 m)) (o_ldm (v := (.int .i64 m)) hs (.tail _ (.tail _ hx)) rfl) (wo_nil (wd_run (wo_x (v := (.int .i64 n)) (s_ld1 hs 0 rfl) (wo_nil (wd_run ?_)))))
  refine wo_x (v := (.bool false)) (w_bin (cmp_eqlFz m n (by omega))) (wo_nil (wd_nil (ws_nil (thn_n (wp_condF ?_)))))
  refine wp_skip (thn_n (wp_seq (wp_reg (wo_x (v := .nilp) (s_ld1 hs 1 rfl) (wo_x (v := (.bool true)) (w_lit (fun K => rfl)) ?_)))))
  refine wo_mv (.bool true) (wo_nil (thn_n (wp_ret ?_)))
  exact fin_1 (.bool true) ⟨rfl, hs⟩
/-- a table of these tasks, somewhere in the heap -/
structure Tbl (t : Nat) (row : List Tk) (F : List Hl) : Prop where
  hd : ∃ c, Hl.cells t [hdQ row .nilp, c] ∈ F
  tk : ∀ i, i < row.length → Hl.loc (tkAt row i).b ((tkAt row i).C (hdQ (row.drop (i + 1)) .nilp)) ∈ F
theorem Tbl.first {t : Nat} {row : List Tk} {F l : List Hl} (h : Tbl t row F) {H : AH} {Z : Fz} (hs : Sat H Z (l ++ F)) : Rd H t 0 (atP (idsOf row) 0) := by
  obtain ⟨c, hc⟩ := h.hd
  rw [atP_row]
  exact hs.rd (List.mem_append_right _ hc) rfl
theorem Tbl.next {t : Nat} {row : List Tk} {F l : List Hl} (h : Tbl t row F) {H : AH} {Z : Fz} (hs : Sat H Z (l ++ F)) {j : Nat} (hj : j < row.length) : Rd H ((idsOf row).getD j 0) 3 (atP (idsOf row) (j + 1)) := by
  rw [atP_row, ids_at hj]
  exact hs.rdo (List.mem_append_right _ (h.tk j hj)) rfl
theorem Tbl.weak {t : Nat} {row : List Tk} {F F' : List Hl} (h : Tbl t row F) (hm : ∀ x ∈ F, x ∈ F') : Tbl t row F' :=
  ⟨let ⟨c, hc⟩ := h.hd; ⟨c, hm _ hc⟩, fun i hi => hm _ (h.tk i hi)⟩
theorem findY_ok [LkN] {tbl : Nat → Option FT} (T : LkT tbl) {t : Nat} {row : List Tk} {n : Int} {i : Nat} {N d : Nat} (hd : 3 ≤ d) {Z : Fz} {F : List Hl} {H : AH} (hs : Sat H Z (F)) (hT : Tbl t row F) (hN : row.length + 2 < N) (hi : i < row.length) (he : (tkAt row i).n = n) (hno : ∀ j, j < i → ¬ (tkAt row j).n = n) :
    Ct (RUN tbl N d) (.fn (.fn (.func LkN.find)) [] []) [(.ptr t 0), (.int .i64 n)] H fun v H' => v = .ptr (tkAt row i).b 0 ∧ Sat H' Z F := by
  obtain ⟨d, rfl⟩ : ∃ e, d = e + 3 := ⟨d - 3, by omega⟩
  refine ct_code T.find (b := b_qfind) (env := [(.ptr t 0), (.int .i64 n), u_, u_, u_, u_, u_, u_, u_, u_]) ?_
  unfold b_qfind
  refine wp_seq (wp_reg ?_)
  obtain ⟨b1, H2, s3, k4⟩ := s_box hs (.int .i64 n)
  refine wo_x (v := (.ptr b1 0)) (k4 rfl) (wo_mv .nilp (wo_nil (thn_n (wp_seq (wp_reg ?_)))))
  obtain ⟨b5, H6, s7, k8⟩ := s_alloc s3 (RL.one .nilp)
  refine wo_x (v := (.ptr b5 0)) (k8) (wo_nil (thn_n (wp_seq (wp_reg (wo_mv (.ptr t 0) ?_)))))
  refine wo_x (v := (.fn (.fn (.func LkN.find1)) [] [(.ptr b1 0), (.ptr b5 0)])) (w_lit (fun K => rfl)) ?_
  have s9 := s7.pull 1
  obtain ⟨_, H11, ⟨rfl, h12⟩, k13⟩ := each_ok T (N := N) (d := d + 2) (ids := idsOf row) (Inv := fun j H => j ≤ i ∧ Sat H Z ((.cells b1 [.int .i64 n]) :: (.cells b5 [.nilp]) :: F)) (Stop := fun H => Sat H Z ((.cells b1 [.int .i64 n]) :: (.cells b5 [.ptr (tkAt row i).b 0]) :: F)) (by omega) s9 ⟨Nat.zero_le _, s9⟩ (by rw [ids_len]; exact hN) (fun H h => hT.first (l := [_, _]) h.2) (fun j H hj h => by rw [ids_len] at hj; exact hT.next (l := [_, _]) h.2 hj) (fun j H hj h => by
    rw [ids_len] at hj
    rw [ids_at hj]
    by_cases e : j = i
    · subst e
      exact (find1Y_ok T (by omega) h.2 (hT.tk j hj) he).imp fun v H' ⟨ev, s⟩ => ⟨false, ev, (fun h => by cases h), fun _ => s⟩
    · exact (find1N_ok T (by omega) h.2 (hT.tk j hj) (hno j (by omega))).imp fun v H' ⟨ev, s⟩ => ⟨true, ev, fun _ => ⟨by omega, s⟩, fun h => by cases h⟩)
  replace h12 := h12.resolve_left (fun h => by rw [ids_len] at h; omega)
  refine wo_call k13 (wo_nil (thn_n (wp_seq (wp_reg (wo_x (v := (.ptr ((tkAt row i).b) 0)) (s_ld1 h12 1 rfl) ?_)))))
  refine wo_mv (.ptr ((tkAt row i).b) 0) (wo_nil (thn_n (wp_ret ?_)))
  have s14 := h12.drop 0
  have s15 := s14.drop 0
  exact fin_1 (.ptr ((tkAt row i).b) 0) ⟨rfl, s15⟩
theorem findN_ok [LkN] {tbl : Nat → Option FT} (T : LkT tbl) {t : Nat} {row : List Tk} {n : Int} {N d : Nat} (hd : 3 ≤ d) {Z : Fz} {F : List Hl} {H : AH} (hs : Sat H Z (F)) (hT : Tbl t row F) (hN : row.length + 2 < N) (hno : ∀ j, j < row.length → ¬ (tkAt row j).n = n) :
    Ct (RUN tbl N d) (.fn (.fn (.func LkN.find)) [] []) [(.ptr t 0), (.int .i64 n)] H fun v H' => v = .nilp ∧ Sat H' Z F := by
  obtain ⟨d, rfl⟩ : ∃ e, d = e + 3 := ⟨d - 3, by omega⟩
  refine ct_code T.find (b := b_qfind) (env := [(.ptr t 0), (.int .i64 n), u_, u_, u_, u_, u_, u_, u_, u_]) ?_
  unfold b_qfind
  refine wp_seq (wp_reg ?_)
  obtain ⟨b1, H2, s3, k4⟩ := s_box hs (.int .i64 n)
  refine wo_x (v := (.ptr b1 0)) (k4 rfl) (wo_mv .nilp (wo_nil (thn_n (wp_seq (wp_reg ?_)))))
  obtain ⟨b5, H6, s7, k8⟩ := s_alloc s3 (RL.one .nilp)
  refine wo_x (v := (.ptr b5 0)) (k8) (wo_nil (thn_n (wp_seq (wp_reg (wo_mv (.ptr t 0) ?_)))))
  refine wo_x (v := (.fn (.fn (.func LkN.find1)) [] [(.ptr b1 0), (.ptr b5 0)])) (w_lit (fun K => rfl)) ?_
  have s9 := s7.pull 1
  obtain ⟨_, H11, ⟨rfl, h12⟩, k13⟩ := each_ok T (N := N) (d := d + 2) (ids := idsOf row) (Inv := fun j H => Sat H Z ((.cells b1 [.int .i64 n]) :: (.cells b5 [.nilp]) :: F)) (Stop := fun _ => False) (by omega) s9 s9 (by rw [ids_len]; exact hN) (fun H h => hT.first (l := [_, _]) h) (fun j H hj h => by rw [ids_len] at hj; exact hT.next (l := [_, _]) h hj) (fun j H hj h => by
    rw [ids_len] at hj
    rw [ids_at hj]
    exact (find1N_ok T (by omega) h (hT.tk j hj) (hno j hj)).imp fun v H' ⟨ev, s⟩ => ⟨true, ev, fun _ => s, fun h => by cases h⟩)
  replace h12 := h12.resolve_right (fun h => h)
  refine wo_call k13 (wo_nil (thn_n (wp_seq (wp_reg (wo_x (v := .nilp) (s_ld1 h12 1 rfl) ?_)))))
  refine wo_mv .nilp (wo_nil (thn_n (wp_ret ?_)))
  have s14 := h12.drop 0
  have s15 := s14.drop 0
  exact fin_1 .nilp ⟨rfl, s15⟩
theorem hasY_ok [LkN] {tbl : Nat → Option FT} (T : LkT tbl) {t : Nat} {row : List Tk} {n : Int} {i : Nat} {N d : Nat} (hd : 4 ≤ d) {Z : Fz} {F : List Hl} {H : AH} (hs : Sat H Z (F)) (hT : Tbl t row F) (hN : row.length + 2 < N) (hi : i < row.length) (he : (tkAt row i).n = n) (hno : ∀ j, j < i → ¬ (tkAt row j).n = n) :
    Ct (RUN tbl N d) (.fn (.fn (.func LkN.has)) [] []) [(.ptr t 0), (.int .i64 n)] H fun v H' => v = .bool (tkAt row i).has ∧ Sat H' Z F := by
  obtain ⟨d, rfl⟩ : ∃ e, d = e + 4 := ⟨d - 4, by omega⟩
  refine ct_code T.has (b := b_qhas) (env := [(.ptr t 0), (.int .i64 n), u_, u_, u_, u_, u_, u_, u_, u_, u_, u_, u_, u_, u_, u_, u_]) ?_
  unfold b_qhas
  refine wp_seq (wp_reg (wo_mv (.bool false) (wo_nil (thn_n (wp_seq ?_)))))
  refine wp_reg (wo_mv (.ptr t 0) (wo_mv (.int .i64 n) ?_))
  obtain ⟨_, H1, ⟨rfl, s2⟩, k3⟩ := findY_ok (N := N) (d := d + 3) T (by omega) hs hT hN hi he hno
  refine wo_call k3 (wo_mv (.ptr ((tkAt row i).b) 0) (wo_nil (thn_n (wp_seq (wp_reg ?_)))))
  refine wo_mv (.ptr ((tkAt row i).b) 0) (wo_x (v := (.bool true)) (w_lit (fun K => rfl)) (wo_mv (.bool true) (wo_yesT (wo_mv (.ptr ((tkAt row i).b) 0) (wo_yesT ?_)))))
  refine wo_x (v := (.ptr ((tkAt row i).b) 0)) (w_lit (fun K => rfl)) (wo_yesT (wo_x (v := (.ptr ((tkAt row i).b) 2)) (ca_fla rfl rfl) (wo_yesT (wo_x (v := (.bool ((tkAt row i).has))) (o_ldm (v := (.bool ((tkAt row i).has))) s2 (hT.tk i hi) rfl) (wo_x (v := (.bool ((tkAt row i).has))) (w_pickT rfl rfl) ?_)))))
  refine wo_mv (.bool ((tkAt row i).has)) (wo_nil (thn_n (wp_ret ?_)))
  exact fin_1 (.bool ((tkAt row i).has)) ⟨rfl, s2⟩
theorem hasN_ok [LkN] {tbl : Nat → Option FT} (T : LkT tbl) {t : Nat} {row : List Tk} {n : Int} {N d : Nat} (hd : 4 ≤ d) {Z : Fz} {F : List Hl} {H : AH} (hs : Sat H Z (F)) (hT : Tbl t row F) (hN : row.length + 2 < N) (hno : ∀ j, j < row.length → ¬ (tkAt row j).n = n) :
    Ct (RUN tbl N d) (.fn (.fn (.func LkN.has)) [] []) [(.ptr t 0), (.int .i64 n)] H fun v H' => v = .bool false ∧ Sat H' Z F := by
  obtain ⟨d, rfl⟩ : ∃ e, d = e + 4 := ⟨d - 4, by omega⟩
  refine ct_code T.has (b := b_qhas) (env := [(.ptr t 0), (.int .i64 n), u_, u_, u_, u_, u_, u_, u_, u_, u_, u_, u_, u_, u_, u_, u_]) ?_
  unfold b_qhas
  refine wp_seq (wp_reg (wo_mv (.bool false) (wo_nil (thn_n (wp_seq ?_)))))
  refine wp_reg (wo_mv (.ptr t 0) (wo_mv (.int .i64 n) ?_))
  obtain ⟨_, H1, ⟨rfl, s2⟩, k3⟩ := findN_ok (N := N) (d := d + 3) T (by omega) hs hT hN hno
  refine wo_call k3 (wo_mv .nilp (wo_nil (thn_n (wp_seq (wp_reg ?_)))))
  refine wo_mv .nilp (wo_x (v := (.bool false)) (w_lit (fun K => rfl)) (wo_mv (.bool false) (wo_noF (wo_noF (wo_noF ?_)))))
  refine wo_noF (wo_x (v := (.bool false)) (w_pickF rfl rfl) (wo_mv (.bool false) (wo_nil (thn_n (wp_ret ?_)))))
  exact fin_1 (.bool false) ⟨rfl, s2⟩
/-- does a want of 'a' clash with one of 'b'? -/
def CW (a b : List Wt) (q : Nat) : Prop := ∃ j, j < b.length ∧ clw (wAt a q) (wAt b j) = true
def CC (a b : List Wt) : Prop := ∃ q, q < a.length ∧ CW a b q
theorem cc_iff {a b : List Wt} : CC a b ↔ Cls a b := by
  constructor
  · rintro ⟨q, hq, j, hj, h⟩
    exact ⟨_, wAt_mem hq, _, wAt_mem hj, h⟩
  · rintro ⟨w, hw, x, hx, h⟩
    obtain ⟨q, hq, rfl⟩ := mem_wAt hw
    obtain ⟨j, hj, rfl⟩ := mem_wAt hx
    exact ⟨q, hq, j, hj, h⟩
theorem ok_eq {o : Bool} {n : Nat} {p : Nat → Prop} (h1 : o = true → ∀ q, q < n → ¬ p q) (h2 : o = false → ∃ q, q < n ∧ p q) : o = dB (¬ ∃ q, q < n ∧ p q) := by
  cases o with
  | true => exact (dB_true fun ⟨q, hq, h⟩ => h1 rfl q hq h).symm
  | false => exact (dB_false fun h => h (h2 rfl)).symm
theorem may1E_ok [LkN] {tbl : Nat → Option FT} (T : LkT tbl) {xb bx bo : Nat} {o : AV} {N d : Nat} (hd : 1 ≤ d) {Z : Fz} {F : List Hl} {H : AH} (hs : Sat H Z ((.cells bx [(.ptr xb 0)]) :: (.cells bo [o]) :: F))  :
    Ct (RUN tbl N d) (.fn (.fn (.func LkN.may1)) [] [(.ptr bx 0), (.ptr bo 0)]) [(.ptr xb 0)] H fun v H' => v = .bool false ∧ Sat H' Z ((.cells bx [.ptr xb 0]) :: (.cells bo [o]) :: F) := by
  obtain ⟨d, rfl⟩ : ∃ e, d = e + 1 := ⟨d - 1, by omega⟩
  refine ct_code T.may1 (b := b_qmay1) (env := [(.ptr xb 0), (.ptr bx 0), (.ptr bo 0), u_, u_, u_, u_, u_, u_, u_, u_, u_, u_, u_, u_, u_, u_, u_, u_, u_, u_, u_, u_, u_, u_, u_, u_, u_, u_, u_, u_, u_]) ?_
  unfold b_qmay1
  refine wp_seq (wp_reg (wo_mv (.bool false) (wo_nil (thn_n (wp_seq ?_)))))
  refine wp_seq (wp_reg (wo_x (v := (.ptr xb 0)) (s_ld1 hs 0 rfl) (wo_mv (.ptr xb 0) (wo_x (v := (.bool true)) (w_bin ptr_eqlT) (wo_nil ?_)))))
  refine thn_n (wp_condT (wp_seq (wp_reg (wo_mv (.bool false) (wo_nil ?_)))))
  refine thn_n (wp_ret (thn_r ?_))
  exact fin_1 (.bool false) ⟨rfl, hs⟩
theorem may1_ok [LkN] {tbl : Nat → Option FT} (T : LkT tbl) {xb yb bx bo : Nat} {x0 y0 : Int} {vx vy x2 x3 y2 y3 : AV} {wx wy : List Wt} {N d : Nat} (hd : 4 ≤ d) {Z : Fz} {F : List Hl} {H : AH} (hs : Sat H Z ((.cells bx [(.ptr xb 0)]) :: (.cells bo [(.bool true)]) :: F)) (hx : Hl.loc xb [.int .i64 x0, vx, x2, x3] ∈ F) (hy : Hl.loc yb [.int .i64 y0, vy, y2, y3] ∈ F) (hne : ¬ xb = yb) (hvx : Fl Z 2 vx (wrow wx)) (hvy : Fl Z 2 vy (wrow wy)) (hlx : wx.length ≤ 1000) (hly : wy.length ≤ 1000) (hN : 1000 < N) :
    Ct (RUN tbl N d) (.fn (.fn (.func LkN.may1)) [] [(.ptr bx 0), (.ptr bo 0)]) [(.ptr yb 0)] H fun v H' => v = .bool (dB (¬ CC wy wx)) ∧ Sat H' Z ((.cells bx [.ptr xb 0]) :: (.cells bo [.bool (dB (¬ CC wy wx))]) :: F) := by
  obtain ⟨d, rfl⟩ : ∃ e, d = e + 4 := ⟨d - 4, by omega⟩
  refine ct_code T.may1 (b := b_qmay1) (env := [(.ptr yb 0), (.ptr bx 0), (.ptr bo 0), u_, u_, u_, u_, u_, u_, u_, u_, u_, u_, u_, u_, u_, u_, u_, u_, u_, u_, u_, u_, u_, u_, u_, u_, u_, u_, u_, u_, u_]) ?_
  unfold b_qmay1
  refine wp_seq (wp_reg (wo_mv (.bool false) (wo_nil (thn_n (wp_seq ?_)))))
  refine wp_seq (wp_reg (wo_x (v := (.ptr xb 0)) (s_ld1 hs 0 rfl) (wo_mv (.ptr yb 0) (wo_x (v := (.bool false)) (w_bin (ptr_eqlF (hs.ns (.tail _ (.tail _ hx))) (hs.ns (.tail _ (.tail _ hy))) hne)) (wo_nil ?_)))))
  refine thn_n (wp_condF (wp_skip (thn_n (wp_seq (wp_seq ?_)))))
  refine wp_reg (wo_mv (.ptr yb 0) (wo_x (v := (.ptr yb 0)) (w_lit (fun K => rfl)) (wo_x (v := (.ptr yb 1)) (ca_fla rfl rfl) (wo_x (v := vy) (o_ldm (v := vy) hs (.tail _ (.tail _ hy)) rfl) (wo_x (v := (.int .i64 (.ofNat wy.length))) (fl_len hvy (wrow_len wy) rfl) ?_)))))
  refine wo_mv (.int .i64 0) (wo_nil (thn_n (wp_block ?_)))
  refine wp_loop (fun ms_ env ds H => ∃ (i : Nat) (o : Bool), ∃ ys1 : List AV, ms_ = wy.length - i ∧ env = [(.ptr yb 0), (.ptr bx 0), (.ptr bo 0), u_, (.bool false), u_, (lget ys1 0), (.ptr xb 0), (.ptr yb 0), (.bool false), (.ptr yb 0), (.ptr yb 0), (.ptr yb 1), vy, (.int .i64 (.ofNat wy.length)), (.int .i64 (.ofNat i)), (lget ys1 1), (lget ys1 2), (lget ys1 3), (lget ys1 4), (lget ys1 5), (lget ys1 6), (lget ys1 7), (lget ys1 8), (lget ys1 9), (lget ys1 10), (lget ys1 11), (lget ys1 12), (lget ys1 13), (lget ys1 14), (lget ys1 15), u_] ∧ ds = [] ∧ Sat H Z ((.cells bx [(.ptr xb 0)]) :: (.cells bo [(.bool o)]) :: F) ∧ (i ≤ wy.length) ∧ (o = true → ∀ q, q < i → ¬ CW wy wx q) ∧ (o = false → ∃ q, q < wy.length ∧ CW wy wx q)) (wy.length - 0) (by omega) ⟨0, true, [u_, u_, u_, u_, u_, u_, u_, u_, u_, u_, u_, u_, u_, u_, u_, u_], rfl, rfl, rfl, hs, (by omega), (fun _ q hq => by omega), (fun h => by cases h)⟩ ?_
  rintro ms_ env ds H hms_ ⟨i, o, ys1, rfl, rfl, rfl, s2, hi, ho, hno⟩
  refine wp_seq (wp_reg ?_)
  by_cases c3 : i < wy.length
  · refine wo_x (v := (.bool true)) (w_bin (cmp_lssT i wy.length (by omega))) (wo_nil (thn_n (wp_seq (wp_condT (wp_skip ?_)))))
    refine thn_n (wp_seq (wp_block (wp_seq (wp_reg ?_))))
    obtain ⟨b4, o5, L6, z7, g8, e9, n10, k11⟩ := fl_ix hvy i (wrow_get (show i < wy.length by omega))
    refine wo_x (v := (.ptr b4 o5)) (k11 rfl rfl) ?_
    obtain ⟨r12, q13, k14⟩ := s_zldn s2 z7 o5 2 (hl := e9)
    rw [fl_take g8 n10 e9] at q13
    refine wo_x (v := (.agg r12)) (k14 rfl) ?_
    obtain ⟨b15, H16, s17, k18⟩ := s_alloc s2 (RL.cat (RL.one (.int .i64 0)) (RL.one (.bool false)) rfl)
    refine wo_x (v := (.ptr b15 0)) (k18) ?_
    obtain ⟨H19, s20, k21⟩ := s_stn s17 q13 0 2 rfl (Nat.le_of_ble_eq_true rfl)
    refine wo_n (k21 rfl rfl) (wo_nil (thn_n (wp_dreg (wd_run (wo_x (v := (.bool o)) (s_ld1 s20 2 rfl) ?_)))))
    refine wo_nil (wd_run (wo_mv (.bool o) (wo_nil (wd_run ?_))))
    by_cases c22 : o = true
    · refine wo_yesT (ht := (congrArg AV.bool c22)) (wo_x (v := (.ptr xb 0)) (s_ld1 s20 1 rfl) (wo_nil (wd_run (wo_yesT (ht := (congrArg AV.bool c22)) (wo_x (v := (.ptr xb 0)) (w_lit (fun K => rfl)) ?_)))))
      refine wo_nil (wd_run (wo_yesT (ht := (congrArg AV.bool c22)) (wo_x (v := (.ptr xb 1)) (ca_fla rfl rfl) (wo_nil (wd_run ?_)))))
      refine wo_yesT (ht := (congrArg AV.bool c22)) (wo_x (v := vx) (o_ldm (v := vx) s20 (.tail _ (.tail _ (.tail _ hx))) rfl) (wo_nil (wd_run (wo_yesT (ht := (congrArg AV.bool c22)) ?_))))
      obtain ⟨r23, q24, k25⟩ := s_ldn s20 0 0 2 
      refine wo_x (v := (.agg r23)) (k25 rfl) (wo_nil (wd_run (wo_yesT (ht := (congrArg AV.bool c22)) (wo_x (v := (.fn (.fn (.func LkN.clash)) [(.agg r23)] [])) (w_lit (fun K => rfl)) (wo_nil ?_)))))
      refine wd_nil (ws_cons (wo_yesT (ht := (congrArg AV.bool c22)) ?_))
      obtain ⟨_, H26, ⟨rfl, s27⟩, k28⟩ := con_ok (N := N) (d := d + 3) T (p := fun j => clw (wAt wy i) (wAt wx j)) (by omega) s20 hvx (by omega) (by omega) (fun j hj r hr H hs => clash_ok T (by omega) hs q24 hr)
      refine wo_call k28 (wo_nil (wd_run ?_))
      by_cases c29 : (dB (CW wy wx i)) = true
      · refine wo_yesT (ht := (congrArg AV.bool c22)) (wo_x (v := (.bool false)) (w_notT (congrArg AV.bool c29)) (wo_nil (wd_run (wo_x (v := (.bool false)) (w_pickT (congrArg AV.bool c22) rfl) (wo_nil ?_)))))
        refine wd_nil (ws_cons ?_)
        have s30 := s27.pull 2
        obtain ⟨H31, s32, k33⟩ := s_st s30 0 (.bool false) (Nat.le_of_ble_eq_true rfl)
        refine wo_n (k33 rfl rfl) (wo_nil (wd_nil (ws_nil (blk_n (thn_n ?_)))))
        refine wp_reg (wo_x (v := (.int .i64 (.ofNat (i + 1)))) (w_bin (add_i64 i 1 (by omega) _ _)) (wo_mv (.int .i64 (.ofNat (i + 1))) (wo_nil ?_)))
        have s34 := s32.drop 1
        have s35 := s34.pull 1
        refine lpq_n (wy.length - (i + 1)) (by omega) ⟨(i + 1), false, [(.ptr b15 0), (.bool true), (.ptr b4 o5), (.agg r12), (.bool o), (.bool o), (.ptr xb 0), (.ptr xb 0), (.ptr xb 1), vx, (.agg r23), (.fn (.fn (.func LkN.clash)) [(.agg r23)] []), (.bool (dB (CW wy wx i))), (.bool false), (.bool false), (.int .i64 (.ofNat (i + 1)))], rfl, rfl, rfl, s35, (by omega), (fun h => by cases h), (fun _ => ⟨i, by omega, dB_iff.1 c29⟩)⟩
      · refine wo_yesT (ht := (congrArg AV.bool c22)) (wo_x (v := (.bool true)) (w_notF (congrArg AV.bool (Bool.eq_false_iff.2 c29))) (wo_nil (wd_run (wo_x (v := (.bool true)) (w_pickT (congrArg AV.bool c22) rfl) (wo_nil ?_)))))
        refine wd_nil (ws_cons ?_)
        have s36 := s27.pull 2
        obtain ⟨H37, s38, k39⟩ := s_st s36 0 (.bool true) (Nat.le_of_ble_eq_true rfl)
        refine wo_n (k39 rfl rfl) (wo_nil (wd_nil (ws_nil (blk_n (thn_n ?_)))))
        refine wp_reg (wo_x (v := (.int .i64 (.ofNat (i + 1)))) (w_bin (add_i64 i 1 (by omega) _ _)) (wo_mv (.int .i64 (.ofNat (i + 1))) (wo_nil ?_)))
        have s40 := s38.drop 1
        have s41 := s40.pull 1
        refine lpq_n (wy.length - (i + 1)) (by omega) ⟨(i + 1), true, [(.ptr b15 0), (.bool true), (.ptr b4 o5), (.agg r12), (.bool o), (.bool o), (.ptr xb 0), (.ptr xb 0), (.ptr xb 1), vx, (.agg r23), (.fn (.fn (.func LkN.clash)) [(.agg r23)] []), (.bool (dB (CW wy wx i))), (.bool true), (.bool true), (.int .i64 (.ofNat (i + 1)))], rfl, rfl, rfl, s41, (by omega), (fun _ q hq h => by by_cases e : q = i; (subst e; exact c29 (dB_true h)); exact ho c22 q (by omega) h), (fun h => by cases h)⟩
    · refine wo_noF (ht := (congrArg AV.bool (Bool.eq_false_iff.2 c22))) (wo_nil (wd_run (wo_noF (ht := (congrArg AV.bool (Bool.eq_false_iff.2 c22))) (wo_nil (wd_run ?_)))))
      refine wo_noF (ht := (congrArg AV.bool (Bool.eq_false_iff.2 c22))) (wo_nil (wd_run (wo_noF (ht := (congrArg AV.bool (Bool.eq_false_iff.2 c22))) (wo_nil (wd_run ?_)))))
      refine wo_noF (ht := (congrArg AV.bool (Bool.eq_false_iff.2 c22))) (wo_nil (wd_run (wo_noF (ht := (congrArg AV.bool (Bool.eq_false_iff.2 c22))) (wo_nil (wd_nil ?_)))))
      refine ws_cons (wo_noF (ht := (congrArg AV.bool (Bool.eq_false_iff.2 c22))) (wo_nil (wd_run (wo_noF (ht := (congrArg AV.bool (Bool.eq_false_iff.2 c22))) (wo_nil ?_)))))
      refine wd_run (wo_x (v := (.bool false)) (w_pickF (congrArg AV.bool (Bool.eq_false_iff.2 c22)) rfl) (wo_nil (wd_nil (ws_cons ?_))))
      have s42 := s20.pull 2
      obtain ⟨H43, s44, k45⟩ := s_st s42 0 (.bool false) (Nat.le_of_ble_eq_true rfl)
      refine wo_n (k45 rfl rfl) (wo_nil (wd_nil (ws_nil (blk_n (thn_n ?_)))))
      refine wp_reg (wo_x (v := (.int .i64 (.ofNat (i + 1)))) (w_bin (add_i64 i 1 (by omega) _ _)) (wo_mv (.int .i64 (.ofNat (i + 1))) (wo_nil ?_)))
      have s46 := s44.drop 1
      have s47 := s46.pull 1
      refine lpq_n (wy.length - (i + 1)) (by omega) ⟨(i + 1), false, [(.ptr b15 0), (.bool true), (.ptr b4 o5), (.agg r12), (.bool o), (.bool o), u_, u_, u_, u_, u_, u_, u_, u_, (.bool false), (.int .i64 (.ofNat (i + 1)))], rfl, rfl, rfl, s47, (by omega), (fun h => by cases h), (fun _ => hno (Bool.eq_false_iff.2 c22))⟩
  · refine wo_x (v := (.bool false)) (w_bin (cmp_lssF i wy.length (by omega))) (wo_nil (thn_n (wp_seq (wp_condF (wp_exit ?_)))))
    refine thn_e (lpq_e (blk_h (thn_n (wp_seq (wp_reg ?_)))))
    refine wo_x (v := (.bool o)) (s_ld1 s2 1 rfl) (wo_mv (.bool o) (wo_nil (thn_n (wp_ret ?_))))
    have e48 : o = dB (¬ CC wy wx) := ok_eq (fun h q hq => ho h q (by omega)) hno
    exact fin_1 (.bool o) ⟨congrArg AV.bool e48, by rw [← e48]; exact s2⟩
/-- nobody ahead clashes -/
def FreeT (row : List Tk) (i : Nat) : Prop := ∀ j, j < i → ¬ CC (tkAt row j).ws (tkAt row i).ws
/-- a table's tasks: their wants, and that no two blocks are one -/
structure Tks (Z : Fz) (row : List Tk) : Prop where
  fl : ∀ i, i < row.length → Fl Z 2 (tkAt row i).v (wrow (tkAt row i).ws)
  le : ∀ i, i < row.length → (tkAt row i).ws.length ≤ 1000
  ne : ∀ i j, i < row.length → j < row.length → i ≠ j → ¬ (tkAt row i).b = (tkAt row j).b
theorem lmay_ok [LkN] {tbl : Nat → Option FT} (T : LkT tbl) {t i : Nat} {row : List Tk} {N d : Nat} (hd : 6 ≤ d) {Z : Fz} {F : List Hl} {H : AH} (hs : Sat H Z (F)) (hT : Tbl t row F) (hW : Tks Z row) (hi : i < row.length) (hN : row.length + 2 < N) (hN2 : 1000 < N) :
    Ct (RUN tbl N d) (.fn (.fn (.func LkN.may)) [] []) [(.ptr t 0), (.ptr ((tkAt row i).b) 0)] H fun v H' => v = .bool (dB (FreeT row i)) ∧ Sat H' Z F := by
  obtain ⟨d, rfl⟩ : ∃ e, d = e + 6 := ⟨d - 6, by omega⟩
  refine ct_code T.may (b := b_qmay) (env := [(.ptr t 0), (.ptr ((tkAt row i).b) 0), u_, u_, u_, u_, u_, u_, u_, u_]) ?_
  unfold b_qmay
  refine wp_seq (wp_reg ?_)
  obtain ⟨b1, H2, s3, k4⟩ := s_box hs (.ptr ((tkAt row i).b) 0)
  refine wo_x (v := (.ptr b1 0)) (k4 rfl) (wo_mv (.bool false) (wo_nil (thn_n (wp_seq (wp_reg ?_)))))
  obtain ⟨b5, H6, s7, k8⟩ := s_alloc s3 (RL.one (.bool false))
  refine wo_x (v := (.ptr b5 0)) (k8) ?_
  obtain ⟨H9, s10, k11⟩ := s_st s7 0 (.bool true) (Nat.le_of_ble_eq_true rfl)
  refine wo_n (k11 rfl rfl) (wo_nil (thn_n (wp_seq (wp_reg (wo_mv (.ptr t 0) ?_)))))
  refine wo_x (v := (.fn (.fn (.func LkN.may1)) [] [(.ptr b1 0), (.ptr b5 0)])) (w_lit (fun K => rfl)) ?_
  have s12 := s10.pull 1
  obtain ⟨_, H13, ⟨rfl, h14⟩, k15⟩ := each_ok T (N := N) (d := d + 5) (ids := idsOf row) (Inv := fun j H => j ≤ i ∧ (∀ q, q < j → ¬ CC (tkAt row q).ws (tkAt row i).ws) ∧ Sat H Z ((.cells b1 [.ptr (tkAt row i).b 0]) :: (.cells b5 [.bool true]) :: F)) (Stop := fun H => Sat H Z ((.cells b1 [.ptr (tkAt row i).b 0]) :: (.cells b5 [.bool (dB (FreeT row i))]) :: F)) (by omega) s12 ⟨Nat.zero_le _, fun q hq => by omega, s12⟩ (by rw [ids_len]; omega) (fun H h => hT.first (l := [_, _]) h.2.2) (fun j H hj h => by rw [ids_len] at hj; exact hT.next (l := [_, _]) h.2.2 hj) (fun j H hj h => by
    rw [ids_len] at hj
    rw [ids_at hj]
    by_cases e : j = i
    · subst e
      refine (may1E_ok T (by omega) h.2.2).imp fun v H' ⟨ev, s⟩ => ⟨false, ev, (fun h => by cases h), fun _ => ?_⟩
      rw [dB_true (show FreeT row j from h.2.1)]
      exact s
    · refine (may1_ok T (by omega) h.2.2 (hT.tk i hi) (hT.tk j hj) (hW.ne i j hi hj (fun h => e h.symm)) (hW.fl i hi) (hW.fl j hj) (hW.le i hi) (hW.le j hj) (by omega)).imp fun v H' ⟨ev, s⟩ => ⟨_, ev, fun h1 => ⟨by omega, fun q hq => ?_, ?_⟩, fun h1 => ?_⟩
      · by_cases e2 : q = j
        · subst e2; exact dB_iff.1 h1
        · exact h.2.1 q (by omega)
      · rw [h1] at s; exact s
      · rw [h1] at s; rw [dB_false (show ¬ FreeT row i from fun hf => dB_not.1 h1 (hf j (by omega)))]; exact s)
  have s17 : Sat H13 Z ((.cells b1 [.ptr (tkAt row i).b 0]) :: (.cells b5 [.bool (dB (FreeT row i))]) :: F) := by
    rcases h14 with h1 | h1
    · rw [ids_len] at h1; rw [dB_true (show FreeT row i from fun q hq => h1.2.1 q (by omega))]; exact h1.2.2
    · exact h1
  refine wo_call k15 (wo_nil (thn_n (wp_seq (wp_reg (wo_x (v := (.bool (dB (FreeT row i)))) (s_ld1 s17 1 rfl) ?_)))))
  refine wo_mv (.bool (dB (FreeT row i))) (wo_nil (thn_n (wp_ret ?_)))
  have s19 := s17.drop 0
  have s20 := s19.drop 0
  exact fin_1 (.bool (dB (FreeT row i))) ⟨rfl, s20⟩
theorem txI_len (l : List Tk) : (l.map fun x => AV.int .i64 x.n).length = l.length * 1 := by simp
theorem txI_take {l : List Tk} {j : Nat} (h : j < l.length) : (l.take (j + 1)).map (fun x => AV.int .i64 x.n) = (l.take j).map (fun x => AV.int .i64 x.n) ++ [.int .i64 (tkAt l j).n] := by
  rw [List.take_succ, tkAt_get h]
  simp
theorem row1_ok [LkN] {tbl : Nat → Option FT} (T : LkT tbl) {b bo k : Nat} {m : Int} {wv x1 x2 x3 : AV} {L : List AV} {lw : List Hl} {N d : Nat} (hd : 1 ≤ d) {Z : Fz} {F : List Hl} {H : AH} (hs : Sat H Z ((.cells bo [wv]) :: (lw ++ F))) (hw : Own 1 wv k L lw) (hx : Hl.loc b [.int .i64 m, x1, x2, x3] ∈ F) (hk : k ≤ 1000000) :
    Ct (RUN tbl N d) (.fn (.fn (.func LkN.row1)) [] [(.ptr bo 0)]) [(.ptr b 0)] H fun v H' => ∃ wv' lw', v = .bool true ∧ Own 1 wv' (k + 1) (L ++ [.int .i64 m]) lw' ∧ Sat H' Z ((.cells bo [wv']) :: (lw' ++ F)) := by
  obtain ⟨d, rfl⟩ : ∃ e, d = e + 1 := ⟨d - 1, by omega⟩
  refine ct_code T.row1 (b := b_qrow1) (env := [(.ptr b 0), (.ptr bo 0), u_, u_, u_, u_, u_, u_, u_, u_, u_]) ?_
  unfold b_qrow1
  refine wp_seq (wp_reg (wo_mv (.bool false) (wo_nil (thn_n (wp_seq ?_)))))
  refine wp_dreg (wd_run (wo_x (v := wv) (s_ld1 hs 0 rfl) (wo_nil (wd_run (wo_mv (.ptr b 0) ?_)))))
  refine wo_nil (wd_run (wo_x (v := (.ptr b 0)) (w_lit (fun K => rfl)) (wo_nil (wd_run (wo_x (v := (.ptr b 0)) (ca_fla rfl rfl) ?_)))))
  refine wo_nil (wd_run (wo_x (v := (.int .i64 m)) (o_ldm (v := (.int .i64 m)) hs (.tail _ (List.mem_append_right _ hx)) rfl) (wo_nil (wd_run ?_))))
  obtain ⟨b1, H2, s3, k4⟩ := s_bsl hs ((RL.rep 1 (.int .i64 0)).set 0 (.int .i64 m))
  refine wo_x (v := (.slc b1 0 1 1)) (k4 (fill_s (v := (.int .i64 m)) rfl rfl rfl fill_nil)) (wo_nil (wd_nil (ws_cons ?_)))
  have c5 := src_sl (es := 1) s3 0 (.slc b1 0 1 1 1) (Nat.le_of_ble_eq_true rfl)
  have r6 := Sat.rot (l₁ := [.cells b1 [(.int .i64 m)], .cells bo [wv]]) (hl := lw) s3
  obtain ⟨v7, l8, H9, h10, s11, k12⟩ := s_own (bytes := 8) r6 hw c5 (by omega) (by omega)
  have s13 : Sat H9 Z ((.cells b1 [(.int .i64 m)]) :: (.cells bo [wv]) :: (l8 ++ F)) := Sat.rot (l₁ := l8) (hl := [.cells b1 [(.int .i64 m)], .cells bo [wv]]) s11
  refine wo_x (v := v7) (k12 rfl rfl) (wo_nil (wd_nil (ws_cons ?_)))
  have s14 := s13.pull 1
  obtain ⟨H15, s16, k17⟩ := s_st s14 0 v7 (Nat.le_of_ble_eq_true rfl) (hv := (own_sc h10))
  refine wo_n (k17 rfl rfl) (wo_nil (wd_nil (ws_nil (thn_n (wp_seq ?_)))))
  refine wp_reg (wo_mv (.bool true) (wo_nil (thn_n (wp_ret ?_))))
  have s18 := s16.drop 1
  exact fin_1 (.bool true) ⟨_, _, rfl, h10, s18⟩
theorem row_ok [LkN] {tbl : Nat → Option FT} (T : LkT tbl) {t : Nat} {row : List Tk} {N d : Nat} (hd : 4 ≤ d) {Z : Fz} {F : List Hl} {H : AH} (hs : Sat H Z (F)) (hT : Tbl t row F) (hN : row.length + 2 < N) (hl : row.length ≤ 1000000) :
    Ct (RUN tbl N d) (.fn (.fn (.func LkN.row)) [] []) [(.ptr t 0)] H fun v H' => ∃ lw, Own 1 v row.length (row.map fun x => .int .i64 x.n) lw ∧ Sat H' Z (lw ++ F) := by
  obtain ⟨d, rfl⟩ : ∃ e, d = e + 4 := ⟨d - 4, by omega⟩
  refine ct_code T.row (b := b_qrow) (env := [(.ptr t 0), u_, u_, u_, u_, u_, u_, u_]) ?_
  unfold b_qrow
  refine wp_seq (wp_reg (wo_mv .nils (wo_nil (thn_n (wp_seq ?_)))))
  refine wp_reg ?_
  obtain ⟨b1, H2, s3, k4⟩ := s_alloc hs (RL.one .nils)
  refine wo_x (v := (.ptr b1 0)) (k4) (wo_nil (thn_n (wp_seq (wp_reg (wo_mv (.ptr t 0) ?_)))))
  refine wo_x (v := (.fn (.fn (.func LkN.row1)) [] [(.ptr b1 0)])) (w_lit (fun K => rfl)) ?_
  obtain ⟨_, H5, ⟨rfl, h6⟩, k7⟩ := each_ok T (N := N) (d := d + 3) (ids := idsOf row) (Inv := fun j H => ∃ wv lw, Own 1 wv j ((row.take j).map fun x => AV.int .i64 x.n) lw ∧ Sat H Z ((.cells b1 [wv]) :: (lw ++ F))) (Stop := fun _ => False) (by omega) s3 ⟨.nils, [], .nil, s3⟩ (by rw [ids_len]; omega) (fun H ⟨wv, lw, _, h⟩ => hT.first (l := .cells b1 [wv] :: lw) h) (fun j H hj ⟨wv, lw, _, h⟩ => by rw [ids_len] at hj; exact hT.next (l := .cells b1 [wv] :: lw) h hj) (fun j H hj ⟨wv, lw, ho, h⟩ => by
    rw [ids_len] at hj
    rw [ids_at hj]
    refine (row1_ok T (by omega) h ho (hT.tk j hj) (by omega)).imp fun v H' ⟨wv', lw', ev, o, s⟩ => ⟨true, ev, fun _ => ⟨wv', lw', ?_, s⟩, fun h => by cases h⟩
    rw [txI_take hj]
    exact o)
  obtain ⟨wv9, lw10, o11, s8⟩ := h6.resolve_right (fun h => h)
  rw [ids_len, List.take_of_length_le (Nat.le_refl _)] at o11
  refine wo_call k7 (wo_nil (thn_n (wp_seq (wp_reg (wo_x (v := wv9) (s_ld1 s8 0 rfl) ?_)))))
  refine wo_mv wv9 (wo_nil (thn_n (wp_ret ?_)))
  have s12 := s8.drop 0
  exact fin_1 wv9 ⟨_, o11, s12⟩
end
end Go.Jt
