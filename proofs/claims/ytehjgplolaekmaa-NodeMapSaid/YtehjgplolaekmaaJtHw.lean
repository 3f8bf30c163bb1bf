/-
  slices.Clone, Grow, Concat; node.part, own. PRINTED by wip/tools/mkhv.py.
-/
import Derived.Test.YtehjgplolaekmaaJtHv
set_option autoImplicit false
set_option linter.all false
set_option maxRecDepth 10000
set_option maxHeartbeats 8000000
namespace Go.Jt
noncomputable section
variable [Gl]
class HvN where
  cloS : Nat
  cloP : Nat
  groS : Nat
  groP : Nat
  conS : Nat
  conP : Nat
  part : Nat
  own : Nat
  cut : Nat
  join : Nat
def b_vcloS [HvN] [NdN] [BkN] : IR := (.seq (.reg [mv 2 (.cst .nils)]) (.seq (.seq (.reg [mv 3 t0, xo 4 (.bin .eql 3 t3 (.cst .nils))]) (.cond t4 (.seq (.reg [mv 2 (.cst .nils)]) .ret) .skip)) (.seq (.reg [xo 5 (.bsl 0 (.rep 0 (.str [])) []), mv 6 t0, xo 7 (.app 1 16 (.one (.str [])) false t5 t6), mv 2 t7]) .ret)))
def ir_vcloS [HvN] [NdN] [BkN] : FnIR := ⟨8, [.tmp 2], b_vcloS⟩
def b_vcloP [HvN] [NdN] [BkN] : IR := (.seq (.reg [mv 2 (.cst .nils)]) (.seq (.seq (.reg [mv 3 t0, xo 4 (.bin .eql 3 t3 (.cst .nils))]) (.cond t4 (.seq (.reg [mv 2 (.cst .nils)]) .ret) .skip)) (.seq (.reg [xo 5 (.bsl 0 .nil []), mv 6 t0, xo 7 (.app 3 24 (.cat 2 (.rep 2 (.int .i64 0)) (.one (.int .u64 0))) false t5 t6), mv 2 t7]) .ret)))
def ir_vcloP [HvN] [NdN] [BkN] : FnIR := ⟨8, [.tmp 2], b_vcloP⟩
def b_vgroS [HvN] [NdN] [BkN] : IR := (.seq (.reg [mv 4 (.cst .nils)]) (.seq (.seq (.reg [mv 5 t1, xo 6 (.bin .lss 0 t5 (.cst (.int .i64 0)))]) (.cond t6 (.reg [xo 7 (.mki 9 (.cst (.str [99, 97, 110, 110, 111, 116, 32, 98, 101, 32, 110, 101, 103, 97, 116, 105, 118, 101]))), ⟨none, .bad, none⟩]) .skip)) (.seq (.seq (.reg [mv 8 t1, mv 9 t0, xo 10 (.capo t9), mv 11 t0, xo 12 (.len 1 t11), xo 13 (.bin .sub 0 t10 t12), xo 14 (.bin .sub 0 t8 t13), mv 1 t14]) (.seq (.reg [mv 15 t1, xo 16 (.bin .gtr 0 t15 (.cst (.int .i64 0)))]) (.cond t16 (.reg [mv 17 t0, mv 18 t0, xo 19 (.capo t18), xo 20 (.sll 1 t17 none (some t19) none), mv 21 t1, xo 22 (.app 1 16 (.one (.str [])) true t20 t21), mv 23 t0, xo 24 (.len 1 t23), xo 25 (.sll 1 t22 none (some t24) none), mv 0 t25]) .skip))) (.seq (.reg [mv 26 t0, mv 4 t26]) .ret))))
def ir_vgroS [HvN] [NdN] [BkN] : FnIR := ⟨27, [.tmp 4], b_vgroS⟩
def b_vgroP [HvN] [NdN] [BkN] : IR := (.seq (.reg [mv 4 (.cst .nils)]) (.seq (.seq (.reg [mv 5 t1, xo 6 (.bin .lss 0 t5 (.cst (.int .i64 0)))]) (.cond t6 (.reg [xo 7 (.mki 9 (.cst (.str [99, 97, 110, 110, 111, 116, 32, 98, 101, 32, 110, 101, 103, 97, 116, 105, 118, 101]))), ⟨none, .bad, none⟩]) .skip)) (.seq (.seq (.reg [mv 8 t1, mv 9 t0, xo 10 (.capo t9), mv 11 t0, xo 12 (.len 1 t11), xo 13 (.bin .sub 0 t10 t12), xo 14 (.bin .sub 0 t8 t13), mv 1 t14]) (.seq (.reg [mv 15 t1, xo 16 (.bin .gtr 0 t15 (.cst (.int .i64 0)))]) (.cond t16 (.reg [mv 17 t0, mv 18 t0, xo 19 (.capo t18), xo 20 (.sll 3 t17 none (some t19) none), mv 21 t1, xo 22 (.app 3 24 (.cat 2 (.rep 2 (.int .i64 0)) (.one (.int .u64 0))) true t20 t21), mv 23 t0, xo 24 (.len 1 t23), xo 25 (.sll 3 t22 none (some t24) none), mv 0 t25]) .skip))) (.seq (.reg [mv 26 t0, mv 4 t26]) .ret))))
def ir_vgroP [HvN] [NdN] [BkN] : FnIR := ⟨27, [.tmp 4], b_vgroP⟩
def b_vconS [HvN] [NdN] [BkN] : IR := (.seq (.reg [mv 2 (.cst .nils)]) (.seq (.reg [xo 3 (.mv (.cst (.int .i64 0)))]) (.seq (.seq (.reg [mv 9 t0, xo 10 (.len 1 t9), xo 11 (.mv (.cst (.int .i64 0)))]) (.block 0 (.loop (.seq (.reg [xo 12 (.bin .lss 0 t11 t10)]) (.seq (.cond t12 .skip (.exit 0)) (.seq (.block 1 (.seq (.reg [xo 13 (.ixs 1 t9 t11), xo 14 (.ld1 t13), mv 5 t14]) (.seq (.reg [mv 15 t3, mv 16 t5, xo 17 (.len 1 t16), xo 18 (.bin .add 0 t15 t17), mv 3 t18]) (.seq (.reg [mv 19 t3, xo 20 (.bin .lss 0 t19 (.cst (.int .i64 0)))]) (.cond t20 (.reg [xo 21 (.mki 9 (.cst (.str [108, 101, 110, 32, 111, 117, 116, 32, 111, 102, 32, 114, 97, 110, 103, 101]))), ⟨none, .bad, none⟩]) .skip))))) (.reg [xo 22 (.bin .add 0 t11 (.cst (.int .i64 1))), mv 11 t22]))))))) (.seq (.reg [mv 23 t3, xo 24 (.call (.cst (.fn (.fn (.func HvN.groS)) [] [])) [(.cst .nils), t23]), mv 6 t24]) (.seq (.seq (.reg [mv 25 t0, xo 26 (.len 1 t25), xo 27 (.mv (.cst (.int .i64 0)))]) (.block 2 (.loop (.seq (.reg [xo 28 (.bin .lss 0 t27 t26)]) (.seq (.cond t28 .skip (.exit 2)) (.seq (.block 3 (.seq (.reg [xo 29 (.ixs 1 t25 t27), xo 30 (.ld1 t29), mv 8 t30]) (.reg [mv 31 t6, mv 32 t8, xo 33 (.app 1 16 (.one (.str [])) false t31 t32), mv 6 t33]))) (.reg [xo 34 (.bin .add 0 t27 (.cst (.int .i64 1))), mv 27 t34]))))))) (.seq (.reg [mv 35 t6, mv 2 t35]) .ret))))))
def ir_vconS [HvN] [NdN] [BkN] : FnIR := ⟨36, [.tmp 2], b_vconS⟩
def b_vconP [HvN] [NdN] [BkN] : IR := (.seq (.reg [mv 2 (.cst .nils)]) (.seq (.reg [xo 3 (.mv (.cst (.int .i64 0)))]) (.seq (.seq (.reg [mv 9 t0, xo 10 (.len 1 t9), xo 11 (.mv (.cst (.int .i64 0)))]) (.block 0 (.loop (.seq (.reg [xo 12 (.bin .lss 0 t11 t10)]) (.seq (.cond t12 .skip (.exit 0)) (.seq (.block 1 (.seq (.reg [xo 13 (.ixs 1 t9 t11), xo 14 (.ld1 t13), mv 5 t14]) (.seq (.reg [mv 15 t3, mv 16 t5, xo 17 (.len 1 t16), xo 18 (.bin .add 0 t15 t17), mv 3 t18]) (.seq (.reg [mv 19 t3, xo 20 (.bin .lss 0 t19 (.cst (.int .i64 0)))]) (.cond t20 (.reg [xo 21 (.mki 9 (.cst (.str [108, 101, 110, 32, 111, 117, 116, 32, 111, 102, 32, 114, 97, 110, 103, 101]))), ⟨none, .bad, none⟩]) .skip))))) (.reg [xo 22 (.bin .add 0 t11 (.cst (.int .i64 1))), mv 11 t22]))))))) (.seq (.reg [mv 23 t3, xo 24 (.call (.cst (.fn (.fn (.func HvN.groP)) [] [])) [(.cst .nils), t23]), mv 6 t24]) (.seq (.seq (.reg [mv 25 t0, xo 26 (.len 1 t25), xo 27 (.mv (.cst (.int .i64 0)))]) (.block 2 (.loop (.seq (.reg [xo 28 (.bin .lss 0 t27 t26)]) (.seq (.cond t28 .skip (.exit 2)) (.seq (.block 3 (.seq (.reg [xo 29 (.ixs 1 t25 t27), xo 30 (.ld1 t29), mv 8 t30]) (.reg [mv 31 t6, mv 32 t8, xo 33 (.app 3 24 (.cat 2 (.rep 2 (.int .i64 0)) (.one (.int .u64 0))) false t31 t32), mv 6 t33]))) (.reg [xo 34 (.bin .add 0 t27 (.cst (.int .i64 1))), mv 27 t34]))))))) (.seq (.reg [mv 35 t6, mv 2 t35]) .ret))))))
def ir_vconP [HvN] [NdN] [BkN] : FnIR := ⟨36, [.tmp 2], b_vconP⟩
def b_vpart [HvN] [NdN] [BkN] : IR := (.seq (.reg [xo 3 (.box t0), xo 6 (.alloc (.cat 1 (.one (.bool false)) (.rep 3 .nils)))]) (.seq (.dreg [.run (xo 8 (.fla 0 t3)), .run (xo 9 (.ld1 t8)), .run (xo 10 (.fla 1 t3)), .run (xo 11 (.ld1 t10)), .run (mv 12 t1), .run (mv 13 t2), .run (mv 14 t2), .run (xo 15 (.sll 1 t11 (some t12) (some t13) (some t14))), .run (xo 16 (.build (.cat 1 (.one (.bool false)) (.rep 3 .nils)) [(0, 1, t9), (1, 1, t15)])), .run (xo 7 (.alloc (.cat 1 (.one (.bool false)) (.rep 3 .nils))))] [(⟨none, .st 4 t7 t16, none⟩, [])]) (.seq (.seq (.reg [xo 17 (.fla 0 t3), xo 18 (.ld1 t17)]) (.cond t18 (.reg [xo 19 (.fla 2 t3), xo 20 (.ld1 t19), mv 21 t1, mv 22 t2, mv 23 t2, xo 24 (.sll 1 t20 (some t21) (some t22) (some t23)), xo 25 (.fla 2 t7), ⟨none, .st 1 t25 t24, none⟩]) (.reg [xo 26 (.fla 3 t3), xo 27 (.ld1 t26), mv 28 t1, mv 29 t2, xo 30 (.bin .add 0 t29 (.cst (.int .i64 1))), mv 31 t2, xo 32 (.bin .add 0 t31 (.cst (.int .i64 1))), xo 33 (.sll 3 t27 (some t28) (some t30) (some t32)), xo 34 (.fla 3 t7), ⟨none, .st 1 t34 t33, none⟩]))) (.seq (.reg [xo 35 (.ldn 4 t7), ⟨none, .st 4 t6 t35, none⟩]) .ret))))
def ir_vpart [HvN] [NdN] [BkN] : FnIR := ⟨36, [.cell 6 4 true], b_vpart⟩
def b_vown [HvN] [NdN] [BkN] : IR := (.seq (.reg [xo 1 (.box t0), xo 2 (.alloc (.cat 1 (.one (.bool false)) (.rep 3 .nils)))]) (.seq (.dreg [.run (xo 3 (.fla 0 t1)), .run (xo 4 (.ld1 t3)), .run (xo 5 (.fla 1 t1)), .run (xo 6 (.ld1 t5)), .run (xo 8 (.fla 2 t1)), .run (xo 9 (.ld1 t8)), .run (xo 11 (.fla 3 t1)), .run (xo 12 (.ld1 t11))] [(xo 7 (.call (.cst (.fn (.fn (.func HvN.cloS)) [] [])) [t6]), [.again (xo 4 (.ld1 t3)), .again (xo 9 (.ld1 t8)), .again (xo 12 (.ld1 t11))]), (xo 10 (.call (.cst (.fn (.fn (.func HvN.cloS)) [] [])) [t9]), [.again (xo 4 (.ld1 t3)), .again (xo 12 (.ld1 t11))]), (xo 13 (.call (.cst (.fn (.fn (.func HvN.cloP)) [] [])) [t12]), [.again (xo 4 (.ld1 t3)), .run (xo 14 (.build (.cat 1 (.one (.bool false)) (.rep 3 .nils)) [(0, 1, t4), (1, 1, t7), (2, 1, t10), (3, 1, t13)]))]), (⟨none, .st 4 t2 t14, none⟩, [])]) .ret))
def ir_vown [HvN] [NdN] [BkN] : FnIR := ⟨15, [.cell 2 4 true], b_vown⟩
def b_vcut [HvN] [NdN] [BkN] : IR := (.seq (.reg [xo 1 (.box t0), xo 2 (.alloc (.cat 1 (.one (.bool false)) (.rep 3 .nils))), xo 3 (.mv (.cst (.str []))), xo 4 (.alloc (.cat 1 (.one (.bool false)) (.rep 3 .nils))), xo 5 (.mv (.cst (.int .i64 0)))]) (.seq (.reg [xo 10 (.fla 1 t1), xo 11 (.ld1 t10), xo 12 (.len 1 t11), mv 6 t12]) (.seq (.reg [mv 13 t6, xo 14 (.bin .sub 0 t13 (.cst (.int .i64 1))), mv 7 t14]) (.seq (.seq (.reg [xo 15 (.fla 0 t1), xo 16 (.ld1 t15), xo 17 (.not t16)]) (.cond t17 (.reg [mv 18 t7, xo 19 (.bin .sub 0 t18 (.cst (.int .i64 1))), mv 7 t19]) .skip)) (.seq (.seq (.reg [xo 20 (.ldn 4 t1), xo 21 (.call (.cst (.fn (.fn (.func NdN.form)) [] [])) [t20]), xo 22 (.not t21), mv 23 t22, ⟨some 24, .mv t7, some (23, false)⟩, ⟨some 25, .bin .lss 0 t24 (.cst (.int .i64 1)), some (23, false)⟩, xo 26 (.pick t23 (.cst (.bool true)) t25)]) (.cond t26 (.seq (.reg [xo 27 (.build (.cat 1 (.one (.bool false)) (.rep 3 .nils)) []), xo 28 (.build (.cat 1 (.one (.bool false)) (.rep 3 .nils)) []), ⟨none, .st 4 t2 t27, none⟩, xo 3 (.mv (.cst (.str []))), ⟨none, .st 4 t4 t28, none⟩, xo 5 (.mv (.cst (.int .i64 1)))]) .ret) .skip)) (.seq (.reg [xo 8 (.mv (.cst (.int .i64 1)))]) (.seq (.block 0 (.loop (.seq (.seq (.dreg [.run (mv 29 t8), .run (mv 30 t7), .run (xo 31 (.bin .lss 0 t29 t30)), .run (mv 32 t31), .run ⟨some 33, .ldn 4 t1, some (32, true)⟩, .run ⟨some 34, .mv t8, some (32, true)⟩, .run ⟨some 35, .bin .add 0 t34 (.cst (.int .i64 1)), some (32, true)⟩, .run ⟨some 40, .ldn 4 t1, some (32, true)⟩] [(⟨some 36, .call (.cst (.fn (.fn (.func HvN.part)) [] [])) [t33, (.cst (.int .i64 0)), t35], some (32, true)⟩, [.again ⟨some 40, .ldn 4 t1, some (32, true)⟩]), (⟨some 37, .call (.cst (.fn (.fn (.func NdN.size)) [] [])) [t36], some (32, true)⟩, [.again ⟨some 40, .ldn 4 t1, some (32, true)⟩, .run ⟨some 38, .bin .sub 0 t37 (.cst (.int .i64 2)), some (32, true)⟩, .run ⟨some 39, .bin .mul 0 (.cst (.int .i64 2)) t38, some (32, true)⟩]), (⟨some 41, .call (.cst (.fn (.fn (.func NdN.size)) [] [])) [t40], some (32, true)⟩, [.again ⟨some 38, .bin .sub 0 t37 (.cst (.int .i64 2)), some (32, true)⟩, .again ⟨some 39, .bin .mul 0 (.cst (.int .i64 2)) t38, some (32, true)⟩, .run ⟨some 42, .bin .sub 0 t41 (.cst (.int .i64 2)), some (32, true)⟩, .run ⟨some 43, .bin .leq 0 t39 t42, some (32, true)⟩, .run (xo 44 (.pick t32 t43 (.cst (.bool false))))])]) (.cond t44 .skip (.exit 0))) (.block 1 (.reg [mv 45 t8, xo 46 (.bin .add 0 t45 (.cst (.int .i64 1))), mv 8 t46]))))) (.seq (.reg [mv 47 t8, mv 9 t47]) (.seq (.seq (.reg [xo 48 (.fla 0 t1), xo 49 (.ld1 t48), xo 50 (.not t49)]) (.cond t50 (.reg [mv 51 t9, xo 52 (.bin .add 0 t51 (.cst (.int .i64 1))), mv 9 t52]) .skip)) (.seq (.dreg [.run (xo 53 (.ldn 4 t1)), .run (mv 54 t8), .run (xo 57 (.fla 1 t1)), .run (xo 58 (.ld1 t57)), .run (mv 59 t8), .run (xo 60 (.ixs 1 t58 t59)), .run (xo 61 (.ld1 t60)), .run (xo 62 (.ldn 4 t1)), .run (mv 63 t9), .run (mv 64 t6)] [(xo 55 (.call (.cst (.fn (.fn (.func HvN.part)) [] [])) [t53, (.cst (.int .i64 0)), t54]), [.again (xo 58 (.ld1 t57)), .again (xo 61 (.ld1 t60)), .again (xo 62 (.ldn 4 t1))]), (xo 56 (.call (.cst (.fn (.fn (.func HvN.own)) [] [])) [t55]), [.again (xo 58 (.ld1 t57)), .again (xo 61 (.ld1 t60)), .again (xo 62 (.ldn 4 t1))]), (xo 65 (.call (.cst (.fn (.fn (.func HvN.part)) [] [])) [t62, t63, t64]), [.again (xo 58 (.ld1 t57)), .again (xo 61 (.ld1 t60))]), (xo 66 (.call (.cst (.fn (.fn (.func HvN.own)) [] [])) [t65]), [.again (xo 58 (.ld1 t57)), .again (xo 61 (.ld1 t60))]), (⟨none, .st 4 t2 t56, none⟩, [.again (xo 58 (.ld1 t57)), .again (xo 61 (.ld1 t60)), .run (mv 3 t61)]), (⟨none, .st 4 t4 t66, none⟩, [.run (xo 5 (.mv (.cst (.int .i64 0))))])]) .ret))))))))))
def ir_vcut [HvN] [NdN] [BkN] : FnIR := ⟨67, [.cell 2 4 true, .tmp 3, .cell 4 4 true, .tmp 5], b_vcut⟩
def b_vjoin [HvN] [NdN] [BkN] : IR := (.seq (.reg [xo 3 (.box t0), xo 5 (.box t2), xo 6 (.alloc (.cat 1 (.one (.bool false)) (.rep 3 .nils))), xo 7 (.mv (.cst (.int .i64 0)))]) (.seq (.block 0 (.seq (.reg [xo 10 (.ldn 4 t3), xo 11 (.call (.cst (.fn (.fn (.func NdN.form)) [] [])) [t10]), xo 12 (.not t11), mv 13 t12, ⟨some 14, .ldn 4 t5, some (13, false)⟩, ⟨some 15, .call (.cst (.fn (.fn (.func NdN.form)) [] [])) [t14], some (13, false)⟩, ⟨some 16, .not t15, some (13, false)⟩, xo 17 (.pick t13 (.cst (.bool true)) t16), mv 18 t17, ⟨some 19, .fla 0 t3, some (18, false)⟩, ⟨some 20, .ld1 t19, some (18, false)⟩, ⟨some 21, .fla 0 t5, some (18, false)⟩, ⟨some 22, .ld1 t21, some (18, false)⟩, ⟨some 23, .bin .neq 1 t20 t22, some (18, false)⟩, xo 24 (.pick t18 (.cst (.bool true)) t23), mv 25 t24, ⟨some 26, .mv t1, some (25, false)⟩, ⟨some 27, .call (.cst (.fn (.fn (.func NdN.key)) [] [])) [t26], some (25, false)⟩, ⟨some 28, .not t27, some (25, false)⟩, xo 29 (.pick t25 (.cst (.bool true)) t28), mv 9 t29]) (.cond t9 (.seq (.reg [xo 30 (.build (.cat 1 (.one (.bool false)) (.rep 3 .nils)) []), ⟨none, .st 4 t6 t30, none⟩, xo 7 (.mv (.cst (.int .i64 1)))]) .ret) (.seq (.reg [xo 32 (.fla 1 t3), xo 33 (.ld1 t32), xo 34 (.len 1 t33), xo 35 (.bin .gtr 0 t34 (.cst (.int .i64 0))), mv 36 t35, ⟨some 37, .fla 1 t3, some (36, true)⟩, ⟨some 38, .ld1 t37, some (36, true)⟩, ⟨some 39, .fla 1 t3, some (36, true)⟩, ⟨some 40, .ld1 t39, some (36, true)⟩, ⟨some 41, .len 1 t40, some (36, true)⟩, ⟨some 42, .bin .sub 0 t41 (.cst (.int .i64 1)), some (36, true)⟩, ⟨some 43, .ixs 1 t38 t42, some (36, true)⟩, ⟨some 44, .ld1 t43, some (36, true)⟩, ⟨some 45, .mv t1, some (36, true)⟩, ⟨some 46, .bin .geq 0 t44 t45, some (36, true)⟩, xo 47 (.pick t36 t46 (.cst (.bool false))), mv 31 t47]) (.cond t31 (.seq (.reg [xo 48 (.build (.cat 1 (.one (.bool false)) (.rep 3 .nils)) []), ⟨none, .st 4 t6 t48, none⟩, xo 7 (.mv (.cst (.int .i64 1)))]) .ret) (.seq (.reg [xo 50 (.fla 1 t5), xo 51 (.ld1 t50), xo 52 (.len 1 t51), xo 53 (.bin .gtr 0 t52 (.cst (.int .i64 0))), mv 54 t53, ⟨some 55, .fla 1 t5, some (54, true)⟩, ⟨some 56, .ld1 t55, some (54, true)⟩, ⟨some 57, .ixs 1 t56 (.cst (.int .i64 0)), some (54, true)⟩, ⟨some 58, .ld1 t57, some (54, true)⟩, ⟨some 59, .mv t1, some (54, true)⟩, ⟨some 60, .bin .lss 0 t58 t59, some (54, true)⟩, ⟨some 61, .mv t60, some (54, true)⟩, ⟨some 62, .fla 1 t5, some (61, false)⟩, ⟨some 63, .ld1 t62, some (61, false)⟩, ⟨some 64, .ixs 1 t63 (.cst (.int .i64 0)), some (61, false)⟩, ⟨some 65, .ld1 t64, some (61, false)⟩, ⟨some 66, .mv t1, some (61, false)⟩, ⟨some 67, .bin .eql 0 t65 t66, some (61, false)⟩, ⟨some 68, .mv t67, some (61, false)⟩, ⟨some 69, .fla 0 t5, some (68, true)⟩, ⟨some 70, .ld1 t69, some (68, true)⟩, ⟨some 71, .not t70, some (68, true)⟩, ⟨some 72, .pick t68 t71 (.cst (.bool false)), some (61, false)⟩, ⟨some 73, .pick t61 (.cst (.bool true)) t72, some (54, true)⟩, xo 74 (.pick t54 t73 (.cst (.bool false))), mv 49 t74]) (.cond t49 (.seq (.reg [xo 75 (.build (.cat 1 (.one (.bool false)) (.rep 3 .nils)) []), ⟨none, .st 4 t6 t75, none⟩, xo 7 (.mv (.cst (.int .i64 1)))]) .ret) .skip))))))) (.seq (.reg [mv 8 (.cst .nils)]) (.seq (.seq (.reg [xo 76 (.fla 0 t3), xo 77 (.ld1 t76), xo 78 (.not t77)]) (.cond t78 (.reg [mv 79 t1, xo 80 (.bsl 1 (.rep 1 (.str [])) [(0, 1, t79)]), mv 8 t80]) .skip)) (.seq (.dreg [.run (xo 81 (.fla 0 t3)), .run (xo 82 (.ld1 t81)), .run (xo 83 (.fla 1 t3)), .run (xo 84 (.ld1 t83)), .run (mv 85 t8), .run (xo 86 (.fla 1 t5)), .run (xo 87 (.ld1 t86)), .run (xo 88 (.bsl 3 (.rep 3 .nils) [(0, 1, t84), (1, 1, t85), (2, 1, t87)])), .run (xo 90 (.fla 2 t3)), .run (xo 91 (.ld1 t90)), .run (xo 92 (.fla 2 t5)), .run (xo 93 (.ld1 t92)), .run (xo 94 (.bsl 2 (.rep 2 .nils) [(0, 1, t91), (1, 1, t93)])), .run (xo 96 (.fla 3 t3)), .run (xo 97 (.ld1 t96)), .run (xo 98 (.fla 3 t5)), .run (xo 99 (.ld1 t98)), .run (xo 100 (.bsl 2 (.rep 2 .nils) [(0, 1, t97), (1, 1, t99)]))] [(xo 89 (.call (.cst (.fn (.fn (.func HvN.conS)) [] [])) [t88]), [.again (xo 82 (.ld1 t81)), .again (xo 91 (.ld1 t90)), .again (xo 93 (.ld1 t92)), .again (xo 97 (.ld1 t96)), .again (xo 99 (.ld1 t98))]), (xo 95 (.call (.cst (.fn (.fn (.func HvN.conS)) [] [])) [t94]), [.again (xo 82 (.ld1 t81)), .again (xo 97 (.ld1 t96)), .again (xo 99 (.ld1 t98))]), (xo 101 (.call (.cst (.fn (.fn (.func HvN.conP)) [] [])) [t100]), [.again (xo 82 (.ld1 t81)), .run (xo 102 (.build (.cat 1 (.one (.bool false)) (.rep 3 .nils)) [(0, 1, t82), (1, 1, t89), (2, 1, t95), (3, 1, t101)]))]), (⟨none, .st 4 t6 t102, none⟩, [.run (xo 7 (.mv (.cst (.int .i64 0))))])]) .ret)))))
def ir_vjoin [HvN] [NdN] [BkN] : FnIR := ⟨103, [.cell 6 4 true, .tmp 7], b_vjoin⟩
structure HvT [HvN] [NdN] [BkN] (tbl : Nat → Option FT) : Prop where
  cloS : tbl HvN.cloS = some (.code ir_vcloS)
  cloP : tbl HvN.cloP = some (.code ir_vcloP)
  groS : tbl HvN.groS = some (.code ir_vgroS)
  groP : tbl HvN.groP = some (.code ir_vgroP)
  conS : tbl HvN.conS = some (.code ir_vconS)
  conP : tbl HvN.conP = some (.code ir_vconP)
  part : tbl HvN.part = some (.code ir_vpart)
  own : tbl HvN.own = some (.code ir_vown)
  cut : tbl HvN.cut = some (.code ir_vcut)
  join : tbl HvN.join = some (.code ir_vjoin)
theorem bin_nilT {H : AH} {x y : Od} {env : Env} {v : AV} (hv : v = .nils) (hx : ev env x = v) (hy : ev env y = .nils) (K : AV → AH → Bool) : xop (.bin .eql 3 x y) env H K = K (.bool true) H := by
  subst hv
  simp only [xop, hx, hy]
  rfl
theorem bin_nilF {Z : Fz} {es : Nat} {xs : List (List AV)} {H : AH} {x y : Od} {env : Env} {v : AV} (h : Fl Z es v xs) (hv : ¬ v = .nils) (hx : ev env x = v) (hy : ev env y = .nils) (K : AV → AH → Bool) : xop (.bin .eql 3 x y) env H K = K (.bool false) H := by
  simp only [xop, hx, hy]
  cases h with
  | nil => exact absurd rfl hv
  | slz b o e => rfl
  | slc b o c L xs hc hz ho hx => rfl
  | slu b o L xs hz ho hx => rfl
theorem nils_strs {Z : Fz} {v : AV} {ks : List (List Nat)} (h : Fl Z 1 v (strs ks)) (hv : v = .nils) : Own 1 .nils ks.length (txC ks) [] := by
  subst hv
  generalize e : strs ks = xs at h
  cases h
  cases ks with
  | nil => exact .nil
  | cons k ks => cases e
theorem nils_ptrs {Z : Fz} {v : AV} {ps : List PtrM} (h : Fl Z 3 v (ptrs ps)) (hv : v = .nils) : Own 3 .nils ps.length (ptC ps) [] := by
  subst hv
  generalize e : ptrs ps = xs at h
  cases h
  cases ps with
  | nil => exact .nil
  | cons k ps => cases e
theorem txC_app (a b : List (List Nat)) : txC (a ++ b) = txC a ++ txC b := by simp [txC, strs]
theorem ptC_app (a b : List PtrM) : ptC (a ++ b) = ptC a ++ ptC b := by simp [ptC, ptrs]
theorem OwnG.own' {es tot n m : Nat} {v : AV} {L L' : List AV} {hl : List Hl} (h : OwnG es tot v n L hl) (hn : n = m) (ht : tot = m) (hL : L = L') : Own es v m L' hl := by
  subst hn hL
  rw [ht] at h
  exact h.own
theorem OwnG.sl0 {es n b : Nat} {M : List AV} (hM : M.length = n * es) : OwnG es n (.slu b 0 0 es) 0 [] [.cells b M] := .slu b 0 [] M (by simp) (by simpa using hM)
theorem strs_win (ks : List (List Nat)) (i j : Nat) : ((strs ks).drop i).take (j - i) = strs (win ks i j) := by simp [win, strs, List.map_drop, List.map_take]
theorem ptrs_win (ps : List PtrM) (i j : Nat) : ((ptrs ps).drop i).take (j - i) = ptrs (win ps i j) := by simp [win, ptrs, List.map_drop, List.map_take]
theorem fl_win {Z : Fz} {ks : List (List Nat)} {v : AV} (h : Fl Z 1 v (strs ks)) (i j : Nat) (hij : i ≤ j) (hj : j ≤ ks.length) :
    ∃ v', Fl Z 1 v' (strs (win ks i j)) ∧ ∀ {env : Env} {H : AH} {x a b c : Od}, ev env x = v → ev env a = .int .i64 (.ofNat i) → ev env b = .int .i64 (.ofNat j) → ev env c = .int .i64 (.ofNat j) → ∀ K : AV → AH → Bool, xop (.sll 1 x (some a) (some b) (some c)) env H K = K v' H := by
  have := fl_sll h i j hij (by rw [strs_len]; exact hj)
  rwa [strs_win] at this
theorem fl_winP {Z : Fz} {ps : List PtrM} {v : AV} (h : Fl Z 3 v (ptrs ps)) (i j : Nat) (hij : i ≤ j) (hj : j ≤ ps.length) :
    ∃ v', Fl Z 3 v' (ptrs (win ps i j)) ∧ ∀ {env : Env} {H : AH} {x a b c : Od}, ev env x = v → ev env a = .int .i64 (.ofNat i) → ev env b = .int .i64 (.ofNat j) → ev env c = .int .i64 (.ofNat j) → ∀ K : AV → AH → Bool, xop (.sll 3 x (some a) (some b) (some c)) env H K = K v' H := by
  have := fl_sll h i j hij (by rw [ptrs_len]; exact hj)
  rwa [ptrs_win] at this
theorem cloS_ok [HvN] [NdN] [BkN] {tbl : Nat → Option FT} (T : HvT tbl) {ks : List (List Nat)} {vk : AV} {N d : Nat} (hd : 1 ≤ d) {Z : Fz} {F : List Hl} {H : AH} (hs : Sat H Z (F)) (hk : Fl Z 1 vk (strs ks)) (hkl : ks.length ≤ 1099511627776) :
    Ct (RUN tbl N d) (.fn (.fn (.func HvN.cloS)) [] []) [vk] H fun v H' => ∃ hl, Own 1 v ks.length (txC ks) hl ∧ Sat H' Z (hl ++ F) := by
  obtain ⟨d, rfl⟩ : ∃ e, d = e + 1 := ⟨d - 1, by omega⟩
  refine ct_code T.cloS (b := b_vcloS) (env := [vk, u_, u_, u_, u_, u_, u_, u_]) ?_
  unfold b_vcloS
  refine wp_seq (wp_reg (wo_mv .nils (wo_nil (thn_n (wp_seq ?_)))))
  refine wp_seq (wp_reg (wo_mv vk ?_))
  by_cases c1 : vk = .nils
  · refine wo_x (v := (.bool true)) (bin_nilT c1 rfl rfl) (wo_nil (thn_n (wp_condT (wp_seq (wp_reg ?_)))))
    refine wo_mv .nils (wo_nil (thn_n (wp_ret (thn_r ?_))))
    exact fin_1 .nils ⟨[], nils_strs hk c1, hs⟩
  · refine wo_x (v := (.bool false)) (bin_nilF hk c1 rfl rfl) (wo_nil (thn_n (wp_condF (wp_skip (thn_n ?_)))))
    refine wp_seq (wp_reg ?_)
    obtain ⟨b2, H3, s4, k5⟩ := s_bsl hs (RL.rep 0 (.str []))
    refine wo_x (v := (.slc b2 0 0 0)) (k5 fill_nil) (wo_mv vk ?_)
    have c6 := src_strs s4 hk
    obtain ⟨v7, hl8, H9, h10, s11, k12⟩ := s_copy (bytes := 16) s4 c6 (by omega) (by omega)
    have s13 := Sat.rot (l₁ := hl8) (hl := []) s11
    refine wo_x (v := v7) (k12 rfl rfl) (wo_mv v7 (wo_nil (thn_n (wp_ret ?_))))
    exact fin_1 v7 ⟨_, h10, s13⟩
theorem cloP_ok [HvN] [NdN] [BkN] {tbl : Nat → Option FT} (T : HvT tbl) {ps : List PtrM} {vk : AV} {N d : Nat} (hd : 1 ≤ d) {Z : Fz} {F : List Hl} {H : AH} (hs : Sat H Z (F)) (hk : Fl Z 3 vk (ptrs ps)) (hkl : ps.length ≤ 1099511627776) :
    Ct (RUN tbl N d) (.fn (.fn (.func HvN.cloP)) [] []) [vk] H fun v H' => ∃ hl, Own 3 v ps.length (ptC ps) hl ∧ Sat H' Z (hl ++ F) := by
  obtain ⟨d, rfl⟩ : ∃ e, d = e + 1 := ⟨d - 1, by omega⟩
  refine ct_code T.cloP (b := b_vcloP) (env := [vk, u_, u_, u_, u_, u_, u_, u_]) ?_
  unfold b_vcloP
  refine wp_seq (wp_reg (wo_mv .nils (wo_nil (thn_n (wp_seq ?_)))))
  refine wp_seq (wp_reg (wo_mv vk ?_))
  by_cases c1 : vk = .nils
  · refine wo_x (v := (.bool true)) (bin_nilT c1 rfl rfl) (wo_nil (thn_n (wp_condT (wp_seq (wp_reg ?_)))))
    refine wo_mv .nils (wo_nil (thn_n (wp_ret (thn_r ?_))))
    exact fin_1 .nils ⟨[], nils_ptrs hk c1, hs⟩
  · refine wo_x (v := (.bool false)) (bin_nilF hk c1 rfl rfl) (wo_nil (thn_n (wp_condF (wp_skip (thn_n ?_)))))
    refine wp_seq (wp_reg ?_)
    obtain ⟨b2, H3, s4, k5⟩ := s_bsl hs RL.nil
    refine wo_x (v := (.slc b2 0 0 0)) (k5 fill_nil) (wo_mv vk ?_)
    have c6 := src_ptrs s4 hk
    obtain ⟨v7, hl8, H9, h10, s11, k12⟩ := s_copy (bytes := 24) s4 c6 (by omega) (by omega)
    have s13 := Sat.rot (l₁ := hl8) (hl := []) s11
    refine wo_x (v := v7) (k12 rfl rfl) (wo_mv v7 (wo_nil (thn_n (wp_ret ?_))))
    exact fin_1 v7 ⟨_, h10, s13⟩
theorem groS_ok [HvN] [NdN] [BkN] {tbl : Nat → Option FT} (T : HvT tbl) {n : Nat} {N d : Nat} (hd : 1 ≤ d) {Z : Fz} {F : List Hl} {H : AH} (hs : Sat H Z (F)) (hn : n ≤ 1099511627776) :
    Ct (RUN tbl N d) (.fn (.fn (.func HvN.groS)) [] []) [.nils, (.int .i64 (.ofNat n))] H fun v H' => ∃ hl, OwnG 1 n v 0 [] hl ∧ Sat H' Z (hl ++ F) := by
  obtain ⟨d, rfl⟩ : ∃ e, d = e + 1 := ⟨d - 1, by omega⟩
  refine ct_code T.groS (b := b_vgroS) (env := [.nils, (.int .i64 (.ofNat n)), u_, u_, u_, u_, u_, u_, u_, u_, u_, u_, u_, u_, u_, u_, u_, u_, u_, u_, u_, u_, u_, u_, u_, u_, u_]) ?_
  unfold b_vgroS
  refine wp_seq (wp_reg (wo_mv .nils (wo_nil (thn_n (wp_seq ?_)))))
  refine wp_seq (wp_reg (wo_mv (.int .i64 (.ofNat n)) (wo_x (v := (.bool false)) (w_bin (cmp_lssF n 0 (by omega))) (wo_nil (thn_n ?_)))))
  refine wp_condF (wp_skip (thn_n (wp_seq (wp_seq (wp_reg ?_)))))
  refine wo_mv (.int .i64 (.ofNat n)) (wo_mv .nils (wo_x (v := (.int .i64 0)) (w_lit (fun K => rfl)) (wo_mv .nils (wo_x (v := (.int .i64 0)) (w_lit (fun K => rfl)) (wo_x (v := (.int .i64 0)) (w_lit (fun K => rfl)) ?_)))))
  refine wo_x (v := (.int .i64 (.ofNat n))) (w_bin (sub_i64 n 0 (by omega) (by omega))) (wo_mv (.int .i64 (.ofNat n)) (wo_nil (thn_n (wp_seq (wp_reg ?_)))))
  refine wo_mv (.int .i64 (.ofNat n)) ?_
  by_cases c1 : 0 < n
  · refine wo_x (v := (.bool true)) (w_bin (cmp_gtrT n 0 (by omega))) (wo_nil (thn_n (wp_condT (wp_reg (wo_mv .nils ?_)))))
    refine wo_mv .nils (wo_x (v := (.int .i64 0)) (w_lit (fun K => rfl)) (wo_x (v := .nils) (w_lit (fun K => rfl)) (wo_mv (.int .i64 (.ofNat n)) ?_)))
    obtain ⟨b2, M3, H4, e5, s6, k7⟩ := grow_app (es := 1) (bytes := 16) hs (RL.one (.str [])) rfl (show 0 < n by omega) (by omega) (by omega)
    refine wo_x (v := (.slu b2 0 n 1)) (k7 rfl rfl) (wo_mv .nils (wo_x (v := (.int .i64 0)) (w_lit (fun K => rfl)) (wo_x (v := (.slu b2 0 0 1)) (grow_sll s6 e5 (by decide) (show 0 < n by omega) rfl rfl) (wo_mv (.slu b2 0 0 1) (wo_nil ?_)))))
    refine thn_n (wp_seq (wp_reg (wo_mv (.slu b2 0 0 1) (wo_mv (.slu b2 0 0 1) (wo_nil ?_)))))
    refine thn_n (wp_ret ?_)
    exact fin_1 (.slu b2 0 0 1) ⟨_, OwnG.sl0 e5, s6⟩
  · refine wo_x (v := (.bool false)) (w_bin (cmp_gtrF n 0 (by omega))) (wo_nil (thn_n (wp_condF (wp_skip (thn_n ?_)))))
    refine wp_seq (wp_reg (wo_mv .nils (wo_mv .nils (wo_nil (thn_n ?_)))))
    refine wp_ret ?_
    exact fin_1 .nils ⟨[], .nil (by omega), hs⟩
theorem groP_ok [HvN] [NdN] [BkN] {tbl : Nat → Option FT} (T : HvT tbl) {n : Nat} {N d : Nat} (hd : 1 ≤ d) {Z : Fz} {F : List Hl} {H : AH} (hs : Sat H Z (F)) (hn : n ≤ 1099511627776) :
    Ct (RUN tbl N d) (.fn (.fn (.func HvN.groP)) [] []) [.nils, (.int .i64 (.ofNat n))] H fun v H' => ∃ hl, OwnG 3 n v 0 [] hl ∧ Sat H' Z (hl ++ F) := by
  obtain ⟨d, rfl⟩ : ∃ e, d = e + 1 := ⟨d - 1, by omega⟩
  refine ct_code T.groP (b := b_vgroP) (env := [.nils, (.int .i64 (.ofNat n)), u_, u_, u_, u_, u_, u_, u_, u_, u_, u_, u_, u_, u_, u_, u_, u_, u_, u_, u_, u_, u_, u_, u_, u_, u_]) ?_
  unfold b_vgroP
  refine wp_seq (wp_reg (wo_mv .nils (wo_nil (thn_n (wp_seq ?_)))))
  refine wp_seq (wp_reg (wo_mv (.int .i64 (.ofNat n)) (wo_x (v := (.bool false)) (w_bin (cmp_lssF n 0 (by omega))) (wo_nil (thn_n ?_)))))
  refine wp_condF (wp_skip (thn_n (wp_seq (wp_seq (wp_reg ?_)))))
  refine wo_mv (.int .i64 (.ofNat n)) (wo_mv .nils (wo_x (v := (.int .i64 0)) (w_lit (fun K => rfl)) (wo_mv .nils (wo_x (v := (.int .i64 0)) (w_lit (fun K => rfl)) (wo_x (v := (.int .i64 0)) (w_lit (fun K => rfl)) ?_)))))
  refine wo_x (v := (.int .i64 (.ofNat n))) (w_bin (sub_i64 n 0 (by omega) (by omega))) (wo_mv (.int .i64 (.ofNat n)) (wo_nil (thn_n (wp_seq (wp_reg ?_)))))
  refine wo_mv (.int .i64 (.ofNat n)) ?_
  by_cases c1 : 0 < n
  · refine wo_x (v := (.bool true)) (w_bin (cmp_gtrT n 0 (by omega))) (wo_nil (thn_n (wp_condT (wp_reg (wo_mv .nils ?_)))))
    refine wo_mv .nils (wo_x (v := (.int .i64 0)) (w_lit (fun K => rfl)) (wo_x (v := .nils) (w_lit (fun K => rfl)) (wo_mv (.int .i64 (.ofNat n)) ?_)))
    obtain ⟨b2, M3, H4, e5, s6, k7⟩ := grow_app (es := 3) (bytes := 24) hs (RL.cat (RL.rep 2 (.int .i64 0)) (RL.one (.int .u64 0)) rfl) rfl (show 0 < n by omega) (by omega) (by omega)
    refine wo_x (v := (.slu b2 0 n 3)) (k7 rfl rfl) (wo_mv .nils (wo_x (v := (.int .i64 0)) (w_lit (fun K => rfl)) (wo_x (v := (.slu b2 0 0 3)) (grow_sll s6 e5 (by decide) (show 0 < n by omega) rfl rfl) (wo_mv (.slu b2 0 0 3) (wo_nil ?_)))))
    refine thn_n (wp_seq (wp_reg (wo_mv (.slu b2 0 0 3) (wo_mv (.slu b2 0 0 3) (wo_nil ?_)))))
    refine thn_n (wp_ret ?_)
    exact fin_1 (.slu b2 0 0 3) ⟨_, OwnG.sl0 e5, s6⟩
  · refine wo_x (v := (.bool false)) (w_bin (cmp_gtrF n 0 (by omega))) (wo_nil (thn_n (wp_condF (wp_skip (thn_n ?_)))))
    refine wp_seq (wp_reg (wo_mv .nils (wo_mv .nils (wo_nil (thn_n ?_)))))
    refine wp_ret ?_
    exact fin_1 .nils ⟨[], .nil (by omega), hs⟩
theorem conS3_ok [HvN] [NdN] [BkN] {tbl : Nat → Option FT} (T : HvT tbl) {b0 : Nat} {kx1 kx2 kx3 : List (List Nat)} {vx1 vx2 vx3 : AV} {N d : Nat} (hd : 2 ≤ d) {Z : Fz} {F : List Hl} {H : AH} (hs : Sat H Z ((.cells b0 [vx1, vx2, vx3]) :: F)) (hvx1 : Fl Z 1 vx1 (strs kx1)) (nvx1 : kx1.length ≤ 1000000000) (hvx2 : Fl Z 1 vx2 (strs kx2)) (nvx2 : kx2.length ≤ 1000000000) (hvx3 : Fl Z 1 vx3 (strs kx3)) (nvx3 : kx3.length ≤ 1000000000) (hN : 4 < N) :
    Ct (RUN tbl N d) (.fn (.fn (.func HvN.conS)) [] []) [(.slc b0 0 3 3)] H fun v H' => ∃ hl, Own 1 v (kx1 ++ (kx2 ++ kx3)).length (txC (kx1 ++ (kx2 ++ kx3))) hl ∧ Sat H' Z (hl ++ F) := by
  obtain ⟨d, rfl⟩ : ∃ e, d = e + 2 := ⟨d - 2, by omega⟩
  refine ct_code T.conS (b := b_vconS) (env := [(.slc b0 0 3 3), u_, u_, u_, u_, u_, u_, u_, u_, u_, u_, u_, u_, u_, u_, u_, u_, u_, u_, u_, u_, u_, u_, u_, u_, u_, u_, u_, u_, u_, u_, u_, u_, u_, u_, u_]) ?_
  unfold b_vconS
  refine wp_seq (wp_reg (wo_mv .nils (wo_nil (thn_n (wp_seq ?_)))))
  refine wp_reg (wo_mv (.int .i64 0) (wo_nil (thn_n (wp_seq (wp_seq ?_)))))
  refine wp_reg (wo_mv (.slc b0 0 3 3) (wo_x (v := (.int .i64 3)) (w_lit (fun K => rfl)) (wo_mv (.int .i64 0) (wo_nil (thn_n ?_)))))
  refine wp_block (wl_start (wl_step (by omega) (wp_seq (wp_reg (wo_x (v := (.bool true)) (w_lit (fun K => rfl)) ?_)))))
  refine wo_nil (thn_n (wp_seq (wp_condT (wp_skip (thn_n ?_)))))
  refine wp_seq (wp_block (wp_seq (wp_reg (wo_x (v := (.ptr b0 0)) (w_ixs (o := 0) (n := 0) (r := 0) rfl rfl (by omega) (by omega)) (wo_x (v := vx1) (s_ld1 hs 0 rfl) ?_)))))
  refine wo_mv vx1 (wo_nil (thn_n (wp_seq (wp_reg (wo_mv (.int .i64 0) ?_)))))
  refine wo_mv vx1 (wo_x (v := (.int .i64 (.ofNat kx1.length))) (fl_len hvx1 (strs_len kx1) rfl) (wo_x (v := (.int .i64 (.ofNat (0 + kx1.length)))) (w_bin (add_i64 0 kx1.length (by omega) _ _)) (wo_mv (.int .i64 (.ofNat (0 + kx1.length))) (wo_nil (thn_n ?_)))))
  refine wp_seq (wp_reg (wo_mv (.int .i64 (.ofNat (0 + kx1.length))) (wo_x (v := (.bool false)) (w_bin (cmp_lssF (0 + kx1.length) 0 (by omega))) (wo_nil (thn_n ?_)))))
  refine wp_condF (wp_skip (blk_n (thn_n (wp_reg (wo_x (v := (.int .i64 1)) (w_lit (fun K => rfl)) ?_)))))
  refine wo_mv (.int .i64 1) (wo_nil (thn_n (wl_step (by omega) (wp_seq (wp_reg ?_)))))
  refine wo_x (v := (.bool true)) (w_lit (fun K => rfl)) (wo_nil (thn_n (wp_seq (wp_condT (wp_skip ?_)))))
  refine thn_n (wp_seq (wp_block (wp_seq (wp_reg (wo_x (v := (.ptr b0 1)) (w_ixs (o := 0) (n := 1) (r := 1) rfl rfl (by omega) (by omega)) ?_)))))
  refine wo_x (v := vx2) (s_ld1 hs 0 rfl) (wo_mv vx2 (wo_nil (thn_n (wp_seq (wp_reg ?_)))))
  refine wo_mv (.int .i64 (.ofNat (0 + kx1.length))) (wo_mv vx2 (wo_x (v := (.int .i64 (.ofNat kx2.length))) (fl_len hvx2 (strs_len kx2) rfl) (wo_x (v := (.int .i64 (.ofNat ((0 + kx1.length) + kx2.length)))) (w_bin (add_i64 (0 + kx1.length) kx2.length (by omega) _ _)) (wo_mv (.int .i64 (.ofNat ((0 + kx1.length) + kx2.length))) (wo_nil ?_)))))
  refine thn_n (wp_seq (wp_reg (wo_mv (.int .i64 (.ofNat ((0 + kx1.length) + kx2.length))) (wo_x (v := (.bool false)) (w_bin (cmp_lssF ((0 + kx1.length) + kx2.length) 0 (by omega))) (wo_nil ?_)))))
  refine thn_n (wp_condF (wp_skip (blk_n (thn_n (wp_reg ?_)))))
  refine wo_x (v := (.int .i64 2)) (w_lit (fun K => rfl)) (wo_mv (.int .i64 2) (wo_nil (thn_n (wl_step (by omega) (wp_seq ?_)))))
  refine wp_reg (wo_x (v := (.bool true)) (w_lit (fun K => rfl)) (wo_nil (thn_n (wp_seq (wp_condT ?_)))))
  refine wp_skip (thn_n (wp_seq (wp_block (wp_seq (wp_reg ?_)))))
  refine wo_x (v := (.ptr b0 2)) (w_ixs (o := 0) (n := 2) (r := 2) rfl rfl (by omega) (by omega)) (wo_x (v := vx3) (s_ld1 hs 0 rfl) (wo_mv vx3 (wo_nil (thn_n (wp_seq ?_)))))
  refine wp_reg (wo_mv (.int .i64 (.ofNat ((0 + kx1.length) + kx2.length))) (wo_mv vx3 (wo_x (v := (.int .i64 (.ofNat kx3.length))) (fl_len hvx3 (strs_len kx3) rfl) (wo_x (v := (.int .i64 (.ofNat (((0 + kx1.length) + kx2.length) + kx3.length)))) (w_bin (add_i64 ((0 + kx1.length) + kx2.length) kx3.length (by omega) _ _)) (wo_mv (.int .i64 (.ofNat (((0 + kx1.length) + kx2.length) + kx3.length))) ?_)))))
  refine wo_nil (thn_n (wp_seq (wp_reg (wo_mv (.int .i64 (.ofNat (((0 + kx1.length) + kx2.length) + kx3.length))) (wo_x (v := (.bool false)) (w_bin (cmp_lssF (((0 + kx1.length) + kx2.length) + kx3.length) 0 (by omega))) ?_)))))
  refine wo_nil (thn_n (wp_condF (wp_skip (blk_n (thn_n ?_)))))
  refine wp_reg (wo_x (v := (.int .i64 3)) (w_lit (fun K => rfl)) (wo_mv (.int .i64 3) (wo_nil (thn_n (wl_step (by omega) ?_)))))
  refine wp_seq (wp_reg (wo_x (v := (.bool false)) (w_lit (fun K => rfl)) (wo_nil (thn_n (wp_seq ?_)))))
  refine wp_condF (wp_exit (thn_e (thn_e (blk_h (thn_n ?_)))))
  refine wp_seq (wp_reg (wo_mv (.int .i64 (.ofNat (((0 + kx1.length) + kx2.length) + kx3.length))) ?_))
  obtain ⟨v1, H2, ⟨l3, o4, s5⟩, k6⟩ := groS_ok T (N := N) (d := d + 1) (by omega) hs (n := ((0 + kx1.length) + kx2.length) + kx3.length) (by omega)
  have s7 : Sat H2 Z ((.cells b0 [vx1, vx2, vx3]) :: (l3 ++ F)) := Sat.rot (l₁ := l3) (hl := [.cells b0 [vx1, vx2, vx3]]) s5
  refine wo_call k6 (wo_mv v1 (wo_nil (thn_n (wp_seq (wp_seq ?_)))))
  refine wp_reg (wo_mv (.slc b0 0 3 3) (wo_x (v := (.int .i64 3)) (w_lit (fun K => rfl)) (wo_mv (.int .i64 0) (wo_nil (thn_n ?_)))))
  refine wp_block (wl_start (wl_step (by omega) (wp_seq (wp_reg (wo_x (v := (.bool true)) (w_lit (fun K => rfl)) ?_)))))
  refine wo_nil (thn_n (wp_seq (wp_condT (wp_skip (thn_n ?_)))))
  refine wp_seq (wp_block (wp_seq (wp_reg (wo_x (v := (.ptr b0 0)) (w_ixs (o := 0) (n := 0) (r := 0) rfl rfl (by omega) (by omega)) (wo_x (v := vx1) (s_ld1 s7 0 rfl) ?_)))))
  refine wo_mv vx1 (wo_nil (thn_n (wp_reg (wo_mv v1 (wo_mv vx1 ?_)))))
  have r9 := Sat.rot (H := H2) (Z := Z) (l₁ := [.cells b0 [vx1, vx2, vx3]]) (hl := l3) (F := F) (s7)
  have c8 := src_strs r9 hvx1
  obtain ⟨v10, l11, H12, h13, s14, k15⟩ := g_app (bytes := 16) r9 o4 c8 (by omega)
  have s16 : Sat H12 Z ((.cells b0 [vx1, vx2, vx3]) :: (l11 ++ F)) := by have h := Sat.rot (l₁ := l11) (hl := [.cells b0 [vx1, vx2, vx3]]) s14; exact h
  refine wo_x (v := v10) (k15 rfl rfl) (wo_mv v10 (wo_nil (blk_n (thn_n (wp_reg ?_)))))
  refine wo_x (v := (.int .i64 1)) (w_lit (fun K => rfl)) (wo_mv (.int .i64 1) (wo_nil (thn_n (wl_step (by omega) (wp_seq ?_)))))
  refine wp_reg (wo_x (v := (.bool true)) (w_lit (fun K => rfl)) (wo_nil (thn_n (wp_seq (wp_condT ?_)))))
  refine wp_skip (thn_n (wp_seq (wp_block (wp_seq (wp_reg ?_)))))
  refine wo_x (v := (.ptr b0 1)) (w_ixs (o := 0) (n := 1) (r := 1) rfl rfl (by omega) (by omega)) (wo_x (v := vx2) (s_ld1 s16 0 rfl) (wo_mv vx2 (wo_nil (thn_n (wp_reg ?_)))))
  refine wo_mv v10 (wo_mv vx2 ?_)
  have r18 := Sat.rot (H := H12) (Z := Z) (l₁ := [.cells b0 [vx1, vx2, vx3]]) (hl := l11) (F := F) (s16)
  have c17 := src_strs r18 hvx2
  obtain ⟨v19, l20, H21, h22, s23, k24⟩ := g_app (bytes := 16) r18 h13 c17 (by omega)
  have s25 : Sat H21 Z ((.cells b0 [vx1, vx2, vx3]) :: (l20 ++ F)) := by have h := Sat.rot (l₁ := l20) (hl := [.cells b0 [vx1, vx2, vx3]]) s23; exact h
  refine wo_x (v := v19) (k24 rfl rfl) (wo_mv v19 (wo_nil (blk_n (thn_n (wp_reg ?_)))))
  refine wo_x (v := (.int .i64 2)) (w_lit (fun K => rfl)) (wo_mv (.int .i64 2) (wo_nil (thn_n (wl_step (by omega) (wp_seq ?_)))))
  refine wp_reg (wo_x (v := (.bool true)) (w_lit (fun K => rfl)) (wo_nil (thn_n (wp_seq (wp_condT ?_)))))
  refine wp_skip (thn_n (wp_seq (wp_block (wp_seq (wp_reg ?_)))))
  refine wo_x (v := (.ptr b0 2)) (w_ixs (o := 0) (n := 2) (r := 2) rfl rfl (by omega) (by omega)) (wo_x (v := vx3) (s_ld1 s25 0 rfl) (wo_mv vx3 (wo_nil (thn_n (wp_reg ?_)))))
  refine wo_mv v19 (wo_mv vx3 ?_)
  have r27 := Sat.rot (H := H21) (Z := Z) (l₁ := [.cells b0 [vx1, vx2, vx3]]) (hl := l20) (F := F) (s25)
  have c26 := src_strs r27 hvx3
  obtain ⟨v28, l29, H30, h31, s32, k33⟩ := g_app (bytes := 16) r27 h22 c26 (by omega)
  have s34 : Sat H30 Z ((.cells b0 [vx1, vx2, vx3]) :: (l29 ++ F)) := by have h := Sat.rot (l₁ := l29) (hl := [.cells b0 [vx1, vx2, vx3]]) s32; exact h
  refine wo_x (v := v28) (k33 rfl rfl) (wo_mv v28 (wo_nil (blk_n (thn_n (wp_reg ?_)))))
  refine wo_x (v := (.int .i64 3)) (w_lit (fun K => rfl)) (wo_mv (.int .i64 3) (wo_nil (thn_n (wl_step (by omega) (wp_seq ?_)))))
  refine wp_reg (wo_x (v := (.bool false)) (w_lit (fun K => rfl)) (wo_nil (thn_n (wp_seq (wp_condF ?_)))))
  refine wp_exit (thn_e (thn_e (blk_h (thn_n (wp_seq ?_)))))
  refine wp_reg (wo_mv v28 (wo_mv v28 (wo_nil (thn_n (wp_ret ?_)))))
  have s35 := s34.drop 0
  exact fin_1 v28 ⟨_, OwnG.own' h31 (by simp only [List.length_append]; omega) (by simp only [List.length_append]; omega) (by simp only [txC_app, List.nil_append, List.append_assoc]), s35⟩
theorem conS2_ok [HvN] [NdN] [BkN] {tbl : Nat → Option FT} (T : HvT tbl) {b0 : Nat} {kx1 kx2 : List (List Nat)} {vx1 vx2 : AV} {N d : Nat} (hd : 2 ≤ d) {Z : Fz} {F : List Hl} {H : AH} (hs : Sat H Z ((.cells b0 [vx1, vx2]) :: F)) (hvx1 : Fl Z 1 vx1 (strs kx1)) (nvx1 : kx1.length ≤ 1000000000) (hvx2 : Fl Z 1 vx2 (strs kx2)) (nvx2 : kx2.length ≤ 1000000000) (hN : 4 < N) :
    Ct (RUN tbl N d) (.fn (.fn (.func HvN.conS)) [] []) [(.slc b0 0 2 2)] H fun v H' => ∃ hl, Own 1 v (kx1 ++ kx2).length (txC (kx1 ++ kx2)) hl ∧ Sat H' Z (hl ++ F) := by
  obtain ⟨d, rfl⟩ : ∃ e, d = e + 2 := ⟨d - 2, by omega⟩
  refine ct_code T.conS (b := b_vconS) (env := [(.slc b0 0 2 2), u_, u_, u_, u_, u_, u_, u_, u_, u_, u_, u_, u_, u_, u_, u_, u_, u_, u_, u_, u_, u_, u_, u_, u_, u_, u_, u_, u_, u_, u_, u_, u_, u_, u_, u_]) ?_
  unfold b_vconS
  refine wp_seq (wp_reg (wo_mv .nils (wo_nil (thn_n (wp_seq ?_)))))
  refine wp_reg (wo_mv (.int .i64 0) (wo_nil (thn_n (wp_seq (wp_seq ?_)))))
  refine wp_reg (wo_mv (.slc b0 0 2 2) (wo_x (v := (.int .i64 2)) (w_lit (fun K => rfl)) (wo_mv (.int .i64 0) (wo_nil (thn_n ?_)))))
  refine wp_block (wl_start (wl_step (by omega) (wp_seq (wp_reg (wo_x (v := (.bool true)) (w_lit (fun K => rfl)) ?_)))))
  refine wo_nil (thn_n (wp_seq (wp_condT (wp_skip (thn_n ?_)))))
  refine wp_seq (wp_block (wp_seq (wp_reg (wo_x (v := (.ptr b0 0)) (w_ixs (o := 0) (n := 0) (r := 0) rfl rfl (by omega) (by omega)) (wo_x (v := vx1) (s_ld1 hs 0 rfl) ?_)))))
  refine wo_mv vx1 (wo_nil (thn_n (wp_seq (wp_reg (wo_mv (.int .i64 0) ?_)))))
  refine wo_mv vx1 (wo_x (v := (.int .i64 (.ofNat kx1.length))) (fl_len hvx1 (strs_len kx1) rfl) (wo_x (v := (.int .i64 (.ofNat (0 + kx1.length)))) (w_bin (add_i64 0 kx1.length (by omega) _ _)) (wo_mv (.int .i64 (.ofNat (0 + kx1.length))) (wo_nil (thn_n ?_)))))
  refine wp_seq (wp_reg (wo_mv (.int .i64 (.ofNat (0 + kx1.length))) (wo_x (v := (.bool false)) (w_bin (cmp_lssF (0 + kx1.length) 0 (by omega))) (wo_nil (thn_n ?_)))))
  refine wp_condF (wp_skip (blk_n (thn_n (wp_reg (wo_x (v := (.int .i64 1)) (w_lit (fun K => rfl)) ?_)))))
  refine wo_mv (.int .i64 1) (wo_nil (thn_n (wl_step (by omega) (wp_seq (wp_reg ?_)))))
  refine wo_x (v := (.bool true)) (w_lit (fun K => rfl)) (wo_nil (thn_n (wp_seq (wp_condT (wp_skip ?_)))))
  refine thn_n (wp_seq (wp_block (wp_seq (wp_reg (wo_x (v := (.ptr b0 1)) (w_ixs (o := 0) (n := 1) (r := 1) rfl rfl (by omega) (by omega)) ?_)))))
  refine wo_x (v := vx2) (s_ld1 hs 0 rfl) (wo_mv vx2 (wo_nil (thn_n (wp_seq (wp_reg ?_)))))
  refine wo_mv (.int .i64 (.ofNat (0 + kx1.length))) (wo_mv vx2 (wo_x (v := (.int .i64 (.ofNat kx2.length))) (fl_len hvx2 (strs_len kx2) rfl) (wo_x (v := (.int .i64 (.ofNat ((0 + kx1.length) + kx2.length)))) (w_bin (add_i64 (0 + kx1.length) kx2.length (by omega) _ _)) (wo_mv (.int .i64 (.ofNat ((0 + kx1.length) + kx2.length))) (wo_nil ?_)))))
  refine thn_n (wp_seq (wp_reg (wo_mv (.int .i64 (.ofNat ((0 + kx1.length) + kx2.length))) (wo_x (v := (.bool false)) (w_bin (cmp_lssF ((0 + kx1.length) + kx2.length) 0 (by omega))) (wo_nil ?_)))))
  refine thn_n (wp_condF (wp_skip (blk_n (thn_n (wp_reg ?_)))))
  refine wo_x (v := (.int .i64 2)) (w_lit (fun K => rfl)) (wo_mv (.int .i64 2) (wo_nil (thn_n (wl_step (by omega) (wp_seq ?_)))))
  refine wp_reg (wo_x (v := (.bool false)) (w_lit (fun K => rfl)) (wo_nil (thn_n (wp_seq (wp_condF ?_)))))
  refine wp_exit (thn_e (thn_e (blk_h (thn_n (wp_seq ?_)))))
  refine wp_reg (wo_mv (.int .i64 (.ofNat ((0 + kx1.length) + kx2.length))) ?_)
  obtain ⟨v1, H2, ⟨l3, o4, s5⟩, k6⟩ := groS_ok T (N := N) (d := d + 1) (by omega) hs (n := (0 + kx1.length) + kx2.length) (by omega)
  have s7 : Sat H2 Z ((.cells b0 [vx1, vx2]) :: (l3 ++ F)) := Sat.rot (l₁ := l3) (hl := [.cells b0 [vx1, vx2]]) s5
  refine wo_call k6 (wo_mv v1 (wo_nil (thn_n (wp_seq (wp_seq ?_)))))
  refine wp_reg (wo_mv (.slc b0 0 2 2) (wo_x (v := (.int .i64 2)) (w_lit (fun K => rfl)) (wo_mv (.int .i64 0) (wo_nil (thn_n ?_)))))
  refine wp_block (wl_start (wl_step (by omega) (wp_seq (wp_reg (wo_x (v := (.bool true)) (w_lit (fun K => rfl)) ?_)))))
  refine wo_nil (thn_n (wp_seq (wp_condT (wp_skip (thn_n ?_)))))
  refine wp_seq (wp_block (wp_seq (wp_reg (wo_x (v := (.ptr b0 0)) (w_ixs (o := 0) (n := 0) (r := 0) rfl rfl (by omega) (by omega)) (wo_x (v := vx1) (s_ld1 s7 0 rfl) ?_)))))
  refine wo_mv vx1 (wo_nil (thn_n (wp_reg (wo_mv v1 (wo_mv vx1 ?_)))))
  have r9 := Sat.rot (H := H2) (Z := Z) (l₁ := [.cells b0 [vx1, vx2]]) (hl := l3) (F := F) (s7)
  have c8 := src_strs r9 hvx1
  obtain ⟨v10, l11, H12, h13, s14, k15⟩ := g_app (bytes := 16) r9 o4 c8 (by omega)
  have s16 : Sat H12 Z ((.cells b0 [vx1, vx2]) :: (l11 ++ F)) := by have h := Sat.rot (l₁ := l11) (hl := [.cells b0 [vx1, vx2]]) s14; exact h
  refine wo_x (v := v10) (k15 rfl rfl) (wo_mv v10 (wo_nil (blk_n (thn_n (wp_reg ?_)))))
  refine wo_x (v := (.int .i64 1)) (w_lit (fun K => rfl)) (wo_mv (.int .i64 1) (wo_nil (thn_n (wl_step (by omega) (wp_seq ?_)))))
  refine wp_reg (wo_x (v := (.bool true)) (w_lit (fun K => rfl)) (wo_nil (thn_n (wp_seq (wp_condT ?_)))))
  refine wp_skip (thn_n (wp_seq (wp_block (wp_seq (wp_reg ?_)))))
  refine wo_x (v := (.ptr b0 1)) (w_ixs (o := 0) (n := 1) (r := 1) rfl rfl (by omega) (by omega)) (wo_x (v := vx2) (s_ld1 s16 0 rfl) (wo_mv vx2 (wo_nil (thn_n (wp_reg ?_)))))
  refine wo_mv v10 (wo_mv vx2 ?_)
  have r18 := Sat.rot (H := H12) (Z := Z) (l₁ := [.cells b0 [vx1, vx2]]) (hl := l11) (F := F) (s16)
  have c17 := src_strs r18 hvx2
  obtain ⟨v19, l20, H21, h22, s23, k24⟩ := g_app (bytes := 16) r18 h13 c17 (by omega)
  have s25 : Sat H21 Z ((.cells b0 [vx1, vx2]) :: (l20 ++ F)) := by have h := Sat.rot (l₁ := l20) (hl := [.cells b0 [vx1, vx2]]) s23; exact h
  refine wo_x (v := v19) (k24 rfl rfl) (wo_mv v19 (wo_nil (blk_n (thn_n (wp_reg ?_)))))
  refine wo_x (v := (.int .i64 2)) (w_lit (fun K => rfl)) (wo_mv (.int .i64 2) (wo_nil (thn_n (wl_step (by omega) (wp_seq ?_)))))
  refine wp_reg (wo_x (v := (.bool false)) (w_lit (fun K => rfl)) (wo_nil (thn_n (wp_seq (wp_condF ?_)))))
  refine wp_exit (thn_e (thn_e (blk_h (thn_n (wp_seq ?_)))))
  refine wp_reg (wo_mv v19 (wo_mv v19 (wo_nil (thn_n (wp_ret ?_)))))
  have s26 := s25.drop 0
  exact fin_1 v19 ⟨_, OwnG.own' h22 (by simp only [List.length_append]; omega) (by simp only [List.length_append]; omega) (by simp only [txC_app, List.nil_append, List.append_assoc]), s26⟩
theorem conP2_ok [HvN] [NdN] [BkN] {tbl : Nat → Option FT} (T : HvT tbl) {b0 : Nat} {kx1 kx2 : List PtrM} {vx1 vx2 : AV} {N d : Nat} (hd : 2 ≤ d) {Z : Fz} {F : List Hl} {H : AH} (hs : Sat H Z ((.cells b0 [vx1, vx2]) :: F)) (hvx1 : Fl Z 3 vx1 (ptrs kx1)) (nvx1 : kx1.length ≤ 1000000000) (hvx2 : Fl Z 3 vx2 (ptrs kx2)) (nvx2 : kx2.length ≤ 1000000000) (hN : 4 < N) :
    Ct (RUN tbl N d) (.fn (.fn (.func HvN.conP)) [] []) [(.slc b0 0 2 2)] H fun v H' => ∃ hl, Own 3 v (kx1 ++ kx2).length (ptC (kx1 ++ kx2)) hl ∧ Sat H' Z (hl ++ F) := by
  obtain ⟨d, rfl⟩ : ∃ e, d = e + 2 := ⟨d - 2, by omega⟩
  refine ct_code T.conP (b := b_vconP) (env := [(.slc b0 0 2 2), u_, u_, u_, u_, u_, u_, u_, u_, u_, u_, u_, u_, u_, u_, u_, u_, u_, u_, u_, u_, u_, u_, u_, u_, u_, u_, u_, u_, u_, u_, u_, u_, u_, u_, u_]) ?_
  unfold b_vconP
  refine wp_seq (wp_reg (wo_mv .nils (wo_nil (thn_n (wp_seq ?_)))))
  refine wp_reg (wo_mv (.int .i64 0) (wo_nil (thn_n (wp_seq (wp_seq ?_)))))
  refine wp_reg (wo_mv (.slc b0 0 2 2) (wo_x (v := (.int .i64 2)) (w_lit (fun K => rfl)) (wo_mv (.int .i64 0) (wo_nil (thn_n ?_)))))
  refine wp_block (wl_start (wl_step (by omega) (wp_seq (wp_reg (wo_x (v := (.bool true)) (w_lit (fun K => rfl)) ?_)))))
  refine wo_nil (thn_n (wp_seq (wp_condT (wp_skip (thn_n ?_)))))
  refine wp_seq (wp_block (wp_seq (wp_reg (wo_x (v := (.ptr b0 0)) (w_ixs (o := 0) (n := 0) (r := 0) rfl rfl (by omega) (by omega)) (wo_x (v := vx1) (s_ld1 hs 0 rfl) ?_)))))
  refine wo_mv vx1 (wo_nil (thn_n (wp_seq (wp_reg (wo_mv (.int .i64 0) ?_)))))
  refine wo_mv vx1 (wo_x (v := (.int .i64 (.ofNat kx1.length))) (fl_len hvx1 (ptrs_len kx1) rfl) (wo_x (v := (.int .i64 (.ofNat (0 + kx1.length)))) (w_bin (add_i64 0 kx1.length (by omega) _ _)) (wo_mv (.int .i64 (.ofNat (0 + kx1.length))) (wo_nil (thn_n ?_)))))
  refine wp_seq (wp_reg (wo_mv (.int .i64 (.ofNat (0 + kx1.length))) (wo_x (v := (.bool false)) (w_bin (cmp_lssF (0 + kx1.length) 0 (by omega))) (wo_nil (thn_n ?_)))))
  refine wp_condF (wp_skip (blk_n (thn_n (wp_reg (wo_x (v := (.int .i64 1)) (w_lit (fun K => rfl)) ?_)))))
  refine wo_mv (.int .i64 1) (wo_nil (thn_n (wl_step (by omega) (wp_seq (wp_reg ?_)))))
  refine wo_x (v := (.bool true)) (w_lit (fun K => rfl)) (wo_nil (thn_n (wp_seq (wp_condT (wp_skip ?_)))))
  refine thn_n (wp_seq (wp_block (wp_seq (wp_reg (wo_x (v := (.ptr b0 1)) (w_ixs (o := 0) (n := 1) (r := 1) rfl rfl (by omega) (by omega)) ?_)))))
  refine wo_x (v := vx2) (s_ld1 hs 0 rfl) (wo_mv vx2 (wo_nil (thn_n (wp_seq (wp_reg ?_)))))
  refine wo_mv (.int .i64 (.ofNat (0 + kx1.length))) (wo_mv vx2 (wo_x (v := (.int .i64 (.ofNat kx2.length))) (fl_len hvx2 (ptrs_len kx2) rfl) (wo_x (v := (.int .i64 (.ofNat ((0 + kx1.length) + kx2.length)))) (w_bin (add_i64 (0 + kx1.length) kx2.length (by omega) _ _)) (wo_mv (.int .i64 (.ofNat ((0 + kx1.length) + kx2.length))) (wo_nil ?_)))))
  refine thn_n (wp_seq (wp_reg (wo_mv (.int .i64 (.ofNat ((0 + kx1.length) + kx2.length))) (wo_x (v := (.bool false)) (w_bin (cmp_lssF ((0 + kx1.length) + kx2.length) 0 (by omega))) (wo_nil ?_)))))
  refine thn_n (wp_condF (wp_skip (blk_n (thn_n (wp_reg ?_)))))
  refine wo_x (v := (.int .i64 2)) (w_lit (fun K => rfl)) (wo_mv (.int .i64 2) (wo_nil (thn_n (wl_step (by omega) (wp_seq ?_)))))
  refine wp_reg (wo_x (v := (.bool false)) (w_lit (fun K => rfl)) (wo_nil (thn_n (wp_seq (wp_condF ?_)))))
  refine wp_exit (thn_e (thn_e (blk_h (thn_n (wp_seq ?_)))))
  refine wp_reg (wo_mv (.int .i64 (.ofNat ((0 + kx1.length) + kx2.length))) ?_)
  obtain ⟨v1, H2, ⟨l3, o4, s5⟩, k6⟩ := groP_ok T (N := N) (d := d + 1) (by omega) hs (n := (0 + kx1.length) + kx2.length) (by omega)
  have s7 : Sat H2 Z ((.cells b0 [vx1, vx2]) :: (l3 ++ F)) := Sat.rot (l₁ := l3) (hl := [.cells b0 [vx1, vx2]]) s5
  refine wo_call k6 (wo_mv v1 (wo_nil (thn_n (wp_seq (wp_seq ?_)))))
  refine wp_reg (wo_mv (.slc b0 0 2 2) (wo_x (v := (.int .i64 2)) (w_lit (fun K => rfl)) (wo_mv (.int .i64 0) (wo_nil (thn_n ?_)))))
  refine wp_block (wl_start (wl_step (by omega) (wp_seq (wp_reg (wo_x (v := (.bool true)) (w_lit (fun K => rfl)) ?_)))))
  refine wo_nil (thn_n (wp_seq (wp_condT (wp_skip (thn_n ?_)))))
  refine wp_seq (wp_block (wp_seq (wp_reg (wo_x (v := (.ptr b0 0)) (w_ixs (o := 0) (n := 0) (r := 0) rfl rfl (by omega) (by omega)) (wo_x (v := vx1) (s_ld1 s7 0 rfl) ?_)))))
  refine wo_mv vx1 (wo_nil (thn_n (wp_reg (wo_mv v1 (wo_mv vx1 ?_)))))
  have r9 := Sat.rot (H := H2) (Z := Z) (l₁ := [.cells b0 [vx1, vx2]]) (hl := l3) (F := F) (s7)
  have c8 := src_ptrs r9 hvx1
  obtain ⟨v10, l11, H12, h13, s14, k15⟩ := g_app (bytes := 24) r9 o4 c8 (by omega)
  have s16 : Sat H12 Z ((.cells b0 [vx1, vx2]) :: (l11 ++ F)) := by have h := Sat.rot (l₁ := l11) (hl := [.cells b0 [vx1, vx2]]) s14; exact h
  refine wo_x (v := v10) (k15 rfl rfl) (wo_mv v10 (wo_nil (blk_n (thn_n (wp_reg ?_)))))
  refine wo_x (v := (.int .i64 1)) (w_lit (fun K => rfl)) (wo_mv (.int .i64 1) (wo_nil (thn_n (wl_step (by omega) (wp_seq ?_)))))
  refine wp_reg (wo_x (v := (.bool true)) (w_lit (fun K => rfl)) (wo_nil (thn_n (wp_seq (wp_condT ?_)))))
  refine wp_skip (thn_n (wp_seq (wp_block (wp_seq (wp_reg ?_)))))
  refine wo_x (v := (.ptr b0 1)) (w_ixs (o := 0) (n := 1) (r := 1) rfl rfl (by omega) (by omega)) (wo_x (v := vx2) (s_ld1 s16 0 rfl) (wo_mv vx2 (wo_nil (thn_n (wp_reg ?_)))))
  refine wo_mv v10 (wo_mv vx2 ?_)
  have r18 := Sat.rot (H := H12) (Z := Z) (l₁ := [.cells b0 [vx1, vx2]]) (hl := l11) (F := F) (s16)
  have c17 := src_ptrs r18 hvx2
  obtain ⟨v19, l20, H21, h22, s23, k24⟩ := g_app (bytes := 24) r18 h13 c17 (by omega)
  have s25 : Sat H21 Z ((.cells b0 [vx1, vx2]) :: (l20 ++ F)) := by have h := Sat.rot (l₁ := l20) (hl := [.cells b0 [vx1, vx2]]) s23; exact h
  refine wo_x (v := v19) (k24 rfl rfl) (wo_mv v19 (wo_nil (blk_n (thn_n (wp_reg ?_)))))
  refine wo_x (v := (.int .i64 2)) (w_lit (fun K => rfl)) (wo_mv (.int .i64 2) (wo_nil (thn_n (wl_step (by omega) (wp_seq ?_)))))
  refine wp_reg (wo_x (v := (.bool false)) (w_lit (fun K => rfl)) (wo_nil (thn_n (wp_seq (wp_condF ?_)))))
  refine wp_exit (thn_e (thn_e (blk_h (thn_n (wp_seq ?_)))))
  refine wp_reg (wo_mv v19 (wo_mv v19 (wo_nil (thn_n (wp_ret ?_)))))
  have s26 := s25.drop 0
  exact fin_1 v19 ⟨_, OwnG.own' h22 (by simp only [List.length_append]; omega) (by simp only [List.length_append]; omega) (by simp only [ptC_app, List.nil_append, List.append_assoc]), s26⟩
theorem partL_ok [HvN] [NdN] [BkN] {tbl : Nat → Option FT} (T : HvT tbl) {i j : Nat} {ks vs : List (List Nat)} {ps : List PtrM} {vk vv vp : AV} {r : Rp AV} {N d : Nat} (hd : 1 ≤ d) {Z : Fz} {F : List Hl} {H : AH} (hs : Sat H Z (F)) (hr : RL r [.bool true, vk, vv, vp]) (hk : Fl Z 1 vk (strs ks)) (hv : Fl Z 1 vv (strs vs)) (hp : Fl Z 3 vp (ptrs ps)) (hkl : ks.length ≤ 1099511627776) (hvl : vs.length ≤ 1099511627776) (hpl : ps.length ≤ 1099511627776) (hij : i ≤ j) (hj : j ≤ ks.length) (hj2 : j ≤ vs.length) :
    Ct (RUN tbl N d) (.fn (.fn (.func HvN.part)) [] []) [(.agg r), (.int .i64 (.ofNat i)), (.int .i64 (.ofNat j))] H fun v H' => ∃ q wk wo, v = .agg q ∧ RL q [.bool true, wk, wo, .nils] ∧ Fl Z 1 wk (strs (win ks i j)) ∧ Fl Z 1 wo (strs (win vs i j)) ∧ Sat H' Z F := by
  obtain ⟨d, rfl⟩ : ∃ e, d = e + 1 := ⟨d - 1, by omega⟩
  refine ct_code T.part (b := b_vpart) (env := [(.agg r), (.int .i64 (.ofNat i)), (.int .i64 (.ofNat j)), u_, u_, u_, u_, u_, u_, u_, u_, u_, u_, u_, u_, u_, u_, u_, u_, u_, u_, u_, u_, u_, u_, u_, u_, u_, u_, u_, u_, u_, u_, u_, u_, u_]) ?_
  unfold b_vpart
  refine wp_seq (wp_reg ?_)
  obtain ⟨b1, H2, s3, k4⟩ := s_boxn hs hr
  refine wo_x (v := (.ptr b1 0)) (k4 rfl) ?_
  obtain ⟨b5, H6, s7, k8⟩ := s_alloc s3 (RL.cat (RL.one (.bool false)) (RL.rep 3 .nils) rfl)
  refine wo_x (v := (.ptr b5 0)) (k8) (wo_nil (thn_n (wp_seq (wp_dreg (wd_run ?_)))))
  refine wo_x (v := (.ptr b1 0)) (ca_fla rfl rfl) (wo_nil (wd_run (wo_x (v := (.bool true)) (s_ld1 s7 1 rfl) (wo_nil (wd_run ?_)))))
  refine wo_x (v := (.ptr b1 1)) (ca_fla rfl rfl) (wo_nil (wd_run (wo_x (v := vk) (s_ld1 s7 1 rfl) (wo_nil (wd_run ?_)))))
  refine wo_mv (.int .i64 (.ofNat i)) (wo_nil (wd_run (wo_mv (.int .i64 (.ofNat j)) (wo_nil (wd_run ?_)))))
  refine wo_mv (.int .i64 (.ofNat j)) (wo_nil (wd_run ?_))
  obtain ⟨v9, h10, k11⟩ := fl_win hk i j (by omega) (by omega)
  refine wo_x (v := v9) (k11 rfl rfl rfl rfl) (wo_nil (wd_run (wo_x (v := (.agg (Rp.set (Rp.set (.cat 1 (.one (.bool false)) (.rep 3 .nils)) 0 (.bool true)) 1 v9))) (w_build (r := (Rp.set (Rp.set (.cat 1 (.one (.bool false)) (.rep 3 .nils)) 0 (.bool true)) 1 v9)) (fill_s (v := (.bool true)) rfl rfl rfl (fill_s (v := v9) rfl (fl_sc h10) rfl fill_nil))) (wo_nil (wd_run ?_)))))
  obtain ⟨b12, H13, s14, k15⟩ := s_alloc s7 (RL.cat (RL.one (.bool false)) (RL.rep 3 .nils) rfl)
  refine wo_x (v := (.ptr b12 0)) (k15) (wo_nil (wd_nil (ws_cons ?_)))
  obtain ⟨H16, s17, k18⟩ := s_stn s14 (((RL.cat (RL.one (.bool false)) (RL.rep 3 .nils) rfl).set 0 (.bool true)).set 1 v9) 0 4 rfl (Nat.le_of_ble_eq_true rfl)
  refine wo_n (k18 rfl rfl) (wo_nil (wd_nil (ws_nil (thn_n (wp_seq ?_)))))
  refine wp_seq (wp_reg (wo_x (v := (.ptr b1 0)) (ca_fla rfl rfl) (wo_x (v := (.bool true)) (s_ld1 s17 2 rfl) (wo_nil (thn_n ?_)))))
  refine wp_condT (wp_reg (wo_x (v := (.ptr b1 2)) (ca_fla rfl rfl) (wo_x (v := vv) (s_ld1 s17 2 rfl) (wo_mv (.int .i64 (.ofNat i)) (wo_mv (.int .i64 (.ofNat j)) ?_)))))
  refine wo_mv (.int .i64 (.ofNat j)) ?_
  obtain ⟨v19, h20, k21⟩ := fl_win hv i j (by omega) (by omega)
  refine wo_x (v := v19) (k21 rfl rfl rfl rfl) (wo_x (v := (.ptr b12 2)) (ca_fla rfl rfl) ?_)
  obtain ⟨H22, s23, k24⟩ := s_st s17 2 v19 (Nat.le_of_ble_eq_true rfl) (hv := (fl_sc h20))
  refine wo_n (k24 rfl rfl) (wo_nil (thn_n (wp_seq (wp_reg ?_))))
  obtain ⟨r25, q26, k27⟩ := s_ldn s23 0 0 4 
  refine wo_x (v := (.agg r25)) (k27 rfl) ?_
  have s28 := s23.pull 1
  obtain ⟨H29, s30, k31⟩ := s_stn s28 q26 0 4 rfl (Nat.le_of_ble_eq_true rfl)
  refine wo_n (k31 rfl rfl) (wo_nil (thn_n (wp_ret ?_)))
  refine fin_c  (off := 0) s30 0 fun r32 q33 => ?_
  have s34 := s30.drop 0
  have s35 := s34.drop 0
  have s36 := s35.drop 0
  exact ⟨_, _, _, rfl, q33, h10, h20, s36⟩
theorem partI_ok [HvN] [NdN] [BkN] {tbl : Nat → Option FT} (T : HvT tbl) {i j : Nat} {ks vs : List (List Nat)} {ps : List PtrM} {vk vv vp : AV} {r : Rp AV} {N d : Nat} (hd : 1 ≤ d) {Z : Fz} {F : List Hl} {H : AH} (hs : Sat H Z (F)) (hr : RL r [.bool false, vk, vv, vp]) (hk : Fl Z 1 vk (strs ks)) (hv : Fl Z 1 vv (strs vs)) (hp : Fl Z 3 vp (ptrs ps)) (hkl : ks.length ≤ 1099511627776) (hvl : vs.length ≤ 1099511627776) (hpl : ps.length ≤ 1099511627776) (hij : i ≤ j) (hj : j ≤ ks.length) (hj2 : j + 1 ≤ ps.length) :
    Ct (RUN tbl N d) (.fn (.fn (.func HvN.part)) [] []) [(.agg r), (.int .i64 (.ofNat i)), (.int .i64 (.ofNat j))] H fun v H' => ∃ q wk wo, v = .agg q ∧ RL q [.bool false, wk, .nils, wo] ∧ Fl Z 1 wk (strs (win ks i j)) ∧ Fl Z 3 wo (ptrs (win ps i (j + 1))) ∧ Sat H' Z F := by
  obtain ⟨d, rfl⟩ : ∃ e, d = e + 1 := ⟨d - 1, by omega⟩
  refine ct_code T.part (b := b_vpart) (env := [(.agg r), (.int .i64 (.ofNat i)), (.int .i64 (.ofNat j)), u_, u_, u_, u_, u_, u_, u_, u_, u_, u_, u_, u_, u_, u_, u_, u_, u_, u_, u_, u_, u_, u_, u_, u_, u_, u_, u_, u_, u_, u_, u_, u_, u_]) ?_
  unfold b_vpart
  refine wp_seq (wp_reg ?_)
  obtain ⟨b1, H2, s3, k4⟩ := s_boxn hs hr
  refine wo_x (v := (.ptr b1 0)) (k4 rfl) ?_
  obtain ⟨b5, H6, s7, k8⟩ := s_alloc s3 (RL.cat (RL.one (.bool false)) (RL.rep 3 .nils) rfl)
  refine wo_x (v := (.ptr b5 0)) (k8) (wo_nil (thn_n (wp_seq (wp_dreg (wd_run ?_)))))
  refine wo_x (v := (.ptr b1 0)) (ca_fla rfl rfl) (wo_nil (wd_run (wo_x (v := (.bool false)) (s_ld1 s7 1 rfl) (wo_nil (wd_run ?_)))))
  refine wo_x (v := (.ptr b1 1)) (ca_fla rfl rfl) (wo_nil (wd_run (wo_x (v := vk) (s_ld1 s7 1 rfl) (wo_nil (wd_run ?_)))))
  refine wo_mv (.int .i64 (.ofNat i)) (wo_nil (wd_run (wo_mv (.int .i64 (.ofNat j)) (wo_nil (wd_run ?_)))))
  refine wo_mv (.int .i64 (.ofNat j)) (wo_nil (wd_run ?_))
  obtain ⟨v9, h10, k11⟩ := fl_win hk i j (by omega) (by omega)
  refine wo_x (v := v9) (k11 rfl rfl rfl rfl) (wo_nil (wd_run (wo_x (v := (.agg (Rp.set (Rp.set (.cat 1 (.one (.bool false)) (.rep 3 .nils)) 0 (.bool false)) 1 v9))) (w_build (r := (Rp.set (Rp.set (.cat 1 (.one (.bool false)) (.rep 3 .nils)) 0 (.bool false)) 1 v9)) (fill_s (v := (.bool false)) rfl rfl rfl (fill_s (v := v9) rfl (fl_sc h10) rfl fill_nil))) (wo_nil (wd_run ?_)))))
  obtain ⟨b12, H13, s14, k15⟩ := s_alloc s7 (RL.cat (RL.one (.bool false)) (RL.rep 3 .nils) rfl)
  refine wo_x (v := (.ptr b12 0)) (k15) (wo_nil (wd_nil (ws_cons ?_)))
  obtain ⟨H16, s17, k18⟩ := s_stn s14 (((RL.cat (RL.one (.bool false)) (RL.rep 3 .nils) rfl).set 0 (.bool false)).set 1 v9) 0 4 rfl (Nat.le_of_ble_eq_true rfl)
  refine wo_n (k18 rfl rfl) (wo_nil (wd_nil (ws_nil (thn_n (wp_seq ?_)))))
  refine wp_seq (wp_reg (wo_x (v := (.ptr b1 0)) (ca_fla rfl rfl) (wo_x (v := (.bool false)) (s_ld1 s17 2 rfl) (wo_nil (thn_n ?_)))))
  refine wp_condF (wp_reg (wo_x (v := (.ptr b1 3)) (ca_fla rfl rfl) (wo_x (v := vp) (s_ld1 s17 2 rfl) (wo_mv (.int .i64 (.ofNat i)) (wo_mv (.int .i64 (.ofNat j)) ?_)))))
  refine wo_x (v := (.int .i64 (.ofNat (j + 1)))) (w_bin (add_i64 j 1 (by omega) _ _)) (wo_mv (.int .i64 (.ofNat j)) (wo_x (v := (.int .i64 (.ofNat (j + 1)))) (w_bin (add_i64 j 1 (by omega) _ _)) ?_))
  obtain ⟨v19, h20, k21⟩ := fl_winP hp i (j + 1) (by omega) (by omega)
  refine wo_x (v := v19) (k21 rfl rfl rfl rfl) (wo_x (v := (.ptr b12 3)) (ca_fla rfl rfl) ?_)
  obtain ⟨H22, s23, k24⟩ := s_st s17 3 v19 (Nat.le_of_ble_eq_true rfl) (hv := (fl_sc h20))
  refine wo_n (k24 rfl rfl) (wo_nil (thn_n (wp_seq (wp_reg ?_))))
  obtain ⟨r25, q26, k27⟩ := s_ldn s23 0 0 4 
  refine wo_x (v := (.agg r25)) (k27 rfl) ?_
  have s28 := s23.pull 1
  obtain ⟨H29, s30, k31⟩ := s_stn s28 q26 0 4 rfl (Nat.le_of_ble_eq_true rfl)
  refine wo_n (k31 rfl rfl) (wo_nil (thn_n (wp_ret ?_)))
  refine fin_c  (off := 0) s30 0 fun r32 q33 => ?_
  have s34 := s30.drop 0
  have s35 := s34.drop 0
  have s36 := s35.drop 0
  exact ⟨_, _, _, rfl, q33, h10, h20, s36⟩
theorem own_ok [HvN] [NdN] [BkN] {tbl : Nat → Option FT} (T : HvT tbl) {lf : Bool} {ks vs : List (List Nat)} {ps : List PtrM} {vk vv vp : AV} {r : Rp AV} {N d : Nat} (hd : 2 ≤ d) {Z : Fz} {F : List Hl} {H : AH} (hs : Sat H Z (F)) (hr : RL r [.bool lf, vk, vv, vp]) (hk : Fl Z 1 vk (strs ks)) (hv : Fl Z 1 vv (strs vs)) (hp : Fl Z 3 vp (ptrs ps)) (hkl : ks.length ≤ 1099511627776) (hvl : vs.length ≤ 1099511627776) (hpl : ps.length ≤ 1099511627776) :
    Ct (RUN tbl N d) (.fn (.fn (.func HvN.own)) [] []) [(.agg r)] H fun v H' => ∃ q wk wv wp hk' hv' hp', v = .agg q ∧ RL q [.bool lf, wk, wv, wp] ∧ Own 1 wk ks.length (txC ks) hk' ∧ Own 1 wv vs.length (txC vs) hv' ∧ Own 3 wp ps.length (ptC ps) hp' ∧ Sat H' Z (hp' ++ (hv' ++ (hk' ++ F))) := by
  obtain ⟨d, rfl⟩ : ∃ e, d = e + 2 := ⟨d - 2, by omega⟩
  refine ct_code T.own (b := b_vown) (env := [(.agg r), u_, u_, u_, u_, u_, u_, u_, u_, u_, u_, u_, u_, u_, u_]) ?_
  unfold b_vown
  refine wp_seq (wp_reg ?_)
  obtain ⟨b1, H2, s3, k4⟩ := s_boxn hs hr
  refine wo_x (v := (.ptr b1 0)) (k4 rfl) ?_
  obtain ⟨b5, H6, s7, k8⟩ := s_alloc s3 (RL.cat (RL.one (.bool false)) (RL.rep 3 .nils) rfl)
  refine wo_x (v := (.ptr b5 0)) (k8) (wo_nil (thn_n (wp_seq (wp_dreg (wd_run ?_)))))
  refine wo_x (v := (.ptr b1 0)) (ca_fla rfl rfl) (wo_nil (wd_run (wo_x (v := (.bool lf)) (s_ld1 s7 1 rfl) (wo_nil (wd_run ?_)))))
  refine wo_x (v := (.ptr b1 1)) (ca_fla rfl rfl) (wo_nil (wd_run (wo_x (v := vk) (s_ld1 s7 1 rfl) (wo_nil (wd_run ?_)))))
  refine wo_x (v := (.ptr b1 2)) (ca_fla rfl rfl) (wo_nil (wd_run (wo_x (v := vv) (s_ld1 s7 1 rfl) (wo_nil (wd_run ?_)))))
  refine wo_x (v := (.ptr b1 3)) (ca_fla rfl rfl) (wo_nil (wd_run (wo_x (v := vp) (s_ld1 s7 1 rfl) (wo_nil (wd_nil ?_)))))
  refine ws_cons ?_
  obtain ⟨v9, H10, ⟨l11, o12, s13⟩, k14⟩ := cloS_ok T (N := N) (d := d + 1) (by omega) s7 hk (by omega)
  have s15 : Sat H10 Z ((.cells b5 [(.bool false), .nils, .nils, .nils]) :: (.cells b1 [(.bool lf), vk, vv, vp]) :: (l11 ++ F)) := Sat.rot (l₁ := l11) (hl := [.cells b5 [(.bool false), .nils, .nils, .nils], .cells b1 [(.bool lf), vk, vv, vp]]) s13
  refine wo_call k14 (wo_nil (wd_again (v := (.bool lf)) (hs := same_bool) (s_ld1 s15 1 rfl) (wd_again (v := vv) (hs := fl_same hv) (s_ld1 s15 1 rfl) (wd_again (v := vp) (hs := fl_same hp) (s_ld1 s15 1 rfl) (wd_nil ?_)))))
  refine ws_cons ?_
  obtain ⟨v16, H17, ⟨l18, o19, s20⟩, k21⟩ := cloS_ok T (N := N) (d := d + 1) (by omega) s15 hv (by omega)
  have s22 : Sat H17 Z ((.cells b5 [(.bool false), .nils, .nils, .nils]) :: (.cells b1 [(.bool lf), vk, vv, vp]) :: (l18 ++ (l11 ++ F))) := Sat.rot (l₁ := l18) (hl := [.cells b5 [(.bool false), .nils, .nils, .nils], .cells b1 [(.bool lf), vk, vv, vp]]) s20
  refine wo_call k21 (wo_nil (wd_again (v := (.bool lf)) (hs := same_bool) (s_ld1 s22 1 rfl) (wd_again (v := vp) (hs := fl_same hp) (s_ld1 s22 1 rfl) (wd_nil (ws_cons ?_)))))
  obtain ⟨v23, H24, ⟨l25, o26, s27⟩, k28⟩ := cloP_ok T (N := N) (d := d + 1) (by omega) s22 hp (by omega)
  have s29 : Sat H24 Z ((.cells b5 [(.bool false), .nils, .nils, .nils]) :: (.cells b1 [(.bool lf), vk, vv, vp]) :: (l25 ++ (l18 ++ (l11 ++ F)))) := Sat.rot (l₁ := l25) (hl := [.cells b5 [(.bool false), .nils, .nils, .nils], .cells b1 [(.bool lf), vk, vv, vp]]) s27
  refine wo_call k28 (wo_nil (wd_again (v := (.bool lf)) (hs := same_bool) (s_ld1 s29 1 rfl) (wd_run (wo_x (v := (.agg (Rp.set (Rp.set (Rp.set (Rp.set (.cat 1 (.one (.bool false)) (.rep 3 .nils)) 0 (.bool lf)) 1 v9) 2 v16) 3 v23))) (w_build (r := (Rp.set (Rp.set (Rp.set (Rp.set (.cat 1 (.one (.bool false)) (.rep 3 .nils)) 0 (.bool lf)) 1 v9) 2 v16) 3 v23)) (fill_s (v := (.bool lf)) rfl rfl rfl (fill_s (v := v9) rfl (own_sc o12) rfl (fill_s (v := v16) rfl (own_sc o19) rfl (fill_s (v := v23) rfl (own_sc o26) rfl fill_nil))))) (wo_nil ?_)))))
  refine wd_nil (ws_cons ?_)
  obtain ⟨H30, s31, k32⟩ := s_stn s29 (((((RL.cat (RL.one (.bool false)) (RL.rep 3 .nils) rfl).set 0 (.bool lf)).set 1 v9).set 2 v16).set 3 v23) 0 4 rfl (Nat.le_of_ble_eq_true rfl)
  refine wo_n (k32 rfl rfl) (wo_nil (wd_nil (ws_nil (thn_n (wp_ret ?_)))))
  refine fin_c  (off := 0) s31 0 fun r33 q34 => ?_
  have s35 := s31.drop 0
  have s36 := s35.drop 0
  exact ⟨_, v9, v16, v23, _, _, _, rfl, q34, o12, o19, o26, s36⟩
end
end Go.Jt
