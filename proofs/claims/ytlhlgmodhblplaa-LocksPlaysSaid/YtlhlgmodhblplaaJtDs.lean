/-
  The document's table: what only reads. PRINTED by wip/tools/mklp.py.
-/
import Derived.Test.YtlhlgmodhblplaaJtDr
set_option autoImplicit false
set_option linter.all false
set_option maxRecDepth 10000
set_option maxHeartbeats 8000000
namespace Go.Jt
noncomputable section
variable [Gl]
class LpN where
  dcopy : Nat
  dask : Nat
  ddrop : Nat
  drow : Nat
  dhas : Nat
  dat : Nat
  dmay : Nat
  same : Nat
  copy : Nat
  copy1 : Nat
  do_ : Nat
  like : Nat
  law : Nat
def b_edcopy [LpN] [LfN] [LkN] : IR := (.seq (.reg [mv 2 (.cst .nilp)]) (.seq (.reg [xo 3 (.bsl 0 .nil []), mv 4 t0, xo 5 (.nck t4), xo 6 (.fla 0 t5), xo 7 (.ld1 t6), xo 8 (.app 2 32 (.cat 1 (.one (.int .i64 0)) (.one .nils)) false t3 t7), xo 9 (.build (.one .nils) [(0, 1, t8)]), xo 10 (.box t9), mv 2 t10]) .ret))
def ir_edcopy [LpN] [LfN] [LkN] : FnIR := ⟨11, [.tmp 2], b_edcopy⟩
def b_edask [LpN] [LfN] [LkN] : IR := (.seq (.reg [xo 6 (.mv (.cst (.bool false))), xo 7 (.mv (.cst (.int .i64 0)))]) (.seq (.seq (.reg [mv 10 t1, xo 11 (.bin .lss 0 t10 (.cst (.int .i64 0))), mv 12 t11, ⟨some 13, .mv t2, some (12, false)⟩, ⟨some 14, .len 1 t13, some (12, false)⟩, ⟨some 15, .bin .gtr 0 t14 (.cst (.int .i64 4)), some (12, false)⟩, xo 16 (.pick t12 (.cst (.bool true)) t15)]) (.cond t16 (.seq (.reg [xo 6 (.mv (.cst (.bool false))), xo 7 (.mv (.cst (.int .i64 1)))]) .ret) .skip)) (.seq (.seq (.reg [xo 8 (.mv (.cst (.int .i64 0)))]) (.block 0 (.loop (.seq (.seq (.reg [mv 17 t8, mv 18 t2, xo 19 (.len 1 t18), xo 20 (.bin .lss 0 t17 t19)]) (.cond t20 .skip (.exit 0))) (.seq (.block 1 (.seq (.seq (.reg [mv 23 t2, mv 24 t8, xo 25 (.ixs 2 t23 t24), xo 26 (.fla 0 t25), xo 27 (.ld1 t26), xo 28 (.bin .lss 0 t27 (.cst (.int .i64 1)))]) (.cond t28 (.seq (.reg [xo 6 (.mv (.cst (.bool false))), xo 7 (.mv (.cst (.int .i64 1)))]) .ret) .skip)) (.seq (.reg [xo 9 (.mv (.cst (.int .i64 0)))]) (.block 2 (.loop (.seq (.seq (.reg [mv 29 t9, mv 30 t8, xo 31 (.bin .lss 0 t29 t30)]) (.cond t31 .skip (.exit 2))) (.seq (.block 3 (.seq (.dreg [.run (mv 34 t2), .run (mv 35 t9), .run (xo 36 (.ixs 2 t34 t35)), .run (xo 37 (.fla 0 t36)), .run (xo 38 (.ld1 t37)), .run (mv 39 t2), .run (mv 40 t8), .run (xo 41 (.ixs 2 t39 t40)), .run (xo 42 (.fla 0 t41)), .run (xo 43 (.ld1 t42)), .run (xo 44 (.bin .eql 0 t38 t43))] []) (.cond t44 (.seq (.reg [xo 6 (.mv (.cst (.bool false))), xo 7 (.mv (.cst (.int .i64 1)))]) .ret) .skip))) (.reg [mv 32 t9, xo 33 (.bin .add 0 t32 (.cst (.int .i64 1))), mv 9 t33])))))))) (.reg [mv 21 t8, xo 22 (.bin .add 0 t21 (.cst (.int .i64 1))), mv 8 t22])))))) (.seq (.seq (.reg [mv 45 t0, mv 46 t1, xo 47 (.call (.cst (.fn (.fn (.func LpN.dat)) [] [])) [t45, t46]), xo 48 (.bin .geq 0 t47 (.cst (.int .i64 0)))]) (.cond t48 (.seq (.reg [xo 6 (.mv (.cst (.bool false))), xo 7 (.mv (.cst (.int .i64 6)))]) .ret) .skip)) (.seq (.seq (.reg [mv 49 t0, xo 50 (.nck t49), xo 51 (.fla 0 t50), xo 52 (.ld1 t51), xo 53 (.len 1 t52), xo 54 (.bin .geq 0 t53 (.cst (.int .i64 16)))]) (.cond t54 (.seq (.reg [xo 6 (.mv (.cst (.bool false))), xo 7 (.mv (.cst (.int .i64 3)))]) .ret) .skip)) (.seq (.dreg [.run (mv 55 t0), .run (mv 56 t0), .run (xo 57 (.nck t56)), .run (xo 58 (.fla 0 t57)), .run (xo 59 (.ld1 t58)), .run (mv 60 t1), .run (xo 61 (.bsl 0 .nil [])), .run (mv 62 t2)] [(xo 63 (.app 2 16 (.cat 1 (.one (.int .i64 0)) (.one (.bool false))) false t61 t62), [.again (xo 59 (.ld1 t58)), .run (xo 64 (.build (.cat 1 (.one (.int .i64 0)) (.one .nils)) [(0, 1, t60), (1, 1, t63)])), .run (xo 65 (.bsl 1 (.cat 2 (.cat 1 (.one (.int .i64 0)) (.one .nils)) .nil) [(0, 2, t64)]))]), (xo 66 (.app 2 32 (.cat 1 (.one (.int .i64 0)) (.one .nils)) false t59 t65), [.run (xo 67 (.nck t55)), .run (xo 68 (.fla 0 t67))]), (⟨none, .st 1 t68 t66, none⟩, [])]) (.seq (.reg [mv 69 t0, mv 70 t0, xo 71 (.nck t70), xo 72 (.fla 0 t71), xo 73 (.ld1 t72), xo 74 (.len 1 t73), xo 75 (.bin .sub 0 t74 (.cst (.int .i64 1))), xo 76 (.call (.cst (.fn (.fn (.func LpN.dmay)) [] [])) [t69, t75]), mv 6 t76, xo 7 (.mv (.cst (.int .i64 0)))]) .ret)))))))
def ir_edask [LpN] [LfN] [LkN] : FnIR := ⟨77, [.tmp 6, .tmp 7], b_edask⟩
def b_eddrop [LpN] [LfN] [LkN] : IR := (.seq (.reg [mv 4 (.cst .nils), xo 5 (.mv (.cst (.int .i64 0)))]) (.seq (.reg [mv 11 t0, mv 12 t1, xo 13 (.call (.cst (.fn (.fn (.func LpN.dat)) [] [])) [t11, t12]), mv 6 t13]) (.seq (.seq (.reg [mv 14 t6, xo 15 (.bin .lss 0 t14 (.cst (.int .i64 0)))]) (.cond t15 (.seq (.reg [mv 4 (.cst .nils), xo 5 (.mv (.cst (.int .i64 5)))]) .ret) .skip)) (.seq (.reg [mv 7 (.cst .nils)]) (.seq (.seq (.reg [xo 8 (.mv (.cst (.int .i64 0)))]) (.block 0 (.loop (.seq (.seq (.reg [mv 16 t8, mv 17 t0, xo 18 (.nck t17), xo 19 (.fla 0 t18), xo 20 (.ld1 t19), xo 21 (.len 1 t20), xo 22 (.bin .lss 0 t16 t21)]) (.cond t22 .skip (.exit 0))) (.seq (.block 1 (.reg [mv 25 t7, mv 26 t0, mv 27 t8, xo 28 (.call (.cst (.fn (.fn (.func LpN.dmay)) [] [])) [t26, t27]), xo 29 (.bsl 1 (.rep 1 (.bool false)) [(0, 1, t28)]), xo 30 (.app 1 1 (.one (.bool false)) false t25 t29), mv 7 t30])) (.reg [mv 23 t8, xo 24 (.bin .add 0 t23 (.cst (.int .i64 1))), mv 8 t24])))))) (.seq (.dreg [.run (mv 31 t0), .run (xo 32 (.bsl 0 .nil [])), .run (mv 33 t0), .run (xo 34 (.nck t33)), .run (xo 35 (.fla 0 t34)), .run (xo 36 (.ld1 t35)), .run (mv 37 t6), .run (xo 38 (.sll 2 t36 none (some t37) none)), .run (mv 40 t0), .run (xo 41 (.nck t40)), .run (xo 42 (.fla 0 t41)), .run (xo 43 (.ld1 t42)), .run (mv 44 t6), .run (xo 45 (.bin .add 0 t44 (.cst (.int .i64 1)))), .run (xo 46 (.sll 2 t43 (some t45) none none))] [(xo 39 (.app 2 32 (.cat 1 (.one (.int .i64 0)) (.one .nils)) false t32 t38), [.again (xo 43 (.ld1 t42)), .again (xo 45 (.bin .add 0 t44 (.cst (.int .i64 1)))), .again (xo 46 (.sll 2 t43 (some t45) none none))]), (xo 47 (.app 2 32 (.cat 1 (.one (.int .i64 0)) (.one .nils)) false t39 t46), [.run (xo 48 (.nck t31)), .run (xo 49 (.fla 0 t48))]), (⟨none, .st 1 t49 t47, none⟩, [])]) (.seq (.reg [mv 9 (.cst .nils)]) (.seq (.seq (.reg [mv 50 t6, mv 10 t50]) (.block 2 (.loop (.seq (.seq (.reg [mv 51 t10, mv 52 t0, xo 53 (.nck t52), xo 54 (.fla 0 t53), xo 55 (.ld1 t54), xo 56 (.len 1 t55), xo 57 (.bin .lss 0 t51 t56)]) (.cond t57 .skip (.exit 2))) (.seq (.block 3 (.seq (.reg [mv 60 t7, mv 61 t10, xo 62 (.bin .add 0 t61 (.cst (.int .i64 1))), xo 63 (.ixs 1 t60 t62), xo 64 (.ld1 t63), xo 65 (.not t64), mv 66 t65, ⟨some 67, .mv t0, some (66, true)⟩, ⟨some 68, .mv t10, some (66, true)⟩, ⟨some 69, .call (.cst (.fn (.fn (.func LpN.dmay)) [] [])) [t67, t68], some (66, true)⟩, xo 70 (.pick t66 t69 (.cst (.bool false)))]) (.cond t70 (.reg [mv 71 t9, mv 72 t0, xo 73 (.nck t72), xo 74 (.fla 0 t73), xo 75 (.ld1 t74), mv 76 t10, xo 77 (.ixs 2 t75 t76), xo 78 (.fla 0 t77), xo 79 (.ld1 t78), xo 80 (.bsl 1 (.rep 1 (.int .i64 0)) [(0, 1, t79)]), xo 81 (.app 1 8 (.one (.int .i64 0)) false t71 t80), mv 9 t81]) .skip))) (.reg [mv 58 t10, xo 59 (.bin .add 0 t58 (.cst (.int .i64 1))), mv 10 t59])))))) (.seq (.reg [mv 82 t9, mv 4 t82, xo 5 (.mv (.cst (.int .i64 0)))]) .ret)))))))))
def ir_eddrop [LpN] [LfN] [LkN] : FnIR := ⟨83, [.tmp 4, .tmp 5], b_eddrop⟩
def b_edrow [LpN] [LfN] [LkN] : IR := (.seq (.reg [mv 2 (.cst .nils)]) (.seq (.reg [mv 3 (.cst .nils)]) (.seq (.seq (.reg [xo 4 (.mv (.cst (.int .i64 0)))]) (.block 0 (.loop (.seq (.seq (.reg [mv 5 t4, mv 6 t0, xo 7 (.nck t6), xo 8 (.fla 0 t7), xo 9 (.ld1 t8), xo 10 (.len 1 t9), xo 11 (.bin .lss 0 t5 t10)]) (.cond t11 .skip (.exit 0))) (.seq (.block 1 (.reg [mv 14 t3, mv 15 t0, xo 16 (.nck t15), xo 17 (.fla 0 t16), xo 18 (.ld1 t17), mv 19 t4, xo 20 (.ixs 2 t18 t19), xo 21 (.fla 0 t20), xo 22 (.ld1 t21), xo 23 (.bsl 1 (.rep 1 (.int .i64 0)) [(0, 1, t22)]), xo 24 (.app 1 8 (.one (.int .i64 0)) false t14 t23), mv 3 t24])) (.reg [mv 12 t4, xo 13 (.bin .add 0 t12 (.cst (.int .i64 1))), mv 4 t13])))))) (.seq (.reg [mv 25 t3, mv 2 t25]) .ret))))
def ir_edrow [LpN] [LfN] [LkN] : FnIR := ⟨26, [.tmp 2], b_edrow⟩
def b_edhas [LpN] [LfN] [LkN] : IR := (.seq (.reg [xo 4 (.mv (.cst (.bool false)))]) (.seq (.reg [mv 6 t0, mv 7 t1, xo 8 (.call (.cst (.fn (.fn (.func LpN.dat)) [] [])) [t6, t7]), mv 5 t8]) (.seq (.reg [mv 9 t5, xo 10 (.bin .geq 0 t9 (.cst (.int .i64 0))), mv 11 t10, ⟨some 12, .mv t0, some (11, true)⟩, ⟨some 13, .mv t5, some (11, true)⟩, ⟨some 14, .call (.cst (.fn (.fn (.func LpN.dmay)) [] [])) [t12, t13], some (11, true)⟩, xo 15 (.pick t11 t14 (.cst (.bool false))), mv 4 t15]) .ret)))
def ir_edhas [LpN] [LfN] [LkN] : FnIR := ⟨16, [.tmp 4], b_edhas⟩
def b_edat [LpN] [LfN] [LkN] : IR := (.seq (.reg [xo 4 (.mv (.cst (.int .i64 0)))]) (.seq (.seq (.reg [xo 5 (.mv (.cst (.int .i64 0)))]) (.block 0 (.loop (.seq (.seq (.reg [mv 6 t5, mv 7 t0, xo 8 (.nck t7), xo 9 (.fla 0 t8), xo 10 (.ld1 t9), xo 11 (.len 1 t10), xo 12 (.bin .lss 0 t6 t11)]) (.cond t12 .skip (.exit 0))) (.seq (.block 1 (.seq (.reg [mv 15 t0, xo 16 (.nck t15), xo 17 (.fla 0 t16), xo 18 (.ld1 t17), mv 19 t5, xo 20 (.ixs 2 t18 t19), xo 21 (.fla 0 t20), xo 22 (.ld1 t21), mv 23 t1, xo 24 (.bin .eql 0 t22 t23)]) (.cond t24 (.seq (.reg [mv 25 t5, mv 4 t25]) .ret) .skip))) (.reg [mv 13 t5, xo 14 (.bin .add 0 t13 (.cst (.int .i64 1))), mv 5 t14])))))) (.seq (.reg [xo 4 (.mv (.cst (.int .i64 (-1))))]) .ret)))
def ir_edat [LpN] [LfN] [LkN] : FnIR := ⟨26, [.tmp 4], b_edat⟩
def b_edmay [LpN] [LfN] [LkN] : IR := (.seq (.reg [xo 4 (.mv (.cst (.bool false)))]) (.seq (.seq (.reg [xo 5 (.mv (.cst (.int .i64 0)))]) (.block 0 (.loop (.seq (.seq (.reg [mv 6 t5, mv 7 t1, xo 8 (.bin .lss 0 t6 t7)]) (.cond t8 .skip (.exit 0))) (.seq (.block 1 (.seq (.dreg [.run (mv 11 t0), .run (xo 12 (.nck t11)), .run (xo 13 (.fla 0 t12)), .run (xo 14 (.ld1 t13)), .run (mv 15 t5), .run (xo 16 (.ixs 2 t14 t15)), .run (xo 17 (.fla 1 t16)), .run (xo 18 (.ld1 t17)), .run (mv 19 t0), .run (xo 20 (.nck t19)), .run (xo 21 (.fla 0 t20)), .run (xo 22 (.ld1 t21)), .run (mv 23 t1), .run (xo 24 (.ixs 2 t22 t23)), .run (xo 25 (.fla 1 t24)), .run (xo 26 (.ld1 t25))] [(xo 27 (.call (.cst (.fn (.fn (.func LfN.clash)) [] [])) [t18, t26]), [])]) (.cond t27 (.seq (.reg [xo 4 (.mv (.cst (.bool false)))]) .ret) .skip))) (.reg [mv 9 t5, xo 10 (.bin .add 0 t9 (.cst (.int .i64 1))), mv 5 t10])))))) (.seq (.reg [xo 4 (.mv (.cst (.bool true)))]) .ret)))
def ir_edmay [LpN] [LfN] [LkN] : FnIR := ⟨28, [.tmp 4], b_edmay⟩
def b_esame [LpN] [LfN] [LkN] : IR := (.seq (.reg [xo 4 (.mv (.cst (.bool false)))]) (.seq (.seq (.reg [mv 6 t0, xo 7 (.len 1 t6), mv 8 t1, xo 9 (.len 1 t8), xo 10 (.bin .neq 0 t7 t9)]) (.cond t10 (.seq (.reg [xo 4 (.mv (.cst (.bool false)))]) .ret) .skip)) (.seq (.seq (.reg [xo 5 (.mv (.cst (.int .i64 0)))]) (.block 0 (.loop (.seq (.seq (.reg [mv 11 t5, mv 12 t0, xo 13 (.len 1 t12), xo 14 (.bin .lss 0 t11 t13)]) (.cond t14 .skip (.exit 0))) (.seq (.block 1 (.seq (.dreg [.run (mv 17 t0), .run (mv 18 t5), .run (xo 19 (.ixs 1 t17 t18)), .run (xo 20 (.ld1 t19)), .run (mv 21 t1), .run (mv 22 t5), .run (xo 23 (.ixs 1 t21 t22)), .run (xo 24 (.ld1 t23)), .run (xo 25 (.bin .neq 0 t20 t24))] []) (.cond t25 (.seq (.reg [xo 4 (.mv (.cst (.bool false)))]) .ret) .skip))) (.reg [mv 15 t5, xo 16 (.bin .add 0 t15 (.cst (.int .i64 1))), mv 5 t16])))))) (.seq (.reg [xo 4 (.mv (.cst (.bool true)))]) .ret))))
def ir_esame [LpN] [LfN] [LkN] : FnIR := ⟨26, [.tmp 4], b_esame⟩
def b_ecopy [LpN] [LfN] [LkN] : IR := (.seq (.reg [mv 2 (.cst .nilp)]) (.seq (.seq (.reg [mv 5 t0, xo 6 (.bin .eql 2 t5 (.cst .nilp))]) (.cond t6 (.seq (.reg [mv 2 (.cst .nilp)]) .ret) .skip)) (.seq (.reg [mv 7 t0, xo 8 (.nck t7), xo 9 (.fla 1 t8), xo 10 (.ld1 t9), xo 11 (.build (.cat 1 (.one .nilp) (.one (.int .i64 0))) [(1, 1, t10)]), xo 12 (.box t11), mv 3 t12]) (.seq (.reg [mv 13 t3, xo 14 (.nck t13), xo 15 (.fla 0 t14), xo 4 (.alloc (.one .nilp)), ⟨none, .st 1 t4 t15, none⟩]) (.seq (.reg [mv 16 t0, xo 17 (.mkf (.fn (.func LpN.copy1)) [] [t4]), xo 18 (.call (.cst (.fn (.fn (.func LkN.each)) [] [])) [t16, t17])]) (.seq (.reg [mv 19 t3, mv 2 t19]) .ret))))))
def ir_ecopy [LpN] [LfN] [LkN] : FnIR := ⟨20, [.tmp 2], b_ecopy⟩
def b_ecopy1 [LpN] [LfN] [LkN] : IR := (.seq (.reg [xo 3 (.mv (.cst (.bool false)))]) (.seq (.reg [mv 5 t0, xo 6 (.nck t5), xo 7 (.ldn 4 t6), xo 4 (.alloc (.cat 2 (.cat 1 (.one (.int .i64 0)) (.one .nils)) (.cat 1 (.one (.bool false)) (.one .nilp)))), ⟨none, .st 4 t4 t7, none⟩]) (.seq (.reg [xo 8 (.fla 3 t4), ⟨none, .st 1 t8 (.cst .nilp), none⟩]) (.seq (.reg [xo 9 (.ld1 t1), xo 10 (.nck t9), ⟨none, .st 1 t10 t4, none⟩]) (.seq (.reg [xo 11 (.fla 3 t4), ⟨none, .st 1 t1 t11, none⟩]) (.seq (.reg [xo 3 (.mv (.cst (.bool true)))]) .ret))))))
def ir_ecopy1 [LpN] [LfN] [LkN] : FnIR := ⟨12, [.tmp 3], b_ecopy1⟩
def b_edo_ [LpN] [LfN] [LkN] : IR := (.seq (.reg [xo 3 (.box t0), xo 6 (.mv (.cst (.bool false)))]) (.seq (.seq (.reg [xo 19 (.fla 0 t3), xo 20 (.ld1 t19), xo 21 (.bin .eql 0 t20 (.cst (.int .u8 0)))]) (.cond t21 (.seq (.reg [xo 22 (.fla 2 t3), xo 23 (.ld1 t22), xo 24 (.call (.cst (.fn (.fn (.func LfN.given)) [] [])) [t23]), mv 7 t24]) (.seq (.reg [mv 26 t1, xo 27 (.fla 1 t3), xo 28 (.ld1 t27), mv 29 t7, xo 30 (.call (.cst (.fn (.fn (.func LkN.ask)) [] [])) [t26, t28, t29]), mv 25 t30, xo 31 (.ext t25 0), xo 32 (.ext t25 1), mv 8 t31, mv 9 t32]) (.seq (.reg [mv 34 t2, xo 35 (.fla 1 t3), xo 36 (.ld1 t35), xo 37 (.fla 2 t3), xo 38 (.ld1 t37), xo 39 (.call (.cst (.fn (.fn (.func LpN.dask)) [] [])) [t34, t36, t38]), mv 33 t39, xo 40 (.ext t33 0), xo 41 (.ext t33 1), mv 10 t40, mv 11 t41]) (.seq (.seq (.reg [xo 12 (.mv (.cst (.int .i64 0)))]) (.block 0 (.loop (.seq (.seq (.reg [mv 42 t12, mv 43 t7, xo 44 (.len 1 t43), xo 45 (.bin .lss 0 t42 t44)]) (.cond t45 .skip (.exit 0))) (.seq (.block 1 (.reg [mv 48 t7, mv 49 t12, xo 50 (.build (.cat 1 (.one (.int .i64 0)) (.one (.bool false))) [(0, 1, (.cst (.int .i64 77))), (1, 1, (.cst (.bool true)))]), xo 51 (.ixs 2 t48 t49), ⟨none, .st 2 t51 t50, none⟩])) (.reg [mv 46 t12, xo 47 (.bin .add 0 t46 (.cst (.int .i64 1))), mv 12 t47])))))) (.seq (.reg [mv 52 t8, mv 53 t10, xo 54 (.bin .eql 1 t52 t53), mv 55 t54, ⟨some 56, .mv t9, some (55, true)⟩, ⟨some 57, .mv t11, some (55, true)⟩, ⟨some 58, .bin .eql 0 t56 t57, some (55, true)⟩, xo 59 (.pick t55 t58 (.cst (.bool false))), mv 6 t59]) .ret))))) .skip)) (.seq (.reg [mv 61 t1, xo 62 (.fla 1 t3), xo 63 (.ld1 t62), xo 64 (.call (.cst (.fn (.fn (.func LkN.drop)) [] [])) [t61, t63]), mv 60 t64, xo 65 (.ext t60 0), xo 66 (.ext t60 1), mv 13 t65, mv 14 t66]) (.seq (.reg [mv 68 t2, xo 69 (.fla 1 t3), xo 70 (.ld1 t69), xo 71 (.call (.cst (.fn (.fn (.func LpN.ddrop)) [] [])) [t68, t70]), mv 67 t71, xo 72 (.ext t67 0), xo 73 (.ext t67 1), mv 15 t72, mv 16 t73]) (.seq (.reg [mv 74 t13, mv 75 t15, xo 76 (.call (.cst (.fn (.fn (.func LpN.same)) [] [])) [t74, t75]), mv 77 t76, ⟨some 78, .mv t14, some (77, true)⟩, ⟨some 79, .mv t16, some (77, true)⟩, ⟨some 80, .bin .eql 0 t78 t79, some (77, true)⟩, xo 81 (.pick t77 t80 (.cst (.bool false))), mv 17 t81]) (.seq (.seq (.reg [xo 18 (.mv (.cst (.int .i64 0)))]) (.block 2 (.loop (.seq (.seq (.reg [mv 82 t18, mv 83 t13, xo 84 (.len 1 t83), xo 85 (.bin .lss 0 t82 t84)]) (.cond t85 .skip (.exit 2))) (.seq (.block 3 (.reg [mv 88 t13, mv 89 t18, xo 90 (.ixs 1 t88 t89), ⟨none, .st 1 t90 (.cst (.int .i64 (-7))), none⟩])) (.reg [mv 86 t18, xo 87 (.bin .add 0 t86 (.cst (.int .i64 1))), mv 18 t87])))))) (.seq (.reg [mv 91 t17, mv 6 t91]) .ret)))))))
def ir_edo_ [LpN] [LfN] [LkN] : FnIR := ⟨92, [.tmp 6], b_edo_⟩
def b_elike [LpN] [LfN] [LkN] : IR := (.seq (.reg [xo 6 (.mv (.cst (.bool false)))]) (.seq (.reg [mv 10 t0, xo 11 (.call (.cst (.fn (.fn (.func LkN.row)) [] [])) [t10]), mv 7 t11]) (.seq (.reg [mv 12 t1, xo 13 (.call (.cst (.fn (.fn (.func LpN.drow)) [] [])) [t12]), mv 8 t13]) (.seq (.seq (.reg [mv 14 t7, mv 15 t8, xo 16 (.call (.cst (.fn (.fn (.func LpN.same)) [] [])) [t14, t15]), xo 17 (.not t16), mv 18 t17, ⟨some 19, .mv t0, some (18, false)⟩, ⟨some 20, .mv t2, some (18, false)⟩, ⟨some 21, .call (.cst (.fn (.fn (.func LkN.has)) [] [])) [t19, t20], some (18, false)⟩, ⟨some 22, .mv t1, some (18, false)⟩, ⟨some 23, .mv t2, some (18, false)⟩, ⟨some 24, .call (.cst (.fn (.fn (.func LpN.dhas)) [] [])) [t22, t23], some (18, false)⟩, ⟨some 25, .bin .neq 1 t21 t24, some (18, false)⟩, xo 26 (.pick t18 (.cst (.bool true)) t25)]) (.cond t26 (.seq (.reg [xo 6 (.mv (.cst (.bool false)))]) .ret) .skip)) (.seq (.seq (.reg [xo 9 (.mv (.cst (.int .i64 0)))]) (.block 0 (.loop (.seq (.seq (.reg [mv 27 t9, mv 28 t8, xo 29 (.len 1 t28), xo 30 (.bin .lss 0 t27 t29)]) (.cond t30 .skip (.exit 0))) (.seq (.block 1 (.seq (.seq (.dreg [.run (mv 33 t0), .run (mv 34 t8), .run (mv 35 t9), .run (xo 36 (.ixs 1 t34 t35)), .run (xo 37 (.ld1 t36)), .run (mv 39 t1), .run (mv 40 t8), .run (mv 41 t9), .run (xo 42 (.ixs 1 t40 t41)), .run (xo 43 (.ld1 t42))] [(xo 38 (.call (.cst (.fn (.fn (.func LkN.has)) [] [])) [t33, t37]), [.again (xo 43 (.ld1 t42))]), (xo 44 (.call (.cst (.fn (.fn (.func LpN.dhas)) [] [])) [t39, t43]), [.run (xo 45 (.bin .neq 1 t38 t44))])]) (.cond t45 (.seq (.reg [xo 6 (.mv (.cst (.bool false)))]) .ret) .skip)) (.reg [mv 46 t7, mv 47 t9, xo 48 (.ixs 1 t46 t47), ⟨none, .st 1 t48 (.cst (.int .i64 (-7))), none⟩]))) (.reg [mv 31 t9, xo 32 (.bin .add 0 t31 (.cst (.int .i64 1))), mv 9 t32])))))) (.seq (.reg [xo 6 (.mv (.cst (.bool true)))]) .ret))))))
def ir_elike [LpN] [LfN] [LkN] : FnIR := ⟨49, [.tmp 6], b_elike⟩
def b_elaw [LpN] [LfN] [LkN] : IR := (.seq (.reg [xo 2 (.mv (.cst (.bool false)))]) (.seq (.seq (.reg [mv 8 t0, xo 9 (.call (.cst (.fn (.fn (.func LfN.long)) [] [])) [t8])]) (.cond t9 (.seq (.reg [xo 10 (.call (.cst (.fn (.fn (.func LfN.awake)) [] [])) []), mv 2 t10]) .ret) .skip)) (.seq (.reg [xo 11 (.call (.cst (.fn (.fn (.func LkN.new)) [] [])) []), mv 3 t11]) (.seq (.reg [xo 12 (.build (.one .nils) []), xo 13 (.box t12), mv 4 t13]) (.seq (.seq (.reg [mv 14 t3, xo 15 (.bin .eql 2 t14 (.cst .nilp))]) (.cond t15 (.seq (.reg [xo 2 (.mv (.cst (.bool false)))]) .ret) .skip)) (.seq (.seq (.reg [xo 5 (.mv (.cst (.int .i64 0)))]) (.block 0 (.loop (.seq (.seq (.reg [mv 16 t5, mv 17 t0, xo 18 (.len 1 t17), xo 19 (.bin .lss 0 t16 t18)]) (.cond t19 .skip (.exit 0))) (.seq (.block 1 (.seq (.reg [mv 22 t3, xo 23 (.call (.cst (.fn (.fn (.func LpN.copy)) [] [])) [t22]), mv 24 t4, xo 25 (.call (.cst (.fn (.fn (.func LpN.dcopy)) [] [])) [t24]), mv 6 t23, mv 7 t25]) (.seq (.reg [mv 26 t0, mv 27 t5, xo 28 (.ixs 3 t26 t27), xo 29 (.ldn 3 t28), mv 30 t3, mv 31 t4, xo 32 (.call (.cst (.fn (.fn (.func LpN.do_)) [] [])) [t29, t30, t31]), xo 33 (.not t32), mv 34 t33, ⟨some 35, .mv t3, some (34, false)⟩, ⟨some 36, .mv t4, some (34, false)⟩, ⟨some 37, .mv t0, some (34, false)⟩, ⟨some 38, .mv t5, some (34, false)⟩, ⟨some 39, .ixs 3 t37 t38, some (34, false)⟩, ⟨some 40, .fla 1 t39, some (34, false)⟩, ⟨some 41, .ld1 t40, some (34, false)⟩, ⟨some 42, .call (.cst (.fn (.fn (.func LpN.like)) [] [])) [t35, t36, t41], some (34, false)⟩, ⟨some 43, .not t42, some (34, false)⟩, xo 44 (.pick t34 (.cst (.bool true)) t43), mv 45 t44, ⟨some 46, .mv t6, some (45, false)⟩, ⟨some 47, .mv t7, some (45, false)⟩, ⟨some 48, .mv t0, some (45, false)⟩, ⟨some 49, .mv t5, some (45, false)⟩, ⟨some 50, .ixs 3 t48 t49, some (45, false)⟩, ⟨some 51, .fla 1 t50, some (45, false)⟩, ⟨some 52, .ld1 t51, some (45, false)⟩, ⟨some 53, .call (.cst (.fn (.fn (.func LpN.like)) [] [])) [t46, t47, t52], some (45, false)⟩, ⟨some 54, .not t53, some (45, false)⟩, xo 55 (.pick t45 (.cst (.bool true)) t54), mv 56 t55, ⟨some 57, .mv t0, some (56, false)⟩, ⟨some 58, .mv t5, some (56, false)⟩, ⟨some 59, .ixs 3 t57 t58, some (56, false)⟩, ⟨some 60, .ldn 3 t59, some (56, false)⟩, ⟨some 61, .mv t6, some (56, false)⟩, ⟨some 62, .mv t7, some (56, false)⟩, ⟨some 63, .call (.cst (.fn (.fn (.func LpN.do_)) [] [])) [t60, t61, t62], some (56, false)⟩, ⟨some 64, .not t63, some (56, false)⟩, xo 65 (.pick t56 (.cst (.bool true)) t64), mv 66 t65, ⟨some 67, .mv t6, some (66, false)⟩, ⟨some 68, .mv t7, some (66, false)⟩, ⟨some 69, .mv t0, some (66, false)⟩, ⟨some 70, .mv t5, some (66, false)⟩, ⟨some 71, .ixs 3 t69 t70, some (66, false)⟩, ⟨some 72, .fla 1 t71, some (66, false)⟩, ⟨some 73, .ld1 t72, some (66, false)⟩, ⟨some 74, .call (.cst (.fn (.fn (.func LpN.like)) [] [])) [t67, t68, t73], some (66, false)⟩, ⟨some 75, .not t74, some (66, false)⟩, xo 76 (.pick t66 (.cst (.bool true)) t75)]) (.cond t76 (.seq (.reg [xo 2 (.mv (.cst (.bool false)))]) .ret) .skip)))) (.reg [mv 20 t5, xo 21 (.bin .add 0 t20 (.cst (.int .i64 1))), mv 5 t21])))))) (.seq (.reg [xo 77 (.call (.cst (.fn (.fn (.func LfN.awake)) [] [])) []), mv 2 t77]) .ret)))))))
def ir_elaw [LpN] [LfN] [LkN] : FnIR := ⟨78, [.tmp 2], b_elaw⟩
structure LpT [LpN] [LfN] [LkN] (tbl : Nat → Option FT) : Prop where
  dcopy : tbl LpN.dcopy = some (.code ir_edcopy)
  dask : tbl LpN.dask = some (.code ir_edask)
  ddrop : tbl LpN.ddrop = some (.code ir_eddrop)
  drow : tbl LpN.drow = some (.code ir_edrow)
  dhas : tbl LpN.dhas = some (.code ir_edhas)
  dat : tbl LpN.dat = some (.code ir_edat)
  dmay : tbl LpN.dmay = some (.code ir_edmay)
  same : tbl LpN.same = some (.code ir_esame)
  copy : tbl LpN.copy = some (.code ir_ecopy)
  copy1 : tbl LpN.copy1 = some (.code ir_ecopy1)
  do_ : tbl LpN.do_ = some (.code ir_edo_)
  like : tbl LpN.like = some (.code ir_elike)
  law : tbl LpN.law = some (.code ir_elaw)
theorem datY_ok [LpN] [LfN] [LkN] {tbl : Nat → Option FT} (T : LpT tbl) {x : Nat} {D : List Dk} {rv : AV} {n : Int} {i : Nat} {N d : Nat} (hd : 1 ≤ d) {Z : Fz} {F : List Hl} {H : AH} (hs : Sat H Z (F)) (hx : Hl.cells x [rv] ∈ F) (hv : Fl Z 2 rv (ddr D)) (hD : DOk Z D) (hl : D.length ≤ 1000) (hN : 2000 < N) (hi : i < D.length) (he : (dkAt D i).n = n) (hno : ∀ j, j < i → ¬ (dkAt D j).n = n) :
    Ct (RUN tbl N d) (.fn (.fn (.func LpN.dat)) [] []) [(.ptr x 0), (.int .i64 n)] H fun v H' => v = .int .i64 (.ofNat i) ∧ Sat H' Z F := by
  obtain ⟨d, rfl⟩ : ∃ e, d = e + 1 := ⟨d - 1, by omega⟩
  refine ct_code T.dat (b := b_edat) (env := [(.ptr x 0), (.int .i64 n), u_, u_, u_, u_, u_, u_, u_, u_, u_, u_, u_, u_, u_, u_, u_, u_, u_, u_, u_, u_, u_, u_, u_, u_]) ?_
  unfold b_edat
  refine wp_seq (wp_reg (wo_mv (.int .i64 0) (wo_nil (thn_n (wp_seq ?_)))))
  refine wp_seq (wp_reg (wo_mv (.int .i64 0) (wo_nil (thn_n (wp_block ?_)))))
  refine wp_loop (fun ms_ env ds H => ∃ (q : Nat), ∃ ys1 : List AV, ms_ = D.length - q ∧ env = [(.ptr x 0), (.int .i64 n), u_, u_, (lget ys1 0), (.int .i64 (.ofNat q)), (lget ys1 1), (lget ys1 2), (lget ys1 3), (lget ys1 4), (lget ys1 5), (lget ys1 6), (lget ys1 7), (lget ys1 8), (lget ys1 9), (lget ys1 10), (lget ys1 11), (lget ys1 12), (lget ys1 13), (lget ys1 14), (lget ys1 15), (lget ys1 16), (lget ys1 17), (lget ys1 18), (lget ys1 19), (lget ys1 20)] ∧ ds = [] ∧ Sat H Z (F) ∧ (q ≤ i)) (D.length - 0) (by omega) ⟨0, [(.int .i64 0), u_, u_, u_, u_, u_, u_, u_, u_, u_, u_, u_, u_, u_, u_, u_, u_, u_, u_, u_, u_], rfl, rfl, rfl, hs, (by omega)⟩ ?_
  rintro ms_ env ds H hms_ ⟨q, ys1, rfl, rfl, rfl, s2, hq⟩
  refine wp_seq (wp_seq (wp_reg (wo_mv (.int .i64 (.ofNat q)) (wo_mv (.ptr x 0) (wo_x (v := (.ptr x 0)) (w_lit (fun K => rfl)) ?_)))))
  refine wo_x (v := (.ptr x 0)) (ca_fla rfl rfl) (wo_x (v := rv) (s_ldm (v := rv) s2 hx rfl) (wo_x (v := (.int .i64 (.ofNat D.length))) (fl_len hv (ddr_len D) rfl) (wo_x (v := (.bool true)) (w_bin (cmp_lssT q D.length (by omega))) (wo_nil (thn_n ?_)))))
  refine wp_condT (wp_skip (thn_n (wp_seq (wp_block (wp_seq ?_)))))
  refine wp_reg (wo_mv (.ptr x 0) (wo_x (v := (.ptr x 0)) (w_lit (fun K => rfl)) (wo_x (v := (.ptr x 0)) (ca_fla rfl rfl) (wo_x (v := rv) (s_ldm (v := rv) s2 hx rfl) (wo_mv (.int .i64 (.ofNat q)) ?_)))))
  obtain ⟨b3, o4, L5, z6, g7, e8, n9, k10⟩ := fl_ix hv q (ddr_get (show q < D.length by omega))
  refine wo_x (v := (.ptr b3 o4)) (k10 rfl rfl) (wo_x (v := (.ptr b3 o4)) (ca_fla rfl (by omega)) (wo_x (v := (.int .i64 ((dkAt D q).n))) (s_zld1 s2 z6 (g7 0 _ rfl)) (wo_mv (.int .i64 n) ?_)))
  by_cases c11 : ((dkAt D q).n) = n
  · refine wo_x (v := (.bool true)) (w_bin (cmp_eqlTz ((dkAt D q).n) n (by omega))) (wo_nil (thn_n (wp_condT (wp_seq (wp_reg ?_)))))
    refine wo_mv (.int .i64 (.ofNat q)) (wo_mv (.int .i64 (.ofNat q)) (wo_nil (thn_n (wp_ret (blk_r ?_)))))
    refine thn_r (lpq_r (blk_r (thn_r ?_)))
    exact fin_1 (.int .i64 (.ofNat q)) ⟨by rw [show q = i from Nat.le_antisymm hq (Nat.le_of_not_lt fun h => hno q h c11)], s2⟩
  · refine wo_x (v := (.bool false)) (w_bin (cmp_eqlFz ((dkAt D q).n) n (by omega))) (wo_nil (thn_n (wp_condF (wp_skip (blk_n ?_)))))
    refine thn_n (wp_reg (wo_mv (.int .i64 (.ofNat q)) (wo_x (v := (.int .i64 (.ofNat (q + 1)))) (w_bin (add_i64 q 1 (by omega) _ _)) (wo_mv (.int .i64 (.ofNat (q + 1))) (wo_nil ?_)))))
    refine lpq_n (D.length - (q + 1)) (by omega) ⟨(q + 1), [(lget ys1 0), (.int .i64 (.ofNat q)), (.ptr x 0), (.ptr x 0), (.ptr x 0), rv, (.int .i64 (.ofNat D.length)), (.bool true), (.int .i64 (.ofNat q)), (.int .i64 (.ofNat (q + 1))), (.ptr x 0), (.ptr x 0), (.ptr x 0), rv, (.int .i64 (.ofNat q)), (.ptr b3 o4), (.ptr b3 o4), (.int .i64 ((dkAt D q).n)), (.int .i64 n), (.bool false), (lget ys1 20)], rfl, rfl, rfl, s2, (Nat.lt_of_le_of_ne hq (fun e => c11 (by rw [e]; exact he)))⟩
theorem datN_ok [LpN] [LfN] [LkN] {tbl : Nat → Option FT} (T : LpT tbl) {x : Nat} {D : List Dk} {rv : AV} {n : Int} {N d : Nat} (hd : 1 ≤ d) {Z : Fz} {F : List Hl} {H : AH} (hs : Sat H Z (F)) (hx : Hl.cells x [rv] ∈ F) (hv : Fl Z 2 rv (ddr D)) (hD : DOk Z D) (hl : D.length ≤ 1000) (hN : 2000 < N) (hno : ∀ j, j < D.length → ¬ (dkAt D j).n = n) :
    Ct (RUN tbl N d) (.fn (.fn (.func LpN.dat)) [] []) [(.ptr x 0), (.int .i64 n)] H fun v H' => v = .int .i64 (-1) ∧ Sat H' Z F := by
  obtain ⟨d, rfl⟩ : ∃ e, d = e + 1 := ⟨d - 1, by omega⟩
  refine ct_code T.dat (b := b_edat) (env := [(.ptr x 0), (.int .i64 n), u_, u_, u_, u_, u_, u_, u_, u_, u_, u_, u_, u_, u_, u_, u_, u_, u_, u_, u_, u_, u_, u_, u_, u_]) ?_
  unfold b_edat
  refine wp_seq (wp_reg (wo_mv (.int .i64 0) (wo_nil (thn_n (wp_seq ?_)))))
  refine wp_seq (wp_reg (wo_mv (.int .i64 0) (wo_nil (thn_n (wp_block ?_)))))
  refine wp_loop (fun ms_ env ds H => ∃ (q : Nat), ∃ ys1 : List AV, ms_ = D.length - q ∧ env = [(.ptr x 0), (.int .i64 n), u_, u_, (lget ys1 0), (.int .i64 (.ofNat q)), (lget ys1 1), (lget ys1 2), (lget ys1 3), (lget ys1 4), (lget ys1 5), (lget ys1 6), (lget ys1 7), (lget ys1 8), (lget ys1 9), (lget ys1 10), (lget ys1 11), (lget ys1 12), (lget ys1 13), (lget ys1 14), (lget ys1 15), (lget ys1 16), (lget ys1 17), (lget ys1 18), (lget ys1 19), (lget ys1 20)] ∧ ds = [] ∧ Sat H Z (F) ∧ (q ≤ D.length)) (D.length - 0) (by omega) ⟨0, [(.int .i64 0), u_, u_, u_, u_, u_, u_, u_, u_, u_, u_, u_, u_, u_, u_, u_, u_, u_, u_, u_, u_], rfl, rfl, rfl, hs, (by omega)⟩ ?_
  rintro ms_ env ds H hms_ ⟨q, ys1, rfl, rfl, rfl, s2, hq⟩
  refine wp_seq (wp_seq (wp_reg (wo_mv (.int .i64 (.ofNat q)) (wo_mv (.ptr x 0) (wo_x (v := (.ptr x 0)) (w_lit (fun K => rfl)) ?_)))))
  refine wo_x (v := (.ptr x 0)) (ca_fla rfl rfl) (wo_x (v := rv) (s_ldm (v := rv) s2 hx rfl) (wo_x (v := (.int .i64 (.ofNat D.length))) (fl_len hv (ddr_len D) rfl) ?_))
  by_cases c3 : q < D.length
  · refine wo_x (v := (.bool true)) (w_bin (cmp_lssT q D.length (by omega))) (wo_nil (thn_n (wp_condT (wp_skip (thn_n ?_)))))
    refine wp_seq (wp_block (wp_seq (wp_reg (wo_mv (.ptr x 0) (wo_x (v := (.ptr x 0)) (w_lit (fun K => rfl)) ?_)))))
    refine wo_x (v := (.ptr x 0)) (ca_fla rfl rfl) (wo_x (v := rv) (s_ldm (v := rv) s2 hx rfl) (wo_mv (.int .i64 (.ofNat q)) ?_))
    obtain ⟨b4, o5, L6, z7, g8, e9, n10, k11⟩ := fl_ix hv q (ddr_get (show q < D.length by omega))
    refine wo_x (v := (.ptr b4 o5)) (k11 rfl rfl) (wo_x (v := (.ptr b4 o5)) (ca_fla rfl (by omega)) (wo_x (v := (.int .i64 ((dkAt D q).n))) (s_zld1 s2 z7 (g8 0 _ rfl)) (wo_mv (.int .i64 n) (wo_x (v := (.bool false)) (w_bin (cmp_eqlFz ((dkAt D q).n) n (hno q (by omega)))) (wo_nil ?_)))))
    refine thn_n (wp_condF (wp_skip (blk_n (thn_n (wp_reg ?_)))))
    refine wo_mv (.int .i64 (.ofNat q)) (wo_x (v := (.int .i64 (.ofNat (q + 1)))) (w_bin (add_i64 q 1 (by omega) _ _)) (wo_mv (.int .i64 (.ofNat (q + 1))) (wo_nil ?_)))
    refine lpq_n (D.length - (q + 1)) (by omega) ⟨(q + 1), [(lget ys1 0), (.int .i64 (.ofNat q)), (.ptr x 0), (.ptr x 0), (.ptr x 0), rv, (.int .i64 (.ofNat D.length)), (.bool true), (.int .i64 (.ofNat q)), (.int .i64 (.ofNat (q + 1))), (.ptr x 0), (.ptr x 0), (.ptr x 0), rv, (.int .i64 (.ofNat q)), (.ptr b4 o5), (.ptr b4 o5), (.int .i64 ((dkAt D q).n)), (.int .i64 n), (.bool false), (lget ys1 20)], rfl, rfl, rfl, s2, (by omega)⟩
  · refine wo_x (v := (.bool false)) (w_bin (cmp_lssF q D.length (by omega))) (wo_nil (thn_n (wp_condF (wp_exit (thn_e ?_)))))
    refine lpq_e (blk_h (thn_n (wp_seq (wp_reg (wo_mv (.int .i64 (-1)) ?_)))))
    refine wo_nil (thn_n (wp_ret ?_))
    exact fin_1 (.int .i64 (-1)) ⟨rfl, s2⟩
theorem dmay_ok [LpN] [LfN] [LkN] {tbl : Nat → Option FT} (T : LpT tbl) (TK : LkT tbl) (TL : LfT tbl) {x : Nat} {D : List Dk} {rv : AV} {i : Nat} {N d : Nat} (hd : 2 ≤ d) {Z : Fz} {F : List Hl} {H : AH} (hs : Sat H Z (F)) (hx : Hl.cells x [rv] ∈ F) (hv : Fl Z 2 rv (ddr D)) (hD : DOk Z D) (hl : D.length ≤ 1000) (hN : 2000 < N) (hi : i < D.length) :
    Ct (RUN tbl N d) (.fn (.fn (.func LpN.dmay)) [] []) [(.ptr x 0), (.int .i64 (.ofNat i))] H fun v H' => v = .bool (dB (FreeD D i)) ∧ Sat H' Z F := by
  obtain ⟨d, rfl⟩ : ∃ e, d = e + 2 := ⟨d - 2, by omega⟩
  refine ct_code T.dmay (b := b_edmay) (env := [(.ptr x 0), (.int .i64 (.ofNat i)), u_, u_, u_, u_, u_, u_, u_, u_, u_, u_, u_, u_, u_, u_, u_, u_, u_, u_, u_, u_, u_, u_, u_, u_, u_, u_]) ?_
  unfold b_edmay
  refine wp_seq (wp_reg (wo_mv (.bool false) (wo_nil (thn_n (wp_seq ?_)))))
  refine wp_seq (wp_reg (wo_mv (.int .i64 0) (wo_nil (thn_n (wp_block ?_)))))
  refine wp_loop (fun ms_ env ds H => ∃ (q : Nat), ∃ ys1 : List AV, ms_ = i - q ∧ env = [(.ptr x 0), (.int .i64 (.ofNat i)), u_, u_, (lget ys1 0), (.int .i64 (.ofNat q)), (lget ys1 1), (lget ys1 2), (lget ys1 3), (lget ys1 4), (lget ys1 5), (lget ys1 6), (lget ys1 7), (lget ys1 8), (lget ys1 9), (lget ys1 10), (lget ys1 11), (lget ys1 12), (lget ys1 13), (lget ys1 14), (lget ys1 15), (lget ys1 16), (lget ys1 17), (lget ys1 18), (lget ys1 19), (lget ys1 20), (lget ys1 21), (lget ys1 22)] ∧ ds = [] ∧ Sat H Z (F) ∧ (q ≤ i) ∧ (∀ j, j < q → ¬ CC (dkAt D j).ws (dkAt D i).ws)) (i - 0) (by omega) ⟨0, [(.bool false), u_, u_, u_, u_, u_, u_, u_, u_, u_, u_, u_, u_, u_, u_, u_, u_, u_, u_, u_, u_, u_, u_], rfl, rfl, rfl, hs, (by omega), (fun j hj => by omega)⟩ ?_
  rintro ms_ env ds H hms_ ⟨q, ys1, rfl, rfl, rfl, s2, hq, hA⟩
  refine wp_seq (wp_seq (wp_reg (wo_mv (.int .i64 (.ofNat q)) (wo_mv (.int .i64 (.ofNat i)) ?_))))
  by_cases c3 : q < i
  · refine wo_x (v := (.bool true)) (w_bin (cmp_lssT q i (by omega))) (wo_nil (thn_n (wp_condT (wp_skip (thn_n ?_)))))
    refine wp_seq (wp_block (wp_seq (wp_dreg (wd_run (wo_mv (.ptr x 0) ?_)))))
    refine wo_nil (wd_run (wo_x (v := (.ptr x 0)) (w_lit (fun K => rfl)) (wo_nil (wd_run (wo_x (v := (.ptr x 0)) (ca_fla rfl rfl) ?_)))))
    refine wo_nil (wd_run (wo_x (v := rv) (s_ldm (v := rv) s2 hx rfl) (wo_nil (wd_run (wo_mv (.int .i64 (.ofNat q)) ?_)))))
    refine wo_nil (wd_run ?_)
    obtain ⟨b4, o5, L6, z7, g8, e9, n10, k11⟩ := fl_ix hv q (ddr_get (show q < D.length by omega))
    refine wo_x (v := (.ptr b4 o5)) (k11 rfl rfl) (wo_nil (wd_run (wo_x (v := (.ptr b4 (o5 + 1))) (ca_fla rfl (by omega)) (wo_nil (wd_run ?_)))))
    refine wo_x (v := (dkAt D q).v) (s_zld1 s2 z7 (g8 1 _ rfl)) (wo_nil (wd_run (wo_mv (.ptr x 0) (wo_nil (wd_run ?_)))))
    refine wo_x (v := (.ptr x 0)) (w_lit (fun K => rfl)) (wo_nil (wd_run (wo_x (v := (.ptr x 0)) (ca_fla rfl rfl) (wo_nil (wd_run ?_)))))
    refine wo_x (v := rv) (s_ldm (v := rv) s2 hx rfl) (wo_nil (wd_run (wo_mv (.int .i64 (.ofNat i)) (wo_nil (wd_run ?_)))))
    obtain ⟨b12, o13, L14, z15, g16, e17, n18, k19⟩ := fl_ix hv i (ddr_get (show i < D.length by omega))
    refine wo_x (v := (.ptr b12 o13)) (k19 rfl rfl) (wo_nil (wd_run (wo_x (v := (.ptr b12 (o13 + 1))) (ca_fla rfl (by omega)) (wo_nil (wd_run ?_)))))
    refine wo_x (v := (dkAt D i).v) (s_zld1 s2 z15 (g16 1 _ rfl)) (wo_nil (wd_nil (ws_cons ?_)))
    obtain ⟨_, H20, ⟨rfl, s21⟩, k22⟩ := clashR_ok (N := N) (d := d + 1) TL (by omega) s2 (hD q (by omega)).1 (hD i (by omega)).1 (Nat.le_trans (hD q (by omega)).2 (by omega)) (Nat.le_trans (hD i (by omega)).2 (by omega)) (by omega)
    refine wo_call k22 (wo_nil (wd_nil (ws_nil (thn_n ?_))))
    by_cases c23 : (dB (CC (dkAt D q).ws (dkAt D i).ws)) = true
    · refine wp_condT (hc := (congrArg AV.bool c23)) (wp_seq (wp_reg (wo_mv (.bool false) (wo_nil (thn_n ?_)))))
      refine wp_ret (blk_r (thn_r (lpq_r (blk_r (thn_r ?_)))))
      exact fin_1 (.bool false) ⟨congrArg AV.bool (dB_false (show ¬ FreeD D i from fun h => h q (by omega) (dB_iff.1 c23))).symm, s21⟩
    · refine wp_condF (hc := (congrArg AV.bool (Bool.eq_false_iff.2 c23))) (wp_skip (blk_n (thn_n (wp_reg (wo_mv (.int .i64 (.ofNat q)) ?_)))))
      refine wo_x (v := (.int .i64 (.ofNat (q + 1)))) (w_bin (add_i64 q 1 (by omega) _ _)) (wo_mv (.int .i64 (.ofNat (q + 1))) (wo_nil ?_))
      refine lpq_n (i - (q + 1)) (by omega) ⟨(q + 1), [(lget ys1 0), (.int .i64 (.ofNat q)), (.int .i64 (.ofNat i)), (.bool true), (.int .i64 (.ofNat q)), (.int .i64 (.ofNat (q + 1))), (.ptr x 0), (.ptr x 0), (.ptr x 0), rv, (.int .i64 (.ofNat q)), (.ptr b4 o5), (.ptr b4 (o5 + 1)), (dkAt D q).v, (.ptr x 0), (.ptr x 0), (.ptr x 0), rv, (.int .i64 (.ofNat i)), (.ptr b12 o13), (.ptr b12 (o13 + 1)), (dkAt D i).v, (.bool (dB (CC (dkAt D q).ws (dkAt D i).ws)))], rfl, rfl, rfl, s21, (by omega), (fun j hj h => by by_cases e : j = q; (subst e; exact c23 (dB_true h)); exact hA j (by omega) h)⟩
  · refine wo_x (v := (.bool false)) (w_bin (cmp_lssF q i (by omega))) (wo_nil (thn_n (wp_condF (wp_exit (thn_e ?_)))))
    refine lpq_e (blk_h (thn_n (wp_seq (wp_reg (wo_mv (.bool true) ?_)))))
    refine wo_nil (thn_n (wp_ret ?_))
    exact fin_1 (.bool true) ⟨congrArg AV.bool (dB_true (show FreeD D i from fun j hj => hA j (by omega))).symm, s2⟩
theorem dhasY_ok [LpN] [LfN] [LkN] {tbl : Nat → Option FT} (T : LpT tbl) (TK : LkT tbl) (TL : LfT tbl) {x : Nat} {D : List Dk} {rv : AV} {n : Int} {i : Nat} {N d : Nat} (hd : 4 ≤ d) {Z : Fz} {F : List Hl} {H : AH} (hs : Sat H Z (F)) (hx : Hl.cells x [rv] ∈ F) (hv : Fl Z 2 rv (ddr D)) (hD : DOk Z D) (hl : D.length ≤ 1000) (hN : 2000 < N) (hi : i < D.length) (he : (dkAt D i).n = n) (hno : ∀ j, j < i → ¬ (dkAt D j).n = n) :
    Ct (RUN tbl N d) (.fn (.fn (.func LpN.dhas)) [] []) [(.ptr x 0), (.int .i64 n)] H fun v H' => v = .bool (dB (FreeD D i)) ∧ Sat H' Z F := by
  obtain ⟨d, rfl⟩ : ∃ e, d = e + 4 := ⟨d - 4, by omega⟩
  refine ct_code T.dhas (b := b_edhas) (env := [(.ptr x 0), (.int .i64 n), u_, u_, u_, u_, u_, u_, u_, u_, u_, u_, u_, u_, u_, u_]) ?_
  unfold b_edhas
  refine wp_seq (wp_reg (wo_mv (.bool false) (wo_nil (thn_n (wp_seq ?_)))))
  refine wp_reg (wo_mv (.ptr x 0) (wo_mv (.int .i64 n) ?_))
  obtain ⟨_, H1, ⟨rfl, s2⟩, k3⟩ := datY_ok (N := N) (d := d + 3) T (by omega) hs hx hv hD hl hN hi he hno
  refine wo_call k3 (wo_mv (.int .i64 (.ofNat i)) (wo_nil (thn_n (wp_seq (wp_reg ?_)))))
  refine wo_mv (.int .i64 (.ofNat i)) (wo_x (v := (.bool true)) (w_bin (cmp_geqT i 0 (by omega))) (wo_mv (.bool true) (wo_yesT (wo_mv (.ptr x 0) (wo_yesT ?_)))))
  refine wo_mv (.int .i64 (.ofNat i)) (wo_yesT ?_)
  obtain ⟨_, H4, ⟨rfl, s5⟩, k6⟩ := dmay_ok (N := N) (d := d + 3) T TK TL (by omega) s2 hx hv hD hl hN hi
  refine wo_call k6 (wo_x (v := (.bool (dB (FreeD D i)))) (w_pickT rfl rfl) (wo_mv (.bool (dB (FreeD D i))) (wo_nil (thn_n (wp_ret ?_)))))
  exact fin_1 (.bool (dB (FreeD D i))) ⟨rfl, s5⟩
theorem dhasN_ok [LpN] [LfN] [LkN] {tbl : Nat → Option FT} (T : LpT tbl) (TK : LkT tbl) (TL : LfT tbl) {x : Nat} {D : List Dk} {rv : AV} {n : Int} {N d : Nat} (hd : 4 ≤ d) {Z : Fz} {F : List Hl} {H : AH} (hs : Sat H Z (F)) (hx : Hl.cells x [rv] ∈ F) (hv : Fl Z 2 rv (ddr D)) (hD : DOk Z D) (hl : D.length ≤ 1000) (hN : 2000 < N) (hno : ∀ j, j < D.length → ¬ (dkAt D j).n = n) :
    Ct (RUN tbl N d) (.fn (.fn (.func LpN.dhas)) [] []) [(.ptr x 0), (.int .i64 n)] H fun v H' => v = .bool false ∧ Sat H' Z F := by
  obtain ⟨d, rfl⟩ : ∃ e, d = e + 4 := ⟨d - 4, by omega⟩
  refine ct_code T.dhas (b := b_edhas) (env := [(.ptr x 0), (.int .i64 n), u_, u_, u_, u_, u_, u_, u_, u_, u_, u_, u_, u_, u_, u_]) ?_
  unfold b_edhas
  refine wp_seq (wp_reg (wo_mv (.bool false) (wo_nil (thn_n (wp_seq ?_)))))
  refine wp_reg (wo_mv (.ptr x 0) (wo_mv (.int .i64 n) ?_))
  obtain ⟨_, H1, ⟨rfl, s2⟩, k3⟩ := datN_ok (N := N) (d := d + 3) T (by omega) hs hx hv hD hl hN hno
  refine wo_call k3 (wo_mv (.int .i64 (-1)) (wo_nil (thn_n (wp_seq (wp_reg ?_)))))
  refine wo_mv (.int .i64 (-1)) (wo_x (v := (.bool false)) (w_lit (fun K => rfl)) (wo_mv (.bool false) (wo_noF (wo_noF (wo_noF ?_)))))
  refine wo_x (v := (.bool false)) (w_pickF rfl rfl) (wo_mv (.bool false) (wo_nil (thn_n (wp_ret ?_))))
  exact fin_1 (.bool false) ⟨rfl, s2⟩
theorem drow_ok [LpN] [LfN] [LkN] {tbl : Nat → Option FT} (T : LpT tbl) {x : Nat} {D : List Dk} {rv : AV} {N d : Nat} (hd : 1 ≤ d) {Z : Fz} {F : List Hl} {H : AH} (hs : Sat H Z (F)) (hx : Hl.cells x [rv] ∈ F) (hv : Fl Z 2 rv (ddr D)) (hD : DOk Z D) (hl : D.length ≤ 1000) (hN : 2000 < N) :
    Ct (RUN tbl N d) (.fn (.fn (.func LpN.drow)) [] []) [(.ptr x 0)] H fun v H' => ∃ ol, Own 1 v D.length (D.map fun x => .int .i64 x.n) ol ∧ Sat H' Z (ol ++ F) := by
  obtain ⟨d, rfl⟩ : ∃ e, d = e + 1 := ⟨d - 1, by omega⟩
  refine ct_code T.drow (b := b_edrow) (env := [(.ptr x 0), u_, u_, u_, u_, u_, u_, u_, u_, u_, u_, u_, u_, u_, u_, u_, u_, u_, u_, u_, u_, u_, u_, u_, u_, u_]) ?_
  unfold b_edrow
  refine wp_seq (wp_reg (wo_mv .nils (wo_nil (thn_n (wp_seq ?_)))))
  refine wp_reg (wo_mv .nils (wo_nil (thn_n (wp_seq (wp_seq ?_)))))
  refine wp_reg (wo_mv (.int .i64 0) (wo_nil (thn_n (wp_block ?_))))
  refine wp_loop (fun ms_ env ds H => ∃ (q : Nat) (ov : AV) (ol : List Hl), ∃ ys1 : List AV, ms_ = D.length - q ∧ env = [(.ptr x 0), u_, .nils, ov, (.int .i64 (.ofNat q)), (lget ys1 0), (lget ys1 1), (lget ys1 2), (lget ys1 3), (lget ys1 4), (lget ys1 5), (lget ys1 6), (lget ys1 7), (lget ys1 8), (lget ys1 9), (lget ys1 10), (lget ys1 11), (lget ys1 12), (lget ys1 13), (lget ys1 14), (lget ys1 15), (lget ys1 16), (lget ys1 17), (lget ys1 18), (lget ys1 19), u_] ∧ ds = [] ∧ Sat H Z ((ol ++ F)) ∧ (q ≤ D.length) ∧ (Own 1 ov q ((D.take q).map fun x => .int .i64 x.n) ol)) (D.length - 0) (by omega) ⟨0, .nils, [], [u_, u_, u_, u_, u_, u_, u_, u_, u_, u_, u_, u_, u_, u_, u_, u_, u_, u_, u_, u_], rfl, rfl, rfl, hs, (by omega), .nil⟩ ?_
  rintro ms_ env ds H hms_ ⟨q, ov, ol, ys1, rfl, rfl, rfl, s2, hq, ho⟩
  refine wp_seq (wp_seq (wp_reg (wo_mv (.int .i64 (.ofNat q)) (wo_mv (.ptr x 0) (wo_x (v := (.ptr x 0)) (w_lit (fun K => rfl)) ?_)))))
  refine wo_x (v := (.ptr x 0)) (ca_fla rfl rfl) (wo_x (v := rv) (s_ldm (v := rv) s2 (List.mem_append_right _ hx) rfl) (wo_x (v := (.int .i64 (.ofNat D.length))) (fl_len hv (ddr_len D) rfl) ?_))
  by_cases c3 : q < D.length
  · refine wo_x (v := (.bool true)) (w_bin (cmp_lssT q D.length (by omega))) (wo_nil (thn_n (wp_condT (wp_skip (thn_n ?_)))))
    refine wp_seq (wp_block (wp_reg (wo_mv ov (wo_mv (.ptr x 0) (wo_x (v := (.ptr x 0)) (w_lit (fun K => rfl)) ?_)))))
    refine wo_x (v := (.ptr x 0)) (ca_fla rfl rfl) (wo_x (v := rv) (s_ldm (v := rv) s2 (List.mem_append_right _ hx) rfl) (wo_mv (.int .i64 (.ofNat q)) ?_))
    obtain ⟨b4, o5, L6, z7, g8, e9, n10, k11⟩ := fl_ix hv q (ddr_get (show q < D.length by omega))
    refine wo_x (v := (.ptr b4 o5)) (k11 rfl rfl) (wo_x (v := (.ptr b4 o5)) (ca_fla rfl (by omega)) (wo_x (v := (.int .i64 ((dkAt D q).n))) (s_zld1 s2 z7 (g8 0 _ rfl)) ?_))
    obtain ⟨b12, H13, s14, k15⟩ := s_bsl s2 ((RL.rep 1 (.int .i64 0)).set 0 (.int .i64 ((dkAt D q).n)))
    refine wo_x (v := (.slc b12 0 1 1)) (k15 (fill_s (v := (.int .i64 ((dkAt D q).n))) rfl rfl rfl fill_nil)) ?_
    have c16 := src_sl (es := 1) s14 0 (.slc b12 0 1 1 1) (Nat.le_of_ble_eq_true rfl)
    have r17 := Sat.rot (H := H13) (Z := Z) (l₁ := [.cells b12 [(.int .i64 ((dkAt D q).n))]]) (hl := ol) (F := F) (s14)
    obtain ⟨v18, l19, H20, h21, s22, k23⟩ := s_own (bytes := 8) r17 ho c16 (by omega) (by omega)
    have s24 : Sat H20 Z ((.cells b12 [(.int .i64 ((dkAt D q).n))]) :: (l19 ++ F)) := by have h := Sat.rot (l₁ := l19) (hl := [.cells b12 [(.int .i64 ((dkAt D q).n))]]) s22; exact h
    refine wo_x (v := v18) (k23 rfl rfl) (wo_mv v18 (wo_nil (blk_n (thn_n (wp_reg ?_)))))
    refine wo_mv (.int .i64 (.ofNat q)) (wo_x (v := (.int .i64 (.ofNat (q + 1)))) (w_bin (add_i64 q 1 (by omega) _ _)) (wo_mv (.int .i64 (.ofNat (q + 1))) (wo_nil ?_)))
    have s25 := s24.drop 0
    refine lpq_n (D.length - (q + 1)) (by omega) ⟨(q + 1), v18, l19, [(.int .i64 (.ofNat q)), (.ptr x 0), (.ptr x 0), (.ptr x 0), rv, (.int .i64 (.ofNat D.length)), (.bool true), (.int .i64 (.ofNat q)), (.int .i64 (.ofNat (q + 1))), ov, (.ptr x 0), (.ptr x 0), (.ptr x 0), rv, (.int .i64 (.ofNat q)), (.ptr b4 o5), (.ptr b4 o5), (.int .i64 ((dkAt D q).n)), (.slc b12 0 1 1), v18], rfl, rfl, rfl, s25, (by omega), (by rw [txD_take (by omega)]; exact h21)⟩
  · refine wo_x (v := (.bool false)) (w_bin (cmp_lssF q D.length (by omega))) (wo_nil (thn_n (wp_condF (wp_exit (thn_e ?_)))))
    refine lpq_e (blk_h (thn_n (wp_seq (wp_reg (wo_mv ov ?_)))))
    refine wo_mv ov (wo_nil (thn_n (wp_ret ?_)))
    obtain rfl : q = D.length := by omega
    rw [List.take_of_length_le (Nat.le_refl _)] at ho
    exact fin_1 ov ⟨_, ho, s2⟩
theorem same_ok [LpN] [LfN] [LkN] {tbl : Nat → Option FT} (T : LpT tbl) {G : List Int} {va vb : AV} {N d : Nat} (hd : 1 ≤ d) {Z : Fz} {F : List Hl} {H : AH} (hs : Sat H Z (F)) (ha : Fl Z 1 va (iG G)) (hb : Fl Z 1 vb (iG G)) (hl : G.length ≤ 1000) (hN : 2000 < N) :
    Ct (RUN tbl N d) (.fn (.fn (.func LpN.same)) [] []) [va, vb] H fun v H' => v = .bool true ∧ Sat H' Z F := by
  obtain ⟨d, rfl⟩ : ∃ e, d = e + 1 := ⟨d - 1, by omega⟩
  refine ct_code T.same (b := b_esame) (env := [va, vb, u_, u_, u_, u_, u_, u_, u_, u_, u_, u_, u_, u_, u_, u_, u_, u_, u_, u_, u_, u_, u_, u_, u_, u_]) ?_
  unfold b_esame
  refine wp_seq (wp_reg (wo_mv (.bool false) (wo_nil (thn_n (wp_seq ?_)))))
  refine wp_seq (wp_reg (wo_mv va (wo_x (v := (.int .i64 (.ofNat G.length))) (fl_len ha (iG_len G) rfl) (wo_mv vb (wo_x (v := (.int .i64 (.ofNat G.length))) (fl_len hb (iG_len G) rfl) ?_)))))
  refine wo_x (v := (.bool false)) (w_bin (cmp_neqT G.length G.length (by omega))) (wo_nil (thn_n (wp_condF (wp_skip (thn_n ?_)))))
  refine wp_seq (wp_seq (wp_reg (wo_mv (.int .i64 0) (wo_nil (thn_n ?_)))))
  refine wp_block ?_
  refine wp_loop (fun ms_ env ds H => ∃ (q : Nat), ∃ ys1 : List AV, ms_ = G.length - q ∧ env = [va, vb, u_, u_, (lget ys1 0), (.int .i64 (.ofNat q)), va, (.int .i64 (.ofNat G.length)), vb, (.int .i64 (.ofNat G.length)), (.bool false), (lget ys1 1), (lget ys1 2), (lget ys1 3), (lget ys1 4), (lget ys1 5), (lget ys1 6), (lget ys1 7), (lget ys1 8), (lget ys1 9), (lget ys1 10), (lget ys1 11), (lget ys1 12), (lget ys1 13), (lget ys1 14), (lget ys1 15)] ∧ ds = [] ∧ Sat H Z (F) ∧ (q ≤ G.length)) (G.length - 0) (by omega) ⟨0, [(.bool false), u_, u_, u_, u_, u_, u_, u_, u_, u_, u_, u_, u_, u_, u_, u_], rfl, rfl, rfl, hs, (by omega)⟩ ?_
  rintro ms_ env ds H hms_ ⟨q, ys1, rfl, rfl, rfl, s2, hq⟩
  refine wp_seq (wp_seq (wp_reg (wo_mv (.int .i64 (.ofNat q)) (wo_mv va (wo_x (v := (.int .i64 (.ofNat G.length))) (fl_len ha (iG_len G) rfl) ?_)))))
  by_cases c3 : q < G.length
  · refine wo_x (v := (.bool true)) (w_bin (cmp_lssT q G.length (by omega))) (wo_nil (thn_n (wp_condT (wp_skip (thn_n ?_)))))
    refine wp_seq (wp_block (wp_seq (wp_dreg (wd_run (wo_mv va ?_)))))
    refine wo_nil (wd_run (wo_mv (.int .i64 (.ofNat q)) (wo_nil (wd_run ?_))))
    obtain ⟨b4, o5, L6, z7, g8, e9, n10, k11⟩ := fl_ix ha q (iG_get (show q < G.length by omega))
    refine wo_x (v := (.ptr b4 o5)) (k11 rfl rfl) (wo_nil (wd_run (wo_x (v := (.int .i64 (iAt G q))) (s_zld1 s2 z7 (g8 0 _ rfl)) (wo_nil (wd_run ?_)))))
    refine wo_mv vb (wo_nil (wd_run (wo_mv (.int .i64 (.ofNat q)) (wo_nil (wd_run ?_)))))
    obtain ⟨b12, o13, L14, z15, g16, e17, n18, k19⟩ := fl_ix hb q (iG_get (show q < G.length by omega))
    refine wo_x (v := (.ptr b12 o13)) (k19 rfl rfl) (wo_nil (wd_run (wo_x (v := (.int .i64 (iAt G q))) (s_zld1 s2 z15 (g16 0 _ rfl)) (wo_nil (wd_run ?_)))))
    refine wo_x (v := (.bool false)) (w_bin (cmp_neqTz (iAt G q) (iAt G q) (by omega))) (wo_nil (wd_nil (ws_nil (thn_n (wp_condF ?_)))))
    refine wp_skip (blk_n (thn_n (wp_reg (wo_mv (.int .i64 (.ofNat q)) (wo_x (v := (.int .i64 (.ofNat (q + 1)))) (w_bin (add_i64 q 1 (by omega) _ _)) ?_)))))
    refine wo_mv (.int .i64 (.ofNat (q + 1))) (wo_nil ?_)
    refine lpq_n (G.length - (q + 1)) (by omega) ⟨(q + 1), [(lget ys1 0), (.int .i64 (.ofNat q)), va, (.int .i64 (.ofNat G.length)), (.bool true), (.int .i64 (.ofNat q)), (.int .i64 (.ofNat (q + 1))), va, (.int .i64 (.ofNat q)), (.ptr b4 o5), (.int .i64 (iAt G q)), vb, (.int .i64 (.ofNat q)), (.ptr b12 o13), (.int .i64 (iAt G q)), (.bool false)], rfl, rfl, rfl, s2, (by omega)⟩
  · refine wo_x (v := (.bool false)) (w_bin (cmp_lssF q G.length (by omega))) (wo_nil (thn_n (wp_condF (wp_exit (thn_e ?_)))))
    refine lpq_e (blk_h (thn_n (wp_seq (wp_reg (wo_mv (.bool true) ?_)))))
    refine wo_nil (thn_n (wp_ret ?_))
    exact fin_1 (.bool true) ⟨rfl, s2⟩
end
end Go.Jt
