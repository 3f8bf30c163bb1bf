/-
  What the functions of space.Space do. PRINTED by wip/tools/mkspc.py.
-/
import Derived.Test.YtlhlgmodhblplaaJtSep
import Derived.Test.YtlhlgmodhblplaaJtSpace2
set_option autoImplicit false
set_option linter.all false
set_option maxRecDepth 10000
set_option maxHeartbeats 8000000
namespace Go.Jt
noncomputable section
variable [Gl]
class SpN where
  new : Nat
  take : Nat
  give : Nat
  mark : Nat
  settle : Nat
  back : Nat
  taken : Nat
  waits : Nat
  free : Nat
  put : Nat
  is_ : Nat
  turn : Nat
  all : Nat
  all1 : Nat
def b_snew [SpN] : IR := (.seq (.reg [mv 2 (.cst .nilp), xo 3 (.mv (.cst (.int .i64 0)))]) (.seq (.seq (.reg [mv 5 t0, xo 6 (.bin .lss 0 t5 (.cst (.int .i64 64))), mv 7 t6, ⟨some 8, .mv t0, some (7, false)⟩, ⟨some 9, .bin .gtr 0 t8 (.cst (.int .i64 8192)), some (7, false)⟩, xo 10 (.pick t7 (.cst (.bool true)) t9)]) (.cond t10 (.seq (.reg [mv 2 (.cst .nilp), xo 3 (.mv (.cst (.int .i64 1)))]) .ret) .skip)) (.seq (.reg [mv 11 t0, xo 12 (.build (.cat 8192 (.rep 8192 (.int .u8 0)) (.rep 6 (.int .i64 0))) [(8192, 1, t11), (8193, 1, (.cst (.int .i64 1)))]), xo 13 (.box t12), mv 4 t13]) (.seq (.dreg [.run (mv 14 t4), .run (mv 15 t4), .run (xo 16 (.nck t14)), .run (xo 17 (.fla 0 t16)), .run (xo 18 (.ixa 8192 1 t17 (.cst (.int .i64 0)))), .run (xo 19 (.nck t15)), .run (xo 20 (.fla 0 t19))] [(⟨none, .st 1 t18 (.cst (.int .u8 1)), none⟩, [.run (xo 21 (.ixa 8192 1 t20 (.cst (.int .i64 1))))]), (⟨none, .st 1 t21 (.cst (.int .u8 1)), none⟩, [])]) (.seq (.dreg [.run (mv 22 t4), .run (mv 23 t4), .run (mv 24 t0), .run (xo 25 (.bin .sub 0 t24 (.cst (.int .i64 2)))), .run (xo 26 (.nck t22)), .run (xo 27 (.fla 8194 t26)), .run (xo 28 (.ixa 4 1 t27 (.cst (.int .u8 0)))), .run (xo 29 (.nck t23)), .run (xo 30 (.fla 8194 t29))] [(⟨none, .st 1 t28 t25, none⟩, [.run (xo 31 (.ixa 4 1 t30 (.cst (.int .u8 1))))]), (⟨none, .st 1 t31 (.cst (.int .i64 2)), none⟩, [])]) (.seq (.reg [mv 32 t4, mv 2 t32, xo 3 (.mv (.cst (.int .i64 0)))]) .ret))))))
def ir_snew [SpN] : FnIR := ⟨33, [.tmp 2, .tmp 3], b_snew⟩
def b_stake [SpN] : IR := (.seq (.reg [xo 2 (.mv (.cst (.int .i64 0))), xo 3 (.mv (.cst (.int .i64 0)))]) (.seq (.seq (.reg [mv 6 t0, xo 7 (.bin .eql 2 t6 (.cst .nilp))]) (.cond t7 (.seq (.reg [xo 2 (.mv (.cst (.int .i64 0))), xo 3 (.mv (.cst (.int .i64 2)))]) .ret) .skip)) (.seq (.seq (.reg [mv 8 t0, xo 9 (.nck t8), xo 10 (.fla 8194 t9), xo 11 (.ixa 4 1 t10 (.cst (.int .u8 0))), xo 12 (.ld1 t11), xo 13 (.bin .eql 0 t12 (.cst (.int .i64 0)))]) (.cond t13 (.seq (.reg [xo 2 (.mv (.cst (.int .i64 0))), xo 3 (.mv (.cst (.int .i64 3)))]) .ret) .skip)) (.seq (.reg [mv 14 t0, xo 15 (.nck t14), xo 16 (.fla 8193 t15), xo 17 (.ld1 t16), mv 4 t17]) (.seq (.seq (.reg [xo 5 (.mv (.cst (.bool true)))]) (.block 0 (.loop (.seq (.seq (.reg [mv 18 t5]) (.cond t18 .skip (.exit 0))) (.seq (.block 1 (.reg [mv 26 t4, xo 27 (.bin .add 0 t26 (.cst (.int .i64 1))), mv 28 t0, xo 29 (.nck t28), xo 30 (.fla 8192 t29), xo 31 (.ld1 t30), xo 32 (.bin .rem 0 t27 t31), mv 4 t32])) (.reg [mv 19 t0, mv 20 t4, xo 21 (.nck t19), xo 22 (.fla 0 t21), xo 23 (.ixa 8192 1 t22 t20), xo 24 (.ld1 t23), xo 25 (.bin .neq 0 t24 (.cst (.int .u8 0))), mv 5 t25])))))) (.seq (.reg [mv 33 t0, mv 34 t4, xo 35 (.call (.cst (.fn (.fn (.func SpN.put)) [] [])) [t33, t34, (.cst (.int .u8 3))])]) (.seq (.reg [mv 36 t0, mv 37 t4, xo 38 (.nck t36), xo 39 (.fla 8193 t38), ⟨none, .st 1 t39 t37, none⟩]) (.seq (.reg [mv 40 t4, mv 2 t40, xo 3 (.mv (.cst (.int .i64 0)))]) .ret))))))))
def ir_stake [SpN] : FnIR := ⟨41, [.tmp 2, .tmp 3], b_stake⟩
def b_sgive [SpN] : IR := (.seq (.reg [xo 4 (.mv (.cst (.int .i64 0)))]) (.seq (.block 0 (.seq (.reg [mv 6 t0, xo 7 (.bin .eql 2 t6 (.cst .nilp)), mv 5 t7]) (.cond t5 (.seq (.reg [xo 4 (.mv (.cst (.int .i64 2)))]) .ret) (.seq (.reg [mv 9 t0, mv 10 t1, xo 11 (.call (.cst (.fn (.fn (.func SpN.is_)) [] [])) [t9, t10]), xo 12 (.not t11), mv 8 t12]) (.cond t8 (.seq (.reg [xo 4 (.mv (.cst (.int .i64 1)))]) .ret) (.seq (.reg [mv 14 t0, mv 15 t1, xo 16 (.nck t14), xo 17 (.fla 0 t16), xo 18 (.ixa 8192 1 t17 t15), xo 19 (.ld1 t18), xo 20 (.bin .eql 0 t19 (.cst (.int .u8 3))), mv 13 t20]) (.cond t13 (.reg [mv 21 t0, mv 22 t1, xo 23 (.call (.cst (.fn (.fn (.func SpN.put)) [] [])) [t21, t22, (.cst (.int .u8 0))])]) (.seq (.reg [mv 25 t0, mv 26 t1, xo 27 (.nck t25), xo 28 (.fla 0 t27), xo 29 (.ixa 8192 1 t28 t26), xo 30 (.ld1 t29), xo 31 (.bin .eql 0 t30 (.cst (.int .u8 1))), mv 24 t31]) (.cond t24 (.reg [mv 32 t0, mv 33 t1, xo 34 (.call (.cst (.fn (.fn (.func SpN.put)) [] [])) [t32, t33, (.cst (.int .u8 2))])]) (.seq (.reg [xo 4 (.mv (.cst (.int .i64 5)))]) .ret)))))))))) (.seq (.reg [xo 4 (.mv (.cst (.int .i64 0)))]) .ret)))
def ir_sgive [SpN] : FnIR := ⟨35, [.tmp 4], b_sgive⟩
def b_smark [SpN] : IR := (.seq (.reg [xo 4 (.mv (.cst (.int .i64 0)))]) (.seq (.block 0 (.seq (.reg [mv 6 t0, xo 7 (.bin .eql 2 t6 (.cst .nilp)), mv 5 t7]) (.cond t5 (.seq (.reg [xo 4 (.mv (.cst (.int .i64 2)))]) .ret) (.seq (.reg [mv 9 t0, mv 10 t1, xo 11 (.call (.cst (.fn (.fn (.func SpN.is_)) [] [])) [t9, t10]), xo 12 (.not t11), mv 8 t12]) (.cond t8 (.seq (.reg [xo 4 (.mv (.cst (.int .i64 1)))]) .ret) (.seq (.reg [mv 14 t0, mv 15 t1, xo 16 (.nck t14), xo 17 (.fla 0 t16), xo 18 (.ixa 8192 1 t17 t15), xo 19 (.ld1 t18), xo 20 (.bin .neq 0 t19 (.cst (.int .u8 0))), mv 13 t20]) (.cond t13 (.seq (.reg [xo 4 (.mv (.cst (.int .i64 6)))]) .ret) .skip))))))) (.seq (.reg [mv 21 t0, mv 22 t1, xo 23 (.call (.cst (.fn (.fn (.func SpN.put)) [] [])) [t21, t22, (.cst (.int .u8 1))])]) (.seq (.reg [xo 4 (.mv (.cst (.int .i64 0)))]) .ret))))
def ir_smark [SpN] : FnIR := ⟨24, [.tmp 4], b_smark⟩
def b_ssettle [SpN] : IR := (.reg [mv 2 t0, xo 3 (.call (.cst (.fn (.fn (.func SpN.turn)) [] [])) [t2, (.cst (.int .u8 2)), (.cst (.int .u8 3))])])
def ir_ssettle [SpN] : FnIR := ⟨4, [], b_ssettle⟩
def b_sback [SpN] : IR := (.reg [mv 2 t0, xo 3 (.call (.cst (.fn (.fn (.func SpN.turn)) [] [])) [t2, (.cst (.int .u8 3)), (.cst (.int .u8 2))])])
def ir_sback [SpN] : FnIR := ⟨4, [], b_sback⟩
def b_staken [SpN] : IR := (.seq (.reg [xo 4 (.mv (.cst (.bool false)))]) (.seq (.reg [mv 5 t0, xo 6 (.bin .neq 2 t5 (.cst .nilp)), mv 7 t6, ⟨some 8, .mv t1, some (7, true)⟩, ⟨some 9, .bin .geq 0 t8 (.cst (.int .i64 0)), some (7, true)⟩, xo 10 (.pick t7 t9 (.cst (.bool false))), mv 11 t10, ⟨some 12, .mv t1, some (11, true)⟩, ⟨some 13, .mv t0, some (11, true)⟩, ⟨some 14, .nck t13, some (11, true)⟩, ⟨some 15, .fla 8192 t14, some (11, true)⟩, ⟨some 16, .ld1 t15, some (11, true)⟩, ⟨some 17, .bin .lss 0 t12 t16, some (11, true)⟩, xo 18 (.pick t11 t17 (.cst (.bool false))), mv 19 t18, ⟨some 20, .mv t0, some (19, true)⟩, ⟨some 21, .mv t1, some (19, true)⟩, ⟨some 22, .nck t20, some (19, true)⟩, ⟨some 23, .fla 0 t22, some (19, true)⟩, ⟨some 24, .ixa 8192 1 t23 t21, some (19, true)⟩, ⟨some 25, .ld1 t24, some (19, true)⟩, ⟨some 26, .bin .eql 0 t25 (.cst (.int .u8 1)), some (19, true)⟩, ⟨some 27, .mv t26, some (19, true)⟩, ⟨some 28, .mv t0, some (27, false)⟩, ⟨some 29, .mv t1, some (27, false)⟩, ⟨some 30, .nck t28, some (27, false)⟩, ⟨some 31, .fla 0 t30, some (27, false)⟩, ⟨some 32, .ixa 8192 1 t31 t29, some (27, false)⟩, ⟨some 33, .ld1 t32, some (27, false)⟩, ⟨some 34, .bin .eql 0 t33 (.cst (.int .u8 3)), some (27, false)⟩, ⟨some 35, .pick t27 (.cst (.bool true)) t34, some (19, true)⟩, xo 36 (.pick t19 t35 (.cst (.bool false))), mv 4 t36]) .ret))
def ir_staken [SpN] : FnIR := ⟨37, [.tmp 4], b_staken⟩
def b_swaits [SpN] : IR := (.seq (.reg [xo 2 (.mv (.cst (.int .i64 0)))]) (.seq (.seq (.reg [mv 3 t0, xo 4 (.bin .eql 2 t3 (.cst .nilp))]) (.cond t4 (.seq (.reg [xo 2 (.mv (.cst (.int .i64 0)))]) .ret) .skip)) (.seq (.reg [mv 5 t0, xo 6 (.nck t5), xo 7 (.fla 8194 t6), xo 8 (.ixa 4 1 t7 (.cst (.int .u8 2))), xo 9 (.ld1 t8), mv 2 t9]) .ret)))
def ir_swaits [SpN] : FnIR := ⟨10, [.tmp 2], b_swaits⟩
def b_sfree [SpN] : IR := (.seq (.reg [xo 2 (.mv (.cst (.int .i64 0)))]) (.seq (.seq (.reg [mv 3 t0, xo 4 (.bin .eql 2 t3 (.cst .nilp))]) (.cond t4 (.seq (.reg [xo 2 (.mv (.cst (.int .i64 0)))]) .ret) .skip)) (.seq (.reg [mv 5 t0, xo 6 (.nck t5), xo 7 (.fla 8194 t6), xo 8 (.ixa 4 1 t7 (.cst (.int .u8 0))), xo 9 (.ld1 t8), mv 2 t9]) .ret)))
def ir_sfree [SpN] : FnIR := ⟨10, [.tmp 2], b_sfree⟩
def b_sput [SpN] : IR := (.seq (.dreg [.run (mv 6 t0), .run (mv 7 t0), .run (mv 8 t1), .run (xo 9 (.nck t7)), .run (xo 10 (.fla 0 t9)), .run (xo 11 (.ixa 8192 1 t10 t8)), .run (xo 12 (.ld1 t11)), .run (xo 13 (.nck t6)), .run (xo 14 (.fla 8194 t13)), .run (xo 15 (.ixa 4 1 t14 t12)), .run (xo 16 (.ld1 t15)), .run (xo 17 (.bin .sub 0 t16 (.cst (.int .i64 1)))), .run (xo 18 (.nck t6)), .run (xo 19 (.fla 8194 t18)), .run (xo 20 (.ixa 4 1 t19 t12))] [(⟨none, .st 1 t20 t17, none⟩, [])]) (.seq (.reg [mv 21 t0, mv 22 t1, mv 23 t2, xo 24 (.nck t21), xo 25 (.fla 0 t24), xo 26 (.ixa 8192 1 t25 t22), ⟨none, .st 1 t26 t23, none⟩]) (.dreg [.run (mv 27 t0), .run (mv 28 t2), .run (xo 29 (.nck t27)), .run (xo 30 (.fla 8194 t29)), .run (xo 31 (.ixa 4 1 t30 t28)), .run (xo 32 (.ld1 t31)), .run (xo 33 (.bin .add 0 t32 (.cst (.int .i64 1)))), .run (xo 34 (.nck t27)), .run (xo 35 (.fla 8194 t34)), .run (xo 36 (.ixa 4 1 t35 t28))] [(⟨none, .st 1 t36 t33, none⟩, [])])))
def ir_sput [SpN] : FnIR := ⟨37, [], b_sput⟩
def b_sis_ [SpN] : IR := (.seq (.reg [xo 4 (.mv (.cst (.bool false)))]) (.seq (.reg [mv 5 t1, xo 6 (.bin .geq 0 t5 (.cst (.int .i64 2))), mv 7 t6, ⟨some 8, .mv t1, some (7, true)⟩, ⟨some 9, .mv t0, some (7, true)⟩, ⟨some 10, .nck t9, some (7, true)⟩, ⟨some 11, .fla 8192 t10, some (7, true)⟩, ⟨some 12, .ld1 t11, some (7, true)⟩, ⟨some 13, .bin .lss 0 t8 t12, some (7, true)⟩, xo 14 (.pick t7 t13 (.cst (.bool false))), mv 4 t14]) .ret))
def ir_sis_ [SpN] : FnIR := ⟨15, [.tmp 4], b_sis_⟩
def b_sturn [SpN] : IR := (.seq (.reg [xo 3 (.box t0)]) (.seq (.seq (.reg [xo 8 (.ld1 t3), xo 9 (.bin .eql 2 t8 (.cst .nilp))]) (.cond t9 .ret .skip)) (.seq (.seq (.reg [xo 10 (.ld1 t3), mv 11 t1, xo 12 (.call (.cst (.fn (.fn (.func SpN.all)) [] [])) [t10, t11])]) (.block 0 (.rfn t12 [13] (.reg [mv 6 t13]) (.block 1 (.reg [xo 14 (.ld1 t3), mv 15 t6, xo 16 (.call (.cst (.fn (.fn (.func SpN.put)) [] [])) [t14, t15, (.cst (.int .u8 0))])]))))) (.seq (.reg [xo 17 (.ld1 t3), mv 18 t2, xo 19 (.call (.cst (.fn (.fn (.func SpN.all)) [] [])) [t17, t18])]) (.block 2 (.rfn t19 [20] (.reg [mv 7 t20]) (.block 3 (.reg [xo 21 (.ld1 t3), mv 22 t7, xo 23 (.call (.cst (.fn (.fn (.func SpN.put)) [] [])) [t21, t22, (.cst (.int .u8 1))])]))))))))
def ir_sturn [SpN] : FnIR := ⟨24, [], b_sturn⟩
def b_sall [SpN] : IR := (.seq (.reg [xo 2 (.box t0), xo 3 (.box t1), mv 4 (.cst .nilf)]) (.seq (.reg [xo 5 (.mkf (.fn (.func SpN.all1)) [] [t2, t3]), mv 4 t5]) .ret))
def ir_sall [SpN] : FnIR := ⟨6, [.tmp 4], b_sall⟩
def b_sall1 [SpN] : IR := (.seq (.reg [xo 5 (.ld1 t1), xo 6 (.nck t5), xo 7 (.fla 8192 t6), xo 8 (.ld1 t7), xo 9 (.mv (.cst (.int .i64 0)))]) (.block 0 (.loop (.seq (.reg [xo 10 (.bin .lss 0 t9 t8)]) (.seq (.cond t10 .skip (.exit 0)) (.seq (.block 1 (.seq (.reg [mv 11 t9, mv 4 t11]) (.seq (.dreg [.run (xo 12 (.ld1 t1)), .run (mv 13 t4), .run (xo 14 (.nck t12)), .run (xo 15 (.fla 0 t14)), .run (xo 16 (.ixa 8192 1 t15 t13)), .run (xo 17 (.ld1 t16)), .run (xo 18 (.ld1 t2)), .run (xo 19 (.bin .eql 0 t17 t18)), .run (mv 20 t19), .run ⟨some 21, .mv t0, some (20, true)⟩, .run ⟨some 22, .mv t4, some (20, true)⟩] [(⟨some 23, .call t21 [t22], some (20, true)⟩, [.run ⟨some 24, .not t23, some (20, true)⟩, .run (xo 25 (.pick t20 t24 (.cst (.bool false))))])]) (.cond t25 .ret .skip)))) (.reg [xo 26 (.bin .add 0 t9 (.cst (.int .i64 1))), mv 9 t26])))))))
def ir_sall1 [SpN] : FnIR := ⟨27, [], b_sall1⟩
structure SpT [SpN] (tbl : Nat → Option FT) : Prop where
  new : tbl SpN.new = some (.code ir_snew)
  take : tbl SpN.take = some (.code ir_stake)
  give : tbl SpN.give = some (.code ir_sgive)
  mark : tbl SpN.mark = some (.code ir_smark)
  settle : tbl SpN.settle = some (.code ir_ssettle)
  back : tbl SpN.back = some (.code ir_sback)
  taken : tbl SpN.taken = some (.code ir_staken)
  waits : tbl SpN.waits = some (.code ir_swaits)
  free : tbl SpN.free = some (.code ir_sfree)
  put : tbl SpN.put = some (.code ir_sput)
  is_ : tbl SpN.is_ = some (.code ir_sis_)
  turn : tbl SpN.turn = some (.code ir_sturn)
  all : tbl SpN.all = some (.code ir_sall)
  all1 : tbl SpN.all1 = some (.code ir_sall1)
theorem put_ok [SpN] {tbl : Nat → Option FT} (T : SpT tbl) {f c : Nat → Nat} {bl la b : Nat} {n t : Nat} (hn : n < 8192) (hf : f n < 4) (ht : t < 4) (hp1 : 1 ≤ c (f n)) (hp2 : c (f n) ≤ 9223372036854775807) (hp3 : fup c (f n) (c (f n) - 1) t + 1 ≤ 9223372036854775807) {N d : Nat} (hd : 1 ≤ d) {Z : Fz} {F : List Hl} {H : AH} (hs : Sat H Z ((.cells b (spL f bl la c)) :: F))  :
    Ct (RUN tbl N d) (.fn (.fn (.func SpN.put)) [] []) [(.ptr b 0), (.int .i64 (.ofNat n)), (.int .u8 (.ofNat t))] H fun v H' => v = .tup [] ∧ Sat H' Z (.cells b (spL (fup f n t) bl la (fup (fup c (f n) (c (f n) - 1)) t (fup c (f n) (c (f n) - 1) t + 1))) :: F) := by
  obtain ⟨d, rfl⟩ : ∃ e, d = e + 1 := ⟨d - 1, by omega⟩
  refine ct_code T.put (b := b_sput) (env := [(.ptr b 0), (.int .i64 (.ofNat n)), (.int .u8 (.ofNat t)), u_, u_, u_, u_, u_, u_, u_, u_, u_, u_, u_, u_, u_, u_, u_, u_, u_, u_, u_, u_, u_, u_, u_, u_, u_, u_, u_, u_, u_, u_, u_, u_, u_, u_]) ?_
  unfold b_sput
  refine wp_seq (wp_dreg (wd_run (wo_mv (.ptr b 0) (wo_nil (wd_run ?_)))))
  refine wo_mv (.ptr b 0) (wo_nil (wd_run (wo_mv (.int .i64 (.ofNat n)) (wo_nil (wd_run ?_)))))
  refine wo_x (v := (.ptr b 0)) (w_lit (fun K => rfl)) (wo_nil (wd_run (wo_x (v := (.ptr b 0)) (ca_fla rfl rfl) (wo_nil (wd_run ?_)))))
  refine wo_x (v := (.ptr b n)) (w_ixa (o := 0) (n := n) (r := n) rfl rfl (by omega) (by omega)) (wo_nil (wd_run (wo_x (v := (.int .u8 (.ofNat (f n)))) (s_ld1 hs 0 (spL_of (by omega))) (wo_nil (wd_run ?_)))))
  refine wo_x (v := (.ptr b 0)) (w_lit (fun K => rfl)) (wo_nil (wd_run (wo_x (v := (.ptr b 8194)) (ca_fla rfl rfl) (wo_nil (wd_run ?_)))))
  refine wo_x (v := (.ptr b (8194 + f n))) (w_ixa (o := 8194) (n := (f n)) (r := (8194 + f n)) rfl rfl (by omega) (by omega)) (wo_nil (wd_run (wo_x (v := (.int .i64 (.ofNat (c (f n))))) (s_ld1 hs 0 (spL_ct (by omega))) (wo_nil (wd_run ?_)))))
  refine wo_x (v := (.int .i64 (.ofNat ((c (f n)) - 1)))) (w_bin (sub_i64 (c (f n)) 1 (by omega) (by omega))) (wo_nil (wd_run (wo_x (v := (.ptr b 0)) (w_lit (fun K => rfl)) (wo_nil (wd_run ?_)))))
  refine wo_x (v := (.ptr b 8194)) (ca_fla rfl rfl) (wo_nil (wd_run (wo_x (v := (.ptr b (8194 + f n))) (w_ixa (o := 8194) (n := (f n)) (r := (8194 + f n)) rfl rfl (by omega) (by omega)) (wo_nil (wd_nil ?_)))))
  refine ws_cons ?_
  obtain ⟨H1, s2, k3⟩ := s_st hs (8194 + f n) (.int .i64 (.ofNat ((c (f n)) - 1))) (by rw [spL_len]; omega)
  rw [spL_sct (by omega)] at s2
  refine wo_n (k3 rfl rfl) (wo_nil (wd_nil (ws_nil (thn_n (wp_seq ?_)))))
  refine wp_reg (wo_mv (.ptr b 0) (wo_mv (.int .i64 (.ofNat n)) (wo_mv (.int .u8 (.ofNat t)) (wo_x (v := (.ptr b 0)) (w_lit (fun K => rfl)) (wo_x (v := (.ptr b 0)) (ca_fla rfl rfl) ?_)))))
  refine wo_x (v := (.ptr b n)) (w_ixa (o := 0) (n := n) (r := n) rfl rfl (by omega) (by omega)) ?_
  obtain ⟨H4, s5, k6⟩ := s_st s2 n (.int .u8 (.ofNat t)) (by rw [spL_len]; omega)
  rw [spL_sof (by omega)] at s5
  refine wo_n (k6 rfl rfl) (wo_nil (thn_n (wp_dreg (wd_run (wo_mv (.ptr b 0) ?_)))))
  refine wo_nil (wd_run (wo_mv (.int .u8 (.ofNat t)) (wo_nil (wd_run (wo_x (v := (.ptr b 0)) (w_lit (fun K => rfl)) ?_)))))
  refine wo_nil (wd_run (wo_x (v := (.ptr b 8194)) (ca_fla rfl rfl) (wo_nil (wd_run (wo_x (v := (.ptr b (8194 + t))) (w_ixa (o := 8194) (n := t) (r := (8194 + t)) rfl rfl (by omega) (by omega)) ?_)))))
  refine wo_nil (wd_run (wo_x (v := (.int .i64 (.ofNat ((fup c (f n) ((c (f n)) - 1)) t)))) (s_ld1 s5 0 (spL_ct (by omega))) (wo_nil (wd_run (wo_x (v := (.int .i64 (.ofNat (((fup c (f n) ((c (f n)) - 1)) t) + 1)))) (w_bin (add_i64 ((fup c (f n) ((c (f n)) - 1)) t) 1 (by omega) _ _)) ?_)))))
  refine wo_nil (wd_run (wo_x (v := (.ptr b 0)) (w_lit (fun K => rfl)) (wo_nil (wd_run (wo_x (v := (.ptr b 8194)) (ca_fla rfl rfl) ?_)))))
  refine wo_nil (wd_run (wo_x (v := (.ptr b (8194 + t))) (w_ixa (o := 8194) (n := t) (r := (8194 + t)) rfl rfl (by omega) (by omega)) (wo_nil (wd_nil (ws_cons ?_)))))
  obtain ⟨H7, s8, k9⟩ := s_st s5 (8194 + t) (.int .i64 (.ofNat (((fup c (f n) ((c (f n)) - 1)) t) + 1))) (by rw [spL_len]; omega)
  rw [spL_sct (by omega)] at s8
  refine wo_n (k9 rfl rfl) (wo_nil (wd_nil (ws_nil ?_)))
  exact fin_0  ⟨rfl, s8⟩
theorem is_ok [SpN] {tbl : Nat → Option FT} (T : SpT tbl) {f c : Nat → Nat} {bl la b : Nat} {n : Int} (hb : bl ≤ 8192) {N d : Nat} (hd : 1 ≤ d) {Z : Fz} {F : List Hl} {H : AH} (hs : Sat H Z ((.cells b (spL f bl la c)) :: F))  :
    Ct (RUN tbl N d) (.fn (.fn (.func SpN.is_)) [] []) [(.ptr b 0), (.int .i64 n)] H fun v H' => v = .bool (decide (2 ≤ n ∧ n < bl)) ∧ Sat H' Z (.cells b (spL f bl la c) :: F) := by
  obtain ⟨d, rfl⟩ : ∃ e, d = e + 1 := ⟨d - 1, by omega⟩
  refine ct_code T.is_ (b := b_sis_) (env := [(.ptr b 0), (.int .i64 n), u_, u_, u_, u_, u_, u_, u_, u_, u_, u_, u_, u_, u_]) ?_
  unfold b_sis_
  refine wp_seq (wp_reg (wo_mv (.bool false) (wo_nil (thn_n (wp_seq ?_)))))
  refine wp_reg (wo_mv (.int .i64 n) ?_)
  by_cases c1 : 2 ≤ n
  · refine wo_x (v := (.bool true)) (w_bin (cmp_geqTz n 2 (by omega))) (wo_mv (.bool true) (wo_yesT (wo_mv (.int .i64 n) (wo_yesT (wo_mv (.ptr b 0) ?_)))))
    refine wo_yesT (wo_x (v := (.ptr b 0)) (w_lit (fun K => rfl)) (wo_yesT (wo_x (v := (.ptr b 8192)) (ca_fla rfl rfl) (wo_yesT (wo_x (v := (.int .i64 (.ofNat bl))) (s_ld1 hs 0 spL_bl) ?_)))))
    by_cases c2 : n < ((bl : Nat) : Int)
    · refine wo_yesT (wo_x (v := (.bool true)) (w_bin (cmp_lssTz n ((bl : Nat) : Int) (by omega))) (wo_x (v := (.bool true)) (w_pickT rfl rfl) (wo_mv (.bool true) (wo_nil (thn_n ?_)))))
      refine wp_ret ?_
      exact fin_1 (.bool true) ⟨by simp only [AV.bool.injEq]; symm; first | (apply decide_eq_true; omega) | (apply decide_eq_false; omega), hs⟩
    · refine wo_yesT (wo_x (v := (.bool false)) (w_bin (cmp_lssFz n ((bl : Nat) : Int) (by omega))) (wo_x (v := (.bool false)) (w_pickT rfl rfl) (wo_mv (.bool false) (wo_nil (thn_n ?_)))))
      refine wp_ret ?_
      exact fin_1 (.bool false) ⟨by simp only [AV.bool.injEq]; symm; first | (apply decide_eq_true; omega) | (apply decide_eq_false; omega), hs⟩
  · refine wo_x (v := (.bool false)) (w_bin (cmp_geqFz n 2 (by omega))) (wo_mv (.bool false) (wo_noF (wo_noF (wo_noF (wo_noF ?_)))))
    refine wo_noF (wo_noF (wo_x (v := (.bool false)) (w_pickF rfl rfl) (wo_mv (.bool false) (wo_nil (thn_n ?_)))))
    refine wp_ret ?_
    exact fin_1 (.bool false) ⟨by simp only [AV.bool.injEq]; symm; first | (apply decide_eq_true; omega) | (apply decide_eq_false; omega), hs⟩
theorem taken_ok [SpN] {tbl : Nat → Option FT} (T : SpT tbl) {f c : Nat → Nat} {bl la b : Nat} {n : Nat} (hb : bl ≤ 8192) {N d : Nat} (hd : 1 ≤ d) {Z : Fz} {F : List Hl} {H : AH} (hs : Sat H Z ((.cells b (spL f bl la c)) :: F))  :
    Ct (RUN tbl N d) (.fn (.fn (.func SpN.taken)) [] []) [(.ptr b 0), (.int .i64 (.ofNat n))] H fun v H' => v = .bool (decide (n < bl ∧ (f n = 1 ∨ f n = 3))) ∧ Sat H' Z (.cells b (spL f bl la c) :: F) := by
  obtain ⟨d, rfl⟩ : ∃ e, d = e + 1 := ⟨d - 1, by omega⟩
  refine ct_code T.taken (b := b_staken) (env := [(.ptr b 0), (.int .i64 (.ofNat n)), u_, u_, u_, u_, u_, u_, u_, u_, u_, u_, u_, u_, u_, u_, u_, u_, u_, u_, u_, u_, u_, u_, u_, u_, u_, u_, u_, u_, u_, u_, u_, u_, u_, u_, u_]) ?_
  unfold b_staken
  refine wp_seq (wp_reg (wo_mv (.bool false) (wo_nil (thn_n (wp_seq ?_)))))
  refine wp_reg (wo_mv (.ptr b 0) (wo_x (v := (.bool true)) (w_lit (fun K => rfl)) (wo_mv (.bool true) (wo_yesT (wo_mv (.int .i64 (.ofNat n)) ?_)))))
  refine wo_yesT (wo_x (v := (.bool true)) (w_bin (cmp_geqT n 0 (by omega))) (wo_x (v := (.bool true)) (w_pickT rfl rfl) (wo_mv (.bool true) (wo_yesT (wo_mv (.int .i64 (.ofNat n)) ?_)))))
  refine wo_yesT (wo_mv (.ptr b 0) (wo_yesT (wo_x (v := (.ptr b 0)) (w_lit (fun K => rfl)) (wo_yesT (wo_x (v := (.ptr b 8192)) (ca_fla rfl rfl) ?_)))))
  refine wo_yesT (wo_x (v := (.int .i64 (.ofNat bl))) (s_ld1 hs 0 spL_bl) ?_)
  by_cases c1 : n < bl
  · refine wo_yesT (wo_x (v := (.bool true)) (w_bin (cmp_lssT n bl (by omega))) (wo_x (v := (.bool true)) (w_pickT rfl rfl) (wo_mv (.bool true) (wo_yesT (wo_mv (.ptr b 0) ?_)))))
    refine wo_yesT (wo_mv (.int .i64 (.ofNat n)) (wo_yesT (wo_x (v := (.ptr b 0)) (w_lit (fun K => rfl)) (wo_yesT (wo_x (v := (.ptr b 0)) (ca_fla rfl rfl) ?_)))))
    refine wo_yesT (wo_x (v := (.ptr b n)) (w_ixa (o := 0) (n := n) (r := n) rfl rfl (by omega) (by omega)) (wo_yesT (wo_x (v := (.int .u8 (.ofNat (f n)))) (s_ld1 hs 0 (spL_of (by omega))) ?_)))
    by_cases c2 : f n = 1
    · refine wo_yesT (wo_x (v := (.bool true)) (w_bin (cmp_eqlT (f n) 1 (by omega))) (wo_yesT (wo_mv (.bool true) (wo_noT (wo_noT ?_)))))
      refine wo_noT (wo_noT (wo_noT (wo_noT (wo_noT (wo_yesT ?_)))))
      refine wo_x (v := (.bool true)) (w_pickT rfl rfl) (wo_x (v := (.bool true)) (w_pickT rfl rfl) (wo_mv (.bool true) (wo_nil (thn_n (wp_ret ?_)))))
      exact fin_1 (.bool true) ⟨by simp only [AV.bool.injEq]; symm; first | (apply decide_eq_true; omega) | (apply decide_eq_false; omega), hs⟩
    · refine wo_yesT (wo_x (v := (.bool false)) (w_bin (cmp_eqlF (f n) 1 (by omega))) (wo_yesT (wo_mv (.bool false) (wo_yesF (wo_mv (.ptr b 0) ?_)))))
      refine wo_yesF (wo_mv (.int .i64 (.ofNat n)) (wo_yesF (wo_x (v := (.ptr b 0)) (w_lit (fun K => rfl)) (wo_yesF (wo_x (v := (.ptr b 0)) (ca_fla rfl rfl) ?_)))))
      refine wo_yesF (wo_x (v := (.ptr b n)) (w_ixa (o := 0) (n := n) (r := n) rfl rfl (by omega) (by omega)) (wo_yesF (wo_x (v := (.int .u8 (.ofNat (f n)))) (s_ld1 hs 0 (spL_of (by omega))) ?_)))
      by_cases c3 : f n = 3
      · refine wo_yesF (wo_x (v := (.bool true)) (w_bin (cmp_eqlT (f n) 3 (by omega))) (wo_yesT (wo_x (v := (.bool true)) (w_pickF rfl rfl) (wo_x (v := (.bool true)) (w_pickT rfl rfl) (wo_mv (.bool true) ?_)))))
        refine wo_nil (thn_n (wp_ret ?_))
        exact fin_1 (.bool true) ⟨by simp only [AV.bool.injEq]; symm; first | (apply decide_eq_true; omega) | (apply decide_eq_false; omega), hs⟩
      · refine wo_yesF (wo_x (v := (.bool false)) (w_bin (cmp_eqlF (f n) 3 (by omega))) (wo_yesT (wo_x (v := (.bool false)) (w_pickF rfl rfl) (wo_x (v := (.bool false)) (w_pickT rfl rfl) (wo_mv (.bool false) ?_)))))
        refine wo_nil (thn_n (wp_ret ?_))
        exact fin_1 (.bool false) ⟨by simp only [AV.bool.injEq]; symm; first | (apply decide_eq_true; omega) | (apply decide_eq_false; omega), hs⟩
  · refine wo_yesT (wo_x (v := (.bool false)) (w_bin (cmp_lssF n bl (by omega))) (wo_x (v := (.bool false)) (w_pickT rfl rfl) (wo_mv (.bool false) (wo_noF (wo_noF ?_)))))
    refine wo_noF (wo_noF (wo_noF (wo_noF (wo_noF (wo_noF ?_)))))
    refine wo_noU (wo_noU (wo_noU (wo_noU (wo_noU (wo_noU ?_)))))
    refine wo_noU (wo_noF (wo_x (v := (.bool false)) (w_pickF rfl rfl) (wo_mv (.bool false) (wo_nil (thn_n ?_)))))
    refine wp_ret ?_
    exact fin_1 (.bool false) ⟨by simp only [AV.bool.injEq]; symm; first | (apply decide_eq_true; omega) | (apply decide_eq_false; omega), hs⟩
theorem free_ok [SpN] {tbl : Nat → Option FT} (T : SpT tbl) {f c : Nat → Nat} {bl la b : Nat} {N d : Nat} (hd : 1 ≤ d) {Z : Fz} {F : List Hl} {H : AH} (hs : Sat H Z ((.cells b (spL f bl la c)) :: F))  :
    Ct (RUN tbl N d) (.fn (.fn (.func SpN.free)) [] []) [(.ptr b 0)] H fun v H' => v = .int .i64 (.ofNat (c 0)) ∧ Sat H' Z (.cells b (spL f bl la c) :: F) := by
  obtain ⟨d, rfl⟩ : ∃ e, d = e + 1 := ⟨d - 1, by omega⟩
  refine ct_code T.free (b := b_sfree) (env := [(.ptr b 0), u_, u_, u_, u_, u_, u_, u_, u_, u_]) ?_
  unfold b_sfree
  refine wp_seq (wp_reg (wo_mv (.int .i64 0) (wo_nil (thn_n (wp_seq ?_)))))
  refine wp_seq (wp_reg (wo_mv (.ptr b 0) (wo_x (v := (.bool false)) (w_lit (fun K => rfl)) (wo_nil (thn_n ?_)))))
  refine wp_condF (wp_skip (thn_n (wp_seq (wp_reg (wo_mv (.ptr b 0) ?_)))))
  refine wo_x (v := (.ptr b 0)) (w_lit (fun K => rfl)) (wo_x (v := (.ptr b 8194)) (ca_fla rfl rfl) (wo_x (v := (.ptr b 8194)) (w_ixa (o := 8194) (n := 0) (r := 8194) rfl rfl (by omega) (by omega)) (wo_x (v := (.int .i64 (.ofNat (c 0)))) (s_ld1 hs 0 (spL_ct (x := 0) (by omega))) (wo_mv (.int .i64 (.ofNat (c 0))) (wo_nil ?_)))))
  refine thn_n (wp_ret ?_)
  exact fin_1 (.int .i64 (.ofNat (c 0))) ⟨rfl, hs⟩
theorem waits_ok [SpN] {tbl : Nat → Option FT} (T : SpT tbl) {f c : Nat → Nat} {bl la b : Nat} {N d : Nat} (hd : 1 ≤ d) {Z : Fz} {F : List Hl} {H : AH} (hs : Sat H Z ((.cells b (spL f bl la c)) :: F))  :
    Ct (RUN tbl N d) (.fn (.fn (.func SpN.waits)) [] []) [(.ptr b 0)] H fun v H' => v = .int .i64 (.ofNat (c 2)) ∧ Sat H' Z (.cells b (spL f bl la c) :: F) := by
  obtain ⟨d, rfl⟩ : ∃ e, d = e + 1 := ⟨d - 1, by omega⟩
  refine ct_code T.waits (b := b_swaits) (env := [(.ptr b 0), u_, u_, u_, u_, u_, u_, u_, u_, u_]) ?_
  unfold b_swaits
  refine wp_seq (wp_reg (wo_mv (.int .i64 0) (wo_nil (thn_n (wp_seq ?_)))))
  refine wp_seq (wp_reg (wo_mv (.ptr b 0) (wo_x (v := (.bool false)) (w_lit (fun K => rfl)) (wo_nil (thn_n ?_)))))
  refine wp_condF (wp_skip (thn_n (wp_seq (wp_reg (wo_mv (.ptr b 0) ?_)))))
  refine wo_x (v := (.ptr b 0)) (w_lit (fun K => rfl)) (wo_x (v := (.ptr b 8194)) (ca_fla rfl rfl) (wo_x (v := (.ptr b 8196)) (w_ixa (o := 8194) (n := 2) (r := 8196) rfl rfl (by omega) (by omega)) (wo_x (v := (.int .i64 (.ofNat (c 2)))) (s_ld1 hs 0 (spL_ct (x := 2) (by omega))) (wo_mv (.int .i64 (.ofNat (c 2))) (wo_nil ?_)))))
  refine thn_n (wp_ret ?_)
  exact fin_1 (.int .i64 (.ofNat (c 2))) ⟨rfl, hs⟩
theorem put2_ok [SpN] {tbl : Nat → Option FT} (T : SpT tbl) {f : Nat → Nat} {bl la b n t : Nat} (hn : n < bl) (hb : bl ≤ 8192) (hf : f n < 4) (ht : t < 4) {N d : Nat} (hd : 1 ≤ d) {Z : Fz} {F : List Hl} {H : AH} (hs : Sat H Z (.cells b (spK f bl la) :: F)) :
    Ct (RUN tbl N d) (.fn (.fn (.func SpN.put)) [] []) [.ptr b 0, .int .i64 (.ofNat n), .int .u8 (.ofNat t)] H fun v H' => v = .tup [] ∧ Sat H' Z (.cells b (spK (fup f n t) bl la) :: F) := by
  have h1 := cnt_pos (f := f) hn
  have h2 := cnt_le bl f (f n)
  have h3 := cnt_le bl f t
  have h := put_ok T (N := N) (n := n) (t := t) (by omega) hf ht h1 (by omega) (by simp only [fup]; split <;> omega) hd hs
  rw [spK_put hn] at h
  exact h
theorem isno_ok [SpN] {tbl : Nat → Option FT} (T : SpT tbl) {f : Nat → Nat} {bl la b : Nat} {n : Int} (hno : ¬ (2 ≤ n ∧ n < bl)) (hb : bl ≤ 8192) {N d : Nat} (hd : 1 ≤ d) {Z : Fz} {F : List Hl} {H : AH} (hs : Sat H Z (.cells b (spK f bl la) :: F)) :
    Ct (RUN tbl N d) (.fn (.fn (.func SpN.is_)) [] []) [.ptr b 0, .int .i64 n] H fun v H' => v = .bool false ∧ Sat H' Z (.cells b (spK f bl la) :: F) := by
  have h := is_ok T (N := N) (n := n) hb hd hs
  rw [decide_eq_false hno] at h
  exact h
theorem isyes_ok [SpN] {tbl : Nat → Option FT} (T : SpT tbl) {f : Nat → Nat} {bl la b n : Nat} (hlo : 2 ≤ n) (hn : n < bl) (hb : bl ≤ 8192) {N d : Nat} (hd : 1 ≤ d) {Z : Fz} {F : List Hl} {H : AH} (hs : Sat H Z (.cells b (spK f bl la) :: F)) :
    Ct (RUN tbl N d) (.fn (.fn (.func SpN.is_)) [] []) [.ptr b 0, .int .i64 (.ofNat n)] H fun v H' => v = .bool true ∧ Sat H' Z (.cells b (spK f bl la) :: F) := by
  have h := is_ok T (N := N) (n := .ofNat n) hb hd hs
  rw [decide_eq_true (by simp; omega)] at h
  exact h
theorem giveno_ok [SpN] {tbl : Nat → Option FT} (T : SpT tbl) {f : Nat → Nat} {bl la b : Nat} (hb : bl ≤ 8192) (hf4 : ∀ n, f n < 4) {n : Int} (hno : ¬ (2 ≤ n ∧ n < bl)) {N d : Nat} (hd : 2 ≤ d) {Z : Fz} {F : List Hl} {H : AH} (hs : Sat H Z ((.cells b (spK f bl la)) :: F))  :
    Ct (RUN tbl N d) (.fn (.fn (.func SpN.give)) [] []) [(.ptr b 0), (.int .i64 n)] H fun v H' => v = .int .i64 1 ∧ Sat H' Z (.cells b (spK f bl la) :: F) := by
  obtain ⟨d, rfl⟩ : ∃ e, d = e + 2 := ⟨d - 2, by omega⟩
  refine ct_code T.give (b := b_sgive) (env := [(.ptr b 0), (.int .i64 n), u_, u_, u_, u_, u_, u_, u_, u_, u_, u_, u_, u_, u_, u_, u_, u_, u_, u_, u_, u_, u_, u_, u_, u_, u_, u_, u_, u_, u_, u_, u_, u_, u_]) ?_
  unfold b_sgive
  refine wp_seq (wp_reg (wo_mv (.int .i64 0) (wo_nil (thn_n (wp_seq ?_)))))
  refine wp_block (wp_seq (wp_reg (wo_mv (.ptr b 0) (wo_x (v := (.bool false)) (w_lit (fun K => rfl)) (wo_mv (.bool false) ?_)))))
  refine wo_nil (thn_n (wp_condF (wp_seq (wp_reg (wo_mv (.ptr b 0) ?_)))))
  refine wo_mv (.int .i64 n) ?_
  obtain ⟨_, H1, ⟨rfl, s2⟩, k3⟩ := isno_ok (N := N) (d := d + 1) T hno hb (by omega) hs
  refine wo_call k3 (wo_x (v := (.bool true)) (w_lit (fun K => rfl)) (wo_mv (.bool true) (wo_nil (thn_n (wp_condT ?_)))))
  refine wp_seq (wp_reg (wo_mv (.int .i64 1) (wo_nil (thn_n (wp_ret ?_)))))
  refine blk_r (thn_r ?_)
  exact fin_1 (.int .i64 1) ⟨rfl, s2⟩
theorem markno_ok [SpN] {tbl : Nat → Option FT} (T : SpT tbl) {f : Nat → Nat} {bl la b : Nat} (hb : bl ≤ 8192) (hf4 : ∀ n, f n < 4) {n : Int} (hno : ¬ (2 ≤ n ∧ n < bl)) {N d : Nat} (hd : 2 ≤ d) {Z : Fz} {F : List Hl} {H : AH} (hs : Sat H Z ((.cells b (spK f bl la)) :: F))  :
    Ct (RUN tbl N d) (.fn (.fn (.func SpN.mark)) [] []) [(.ptr b 0), (.int .i64 n)] H fun v H' => v = .int .i64 1 ∧ Sat H' Z (.cells b (spK f bl la) :: F) := by
  obtain ⟨d, rfl⟩ : ∃ e, d = e + 2 := ⟨d - 2, by omega⟩
  refine ct_code T.mark (b := b_smark) (env := [(.ptr b 0), (.int .i64 n), u_, u_, u_, u_, u_, u_, u_, u_, u_, u_, u_, u_, u_, u_, u_, u_, u_, u_, u_, u_, u_, u_]) ?_
  unfold b_smark
  refine wp_seq (wp_reg (wo_mv (.int .i64 0) (wo_nil (thn_n (wp_seq ?_)))))
  refine wp_block (wp_seq (wp_reg (wo_mv (.ptr b 0) (wo_x (v := (.bool false)) (w_lit (fun K => rfl)) (wo_mv (.bool false) ?_)))))
  refine wo_nil (thn_n (wp_condF (wp_seq (wp_reg (wo_mv (.ptr b 0) ?_)))))
  refine wo_mv (.int .i64 n) ?_
  obtain ⟨_, H1, ⟨rfl, s2⟩, k3⟩ := isno_ok (N := N) (d := d + 1) T hno hb (by omega) hs
  refine wo_call k3 (wo_x (v := (.bool true)) (w_lit (fun K => rfl)) (wo_mv (.bool true) (wo_nil (thn_n (wp_condT ?_)))))
  refine wp_seq (wp_reg (wo_mv (.int .i64 1) (wo_nil (thn_n (wp_ret ?_)))))
  refine blk_r (thn_r ?_)
  exact fin_1 (.int .i64 1) ⟨rfl, s2⟩
theorem give_ok [SpN] {tbl : Nat → Option FT} (T : SpT tbl) {f : Nat → Nat} {bl la b : Nat} (hb : bl ≤ 8192) (hf4 : ∀ n, f n < 4) {n : Nat} (hlo : 2 ≤ n) (hn : n < bl) {N d : Nat} (hd : 2 ≤ d) {Z : Fz} {F : List Hl} {H : AH} (hs : Sat H Z ((.cells b (spK f bl la)) :: F))  :
    Ct (RUN tbl N d) (.fn (.fn (.func SpN.give)) [] []) [(.ptr b 0), (.int .i64 (.ofNat n))] H fun v H' => v = .int .i64 (if f n = 3 ∨ f n = 1 then 0 else 5) ∧ Sat H' Z (.cells b (spK (if f n = 3 then fup f n 0 else if f n = 1 then fup f n 2 else f) bl la) :: F) := by
  obtain ⟨d, rfl⟩ : ∃ e, d = e + 2 := ⟨d - 2, by omega⟩
  refine ct_code T.give (b := b_sgive) (env := [(.ptr b 0), (.int .i64 (.ofNat n)), u_, u_, u_, u_, u_, u_, u_, u_, u_, u_, u_, u_, u_, u_, u_, u_, u_, u_, u_, u_, u_, u_, u_, u_, u_, u_, u_, u_, u_, u_, u_, u_, u_]) ?_
  unfold b_sgive
  refine wp_seq (wp_reg (wo_mv (.int .i64 0) (wo_nil (thn_n (wp_seq ?_)))))
  refine wp_block (wp_seq (wp_reg (wo_mv (.ptr b 0) (wo_x (v := (.bool false)) (w_lit (fun K => rfl)) (wo_mv (.bool false) ?_)))))
  refine wo_nil (thn_n (wp_condF (wp_seq (wp_reg (wo_mv (.ptr b 0) ?_)))))
  refine wo_mv (.int .i64 (.ofNat n)) ?_
  obtain ⟨_, H1, ⟨rfl, s2⟩, k3⟩ := isyes_ok (N := N) (d := d + 1) T hlo hn hb (by omega) hs
  refine wo_call k3 (wo_x (v := (.bool false)) (w_lit (fun K => rfl)) (wo_mv (.bool false) (wo_nil (thn_n (wp_condF ?_)))))
  refine wp_seq (wp_reg (wo_mv (.ptr b 0) (wo_mv (.int .i64 (.ofNat n)) (wo_x (v := (.ptr b 0)) (w_lit (fun K => rfl)) (wo_x (v := (.ptr b 0)) (ca_fla rfl rfl) ?_)))))
  refine wo_x (v := (.ptr b n)) (w_ixa (o := 0) (n := n) (r := n) rfl rfl (by omega) (by omega)) (wo_x (v := (.int .u8 (.ofNat (f n)))) (s_ld1 s2 0 (spL_of (by omega))) ?_)
  by_cases c4 : f n = 3
  · refine wo_x (v := (.bool true)) (w_bin (cmp_eqlT (f n) 3 (by omega))) (wo_mv (.bool true) (wo_nil (thn_n (wp_condT (wp_reg ?_)))))
    refine wo_mv (.ptr b 0) (wo_mv (.int .i64 (.ofNat n)) ?_)
    obtain ⟨_, H5, ⟨rfl, s6⟩, k7⟩ := put2_ok (N := N) (d := d + 1) T (n := n) (t := 0) (by omega) hb (hf4 n) (by omega) (by omega) s2
    refine wo_call k7 (wo_nil (blk_n (thn_n (wp_seq (wp_reg ?_)))))
    refine wo_mv (.int .i64 0) (wo_nil (thn_n (wp_ret ?_)))
    exact fin_1 (.int .i64 0) ⟨by simp [c4], by simpa [c4] using s6⟩
  · refine wo_x (v := (.bool false)) (w_bin (cmp_eqlF (f n) 3 (by omega))) (wo_mv (.bool false) (wo_nil (thn_n (wp_condF (wp_seq ?_)))))
    refine wp_reg (wo_mv (.ptr b 0) (wo_mv (.int .i64 (.ofNat n)) (wo_x (v := (.ptr b 0)) (w_lit (fun K => rfl)) (wo_x (v := (.ptr b 0)) (ca_fla rfl rfl) (wo_x (v := (.ptr b n)) (w_ixa (o := 0) (n := n) (r := n) rfl rfl (by omega) (by omega)) ?_)))))
    refine wo_x (v := (.int .u8 (.ofNat (f n)))) (s_ld1 s2 0 (spL_of (by omega))) ?_
    by_cases c8 : f n = 1
    · refine wo_x (v := (.bool true)) (w_bin (cmp_eqlT (f n) 1 (by omega))) (wo_mv (.bool true) (wo_nil (thn_n (wp_condT (wp_reg ?_)))))
      refine wo_mv (.ptr b 0) (wo_mv (.int .i64 (.ofNat n)) ?_)
      obtain ⟨_, H9, ⟨rfl, s10⟩, k11⟩ := put2_ok (N := N) (d := d + 1) T (n := n) (t := 2) (by omega) hb (hf4 n) (by omega) (by omega) s2
      refine wo_call k11 (wo_nil (blk_n (thn_n (wp_seq (wp_reg ?_)))))
      refine wo_mv (.int .i64 0) (wo_nil (thn_n (wp_ret ?_)))
      exact fin_1 (.int .i64 0) ⟨by simp [c4, c8], by simpa [c4, c8] using s10⟩
    · refine wo_x (v := (.bool false)) (w_bin (cmp_eqlF (f n) 1 (by omega))) (wo_mv (.bool false) (wo_nil (thn_n (wp_condF (wp_seq ?_)))))
      refine wp_reg (wo_mv (.int .i64 5) (wo_nil (thn_n (wp_ret (blk_r ?_)))))
      refine thn_r ?_
      exact fin_1 (.int .i64 5) ⟨by simp [c4, c8], by simpa [c4, c8] using s2⟩
theorem mark_ok [SpN] {tbl : Nat → Option FT} (T : SpT tbl) {f : Nat → Nat} {bl la b : Nat} (hb : bl ≤ 8192) (hf4 : ∀ n, f n < 4) {n : Nat} (hlo : 2 ≤ n) (hn : n < bl) {N d : Nat} (hd : 2 ≤ d) {Z : Fz} {F : List Hl} {H : AH} (hs : Sat H Z ((.cells b (spK f bl la)) :: F))  :
    Ct (RUN tbl N d) (.fn (.fn (.func SpN.mark)) [] []) [(.ptr b 0), (.int .i64 (.ofNat n))] H fun v H' => v = .int .i64 (if f n = 0 then 0 else 6) ∧ Sat H' Z (.cells b (spK (if f n = 0 then fup f n 1 else f) bl la) :: F) := by
  obtain ⟨d, rfl⟩ : ∃ e, d = e + 2 := ⟨d - 2, by omega⟩
  refine ct_code T.mark (b := b_smark) (env := [(.ptr b 0), (.int .i64 (.ofNat n)), u_, u_, u_, u_, u_, u_, u_, u_, u_, u_, u_, u_, u_, u_, u_, u_, u_, u_, u_, u_, u_, u_]) ?_
  unfold b_smark
  refine wp_seq (wp_reg (wo_mv (.int .i64 0) (wo_nil (thn_n (wp_seq ?_)))))
  refine wp_block (wp_seq (wp_reg (wo_mv (.ptr b 0) (wo_x (v := (.bool false)) (w_lit (fun K => rfl)) (wo_mv (.bool false) ?_)))))
  refine wo_nil (thn_n (wp_condF (wp_seq (wp_reg (wo_mv (.ptr b 0) ?_)))))
  refine wo_mv (.int .i64 (.ofNat n)) ?_
  obtain ⟨_, H1, ⟨rfl, s2⟩, k3⟩ := isyes_ok (N := N) (d := d + 1) T hlo hn hb (by omega) hs
  refine wo_call k3 (wo_x (v := (.bool false)) (w_lit (fun K => rfl)) (wo_mv (.bool false) (wo_nil (thn_n (wp_condF ?_)))))
  refine wp_seq (wp_reg (wo_mv (.ptr b 0) (wo_mv (.int .i64 (.ofNat n)) (wo_x (v := (.ptr b 0)) (w_lit (fun K => rfl)) (wo_x (v := (.ptr b 0)) (ca_fla rfl rfl) ?_)))))
  refine wo_x (v := (.ptr b n)) (w_ixa (o := 0) (n := n) (r := n) rfl rfl (by omega) (by omega)) (wo_x (v := (.int .u8 (.ofNat (f n)))) (s_ld1 s2 0 (spL_of (by omega))) ?_)
  by_cases c4 : f n = 0
  · refine wo_x (v := (.bool false)) (w_bin (cmp_neqT (f n) 0 (by omega))) (wo_mv (.bool false) (wo_nil (thn_n (wp_condF (wp_skip ?_)))))
    refine blk_n (thn_n (wp_seq (wp_reg (wo_mv (.ptr b 0) (wo_mv (.int .i64 (.ofNat n)) ?_)))))
    obtain ⟨_, H5, ⟨rfl, s6⟩, k7⟩ := put2_ok (N := N) (d := d + 1) T (n := n) (t := 1) (by omega) hb (hf4 n) (by omega) (by omega) s2
    refine wo_call k7 (wo_nil (thn_n (wp_seq (wp_reg (wo_mv (.int .i64 0) ?_)))))
    refine wo_nil (thn_n (wp_ret ?_))
    exact fin_1 (.int .i64 0) ⟨by simp [c4], by simpa [c4] using s6⟩
  · refine wo_x (v := (.bool true)) (w_bin (cmp_neqF (f n) 0 (by omega))) (wo_mv (.bool true) (wo_nil (thn_n (wp_condT (wp_seq ?_)))))
    refine wp_reg (wo_mv (.int .i64 6) (wo_nil (thn_n (wp_ret (blk_r ?_)))))
    refine thn_r ?_
    exact fin_1 (.int .i64 6) ⟨by simp [c4], by simpa [c4] using s2⟩
theorem takeno_ok [SpN] {tbl : Nat → Option FT} (T : SpT tbl) {f : Nat → Nat} {bl la b : Nat} (hb : bl ≤ 8192) (hf4 : ∀ n, f n < 4) (h0 : cnt bl f 0 = 0) {N d : Nat} (hd : 1 ≤ d) {Z : Fz} {F : List Hl} {H : AH} (hs : Sat H Z ((.cells b (spK f bl la)) :: F))  :
    Ct (RUN tbl N d) (.fn (.fn (.func SpN.take)) [] []) [(.ptr b 0)] H fun v H' => v = .tup [.int .i64 0, .int .i64 3] ∧ Sat H' Z (.cells b (spK f bl la) :: F) := by
  obtain ⟨d, rfl⟩ : ∃ e, d = e + 1 := ⟨d - 1, by omega⟩
  refine ct_code T.take (b := b_stake) (env := [(.ptr b 0), u_, u_, u_, u_, u_, u_, u_, u_, u_, u_, u_, u_, u_, u_, u_, u_, u_, u_, u_, u_, u_, u_, u_, u_, u_, u_, u_, u_, u_, u_, u_, u_, u_, u_, u_, u_, u_, u_, u_, u_]) ?_
  unfold b_stake
  refine wp_seq (wp_reg (wo_mv (.int .i64 0) (wo_mv (.int .i64 0) (wo_nil (thn_n ?_)))))
  refine wp_seq (wp_seq (wp_reg (wo_mv (.ptr b 0) (wo_x (v := (.bool false)) (w_lit (fun K => rfl)) (wo_nil ?_)))))
  refine thn_n (wp_condF (wp_skip (thn_n (wp_seq (wp_seq ?_)))))
  refine wp_reg (wo_mv (.ptr b 0) (wo_x (v := (.ptr b 0)) (w_lit (fun K => rfl)) (wo_x (v := (.ptr b 8194)) (ca_fla rfl rfl) (wo_x (v := (.ptr b 8194)) (w_ixa (o := 8194) (n := 0) (r := 8194) rfl rfl (by omega) (by omega)) (wo_x (v := (.int .i64 (.ofNat (cnt bl f 0)))) (s_ld1 hs 0 (spL_ct (x := 0) (by omega))) ?_)))))
  refine wo_x (v := (.bool true)) (w_bin (cmp_eqlT (cnt bl f 0) 0 (by omega))) (wo_nil (thn_n (wp_condT (wp_seq (wp_reg ?_)))))
  refine wo_mv (.int .i64 0) (wo_mv (.int .i64 3) (wo_nil (thn_n (wp_ret (thn_r ?_)))))
  exact fin_2 (.int .i64 0) (.int .i64 3) ⟨rfl, hs⟩
theorem take_ok [SpN] {tbl : Nat → Option FT} (T : SpT tbl) {f : Nat → Nat} {bl la b : Nat} (hb : bl ≤ 8192) (hf4 : ∀ n, f n < 4) (h0 : ¬ cnt bl f 0 = 0) (hla : la < bl) {N d : Nat} (hd : 2 ≤ d) {Z : Fz} {F : List Hl} {H : AH} (hs : Sat H Z ((.cells b (spK f bl la)) :: F)) (hN : 20000 ≤ N) :
    Ct (RUN tbl N d) (.fn (.fn (.func SpN.take)) [] []) [(.ptr b 0)] H fun v H' => ∃ n : Nat, n < bl ∧ f n = 0 ∧ v = .tup [.int .i64 (.ofNat n), .int .i64 0] ∧ Sat H' Z (.cells b (spK (fup f n 3) bl n) :: F) := by
  obtain ⟨d, rfl⟩ : ∃ e, d = e + 2 := ⟨d - 2, by omega⟩
  obtain ⟨m, hm, hm0⟩ := cnt_some h0
  refine ct_code T.take (b := b_stake) (env := [(.ptr b 0), u_, u_, u_, u_, u_, u_, u_, u_, u_, u_, u_, u_, u_, u_, u_, u_, u_, u_, u_, u_, u_, u_, u_, u_, u_, u_, u_, u_, u_, u_, u_, u_, u_, u_, u_, u_, u_, u_, u_, u_]) ?_
  unfold b_stake
  refine wp_seq (wp_reg (wo_mv (.int .i64 0) (wo_mv (.int .i64 0) (wo_nil (thn_n ?_)))))
  refine wp_seq (wp_seq (wp_reg (wo_mv (.ptr b 0) (wo_x (v := (.bool false)) (w_lit (fun K => rfl)) (wo_nil ?_)))))
  refine thn_n (wp_condF (wp_skip (thn_n (wp_seq (wp_seq ?_)))))
  refine wp_reg (wo_mv (.ptr b 0) (wo_x (v := (.ptr b 0)) (w_lit (fun K => rfl)) (wo_x (v := (.ptr b 8194)) (ca_fla rfl rfl) (wo_x (v := (.ptr b 8194)) (w_ixa (o := 8194) (n := 0) (r := 8194) rfl rfl (by omega) (by omega)) (wo_x (v := (.int .i64 (.ofNat (cnt bl f 0)))) (s_ld1 hs 0 (spL_ct (x := 0) (by omega))) ?_)))))
  refine wo_x (v := (.bool false)) (w_bin (cmp_eqlF (cnt bl f 0) 0 (by omega))) (wo_nil (thn_n (wp_condF (wp_skip (thn_n ?_)))))
  refine wp_seq (wp_reg (wo_mv (.ptr b 0) (wo_x (v := (.ptr b 0)) (w_lit (fun K => rfl)) (wo_x (v := (.ptr b 8193)) (ca_fla rfl rfl) (wo_x (v := (.int .i64 (.ofNat la))) (s_ld1 hs 0 spL_la) ?_)))))
  refine wo_mv (.int .i64 (.ofNat la)) (wo_nil (thn_n (wp_seq (wp_seq (wp_reg ?_)))))
  refine wo_mv (.bool true) (wo_nil (thn_n (wp_block ?_)))
  refine wp_loop (fun ms_ env ds H => ∃ (n : Nat) (ok : _root_.Bool), ∃ ys1 : List AV, ms_ = cond ok (dist bl m n + 1) 0 ∧ env = [(.ptr b 0), u_, (.int .i64 0), (.int .i64 0), (.int .i64 (.ofNat n)), (.bool ok), (.ptr b 0), (.bool false), (.ptr b 0), (.ptr b 0), (.ptr b 8194), (.ptr b 8194), (.int .i64 (.ofNat (cnt bl f 0))), (.bool false), (.ptr b 0), (.ptr b 0), (.ptr b 8193), (.int .i64 (.ofNat la)), (lget ys1 0), (lget ys1 1), (lget ys1 2), (lget ys1 3), (lget ys1 4), (lget ys1 5), (lget ys1 6), (lget ys1 7), (lget ys1 8), (lget ys1 9), (lget ys1 10), (lget ys1 11), (lget ys1 12), (lget ys1 13), (lget ys1 14), u_, u_, u_, u_, u_, u_, u_, u_] ∧ ds = [] ∧ Sat H Z ((.cells b (spK f bl la)) :: F) ∧ (n < bl) ∧ (ok = false → f n = 0)) (cond true (dist bl m la + 1) 0) (by have := dist_le (n := la) hm; simp only [cond_true]; omega) ⟨la, true, [u_, u_, u_, u_, u_, u_, u_, u_, u_, u_, u_, u_, u_, u_, u_], rfl, rfl, rfl, hs, hla, (by intro; contradiction)⟩ ?_
  rintro ms_ env ds H hms_ ⟨n, ok, ys1, rfl, rfl, rfl, s2, hn, hok⟩
  refine wp_seq (wp_seq (wp_reg (wo_mv (.bool ok) (wo_nil (thn_n ?_)))))
  rcases Bool.eq_false_or_eq_true ok with c3 | c3
  · refine wp_condT (hc := congrArg AV.bool c3) (wp_skip (thn_n (wp_seq (wp_block (wp_reg ?_)))))
    refine wo_mv (.int .i64 (.ofNat n)) (wo_x (v := (.int .i64 (.ofNat (n + 1)))) (w_bin (add_i64 n 1 (by omega) _ _)) (wo_mv (.ptr b 0) (wo_x (v := (.ptr b 0)) (w_lit (fun K => rfl)) (wo_x (v := (.ptr b 8192)) (ca_fla rfl rfl) (wo_x (v := (.int .i64 (.ofNat bl))) (s_ld1 s2 0 spL_bl) ?_)))))
    have q4 := Nat.mod_lt (n + 1) (show bl > 0 by omega)
    refine wo_x (v := (.int .i64 (.ofNat ((n + 1) % bl)))) (w_bin (rem_nat (n + 1) bl (by omega))) (wo_mv (.int .i64 (.ofNat ((n + 1) % bl))) (wo_nil (blk_n (thn_n (wp_reg ?_)))))
    refine wo_mv (.ptr b 0) (wo_mv (.int .i64 (.ofNat ((n + 1) % bl))) (wo_x (v := (.ptr b 0)) (w_lit (fun K => rfl)) (wo_x (v := (.ptr b 0)) (ca_fla rfl rfl) (wo_x (v := (.ptr b ((n + 1) % bl))) (w_ixa (o := 0) (n := ((n + 1) % bl)) (r := ((n + 1) % bl)) rfl rfl (by omega) (by omega)) (wo_x (v := (.int .u8 (.ofNat (f ((n + 1) % bl))))) (s_ld1 s2 0 (spL_of (by omega))) ?_)))))
    by_cases c5 : f ((n + 1) % bl) = 0
    · refine wo_x (v := (.bool false)) (w_bin (cmp_neqT (f ((n + 1) % bl)) 0 (by omega))) (wo_mv (.bool false) (wo_nil ?_))
      refine lpq_n (cond false (dist bl m ((n + 1) % bl) + 1) 0) (by rw [c3]; simp only [cond_true, cond_false]; omega) ⟨(n + 1) % bl, false, [(.bool ok), (.ptr b 0), (.int .i64 (.ofNat ((n + 1) % bl))), (.ptr b 0), (.ptr b 0), (.ptr b ((n + 1) % bl)), (.int .u8 (.ofNat (f ((n + 1) % bl)))), (.bool false), (.int .i64 (.ofNat n)), (.int .i64 (.ofNat (n + 1))), (.ptr b 0), (.ptr b 0), (.ptr b 8192), (.int .i64 (.ofNat bl)), (.int .i64 (.ofNat ((n + 1) % bl)))], rfl, rfl, rfl, s2, (Nat.mod_lt _ (by omega)), (fun _ => c5)⟩
    · refine wo_x (v := (.bool true)) (w_bin (cmp_neqF (f ((n + 1) % bl)) 0 (by omega))) (wo_mv (.bool true) (wo_nil ?_))
      refine lpq_n (cond true (dist bl m ((n + 1) % bl) + 1) 0) (by have := dist_step (n := n) hn hm (fun e => c5 (e ▸ hm0)); rw [c3]; simp only [cond_true]; omega) ⟨(n + 1) % bl, true, [(.bool ok), (.ptr b 0), (.int .i64 (.ofNat ((n + 1) % bl))), (.ptr b 0), (.ptr b 0), (.ptr b ((n + 1) % bl)), (.int .u8 (.ofNat (f ((n + 1) % bl)))), (.bool true), (.int .i64 (.ofNat n)), (.int .i64 (.ofNat (n + 1))), (.ptr b 0), (.ptr b 0), (.ptr b 8192), (.int .i64 (.ofNat bl)), (.int .i64 (.ofNat ((n + 1) % bl)))], rfl, rfl, rfl, s2, (Nat.mod_lt _ (by omega)), (by intro; contradiction)⟩
  · refine wp_condF (hc := congrArg AV.bool c3) (wp_exit (thn_e (lpq_e (blk_h (thn_n ?_)))))
    refine wp_seq (wp_reg (wo_mv (.ptr b 0) (wo_mv (.int .i64 (.ofNat n)) ?_)))
    obtain ⟨_, H6, ⟨rfl, s7⟩, k8⟩ := put2_ok (N := N) (d := d + 1) T (n := n) (t := 3) (by omega) hb (hf4 n) (by omega) (by omega) s2
    refine wo_call k8 (wo_nil (thn_n (wp_seq (wp_reg (wo_mv (.ptr b 0) ?_)))))
    refine wo_mv (.int .i64 (.ofNat n)) (wo_x (v := (.ptr b 0)) (w_lit (fun K => rfl)) (wo_x (v := (.ptr b 8193)) (ca_fla rfl rfl) ?_))
    obtain ⟨H9, s10, k11⟩ := s_st s7 8193 (.int .i64 (.ofNat n)) (by rw [spK_len]; omega)
    rw [spK_sla] at s10
    refine wo_n (k11 rfl rfl) (wo_nil (thn_n (wp_seq (wp_reg (wo_mv (.int .i64 (.ofNat n)) ?_)))))
    refine wo_mv (.int .i64 (.ofNat n)) (wo_mv (.int .i64 0) (wo_nil (thn_n (wp_ret ?_))))
    exact fin_2 (.int .i64 (.ofNat n)) (.int .i64 0) ⟨n, hn, hok c3, rfl, s10⟩
theorem all1_ok [SpN] {tbl : Nat → Option FT} (T : SpT tbl) {f : Nat → Nat} {bl la b : Nat} (hb : bl ≤ 8192) (hf4 : ∀ n, f n < 4) {bs bx x t : Nat} {y : AV} (ht : t < 4) {N d : Nat} (hd : 2 ≤ d) {Z : Fz} {F : List Hl} {H : AH} (hs : Sat H Z ((.cells b (spK f bl la)) :: (.cells bs [(.ptr b 0)]) :: (.cells bx [(.int .u8 (.ofNat x))]) :: F)) (hN : 20000 ≤ N) (hy : ∀ (n : Nat) (f : Nat → Nat) (H : AH), n < bl → (∀ n, f n < 4) → f n = x → Sat H Z (.cells b (spK f bl la) :: .cells bs [.ptr b 0] :: .cells bx [.int .u8 (.ofNat x)] :: F) → Ct (RUN tbl N (d - 1)) y [.int .i64 (.ofNat n)] H fun v H' => v = .bool true ∧ Sat H' Z (.cells b (spK (fup f n t) bl la) :: .cells bs [.ptr b 0] :: .cells bx [.int .u8 (.ofNat x)] :: F)) :
    Ct (RUN tbl N d) (.fn (.fn (.func SpN.all1)) [] [(.ptr bs 0), (.ptr bx 0)]) [y] H fun v H' => v = .tup [] ∧ Sat H' Z (.cells b (spK (turnF f x t bl) bl la) :: .cells bs [.ptr b 0] :: .cells bx [.int .u8 (.ofNat x)] :: F) := by
  obtain ⟨d, rfl⟩ : ∃ e, d = e + 1 := ⟨d - 1, by omega⟩
  refine ct_code T.all1 (b := b_sall1) (env := [y, (.ptr bs 0), (.ptr bx 0), u_, u_, u_, u_, u_, u_, u_, u_, u_, u_, u_, u_, u_, u_, u_, u_, u_, u_, u_, u_, u_, u_, u_, u_]) ?_
  unfold b_sall1
  refine wp_seq (wp_reg (wo_x (v := (.ptr b 0)) (s_ld1 hs 1 rfl) (wo_x (v := (.ptr b 0)) (w_lit (fun K => rfl)) (wo_x (v := (.ptr b 8192)) (ca_fla rfl rfl) (wo_x (v := (.int .i64 (.ofNat bl))) (s_ld1 hs 0 spL_bl) ?_)))))
  refine wo_mv (.int .i64 0) (wo_nil (thn_n (wp_block ?_)))
  refine wp_loop (fun ms_ env ds H => ∃ (i : Nat), ∃ ys1 : List AV, ms_ = bl - i ∧ env = [y, (.ptr bs 0), (.ptr bx 0), u_, (lget ys1 0), (.ptr b 0), (.ptr b 0), (.ptr b 8192), (.int .i64 (.ofNat bl)), (.int .i64 (.ofNat i)), (lget ys1 1), (lget ys1 2), (lget ys1 3), (lget ys1 4), (lget ys1 5), (lget ys1 6), (lget ys1 7), (lget ys1 8), (lget ys1 9), (lget ys1 10), (lget ys1 11), (lget ys1 12), (lget ys1 13), (lget ys1 14), (lget ys1 15), (lget ys1 16), (lget ys1 17)] ∧ ds = [] ∧ Sat H Z ((.cells b (spK (turnF f x t i) bl la)) :: (.cells bs [(.ptr b 0)]) :: (.cells bx [(.int .u8 (.ofNat x))]) :: F) ∧ (i ≤ bl)) (bl - 0) (by omega) ⟨0, [u_, u_, u_, u_, u_, u_, u_, u_, u_, u_, u_, u_, u_, u_, u_, u_, u_, u_], rfl, rfl, rfl, (by rw [turnF_zero]; exact hs), (Nat.zero_le _)⟩ ?_
  rintro ms_ env ds H hms_ ⟨i, ys1, rfl, rfl, rfl, s2, hle⟩
  refine wp_seq (wp_reg ?_)
  by_cases c3 : i < bl
  · have hi : i < bl := c3
    refine wo_x (v := (.bool true)) (w_bin (cmp_lssT i bl (by omega))) (wo_nil (thn_n (wp_seq (wp_condT (wp_skip ?_)))))
    refine thn_n (wp_seq (wp_block (wp_seq (wp_reg (wo_mv (.int .i64 (.ofNat i)) ?_)))))
    refine wo_mv (.int .i64 (.ofNat i)) (wo_nil (thn_n (wp_seq (wp_dreg (wd_run ?_)))))
    refine wo_x (v := (.ptr b 0)) (s_ld1 s2 1 rfl) (wo_nil (wd_run (wo_mv (.int .i64 (.ofNat i)) (wo_nil (wd_run ?_)))))
    refine wo_x (v := (.ptr b 0)) (w_lit (fun K => rfl)) (wo_nil (wd_run (wo_x (v := (.ptr b 0)) (ca_fla rfl rfl) (wo_nil (wd_run ?_)))))
    refine wo_x (v := (.ptr b i)) (w_ixa (o := 0) (n := i) (r := i) rfl rfl (by omega) (by omega)) (wo_nil (wd_run (wo_x (v := (.int .u8 (.ofNat ((turnF f x t i) i)))) (s_ld1 s2 0 (spL_of (by omega))) (wo_nil (wd_run ?_)))))
    refine wo_x (v := (.int .u8 (.ofNat x))) (s_ld1 s2 2 rfl) (wo_nil (wd_run ?_))
    by_cases c4 : (turnF f x t i) i = x
    · refine wo_x (v := (.bool true)) (w_bin (cmp_eqlT ((turnF f x t i) i) x (by omega))) (wo_nil (wd_run (wo_mv (.bool true) (wo_nil (wd_run ?_)))))
      refine wo_yesT (wo_mv y (wo_nil (wd_run (wo_yesT (wo_mv (.int .i64 (.ofNat i)) ?_)))))
      refine wo_nil (wd_nil (ws_cons (wo_yesT ?_)))
      obtain ⟨_, H5, ⟨rfl, s6⟩, k7⟩ := hy i _ _ hi (turnF_lt hf4 ht) c4 s2
      refine wo_call k7 (wo_nil (wd_run (wo_yesT (wo_x (v := (.bool false)) (w_lit (fun K => rfl)) (wo_nil ?_)))))
      refine wd_run (wo_x (v := (.bool false)) (w_pickT rfl rfl) (wo_nil (wd_nil (ws_nil (thn_n ?_)))))
      refine wp_condF (wp_skip (blk_n (thn_n (wp_reg (wo_x (v := (.int .i64 (.ofNat (i + 1)))) (w_bin (add_i64 i 1 (by omega) _ _)) ?_)))))
      refine wo_mv (.int .i64 (.ofNat (i + 1))) (wo_nil ?_)
      have s8 : Sat H5 Z ((.cells b (spK (turnF f x t (i + 1)) bl la)) :: (.cells bs [(.ptr b 0)]) :: (.cells bx [(.int .u8 (.ofNat x))]) :: F) := by rw [← turnF_yes (show f i = x by rw [← c4, turnF_here])]; exact s6
      refine lpq_n (bl - (i + 1)) (by omega) ⟨(i + 1), [(.int .i64 (.ofNat i)), (.bool true), (.int .i64 (.ofNat i)), (.ptr b 0), (.int .i64 (.ofNat i)), (.ptr b 0), (.ptr b 0), (.ptr b i), (.int .u8 (.ofNat ((turnF f x t i) i))), (.int .u8 (.ofNat x)), (.bool true), (.bool true), y, (.int .i64 (.ofNat i)), (.bool true), (.bool false), (.bool false), (.int .i64 (.ofNat (i + 1)))], rfl, rfl, rfl, s8, (by omega)⟩
    · refine wo_x (v := (.bool false)) (w_bin (cmp_eqlF ((turnF f x t i) i) x (by omega))) (wo_nil (wd_run (wo_mv (.bool false) (wo_nil (wd_run ?_)))))
      refine wo_noF (wo_nil (wd_run (wo_noF (wo_nil (wd_nil ?_)))))
      refine ws_cons (wo_noF (wo_nil (wd_run (wo_noF (wo_nil ?_)))))
      refine wd_run (wo_x (v := (.bool false)) (w_pickF rfl rfl) (wo_nil (wd_nil (ws_nil (thn_n ?_)))))
      refine wp_condF (wp_skip (blk_n (thn_n (wp_reg (wo_x (v := (.int .i64 (.ofNat (i + 1)))) (w_bin (add_i64 i 1 (by omega) _ _)) ?_)))))
      refine wo_mv (.int .i64 (.ofNat (i + 1))) (wo_nil ?_)
      have s9 : Sat H Z ((.cells b (spK (turnF f x t (i + 1)) bl la)) :: (.cells bs [(.ptr b 0)]) :: (.cells bx [(.int .u8 (.ofNat x))]) :: F) := by rw [← turnF_no (show ¬ f i = x by rw [turnF_here] at c4; exact c4)]; exact s2
      refine lpq_n (bl - (i + 1)) (by omega) ⟨(i + 1), [(.int .i64 (.ofNat i)), (.bool true), (.int .i64 (.ofNat i)), (.ptr b 0), (.int .i64 (.ofNat i)), (.ptr b 0), (.ptr b 0), (.ptr b i), (.int .u8 (.ofNat ((turnF f x t i) i))), (.int .u8 (.ofNat x)), (.bool false), (.bool false), u_, u_, u_, u_, (.bool false), (.int .i64 (.ofNat (i + 1)))], rfl, rfl, rfl, s9, (by omega)⟩
  · have hi : i = bl := by omega
    refine wo_x (v := (.bool false)) (w_bin (cmp_lssF i bl (by omega))) (wo_nil (thn_n (wp_seq (wp_condF (wp_exit ?_)))))
    refine thn_e (lpq_e (blk_h ?_))
    have s10 : Sat H Z ((.cells b (spK (turnF f x t bl) bl la)) :: (.cells bs [(.ptr b 0)]) :: (.cells bx [(.int .u8 (.ofNat x))]) :: F) := by rw [← (congrArg (turnF f x t) hi)]; exact s2
    exact fin_0  ⟨rfl, s10⟩
theorem all_ok [SpN] {tbl : Nat → Option FT} (T : SpT tbl) {f : Nat → Nat} {bl la b : Nat} (hb : bl ≤ 8192) (hf4 : ∀ n, f n < 4) {x : Nat} {N d : Nat} (hd : 1 ≤ d) {Z : Fz} {F : List Hl} {H : AH} (hs : Sat H Z ((.cells b (spK f bl la)) :: F))  :
    Ct (RUN tbl N d) (.fn (.fn (.func SpN.all)) [] []) [(.ptr b 0), (.int .u8 (.ofNat x))] H fun v H' => ∃ bs bx, v = .fn (.fn (.func SpN.all1)) [] [.ptr bs 0, .ptr bx 0] ∧ Sat H' Z (.cells b (spK f bl la) :: .cells bs [.ptr b 0] :: .cells bx [.int .u8 (.ofNat x)] :: F) := by
  obtain ⟨d, rfl⟩ : ∃ e, d = e + 1 := ⟨d - 1, by omega⟩
  refine ct_code T.all (b := b_sall) (env := [(.ptr b 0), (.int .u8 (.ofNat x)), u_, u_, u_, u_]) ?_
  unfold b_sall
  refine wp_seq (wp_reg ?_)
  obtain ⟨b1, H2, s3, k4⟩ := s_box hs (.ptr b 0)
  refine wo_x (v := (.ptr b1 0)) (k4 rfl) ?_
  obtain ⟨b5, H6, s7, k8⟩ := s_box s3 (.int .u8 (.ofNat x))
  refine wo_x (v := (.ptr b5 0)) (k8 rfl) (wo_mv .nilf (wo_nil (thn_n (wp_seq (wp_reg ?_)))))
  refine wo_x (v := (.fn (.fn (.func SpN.all1)) [] [(.ptr b1 0), (.ptr b5 0)])) (w_lit (fun K => rfl)) (wo_mv (.fn (.fn (.func SpN.all1)) [] [(.ptr b1 0), (.ptr b5 0)]) (wo_nil (thn_n (wp_ret ?_))))
  have s9 := s7.pull 1
  have s10 := s9.pull 2
  exact fin_1 (.fn (.fn (.func SpN.all1)) [] [(.ptr b1 0), (.ptr b5 0)]) ⟨_, _, rfl, s10⟩
theorem turn_ok [SpN] {tbl : Nat → Option FT} (T : SpT tbl) {f : Nat → Nat} {bl la b : Nat} (hb : bl ≤ 8192) (hf4 : ∀ n, f n < 4) {x t : Nat} {N d : Nat} (hd : 5 ≤ d) {Z : Fz} {F : List Hl} {H : AH} (hs : Sat H Z ((.cells b (spK f bl la)) :: F)) (hN : 20000 ≤ N) :
    Ct (RUN tbl N d) (.fn (.fn (.func SpN.turn)) [] []) [(.ptr b 0), (.int .u8 (.ofNat x)), (.int .u8 (.ofNat t))] H fun v H' => v = .tup [] ∧ Sat H' Z (.cells b (spK (turnF (turnF f x 0 bl) t 1 bl) bl la) :: F) := by
  obtain ⟨d, rfl⟩ : ∃ e, d = e + 5 := ⟨d - 5, by omega⟩
  refine ct_code T.turn (b := b_sturn) (env := [(.ptr b 0), (.int .u8 (.ofNat x)), (.int .u8 (.ofNat t)), u_, u_, u_, u_, u_, u_, u_, u_, u_, u_, u_, u_, u_, u_, u_, u_, u_, u_, u_, u_, u_]) ?_
  unfold b_sturn
  refine wp_seq (wp_reg ?_)
  obtain ⟨b1, H2, s3, k4⟩ := s_box hs (.ptr b 0)
  refine wo_x (v := (.ptr b1 0)) (k4 rfl) (wo_nil (thn_n (wp_seq (wp_seq (wp_reg ?_)))))
  refine wo_x (v := (.ptr b 0)) (s_ld1 s3 0 rfl) (wo_x (v := (.bool false)) (w_lit (fun K => rfl)) (wo_nil (thn_n (wp_condF (wp_skip ?_)))))
  refine thn_n (wp_seq (wp_seq (wp_reg (wo_x (v := (.ptr b 0)) (s_ld1 s3 0 rfl) (wo_mv (.int .u8 (.ofNat x)) ?_)))))
  have s7 := s3.pull 1
  obtain ⟨_, H8, ⟨b5, b6, rfl, s9⟩, k10⟩ := all_ok (N := N) (d := d + 4) T (x := x) hb hf4 (by omega) s7
  refine wo_call k10 (wo_nil (thn_n (wp_block ?_)))
  refine wp_rfn s9 rfl rfl fun dd11 y12 H13 s14 => ?_
  have s15 := s14.pull 4
  have s16 := s15.pull 4
  have s17 := s16.pull 4
  refine (all1_ok T (t := 0) hb hf4 (by omega) (d := d + 4) (by omega) s17 (by omega) ?_).imp ?_
  · intro n18 f19 H23 h20 h21 h22 s24
    have s27 := s24.pull 3
    refine ct_yld s27 rfl rfl fun H25 s26 => ⟨_, _, fun k => rfl, ?_⟩
    refine wp_block (wp_reg (wo_x (v := (.ptr b 0)) (s_ld1 s26 5 rfl) (wo_mv (.int .i64 (.ofNat n18)) ?_)))
    have s28 := s26.pull 1
    obtain ⟨_, H29, ⟨rfl, s30⟩, k31⟩ := put2_ok (N := N) (d := d + 2) T (n := n18) (t := 0) (by omega) hb (h21 n18) (by omega) (by omega) s28
    refine wo_call k31 (wo_nil (blk_n ?_))
    have s32 := s30.pull 1
    refine ⟨_, _, s32, fun _ s34 => ⟨rfl, ?_⟩⟩
    have s35 := s34.pull 3
    have s36 := s35.pull 3
    have s37 := s36.pull 3
    exact s37
  rintro _ H39 ⟨-, s38⟩
  have s40 := s38.pull 3
  refine ⟨_, _, _, s40, trivial, fun H42 s41 => ?_⟩
  have s43 := s41.drop 0
  have s44 := s43.drop 1
  have s45 := s44.drop 1
  refine blk_n (thn_n (wp_seq (wp_reg (wo_x (v := (.ptr b 0)) (s_ld1 s45 2 rfl) (wo_mv (.int .u8 (.ofNat t)) ?_)))))
  obtain ⟨_, H48, ⟨b46, b47, rfl, s49⟩, k50⟩ := all_ok (N := N) (d := d + 4) T (x := t) hb (turnF_lt hf4 (by omega)) (by omega) s45
  refine wo_call k50 (wo_nil (thn_n (wp_block ?_)))
  refine wp_rfn s49 rfl rfl fun dd51 y52 H53 s54 => ?_
  have s55 := s54.pull 4
  have s56 := s55.pull 4
  have s57 := s56.pull 4
  refine (all1_ok T (t := 1) hb (turnF_lt hf4 (by omega)) (by omega) (d := d + 4) (by omega) s57 (by omega) ?_).imp ?_
  · intro n58 f59 H63 h60 h61 h62 s64
    have s67 := s64.pull 3
    refine ct_yld s67 rfl rfl fun H65 s66 => ⟨_, _, fun k => rfl, ?_⟩
    refine wp_block (wp_reg (wo_x (v := (.ptr b 0)) (s_ld1 s66 6 rfl) (wo_mv (.int .i64 (.ofNat n58)) ?_)))
    have s68 := s66.pull 1
    obtain ⟨_, H69, ⟨rfl, s70⟩, k71⟩ := put2_ok (N := N) (d := d + 2) T (n := n58) (t := 1) (by omega) hb (h61 n58) (by omega) (by omega) s68
    refine wo_call k71 (wo_nil (blk_n ?_))
    have s72 := s70.pull 1
    refine ⟨_, _, s72, fun _ s74 => ⟨rfl, ?_⟩⟩
    have s75 := s74.pull 3
    have s76 := s75.pull 3
    have s77 := s76.pull 3
    exact s77
  rintro _ H79 ⟨-, s78⟩
  have s80 := s78.pull 3
  refine ⟨_, _, _, s80, trivial, fun H82 s81 => ?_⟩
  have s83 := s81.drop 0
  have s84 := s83.drop 1
  have s85 := s84.drop 1
  refine blk_n ?_
  have s86 := s85.pull 1
  refine fin_d s86 rfl fun _ s87 => ?_
  have s88 := s87.pull 2
  refine fin_d s88 rfl fun _ s89 => ?_
  have s90 := s89.drop 0
  have s91 := s90.drop 0
  have s92 := s91.drop 1
  exact fin_0  ⟨rfl, s92⟩
theorem settle_ok [SpN] {tbl : Nat → Option FT} (T : SpT tbl) {f : Nat → Nat} {bl la b : Nat} (hb : bl ≤ 8192) (hf4 : ∀ n, f n < 4) {N d : Nat} (hd : 6 ≤ d) {Z : Fz} {F : List Hl} {H : AH} (hs : Sat H Z ((.cells b (spK f bl la)) :: F)) (hN : 20000 ≤ N) :
    Ct (RUN tbl N d) (.fn (.fn (.func SpN.settle)) [] []) [(.ptr b 0)] H fun v H' => v = .tup [] ∧ Sat H' Z (.cells b (spK (turnF (turnF f 2 0 bl) 3 1 bl) bl la) :: F) := by
  obtain ⟨d, rfl⟩ : ∃ e, d = e + 6 := ⟨d - 6, by omega⟩
  refine ct_code T.settle (b := b_ssettle) (env := [(.ptr b 0), u_, u_, u_]) ?_
  unfold b_ssettle
  refine wp_reg (wo_mv (.ptr b 0) ?_)
  obtain ⟨_, H1, ⟨rfl, s2⟩, k3⟩ := turn_ok (N := N) (d := d + 5) T hb hf4 (by omega) hs hN
  refine wo_call k3 (wo_nil ?_)
  exact fin_0  ⟨rfl, s2⟩
theorem back_ok [SpN] {tbl : Nat → Option FT} (T : SpT tbl) {f : Nat → Nat} {bl la b : Nat} (hb : bl ≤ 8192) (hf4 : ∀ n, f n < 4) {N d : Nat} (hd : 6 ≤ d) {Z : Fz} {F : List Hl} {H : AH} (hs : Sat H Z ((.cells b (spK f bl la)) :: F)) (hN : 20000 ≤ N) :
    Ct (RUN tbl N d) (.fn (.fn (.func SpN.back)) [] []) [(.ptr b 0)] H fun v H' => v = .tup [] ∧ Sat H' Z (.cells b (spK (turnF (turnF f 3 0 bl) 2 1 bl) bl la) :: F) := by
  obtain ⟨d, rfl⟩ : ∃ e, d = e + 6 := ⟨d - 6, by omega⟩
  refine ct_code T.back (b := b_sback) (env := [(.ptr b 0), u_, u_, u_]) ?_
  unfold b_sback
  refine wp_reg (wo_mv (.ptr b 0) ?_)
  obtain ⟨_, H1, ⟨rfl, s2⟩, k3⟩ := turn_ok (N := N) (d := d + 5) T hb hf4 (by omega) hs hN
  refine wo_call k3 (wo_nil ?_)
  exact fin_0  ⟨rfl, s2⟩
end
end Go.Jt
