/-
  Node's functions that only read. PRINTED by wip/tools/mknd.py.
-/
import Derived.Test.YtlhlgmodhblplaaJtNode
set_option autoImplicit false
set_option linter.all false
set_option maxRecDepth 10000
set_option maxHeartbeats 8000000
namespace Go.Jt
noncomputable section
variable [Gl]
class NdN where
  key : Nat
  form1 : Nat
  form2 : Nat
  idxS : Nat
  idxP : Nat
  conS : Nat
  conP : Nat
  form : Nat
  size : Nat
  may : Nat
  where_ : Nat
def b_nkey [NdN] [BkN] : IR := (.seq (.reg [xo 2 (.mv (.cst (.bool false)))]) (.seq (.reg [mv 3 t0, xo 4 (.bin .neq 0 t3 (.cst (.str []))), mv 5 t4, ⟨some 6, .mv t0, some (5, true)⟩, ⟨some 7, .len 0 t6, some (5, true)⟩, ⟨some 8, .bin .leq 0 t7 (.cst (.int .i64 40)), some (5, true)⟩, xo 9 (.pick t5 t8 (.cst (.bool false))), mv 2 t9]) .ret))
def ir_nkey [NdN] [BkN] : FnIR := ⟨10, [.tmp 2], b_nkey⟩
def b_nform1 [NdN] [BkN] : IR := (.seq (.reg [xo 2 (.mv (.cst (.bool false)))]) (.seq (.reg [mv 3 t0, xo 4 (.len 0 t3), xo 5 (.bin .gtr 0 t4 (.cst (.int .i64 200))), mv 2 t5]) .ret))
def ir_nform1 [NdN] [BkN] : FnIR := ⟨6, [.tmp 2], b_nform1⟩
def b_nform2 [NdN] [BkN] : IR := (.seq (.reg [xo 1 (.box t0), xo 2 (.mv (.cst (.bool false)))]) (.seq (.reg [xo 6 (.ldn 3 t1), xo 7 (.call (.cst (.fn (.fn (.func BkN.enc)) [] [])) [t6]), mv 5 t7, xo 8 (.ext t5 0), xo 9 (.ext t5 1), mv 3 t8, mv 4 t9]) (.seq (.reg [mv 10 t4, xo 11 (.bin .neq 0 t10 (.cst (.int .i64 0))), mv 12 t11, ⟨some 13, .fla 0 t1, some (12, false)⟩, ⟨some 14, .ld1 t13, some (12, false)⟩, ⟨some 15, .bin .eql 0 t14 (.cst (.int .i64 0)), some (12, false)⟩, xo 16 (.pick t12 (.cst (.bool true)) t15), mv 2 t16]) .ret)))
def ir_nform2 [NdN] [BkN] : FnIR := ⟨17, [.tmp 2], b_nform2⟩
def b_nidxS [NdN] [BkN] : IR := (.seq (.reg [xo 4 (.mv (.cst (.int .i64 0)))]) (.seq (.seq (.reg [mv 6 t0, xo 7 (.len 1 t6), xo 8 (.mv (.cst (.int .i64 0)))]) (.block 0 (.loop (.seq (.reg [xo 9 (.bin .lss 0 t8 t7)]) (.seq (.cond t9 .skip (.exit 0)) (.seq (.block 1 (.seq (.reg [mv 10 t8, mv 5 t10]) (.seq (.reg [mv 11 t1, mv 12 t0, mv 13 t5, xo 14 (.ixs 1 t12 t13), xo 15 (.ld1 t14), xo 16 (.call t11 [t15])]) (.cond t16 (.seq (.reg [mv 17 t5, mv 4 t17]) .ret) .skip)))) (.reg [xo 18 (.bin .add 0 t8 (.cst (.int .i64 1))), mv 8 t18]))))))) (.seq (.reg [xo 4 (.mv (.cst (.int .i64 (-1))))]) .ret)))
def ir_nidxS [NdN] [BkN] : FnIR := ⟨19, [.tmp 4], b_nidxS⟩
def b_nidxP [NdN] [BkN] : IR := (.seq (.reg [xo 4 (.mv (.cst (.int .i64 0)))]) (.seq (.seq (.reg [mv 6 t0, xo 7 (.len 1 t6), xo 8 (.mv (.cst (.int .i64 0)))]) (.block 0 (.loop (.seq (.reg [xo 9 (.bin .lss 0 t8 t7)]) (.seq (.cond t9 .skip (.exit 0)) (.seq (.block 1 (.seq (.reg [mv 10 t8, mv 5 t10]) (.seq (.reg [mv 11 t1, mv 12 t0, mv 13 t5, xo 14 (.ixs 3 t12 t13), xo 15 (.ldn 3 t14), xo 16 (.call t11 [t15])]) (.cond t16 (.seq (.reg [mv 17 t5, mv 4 t17]) .ret) .skip)))) (.reg [xo 18 (.bin .add 0 t8 (.cst (.int .i64 1))), mv 8 t18]))))))) (.seq (.reg [xo 4 (.mv (.cst (.int .i64 (-1))))]) .ret)))
def ir_nidxP [NdN] [BkN] : FnIR := ⟨19, [.tmp 4], b_nidxP⟩
def b_nconS [NdN] [BkN] : IR := (.seq (.reg [xo 4 (.mv (.cst (.bool false)))]) (.seq (.reg [mv 5 t0, mv 6 t1, xo 7 (.call (.cst (.fn (.fn (.func NdN.idxS)) [] [])) [t5, t6]), xo 8 (.bin .geq 0 t7 (.cst (.int .i64 0))), mv 4 t8]) .ret))
def ir_nconS [NdN] [BkN] : FnIR := ⟨9, [.tmp 4], b_nconS⟩
def b_nconP [NdN] [BkN] : IR := (.seq (.reg [xo 4 (.mv (.cst (.bool false)))]) (.seq (.reg [mv 5 t0, mv 6 t1, xo 7 (.call (.cst (.fn (.fn (.func NdN.idxP)) [] [])) [t5, t6]), xo 8 (.bin .geq 0 t7 (.cst (.int .i64 0))), mv 4 t8]) .ret))
def ir_nconP [NdN] [BkN] : FnIR := ⟨9, [.tmp 4], b_nconP⟩
def b_nform [NdN] [BkN] : IR := (.seq (.reg [xo 1 (.box t0), xo 2 (.mv (.cst (.bool false)))]) (.seq (.seq (.reg [xo 6 (.fla 1 t1), xo 7 (.ld1 t6), xo 8 (.len 1 t7), xo 9 (.mv (.cst (.int .i64 0)))]) (.block 0 (.loop (.seq (.reg [xo 10 (.bin .lss 0 t9 t8)]) (.seq (.cond t10 .skip (.exit 0)) (.seq (.block 1 (.seq (.reg [mv 11 t9, xo 12 (.ixs 1 t7 t9), xo 13 (.ld1 t12), mv 3 t11, mv 4 t13]) (.seq (.reg [mv 14 t4, xo 15 (.call (.cst (.fn (.fn (.func NdN.key)) [] [])) [t14]), xo 16 (.not t15), mv 17 t16, ⟨some 18, .mv t3, some (17, false)⟩, ⟨some 19, .bin .gtr 0 t18 (.cst (.int .i64 0)), some (17, false)⟩, ⟨some 20, .mv t19, some (17, false)⟩, ⟨some 21, .mv t4, some (20, true)⟩, ⟨some 22, .fla 1 t1, some (20, true)⟩, ⟨some 23, .ld1 t22, some (20, true)⟩, ⟨some 24, .mv t3, some (20, true)⟩, ⟨some 25, .bin .sub 0 t24 (.cst (.int .i64 1)), some (20, true)⟩, ⟨some 26, .ixs 1 t23 t25, some (20, true)⟩, ⟨some 27, .ld1 t26, some (20, true)⟩, ⟨some 28, .bin .leq 0 t21 t27, some (20, true)⟩, ⟨some 29, .pick t20 t28 (.cst (.bool false)), some (17, false)⟩, xo 30 (.pick t17 (.cst (.bool true)) t29)]) (.cond t30 (.seq (.reg [xo 2 (.mv (.cst (.bool false)))]) .ret) .skip)))) (.reg [xo 31 (.bin .add 0 t9 (.cst (.int .i64 1))), mv 9 t31]))))))) (.seq (.seq (.reg [xo 32 (.fla 0 t1), xo 33 (.ld1 t32)]) (.cond t33 (.seq (.reg [xo 34 (.fla 3 t1), xo 35 (.ld1 t34), xo 36 (.len 1 t35), xo 37 (.bin .eql 0 t36 (.cst (.int .i64 0))), mv 38 t37, ⟨some 39, .fla 2 t1, some (38, true)⟩, ⟨some 40, .ld1 t39, some (38, true)⟩, ⟨some 41, .len 1 t40, some (38, true)⟩, ⟨some 42, .fla 1 t1, some (38, true)⟩, ⟨some 43, .ld1 t42, some (38, true)⟩, ⟨some 44, .len 1 t43, some (38, true)⟩, ⟨some 45, .bin .eql 0 t41 t44, some (38, true)⟩, xo 46 (.pick t38 t45 (.cst (.bool false))), mv 47 t46, ⟨some 48, .fla 2 t1, some (47, true)⟩, ⟨some 49, .ld1 t48, some (47, true)⟩, ⟨some 50, .call (.cst (.fn (.fn (.func NdN.conS)) [] [])) [t49, (.cst (.fn (.fn (.func NdN.form1)) [] []))], some (47, true)⟩, ⟨some 51, .not t50, some (47, true)⟩, xo 52 (.pick t47 t51 (.cst (.bool false))), mv 2 t52]) .ret) .skip)) (.seq (.reg [xo 5 (.mv (.cst (.fn (.fn (.func NdN.form2)) [] [])))]) (.seq (.reg [xo 53 (.fla 1 t1), xo 54 (.ld1 t53), xo 55 (.len 1 t54), xo 56 (.bin .gtr 0 t55 (.cst (.int .i64 0))), mv 57 t56, ⟨some 58, .fla 3 t1, some (57, true)⟩, ⟨some 59, .ld1 t58, some (57, true)⟩, ⟨some 60, .len 1 t59, some (57, true)⟩, ⟨some 61, .fla 1 t1, some (57, true)⟩, ⟨some 62, .ld1 t61, some (57, true)⟩, ⟨some 63, .len 1 t62, some (57, true)⟩, ⟨some 64, .bin .add 0 t63 (.cst (.int .i64 1)), some (57, true)⟩, ⟨some 65, .bin .eql 0 t60 t64, some (57, true)⟩, xo 66 (.pick t57 t65 (.cst (.bool false))), mv 67 t66, ⟨some 68, .fla 2 t1, some (67, true)⟩, ⟨some 69, .ld1 t68, some (67, true)⟩, ⟨some 70, .len 1 t69, some (67, true)⟩, ⟨some 71, .bin .eql 0 t70 (.cst (.int .i64 0)), some (67, true)⟩, xo 72 (.pick t67 t71 (.cst (.bool false))), mv 73 t72, ⟨some 74, .fla 3 t1, some (73, true)⟩, ⟨some 75, .ld1 t74, some (73, true)⟩, ⟨some 76, .mv t5, some (73, true)⟩, ⟨some 77, .call (.cst (.fn (.fn (.func NdN.conP)) [] [])) [t75, t76], some (73, true)⟩, ⟨some 78, .not t77, some (73, true)⟩, xo 79 (.pick t73 t78 (.cst (.bool false))), mv 2 t79]) .ret)))))
def ir_nform [NdN] [BkN] : FnIR := ⟨80, [.tmp 2], b_nform⟩
def b_nsize [NdN] [BkN] : IR := (.seq (.reg [xo 1 (.box t0), xo 2 (.mv (.cst (.int .i64 0)))]) (.seq (.reg [xo 8 (.fla 3 t1), xo 9 (.ld1 t8), xo 10 (.len 1 t9), xo 11 (.bin .mul 0 (.cst (.int .i64 16)) t10), xo 12 (.bin .add 0 (.cst (.int .i64 2)) t11), mv 3 t12]) (.seq (.seq (.reg [xo 13 (.fla 1 t1), xo 14 (.ld1 t13), xo 15 (.fla 2 t1), xo 16 (.ld1 t15), xo 17 (.bsl 2 (.rep 2 .nils) [(0, 1, t14), (1, 1, t16)]), xo 18 (.len 1 t17), xo 19 (.mv (.cst (.int .i64 0)))]) (.block 0 (.loop (.seq (.reg [xo 20 (.bin .lss 0 t19 t18)]) (.seq (.cond t20 .skip (.exit 0)) (.seq (.block 1 (.seq (.reg [xo 21 (.ixs 1 t17 t19), xo 22 (.ld1 t21), mv 5 t22]) (.seq (.reg [mv 23 t5, xo 24 (.len 1 t23), xo 25 (.mv (.cst (.int .i64 0)))]) (.block 2 (.loop (.seq (.reg [xo 26 (.bin .lss 0 t25 t24)]) (.seq (.cond t26 .skip (.exit 2)) (.seq (.block 3 (.seq (.reg [xo 27 (.ixs 1 t23 t25), xo 28 (.ld1 t27), mv 7 t28]) (.reg [mv 29 t3, mv 30 t7, xo 31 (.len 0 t30), xo 32 (.bin .add 0 (.cst (.int .i64 1)) t31), xo 33 (.bin .add 0 t29 t32), mv 3 t33]))) (.reg [xo 34 (.bin .add 0 t25 (.cst (.int .i64 1))), mv 25 t34]))))))))) (.reg [xo 35 (.bin .add 0 t19 (.cst (.int .i64 1))), mv 19 t35]))))))) (.seq (.reg [mv 36 t3, mv 2 t36]) .ret))))
def ir_nsize [NdN] [BkN] : FnIR := ⟨37, [.tmp 2], b_nsize⟩
def b_nmay [NdN] [BkN] : IR := (.seq (.reg [xo 1 (.box t0), xo 2 (.mv (.cst (.bool false)))]) (.seq (.reg [xo 3 (.ldn 4 t1), xo 4 (.call (.cst (.fn (.fn (.func NdN.form)) [] [])) [t3]), mv 5 t4, ⟨some 6, .ldn 4 t1, some (5, true)⟩, ⟨some 7, .call (.cst (.fn (.fn (.func NdN.size)) [] [])) [t6], some (5, true)⟩, ⟨some 8, .bin .leq 0 t7 (.cst (.int .i64 500)), some (5, true)⟩, xo 9 (.pick t5 t8 (.cst (.bool false))), mv 2 t9]) .ret))
def ir_nmay [NdN] [BkN] : FnIR := ⟨10, [.tmp 2], b_nmay⟩
def b_nwhere_ [NdN] [BkN] : IR := (.seq (.reg [xo 2 (.box t0), xo 4 (.mv (.cst (.int .i64 0)))]) (.seq (.reg [xo 5 (.mv (.cst (.int .i64 0)))]) (.seq (.seq (.reg [xo 8 (.fla 1 t2), xo 9 (.ld1 t8), xo 10 (.len 1 t9), xo 11 (.mv (.cst (.int .i64 0)))]) (.block 0 (.loop (.seq (.reg [xo 12 (.bin .lss 0 t11 t10)]) (.seq (.cond t12 .skip (.exit 0)) (.seq (.block 1 (.seq (.reg [xo 13 (.ixs 1 t9 t11), xo 14 (.ld1 t13), mv 7 t14]) (.seq (.reg [mv 15 t7, mv 16 t1, xo 17 (.bin .lss 0 t15 t16), mv 18 t17, ⟨some 19, .mv t7, some (18, false)⟩, ⟨some 20, .mv t1, some (18, false)⟩, ⟨some 21, .bin .eql 0 t19 t20, some (18, false)⟩, ⟨some 22, .mv t21, some (18, false)⟩, ⟨some 23, .fla 0 t2, some (22, true)⟩, ⟨some 24, .ld1 t23, some (22, true)⟩, ⟨some 25, .not t24, some (22, true)⟩, ⟨some 26, .pick t22 t25 (.cst (.bool false)), some (18, false)⟩, xo 27 (.pick t18 (.cst (.bool true)) t26)]) (.cond t27 (.reg [mv 28 t5, xo 29 (.bin .add 0 t28 (.cst (.int .i64 1))), mv 5 t29]) .skip)))) (.reg [xo 30 (.bin .add 0 t11 (.cst (.int .i64 1))), mv 11 t30]))))))) (.seq (.reg [mv 31 t5, mv 4 t31]) .ret))))
def ir_nwhere_ [NdN] [BkN] : FnIR := ⟨32, [.tmp 4], b_nwhere_⟩
structure NdT [NdN] [BkN] (tbl : Nat → Option FT) : Prop where
  key : tbl NdN.key = some (.code ir_nkey)
  form1 : tbl NdN.form1 = some (.code ir_nform1)
  form2 : tbl NdN.form2 = some (.code ir_nform2)
  idxS : tbl NdN.idxS = some (.code ir_nidxS)
  idxP : tbl NdN.idxP = some (.code ir_nidxP)
  conS : tbl NdN.conS = some (.code ir_nconS)
  conP : tbl NdN.conP = some (.code ir_nconP)
  form : tbl NdN.form = some (.code ir_nform)
  size : tbl NdN.size = some (.code ir_nsize)
  may : tbl NdN.may = some (.code ir_nmay)
  where_ : tbl NdN.where_ = some (.code ir_nwhere_)
theorem key_ok [NdN] [BkN] {tbl : Nat → Option FT} (T : NdT tbl) {s : List Nat} {N d : Nat} (hd : 1 ≤ d) {Z : Fz} {F : List Hl} {H : AH} (hs : Sat H Z (F))  :
    Ct (RUN tbl N d) (.fn (.fn (.func NdN.key)) [] []) [(.str s)] H fun v H' => v = .bool (dB (KeyOk s)) ∧ Sat H' Z F := by
  obtain ⟨d, rfl⟩ : ∃ e, d = e + 1 := ⟨d - 1, by omega⟩
  refine ct_code T.key (b := b_nkey) (env := [(.str s), u_, u_, u_, u_, u_, u_, u_, u_, u_]) ?_
  unfold b_nkey
  refine wp_seq (wp_reg (wo_mv (.bool false) (wo_nil (thn_n (wp_seq ?_)))))
  refine wp_reg (wo_mv (.str s) ?_)
  by_cases c1 : s = []
  · refine wo_x (v := (.bool false)) (w_bin (str_neqT c1)) (wo_mv (.bool false) (wo_noF (wo_noF (wo_noF (wo_x (v := (.bool false)) (w_pickF rfl rfl) ?_)))))
    refine wo_mv (.bool false) (wo_nil (thn_n (wp_ret ?_)))
    exact fin_1 (.bool false) ⟨congrArg AV.bool (dB_false (by unfold KeyOk; first | (simp_all; done) | (simp_all; omega))).symm, hs⟩
  · refine wo_x (v := (.bool true)) (w_bin (str_neqF c1)) (wo_mv (.bool true) (wo_yesT (wo_mv (.str s) (wo_yesT (wo_x (v := (.int .i64 (.ofNat s.length))) (w_lens (s := s) (n := s.length) rfl rfl) ?_)))))
    by_cases c2 : s.length ≤ 40
    · refine wo_yesT (wo_x (v := (.bool true)) (w_bin (cmp_leqT s.length 40 (by omega))) (wo_x (v := (.bool true)) (w_pickT rfl rfl) (wo_mv (.bool true) (wo_nil (thn_n ?_)))))
      refine wp_ret ?_
      exact fin_1 (.bool true) ⟨congrArg AV.bool (dB_true (by unfold KeyOk; first | (simp_all; done) | (simp_all; omega))).symm, hs⟩
    · refine wo_yesT (wo_x (v := (.bool false)) (w_bin (cmp_leqF s.length 40 (by omega))) (wo_x (v := (.bool false)) (w_pickT rfl rfl) (wo_mv (.bool false) (wo_nil (thn_n ?_)))))
      refine wp_ret ?_
      exact fin_1 (.bool false) ⟨congrArg AV.bool (dB_false (by unfold KeyOk; first | (simp_all; done) | (simp_all; omega))).symm, hs⟩
theorem form1_ok [NdN] [BkN] {tbl : Nat → Option FT} (T : NdT tbl) {s : List Nat} {N d : Nat} (hd : 1 ≤ d) {Z : Fz} {F : List Hl} {H : AH} (hs : Sat H Z (F))  :
    Ct (RUN tbl N d) (.fn (.fn (.func NdN.form1)) [] []) [(.str s)] H fun v H' => v = .bool (decide (200 < s.length)) ∧ Sat H' Z F := by
  obtain ⟨d, rfl⟩ : ∃ e, d = e + 1 := ⟨d - 1, by omega⟩
  refine ct_code T.form1 (b := b_nform1) (env := [(.str s), u_, u_, u_, u_, u_]) ?_
  unfold b_nform1
  refine wp_seq (wp_reg (wo_mv (.bool false) (wo_nil (thn_n (wp_seq ?_)))))
  refine wp_reg (wo_mv (.str s) (wo_x (v := (.int .i64 (.ofNat s.length))) (w_lens (s := s) (n := s.length) rfl rfl) ?_))
  by_cases c1 : 200 < s.length
  · refine wo_x (v := (.bool true)) (w_bin (cmp_gtrT s.length 200 (by omega))) (wo_mv (.bool true) (wo_nil (thn_n (wp_ret ?_))))
    exact fin_1 (.bool true) ⟨congrArg AV.bool (by symm; simp; omega), hs⟩
  · refine wo_x (v := (.bool false)) (w_bin (cmp_gtrF s.length 200 (by omega))) (wo_mv (.bool false) (wo_nil (thn_n (wp_ret ?_))))
    exact fin_1 (.bool false) ⟨congrArg AV.bool (by symm; simp; omega), hs⟩
theorem encE_ok [BkN] {tbl : Nat → Option FT} (T : BkT tbl) {a b : Int} {s : Nat} {r : Rp AV} (hr : RL r (ptrC a b s)) (hs64 : s < 18446744073709551616) {N d : Nat} (hd : 2 ≤ d) {Z : Fz} {F : List Hl} {H : AH} (hs : Sat H Z F) :
    Ct (RUN tbl N d) (.fn (.fn (.func BkN.enc)) [] []) [.agg r] H fun v H' => ∃ t e, v = .tup [.str t, .int .i64 e] ∧ ((PtrOk a b s ∧ e = 0) ∨ (¬ PtrOk a b s ∧ e = 4)) ∧ Sat H' Z F := by
  by_cases h : PtrOk a b s
  · have hab : 0 ≤ a ∧ 0 ≤ b := by unfold PtrOk at h; omega
    have ha : a = .ofNat a.toNat := by simp; omega
    have hb : b = .ofNat b.toNat := by simp; omega
    have h' := h
    rw [ha, hb] at h' hr
    exact (ency_ok T (N := N) h' hr hs64 hd hs).imp fun v H' ⟨e, hs⟩ => ⟨_, _, e, .inl ⟨h, rfl⟩, hs⟩
  · exact (encn_ok T (N := N) h hr hd hs).imp fun v H' ⟨e, hs⟩ => ⟨_, _, e, .inr ⟨h, rfl⟩, hs⟩
theorem form2_ok [NdN] [BkN] {tbl : Nat → Option FT} (T : NdT tbl) (TB : BkT tbl) {a b : Int} {s : Nat} {r : Rp AV} (hr : RL r (ptrC a b s)) (hs64 : s < 18446744073709551616) {N d : Nat} (hd : 3 ≤ d) {Z : Fz} {F : List Hl} {H : AH} (hs : Sat H Z (F))  :
    Ct (RUN tbl N d) (.fn (.fn (.func NdN.form2)) [] []) [(.agg r)] H fun v H' => v = .bool (dB (¬ KidOk ⟨a, b, s⟩)) ∧ Sat H' Z F := by
  obtain ⟨d, rfl⟩ : ∃ e, d = e + 3 := ⟨d - 3, by omega⟩
  refine ct_code T.form2 (b := b_nform2) (env := [(.agg r), u_, u_, u_, u_, u_, u_, u_, u_, u_, u_, u_, u_, u_, u_, u_, u_]) ?_
  unfold b_nform2
  refine wp_seq (wp_reg ?_)
  obtain ⟨b1, H2, s3, k4⟩ := s_boxn hs hr
  refine wo_x (v := (.ptr b1 0)) (k4 rfl) (wo_mv (.bool false) (wo_nil (thn_n (wp_seq (wp_reg ?_)))))
  obtain ⟨r5, q6, k7⟩ := s_ldn s3 0 0 3 
  refine wo_x (v := (.agg r5)) (k7 rfl) ?_
  obtain ⟨_, H11, ⟨t8, e9, rfl, h10, s12⟩, k13⟩ := encE_ok (N := N) (d := d + 2) TB q6 hs64 (by omega) s3
  refine wo_call k13 (wo_mv (.tup [(.str t8), (.int .i64 e9)]) (wo_x (v := (.str t8)) (w_lit (fun K => rfl)) (wo_x (v := (.int .i64 e9)) (w_lit (fun K => rfl)) (wo_mv (.str t8) (wo_mv (.int .i64 e9) ?_)))))
  refine wo_nil (thn_n (wp_seq (wp_reg (wo_mv (.int .i64 e9) ?_))))
  by_cases c14 : e9 = 0
  · refine wo_x (v := (.bool false)) (w_bin (cmp_neqTz e9 0 (by omega))) (wo_mv (.bool false) (wo_yesF (wo_x (v := (.ptr b1 0)) (ca_fla rfl rfl) (wo_yesF (wo_x (v := (.int .i64 a)) (s_ld1 s12 0 rfl) ?_)))))
    by_cases c15 : a = 0
    · refine wo_yesF (wo_x (v := (.bool true)) (w_bin (cmp_eqlTz a 0 (by omega))) (wo_x (v := (.bool true)) (w_pickF rfl rfl) (wo_mv (.bool true) (wo_nil (thn_n ?_)))))
      refine wp_ret ?_
      have s16 := s12.drop 0
      exact fin_1 (.bool true) ⟨congrArg AV.bool (dB_true (by unfold KidOk; rcases h10 with ⟨h1, h2⟩ | ⟨h1, h2⟩ <;> simp_all)).symm, s16⟩
    · refine wo_yesF (wo_x (v := (.bool false)) (w_bin (cmp_eqlFz a 0 (by omega))) (wo_x (v := (.bool false)) (w_pickF rfl rfl) (wo_mv (.bool false) (wo_nil (thn_n ?_)))))
      refine wp_ret ?_
      have s17 := s12.drop 0
      exact fin_1 (.bool false) ⟨congrArg AV.bool (dB_false (by unfold KidOk; rcases h10 with ⟨h1, h2⟩ | ⟨h1, h2⟩ <;> simp_all)).symm, s17⟩
  · refine wo_x (v := (.bool true)) (w_bin (cmp_neqFz e9 0 (by omega))) (wo_mv (.bool true) (wo_noT (wo_noT (wo_noT (wo_x (v := (.bool true)) (w_pickT rfl rfl) ?_)))))
    refine wo_mv (.bool true) (wo_nil (thn_n (wp_ret ?_)))
    have s18 := s12.drop 0
    exact fin_1 (.bool true) ⟨congrArg AV.bool (dB_true (by unfold KidOk; rcases h10 with ⟨h1, h2⟩ | ⟨h1, h2⟩ <;> simp_all)).symm, s18⟩
theorem idxS_ok [NdN] [BkN] {tbl : Nat → Option FT} (T : NdT tbl) {ss : List (List Nat)} {v f : AV} {p : Nat → Bool} {N d : Nat} (hd : 2 ≤ d) {Z : Fz} {F : List Hl} {H : AH} (hs : Sat H Z (F)) (hv : Fl Z 1 v (strs ss)) (hN : ss.length < N) (hl : ss.length ≤ 1099511627776) (hf : ∀ i, i < ss.length → ∀ (x : AV), x = .str (txt ss i) → ∀ (H : AH), Sat H Z F → Ct (RUN tbl N (d - 1)) f [x] H fun v H' => v = .bool (p i) ∧ Sat H' Z F) :
    Ct (RUN tbl N d) (.fn (.fn (.func NdN.idxS)) [] []) [v, f] H fun v H' => ∃ z, v = .int .i64 z ∧ Found ss.length p z ∧ Sat H' Z F := by
  obtain ⟨d, rfl⟩ : ∃ e, d = e + 1 := ⟨d - 1, by omega⟩
  refine ct_code T.idxS (b := b_nidxS) (env := [v, f, u_, u_, u_, u_, u_, u_, u_, u_, u_, u_, u_, u_, u_, u_, u_, u_, u_]) ?_
  unfold b_nidxS
  refine wp_seq (wp_reg (wo_mv (.int .i64 0) (wo_nil (thn_n (wp_seq ?_)))))
  refine wp_seq (wp_reg (wo_mv v (wo_x (v := (.int .i64 (.ofNat ss.length))) (fl_len hv (strs_len ss) rfl) (wo_mv (.int .i64 0) (wo_nil ?_)))))
  refine thn_n (wp_block ?_)
  refine wp_loop (fun ms_ env ds H => ∃ (i : Nat), ∃ ys1 : List AV, ms_ = ss.length - i ∧ env = [v, f, u_, u_, (lget ys1 0), (lget ys1 1), v, (.int .i64 (.ofNat ss.length)), (.int .i64 (.ofNat i)), (lget ys1 2), (lget ys1 3), (lget ys1 4), (lget ys1 5), (lget ys1 6), (lget ys1 7), (lget ys1 8), (lget ys1 9), (lget ys1 10), (lget ys1 11)] ∧ ds = [] ∧ Sat H Z (F) ∧ (i ≤ ss.length) ∧ (∀ j, j < i → p j = false)) (ss.length - 0) (by omega) ⟨0, [(.int .i64 0), u_, u_, u_, u_, u_, u_, u_, u_, u_, u_, u_], rfl, rfl, rfl, hs, (by omega), (by intro j hj; omega)⟩ ?_
  rintro ms_ env ds H hms_ ⟨i, ys1, rfl, rfl, rfl, s2, hi, hno⟩
  refine wp_seq (wp_reg ?_)
  by_cases c3 : i < ss.length
  · refine wo_x (v := (.bool true)) (w_bin (cmp_lssT i ss.length (by omega))) (wo_nil (thn_n (wp_seq (wp_condT (wp_skip ?_)))))
    refine thn_n (wp_seq (wp_block (wp_seq (wp_reg (wo_mv (.int .i64 (.ofNat i)) ?_)))))
    refine wo_mv (.int .i64 (.ofNat i)) (wo_nil (thn_n (wp_seq (wp_reg (wo_mv f ?_)))))
    refine wo_mv v (wo_mv (.int .i64 (.ofNat i)) ?_)
    obtain ⟨b4, o5, L6, z7, g8, e9, n10, k11⟩ := fl_ix hv i (strs_get (show i < ss.length by omega))
    refine wo_x (v := (.ptr b4 o5)) (k11 rfl rfl) (wo_x (v := (.str (txt ss i))) (s_zld1 s2 z7 (g8 0 _ rfl)) ?_)
    obtain ⟨_, H12, ⟨rfl, s13⟩, k14⟩ := hf i (show i < ss.length by omega) (.str (txt ss i)) rfl _ s2
    refine wo_call k14 (wo_nil (thn_n ?_))
    by_cases c15 : (p i) = true
    · refine wp_condT (hc := (congrArg AV.bool c15)) (wp_seq (wp_reg (wo_mv (.int .i64 (.ofNat i)) (wo_mv (.int .i64 (.ofNat i)) (wo_nil ?_)))))
      refine thn_n (wp_ret (blk_r (thn_r (lpq_r (blk_r ?_)))))
      refine thn_r ?_
      exact fin_1 (.int .i64 (.ofNat i)) ⟨_, rfl, .inl ⟨i, rfl, by omega, c15, hno⟩, s13⟩
    · refine wp_condF (hc := (congrArg AV.bool (Bool.eq_false_iff.2 c15))) (wp_skip (blk_n (thn_n (wp_reg (wo_x (v := (.int .i64 (.ofNat (i + 1)))) (w_bin (add_i64 i 1 (by omega) _ _)) ?_)))))
      refine wo_mv (.int .i64 (.ofNat (i + 1))) (wo_nil ?_)
      refine lpq_n (ss.length - (i + 1)) (by omega) ⟨(i + 1), [(lget ys1 0), (.int .i64 (.ofNat i)), (.bool true), (.int .i64 (.ofNat i)), f, v, (.int .i64 (.ofNat i)), (.ptr b4 o5), (.str (txt ss i)), (.bool (p i)), (lget ys1 10), (.int .i64 (.ofNat (i + 1)))], rfl, rfl, rfl, s13, (by omega), (by intro j hj; by_cases e : j = i; (subst e; exact Bool.eq_false_iff.2 c15); exact hno j (by omega))⟩
  · refine wo_x (v := (.bool false)) (w_bin (cmp_lssF i ss.length (by omega))) (wo_nil (thn_n (wp_seq (wp_condF (wp_exit ?_)))))
    refine thn_e (lpq_e (blk_h (thn_n (wp_seq (wp_reg ?_)))))
    refine wo_mv (.int .i64 (-1)) (wo_nil (thn_n (wp_ret ?_)))
    exact fin_1 (.int .i64 (-1)) ⟨_, rfl, .inr ⟨rfl, by intro j hj; exact hno j (by omega)⟩, s2⟩
theorem idxP_ok [NdN] [BkN] {tbl : Nat → Option FT} (T : NdT tbl) {qs : List PtrM} {v f : AV} {p : Nat → Bool} {N d : Nat} (hd : 2 ≤ d) {Z : Fz} {F : List Hl} {H : AH} (hs : Sat H Z (F)) (hv : Fl Z 3 v (ptrs qs)) (hN : qs.length < N) (hl : qs.length ≤ 1099511627776) (hf : ∀ i, i < qs.length → ∀ (x : AV), (∃ r, x = .agg r ∧ RL r (ptrC (ptAt qs i).a (ptAt qs i).b (ptAt qs i).s)) → ∀ (H : AH), Sat H Z F → Ct (RUN tbl N (d - 1)) f [x] H fun v H' => v = .bool (p i) ∧ Sat H' Z F) :
    Ct (RUN tbl N d) (.fn (.fn (.func NdN.idxP)) [] []) [v, f] H fun v H' => ∃ z, v = .int .i64 z ∧ Found qs.length p z ∧ Sat H' Z F := by
  obtain ⟨d, rfl⟩ : ∃ e, d = e + 1 := ⟨d - 1, by omega⟩
  refine ct_code T.idxP (b := b_nidxP) (env := [v, f, u_, u_, u_, u_, u_, u_, u_, u_, u_, u_, u_, u_, u_, u_, u_, u_, u_]) ?_
  unfold b_nidxP
  refine wp_seq (wp_reg (wo_mv (.int .i64 0) (wo_nil (thn_n (wp_seq ?_)))))
  refine wp_seq (wp_reg (wo_mv v (wo_x (v := (.int .i64 (.ofNat qs.length))) (fl_len hv (ptrs_len qs) rfl) (wo_mv (.int .i64 0) (wo_nil ?_)))))
  refine thn_n (wp_block ?_)
  refine wp_loop (fun ms_ env ds H => ∃ (i : Nat), ∃ ys1 : List AV, ms_ = qs.length - i ∧ env = [v, f, u_, u_, (lget ys1 0), (lget ys1 1), v, (.int .i64 (.ofNat qs.length)), (.int .i64 (.ofNat i)), (lget ys1 2), (lget ys1 3), (lget ys1 4), (lget ys1 5), (lget ys1 6), (lget ys1 7), (lget ys1 8), (lget ys1 9), (lget ys1 10), (lget ys1 11)] ∧ ds = [] ∧ Sat H Z (F) ∧ (i ≤ qs.length) ∧ (∀ j, j < i → p j = false)) (qs.length - 0) (by omega) ⟨0, [(.int .i64 0), u_, u_, u_, u_, u_, u_, u_, u_, u_, u_, u_], rfl, rfl, rfl, hs, (by omega), (by intro j hj; omega)⟩ ?_
  rintro ms_ env ds H hms_ ⟨i, ys1, rfl, rfl, rfl, s2, hi, hno⟩
  refine wp_seq (wp_reg ?_)
  by_cases c3 : i < qs.length
  · refine wo_x (v := (.bool true)) (w_bin (cmp_lssT i qs.length (by omega))) (wo_nil (thn_n (wp_seq (wp_condT (wp_skip ?_)))))
    refine thn_n (wp_seq (wp_block (wp_seq (wp_reg (wo_mv (.int .i64 (.ofNat i)) ?_)))))
    refine wo_mv (.int .i64 (.ofNat i)) (wo_nil (thn_n (wp_seq (wp_reg (wo_mv f ?_)))))
    refine wo_mv v (wo_mv (.int .i64 (.ofNat i)) ?_)
    obtain ⟨b4, o5, L6, z7, g8, e9, n10, k11⟩ := fl_ix hv i (ptrs_get (show i < qs.length by omega))
    refine wo_x (v := (.ptr b4 o5)) (k11 rfl rfl) ?_
    obtain ⟨r12, q13, k14⟩ := s_zldn s2 z7 o5 3 (hl := e9)
    rw [fl_take g8 n10 e9] at q13
    refine wo_x (v := (.agg r12)) (k14 rfl) ?_
    obtain ⟨_, H15, ⟨rfl, s16⟩, k17⟩ := hf i (show i < qs.length by omega) (.agg r12) ⟨_, rfl, q13⟩ _ s2
    refine wo_call k17 (wo_nil (thn_n ?_))
    by_cases c18 : (p i) = true
    · refine wp_condT (hc := (congrArg AV.bool c18)) (wp_seq (wp_reg (wo_mv (.int .i64 (.ofNat i)) (wo_mv (.int .i64 (.ofNat i)) (wo_nil ?_)))))
      refine thn_n (wp_ret (blk_r (thn_r (lpq_r (blk_r ?_)))))
      refine thn_r ?_
      exact fin_1 (.int .i64 (.ofNat i)) ⟨_, rfl, .inl ⟨i, rfl, by omega, c18, hno⟩, s16⟩
    · refine wp_condF (hc := (congrArg AV.bool (Bool.eq_false_iff.2 c18))) (wp_skip (blk_n (thn_n (wp_reg (wo_x (v := (.int .i64 (.ofNat (i + 1)))) (w_bin (add_i64 i 1 (by omega) _ _)) ?_)))))
      refine wo_mv (.int .i64 (.ofNat (i + 1))) (wo_nil ?_)
      refine lpq_n (qs.length - (i + 1)) (by omega) ⟨(i + 1), [(lget ys1 0), (.int .i64 (.ofNat i)), (.bool true), (.int .i64 (.ofNat i)), f, v, (.int .i64 (.ofNat i)), (.ptr b4 o5), (.agg r12), (.bool (p i)), (lget ys1 10), (.int .i64 (.ofNat (i + 1)))], rfl, rfl, rfl, s16, (by omega), (by intro j hj; by_cases e : j = i; (subst e; exact Bool.eq_false_iff.2 c18); exact hno j (by omega))⟩
  · refine wo_x (v := (.bool false)) (w_bin (cmp_lssF i qs.length (by omega))) (wo_nil (thn_n (wp_seq (wp_condF (wp_exit ?_)))))
    refine thn_e (lpq_e (blk_h (thn_n (wp_seq (wp_reg ?_)))))
    refine wo_mv (.int .i64 (-1)) (wo_nil (thn_n (wp_ret ?_)))
    exact fin_1 (.int .i64 (-1)) ⟨_, rfl, .inr ⟨rfl, by intro j hj; exact hno j (by omega)⟩, s2⟩
theorem conS_ok [NdN] [BkN] {tbl : Nat → Option FT} (T : NdT tbl) {ss : List (List Nat)} {v f : AV} {p : Nat → Bool} {N d : Nat} (hd : 3 ≤ d) {Z : Fz} {F : List Hl} {H : AH} (hs : Sat H Z (F)) (hv : Fl Z 1 v (strs ss)) (hN : ss.length < N) (hl : ss.length ≤ 1099511627776) (hf : ∀ i, i < ss.length → ∀ (x : AV), x = .str (txt ss i) → ∀ (H : AH), Sat H Z F → Ct (RUN tbl N (d - 2)) f [x] H fun v H' => v = .bool (p i) ∧ Sat H' Z F) :
    Ct (RUN tbl N d) (.fn (.fn (.func NdN.conS)) [] []) [v, f] H fun v H' => v = .bool (dB (∃ i, i < ss.length ∧ p i = true)) ∧ Sat H' Z F := by
  obtain ⟨d, rfl⟩ : ∃ e, d = e + 2 := ⟨d - 2, by omega⟩
  refine ct_code T.conS (b := b_nconS) (env := [v, f, u_, u_, u_, u_, u_, u_, u_]) ?_
  unfold b_nconS
  refine wp_seq (wp_reg (wo_mv (.bool false) (wo_nil (thn_n (wp_seq ?_)))))
  refine wp_reg (wo_mv v (wo_mv f ?_))
  obtain ⟨_, H3, ⟨z1, rfl, h2, s4⟩, k5⟩ := idxS_ok (N := N) (d := d + 1) T (by omega) hs hv hN hl hf
  refine wo_call k5 ?_
  by_cases c6 : 0 ≤ z1
  · refine wo_x (v := (.bool true)) (w_bin (cmp_geqTz z1 0 (by omega))) (wo_mv (.bool true) (wo_nil (thn_n (wp_ret ?_))))
    exact fin_1 (.bool true) ⟨congrArg AV.bool (dB_true (h2.geq c6)).symm, s4⟩
  · refine wo_x (v := (.bool false)) (w_bin (cmp_geqFz z1 0 (by omega))) (wo_mv (.bool false) (wo_nil (thn_n (wp_ret ?_))))
    exact fin_1 (.bool false) ⟨congrArg AV.bool (dB_false (h2.lt c6)).symm, s4⟩
theorem conP_ok [NdN] [BkN] {tbl : Nat → Option FT} (T : NdT tbl) {qs : List PtrM} {v f : AV} {p : Nat → Bool} {N d : Nat} (hd : 3 ≤ d) {Z : Fz} {F : List Hl} {H : AH} (hs : Sat H Z (F)) (hv : Fl Z 3 v (ptrs qs)) (hN : qs.length < N) (hl : qs.length ≤ 1099511627776) (hf : ∀ i, i < qs.length → ∀ (x : AV), (∃ r, x = .agg r ∧ RL r (ptrC (ptAt qs i).a (ptAt qs i).b (ptAt qs i).s)) → ∀ (H : AH), Sat H Z F → Ct (RUN tbl N (d - 2)) f [x] H fun v H' => v = .bool (p i) ∧ Sat H' Z F) :
    Ct (RUN tbl N d) (.fn (.fn (.func NdN.conP)) [] []) [v, f] H fun v H' => v = .bool (dB (∃ i, i < qs.length ∧ p i = true)) ∧ Sat H' Z F := by
  obtain ⟨d, rfl⟩ : ∃ e, d = e + 2 := ⟨d - 2, by omega⟩
  refine ct_code T.conP (b := b_nconP) (env := [v, f, u_, u_, u_, u_, u_, u_, u_]) ?_
  unfold b_nconP
  refine wp_seq (wp_reg (wo_mv (.bool false) (wo_nil (thn_n (wp_seq ?_)))))
  refine wp_reg (wo_mv v (wo_mv f ?_))
  obtain ⟨_, H3, ⟨z1, rfl, h2, s4⟩, k5⟩ := idxP_ok (N := N) (d := d + 1) T (by omega) hs hv hN hl hf
  refine wo_call k5 ?_
  by_cases c6 : 0 ≤ z1
  · refine wo_x (v := (.bool true)) (w_bin (cmp_geqTz z1 0 (by omega))) (wo_mv (.bool true) (wo_nil (thn_n (wp_ret ?_))))
    exact fin_1 (.bool true) ⟨congrArg AV.bool (dB_true (h2.geq c6)).symm, s4⟩
  · refine wo_x (v := (.bool false)) (w_bin (cmp_geqFz z1 0 (by omega))) (wo_mv (.bool false) (wo_nil (thn_n (wp_ret ?_))))
    exact fin_1 (.bool false) ⟨congrArg AV.bool (dB_false (h2.lt c6)).symm, s4⟩
theorem form_ok [NdN] [BkN] {tbl : Nat → Option FT} (T : NdT tbl) (TB : BkT tbl) {lf : Bool} {ks vs : List (List Nat)} {ps : List PtrM} {vk vv vp : AV} {r : Rp AV} {N d : Nat} (hd : 7 ≤ d) {Z : Fz} {F : List Hl} {H : AH} (hs : Sat H Z (F)) (hr : RL r [.bool lf, vk, vv, vp]) (hk : Fl Z 1 vk (strs ks)) (hv : Fl Z 1 vv (strs vs)) (hp : Fl Z 3 vp (ptrs ps)) (hkl : ks.length ≤ 1099511627776) (hvl : vs.length ≤ 1099511627776) (hpl : ps.length ≤ 1099511627776) (hNk : ks.length < N) (hNv : vs.length < N) (hNp : ps.length < N) (hps : ∀ p ∈ ps, p.s < 18446744073709551616) :
    Ct (RUN tbl N d) (.fn (.fn (.func NdN.form)) [] []) [(.agg r)] H fun v H' => v = .bool (dB (FormN lf ks vs ps)) ∧ Sat H' Z F := by
  obtain ⟨d, rfl⟩ : ∃ e, d = e + 7 := ⟨d - 7, by omega⟩
  refine ct_code T.form (b := b_nform) (env := [(.agg r), u_, u_, u_, u_, u_, u_, u_, u_, u_, u_, u_, u_, u_, u_, u_, u_, u_, u_, u_, u_, u_, u_, u_, u_, u_, u_, u_, u_, u_, u_, u_, u_, u_, u_, u_, u_, u_, u_, u_, u_, u_, u_, u_, u_, u_, u_, u_, u_, u_, u_, u_, u_, u_, u_, u_, u_, u_, u_, u_, u_, u_, u_, u_, u_, u_, u_, u_, u_, u_, u_, u_, u_, u_, u_, u_, u_, u_, u_, u_]) ?_
  unfold b_nform
  refine wp_seq (wp_reg ?_)
  obtain ⟨b1, H2, s3, k4⟩ := s_boxn hs hr
  refine wo_x (v := (.ptr b1 0)) (k4 rfl) (wo_mv (.bool false) (wo_nil (thn_n (wp_seq (wp_seq ?_)))))
  refine wp_reg (wo_x (v := (.ptr b1 1)) (ca_fla rfl rfl) (wo_x (v := vk) (s_ld1 s3 0 rfl) (wo_x (v := (.int .i64 (.ofNat ks.length))) (fl_len hk (strs_len ks) rfl) (wo_mv (.int .i64 0) (wo_nil ?_)))))
  refine thn_n (wp_block ?_)
  refine wp_loop (fun ms_ env ds H => ∃ (i : Nat), ∃ ys5 : List AV, ms_ = ks.length - i ∧ env = [(.agg r), (.ptr b1 0), (lget ys5 0), (lget ys5 1), (lget ys5 2), u_, (.ptr b1 1), vk, (.int .i64 (.ofNat ks.length)), (.int .i64 (.ofNat i)), (lget ys5 3), (lget ys5 4), (lget ys5 5), (lget ys5 6), (lget ys5 7), (lget ys5 8), (lget ys5 9), (lget ys5 10), (lget ys5 11), (lget ys5 12), (lget ys5 13), (lget ys5 14), (lget ys5 15), (lget ys5 16), (lget ys5 17), (lget ys5 18), (lget ys5 19), (lget ys5 20), (lget ys5 21), (lget ys5 22), (lget ys5 23), (lget ys5 24), u_, u_, u_, u_, u_, u_, u_, u_, u_, u_, u_, u_, u_, u_, u_, u_, u_, u_, u_, u_, u_, u_, u_, u_, u_, u_, u_, u_, u_, u_, u_, u_, u_, u_, u_, u_, u_, u_, u_, u_, u_, u_, u_, u_, u_, u_, u_, u_] ∧ ds = [] ∧ Sat H Z ((.cells b1 [(.bool lf), vk, vv, vp]) :: F) ∧ (i ≤ ks.length) ∧ (∀ j, j < i → KeyOk (txt ks j) ∧ (0 < j → slt (txt ks (j - 1)) (txt ks j) = true))) (ks.length - 0) (by omega) ⟨0, [(.bool false), u_, u_, u_, u_, u_, u_, u_, u_, u_, u_, u_, u_, u_, u_, u_, u_, u_, u_, u_, u_, u_, u_, u_, u_], rfl, rfl, rfl, s3, (by omega), (by intro j hj; omega)⟩ ?_
  rintro ms_ env ds H hms_ ⟨i, ys5, rfl, rfl, rfl, s6, hi, hks⟩
  refine wp_seq (wp_reg ?_)
  by_cases c7 : i < ks.length
  · refine wo_x (v := (.bool true)) (w_bin (cmp_lssT i ks.length (by omega))) (wo_nil (thn_n (wp_seq (wp_condT (wp_skip ?_)))))
    refine thn_n (wp_seq (wp_block (wp_seq (wp_reg (wo_mv (.int .i64 (.ofNat i)) ?_)))))
    obtain ⟨b8, o9, L10, z11, g12, e13, n14, k15⟩ := fl_ix hk i (strs_get (show i < ks.length by omega))
    refine wo_x (v := (.ptr b8 o9)) (k15 rfl rfl) (wo_x (v := (.str (txt ks i))) (s_zld1 s6 z11 (g12 0 _ rfl)) (wo_mv (.int .i64 (.ofNat i)) (wo_mv (.str (txt ks i)) (wo_nil (thn_n ?_)))))
    refine wp_seq (wp_reg (wo_mv (.str (txt ks i)) ?_))
    obtain ⟨_, H16, ⟨rfl, s17⟩, k18⟩ := key_ok (N := N) (d := d + 6) T (s := txt ks i) (by omega) s6
    refine wo_call k18 ?_
    by_cases c19 : (dB (KeyOk (txt ks i))) = true
    · refine wo_x (v := (.bool false)) (w_notT (congrArg AV.bool c19)) (wo_mv (.bool false) (wo_yesF (wo_mv (.int .i64 (.ofNat i)) ?_)))
      by_cases c20 : 0 < i
      · refine wo_yesF (wo_x (v := (.bool true)) (w_bin (cmp_gtrT i 0 (by omega))) (wo_yesF (wo_mv (.bool true) (wo_yesT (wo_mv (.str (txt ks i)) ?_)))))
        refine wo_yesT (wo_x (v := (.ptr b1 1)) (ca_fla rfl rfl) (wo_yesT (wo_x (v := vk) (s_ld1 s17 0 rfl) (wo_yesT (wo_mv (.int .i64 (.ofNat i)) ?_)))))
        refine wo_yesT (wo_x (v := (.int .i64 (.ofNat (i - 1)))) (w_bin (sub_i64 i 1 (by omega) (by omega))) (wo_yesT ?_))
        obtain ⟨b21, o22, L23, z24, g25, e26, n27, k28⟩ := fl_ix hk (i - 1) (strs_get (show i - 1 < ks.length by omega))
        refine wo_x (v := (.ptr b21 o22)) (k28 rfl rfl) (wo_yesT (wo_x (v := (.str (txt ks (i - 1)))) (s_zld1 s17 z24 (g25 0 _ rfl)) ?_))
        by_cases c29 : sle (txt ks i) (txt ks (i - 1)) = true
        · refine wo_yesT (wo_x (v := (.bool true)) (w_bin (fun K => (str_leq (txt ks i) (txt ks (i - 1)) K).trans (congrArg (fun z => K (.bool z)) c29))) (wo_yesF (wo_x (v := (.bool true)) (w_pickT rfl rfl) (wo_x (v := (.bool true)) (w_pickF rfl rfl) (wo_nil ?_)))))
          refine thn_n (wp_condT (wp_seq (wp_reg (wo_mv (.bool false) (wo_nil ?_)))))
          refine thn_n (wp_ret (blk_r (thn_r (lpq_r (blk_r ?_)))))
          refine thn_r ?_
          have s30 := s17.drop 0
          exact fin_1 (.bool false) ⟨congrArg AV.bool (dB_false (fun hf => absurd (hf.1 i (by omega)).2 (fun h => by have h1 := h (by omega); rw [sle_not.2 h1] at c29; cases c29))).symm, s30⟩
        · refine wo_yesT (wo_x (v := (.bool false)) (w_bin (fun K => (str_leq (txt ks i) (txt ks (i - 1)) K).trans (congrArg (fun z => K (.bool z)) (Bool.eq_false_iff.2 c29)))) (wo_yesF (wo_x (v := (.bool false)) (w_pickT rfl rfl) (wo_x (v := (.bool false)) (w_pickF rfl rfl) (wo_nil ?_)))))
          refine thn_n (wp_condF (wp_skip (blk_n (thn_n (wp_reg ?_)))))
          refine wo_x (v := (.int .i64 (.ofNat (i + 1)))) (w_bin (add_i64 i 1 (by omega) _ _)) (wo_mv (.int .i64 (.ofNat (i + 1))) (wo_nil ?_))
          refine lpq_n (ks.length - (i + 1)) (by omega) ⟨(i + 1), [(lget ys5 0), (.int .i64 (.ofNat i)), (.str (txt ks i)), (.bool true), (.int .i64 (.ofNat i)), (.ptr b8 o9), (.str (txt ks i)), (.str (txt ks i)), (.bool (dB (KeyOk (txt ks i)))), (.bool false), (.bool false), (.int .i64 (.ofNat i)), (.bool true), (.bool true), (.str (txt ks i)), (.ptr b1 1), vk, (.int .i64 (.ofNat i)), (.int .i64 (.ofNat (i - 1))), (.ptr b21 o22), (.str (txt ks (i - 1))), (.bool false), (.bool false), (.bool false), (.int .i64 (.ofNat (i + 1)))], rfl, rfl, rfl, s17, (by omega), (fun j hj => by by_cases e : j = i; (subst e; exact ⟨dB_iff.1 c19, fun _ => sle_not.1 (Bool.eq_false_iff.2 c29)⟩); exact hks j (by omega))⟩
      · refine wo_yesF (wo_x (v := (.bool false)) (w_bin (cmp_gtrF i 0 (by omega))) (wo_yesF (wo_mv (.bool false) (wo_noF (wo_noF ?_)))))
        refine wo_noF (wo_noF (wo_noF (wo_noF (wo_noF (wo_noF ?_)))))
        refine wo_yesF (wo_x (v := (.bool false)) (w_pickF rfl rfl) (wo_x (v := (.bool false)) (w_pickF rfl rfl) (wo_nil (thn_n (wp_condF ?_)))))
        refine wp_skip (blk_n (thn_n (wp_reg (wo_x (v := (.int .i64 (.ofNat (i + 1)))) (w_bin (add_i64 i 1 (by omega) _ _)) (wo_mv (.int .i64 (.ofNat (i + 1))) ?_)))))
        refine wo_nil ?_
        refine lpq_n (ks.length - (i + 1)) (by omega) ⟨(i + 1), [(lget ys5 0), (.int .i64 (.ofNat i)), (.str (txt ks i)), (.bool true), (.int .i64 (.ofNat i)), (.ptr b8 o9), (.str (txt ks i)), (.str (txt ks i)), (.bool (dB (KeyOk (txt ks i)))), (.bool false), (.bool false), (.int .i64 (.ofNat i)), (.bool false), (.bool false), u_, u_, u_, u_, u_, u_, u_, u_, (.bool false), (.bool false), (.int .i64 (.ofNat (i + 1)))], rfl, rfl, rfl, s17, (by omega), (fun j hj => by by_cases e : j = i; (subst e; exact ⟨dB_iff.1 c19, fun h => absurd h c20⟩); exact hks j (by omega))⟩
    · refine wo_x (v := (.bool true)) (w_notF (congrArg AV.bool (Bool.eq_false_iff.2 c19))) (wo_mv (.bool true) (wo_noT (wo_noT (wo_noT (wo_noU ?_)))))
      refine wo_noU (wo_noU (wo_noU (wo_noU (wo_noU (wo_noU ?_)))))
      refine wo_noU (wo_noT (wo_x (v := (.bool true)) (w_pickT rfl rfl) (wo_nil (thn_n (wp_condT ?_)))))
      refine wp_seq (wp_reg (wo_mv (.bool false) (wo_nil (thn_n (wp_ret ?_)))))
      refine blk_r (thn_r (lpq_r (blk_r (thn_r ?_))))
      have s31 := s17.drop 0
      exact fin_1 (.bool false) ⟨congrArg AV.bool (dB_false (fun hf => (dB_not.1 (Bool.eq_false_iff.2 c19)) (hf.1 i (by omega)).1)).symm, s31⟩
  · refine wo_x (v := (.bool false)) (w_bin (cmp_lssF i ks.length (by omega))) (wo_nil (thn_n (wp_seq (wp_condF (wp_exit ?_)))))
    refine thn_e (lpq_e (blk_h (thn_n (wp_seq (wp_seq ?_)))))
    refine wp_reg (wo_x (v := (.ptr b1 0)) (ca_fla rfl rfl) (wo_x (v := (.bool lf)) (s_ld1 s6 0 rfl) (wo_nil (thn_n ?_))))
    by_cases c32 : lf = true
    · refine wp_condT (hc := (congrArg AV.bool c32)) (wp_seq (wp_reg (wo_x (v := (.ptr b1 3)) (ca_fla rfl rfl) (wo_x (v := vp) (s_ld1 s6 0 rfl) (wo_x (v := (.int .i64 (.ofNat ps.length))) (fl_len hp (ptrs_len ps) rfl) ?_)))))
      by_cases c33 : ps.length = 0
      · refine wo_x (v := (.bool true)) (w_bin (cmp_eqlT ps.length 0 (by omega))) (wo_mv (.bool true) (wo_yesT (wo_x (v := (.ptr b1 2)) (ca_fla rfl rfl) (wo_yesT (wo_x (v := vv) (s_ld1 s6 0 rfl) ?_)))))
        refine wo_yesT (wo_x (v := (.int .i64 (.ofNat vs.length))) (fl_len hv (strs_len vs) rfl) (wo_yesT (wo_x (v := (.ptr b1 1)) (ca_fla rfl rfl) (wo_yesT (wo_x (v := vk) (s_ld1 s6 0 rfl) ?_)))))
        refine wo_yesT (wo_x (v := (.int .i64 (.ofNat ks.length))) (fl_len hk (strs_len ks) rfl) ?_)
        by_cases c34 : vs.length = ks.length
        · refine wo_yesT (wo_x (v := (.bool true)) (w_bin (cmp_eqlT vs.length ks.length (by omega))) (wo_x (v := (.bool true)) (w_pickT rfl rfl) (wo_mv (.bool true) (wo_yesT (wo_x (v := (.ptr b1 2)) (ca_fla rfl rfl) ?_)))))
          refine wo_yesT (wo_x (v := vv) (s_ld1 s6 0 rfl) (wo_yesT ?_))
          obtain ⟨_, H35, ⟨rfl, s36⟩, k37⟩ := conS_ok (N := N) (d := d + 6) T (p := fun i => decide (200 < (txt vs i).length)) (by omega) s6 hv hNv hvl (fun i hi x hx H hs => by subst hx; exact form1_ok T (by omega) hs)
          refine wo_call k37 ?_
          by_cases c38 : (dB (∃ i, i < vs.length ∧ decide (200 < (txt vs i).length) = true)) = true
          · refine wo_yesT (wo_x (v := (.bool false)) (w_notT (congrArg AV.bool c38)) (wo_x (v := (.bool false)) (w_pickT rfl rfl) (wo_mv (.bool false) (wo_nil (thn_n ?_)))))
            refine wp_ret (thn_r ?_)
            have s39 := s36.drop 0
            exact fin_1 (.bool false) ⟨congrArg AV.bool (dB_false (fun hf => by obtain ⟨j, hj, h2⟩ := dB_iff.1 c38; have h3 := (hf.2.1 c32).2.2 j hj; have h4 := of_decide_eq_true h2; omega)).symm, s39⟩
          · refine wo_yesT (wo_x (v := (.bool true)) (w_notF (congrArg AV.bool (Bool.eq_false_iff.2 c38))) (wo_x (v := (.bool true)) (w_pickT rfl rfl) (wo_mv (.bool true) (wo_nil (thn_n ?_)))))
            refine wp_ret (thn_r ?_)
            have s40 := s36.drop 0
            exact fin_1 (.bool true) ⟨congrArg AV.bool (dB_true ⟨fun j hj => hks j (by omega), fun _ => ⟨by omega, by omega, fun j hj => by have h := dB_not.1 (Bool.eq_false_iff.2 c38); apply Nat.le_of_not_lt; intro h2; exact h ⟨j, hj, decide_eq_true h2⟩⟩, fun h => by rw [c32] at h; cases h⟩).symm, s40⟩
        · refine wo_yesT (wo_x (v := (.bool false)) (w_bin (cmp_eqlF vs.length ks.length (by omega))) (wo_x (v := (.bool false)) (w_pickT rfl rfl) (wo_mv (.bool false) (wo_noF (wo_noF ?_)))))
          refine wo_noF (wo_noF (wo_x (v := (.bool false)) (w_pickF rfl rfl) (wo_mv (.bool false) (wo_nil (thn_n ?_)))))
          refine wp_ret (thn_r ?_)
          have s41 := s6.drop 0
          exact fin_1 (.bool false) ⟨congrArg AV.bool (dB_false (fun hf => by have h3 := hf.2.1 c32; omega)).symm, s41⟩
      · refine wo_x (v := (.bool false)) (w_bin (cmp_eqlF ps.length 0 (by omega))) (wo_mv (.bool false) (wo_noF (wo_noF (wo_noF (wo_noF ?_)))))
        refine wo_noF (wo_noF (wo_noF (wo_x (v := (.bool false)) (w_pickF rfl rfl) (wo_mv (.bool false) (wo_noF ?_)))))
        refine wo_noF (wo_noF (wo_noF (wo_x (v := (.bool false)) (w_pickF rfl rfl) (wo_mv (.bool false) (wo_nil ?_)))))
        refine thn_n (wp_ret (thn_r ?_))
        have s42 := s6.drop 0
        exact fin_1 (.bool false) ⟨congrArg AV.bool (dB_false (fun hf => by have h3 := hf.2.1 c32; omega)).symm, s42⟩
    · refine wp_condF (hc := (congrArg AV.bool (Bool.eq_false_iff.2 c32))) (wp_skip (thn_n (wp_seq (wp_reg (wo_mv (.fn (.fn (.func NdN.form2)) [] []) ?_)))))
      refine wo_nil (thn_n (wp_seq (wp_reg (wo_x (v := (.ptr b1 1)) (ca_fla rfl rfl) (wo_x (v := vk) (s_ld1 s6 0 rfl) ?_)))))
      refine wo_x (v := (.int .i64 (.ofNat ks.length))) (fl_len hk (strs_len ks) rfl) ?_
      by_cases c43 : 0 < ks.length
      · refine wo_x (v := (.bool true)) (w_bin (cmp_gtrT ks.length 0 (by omega))) (wo_mv (.bool true) (wo_yesT (wo_x (v := (.ptr b1 3)) (ca_fla rfl rfl) (wo_yesT (wo_x (v := vp) (s_ld1 s6 0 rfl) ?_)))))
        refine wo_yesT (wo_x (v := (.int .i64 (.ofNat ps.length))) (fl_len hp (ptrs_len ps) rfl) (wo_yesT (wo_x (v := (.ptr b1 1)) (ca_fla rfl rfl) (wo_yesT (wo_x (v := vk) (s_ld1 s6 0 rfl) ?_)))))
        refine wo_yesT (wo_x (v := (.int .i64 (.ofNat ks.length))) (fl_len hk (strs_len ks) rfl) (wo_yesT (wo_x (v := (.int .i64 (.ofNat (ks.length + 1)))) (w_bin (add_i64 ks.length 1 (by omega) _ _)) ?_)))
        by_cases c44 : ps.length = ks.length + 1
        · refine wo_yesT (wo_x (v := (.bool true)) (w_bin (cmp_eqlT ps.length (ks.length + 1) (by omega))) (wo_x (v := (.bool true)) (w_pickT rfl rfl) (wo_mv (.bool true) (wo_yesT (wo_x (v := (.ptr b1 2)) (ca_fla rfl rfl) ?_)))))
          refine wo_yesT (wo_x (v := vv) (s_ld1 s6 0 rfl) (wo_yesT (wo_x (v := (.int .i64 (.ofNat vs.length))) (fl_len hv (strs_len vs) rfl) ?_)))
          by_cases c45 : vs.length = 0
          · refine wo_yesT (wo_x (v := (.bool true)) (w_bin (cmp_eqlT vs.length 0 (by omega))) (wo_x (v := (.bool true)) (w_pickT rfl rfl) (wo_mv (.bool true) (wo_yesT (wo_x (v := (.ptr b1 3)) (ca_fla rfl rfl) ?_)))))
            refine wo_yesT (wo_x (v := vp) (s_ld1 s6 0 rfl) (wo_yesT (wo_mv (.fn (.fn (.func NdN.form2)) [] []) (wo_yesT ?_))))
            obtain ⟨_, H46, ⟨rfl, s47⟩, k48⟩ := conP_ok (N := N) (d := d + 6) T (p := fun i => dB (¬ KidOk (ptAt ps i))) (by omega) s6 hp hNp hpl (fun i hi x ⟨r, hx, hr⟩ H hs => by subst hx; exact form2_ok T TB hr (hps _ (ptAt_mem hi)) (by omega) hs)
            refine wo_call k48 ?_
            by_cases c49 : (dB (∃ i, i < ps.length ∧ dB (¬ KidOk (ptAt ps i)) = true)) = true
            · refine wo_yesT (wo_x (v := (.bool false)) (w_notT (congrArg AV.bool c49)) (wo_x (v := (.bool false)) (w_pickT rfl rfl) (wo_mv (.bool false) (wo_nil (thn_n ?_)))))
              refine wp_ret ?_
              have s50 := s47.drop 0
              exact fin_1 (.bool false) ⟨congrArg AV.bool (dB_false (fun hf => by obtain ⟨j, hj, h2⟩ := dB_iff.1 c49; exact (dB_iff.1 h2) ((hf.2.2 (Bool.eq_false_iff.2 c32)).2.2.2 j hj))).symm, s50⟩
            · refine wo_yesT (wo_x (v := (.bool true)) (w_notF (congrArg AV.bool (Bool.eq_false_iff.2 c49))) (wo_x (v := (.bool true)) (w_pickT rfl rfl) (wo_mv (.bool true) (wo_nil (thn_n ?_)))))
              refine wp_ret ?_
              have s51 := s47.drop 0
              exact fin_1 (.bool true) ⟨congrArg AV.bool (dB_true ⟨fun j hj => hks j (by omega), fun h => absurd h c32, fun _ => ⟨by omega, by omega, by omega, fun j hj => by have h := dB_not.1 (Bool.eq_false_iff.2 c49); apply Classical.byContradiction; intro h2; exact h ⟨j, hj, dB_true h2⟩⟩⟩).symm, s51⟩
          · refine wo_yesT (wo_x (v := (.bool false)) (w_bin (cmp_eqlF vs.length 0 (by omega))) (wo_x (v := (.bool false)) (w_pickT rfl rfl) (wo_mv (.bool false) (wo_noF (wo_noF ?_)))))
            refine wo_noF (wo_noF (wo_noF (wo_x (v := (.bool false)) (w_pickF rfl rfl) (wo_mv (.bool false) (wo_nil ?_)))))
            refine thn_n (wp_ret ?_)
            have s52 := s6.drop 0
            exact fin_1 (.bool false) ⟨congrArg AV.bool (dB_false (fun hf => by have h3 := hf.2.2 (Bool.eq_false_iff.2 c32); omega)).symm, s52⟩
        · refine wo_yesT (wo_x (v := (.bool false)) (w_bin (cmp_eqlF ps.length (ks.length + 1) (by omega))) (wo_x (v := (.bool false)) (w_pickT rfl rfl) (wo_mv (.bool false) (wo_noF (wo_noF ?_)))))
          refine wo_noF (wo_noF (wo_x (v := (.bool false)) (w_pickF rfl rfl) (wo_mv (.bool false) (wo_noF (wo_noF ?_)))))
          refine wo_noF (wo_noF (wo_noF (wo_x (v := (.bool false)) (w_pickF rfl rfl) (wo_mv (.bool false) (wo_nil ?_)))))
          refine thn_n (wp_ret ?_)
          have s53 := s6.drop 0
          exact fin_1 (.bool false) ⟨congrArg AV.bool (dB_false (fun hf => by have h3 := hf.2.2 (Bool.eq_false_iff.2 c32); omega)).symm, s53⟩
      · refine wo_x (v := (.bool false)) (w_bin (cmp_gtrF ks.length 0 (by omega))) (wo_mv (.bool false) (wo_noF (wo_noF (wo_noF (wo_noF ?_)))))
        refine wo_noF (wo_noF (wo_noF (wo_noF (wo_x (v := (.bool false)) (w_pickF rfl rfl) (wo_mv (.bool false) ?_)))))
        refine wo_noF (wo_noF (wo_noF (wo_noF (wo_x (v := (.bool false)) (w_pickF rfl rfl) (wo_mv (.bool false) ?_)))))
        refine wo_noF (wo_noF (wo_noF (wo_noF (wo_noF (wo_x (v := (.bool false)) (w_pickF rfl rfl) ?_)))))
        refine wo_mv (.bool false) (wo_nil (thn_n (wp_ret ?_)))
        have s54 := s6.drop 0
        exact fin_1 (.bool false) ⟨congrArg AV.bool (dB_false (fun hf => by have h3 := hf.2.2 (Bool.eq_false_iff.2 c32); omega)).symm, s54⟩
theorem sumL_zero (ks : List (List Nat)) : sumL ks 0 = 0 := by simp [sumL]
theorem size_ok [NdN] [BkN] {tbl : Nat → Option FT} (T : NdT tbl) {lf : Bool} {ks vs : List (List Nat)} {ps : List PtrM} {vk vv vp : AV} {r : Rp AV} {N d : Nat} (hd : 1 ≤ d) {Z : Fz} {F : List Hl} {H : AH} (hs : Sat H Z (F)) (hr : RL r [.bool lf, vk, vv, vp]) (hk : Fl Z 1 vk (strs ks)) (hv : Fl Z 1 vv (strs vs)) (hp : Fl Z 3 vp (ptrs ps)) (hkl : ks.length ≤ 1099511627776) (hvl : vs.length ≤ 1099511627776) (hpl : ps.length ≤ 1099511627776) (hNk : ks.length < N) (hNv : vs.length < N) (hNp : ps.length < N) (hN3 : 3 < N) (hsz : sizeN ks vs ps ≤ 1099511627776) :
    Ct (RUN tbl N d) (.fn (.fn (.func NdN.size)) [] []) [(.agg r)] H fun v H' => v = .int .i64 (.ofNat (sizeN ks vs ps)) ∧ Sat H' Z F := by
  obtain ⟨d, rfl⟩ : ∃ e, d = e + 1 := ⟨d - 1, by omega⟩
  have hsz2 := hsz
  unfold sizeN at hsz2
  refine ct_code T.size (b := b_nsize) (env := [(.agg r), u_, u_, u_, u_, u_, u_, u_, u_, u_, u_, u_, u_, u_, u_, u_, u_, u_, u_, u_, u_, u_, u_, u_, u_, u_, u_, u_, u_, u_, u_, u_, u_, u_, u_, u_, u_]) ?_
  unfold b_nsize
  refine wp_seq (wp_reg ?_)
  obtain ⟨b1, H2, s3, k4⟩ := s_boxn hs hr
  refine wo_x (v := (.ptr b1 0)) (k4 rfl) (wo_mv (.int .i64 0) (wo_nil (thn_n (wp_seq (wp_reg ?_)))))
  refine wo_x (v := (.ptr b1 3)) (ca_fla rfl rfl) (wo_x (v := vp) (s_ld1 s3 0 rfl) (wo_x (v := (.int .i64 (.ofNat ps.length))) (fl_len hp (ptrs_len ps) rfl) (wo_x (v := (.int .i64 (.ofNat (16 * ps.length)))) (w_bin (mul_nat 16 ps.length (by omega))) (wo_x (v := (.int .i64 (.ofNat (2 + (16 * ps.length))))) (w_bin (add_i64 2 (16 * ps.length) (by omega) _ _)) (wo_mv (.int .i64 (.ofNat (2 + (16 * ps.length)))) ?_)))))
  refine wo_nil (thn_n (wp_seq (wp_seq (wp_reg (wo_x (v := (.ptr b1 1)) (ca_fla rfl rfl) ?_)))))
  refine wo_x (v := vk) (s_ld1 s3 0 rfl) (wo_x (v := (.ptr b1 2)) (ca_fla rfl rfl) (wo_x (v := vv) (s_ld1 s3 0 rfl) ?_))
  obtain ⟨b5, H6, s7, k8⟩ := s_bsl s3 (((RL.rep 2 .nils).set 0 vk).set 1 vv)
  refine wo_x (v := (.slc b5 0 2 2)) (k8 (fill_s (v := vk) rfl (fl_sc hk) rfl (fill_s (v := vv) rfl (fl_sc hv) rfl fill_nil))) (wo_x (v := (.int .i64 2)) (w_lit (fun K => rfl)) (wo_mv (.int .i64 0) (wo_nil (thn_n (wp_block ?_)))))
  refine wl_start (wl_step (by omega) (wp_seq (wp_reg (wo_x (v := (.bool true)) (w_lit (fun K => rfl)) (wo_nil ?_)))))
  refine thn_n (wp_seq (wp_condT (wp_skip (thn_n (wp_seq ?_)))))
  refine wp_block (wp_seq (wp_reg (wo_x (v := (.ptr b5 0)) (w_ixs (o := 0) (n := 0) (r := 0) rfl rfl (by omega) (by omega)) (wo_x (v := vk) (s_ld1 s7 0 rfl) (wo_mv vk ?_)))))
  refine wo_nil (thn_n (wp_seq (wp_reg (wo_mv vk (wo_x (v := (.int .i64 (.ofNat ks.length))) (fl_len hk (strs_len ks) rfl) ?_)))))
  refine wo_mv (.int .i64 0) (wo_nil (thn_n (wp_block ?_)))
  refine wp_loop (fun ms_ env ds H => ∃ (i : Nat) (z : Nat), ∃ ys9 : List AV, ms_ = ks.length - i ∧ env = [(.agg r), (.ptr b1 0), (.int .i64 0), (.int .i64 (.ofNat z)), u_, vk, u_, (lget ys9 0), (.ptr b1 3), vp, (.int .i64 (.ofNat ps.length)), (.int .i64 (.ofNat (16 * ps.length))), (.int .i64 (.ofNat (2 + (16 * ps.length)))), (.ptr b1 1), vk, (.ptr b1 2), vv, (.slc b5 0 2 2), (.int .i64 2), (.int .i64 0), (.bool true), (.ptr b5 0), vk, vk, (.int .i64 (.ofNat ks.length)), (.int .i64 (.ofNat i)), (lget ys9 1), (lget ys9 2), (lget ys9 3), (lget ys9 4), (lget ys9 5), (lget ys9 6), (lget ys9 7), (lget ys9 8), (lget ys9 9), u_, u_] ∧ ds = [] ∧ Sat H Z ((.cells b5 [vk, vv]) :: (.cells b1 [(.bool lf), vk, vv, vp]) :: F) ∧ (i ≤ ks.length) ∧ (z = (2 + 16 * ps.length) + sumL ks i)) (ks.length - 0) (by omega) ⟨0, (2 + (16 * ps.length)), [u_, u_, u_, u_, u_, u_, u_, u_, u_, u_], rfl, rfl, rfl, s7, (by omega), (by rw [sumL_zero]; omega)⟩ ?_
  rintro ms_ env ds H hms_ ⟨i, z, ys9, rfl, rfl, rfl, s10, hi, hz⟩
  have hb := sumL_le hi
  refine wp_seq (wp_reg ?_)
  by_cases c11 : i < ks.length
  · have q12 := sumL_le (ks := ks) (show i + 1 ≤ ks.length by omega)
    rw [sumL_succ (show i < ks.length by omega)] at q12
    refine wo_x (v := (.bool true)) (w_bin (cmp_lssT i ks.length (by omega))) (wo_nil (thn_n (wp_seq (wp_condT (wp_skip ?_)))))
    refine thn_n (wp_seq (wp_block (wp_seq (wp_reg ?_))))
    obtain ⟨b13, o14, L15, z16, g17, e18, n19, k20⟩ := fl_ix hk i (strs_get (show i < ks.length by omega))
    refine wo_x (v := (.ptr b13 o14)) (k20 rfl rfl) (wo_x (v := (.str (txt ks i))) (s_zld1 s10 z16 (g17 0 _ rfl)) (wo_mv (.str (txt ks i)) (wo_nil (thn_n (wp_reg ?_)))))
    refine wo_mv (.int .i64 (.ofNat z)) (wo_mv (.str (txt ks i)) (wo_x (v := (.int .i64 (.ofNat ((txt ks i).length)))) (w_lens (s := (txt ks i)) (n := ((txt ks i).length)) rfl rfl) (wo_x (v := (.int .i64 (.ofNat (1 + ((txt ks i).length))))) (w_bin (add_i64 1 ((txt ks i).length) (by omega) _ _)) (wo_x (v := (.int .i64 (.ofNat (z + (1 + ((txt ks i).length)))))) (w_bin (add_i64 z (1 + ((txt ks i).length)) (by omega) _ _)) (wo_mv (.int .i64 (.ofNat (z + (1 + ((txt ks i).length))))) ?_)))))
    refine wo_nil (blk_n (thn_n (wp_reg (wo_x (v := (.int .i64 (.ofNat (i + 1)))) (w_bin (add_i64 i 1 (by omega) _ _)) (wo_mv (.int .i64 (.ofNat (i + 1))) ?_)))))
    refine wo_nil ?_
    refine lpq_n (ks.length - (i + 1)) (by omega) ⟨(i + 1), (z + (1 + ((txt ks i).length))), [(.str (txt ks i)), (.bool true), (.ptr b13 o14), (.str (txt ks i)), (.int .i64 (.ofNat z)), (.str (txt ks i)), (.int .i64 (.ofNat ((txt ks i).length))), (.int .i64 (.ofNat (1 + ((txt ks i).length)))), (.int .i64 (.ofNat (z + (1 + ((txt ks i).length))))), (.int .i64 (.ofNat (i + 1)))], rfl, rfl, rfl, s10, (by omega), (by rw [sumL_succ (by omega), hz]; omega)⟩
  · have e21 : i = ks.length := by omega
    rw [e21] at hz
    refine wo_x (v := (.bool false)) (w_bin (cmp_lssF i ks.length (by omega))) (wo_nil (thn_n (wp_seq (wp_condF (wp_exit ?_)))))
    refine thn_e (lpq_e (blk_h (blk_n (thn_n (wp_reg ?_)))))
    refine wo_x (v := (.int .i64 1)) (w_lit (fun K => rfl)) (wo_mv (.int .i64 1) (wo_nil (thn_n (wl_step (by omega) (wp_seq ?_)))))
    refine wp_reg (wo_x (v := (.bool true)) (w_lit (fun K => rfl)) (wo_nil (thn_n (wp_seq (wp_condT ?_)))))
    refine wp_skip (thn_n (wp_seq (wp_block (wp_seq (wp_reg ?_)))))
    refine wo_x (v := (.ptr b5 1)) (w_ixs (o := 0) (n := 1) (r := 1) rfl rfl (by omega) (by omega)) (wo_x (v := vv) (s_ld1 s10 0 rfl) (wo_mv vv (wo_nil (thn_n (wp_seq ?_)))))
    refine wp_reg (wo_mv vv (wo_x (v := (.int .i64 (.ofNat vs.length))) (fl_len hv (strs_len vs) rfl) (wo_mv (.int .i64 0) (wo_nil (thn_n ?_)))))
    refine wp_block ?_
    refine wp_loop (fun ms_ env ds H => ∃ (i : Nat) (z : Nat), ∃ ys22 : List AV, ms_ = vs.length - i ∧ env = [(.agg r), (.ptr b1 0), (.int .i64 0), (.int .i64 (.ofNat z)), u_, vv, u_, (lget ys22 0), (.ptr b1 3), vp, (.int .i64 (.ofNat ps.length)), (.int .i64 (.ofNat (16 * ps.length))), (.int .i64 (.ofNat (2 + (16 * ps.length)))), (.ptr b1 1), vk, (.ptr b1 2), vv, (.slc b5 0 2 2), (.int .i64 2), (.int .i64 1), (.bool true), (.ptr b5 1), vv, vv, (.int .i64 (.ofNat vs.length)), (.int .i64 (.ofNat i)), (lget ys22 1), (lget ys22 2), (lget ys22 3), (lget ys22 4), (lget ys22 5), (lget ys22 6), (lget ys22 7), (lget ys22 8), (lget ys22 9), (.int .i64 1), u_] ∧ ds = [] ∧ Sat H Z ((.cells b5 [vk, vv]) :: (.cells b1 [(.bool lf), vk, vv, vp]) :: F) ∧ (i ≤ vs.length) ∧ (z = (2 + 16 * ps.length + sumL ks ks.length) + sumL vs i)) (vs.length - 0) (by omega) ⟨0, z, [(lget ys9 0), (.bool false), (lget ys9 2), (lget ys9 3), (lget ys9 4), (lget ys9 5), (lget ys9 6), (lget ys9 7), (lget ys9 8), (lget ys9 9)], rfl, rfl, rfl, s10, (by omega), (by rw [sumL_zero]; omega)⟩ ?_
    rintro ms_ env ds H hms_ ⟨i, z, ys22, rfl, rfl, rfl, s23, hi, hz⟩
    have hb := sumL_le hi
    refine wp_seq (wp_reg ?_)
    by_cases c24 : i < vs.length
    · have q25 := sumL_le (ks := vs) (show i + 1 ≤ vs.length by omega)
      rw [sumL_succ (show i < vs.length by omega)] at q25
      refine wo_x (v := (.bool true)) (w_bin (cmp_lssT i vs.length (by omega))) (wo_nil (thn_n (wp_seq (wp_condT (wp_skip ?_)))))
      refine thn_n (wp_seq (wp_block (wp_seq (wp_reg ?_))))
      obtain ⟨b26, o27, L28, z29, g30, e31, n32, k33⟩ := fl_ix hv i (strs_get (show i < vs.length by omega))
      refine wo_x (v := (.ptr b26 o27)) (k33 rfl rfl) (wo_x (v := (.str (txt vs i))) (s_zld1 s23 z29 (g30 0 _ rfl)) (wo_mv (.str (txt vs i)) (wo_nil (thn_n (wp_reg ?_)))))
      refine wo_mv (.int .i64 (.ofNat z)) (wo_mv (.str (txt vs i)) (wo_x (v := (.int .i64 (.ofNat ((txt vs i).length)))) (w_lens (s := (txt vs i)) (n := ((txt vs i).length)) rfl rfl) (wo_x (v := (.int .i64 (.ofNat (1 + ((txt vs i).length))))) (w_bin (add_i64 1 ((txt vs i).length) (by omega) _ _)) (wo_x (v := (.int .i64 (.ofNat (z + (1 + ((txt vs i).length)))))) (w_bin (add_i64 z (1 + ((txt vs i).length)) (by omega) _ _)) (wo_mv (.int .i64 (.ofNat (z + (1 + ((txt vs i).length))))) ?_)))))
      refine wo_nil (blk_n (thn_n (wp_reg (wo_x (v := (.int .i64 (.ofNat (i + 1)))) (w_bin (add_i64 i 1 (by omega) _ _)) (wo_mv (.int .i64 (.ofNat (i + 1))) ?_)))))
      refine wo_nil ?_
      refine lpq_n (vs.length - (i + 1)) (by omega) ⟨(i + 1), (z + (1 + ((txt vs i).length))), [(.str (txt vs i)), (.bool true), (.ptr b26 o27), (.str (txt vs i)), (.int .i64 (.ofNat z)), (.str (txt vs i)), (.int .i64 (.ofNat ((txt vs i).length))), (.int .i64 (.ofNat (1 + ((txt vs i).length)))), (.int .i64 (.ofNat (z + (1 + ((txt vs i).length))))), (.int .i64 (.ofNat (i + 1)))], rfl, rfl, rfl, s23, (by omega), (by rw [sumL_succ (by omega), hz]; omega)⟩
    · have e34 : i = vs.length := by omega
      rw [e34] at hz
      refine wo_x (v := (.bool false)) (w_bin (cmp_lssF i vs.length (by omega))) (wo_nil (thn_n (wp_seq (wp_condF (wp_exit ?_)))))
      refine thn_e (lpq_e (blk_h (blk_n (thn_n (wp_reg ?_)))))
      refine wo_x (v := (.int .i64 2)) (w_lit (fun K => rfl)) (wo_mv (.int .i64 2) (wo_nil (thn_n (wl_step (by omega) (wp_seq ?_)))))
      refine wp_reg (wo_x (v := (.bool false)) (w_lit (fun K => rfl)) (wo_nil (thn_n (wp_seq (wp_condF ?_)))))
      refine wp_exit (thn_e (thn_e (blk_h (thn_n (wp_seq ?_)))))
      refine wp_reg (wo_mv (.int .i64 (.ofNat z)) (wo_mv (.int .i64 (.ofNat z)) (wo_nil (thn_n (wp_ret ?_)))))
      have s35 := s23.drop 0
      have s36 := s35.drop 0
      exact fin_1 (.int .i64 (.ofNat z)) ⟨congrArg (fun z => AV.int .i64 (.ofNat z)) (by unfold sizeN; omega), s36⟩
theorem may_ok2 [NdN] [BkN] {tbl : Nat → Option FT} (T : NdT tbl) (TB : BkT tbl) {lf : Bool} {ks vs : List (List Nat)} {ps : List PtrM} {vk vv vp : AV} {r : Rp AV} {N d : Nat} (hd : 8 ≤ d) {Z : Fz} {F : List Hl} {H : AH} (hs : Sat H Z (F)) (hr : RL r [.bool lf, vk, vv, vp]) (hk : Fl Z 1 vk (strs ks)) (hv : Fl Z 1 vv (strs vs)) (hp : Fl Z 3 vp (ptrs ps)) (hkl : ks.length ≤ 1099511627776) (hvl : vs.length ≤ 1099511627776) (hpl : ps.length ≤ 1099511627776) (hNk : ks.length < N) (hNv : vs.length < N) (hNp : ps.length < N) (hN3 : 3 < N) (hsz : sizeN ks vs ps ≤ 1099511627776) (hps : ∀ p ∈ ps, p.s < 18446744073709551616) :
    Ct (RUN tbl N d) (.fn (.fn (.func NdN.may)) [] []) [(.agg r)] H fun v H' => v = .bool (dB (FormN lf ks vs ps ∧ sizeN ks vs ps ≤ 500)) ∧ Sat H' Z F := by
  obtain ⟨d, rfl⟩ : ∃ e, d = e + 8 := ⟨d - 8, by omega⟩
  refine ct_code T.may (b := b_nmay) (env := [(.agg r), u_, u_, u_, u_, u_, u_, u_, u_, u_]) ?_
  unfold b_nmay
  refine wp_seq (wp_reg ?_)
  obtain ⟨b1, H2, s3, k4⟩ := s_boxn hs hr
  refine wo_x (v := (.ptr b1 0)) (k4 rfl) (wo_mv (.bool false) (wo_nil (thn_n (wp_seq (wp_reg ?_)))))
  obtain ⟨r5, q6, k7⟩ := s_ldn s3 0 0 4 
  refine wo_x (v := (.agg r5)) (k7 rfl) ?_
  obtain ⟨_, H8, ⟨rfl, s9⟩, k10⟩ := form_ok (N := N) (d := d + 7) T TB (by omega) s3 q6 hk hv hp hkl hvl hpl hNk hNv hNp hps
  refine wo_call k10 (wo_mv (.bool (dB (FormN lf ks vs ps))) ?_)
  by_cases c11 : (dB (FormN lf ks vs ps)) = true
  · refine wo_yesT (ht := (congrArg AV.bool c11)) ?_
    obtain ⟨r12, q13, k14⟩ := s_ldn s9 0 0 4 
    refine wo_x (v := (.agg r12)) (k14 rfl) (wo_yesT (ht := (congrArg AV.bool c11)) ?_)
    obtain ⟨_, H15, ⟨rfl, s16⟩, k17⟩ := size_ok (N := N) (d := d + 7) T (by omega) s9 q13 hk hv hp hkl hvl hpl hNk hNv hNp hN3 hsz
    refine wo_call k17 ?_
    by_cases c18 : sizeN ks vs ps ≤ 500
    · refine wo_yesT (ht := (congrArg AV.bool c11)) (wo_x (v := (.bool true)) (w_bin (cmp_leqT (sizeN ks vs ps) 500 (by omega))) (wo_x (v := (.bool true)) (w_pickT (congrArg AV.bool c11) rfl) (wo_mv (.bool true) (wo_nil (thn_n ?_)))))
      refine wp_ret ?_
      have s19 := s16.drop 0
      exact fin_1 (.bool true) ⟨congrArg AV.bool (dB_true (by have h := dB_iff.1 c11; exact ⟨h, by omega⟩)).symm, s19⟩
    · refine wo_yesT (ht := (congrArg AV.bool c11)) (wo_x (v := (.bool false)) (w_bin (cmp_leqF (sizeN ks vs ps) 500 (by omega))) (wo_x (v := (.bool false)) (w_pickT (congrArg AV.bool c11) rfl) (wo_mv (.bool false) (wo_nil (thn_n ?_)))))
      refine wp_ret ?_
      have s20 := s16.drop 0
      exact fin_1 (.bool false) ⟨congrArg AV.bool (dB_false (by have h := dB_iff.1 c11; exact fun hq => by omega)).symm, s20⟩
  · refine wo_noF (ht := (congrArg AV.bool (Bool.eq_false_iff.2 c11))) (wo_noF (ht := (congrArg AV.bool (Bool.eq_false_iff.2 c11))) (wo_noF (ht := (congrArg AV.bool (Bool.eq_false_iff.2 c11))) (wo_x (v := (.bool false)) (w_pickF (congrArg AV.bool (Bool.eq_false_iff.2 c11)) rfl) (wo_mv (.bool false) (wo_nil ?_)))))
    refine thn_n (wp_ret ?_)
    have s21 := s9.drop 0
    exact fin_1 (.bool false) ⟨congrArg AV.bool (dB_false (by have h := dB_not.1 (Bool.eq_false_iff.2 c11); exact fun hq => h hq.1)).symm, s21⟩
end
end Go.Jt
