/-
  node.Get, Put, Del. PRINTED by wip/tools/mkpt.py.
-/
import Derived.Test.YtehjgplolaekmaaJtPt
import Derived.Test.YtehjgplolaekmaaJtHw
set_option autoImplicit false
set_option linter.all false
set_option maxRecDepth 10000
set_option maxHeartbeats 8000000
namespace Go.Jt
noncomputable section
variable [Gl]
class PtN where
  idx : Nat
  sch1 : Nat
  sch : Nat
  schS : Nat
  put : Nat
  del : Nat
  get : Nat
  ins : Nat
def b_pidx [PtN] [HvN] [NdN] [BkN] : IR := (.seq (.reg [xo 4 (.mv (.cst (.int .i64 0)))]) (.seq (.seq (.reg [mv 6 t0, xo 7 (.len 1 t6), xo 8 (.mv (.cst (.int .i64 0)))]) (.block 0 (.loop (.seq (.reg [xo 9 (.bin .lss 0 t8 t7)]) (.seq (.cond t9 .skip (.exit 0)) (.seq (.block 1 (.seq (.reg [mv 10 t8, mv 5 t10]) (.seq (.reg [mv 11 t1, mv 12 t0, mv 13 t5, xo 14 (.ixs 1 t12 t13), xo 15 (.ld1 t14), xo 16 (.bin .eql 0 t11 t15)]) (.cond t16 (.seq (.reg [mv 17 t5, mv 4 t17]) .ret) .skip)))) (.reg [xo 18 (.bin .add 0 t8 (.cst (.int .i64 1))), mv 8 t18]))))))) (.seq (.reg [xo 4 (.mv (.cst (.int .i64 (-1))))]) .ret)))
def ir_pidx [PtN] [HvN] [NdN] [BkN] : FnIR := ⟨19, [.tmp 4], b_pidx⟩
def b_psch1 [PtN] [HvN] [NdN] [BkN] : IR := (.seq (.reg [xo 4 (.mv (.cst (.bool false)))]) (.seq (.dreg [.run (xo 5 (.ld1 t1)), .run (mv 6 t0), .run (xo 7 (.ixs 1 t5 t6)), .run (xo 8 (.ld1 t7)), .run (xo 9 (.ld1 t2)), .run (xo 10 (.bin .geq 0 t8 t9)), .run (mv 4 t10)] []) .ret))
def ir_psch1 [PtN] [HvN] [NdN] [BkN] : FnIR := ⟨11, [.tmp 4], b_psch1⟩
def b_psch [PtN] [HvN] [NdN] [BkN] : IR := (.seq (.reg [xo 4 (.mv (.cst (.int .i64 0)))]) (.seq (.reg [mv 8 t0, xo 5 (.mv (.cst (.int .i64 0))), mv 6 t8]) (.seq (.block 0 (.loop (.seq (.seq (.reg [mv 9 t5, mv 10 t6, xo 11 (.bin .lss 0 t9 t10)]) (.cond t11 .skip (.exit 0))) (.block 1 (.seq (.reg [mv 12 t5, mv 13 t6, xo 14 (.bin .add 0 t12 t13), xo 15 (.cvi .u64 t14), xo 16 (.bin .shr 0 t15 (.cst (.int .u64 1))), xo 17 (.cvi .i64 t16), mv 7 t17]) (.seq (.reg [mv 18 t1, mv 19 t7, xo 20 (.call t18 [t19]), xo 21 (.not t20)]) (.cond t21 (.reg [mv 22 t7, xo 23 (.bin .add 0 t22 (.cst (.int .i64 1))), mv 5 t23]) (.reg [mv 24 t7, mv 6 t24])))))))) (.seq (.reg [mv 25 t5, mv 4 t25]) .ret))))
def ir_psch [PtN] [HvN] [NdN] [BkN] : FnIR := ⟨26, [.tmp 4], b_psch⟩
def b_pschS [PtN] [HvN] [NdN] [BkN] : IR := (.seq (.reg [xo 2 (.box t0), xo 3 (.box t1), xo 4 (.mv (.cst (.int .i64 0)))]) (.seq (.reg [xo 5 (.ld1 t2), xo 6 (.len 1 t5), xo 7 (.mkf (.fn (.func PtN.sch1)) [] [t2, t3]), xo 8 (.call (.cst (.fn (.fn (.func PtN.sch)) [] [])) [t6, t7]), mv 4 t8]) .ret))
def ir_pschS [PtN] [HvN] [NdN] [BkN] : FnIR := ⟨9, [.tmp 4], b_pschS⟩
def b_pput [PtN] [HvN] [NdN] [BkN] : IR := (.seq (.reg [xo 3 (.box t0), xo 6 (.alloc (.cat 1 (.one (.bool false)) (.rep 3 .nils))), xo 7 (.mv (.cst (.int .i64 0)))]) (.seq (.seq (.reg [xo 10 (.fla 0 t3), xo 11 (.ld1 t10), xo 12 (.not t11), mv 13 t12, ⟨some 14, .ldn 4 t3, some (13, false)⟩, ⟨some 15, .call (.cst (.fn (.fn (.func NdN.form)) [] [])) [t14], some (13, false)⟩, ⟨some 16, .not t15, some (13, false)⟩, xo 17 (.pick t13 (.cst (.bool true)) t16), mv 18 t17, ⟨some 19, .mv t1, some (18, false)⟩, ⟨some 20, .call (.cst (.fn (.fn (.func NdN.key)) [] [])) [t19], some (18, false)⟩, ⟨some 21, .not t20, some (18, false)⟩, xo 22 (.pick t18 (.cst (.bool true)) t21), mv 23 t22, ⟨some 24, .mv t2, some (23, false)⟩, ⟨some 25, .len 0 t24, some (23, false)⟩, ⟨some 26, .bin .gtr 0 t25 (.cst (.int .i64 200)), some (23, false)⟩, xo 27 (.pick t23 (.cst (.bool true)) t26)]) (.cond t27 (.seq (.reg [xo 28 (.build (.cat 1 (.one (.bool false)) (.rep 3 .nils)) []), ⟨none, .st 4 t6 t28, none⟩, xo 7 (.mv (.cst (.int .i64 1)))]) .ret) .skip)) (.seq (.reg [xo 29 (.fla 1 t3), xo 30 (.ld1 t29), mv 31 t1, xo 32 (.call (.cst (.fn (.fn (.func PtN.schS)) [] [])) [t30, t31]), mv 8 t32]) (.seq (.dreg [.run (xo 33 (.fla 1 t3)), .run (xo 34 (.ld1 t33)), .run (xo 36 (.fla 2 t3)), .run (xo 37 (.ld1 t36)), .run (xo 9 (.alloc (.cat 1 (.one (.bool false)) (.rep 3 .nils))))] [(xo 35 (.call (.cst (.fn (.fn (.func HvN.cloS)) [] [])) [t34]), [.again (xo 37 (.ld1 t36))]), (xo 38 (.call (.cst (.fn (.fn (.func HvN.cloS)) [] [])) [t37]), [.run (xo 39 (.build (.cat 1 (.one (.bool false)) (.rep 3 .nils)) [(0, 1, (.cst (.bool true))), (1, 1, t35), (2, 1, t38)]))]), (⟨none, .st 4 t9 t39, none⟩, [])]) (.seq (.seq (.reg [mv 40 t8, xo 41 (.fla 1 t9), xo 42 (.ld1 t41), xo 43 (.len 1 t42), xo 44 (.bin .lss 0 t40 t43), mv 45 t44, ⟨some 46, .fla 1 t9, some (45, true)⟩, ⟨some 47, .ld1 t46, some (45, true)⟩, ⟨some 48, .mv t8, some (45, true)⟩, ⟨some 49, .ixs 1 t47 t48, some (45, true)⟩, ⟨some 50, .ld1 t49, some (45, true)⟩, ⟨some 51, .mv t1, some (45, true)⟩, ⟨some 52, .bin .eql 0 t50 t51, some (45, true)⟩, xo 53 (.pick t45 t52 (.cst (.bool false)))]) (.cond t53 (.seq (.reg [xo 54 (.fla 2 t9), xo 55 (.ld1 t54), mv 56 t8, mv 57 t2, xo 58 (.ixs 1 t55 t56), ⟨none, .st 1 t58 t57, none⟩]) (.seq (.reg [xo 59 (.ldn 4 t9), ⟨none, .st 4 t6 t59, none⟩, xo 7 (.mv (.cst (.int .i64 0)))]) .ret)) .skip)) (.seq (.reg [xo 60 (.fla 1 t9), xo 61 (.ld1 t60), mv 62 t8, mv 63 t1, xo 64 (.bsl 1 (.rep 1 (.str [])) [(0, 1, t63)]), xo 65 (.call (.cst (.fn (.fn (.func PtN.ins)) [] [])) [t61, t62, t64]), xo 66 (.fla 1 t9), ⟨none, .st 1 t66 t65, none⟩]) (.seq (.reg [xo 67 (.fla 2 t9), xo 68 (.ld1 t67), mv 69 t8, mv 70 t2, xo 71 (.bsl 1 (.rep 1 (.str [])) [(0, 1, t70)]), xo 72 (.call (.cst (.fn (.fn (.func PtN.ins)) [] [])) [t68, t69, t71]), xo 73 (.fla 2 t9), ⟨none, .st 1 t73 t72, none⟩]) (.seq (.reg [xo 74 (.ldn 4 t9), ⟨none, .st 4 t6 t74, none⟩, xo 7 (.mv (.cst (.int .i64 0)))]) .ret))))))))
def ir_pput [PtN] [HvN] [NdN] [BkN] : FnIR := ⟨75, [.cell 6 4 true, .tmp 7], b_pput⟩
def b_pdel [PtN] [HvN] [NdN] [BkN] : IR := (.seq (.reg [xo 2 (.box t0), xo 4 (.alloc (.cat 1 (.one (.bool false)) (.rep 3 .nils))), xo 5 (.mv (.cst (.int .i64 0)))]) (.seq (.seq (.reg [xo 7 (.fla 0 t2), xo 8 (.ld1 t7), xo 9 (.not t8), mv 10 t9, ⟨some 11, .ldn 4 t2, some (10, false)⟩, ⟨some 12, .call (.cst (.fn (.fn (.func NdN.form)) [] [])) [t11], some (10, false)⟩, ⟨some 13, .not t12, some (10, false)⟩, xo 14 (.pick t10 (.cst (.bool true)) t13)]) (.cond t14 (.seq (.reg [xo 15 (.build (.cat 1 (.one (.bool false)) (.rep 3 .nils)) []), ⟨none, .st 4 t4 t15, none⟩, xo 5 (.mv (.cst (.int .i64 1)))]) .ret) .skip)) (.seq (.reg [xo 16 (.fla 1 t2), xo 17 (.ld1 t16), mv 18 t1, xo 19 (.call (.cst (.fn (.fn (.func PtN.idx)) [] [])) [t17, t18]), mv 6 t19]) (.seq (.seq (.reg [mv 20 t6, xo 21 (.bin .lss 0 t20 (.cst (.int .i64 0)))]) (.cond t21 (.seq (.reg [xo 22 (.build (.cat 1 (.one (.bool false)) (.rep 3 .nils)) []), ⟨none, .st 4 t4 t22, none⟩, xo 5 (.mv (.cst (.int .i64 5)))]) .ret) .skip)) (.seq (.dreg [.run (xo 23 (.fla 1 t2)), .run (xo 24 (.ld1 t23)), .run (mv 25 t6), .run (xo 26 (.sll 1 t24 none (some t25) none)), .run (xo 27 (.fla 1 t2)), .run (xo 28 (.ld1 t27)), .run (mv 29 t6), .run (xo 30 (.bin .add 0 t29 (.cst (.int .i64 1)))), .run (xo 31 (.sll 1 t28 (some t30) none none)), .run (xo 32 (.bsl 2 (.rep 2 .nils) [(0, 1, t26), (1, 1, t31)])), .run (xo 34 (.fla 2 t2)), .run (xo 35 (.ld1 t34)), .run (mv 36 t6), .run (xo 37 (.sll 1 t35 none (some t36) none)), .run (xo 38 (.fla 2 t2)), .run (xo 39 (.ld1 t38)), .run (mv 40 t6), .run (xo 41 (.bin .add 0 t40 (.cst (.int .i64 1)))), .run (xo 42 (.sll 1 t39 (some t41) none none)), .run (xo 43 (.bsl 2 (.rep 2 .nils) [(0, 1, t37), (1, 1, t42)]))] [(xo 33 (.call (.cst (.fn (.fn (.func HvN.conS)) [] [])) [t32]), [.again (xo 35 (.ld1 t34)), .again (xo 37 (.sll 1 t35 none (some t36) none)), .again (xo 39 (.ld1 t38)), .again (xo 41 (.bin .add 0 t40 (.cst (.int .i64 1)))), .again (xo 42 (.sll 1 t39 (some t41) none none))]), (xo 44 (.call (.cst (.fn (.fn (.func HvN.conS)) [] [])) [t43]), [.run (xo 45 (.build (.cat 1 (.one (.bool false)) (.rep 3 .nils)) [(0, 1, (.cst (.bool true))), (1, 1, t33), (2, 1, t44)]))]), (⟨none, .st 4 t4 t45, none⟩, [.run (xo 5 (.mv (.cst (.int .i64 0))))])]) .ret)))))
def ir_pdel [PtN] [HvN] [NdN] [BkN] : FnIR := ⟨46, [.cell 4 4 true, .tmp 5], b_pdel⟩
def b_pget [PtN] [HvN] [NdN] [BkN] : IR := (.seq (.reg [xo 2 (.box t0), xo 4 (.mv (.cst (.str []))), xo 5 (.mv (.cst (.bool false)))]) (.seq (.reg [xo 7 (.fla 1 t2), xo 8 (.ld1 t7), mv 9 t1, xo 10 (.call (.cst (.fn (.fn (.func PtN.idx)) [] [])) [t8, t9]), mv 6 t10]) (.seq (.seq (.reg [xo 11 (.fla 0 t2), xo 12 (.ld1 t11), xo 13 (.not t12), mv 14 t13, ⟨some 15, .mv t6, some (14, false)⟩, ⟨some 16, .bin .lss 0 t15 (.cst (.int .i64 0)), some (14, false)⟩, xo 17 (.pick t14 (.cst (.bool true)) t16), mv 18 t17, ⟨some 19, .mv t6, some (18, false)⟩, ⟨some 20, .fla 2 t2, some (18, false)⟩, ⟨some 21, .ld1 t20, some (18, false)⟩, ⟨some 22, .len 1 t21, some (18, false)⟩, ⟨some 23, .bin .geq 0 t19 t22, some (18, false)⟩, xo 24 (.pick t18 (.cst (.bool true)) t23)]) (.cond t24 (.seq (.reg [xo 4 (.mv (.cst (.str []))), xo 5 (.mv (.cst (.bool false)))]) .ret) .skip)) (.seq (.reg [xo 25 (.fla 2 t2), xo 26 (.ld1 t25), mv 27 t6, xo 28 (.ixs 1 t26 t27), xo 29 (.ld1 t28), mv 4 t29, xo 5 (.mv (.cst (.bool true)))]) .ret))))
def ir_pget [PtN] [HvN] [NdN] [BkN] : FnIR := ⟨30, [.tmp 4, .tmp 5], b_pget⟩
structure PtT [PtN] [HvN] [NdN] [BkN] (tbl : Nat → Option FT) : Prop where
  idx : tbl PtN.idx = some (.code ir_pidx)
  sch1 : tbl PtN.sch1 = some (.code ir_psch1)
  sch : tbl PtN.sch = some (.code ir_psch)
  schS : tbl PtN.schS = some (.code ir_pschS)
  put : tbl PtN.put = some (.code ir_pput)
  del : tbl PtN.del = some (.code ir_pdel)
  get : tbl PtN.get = some (.code ir_pget)
theorem idxY_ok [PtN] [HvN] [NdN] [BkN] {tbl : Nat → Option FT} (T : PtT tbl) {ks : List (List Nat)} {vk : AV} {s : List Nat} {i : Nat} {N d : Nat} (hd : 1 ≤ d) {Z : Fz} {F : List Hl} {H : AH} (hs : Sat H Z (F)) (hk : Fl Z 1 vk (strs ks)) (hkl : ks.length ≤ 1099511627776) (hN : ks.length < N) (hi : i < ks.length) (he : txt ks i = s) (hno : ∀ j, j < i → ¬ txt ks j = s) :
    Ct (RUN tbl N d) (.fn (.fn (.func PtN.idx)) [] []) [vk, (.str s)] H fun v H' => v = .int .i64 (.ofNat i) ∧ Sat H' Z F := by
  obtain ⟨d, rfl⟩ : ∃ e, d = e + 1 := ⟨d - 1, by omega⟩
  refine ct_code T.idx (b := b_pidx) (env := [vk, (.str s), u_, u_, u_, u_, u_, u_, u_, u_, u_, u_, u_, u_, u_, u_, u_, u_, u_]) ?_
  unfold b_pidx
  refine wp_seq (wp_reg (wo_mv (.int .i64 0) (wo_nil (thn_n (wp_seq ?_)))))
  refine wp_seq (wp_reg (wo_mv vk (wo_x (v := (.int .i64 (.ofNat ks.length))) (fl_len hk (strs_len ks) rfl) (wo_mv (.int .i64 0) (wo_nil ?_)))))
  refine thn_n (wp_block ?_)
  refine wp_loop (fun ms_ env ds H => ∃ (q : Nat), ∃ ys1 : List AV, ms_ = ks.length - q ∧ env = [vk, (.str s), u_, u_, (lget ys1 0), (lget ys1 1), vk, (.int .i64 (.ofNat ks.length)), (.int .i64 (.ofNat q)), (lget ys1 2), (lget ys1 3), (lget ys1 4), (lget ys1 5), (lget ys1 6), (lget ys1 7), (lget ys1 8), (lget ys1 9), (lget ys1 10), (lget ys1 11)] ∧ ds = [] ∧ Sat H Z (F) ∧ (q ≤ i)) (ks.length - 0) (by omega) ⟨0, [(.int .i64 0), u_, u_, u_, u_, u_, u_, u_, u_, u_, u_, u_], rfl, rfl, rfl, hs, (by omega)⟩ ?_
  rintro ms_ env ds H hms_ ⟨q, ys1, rfl, rfl, rfl, s2, hq⟩
  refine wp_seq (wp_reg (wo_x (v := (.bool true)) (w_bin (cmp_lssT q ks.length (by omega))) (wo_nil (thn_n (wp_seq ?_)))))
  refine wp_condT (wp_skip (thn_n (wp_seq (wp_block (wp_seq ?_)))))
  refine wp_reg (wo_mv (.int .i64 (.ofNat q)) (wo_mv (.int .i64 (.ofNat q)) (wo_nil (thn_n (wp_seq ?_)))))
  refine wp_reg (wo_mv (.str s) (wo_mv vk (wo_mv (.int .i64 (.ofNat q)) ?_)))
  obtain ⟨b3, o4, L5, z6, g7, e8, n9, k10⟩ := fl_ix hk q (strs_get (show q < ks.length by omega))
  refine wo_x (v := (.ptr b3 o4)) (k10 rfl rfl) (wo_x (v := (.str (txt ks q))) (s_zld1 s2 z6 (g7 0 _ rfl)) ?_)
  by_cases c11 : s = txt ks q
  · refine wo_x (v := (.bool true)) (w_bin (str_eqlT c11)) (wo_nil (thn_n (wp_condT (wp_seq (wp_reg ?_)))))
    refine wo_mv (.int .i64 (.ofNat q)) (wo_mv (.int .i64 (.ofNat q)) (wo_nil (thn_n (wp_ret (blk_r ?_)))))
    refine thn_r (lpq_r (blk_r (thn_r ?_)))
    exact fin_1 (.int .i64 (.ofNat q)) ⟨by rw [show q = i from Nat.le_antisymm hq (Nat.le_of_not_lt fun h => hno q h c11.symm)], s2⟩
  · refine wo_x (v := (.bool false)) (w_bin (str_eqlF c11)) (wo_nil (thn_n (wp_condF (wp_skip (blk_n ?_)))))
    refine thn_n (wp_reg (wo_x (v := (.int .i64 (.ofNat (q + 1)))) (w_bin (add_i64 q 1 (by omega) _ _)) (wo_mv (.int .i64 (.ofNat (q + 1))) (wo_nil ?_))))
    refine lpq_n (ks.length - (q + 1)) (by omega) ⟨(q + 1), [(lget ys1 0), (.int .i64 (.ofNat q)), (.bool true), (.int .i64 (.ofNat q)), (.str s), vk, (.int .i64 (.ofNat q)), (.ptr b3 o4), (.str (txt ks q)), (.bool false), (lget ys1 10), (.int .i64 (.ofNat (q + 1)))], rfl, rfl, rfl, s2, (Nat.lt_of_le_of_ne hq (fun e => c11 (by rw [e]; exact he.symm)))⟩
theorem idxN_ok [PtN] [HvN] [NdN] [BkN] {tbl : Nat → Option FT} (T : PtT tbl) {ks : List (List Nat)} {vk : AV} {s : List Nat} {N d : Nat} (hd : 1 ≤ d) {Z : Fz} {F : List Hl} {H : AH} (hs : Sat H Z (F)) (hk : Fl Z 1 vk (strs ks)) (hkl : ks.length ≤ 1099511627776) (hN : ks.length < N) (hno : ∀ j, j < ks.length → ¬ txt ks j = s) :
    Ct (RUN tbl N d) (.fn (.fn (.func PtN.idx)) [] []) [vk, (.str s)] H fun v H' => v = .int .i64 (-1) ∧ Sat H' Z F := by
  obtain ⟨d, rfl⟩ : ∃ e, d = e + 1 := ⟨d - 1, by omega⟩
  refine ct_code T.idx (b := b_pidx) (env := [vk, (.str s), u_, u_, u_, u_, u_, u_, u_, u_, u_, u_, u_, u_, u_, u_, u_, u_, u_]) ?_
  unfold b_pidx
  refine wp_seq (wp_reg (wo_mv (.int .i64 0) (wo_nil (thn_n (wp_seq ?_)))))
  refine wp_seq (wp_reg (wo_mv vk (wo_x (v := (.int .i64 (.ofNat ks.length))) (fl_len hk (strs_len ks) rfl) (wo_mv (.int .i64 0) (wo_nil ?_)))))
  refine thn_n (wp_block ?_)
  refine wp_loop (fun ms_ env ds H => ∃ (q : Nat), ∃ ys1 : List AV, ms_ = ks.length - q ∧ env = [vk, (.str s), u_, u_, (lget ys1 0), (lget ys1 1), vk, (.int .i64 (.ofNat ks.length)), (.int .i64 (.ofNat q)), (lget ys1 2), (lget ys1 3), (lget ys1 4), (lget ys1 5), (lget ys1 6), (lget ys1 7), (lget ys1 8), (lget ys1 9), (lget ys1 10), (lget ys1 11)] ∧ ds = [] ∧ Sat H Z (F) ∧ (q ≤ ks.length)) (ks.length - 0) (by omega) ⟨0, [(.int .i64 0), u_, u_, u_, u_, u_, u_, u_, u_, u_, u_, u_], rfl, rfl, rfl, hs, (by omega)⟩ ?_
  rintro ms_ env ds H hms_ ⟨q, ys1, rfl, rfl, rfl, s2, hq⟩
  refine wp_seq (wp_reg ?_)
  by_cases c3 : q < ks.length
  · refine wo_x (v := (.bool true)) (w_bin (cmp_lssT q ks.length (by omega))) (wo_nil (thn_n (wp_seq (wp_condT (wp_skip ?_)))))
    refine thn_n (wp_seq (wp_block (wp_seq (wp_reg (wo_mv (.int .i64 (.ofNat q)) ?_)))))
    refine wo_mv (.int .i64 (.ofNat q)) (wo_nil (thn_n (wp_seq (wp_reg (wo_mv (.str s) ?_)))))
    refine wo_mv vk (wo_mv (.int .i64 (.ofNat q)) ?_)
    obtain ⟨b4, o5, L6, z7, g8, e9, n10, k11⟩ := fl_ix hk q (strs_get (show q < ks.length by omega))
    refine wo_x (v := (.ptr b4 o5)) (k11 rfl rfl) (wo_x (v := (.str (txt ks q))) (s_zld1 s2 z7 (g8 0 _ rfl)) (wo_x (v := (.bool false)) (w_bin (str_eqlF (fun e => hno q (by omega) e.symm))) (wo_nil (thn_n (wp_condF ?_)))))
    refine wp_skip (blk_n (thn_n (wp_reg (wo_x (v := (.int .i64 (.ofNat (q + 1)))) (w_bin (add_i64 q 1 (by omega) _ _)) (wo_mv (.int .i64 (.ofNat (q + 1))) ?_)))))
    refine wo_nil ?_
    refine lpq_n (ks.length - (q + 1)) (by omega) ⟨(q + 1), [(lget ys1 0), (.int .i64 (.ofNat q)), (.bool true), (.int .i64 (.ofNat q)), (.str s), vk, (.int .i64 (.ofNat q)), (.ptr b4 o5), (.str (txt ks q)), (.bool false), (lget ys1 10), (.int .i64 (.ofNat (q + 1)))], rfl, rfl, rfl, s2, (by omega)⟩
  · refine wo_x (v := (.bool false)) (w_bin (cmp_lssF q ks.length (by omega))) (wo_nil (thn_n (wp_seq (wp_condF (wp_exit ?_)))))
    refine thn_e (lpq_e (blk_h (thn_n (wp_seq (wp_reg ?_)))))
    refine wo_mv (.int .i64 (-1)) (wo_nil (thn_n (wp_ret ?_)))
    exact fin_1 (.int .i64 (-1)) ⟨rfl, s2⟩
theorem sch1_ok [PtN] [HvN] [NdN] [BkN] {tbl : Nat → Option FT} (T : PtT tbl) {ks : List (List Nat)} {vk : AV} {s : List Nat} {ba bx i : Nat} {N d : Nat} (hd : 1 ≤ d) {Z : Fz} {F : List Hl} {H : AH} (hs : Sat H Z ((.cells ba [vk]) :: (.cells bx [(.str s)]) :: F)) (hk : Fl Z 1 vk (strs ks)) (hi : i < ks.length) (hkl : ks.length ≤ 1099511627776) :
    Ct (RUN tbl N d) (.fn (.fn (.func PtN.sch1)) [] [(.ptr ba 0), (.ptr bx 0)]) [(.int .i64 (.ofNat i))] H fun v H' => v = .bool (!slt (txt ks i) s) ∧ Sat H' Z ((.cells ba [vk]) :: (.cells bx [(.str s)]) :: F) := by
  obtain ⟨d, rfl⟩ : ∃ e, d = e + 1 := ⟨d - 1, by omega⟩
  refine ct_code T.sch1 (b := b_psch1) (env := [(.int .i64 (.ofNat i)), (.ptr ba 0), (.ptr bx 0), u_, u_, u_, u_, u_, u_, u_, u_]) ?_
  unfold b_psch1
  refine wp_seq (wp_reg (wo_mv (.bool false) (wo_nil (thn_n (wp_seq ?_)))))
  refine wp_dreg (wd_run (wo_x (v := vk) (s_ld1 hs 0 rfl) (wo_nil (wd_run (wo_mv (.int .i64 (.ofNat i)) ?_)))))
  refine wo_nil (wd_run ?_)
  obtain ⟨b1, o2, L3, z4, g5, e6, n7, k8⟩ := fl_ix hk i (strs_get (show i < ks.length by omega))
  refine wo_x (v := (.ptr b1 o2)) (k8 rfl rfl) (wo_nil (wd_run (wo_x (v := (.str (txt ks i))) (s_zld1 hs z4 (g5 0 _ rfl)) (wo_nil (wd_run ?_)))))
  refine wo_x (v := (.str s)) (s_ld1 hs 1 rfl) (wo_nil (wd_run ?_))
  by_cases c9 : slt (txt ks i) s = true
  · refine wo_x (v := (.bool false)) (w_bin (fun K => (str_geq (txt ks i) s K).trans (congrArg (fun z => K (.bool (!z))) c9))) (wo_nil (wd_run (wo_mv (.bool false) (wo_nil (wd_nil ?_)))))
    refine ws_nil (thn_n (wp_ret ?_))
    exact fin_1 (.bool false) ⟨by rw [c9]; rfl, hs⟩
  · refine wo_x (v := (.bool true)) (w_bin (fun K => (str_geq (txt ks i) s K).trans (congrArg (fun z => K (.bool (!z))) (Bool.eq_false_iff.2 c9)))) (wo_nil (wd_run (wo_mv (.bool true) (wo_nil (wd_nil ?_)))))
    refine ws_nil (thn_n (wp_ret ?_))
    exact fin_1 (.bool true) ⟨by rw [(Bool.eq_false_iff.2 c9)]; rfl, hs⟩
theorem sch_ok [PtN] [HvN] [NdN] [BkN] {tbl : Nat → Option FT} (T : PtT tbl) {n : Nat} {f : AV} {p : Nat → Bool} {N d : Nat} (hd : 2 ≤ d) {Z : Fz} {F : List Hl} {H : AH} (hs : Sat H Z (F)) (hn : n ≤ 1099511627776) (hN : n < N) (hf : ∀ i, i < n → ∀ H, Sat H Z F → Ct (RUN tbl N (d - 1)) f [.int .i64 (.ofNat i)] H fun v H' => v = .bool (p i) ∧ Sat H' Z F) (hmono : ∀ i j, i ≤ j → j < n → p i = true → p j = true) :
    Ct (RUN tbl N d) (.fn (.fn (.func PtN.sch)) [] []) [(.int .i64 (.ofNat n)), f] H fun v H' => ∃ i : Nat, v = .int .i64 (.ofNat i) ∧ i ≤ n ∧ (∀ j, j < i → p j = false) ∧ (∀ j, i ≤ j → j < n → p j = true) ∧ Sat H' Z F := by
  obtain ⟨d, rfl⟩ : ∃ e, d = e + 1 := ⟨d - 1, by omega⟩
  refine ct_code T.sch (b := b_psch) (env := [(.int .i64 (.ofNat n)), f, u_, u_, u_, u_, u_, u_, u_, u_, u_, u_, u_, u_, u_, u_, u_, u_, u_, u_, u_, u_, u_, u_, u_, u_]) ?_
  unfold b_psch
  refine wp_seq (wp_reg (wo_mv (.int .i64 0) (wo_nil (thn_n (wp_seq ?_)))))
  refine wp_reg (wo_mv (.int .i64 (.ofNat n)) (wo_mv (.int .i64 0) (wo_mv (.int .i64 (.ofNat n)) (wo_nil (thn_n ?_)))))
  refine wp_seq (wp_block ?_)
  refine wp_loop (fun ms_ env ds H => ∃ (lo : Nat) (up : Nat), ∃ ys1 : List AV, ms_ = up - lo ∧ env = [(.int .i64 (.ofNat n)), f, u_, u_, (.int .i64 0), (.int .i64 (.ofNat lo)), (.int .i64 (.ofNat up)), (lget ys1 0), (.int .i64 (.ofNat n)), (lget ys1 1), (lget ys1 2), (lget ys1 3), (lget ys1 4), (lget ys1 5), (lget ys1 6), (lget ys1 7), (lget ys1 8), (lget ys1 9), (lget ys1 10), (lget ys1 11), (lget ys1 12), (lget ys1 13), (lget ys1 14), (lget ys1 15), (lget ys1 16), u_] ∧ ds = [] ∧ Sat H Z (F) ∧ (lo ≤ up) ∧ (up ≤ n) ∧ (∀ j, j < lo → p j = false) ∧ (∀ j, up ≤ j → j < n → p j = true)) (n - 0) (by omega) ⟨0, n, [u_, u_, u_, u_, u_, u_, u_, u_, u_, u_, u_, u_, u_, u_, u_, u_, u_], rfl, rfl, rfl, hs, (by omega), (by omega), (fun j hj => by omega), (fun j h1 h2 => by omega)⟩ ?_
  rintro ms_ env ds H hms_ ⟨lo, up, ys1, rfl, rfl, rfl, s2, hlo, hup, hA, hB⟩
  refine wp_seq (wp_seq (wp_reg (wo_mv (.int .i64 (.ofNat lo)) (wo_mv (.int .i64 (.ofNat up)) ?_))))
  by_cases c3 : lo < up
  · refine wo_x (v := (.bool true)) (w_bin (cmp_lssT lo up (by omega))) (wo_nil (thn_n (wp_condT (wp_skip (thn_n ?_)))))
    refine wp_block (wp_seq (wp_reg (wo_mv (.int .i64 (.ofNat lo)) (wo_mv (.int .i64 (.ofNat up)) (wo_x (v := (.int .i64 (.ofNat (lo + up)))) (w_bin (add_i64 lo up (by omega) _ _)) ?_)))))
    refine wo_x (v := (.int .u64 (.ofNat (lo + up)))) (w_cvi (r := (lo + up)) rfl (congrArg Int.ofNat (Nat.mod_eq_of_lt (by omega)))) (wo_x (v := (.int .u64 (.ofNat ((lo + up) / 2)))) (w_bin (shr_u (a := (lo + up)) (b := 1) (p := 2) rfl)) (wo_x (v := (.int .i64 (.ofNat ((lo + up) / 2)))) (w_cvi (r := ((lo + up) / 2)) rfl (wrap_i64 _ (by omega))) (wo_mv (.int .i64 (.ofNat ((lo + up) / 2))) (wo_nil (thn_n ?_)))))
    refine wp_seq (wp_reg (wo_mv f (wo_mv (.int .i64 (.ofNat ((lo + up) / 2))) ?_)))
    obtain ⟨_, H4, ⟨rfl, s5⟩, k6⟩ := hf ((lo + up) / 2) (by omega) _ s2
    refine wo_call k6 ?_
    by_cases c7 : (p ((lo + up) / 2)) = true
    · refine wo_x (v := (.bool false)) (w_notT (congrArg AV.bool c7)) (wo_nil (thn_n (wp_condF (wp_reg (wo_mv (.int .i64 (.ofNat ((lo + up) / 2))) ?_)))))
      refine wo_mv (.int .i64 (.ofNat ((lo + up) / 2))) (wo_nil (blk_n ?_))
      refine lpq_n (((lo + up) / 2) - lo) (by omega) ⟨lo, ((lo + up) / 2), [(.int .i64 (.ofNat ((lo + up) / 2))), (.int .i64 (.ofNat lo)), (.int .i64 (.ofNat up)), (.bool true), (.int .i64 (.ofNat lo)), (.int .i64 (.ofNat up)), (.int .i64 (.ofNat (lo + up))), (.int .u64 (.ofNat (lo + up))), (.int .u64 (.ofNat ((lo + up) / 2))), (.int .i64 (.ofNat ((lo + up) / 2))), f, (.int .i64 (.ofNat ((lo + up) / 2))), (.bool (p ((lo + up) / 2))), (.bool false), (lget ys1 14), (lget ys1 15), (.int .i64 (.ofNat ((lo + up) / 2)))], rfl, rfl, rfl, s5, (by omega), (by omega), hA, (fun j h1 h2 => hmono _ j h1 h2 c7)⟩
    · refine wo_x (v := (.bool true)) (w_notF (congrArg AV.bool (Bool.eq_false_iff.2 c7))) (wo_nil (thn_n (wp_condT (wp_reg (wo_mv (.int .i64 (.ofNat ((lo + up) / 2))) ?_)))))
      refine wo_x (v := (.int .i64 (.ofNat (((lo + up) / 2) + 1)))) (w_bin (add_i64 ((lo + up) / 2) 1 (by omega) _ _)) (wo_mv (.int .i64 (.ofNat (((lo + up) / 2) + 1))) (wo_nil (blk_n ?_)))
      refine lpq_n (up - ((lo + up) / 2 + 1)) (by omega) ⟨((lo + up) / 2 + 1), up, [(.int .i64 (.ofNat ((lo + up) / 2))), (.int .i64 (.ofNat lo)), (.int .i64 (.ofNat up)), (.bool true), (.int .i64 (.ofNat lo)), (.int .i64 (.ofNat up)), (.int .i64 (.ofNat (lo + up))), (.int .u64 (.ofNat (lo + up))), (.int .u64 (.ofNat ((lo + up) / 2))), (.int .i64 (.ofNat ((lo + up) / 2))), f, (.int .i64 (.ofNat ((lo + up) / 2))), (.bool (p ((lo + up) / 2))), (.bool true), (.int .i64 (.ofNat ((lo + up) / 2))), (.int .i64 (.ofNat (((lo + up) / 2) + 1))), (lget ys1 16)], rfl, rfl, rfl, s5, (by omega), (by omega), (fun j hj => Bool.eq_false_iff.2 fun h => c7 (hmono j _ (by omega) (by omega) h)), hB⟩
  · refine wo_x (v := (.bool false)) (w_bin (cmp_lssF lo up (by omega))) (wo_nil (thn_n (wp_condF (wp_exit (thn_e ?_)))))
    refine lpq_e (blk_h (thn_n (wp_seq (wp_reg (wo_mv (.int .i64 (.ofNat lo)) ?_)))))
    refine wo_mv (.int .i64 (.ofNat lo)) (wo_nil (thn_n (wp_ret ?_)))
    exact fin_1 (.int .i64 (.ofNat lo)) ⟨lo, rfl, by omega, hA, fun j h1 h2 => hB j (by omega) h2, s2⟩
theorem schS_ok [PtN] [HvN] [NdN] [BkN] {tbl : Nat → Option FT} (T : PtT tbl) {ks : List (List Nat)} {vk : AV} {s : List Nat} {N d : Nat} (hd : 3 ≤ d) {Z : Fz} {F : List Hl} {H : AH} (hs : Sat H Z (F)) (hk : Fl Z 1 vk (strs ks)) (hkl : ks.length ≤ 1099511627776) (hN : ks.length < N) (hko : KeysOk ks) :
    Ct (RUN tbl N d) (.fn (.fn (.func PtN.schS)) [] []) [vk, (.str s)] H fun v H' => ∃ i : Nat, v = .int .i64 (.ofNat i) ∧ i ≤ ks.length ∧ (∀ j, j < i → slt (txt ks j) s = true) ∧ (∀ j, i ≤ j → j < ks.length → slt (txt ks j) s = false) ∧ Sat H' Z F := by
  obtain ⟨d, rfl⟩ : ∃ e, d = e + 3 := ⟨d - 3, by omega⟩
  refine ct_code T.schS (b := b_pschS) (env := [vk, (.str s), u_, u_, u_, u_, u_, u_, u_]) ?_
  unfold b_pschS
  refine wp_seq (wp_reg ?_)
  obtain ⟨b1, H2, s3, k4⟩ := s_box hs vk (hv := (fl_sc hk))
  refine wo_x (v := (.ptr b1 0)) (k4 rfl) ?_
  obtain ⟨b5, H6, s7, k8⟩ := s_box s3 (.str s)
  refine wo_x (v := (.ptr b5 0)) (k8 rfl) (wo_mv (.int .i64 0) (wo_nil (thn_n (wp_seq (wp_reg ?_)))))
  refine wo_x (v := vk) (s_ld1 s7 1 rfl) (wo_x (v := (.int .i64 (.ofNat ks.length))) (fl_len hk (strs_len ks) rfl) (wo_x (v := (.fn (.fn (.func PtN.sch1)) [] [(.ptr b1 0), (.ptr b5 0)])) (w_lit (fun K => rfl)) ?_))
  have s9 := s7.pull 1
  obtain ⟨_, H14, ⟨i10, rfl, h11, h12, h13, s15⟩, k16⟩ := sch_ok T (N := N) (d := d + 2) (p := fun i => !slt (txt ks i) s) (by omega) s9 (by omega) (by omega) (fun i hi H hs => sch1_ok T (by omega) hs hk hi hkl) (fun i j hij hj h => srch_mono hko i j hij hj h)
  refine wo_call k16 (wo_mv (.int .i64 (.ofNat i10)) (wo_nil (thn_n (wp_ret ?_))))
  have s17 := s15.drop 0
  have s18 := s17.drop 0
  exact fin_1 (.int .i64 (.ofNat i10)) ⟨i10, rfl, h11, fun j hj => by simpa using h12 j hj, fun j a b => by simpa using h13 j a b, s18⟩
theorem getY_ok [PtN] [HvN] [NdN] [BkN] {tbl : Nat → Option FT} (T : PtT tbl) {ks vs : List (List Nat)} {ps : List PtrM} {vk vv vp : AV} {r : Rp AV} {s : List Nat} {i : Nat} {N d : Nat} (hd : 2 ≤ d) {Z : Fz} {F : List Hl} {H : AH} (hs : Sat H Z (F)) (hr : RL r [.bool true, vk, vv, vp]) (hk : Fl Z 1 vk (strs ks)) (hv : Fl Z 1 vv (strs vs)) (hp : Fl Z 3 vp (ptrs ps)) (hkl : ks.length ≤ 1099511627776) (hvl : vs.length ≤ 1099511627776) (hpl : ps.length ≤ 1099511627776) (hNk : ks.length < N) (hi : i < ks.length) (he : txt ks i = s) (hno : ∀ j, j < i → ¬ txt ks j = s) (hvk : vs.length = ks.length) :
    Ct (RUN tbl N d) (.fn (.fn (.func PtN.get)) [] []) [(.agg r), (.str s)] H fun v H' => v = .tup [.str (txt vs i), .bool true] ∧ Sat H' Z F := by
  obtain ⟨d, rfl⟩ : ∃ e, d = e + 2 := ⟨d - 2, by omega⟩
  refine ct_code T.get (b := b_pget) (env := [(.agg r), (.str s), u_, u_, u_, u_, u_, u_, u_, u_, u_, u_, u_, u_, u_, u_, u_, u_, u_, u_, u_, u_, u_, u_, u_, u_, u_, u_, u_, u_]) ?_
  unfold b_pget
  refine wp_seq (wp_reg ?_)
  obtain ⟨b1, H2, s3, k4⟩ := s_boxn hs hr
  refine wo_x (v := (.ptr b1 0)) (k4 rfl) (wo_mv (.str []) (wo_mv (.bool false) (wo_nil (thn_n (wp_seq ?_)))))
  refine wp_reg (wo_x (v := (.ptr b1 1)) (ca_fla rfl rfl) (wo_x (v := vk) (s_ld1 s3 0 rfl) (wo_mv (.str s) ?_)))
  obtain ⟨_, H5, ⟨rfl, s6⟩, k7⟩ := idxY_ok (N := N) (d := d + 1) T (i := i) (by omega) s3 hk (by omega) (by omega) hi he hno
  refine wo_call k7 (wo_mv (.int .i64 (.ofNat i)) (wo_nil (thn_n (wp_seq (wp_seq ?_)))))
  refine wp_reg (wo_x (v := (.ptr b1 0)) (ca_fla rfl rfl) (wo_x (v := (.bool true)) (s_ld1 s6 0 rfl) (wo_x (v := (.bool false)) (w_lit (fun K => rfl)) (wo_mv (.bool false) (wo_yesF ?_)))))
  refine wo_mv (.int .i64 (.ofNat i)) (wo_yesF (wo_x (v := (.bool false)) (w_bin (cmp_lssF i 0 (by omega))) (wo_x (v := (.bool false)) (w_pickF rfl rfl) (wo_mv (.bool false) (wo_yesF ?_)))))
  refine wo_mv (.int .i64 (.ofNat i)) (wo_yesF (wo_x (v := (.ptr b1 2)) (ca_fla rfl rfl) (wo_yesF (wo_x (v := vv) (s_ld1 s6 0 rfl) (wo_yesF ?_)))))
  refine wo_x (v := (.int .i64 (.ofNat vs.length))) (fl_len hv (strs_len vs) rfl) (wo_yesF (wo_x (v := (.bool false)) (w_bin (cmp_geqF i vs.length (by omega))) (wo_x (v := (.bool false)) (w_pickF rfl rfl) (wo_nil (thn_n ?_)))))
  refine wp_condF (wp_skip (thn_n (wp_seq (wp_reg (wo_x (v := (.ptr b1 2)) (ca_fla rfl rfl) ?_)))))
  refine wo_x (v := vv) (s_ld1 s6 0 rfl) (wo_mv (.int .i64 (.ofNat i)) ?_)
  obtain ⟨b8, o9, L10, z11, g12, e13, n14, k15⟩ := fl_ix hv i (strs_get (show i < vs.length by omega))
  refine wo_x (v := (.ptr b8 o9)) (k15 rfl rfl) (wo_x (v := (.str (txt vs i))) (s_zld1 s6 z11 (g12 0 _ rfl)) (wo_mv (.str (txt vs i)) (wo_mv (.bool true) (wo_nil (thn_n ?_)))))
  refine wp_ret ?_
  have s16 := s6.drop 0
  exact fin_2 (.str (txt vs i)) (.bool true) ⟨rfl, s16⟩
theorem getN_ok [PtN] [HvN] [NdN] [BkN] {tbl : Nat → Option FT} (T : PtT tbl) {ks vs : List (List Nat)} {ps : List PtrM} {vk vv vp : AV} {r : Rp AV} {s : List Nat} {N d : Nat} (hd : 2 ≤ d) {Z : Fz} {F : List Hl} {H : AH} (hs : Sat H Z (F)) (hr : RL r [.bool true, vk, vv, vp]) (hk : Fl Z 1 vk (strs ks)) (hv : Fl Z 1 vv (strs vs)) (hp : Fl Z 3 vp (ptrs ps)) (hkl : ks.length ≤ 1099511627776) (hvl : vs.length ≤ 1099511627776) (hpl : ps.length ≤ 1099511627776) (hNk : ks.length < N) (hno : ∀ j, j < ks.length → ¬ txt ks j = s) :
    Ct (RUN tbl N d) (.fn (.fn (.func PtN.get)) [] []) [(.agg r), (.str s)] H fun v H' => v = .tup [.str [], .bool false] ∧ Sat H' Z F := by
  obtain ⟨d, rfl⟩ : ∃ e, d = e + 2 := ⟨d - 2, by omega⟩
  refine ct_code T.get (b := b_pget) (env := [(.agg r), (.str s), u_, u_, u_, u_, u_, u_, u_, u_, u_, u_, u_, u_, u_, u_, u_, u_, u_, u_, u_, u_, u_, u_, u_, u_, u_, u_, u_, u_]) ?_
  unfold b_pget
  refine wp_seq (wp_reg ?_)
  obtain ⟨b1, H2, s3, k4⟩ := s_boxn hs hr
  refine wo_x (v := (.ptr b1 0)) (k4 rfl) (wo_mv (.str []) (wo_mv (.bool false) (wo_nil (thn_n (wp_seq ?_)))))
  refine wp_reg (wo_x (v := (.ptr b1 1)) (ca_fla rfl rfl) (wo_x (v := vk) (s_ld1 s3 0 rfl) (wo_mv (.str s) ?_)))
  obtain ⟨_, H5, ⟨rfl, s6⟩, k7⟩ := idxN_ok (N := N) (d := d + 1) T (by omega) s3 hk (by omega) (by omega) hno
  refine wo_call k7 (wo_mv (.int .i64 (-1)) (wo_nil (thn_n (wp_seq (wp_seq ?_)))))
  refine wp_reg (wo_x (v := (.ptr b1 0)) (ca_fla rfl rfl) (wo_x (v := (.bool true)) (s_ld1 s6 0 rfl) (wo_x (v := (.bool false)) (w_lit (fun K => rfl)) (wo_mv (.bool false) (wo_yesF ?_)))))
  refine wo_mv (.int .i64 (-1)) (wo_yesF (wo_x (v := (.bool true)) (w_lit (fun K => rfl)) (wo_x (v := (.bool true)) (w_pickF rfl rfl) (wo_mv (.bool true) (wo_noT ?_)))))
  refine wo_noT (wo_noT (wo_noT (wo_noT (wo_x (v := (.bool true)) (w_pickT rfl rfl) (wo_nil ?_)))))
  refine thn_n (wp_condT (wp_seq (wp_reg (wo_mv (.str []) (wo_mv (.bool false) ?_)))))
  refine wo_nil (thn_n (wp_ret (thn_r ?_)))
  have s8 := s6.drop 0
  exact fin_2 (.str []) (.bool false) ⟨rfl, s8⟩
theorem putK_ok [PtN] [HvN] [NdN] [BkN] {tbl : Nat → Option FT} (T : PtT tbl) (TB : BkT tbl) (TD : NdT tbl) {ks vs : List (List Nat)} {ps : List PtrM} {vk vv vp : AV} {r : Rp AV} {s : List Nat} {t : List Nat} {N d : Nat} (hd : 10 ≤ d) {Z : Fz} {F : List Hl} {H : AH} (hs : Sat H Z (F)) (hr : RL r [.bool true, vk, vv, vp]) (hk : Fl Z 1 vk (strs ks)) (hv : Fl Z 1 vv (strs vs)) (hp : Fl Z 3 vp (ptrs ps)) (hm : SmallN N ks vs ps) (hF : FormN true ks vs ps) (hs0 : ¬ KeyOk s) :
    Ct (RUN tbl N d) (.fn (.fn (.func PtN.put)) [] []) [(.agg r), (.str s), (.str t)] H fun v H' => ∃ q, v = .tup [.agg q, .int .i64 1] ∧ RL q [.bool false, .nils, .nils, .nils] ∧ Sat H' Z F := by
  obtain ⟨d, rfl⟩ : ∃ e, d = e + 10 := ⟨d - 10, by omega⟩
  have hkl := hm.k
  have hvl := hm.v
  have hpl := hm.p
  have hNk := hm.k'
  obtain ⟨fp, fv, _⟩ := hF.2.1 rfl
  refine ct_code T.put (b := b_pput) (env := [(.agg r), (.str s), (.str t), u_, u_, u_, u_, u_, u_, u_, u_, u_, u_, u_, u_, u_, u_, u_, u_, u_, u_, u_, u_, u_, u_, u_, u_, u_, u_, u_, u_, u_, u_, u_, u_, u_, u_, u_, u_, u_, u_, u_, u_, u_, u_, u_, u_, u_, u_, u_, u_, u_, u_, u_, u_, u_, u_, u_, u_, u_, u_, u_, u_, u_, u_, u_, u_, u_, u_, u_, u_, u_, u_, u_, u_]) ?_
  unfold b_pput
  refine wp_seq (wp_reg ?_)
  obtain ⟨b1, H2, s3, k4⟩ := s_boxn hs hr
  refine wo_x (v := (.ptr b1 0)) (k4 rfl) ?_
  obtain ⟨b5, H6, s7, k8⟩ := s_alloc s3 (RL.cat (RL.one (.bool false)) (RL.rep 3 .nils) rfl)
  refine wo_x (v := (.ptr b5 0)) (k8) (wo_mv (.int .i64 0) (wo_nil (thn_n (wp_seq (wp_seq ?_)))))
  refine wp_reg (wo_x (v := (.ptr b1 0)) (ca_fla rfl rfl) (wo_x (v := (.bool true)) (s_ld1 s7 1 rfl) (wo_x (v := (.bool false)) (w_lit (fun K => rfl)) (wo_mv (.bool false) (wo_yesF ?_)))))
  obtain ⟨r9, q10, k11⟩ := s_ldn s7 1 0 4 
  refine wo_x (v := (.agg r9)) (k11 rfl) (wo_yesF ?_)
  obtain ⟨v12, H14, ⟨e13, s15⟩, k16⟩ := form_ok (N := N) (d := d + 9) TD (ks := ks) (vs := vs) (ps := ps) TB (by omega) s7 q10 hk hv hp hm.k hm.v hm.p hm.k' hm.v' hm.p' hm.q
  rw [dB_true hF] at e13
  subst e13
  refine wo_call k16 (wo_yesF (wo_x (v := (.bool false)) (w_lit (fun K => rfl)) (wo_x (v := (.bool false)) (w_pickF rfl rfl) (wo_mv (.bool false) (wo_yesF ?_)))))
  refine wo_mv (.str s) (wo_yesF ?_)
  obtain ⟨v17, H19, ⟨e18, s20⟩, k21⟩ := key_ok (N := N) (d := d + 9) TD (s := s) (by omega) s15
  rw [dB_false hs0] at e18
  subst e18
  refine wo_call k21 (wo_yesF (wo_x (v := (.bool true)) (w_lit (fun K => rfl)) (wo_x (v := (.bool true)) (w_pickF rfl rfl) (wo_mv (.bool true) (wo_noT ?_)))))
  refine wo_noT (wo_noT (wo_x (v := (.bool true)) (w_pickT rfl rfl) (wo_nil (thn_n (wp_condT ?_)))))
  refine wp_seq (wp_reg (wo_x (v := (.agg (.cat 1 (.one (.bool false)) (.rep 3 .nils)))) (w_build (r := (.cat 1 (.one (.bool false)) (.rep 3 .nils))) fill_nil) ?_))
  obtain ⟨H22, s23, k24⟩ := s_stn s20 (RL.cat (RL.one (.bool false)) (RL.rep 3 .nils) rfl) 0 4 rfl (Nat.le_of_ble_eq_true rfl)
  refine wo_n (k24 rfl rfl) (wo_mv (.int .i64 1) (wo_nil (thn_n (wp_ret (thn_r ?_)))))
  refine fin_ct (w := (.int .i64 1)) (off := 0) s23 0 fun r25 q26 => ?_
  have s27 := s23.drop 0
  have s28 := s27.drop 0
  exact ⟨_, rfl, q26, s28⟩
theorem putV_ok [PtN] [HvN] [NdN] [BkN] {tbl : Nat → Option FT} (T : PtT tbl) (TB : BkT tbl) (TD : NdT tbl) {ks vs : List (List Nat)} {ps : List PtrM} {vk vv vp : AV} {r : Rp AV} {s : List Nat} {t : List Nat} {N d : Nat} (hd : 10 ≤ d) {Z : Fz} {F : List Hl} {H : AH} (hs : Sat H Z (F)) (hr : RL r [.bool true, vk, vv, vp]) (hk : Fl Z 1 vk (strs ks)) (hv : Fl Z 1 vv (strs vs)) (hp : Fl Z 3 vp (ptrs ps)) (hm : SmallN N ks vs ps) (hF : FormN true ks vs ps) (hs0 : KeyOk s) (ht : 200 < t.length) :
    Ct (RUN tbl N d) (.fn (.fn (.func PtN.put)) [] []) [(.agg r), (.str s), (.str t)] H fun v H' => ∃ q, v = .tup [.agg q, .int .i64 1] ∧ RL q [.bool false, .nils, .nils, .nils] ∧ Sat H' Z F := by
  obtain ⟨d, rfl⟩ : ∃ e, d = e + 10 := ⟨d - 10, by omega⟩
  have hkl := hm.k
  have hvl := hm.v
  have hpl := hm.p
  have hNk := hm.k'
  obtain ⟨fp, fv, _⟩ := hF.2.1 rfl
  refine ct_code T.put (b := b_pput) (env := [(.agg r), (.str s), (.str t), u_, u_, u_, u_, u_, u_, u_, u_, u_, u_, u_, u_, u_, u_, u_, u_, u_, u_, u_, u_, u_, u_, u_, u_, u_, u_, u_, u_, u_, u_, u_, u_, u_, u_, u_, u_, u_, u_, u_, u_, u_, u_, u_, u_, u_, u_, u_, u_, u_, u_, u_, u_, u_, u_, u_, u_, u_, u_, u_, u_, u_, u_, u_, u_, u_, u_, u_, u_, u_, u_, u_, u_]) ?_
  unfold b_pput
  refine wp_seq (wp_reg ?_)
  obtain ⟨b1, H2, s3, k4⟩ := s_boxn hs hr
  refine wo_x (v := (.ptr b1 0)) (k4 rfl) ?_
  obtain ⟨b5, H6, s7, k8⟩ := s_alloc s3 (RL.cat (RL.one (.bool false)) (RL.rep 3 .nils) rfl)
  refine wo_x (v := (.ptr b5 0)) (k8) (wo_mv (.int .i64 0) (wo_nil (thn_n (wp_seq (wp_seq ?_)))))
  refine wp_reg (wo_x (v := (.ptr b1 0)) (ca_fla rfl rfl) (wo_x (v := (.bool true)) (s_ld1 s7 1 rfl) (wo_x (v := (.bool false)) (w_lit (fun K => rfl)) (wo_mv (.bool false) (wo_yesF ?_)))))
  obtain ⟨r9, q10, k11⟩ := s_ldn s7 1 0 4 
  refine wo_x (v := (.agg r9)) (k11 rfl) (wo_yesF ?_)
  obtain ⟨v12, H14, ⟨e13, s15⟩, k16⟩ := form_ok (N := N) (d := d + 9) TD (ks := ks) (vs := vs) (ps := ps) TB (by omega) s7 q10 hk hv hp hm.k hm.v hm.p hm.k' hm.v' hm.p' hm.q
  rw [dB_true hF] at e13
  subst e13
  refine wo_call k16 (wo_yesF (wo_x (v := (.bool false)) (w_lit (fun K => rfl)) (wo_x (v := (.bool false)) (w_pickF rfl rfl) (wo_mv (.bool false) (wo_yesF ?_)))))
  refine wo_mv (.str s) (wo_yesF ?_)
  obtain ⟨v17, H19, ⟨e18, s20⟩, k21⟩ := key_ok (N := N) (d := d + 9) TD (s := s) (by omega) s15
  rw [dB_true hs0] at e18
  subst e18
  refine wo_call k21 (wo_yesF (wo_x (v := (.bool false)) (w_lit (fun K => rfl)) (wo_x (v := (.bool false)) (w_pickF rfl rfl) (wo_mv (.bool false) (wo_yesF ?_)))))
  refine wo_mv (.str t) (wo_yesF (wo_x (v := (.int .i64 (.ofNat t.length))) (w_lens (s := t) (n := t.length) rfl rfl) (wo_yesF (wo_x (v := (.bool true)) (w_bin (cmp_gtrT t.length 200 (by omega))) (wo_x (v := (.bool true)) (w_pickF rfl rfl) ?_)))))
  refine wo_nil (thn_n (wp_condT (wp_seq (wp_reg (wo_x (v := (.agg (.cat 1 (.one (.bool false)) (.rep 3 .nils)))) (w_build (r := (.cat 1 (.one (.bool false)) (.rep 3 .nils))) fill_nil) ?_)))))
  obtain ⟨H22, s23, k24⟩ := s_stn s20 (RL.cat (RL.one (.bool false)) (RL.rep 3 .nils) rfl) 0 4 rfl (Nat.le_of_ble_eq_true rfl)
  refine wo_n (k24 rfl rfl) (wo_mv (.int .i64 1) (wo_nil (thn_n (wp_ret (thn_r ?_)))))
  refine fin_ct (w := (.int .i64 1)) (off := 0) s23 0 fun r25 q26 => ?_
  have s27 := s23.drop 0
  have s28 := s27.drop 0
  exact ⟨_, rfl, q26, s28⟩
theorem txC_get {ks : List (List Nat)} {i : Nat} (h : i < ks.length) : (txC ks)[i * 1]? = some (.str (txt ks i)) := by
  rw [txC_map, Nat.mul_one, List.getElem?_map, txt_get h]
  rfl
theorem putE_ok [PtN] [HvN] [NdN] [BkN] {tbl : Nat → Option FT} (T : PtT tbl) (TB : BkT tbl) (TD : NdT tbl) (TH : HvT tbl) {ks vs : List (List Nat)} {ps : List PtrM} {vk vv vp : AV} {r : Rp AV} {s : List Nat} {t : List Nat} {i : Nat} {N d : Nat} (hd : 10 ≤ d) {Z : Fz} {F : List Hl} {H : AH} (hs : Sat H Z (F)) (hr : RL r [.bool true, vk, vv, vp]) (hk : Fl Z 1 vk (strs ks)) (hv : Fl Z 1 vv (strs vs)) (hp : Fl Z 3 vp (ptrs ps)) (hm : SmallN N ks vs ps) (hF : FormN true ks vs ps) (hs0 : KeyOk s) (ht : t.length ≤ 200) (hi : i < ks.length) (he : txt ks i = s) :
    Ct (RUN tbl N d) (.fn (.fn (.func PtN.put)) [] []) [(.agg r), (.str s), (.str t)] H fun v H' => ∃ q wk wv hk' hv', v = .tup [.agg q, .int .i64 0] ∧ RL q [.bool true, wk, wv, .nils] ∧ Own 1 wk ks.length (txC ks) hk' ∧ Own 1 wv vs.length (txC (vs.set i t)) hv' ∧ Sat H' Z (hv' ++ (hk' ++ F)) := by
  obtain ⟨d, rfl⟩ : ∃ e, d = e + 10 := ⟨d - 10, by omega⟩
  have hkl := hm.k
  have hvl := hm.v
  have hpl := hm.p
  have hNk := hm.k'
  obtain ⟨fp, fv, _⟩ := hF.2.1 rfl
  refine ct_code T.put (b := b_pput) (env := [(.agg r), (.str s), (.str t), u_, u_, u_, u_, u_, u_, u_, u_, u_, u_, u_, u_, u_, u_, u_, u_, u_, u_, u_, u_, u_, u_, u_, u_, u_, u_, u_, u_, u_, u_, u_, u_, u_, u_, u_, u_, u_, u_, u_, u_, u_, u_, u_, u_, u_, u_, u_, u_, u_, u_, u_, u_, u_, u_, u_, u_, u_, u_, u_, u_, u_, u_, u_, u_, u_, u_, u_, u_, u_, u_, u_, u_]) ?_
  unfold b_pput
  refine wp_seq (wp_reg ?_)
  obtain ⟨b1, H2, s3, k4⟩ := s_boxn hs hr
  refine wo_x (v := (.ptr b1 0)) (k4 rfl) ?_
  obtain ⟨b5, H6, s7, k8⟩ := s_alloc s3 (RL.cat (RL.one (.bool false)) (RL.rep 3 .nils) rfl)
  refine wo_x (v := (.ptr b5 0)) (k8) (wo_mv (.int .i64 0) (wo_nil (thn_n (wp_seq (wp_seq ?_)))))
  refine wp_reg (wo_x (v := (.ptr b1 0)) (ca_fla rfl rfl) (wo_x (v := (.bool true)) (s_ld1 s7 1 rfl) (wo_x (v := (.bool false)) (w_lit (fun K => rfl)) (wo_mv (.bool false) (wo_yesF ?_)))))
  obtain ⟨r9, q10, k11⟩ := s_ldn s7 1 0 4 
  refine wo_x (v := (.agg r9)) (k11 rfl) (wo_yesF ?_)
  obtain ⟨v12, H14, ⟨e13, s15⟩, k16⟩ := form_ok (N := N) (d := d + 9) TD (ks := ks) (vs := vs) (ps := ps) TB (by omega) s7 q10 hk hv hp hm.k hm.v hm.p hm.k' hm.v' hm.p' hm.q
  rw [dB_true hF] at e13
  subst e13
  refine wo_call k16 (wo_yesF (wo_x (v := (.bool false)) (w_lit (fun K => rfl)) (wo_x (v := (.bool false)) (w_pickF rfl rfl) (wo_mv (.bool false) (wo_yesF ?_)))))
  refine wo_mv (.str s) (wo_yesF ?_)
  obtain ⟨v17, H19, ⟨e18, s20⟩, k21⟩ := key_ok (N := N) (d := d + 9) TD (s := s) (by omega) s15
  rw [dB_true hs0] at e18
  subst e18
  refine wo_call k21 (wo_yesF (wo_x (v := (.bool false)) (w_lit (fun K => rfl)) (wo_x (v := (.bool false)) (w_pickF rfl rfl) (wo_mv (.bool false) (wo_yesF ?_)))))
  refine wo_mv (.str t) (wo_yesF (wo_x (v := (.int .i64 (.ofNat t.length))) (w_lens (s := t) (n := t.length) rfl rfl) (wo_yesF (wo_x (v := (.bool false)) (w_bin (cmp_gtrF t.length 200 (by omega))) (wo_x (v := (.bool false)) (w_pickF rfl rfl) ?_)))))
  refine wo_nil (thn_n (wp_condF (wp_skip (thn_n (wp_seq ?_)))))
  refine wp_reg (wo_x (v := (.ptr b1 1)) (ca_fla rfl rfl) (wo_x (v := vk) (s_ld1 s20 1 rfl) (wo_mv (.str s) ?_)))
  obtain ⟨_, H26, ⟨i22, rfl, h23, h24, h25, s27⟩, k28⟩ := schS_ok T (N := N) (d := d + 9) (by omega) s20 hk (by omega) (by omega) hF.1
  have e29 := srch_eq hF.1 hi he h23 h24 h25
  subst e29
  refine wo_call k28 (wo_mv (.int .i64 (.ofNat i22)) (wo_nil (thn_n (wp_seq (wp_dreg ?_)))))
  refine wd_run (wo_x (v := (.ptr b1 1)) (ca_fla rfl rfl) (wo_nil (wd_run (wo_x (v := vk) (s_ld1 s27 1 rfl) (wo_nil ?_)))))
  refine wd_run (wo_x (v := (.ptr b1 2)) (ca_fla rfl rfl) (wo_nil (wd_run (wo_x (v := vv) (s_ld1 s27 1 rfl) (wo_nil ?_)))))
  refine wd_run ?_
  obtain ⟨b30, H31, s32, k33⟩ := s_alloc s27 (RL.cat (RL.one (.bool false)) (RL.rep 3 .nils) rfl)
  refine wo_x (v := (.ptr b30 0)) (k33) (wo_nil (wd_nil (ws_cons ?_)))
  obtain ⟨v34, H35, ⟨l36, o37, s38⟩, k39⟩ := cloS_ok TH (N := N) (d := d + 9) (by omega) s32 hk (by omega)
  have s40 : Sat H35 Z ((.cells b30 [(.bool false), .nils, .nils, .nils]) :: (.cells b5 [(.bool false), .nils, .nils, .nils]) :: (.cells b1 [(.bool true), vk, vv, vp]) :: (l36 ++ F)) := Sat.rot (l₁ := l36) (hl := [.cells b30 [(.bool false), .nils, .nils, .nils], .cells b5 [(.bool false), .nils, .nils, .nils], .cells b1 [(.bool true), vk, vv, vp]]) s38
  refine wo_call k39 (wo_nil (wd_again (v := vv) (hs := fl_same hv) (s_ld1 s40 2 rfl) (wd_nil (ws_cons ?_))))
  obtain ⟨v41, H42, ⟨l43, o44, s45⟩, k46⟩ := cloS_ok TH (N := N) (d := d + 9) (by omega) s40 hv (by omega)
  have s47 : Sat H42 Z ((.cells b30 [(.bool false), .nils, .nils, .nils]) :: (.cells b5 [(.bool false), .nils, .nils, .nils]) :: (.cells b1 [(.bool true), vk, vv, vp]) :: (l43 ++ (l36 ++ F))) := Sat.rot (l₁ := l43) (hl := [.cells b30 [(.bool false), .nils, .nils, .nils], .cells b5 [(.bool false), .nils, .nils, .nils], .cells b1 [(.bool true), vk, vv, vp]]) s45
  refine wo_call k46 (wo_nil (wd_run (wo_x (v := (.agg (Rp.set (Rp.set (Rp.set (.cat 1 (.one (.bool false)) (.rep 3 .nils)) 0 (.bool true)) 1 v34) 2 v41))) (w_build (r := (Rp.set (Rp.set (Rp.set (.cat 1 (.one (.bool false)) (.rep 3 .nils)) 0 (.bool true)) 1 v34) 2 v41)) (fill_s (v := (.bool true)) rfl rfl rfl (fill_s (v := v34) rfl (own_sc o37) rfl (fill_s (v := v41) rfl (own_sc o44) rfl fill_nil)))) (wo_nil (wd_nil ?_)))))
  refine ws_cons ?_
  obtain ⟨H48, s49, k50⟩ := s_stn s47 ((((RL.cat (RL.one (.bool false)) (RL.rep 3 .nils) rfl).set 0 (.bool true)).set 1 v34).set 2 v41) 0 4 rfl (Nat.le_of_ble_eq_true rfl)
  refine wo_n (k50 rfl rfl) (wo_nil (wd_nil (ws_nil (thn_n (wp_seq ?_)))))
  refine wp_seq (wp_reg (wo_mv (.int .i64 (.ofNat i22)) (wo_x (v := (.ptr b30 1)) (ca_fla rfl rfl) (wo_x (v := v34) (s_ld1 s49 0 rfl) (wo_x (v := (.int .i64 (.ofNat ks.length))) (own_len o37 rfl) ?_)))))
  refine wo_x (v := (.bool true)) (w_bin (cmp_lssT i22 ks.length (by omega))) (wo_mv (.bool true) (wo_yesT (wo_x (v := (.ptr b30 1)) (ca_fla rfl rfl) (wo_yesT (wo_x (v := v34) (s_ld1 s49 0 rfl) ?_)))))
  refine wo_yesT (wo_mv (.int .i64 (.ofNat i22)) (wo_yesT ?_))
  obtain ⟨b51, e52, g53, o54, k55⟩ := own_ix o37 i22 (by omega)
  refine wo_x (v := (.ptr b51 (i22 * 1))) (k55 rfl rfl) (wo_yesT ?_)
  have r56 := Sat.rot (H := H48) (Z := Z) (l₁ := [.cells b30 [(.bool true), v34, v41, .nils], .cells b5 [(.bool false), .nils, .nils, .nils], .cells b1 [(.bool true), vk, vv, vp]] ++ (l43)) (hl := l36) (F := F) (by simp only [List.append_assoc]; exact s49)
  have q57 := r56
  rw [e52] at q57
  refine wo_x (v := (.str (txt ks i22))) (s_ld1 q57 0 (txC_get (by omega))) (wo_yesT (wo_mv (.str s) (wo_yesT (wo_x (v := (.bool true)) (w_bin (str_eqlT he)) (wo_x (v := (.bool true)) (w_pickT rfl rfl) ?_)))))
  refine wo_nil (thn_n (wp_condT (wp_seq (wp_reg (wo_x (v := (.ptr b30 2)) (ca_fla rfl rfl) ?_)))))
  refine wo_x (v := v41) (s_ld1 s49 0 rfl) (wo_mv (.int .i64 (.ofNat i22)) (wo_mv (.str t) ?_))
  obtain ⟨b58, e59, g60, o61, k62⟩ := own_ix o44 i22 (by omega)
  refine wo_x (v := (.ptr b58 (i22 * 1))) (k62 rfl rfl) ?_
  have r63 := Sat.rot (H := H48) (Z := Z) (l₁ := [.cells b30 [(.bool true), v34, v41, .nils], .cells b5 [(.bool false), .nils, .nils, .nils], .cells b1 [(.bool true), vk, vv, vp]]) (hl := l43) (F := l36 ++ (F)) (s49)
  obtain ⟨l64, H65, h66, s67, k68⟩ := own_set1 (i := i22) (x := (.str t)) r63 e59 g60 o61 rfl
  have s69 : Sat H65 Z ((.cells b30 [(.bool true), v34, v41, .nils]) :: (.cells b5 [(.bool false), .nils, .nils, .nils]) :: (.cells b1 [(.bool true), vk, vv, vp]) :: (l64 ++ (l36 ++ F))) := by have h := Sat.rot (l₁ := l64) (hl := [.cells b30 [(.bool true), v34, v41, .nils], .cells b5 [(.bool false), .nils, .nils, .nils], .cells b1 [(.bool true), vk, vv, vp]]) s67; exact h
  refine wo_n (k68 rfl rfl) (wo_nil (thn_n (wp_seq (wp_reg ?_))))
  obtain ⟨r70, q71, k72⟩ := s_ldn s69 0 0 4 
  refine wo_x (v := (.agg r70)) (k72 rfl) ?_
  have s73 := s69.pull 1
  obtain ⟨H74, s75, k76⟩ := s_stn s73 q71 0 4 rfl (Nat.le_of_ble_eq_true rfl)
  refine wo_n (k76 rfl rfl) (wo_mv (.int .i64 0) (wo_nil (thn_n (wp_ret (thn_r ?_)))))
  refine fin_ct (w := (.int .i64 0)) (off := 0) s75 0 fun r77 q78 => ?_
  have s79 := s75.drop 0
  have s80 := s79.drop 0
  have s81 := s80.drop 0
  exact ⟨_, _, _, _, _, rfl, q78, o37, by rw [txC_set]; exact h66, s81⟩
theorem nils_u {Z : Fz} {v : AV} {ks : List (List Nat)} (h : Fl Z 1 v (strs ks)) (hv : v = .nils) : OwnU 1 .nils ks.length (txC ks) [] := by
  subst hv
  generalize e : strs ks = xs at h
  cases h
  cases ks with
  | nil => exact .nil
  | cons k ks => cases e
theorem cloU_ok [HvN] [NdN] [BkN] {tbl : Nat → Option FT} (T : HvT tbl) {ks : List (List Nat)} {vk : AV} {N d : Nat} (hd : 1 ≤ d) {Z : Fz} {F : List Hl} {H : AH} (hs : Sat H Z (F)) (hk : Fl Z 1 vk (strs ks)) (hkl : ks.length ≤ 1099511627776) :
    Ct (RUN tbl N d) (.fn (.fn (.func HvN.cloS)) [] []) [vk] H fun v H' => ∃ hl, OwnU 1 v ks.length (txC ks) hl ∧ Sat H' Z (hl ++ F) := by
  obtain ⟨d, rfl⟩ : ∃ e, d = e + 1 := ⟨d - 1, by omega⟩
  refine ct_code T.cloS (b := b_vcloS) (env := [vk, u_, u_, u_, u_, u_, u_, u_]) ?_
  unfold b_vcloS
  refine wp_seq (wp_reg (wo_mv .nils (wo_nil (thn_n (wp_seq ?_)))))
  refine wp_seq (wp_reg (wo_mv vk ?_))
  by_cases c1 : vk = .nils
  · refine wo_x (v := (.bool true)) (bin_nilT c1 rfl rfl) (wo_nil (thn_n (wp_condT (wp_seq (wp_reg ?_)))))
    refine wo_mv .nils (wo_nil (thn_n (wp_ret (thn_r ?_))))
    exact fin_1 .nils ⟨[], nils_u hk c1, hs⟩
  · refine wo_x (v := (.bool false)) (bin_nilF hk c1 rfl rfl) (wo_nil (thn_n (wp_condF (wp_skip (thn_n ?_)))))
    refine wp_seq (wp_reg ?_)
    obtain ⟨b2, H3, s4, k5⟩ := s_bsl hs (RL.rep 0 (.str []))
    refine wo_x (v := (.slc b2 0 0 0)) (k5 fill_nil) (wo_mv vk ?_)
    have c6 := src_strs s4 hk
    obtain ⟨v7, hl8, H9, h10, s11, k12⟩ := u_copy (bytes := 16) s4 c6 (by omega) (by omega)
    have s13 := Sat.rot (l₁ := hl8) (hl := []) s11
    refine wo_x (v := v7) (k12 rfl rfl) (wo_mv v7 (wo_nil (thn_n (wp_ret ?_))))
    exact fin_1 v7 ⟨_, h10, s13⟩
theorem ins_row {ks : List (List Nat)} {v : AV} {n i : Nat} {k : List Nat} {hl : List Hl} (h : Own 1 v n ((txC ks).take i ++ .str k :: (txC ks).drop i) hl) : Own 1 v n (txC (ks.take i ++ k :: ks.drop i)) hl := by
  rw [txC_ins]
  exact h
theorem putI_ok [PtN] [HvN] [NdN] [BkN] {tbl : Nat → Option FT} (T : PtT tbl) (TB : BkT tbl) (TD : NdT tbl) (TH : HvT tbl) (hI : tbl PtN.ins = some (.sum insOn)) {ks vs : List (List Nat)} {ps : List PtrM} {vk vv vp : AV} {r : Rp AV} {s : List Nat} {t : List Nat} {N d : Nat} (hd : 10 ≤ d) {Z : Fz} {F : List Hl} {H : AH} (hs : Sat H Z (F)) (hr : RL r [.bool true, vk, vv, vp]) (hk : Fl Z 1 vk (strs ks)) (hv : Fl Z 1 vv (strs vs)) (hp : Fl Z 3 vp (ptrs ps)) (hm : SmallN N ks vs ps) (hF : FormN true ks vs ps) (hs0 : KeyOk s) (ht : t.length ≤ 200) (hno : ∀ j, j < ks.length → ¬ txt ks j = s) (hsm : ks.length ≤ 1000000) :
    Ct (RUN tbl N d) (.fn (.fn (.func PtN.put)) [] []) [(.agg r), (.str s), (.str t)] H fun v H' => ∃ i q wk wv hk' hv', i ≤ ks.length ∧ (∀ j, j < i → slt (txt ks j) s = true) ∧ (∀ j, i ≤ j → j < ks.length → slt (txt ks j) s = false) ∧ v = .tup [.agg q, .int .i64 0] ∧ RL q [.bool true, wk, wv, .nils] ∧ Own 1 wk (ks.length + 1) (txC (ks.take i ++ s :: ks.drop i)) hk' ∧ Own 1 wv (vs.length + 1) (txC (vs.take i ++ t :: vs.drop i)) hv' ∧ Sat H' Z (hv' ++ (hk' ++ F)) := by
  obtain ⟨d, rfl⟩ : ∃ e, d = e + 10 := ⟨d - 10, by omega⟩
  have hkl := hm.k
  have hvl := hm.v
  have hpl := hm.p
  have hNk := hm.k'
  obtain ⟨fp, fv, _⟩ := hF.2.1 rfl
  refine ct_code T.put (b := b_pput) (env := [(.agg r), (.str s), (.str t), u_, u_, u_, u_, u_, u_, u_, u_, u_, u_, u_, u_, u_, u_, u_, u_, u_, u_, u_, u_, u_, u_, u_, u_, u_, u_, u_, u_, u_, u_, u_, u_, u_, u_, u_, u_, u_, u_, u_, u_, u_, u_, u_, u_, u_, u_, u_, u_, u_, u_, u_, u_, u_, u_, u_, u_, u_, u_, u_, u_, u_, u_, u_, u_, u_, u_, u_, u_, u_, u_, u_, u_]) ?_
  unfold b_pput
  refine wp_seq (wp_reg ?_)
  obtain ⟨b1, H2, s3, k4⟩ := s_boxn hs hr
  refine wo_x (v := (.ptr b1 0)) (k4 rfl) ?_
  obtain ⟨b5, H6, s7, k8⟩ := s_alloc s3 (RL.cat (RL.one (.bool false)) (RL.rep 3 .nils) rfl)
  refine wo_x (v := (.ptr b5 0)) (k8) (wo_mv (.int .i64 0) (wo_nil (thn_n (wp_seq (wp_seq ?_)))))
  refine wp_reg (wo_x (v := (.ptr b1 0)) (ca_fla rfl rfl) (wo_x (v := (.bool true)) (s_ld1 s7 1 rfl) (wo_x (v := (.bool false)) (w_lit (fun K => rfl)) (wo_mv (.bool false) (wo_yesF ?_)))))
  obtain ⟨r9, q10, k11⟩ := s_ldn s7 1 0 4 
  refine wo_x (v := (.agg r9)) (k11 rfl) (wo_yesF ?_)
  obtain ⟨v12, H14, ⟨e13, s15⟩, k16⟩ := form_ok (N := N) (d := d + 9) TD (ks := ks) (vs := vs) (ps := ps) TB (by omega) s7 q10 hk hv hp hm.k hm.v hm.p hm.k' hm.v' hm.p' hm.q
  rw [dB_true hF] at e13
  subst e13
  refine wo_call k16 (wo_yesF (wo_x (v := (.bool false)) (w_lit (fun K => rfl)) (wo_x (v := (.bool false)) (w_pickF rfl rfl) (wo_mv (.bool false) (wo_yesF ?_)))))
  refine wo_mv (.str s) (wo_yesF ?_)
  obtain ⟨v17, H19, ⟨e18, s20⟩, k21⟩ := key_ok (N := N) (d := d + 9) TD (s := s) (by omega) s15
  rw [dB_true hs0] at e18
  subst e18
  refine wo_call k21 (wo_yesF (wo_x (v := (.bool false)) (w_lit (fun K => rfl)) (wo_x (v := (.bool false)) (w_pickF rfl rfl) (wo_mv (.bool false) (wo_yesF ?_)))))
  refine wo_mv (.str t) (wo_yesF (wo_x (v := (.int .i64 (.ofNat t.length))) (w_lens (s := t) (n := t.length) rfl rfl) (wo_yesF (wo_x (v := (.bool false)) (w_bin (cmp_gtrF t.length 200 (by omega))) (wo_x (v := (.bool false)) (w_pickF rfl rfl) ?_)))))
  refine wo_nil (thn_n (wp_condF (wp_skip (thn_n (wp_seq ?_)))))
  refine wp_reg (wo_x (v := (.ptr b1 1)) (ca_fla rfl rfl) (wo_x (v := vk) (s_ld1 s20 1 rfl) (wo_mv (.str s) ?_)))
  obtain ⟨_, H26, ⟨i22, rfl, h23, h24, h25, s27⟩, k28⟩ := schS_ok T (N := N) (d := d + 9) (by omega) s20 hk (by omega) (by omega) hF.1
  refine wo_call k28 (wo_mv (.int .i64 (.ofNat i22)) (wo_nil (thn_n (wp_seq (wp_dreg ?_)))))
  refine wd_run (wo_x (v := (.ptr b1 1)) (ca_fla rfl rfl) (wo_nil (wd_run (wo_x (v := vk) (s_ld1 s27 1 rfl) (wo_nil ?_)))))
  refine wd_run (wo_x (v := (.ptr b1 2)) (ca_fla rfl rfl) (wo_nil (wd_run (wo_x (v := vv) (s_ld1 s27 1 rfl) (wo_nil ?_)))))
  refine wd_run ?_
  obtain ⟨b29, H30, s31, k32⟩ := s_alloc s27 (RL.cat (RL.one (.bool false)) (RL.rep 3 .nils) rfl)
  refine wo_x (v := (.ptr b29 0)) (k32) (wo_nil (wd_nil (ws_cons ?_)))
  obtain ⟨v33, H34, ⟨l35, o36, s37⟩, k38⟩ := cloU_ok TH (N := N) (d := d + 9) (by omega) s31 hk (by omega)
  have s39 : Sat H34 Z ((.cells b29 [(.bool false), .nils, .nils, .nils]) :: (.cells b5 [(.bool false), .nils, .nils, .nils]) :: (.cells b1 [(.bool true), vk, vv, vp]) :: (l35 ++ F)) := Sat.rot (l₁ := l35) (hl := [.cells b29 [(.bool false), .nils, .nils, .nils], .cells b5 [(.bool false), .nils, .nils, .nils], .cells b1 [(.bool true), vk, vv, vp]]) s37
  refine wo_call k38 (wo_nil (wd_again (v := vv) (hs := fl_same hv) (s_ld1 s39 2 rfl) (wd_nil (ws_cons ?_))))
  obtain ⟨v40, H41, ⟨l42, o43, s44⟩, k45⟩ := cloU_ok TH (N := N) (d := d + 9) (by omega) s39 hv (by omega)
  have s46 : Sat H41 Z ((.cells b29 [(.bool false), .nils, .nils, .nils]) :: (.cells b5 [(.bool false), .nils, .nils, .nils]) :: (.cells b1 [(.bool true), vk, vv, vp]) :: (l42 ++ (l35 ++ F))) := Sat.rot (l₁ := l42) (hl := [.cells b29 [(.bool false), .nils, .nils, .nils], .cells b5 [(.bool false), .nils, .nils, .nils], .cells b1 [(.bool true), vk, vv, vp]]) s44
  refine wo_call k45 (wo_nil (wd_run (wo_x (v := (.agg (Rp.set (Rp.set (Rp.set (.cat 1 (.one (.bool false)) (.rep 3 .nils)) 0 (.bool true)) 1 v33) 2 v40))) (w_build (r := (Rp.set (Rp.set (Rp.set (.cat 1 (.one (.bool false)) (.rep 3 .nils)) 0 (.bool true)) 1 v33) 2 v40)) (fill_s (v := (.bool true)) rfl rfl rfl (fill_s (v := v33) rfl (OwnU.sc o36) rfl (fill_s (v := v40) rfl (OwnU.sc o43) rfl fill_nil)))) (wo_nil (wd_nil ?_)))))
  refine ws_cons ?_
  obtain ⟨H47, s48, k49⟩ := s_stn s46 ((((RL.cat (RL.one (.bool false)) (RL.rep 3 .nils) rfl).set 0 (.bool true)).set 1 v33).set 2 v40) 0 4 rfl (Nat.le_of_ble_eq_true rfl)
  refine wo_n (k49 rfl rfl) (wo_nil (wd_nil (ws_nil (thn_n (wp_seq ?_)))))
  refine wp_seq (wp_reg (wo_mv (.int .i64 (.ofNat i22)) (wo_x (v := (.ptr b29 1)) (ca_fla rfl rfl) (wo_x (v := v33) (s_ld1 s48 0 rfl) (wo_x (v := (.int .i64 (.ofNat ks.length))) (OwnU.ln o36 rfl) ?_)))))
  by_cases c50 : i22 < ks.length
  · refine wo_x (v := (.bool true)) (w_bin (cmp_lssT i22 ks.length (by omega))) (wo_mv (.bool true) (wo_yesT (wo_x (v := (.ptr b29 1)) (ca_fla rfl rfl) (wo_yesT (wo_x (v := v33) (s_ld1 s48 0 rfl) ?_)))))
    refine wo_yesT (wo_mv (.int .i64 (.ofNat i22)) (wo_yesT ?_))
    obtain ⟨l51, o52, c53⟩ := OwnU.own o36
    obtain ⟨b54, e55, g56, o57, k58⟩ := own_ix o52 i22 (by omega)
    refine wo_x (v := (.ptr b54 (i22 * 1))) (k58 rfl rfl) (wo_yesT ?_)
    have r59 := Sat.rot (H := H47) (Z := Z) (l₁ := [.cells b29 [(.bool true), v33, v40, .nils], .cells b5 [(.bool false), .nils, .nils, .nils], .cells b1 [(.bool true), vk, vv, vp]] ++ (l42)) (hl := l35) (F := F) (by simp only [List.append_assoc]; exact s48)
    have q60 := c53 r59
    rw [e55] at q60
    refine wo_x (v := (.str (txt ks i22))) (s_ld1 q60 0 (txC_get (by omega))) (wo_yesT (wo_mv (.str s) (wo_yesT (wo_x (v := (.bool false)) (w_bin (str_eqlF (hno i22 (by omega)))) (wo_x (v := (.bool false)) (w_pickT rfl rfl) ?_)))))
    refine wo_nil (thn_n (wp_condF (wp_skip (thn_n (wp_seq ?_)))))
    refine wp_reg (wo_x (v := (.ptr b29 1)) (ca_fla rfl rfl) (wo_x (v := v33) (s_ld1 s48 0 rfl) (wo_mv (.int .i64 (.ofNat i22)) (wo_mv (.str s) ?_))))
    obtain ⟨b61, H62, s63, k64⟩ := x_bsl s48 (Rp.set (.rep 1 (.str [])) 0 (.str s))
    refine wo_x (v := (.slc b61 0 1 1)) (k64 (fill_s (v := (.str s)) rfl rfl rfl fill_nil)) ?_
    have r65 := Sat.rot (H := H62) (Z := Z) (l₁ := [.obj b61 (.cells (Rp.set (.rep 1 (.str [])) 0 (.str s)) false false), .cells b29 [(.bool true), v33, v40, .nils], .cells b5 [(.bool false), .nils, .nils, .nils], .cells b1 [(.bool true), vk, vv, vp]] ++ (l42)) (hl := l35) (F := F) (by simp only [List.append_assoc]; exact s63)
    obtain ⟨v66, l67, H68, o69, s70, k71⟩ := ins_u (l := [.cells b29 [(.bool true), v33, v40, .nils], .cells b5 [(.bool false), .nils, .nils, .nils], .cells b1 [(.bool true), vk, vv, vp]] ++ (l42 ++ (F))) (by have h := r65; simp only [List.cons_append, List.nil_append, List.append_assoc] at h; exact h) ((RL.rep 1 (.str [])).set 0 (.str s)) o36 (show i22 ≤ ks.length by omega) (by omega)
    have s72 : Sat H68 Z ((.obj b61 (.cells (Rp.set (.rep 1 (.str [])) 0 (.str s)) false false)) :: (.cells b29 [(.bool true), v33, v40, .nils]) :: (.cells b5 [(.bool false), .nils, .nils, .nils]) :: (.cells b1 [(.bool true), vk, vv, vp]) :: (l42 ++ (l67 ++ F))) := by have h := Sat.rot (l₁ := l67) (hl := [.obj b61 (.cells (Rp.set (.rep 1 (.str [])) 0 (.str s)) false false), .cells b29 [(.bool true), v33, v40, .nils], .cells b5 [(.bool false), .nils, .nils, .nils], .cells b1 [(.bool true), vk, vv, vp]] ++ (l42)) (F := F) (by simp only [List.cons_append, List.nil_append, List.append_assoc]; exact s70); simp only [List.cons_append, List.nil_append, List.append_assoc] at h; exact h
    refine wo_call (sum_ins (by omega) hI k71) (wo_x (v := (.ptr b29 1)) (ca_fla rfl rfl) ?_)
    have s73 := s72.pull 1
    obtain ⟨H74, s75, k76⟩ := s_st s73 1 v66 (Nat.le_of_ble_eq_true rfl) (hv := (own_sc (ins_row (ks := ks) o69)))
    refine wo_n (k76 rfl rfl) (wo_nil (thn_n (wp_seq (wp_reg (wo_x (v := (.ptr b29 2)) (ca_fla rfl rfl) ?_)))))
    refine wo_x (v := v40) (s_ld1 s75 0 rfl) (wo_mv (.int .i64 (.ofNat i22)) (wo_mv (.str t) ?_))
    obtain ⟨b77, H78, s79, k80⟩ := x_bsl s75 (Rp.set (.rep 1 (.str [])) 0 (.str t))
    refine wo_x (v := (.slc b77 0 1 1)) (k80 (fill_s (v := (.str t)) rfl rfl rfl fill_nil)) ?_
    have r81 := Sat.rot (H := H78) (Z := Z) (l₁ := [.obj b77 (.cells (Rp.set (.rep 1 (.str [])) 0 (.str t)) false false), .cells b29 [(.bool true), v66, v40, .nils], .obj b61 (.cells (Rp.set (.rep 1 (.str [])) 0 (.str s)) false false), .cells b5 [(.bool false), .nils, .nils, .nils], .cells b1 [(.bool true), vk, vv, vp]]) (hl := l42) (F := l67 ++ (F)) (s79)
    obtain ⟨v82, l83, H84, o85, s86, k87⟩ := ins_u (l := [.cells b29 [(.bool true), v66, v40, .nils], .obj b61 (.cells (Rp.set (.rep 1 (.str [])) 0 (.str s)) false false), .cells b5 [(.bool false), .nils, .nils, .nils], .cells b1 [(.bool true), vk, vv, vp]] ++ (l67 ++ (F))) (by have h := r81; simp only [List.cons_append, List.nil_append, List.append_assoc] at h; exact h) ((RL.rep 1 (.str [])).set 0 (.str t)) o43 (show i22 ≤ vs.length by omega) (by omega)
    have s88 : Sat H84 Z ((.obj b77 (.cells (Rp.set (.rep 1 (.str [])) 0 (.str t)) false false)) :: (.cells b29 [(.bool true), v66, v40, .nils]) :: (.obj b61 (.cells (Rp.set (.rep 1 (.str [])) 0 (.str s)) false false)) :: (.cells b5 [(.bool false), .nils, .nils, .nils]) :: (.cells b1 [(.bool true), vk, vv, vp]) :: (l83 ++ (l67 ++ F))) := by have h := Sat.rot (l₁ := l83) (hl := [.obj b77 (.cells (Rp.set (.rep 1 (.str [])) 0 (.str t)) false false), .cells b29 [(.bool true), v66, v40, .nils], .obj b61 (.cells (Rp.set (.rep 1 (.str [])) 0 (.str s)) false false), .cells b5 [(.bool false), .nils, .nils, .nils], .cells b1 [(.bool true), vk, vv, vp]]) (F := l67 ++ (F)) (by simp only [List.cons_append, List.nil_append, List.append_assoc]; exact s86); simp only [List.cons_append, List.nil_append, List.append_assoc] at h; exact h
    refine wo_call (sum_ins (by omega) hI k87) (wo_x (v := (.ptr b29 2)) (ca_fla rfl rfl) ?_)
    have s89 := s88.pull 1
    obtain ⟨H90, s91, k92⟩ := s_st s89 2 v82 (Nat.le_of_ble_eq_true rfl) (hv := (own_sc (ins_row (ks := vs) o85)))
    refine wo_n (k92 rfl rfl) (wo_nil (thn_n (wp_seq (wp_reg ?_))))
    obtain ⟨r93, q94, k95⟩ := s_ldn s91 0 0 4 
    refine wo_x (v := (.agg r93)) (k95 rfl) ?_
    have s96 := s91.pull 3
    obtain ⟨H97, s98, k99⟩ := s_stn s96 q94 0 4 rfl (Nat.le_of_ble_eq_true rfl)
    refine wo_n (k99 rfl rfl) (wo_mv (.int .i64 0) (wo_nil (thn_n (wp_ret ?_))))
    refine fin_ct (w := (.int .i64 0)) (off := 0) s98 0 fun r100 q101 => ?_
    have s102 := s98.drop 0
    have s103 := s102.drop 0
    have s104 := s103.drop 0
    have s105 := s104.drop 0
    have s106 := s105.drop 0
    exact ⟨i22, _, _, _, _, _, h23, h24, h25, rfl, q101, (ins_row (ks := ks) o69), (ins_row (ks := vs) o85), s106⟩
  · refine wo_x (v := (.bool false)) (w_bin (cmp_lssF i22 ks.length (by omega))) (wo_mv (.bool false) (wo_noF (wo_noF (wo_noF (wo_noF ?_)))))
    refine wo_noF (wo_noF (wo_noF (wo_x (v := (.bool false)) (w_pickF rfl rfl) (wo_nil (thn_n ?_)))))
    refine wp_condF (wp_skip (thn_n (wp_seq (wp_reg (wo_x (v := (.ptr b29 1)) (ca_fla rfl rfl) ?_)))))
    refine wo_x (v := v33) (s_ld1 s48 0 rfl) (wo_mv (.int .i64 (.ofNat i22)) (wo_mv (.str s) ?_))
    obtain ⟨b107, H108, s109, k110⟩ := x_bsl s48 (Rp.set (.rep 1 (.str [])) 0 (.str s))
    refine wo_x (v := (.slc b107 0 1 1)) (k110 (fill_s (v := (.str s)) rfl rfl rfl fill_nil)) ?_
    have r111 := Sat.rot (H := H108) (Z := Z) (l₁ := [.obj b107 (.cells (Rp.set (.rep 1 (.str [])) 0 (.str s)) false false), .cells b29 [(.bool true), v33, v40, .nils], .cells b5 [(.bool false), .nils, .nils, .nils], .cells b1 [(.bool true), vk, vv, vp]] ++ (l42)) (hl := l35) (F := F) (by simp only [List.append_assoc]; exact s109)
    obtain ⟨v112, l113, H114, o115, s116, k117⟩ := ins_u (l := [.cells b29 [(.bool true), v33, v40, .nils], .cells b5 [(.bool false), .nils, .nils, .nils], .cells b1 [(.bool true), vk, vv, vp]] ++ (l42 ++ (F))) (by have h := r111; simp only [List.cons_append, List.nil_append, List.append_assoc] at h; exact h) ((RL.rep 1 (.str [])).set 0 (.str s)) o36 (show i22 ≤ ks.length by omega) (by omega)
    have s118 : Sat H114 Z ((.obj b107 (.cells (Rp.set (.rep 1 (.str [])) 0 (.str s)) false false)) :: (.cells b29 [(.bool true), v33, v40, .nils]) :: (.cells b5 [(.bool false), .nils, .nils, .nils]) :: (.cells b1 [(.bool true), vk, vv, vp]) :: (l42 ++ (l113 ++ F))) := by have h := Sat.rot (l₁ := l113) (hl := [.obj b107 (.cells (Rp.set (.rep 1 (.str [])) 0 (.str s)) false false), .cells b29 [(.bool true), v33, v40, .nils], .cells b5 [(.bool false), .nils, .nils, .nils], .cells b1 [(.bool true), vk, vv, vp]] ++ (l42)) (F := F) (by simp only [List.cons_append, List.nil_append, List.append_assoc]; exact s116); simp only [List.cons_append, List.nil_append, List.append_assoc] at h; exact h
    refine wo_call (sum_ins (by omega) hI k117) (wo_x (v := (.ptr b29 1)) (ca_fla rfl rfl) ?_)
    have s119 := s118.pull 1
    obtain ⟨H120, s121, k122⟩ := s_st s119 1 v112 (Nat.le_of_ble_eq_true rfl) (hv := (own_sc (ins_row (ks := ks) o115)))
    refine wo_n (k122 rfl rfl) (wo_nil (thn_n (wp_seq (wp_reg (wo_x (v := (.ptr b29 2)) (ca_fla rfl rfl) ?_)))))
    refine wo_x (v := v40) (s_ld1 s121 0 rfl) (wo_mv (.int .i64 (.ofNat i22)) (wo_mv (.str t) ?_))
    obtain ⟨b123, H124, s125, k126⟩ := x_bsl s121 (Rp.set (.rep 1 (.str [])) 0 (.str t))
    refine wo_x (v := (.slc b123 0 1 1)) (k126 (fill_s (v := (.str t)) rfl rfl rfl fill_nil)) ?_
    have r127 := Sat.rot (H := H124) (Z := Z) (l₁ := [.obj b123 (.cells (Rp.set (.rep 1 (.str [])) 0 (.str t)) false false), .cells b29 [(.bool true), v112, v40, .nils], .obj b107 (.cells (Rp.set (.rep 1 (.str [])) 0 (.str s)) false false), .cells b5 [(.bool false), .nils, .nils, .nils], .cells b1 [(.bool true), vk, vv, vp]]) (hl := l42) (F := l113 ++ (F)) (s125)
    obtain ⟨v128, l129, H130, o131, s132, k133⟩ := ins_u (l := [.cells b29 [(.bool true), v112, v40, .nils], .obj b107 (.cells (Rp.set (.rep 1 (.str [])) 0 (.str s)) false false), .cells b5 [(.bool false), .nils, .nils, .nils], .cells b1 [(.bool true), vk, vv, vp]] ++ (l113 ++ (F))) (by have h := r127; simp only [List.cons_append, List.nil_append, List.append_assoc] at h; exact h) ((RL.rep 1 (.str [])).set 0 (.str t)) o43 (show i22 ≤ vs.length by omega) (by omega)
    have s134 : Sat H130 Z ((.obj b123 (.cells (Rp.set (.rep 1 (.str [])) 0 (.str t)) false false)) :: (.cells b29 [(.bool true), v112, v40, .nils]) :: (.obj b107 (.cells (Rp.set (.rep 1 (.str [])) 0 (.str s)) false false)) :: (.cells b5 [(.bool false), .nils, .nils, .nils]) :: (.cells b1 [(.bool true), vk, vv, vp]) :: (l129 ++ (l113 ++ F))) := by have h := Sat.rot (l₁ := l129) (hl := [.obj b123 (.cells (Rp.set (.rep 1 (.str [])) 0 (.str t)) false false), .cells b29 [(.bool true), v112, v40, .nils], .obj b107 (.cells (Rp.set (.rep 1 (.str [])) 0 (.str s)) false false), .cells b5 [(.bool false), .nils, .nils, .nils], .cells b1 [(.bool true), vk, vv, vp]]) (F := l113 ++ (F)) (by simp only [List.cons_append, List.nil_append, List.append_assoc]; exact s132); simp only [List.cons_append, List.nil_append, List.append_assoc] at h; exact h
    refine wo_call (sum_ins (by omega) hI k133) (wo_x (v := (.ptr b29 2)) (ca_fla rfl rfl) ?_)
    have s135 := s134.pull 1
    obtain ⟨H136, s137, k138⟩ := s_st s135 2 v128 (Nat.le_of_ble_eq_true rfl) (hv := (own_sc (ins_row (ks := vs) o131)))
    refine wo_n (k138 rfl rfl) (wo_nil (thn_n (wp_seq (wp_reg ?_))))
    obtain ⟨r139, q140, k141⟩ := s_ldn s137 0 0 4 
    refine wo_x (v := (.agg r139)) (k141 rfl) ?_
    have s142 := s137.pull 3
    obtain ⟨H143, s144, k145⟩ := s_stn s142 q140 0 4 rfl (Nat.le_of_ble_eq_true rfl)
    refine wo_n (k145 rfl rfl) (wo_mv (.int .i64 0) (wo_nil (thn_n (wp_ret ?_))))
    refine fin_ct (w := (.int .i64 0)) (off := 0) s144 0 fun r146 q147 => ?_
    have s148 := s144.drop 0
    have s149 := s148.drop 0
    have s150 := s149.drop 0
    have s151 := s150.drop 0
    have s152 := s151.drop 0
    exact ⟨i22, _, _, _, _, _, h23, h24, h25, rfl, q147, (ins_row (ks := ks) o115), (ins_row (ks := vs) o131), s152⟩
theorem fl_hi2 {Z : Fz} {ks : List (List Nat)} {v : AV} (h : Fl Z 1 v (strs ks)) (j : Nat) (hj : j ≤ ks.length) :
    ∃ v', Fl Z 1 v' (strs (win ks 0 j)) ∧ ∀ {env : Env} {H : AH} {l : List Hl} {x a : Od}, Sat H Z l → ev env x = v → ev env a = .int .i64 (.ofNat j) → ∀ K : AV → AH → Bool, xop (.sll 1 x none (some a) none) env H K = K v' H := by
  have := fl_hi (by decide) h j (by rw [strs_len]; exact hj)
  rwa [show win (strs ks) 0 j = strs (win ks 0 j) from strs_win ks 0 j] at this
theorem fl_lo2 {Z : Fz} {ks : List (List Nat)} {v : AV} (h : Fl Z 1 v (strs ks)) (i : Nat) (hi : i ≤ ks.length) :
    ∃ v', Fl Z 1 v' (strs (win ks i ks.length)) ∧ ∀ {env : Env} {H : AH} {l : List Hl} {x a : Od}, Sat H Z l → ev env x = v → ev env a = .int .i64 (.ofNat i) → ∀ K : AV → AH → Bool, xop (.sll 1 x (some a) none none) env H K = K v' H := by
  have := fl_lo (by decide) h i (by rw [strs_len]; exact hi)
  rwa [strs_len, show win (strs ks) i ks.length = strs (win ks i ks.length) from strs_win ks i ks.length] at this
theorem delN_ok [PtN] [HvN] [NdN] [BkN] {tbl : Nat → Option FT} (T : PtT tbl) (TB : BkT tbl) (TD : NdT tbl) {ks vs : List (List Nat)} {ps : List PtrM} {vk vv vp : AV} {r : Rp AV} {s : List Nat} {N d : Nat} (hd : 10 ≤ d) {Z : Fz} {F : List Hl} {H : AH} (hs : Sat H Z (F)) (hr : RL r [.bool true, vk, vv, vp]) (hk : Fl Z 1 vk (strs ks)) (hv : Fl Z 1 vv (strs vs)) (hp : Fl Z 3 vp (ptrs ps)) (hm : SmallN N ks vs ps) (hF : FormN true ks vs ps) (hno : ∀ j, j < ks.length → ¬ txt ks j = s) :
    Ct (RUN tbl N d) (.fn (.fn (.func PtN.del)) [] []) [(.agg r), (.str s)] H fun v H' => ∃ q, v = .tup [.agg q, .int .i64 5] ∧ RL q [.bool false, .nils, .nils, .nils] ∧ Sat H' Z F := by
  obtain ⟨d, rfl⟩ : ∃ e, d = e + 10 := ⟨d - 10, by omega⟩
  have hkl := hm.k
  have hvl := hm.v
  have hpl := hm.p
  have hNk := hm.k'
  obtain ⟨fp, fv, _⟩ := hF.2.1 rfl
  refine ct_code T.del (b := b_pdel) (env := [(.agg r), (.str s), u_, u_, u_, u_, u_, u_, u_, u_, u_, u_, u_, u_, u_, u_, u_, u_, u_, u_, u_, u_, u_, u_, u_, u_, u_, u_, u_, u_, u_, u_, u_, u_, u_, u_, u_, u_, u_, u_, u_, u_, u_, u_, u_, u_]) ?_
  unfold b_pdel
  refine wp_seq (wp_reg ?_)
  obtain ⟨b1, H2, s3, k4⟩ := s_boxn hs hr
  refine wo_x (v := (.ptr b1 0)) (k4 rfl) ?_
  obtain ⟨b5, H6, s7, k8⟩ := s_alloc s3 (RL.cat (RL.one (.bool false)) (RL.rep 3 .nils) rfl)
  refine wo_x (v := (.ptr b5 0)) (k8) (wo_mv (.int .i64 0) (wo_nil (thn_n (wp_seq (wp_seq ?_)))))
  refine wp_reg (wo_x (v := (.ptr b1 0)) (ca_fla rfl rfl) (wo_x (v := (.bool true)) (s_ld1 s7 1 rfl) (wo_x (v := (.bool false)) (w_lit (fun K => rfl)) (wo_mv (.bool false) (wo_yesF ?_)))))
  obtain ⟨r9, q10, k11⟩ := s_ldn s7 1 0 4 
  refine wo_x (v := (.agg r9)) (k11 rfl) (wo_yesF ?_)
  obtain ⟨v12, H14, ⟨e13, s15⟩, k16⟩ := form_ok (N := N) (d := d + 9) TD (ks := ks) (vs := vs) (ps := ps) TB (by omega) s7 q10 hk hv hp hm.k hm.v hm.p hm.k' hm.v' hm.p' hm.q
  rw [dB_true hF] at e13
  subst e13
  refine wo_call k16 (wo_yesF (wo_x (v := (.bool false)) (w_lit (fun K => rfl)) (wo_x (v := (.bool false)) (w_pickF rfl rfl) (wo_nil (thn_n ?_)))))
  refine wp_condF (wp_skip (thn_n (wp_seq (wp_reg (wo_x (v := (.ptr b1 1)) (ca_fla rfl rfl) ?_)))))
  refine wo_x (v := vk) (s_ld1 s15 1 rfl) (wo_mv (.str s) ?_)
  obtain ⟨_, H17, ⟨rfl, s18⟩, k19⟩ := idxN_ok (N := N) (d := d + 9) T (by omega) s15 hk (by omega) (by omega) hno
  refine wo_call k19 (wo_mv (.int .i64 (-1)) (wo_nil (thn_n (wp_seq (wp_seq ?_)))))
  refine wp_reg (wo_mv (.int .i64 (-1)) (wo_x (v := (.bool true)) (w_lit (fun K => rfl)) (wo_nil (thn_n (wp_condT ?_)))))
  refine wp_seq (wp_reg (wo_x (v := (.agg (.cat 1 (.one (.bool false)) (.rep 3 .nils)))) (w_build (r := (.cat 1 (.one (.bool false)) (.rep 3 .nils))) fill_nil) ?_))
  obtain ⟨H20, s21, k22⟩ := s_stn s18 (RL.cat (RL.one (.bool false)) (RL.rep 3 .nils) rfl) 0 4 rfl (Nat.le_of_ble_eq_true rfl)
  refine wo_n (k22 rfl rfl) (wo_mv (.int .i64 5) (wo_nil (thn_n (wp_ret (thn_r ?_)))))
  refine fin_ct (w := (.int .i64 5)) (off := 0) s21 0 fun r23 q24 => ?_
  have s25 := s21.drop 0
  have s26 := s25.drop 0
  exact ⟨_, rfl, q24, s26⟩
theorem delY_ok [PtN] [HvN] [NdN] [BkN] {tbl : Nat → Option FT} (T : PtT tbl) (TB : BkT tbl) (TD : NdT tbl) (TH : HvT tbl) {ks vs : List (List Nat)} {ps : List PtrM} {vk vv vp : AV} {r : Rp AV} {s : List Nat} {i : Nat} {N d : Nat} (hd : 10 ≤ d) {Z : Fz} {F : List Hl} {H : AH} (hs : Sat H Z (F)) (hr : RL r [.bool true, vk, vv, vp]) (hk : Fl Z 1 vk (strs ks)) (hv : Fl Z 1 vv (strs vs)) (hp : Fl Z 3 vp (ptrs ps)) (hm : SmallN N ks vs ps) (hF : FormN true ks vs ps) (hi : i < ks.length) (he : txt ks i = s) (hno : ∀ j, j < i → ¬ txt ks j = s) (hsm : ks.length ≤ 1000000) (hN4 : 4 < N) :
    Ct (RUN tbl N d) (.fn (.fn (.func PtN.del)) [] []) [(.agg r), (.str s)] H fun v H' => ∃ q wk wv hk' hv', v = .tup [.agg q, .int .i64 0] ∧ RL q [.bool true, wk, wv, .nils] ∧ Own 1 wk (ks.take i ++ ks.drop (i + 1)).length (txC (ks.take i ++ ks.drop (i + 1))) hk' ∧ Own 1 wv (vs.take i ++ vs.drop (i + 1)).length (txC (vs.take i ++ vs.drop (i + 1))) hv' ∧ Sat H' Z (hv' ++ (hk' ++ F)) := by
  obtain ⟨d, rfl⟩ : ∃ e, d = e + 10 := ⟨d - 10, by omega⟩
  have hkl := hm.k
  have hvl := hm.v
  have hpl := hm.p
  have hNk := hm.k'
  obtain ⟨fp, fv, _⟩ := hF.2.1 rfl
  refine ct_code T.del (b := b_pdel) (env := [(.agg r), (.str s), u_, u_, u_, u_, u_, u_, u_, u_, u_, u_, u_, u_, u_, u_, u_, u_, u_, u_, u_, u_, u_, u_, u_, u_, u_, u_, u_, u_, u_, u_, u_, u_, u_, u_, u_, u_, u_, u_, u_, u_, u_, u_, u_, u_]) ?_
  unfold b_pdel
  refine wp_seq (wp_reg ?_)
  obtain ⟨b1, H2, s3, k4⟩ := s_boxn hs hr
  refine wo_x (v := (.ptr b1 0)) (k4 rfl) ?_
  obtain ⟨b5, H6, s7, k8⟩ := s_alloc s3 (RL.cat (RL.one (.bool false)) (RL.rep 3 .nils) rfl)
  refine wo_x (v := (.ptr b5 0)) (k8) (wo_mv (.int .i64 0) (wo_nil (thn_n (wp_seq (wp_seq ?_)))))
  refine wp_reg (wo_x (v := (.ptr b1 0)) (ca_fla rfl rfl) (wo_x (v := (.bool true)) (s_ld1 s7 1 rfl) (wo_x (v := (.bool false)) (w_lit (fun K => rfl)) (wo_mv (.bool false) (wo_yesF ?_)))))
  obtain ⟨r9, q10, k11⟩ := s_ldn s7 1 0 4 
  refine wo_x (v := (.agg r9)) (k11 rfl) (wo_yesF ?_)
  obtain ⟨v12, H14, ⟨e13, s15⟩, k16⟩ := form_ok (N := N) (d := d + 9) TD (ks := ks) (vs := vs) (ps := ps) TB (by omega) s7 q10 hk hv hp hm.k hm.v hm.p hm.k' hm.v' hm.p' hm.q
  rw [dB_true hF] at e13
  subst e13
  refine wo_call k16 (wo_yesF (wo_x (v := (.bool false)) (w_lit (fun K => rfl)) (wo_x (v := (.bool false)) (w_pickF rfl rfl) (wo_nil (thn_n ?_)))))
  refine wp_condF (wp_skip (thn_n (wp_seq (wp_reg (wo_x (v := (.ptr b1 1)) (ca_fla rfl rfl) ?_)))))
  refine wo_x (v := vk) (s_ld1 s15 1 rfl) (wo_mv (.str s) ?_)
  obtain ⟨_, H17, ⟨rfl, s18⟩, k19⟩ := idxY_ok (N := N) (d := d + 9) T (i := i) (by omega) s15 hk (by omega) (by omega) hi he hno
  refine wo_call k19 (wo_mv (.int .i64 (.ofNat i)) (wo_nil (thn_n (wp_seq (wp_seq ?_)))))
  refine wp_reg (wo_mv (.int .i64 (.ofNat i)) (wo_x (v := (.bool false)) (w_bin (cmp_lssF i 0 (by omega))) (wo_nil (thn_n (wp_condF ?_)))))
  refine wp_skip (thn_n (wp_seq (wp_dreg (wd_run (wo_x (v := (.ptr b1 1)) (ca_fla rfl rfl) ?_)))))
  refine wo_nil (wd_run (wo_x (v := vk) (s_ld1 s18 1 rfl) (wo_nil (wd_run (wo_mv (.int .i64 (.ofNat i)) ?_)))))
  refine wo_nil (wd_run ?_)
  obtain ⟨v20, h21, k22⟩ := fl_hi2 hk i (by omega)
  refine wo_x (v := v20) (k22 s18 rfl rfl) (wo_nil (wd_run (wo_x (v := (.ptr b1 1)) (ca_fla rfl rfl) (wo_nil (wd_run ?_)))))
  refine wo_x (v := vk) (s_ld1 s18 1 rfl) (wo_nil (wd_run (wo_mv (.int .i64 (.ofNat i)) (wo_nil (wd_run ?_)))))
  refine wo_x (v := (.int .i64 (.ofNat (i + 1)))) (w_bin (add_i64 i 1 (by omega) _ _)) (wo_nil (wd_run ?_))
  obtain ⟨v23, h24, k25⟩ := fl_lo2 hk (i + 1) (by omega)
  refine wo_x (v := v23) (k25 s18 rfl rfl) (wo_nil (wd_run ?_))
  obtain ⟨b26, H27, s28, k29⟩ := s_bsl s18 (((RL.rep 2 .nils).set 0 v20).set 1 v23)
  refine wo_x (v := (.slc b26 0 2 2)) (k29 (fill_s (v := v20) rfl (fl_sc h21) rfl (fill_s (v := v23) rfl (fl_sc h24) rfl fill_nil))) (wo_nil (wd_run (wo_x (v := (.ptr b1 2)) (ca_fla rfl rfl) (wo_nil (wd_run ?_)))))
  refine wo_x (v := vv) (s_ld1 s28 2 rfl) (wo_nil (wd_run (wo_mv (.int .i64 (.ofNat i)) (wo_nil (wd_run ?_)))))
  obtain ⟨v30, h31, k32⟩ := fl_hi2 hv i (by omega)
  refine wo_x (v := v30) (k32 s28 rfl rfl) (wo_nil (wd_run (wo_x (v := (.ptr b1 2)) (ca_fla rfl rfl) (wo_nil (wd_run ?_)))))
  refine wo_x (v := vv) (s_ld1 s28 2 rfl) (wo_nil (wd_run (wo_mv (.int .i64 (.ofNat i)) (wo_nil (wd_run ?_)))))
  refine wo_x (v := (.int .i64 (.ofNat (i + 1)))) (w_bin (add_i64 i 1 (by omega) _ _)) (wo_nil (wd_run ?_))
  obtain ⟨v33, h34, k35⟩ := fl_lo2 hv (i + 1) (by omega)
  refine wo_x (v := v33) (k35 s28 rfl rfl) (wo_nil (wd_run ?_))
  obtain ⟨b36, H37, s38, k39⟩ := s_bsl s28 (((RL.rep 2 .nils).set 0 v30).set 1 v33)
  refine wo_x (v := (.slc b36 0 2 2)) (k39 (fill_s (v := v30) rfl (fl_sc h31) rfl (fill_s (v := v33) rfl (fl_sc h34) rfl fill_nil))) (wo_nil (wd_nil (ws_cons ?_)))
  have s40 := s38.pull 1
  obtain ⟨v41, H42, ⟨l43, o44, s45⟩, k46⟩ := conS2_ok TH (N := N) (d := d + 9) (by omega) s40 h21 (Nat.le_trans win_le (by omega)) h24 (Nat.le_trans win_le (by omega)) (by omega)
  have s47 : Sat H42 Z ((.cells b36 [v30, v33]) :: (.cells b5 [(.bool false), .nils, .nils, .nils]) :: (.cells b1 [(.bool true), vk, vv, vp]) :: (l43 ++ F)) := Sat.rot (l₁ := l43) (hl := [.cells b36 [v30, v33], .cells b5 [(.bool false), .nils, .nils, .nils], .cells b1 [(.bool true), vk, vv, vp]]) s45
  refine wo_call k46 (wo_nil (wd_again (v := vv) (hs := fl_same hv) (s_ld1 s47 2 rfl) (wd_again (v := v30) (hs := fl_same h31) (k32 s47 rfl rfl) (wd_again (v := vv) (hs := fl_same hv) (s_ld1 s47 2 rfl) (wd_again (v := (.int .i64 (.ofNat (i + 1)))) (hs := same_int) (w_bin (add_i64 i 1 (by omega) _ _)) ?_)))))
  refine wd_again (v := v33) (hs := fl_same h34) (k35 s47 rfl rfl) (wd_nil (ws_cons ?_))
  obtain ⟨v48, H49, ⟨l50, o51, s52⟩, k53⟩ := conS2_ok TH (N := N) (d := d + 9) (by omega) s47 h31 (Nat.le_trans win_le (by omega)) h34 (Nat.le_trans win_le (by omega)) (by omega)
  have s54 : Sat H49 Z ((.cells b5 [(.bool false), .nils, .nils, .nils]) :: (.cells b1 [(.bool true), vk, vv, vp]) :: (l50 ++ (l43 ++ F))) := Sat.rot (l₁ := l50) (hl := [.cells b5 [(.bool false), .nils, .nils, .nils], .cells b1 [(.bool true), vk, vv, vp]]) s52
  refine wo_call k53 (wo_nil (wd_run (wo_x (v := (.agg (Rp.set (Rp.set (Rp.set (.cat 1 (.one (.bool false)) (.rep 3 .nils)) 0 (.bool true)) 1 v41) 2 v48))) (w_build (r := (Rp.set (Rp.set (Rp.set (.cat 1 (.one (.bool false)) (.rep 3 .nils)) 0 (.bool true)) 1 v41) 2 v48)) (fill_s (v := (.bool true)) rfl rfl rfl (fill_s (v := v41) rfl (own_sc o44) rfl (fill_s (v := v48) rfl (own_sc o51) rfl fill_nil)))) (wo_nil (wd_nil ?_)))))
  refine ws_cons ?_
  obtain ⟨H55, s56, k57⟩ := s_stn s54 ((((RL.cat (RL.one (.bool false)) (RL.rep 3 .nils) rfl).set 0 (.bool true)).set 1 v41).set 2 v48) 0 4 rfl (Nat.le_of_ble_eq_true rfl)
  refine wo_n (k57 rfl rfl) (wo_nil (wd_run (wo_mv (.int .i64 0) (wo_nil (wd_nil ?_)))))
  refine ws_nil (thn_n (wp_ret ?_))
  refine fin_ct (w := (.int .i64 0)) (off := 0) s56 0 fun r58 q59 => ?_
  have s60 := s56.drop 0
  have s61 := s60.drop 0
  exact ⟨_, _, _, _, _, rfl, q59, (by have h := o44; rw [win_hi, win_lo] at h; exact h), (by have h := o51; rw [win_hi, win_lo] at h; exact h), s61⟩
end
end Go.Jt
