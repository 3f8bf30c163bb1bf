/-
  jettylaw12's helpers. PRINTED by wip/tools/mkback.py.
-/
import Derived.Test.YtehjgplolaekmaaJtNd
import Derived.Test.YtehjgplolaekmaaJtOwn2
set_option autoImplicit false
set_option linter.all false
set_option maxRecDepth 10000
set_option maxHeartbeats 8000000
namespace Go.Jt
noncomputable section
variable [Gl]
class NbN where
  long : Nat
  given : Nat
  back : Nat
  same : Nat
def b_hlong [NbN] : IR := (.seq (.reg [xo 1 (.box t0), xo 2 (.mv (.cst (.bool false)))]) (.seq (.seq (.reg [xo 5 (.fla 1 t1), xo 6 (.ld1 t5), xo 7 (.len 1 t6), xo 8 (.bin .gtr 0 t7 (.cst (.int .i64 150))), mv 9 t8, ⟨some 10, .fla 2 t1, some (9, false)⟩, ⟨some 11, .ld1 t10, some (9, false)⟩, ⟨some 12, .len 1 t11, some (9, false)⟩, ⟨some 13, .bin .gtr 0 t12 (.cst (.int .i64 150)), some (9, false)⟩, xo 14 (.pick t9 (.cst (.bool true)) t13), mv 15 t14, ⟨some 16, .fla 3 t1, some (15, false)⟩, ⟨some 17, .ld1 t16, some (15, false)⟩, ⟨some 18, .len 1 t17, some (15, false)⟩, ⟨some 19, .bin .gtr 0 t18 (.cst (.int .i64 150)), some (15, false)⟩, xo 20 (.pick t15 (.cst (.bool true)) t19)]) (.cond t20 (.seq (.reg [xo 2 (.mv (.cst (.bool true)))]) .ret) .skip)) (.seq (.seq (.reg [xo 3 (.mv (.cst (.int .i64 0)))]) (.block 0 (.loop (.seq (.seq (.reg [mv 21 t3, xo 22 (.fla 1 t1), xo 23 (.ld1 t22), xo 24 (.len 1 t23), xo 25 (.bin .lss 0 t21 t24)]) (.cond t25 .skip (.exit 0))) (.seq (.block 1 (.seq (.reg [xo 28 (.fla 1 t1), xo 29 (.ld1 t28), mv 30 t3, xo 31 (.ixs 1 t29 t30), xo 32 (.ld1 t31), xo 33 (.len 0 t32), xo 34 (.bin .gtr 0 t33 (.cst (.int .i64 1000)))]) (.cond t34 (.seq (.reg [xo 2 (.mv (.cst (.bool true)))]) .ret) .skip))) (.reg [mv 26 t3, xo 27 (.bin .add 0 t26 (.cst (.int .i64 1))), mv 3 t27])))))) (.seq (.seq (.reg [xo 4 (.mv (.cst (.int .i64 0)))]) (.block 2 (.loop (.seq (.seq (.reg [mv 35 t4, xo 36 (.fla 2 t1), xo 37 (.ld1 t36), xo 38 (.len 1 t37), xo 39 (.bin .lss 0 t35 t38)]) (.cond t39 .skip (.exit 2))) (.seq (.block 3 (.seq (.reg [xo 42 (.fla 2 t1), xo 43 (.ld1 t42), mv 44 t4, xo 45 (.ixs 1 t43 t44), xo 46 (.ld1 t45), xo 47 (.len 0 t46), xo 48 (.bin .gtr 0 t47 (.cst (.int .i64 1000)))]) (.cond t48 (.seq (.reg [xo 2 (.mv (.cst (.bool true)))]) .ret) .skip))) (.reg [mv 40 t4, xo 41 (.bin .add 0 t40 (.cst (.int .i64 1))), mv 4 t41])))))) (.seq (.reg [xo 2 (.mv (.cst (.bool false)))]) .ret)))))
def ir_hlong [NbN] : FnIR := ⟨49, [.tmp 2], b_hlong⟩
def b_hgiven [NbN] : IR := (.seq (.reg [xo 1 (.box t0), xo 2 (.alloc (.cat 1 (.one (.bool false)) (.rep 3 .nils)))]) (.seq (.dreg [.run (xo 3 (.fla 0 t1)), .run (xo 4 (.ld1 t3)), .run (xo 5 (.bsl 0 (.rep 0 (.str [])) [])), .run (xo 6 (.fla 1 t1)), .run (xo 7 (.ld1 t6)), .run (xo 9 (.bsl 0 (.rep 0 (.str [])) [])), .run (xo 10 (.fla 2 t1)), .run (xo 11 (.ld1 t10)), .run (xo 13 (.bsl 0 .nil [])), .run (xo 14 (.fla 3 t1)), .run (xo 15 (.ld1 t14))] [(xo 8 (.app 1 16 (.one (.str [])) false t5 t7), [.again (xo 4 (.ld1 t3)), .again (xo 11 (.ld1 t10)), .again (xo 15 (.ld1 t14))]), (xo 12 (.app 1 16 (.one (.str [])) false t9 t11), [.again (xo 4 (.ld1 t3)), .again (xo 15 (.ld1 t14))]), (xo 16 (.app 3 24 (.cat 2 (.rep 2 (.int .i64 0)) (.one (.int .u64 0))) false t13 t15), [.again (xo 4 (.ld1 t3)), .run (xo 17 (.build (.cat 1 (.one (.bool false)) (.rep 3 .nils)) [(0, 1, t4), (1, 1, t8), (2, 1, t12), (3, 1, t16)]))]), (⟨none, .st 4 t2 t17, none⟩, [])]) .ret))
def ir_hgiven [NbN] : FnIR := ⟨18, [.cell 2 4 true], b_hgiven⟩
def b_hback [NbN] : IR := (.seq (.reg [xo 1 (.box t0), xo 2 (.alloc (.cat 1 (.one (.bool false)) (.rep 3 .nils)))]) (.seq (.dreg [.run (xo 7 (.fla 0 t1)), .run (xo 8 (.ld1 t7)), .run (xo 9 (.bsl 0 (.rep 0 (.str [])) [])), .run (xo 10 (.fla 1 t1)), .run (xo 11 (.ld1 t10)), .run (xo 13 (.bsl 0 (.rep 0 (.str [])) [])), .run (xo 14 (.fla 2 t1)), .run (xo 15 (.ld1 t14)), .run (xo 17 (.bsl 0 .nil [])), .run (xo 18 (.fla 3 t1)), .run (xo 19 (.ld1 t18)), .run (xo 3 (.alloc (.cat 1 (.one (.bool false)) (.rep 3 .nils))))] [(xo 12 (.app 1 16 (.one (.str [])) false t9 t11), [.again (xo 8 (.ld1 t7)), .again (xo 15 (.ld1 t14)), .again (xo 19 (.ld1 t18))]), (xo 16 (.app 1 16 (.one (.str [])) false t13 t15), [.again (xo 8 (.ld1 t7)), .again (xo 19 (.ld1 t18))]), (xo 20 (.app 3 24 (.cat 2 (.rep 2 (.int .i64 0)) (.one (.int .u64 0))) false t17 t19), [.again (xo 8 (.ld1 t7)), .run (xo 21 (.build (.cat 1 (.one (.bool false)) (.rep 3 .nils)) [(0, 1, t8), (1, 1, t12), (2, 1, t16), (3, 1, t20)]))]), (⟨none, .st 4 t3 t21, none⟩, [])]) (.seq (.seq (.reg [xo 4 (.mv (.cst (.int .i64 0)))]) (.block 0 (.loop (.seq (.seq (.reg [mv 22 t4, xo 23 (.fla 1 t1), xo 24 (.ld1 t23), xo 25 (.len 1 t24), xo 26 (.bin .lss 0 t22 t25)]) (.cond t26 .skip (.exit 0))) (.seq (.block 1 (.reg [xo 29 (.fla 1 t1), xo 30 (.ld1 t29), mv 31 t4, xo 32 (.ixs 1 t30 t31), ⟨none, .st 1 t32 (.cst (.str [115, 112, 111, 105, 108, 116])), none⟩])) (.reg [mv 27 t4, xo 28 (.bin .add 0 t27 (.cst (.int .i64 1))), mv 4 t28])))))) (.seq (.seq (.reg [xo 5 (.mv (.cst (.int .i64 0)))]) (.block 2 (.loop (.seq (.seq (.reg [mv 33 t5, xo 34 (.fla 2 t1), xo 35 (.ld1 t34), xo 36 (.len 1 t35), xo 37 (.bin .lss 0 t33 t36)]) (.cond t37 .skip (.exit 2))) (.seq (.block 3 (.reg [xo 40 (.fla 2 t1), xo 41 (.ld1 t40), mv 42 t5, xo 43 (.ixs 1 t41 t42), ⟨none, .st 1 t43 (.cst (.str [115, 112, 111, 105, 108, 116])), none⟩])) (.reg [mv 38 t5, xo 39 (.bin .add 0 t38 (.cst (.int .i64 1))), mv 5 t39])))))) (.seq (.seq (.reg [xo 6 (.mv (.cst (.int .i64 0)))]) (.block 4 (.loop (.seq (.seq (.reg [mv 44 t6, xo 45 (.fla 3 t1), xo 46 (.ld1 t45), xo 47 (.len 1 t46), xo 48 (.bin .lss 0 t44 t47)]) (.cond t48 .skip (.exit 4))) (.seq (.block 5 (.reg [xo 51 (.fla 3 t1), xo 52 (.ld1 t51), mv 53 t6, xo 54 (.build (.cat 2 (.rep 2 (.int .i64 0)) (.one (.int .u64 0))) [(0, 1, (.cst (.int .i64 (-1))))]), xo 55 (.ixs 3 t52 t53), ⟨none, .st 3 t55 t54, none⟩])) (.reg [mv 49 t6, xo 50 (.bin .add 0 t49 (.cst (.int .i64 1))), mv 6 t50])))))) (.seq (.reg [xo 56 (.ldn 4 t3), ⟨none, .st 4 t2 t56, none⟩]) .ret))))))
def ir_hback [NbN] : FnIR := ⟨57, [.cell 2 4 true], b_hback⟩
def b_hsame [NbN] : IR := (.seq (.reg [xo 2 (.box t0), xo 3 (.box t1), xo 4 (.mv (.cst (.bool false)))]) (.seq (.seq (.reg [xo 8 (.fla 0 t2), xo 9 (.ld1 t8), xo 10 (.fla 0 t3), xo 11 (.ld1 t10), xo 12 (.bin .neq 1 t9 t11), mv 13 t12, ⟨some 14, .fla 1 t2, some (13, false)⟩, ⟨some 15, .ld1 t14, some (13, false)⟩, ⟨some 16, .len 1 t15, some (13, false)⟩, ⟨some 17, .fla 1 t3, some (13, false)⟩, ⟨some 18, .ld1 t17, some (13, false)⟩, ⟨some 19, .len 1 t18, some (13, false)⟩, ⟨some 20, .bin .neq 0 t16 t19, some (13, false)⟩, xo 21 (.pick t13 (.cst (.bool true)) t20), mv 22 t21, ⟨some 23, .fla 2 t2, some (22, false)⟩, ⟨some 24, .ld1 t23, some (22, false)⟩, ⟨some 25, .len 1 t24, some (22, false)⟩, ⟨some 26, .fla 2 t3, some (22, false)⟩, ⟨some 27, .ld1 t26, some (22, false)⟩, ⟨some 28, .len 1 t27, some (22, false)⟩, ⟨some 29, .bin .neq 0 t25 t28, some (22, false)⟩, xo 30 (.pick t22 (.cst (.bool true)) t29), mv 31 t30, ⟨some 32, .fla 3 t2, some (31, false)⟩, ⟨some 33, .ld1 t32, some (31, false)⟩, ⟨some 34, .len 1 t33, some (31, false)⟩, ⟨some 35, .fla 3 t3, some (31, false)⟩, ⟨some 36, .ld1 t35, some (31, false)⟩, ⟨some 37, .len 1 t36, some (31, false)⟩, ⟨some 38, .bin .neq 0 t34 t37, some (31, false)⟩, xo 39 (.pick t31 (.cst (.bool true)) t38)]) (.cond t39 (.seq (.reg [xo 4 (.mv (.cst (.bool false)))]) .ret) .skip)) (.seq (.seq (.reg [xo 5 (.mv (.cst (.int .i64 0)))]) (.block 0 (.loop (.seq (.seq (.reg [mv 40 t5, xo 41 (.fla 1 t2), xo 42 (.ld1 t41), xo 43 (.len 1 t42), xo 44 (.bin .lss 0 t40 t43)]) (.cond t44 .skip (.exit 0))) (.seq (.block 1 (.seq (.dreg [.run (xo 47 (.fla 1 t2)), .run (xo 48 (.ld1 t47)), .run (mv 49 t5), .run (xo 50 (.ixs 1 t48 t49)), .run (xo 51 (.ld1 t50)), .run (xo 52 (.fla 1 t3)), .run (xo 53 (.ld1 t52)), .run (mv 54 t5), .run (xo 55 (.ixs 1 t53 t54)), .run (xo 56 (.ld1 t55)), .run (xo 57 (.bin .neq 0 t51 t56))] []) (.cond t57 (.seq (.reg [xo 4 (.mv (.cst (.bool false)))]) .ret) .skip))) (.reg [mv 45 t5, xo 46 (.bin .add 0 t45 (.cst (.int .i64 1))), mv 5 t46])))))) (.seq (.seq (.reg [xo 6 (.mv (.cst (.int .i64 0)))]) (.block 2 (.loop (.seq (.seq (.reg [mv 58 t6, xo 59 (.fla 2 t2), xo 60 (.ld1 t59), xo 61 (.len 1 t60), xo 62 (.bin .lss 0 t58 t61)]) (.cond t62 .skip (.exit 2))) (.seq (.block 3 (.seq (.dreg [.run (xo 65 (.fla 2 t2)), .run (xo 66 (.ld1 t65)), .run (mv 67 t6), .run (xo 68 (.ixs 1 t66 t67)), .run (xo 69 (.ld1 t68)), .run (xo 70 (.fla 2 t3)), .run (xo 71 (.ld1 t70)), .run (mv 72 t6), .run (xo 73 (.ixs 1 t71 t72)), .run (xo 74 (.ld1 t73)), .run (xo 75 (.bin .neq 0 t69 t74))] []) (.cond t75 (.seq (.reg [xo 4 (.mv (.cst (.bool false)))]) .ret) .skip))) (.reg [mv 63 t6, xo 64 (.bin .add 0 t63 (.cst (.int .i64 1))), mv 6 t64])))))) (.seq (.seq (.reg [xo 7 (.mv (.cst (.int .i64 0)))]) (.block 4 (.loop (.seq (.seq (.reg [mv 76 t7, xo 77 (.fla 3 t2), xo 78 (.ld1 t77), xo 79 (.len 1 t78), xo 80 (.bin .lss 0 t76 t79)]) (.cond t80 .skip (.exit 4))) (.seq (.block 5 (.seq (.dreg [.run (xo 83 (.fla 3 t2)), .run (xo 84 (.ld1 t83)), .run (mv 85 t7), .run (xo 86 (.ixs 3 t84 t85)), .run (xo 87 (.ldn 3 t86)), .run (xo 88 (.fla 3 t3)), .run (xo 89 (.ld1 t88)), .run (mv 90 t7), .run (xo 91 (.ixs 3 t89 t90)), .run (xo 92 (.ldn 3 t91)), .run (xo 93 (.eqa true [0, 0, 0] t87 t92))] []) (.cond t93 (.seq (.reg [xo 4 (.mv (.cst (.bool false)))]) .ret) .skip))) (.reg [mv 81 t7, xo 82 (.bin .add 0 t81 (.cst (.int .i64 1))), mv 7 t82])))))) (.seq (.reg [xo 4 (.mv (.cst (.bool true)))]) .ret))))))
def ir_hsame [NbN] : FnIR := ⟨94, [.tmp 4], b_hsame⟩
structure NbT [NbN] (tbl : Nat → Option FT) : Prop where
  long : tbl NbN.long = some (.code ir_hlong)
  given : tbl NbN.given = some (.code ir_hgiven)
  back : tbl NbN.back = some (.code ir_hback)
  same : tbl NbN.same = some (.code ir_hsame)
/-- not long -/
def NL (ks vs : List (List Nat)) (ps : List PtrM) : Prop := ks.length ≤ 150 ∧ vs.length ≤ 150 ∧ ps.length ≤ 150 ∧ (∀ i, i < ks.length → (txt ks i).length ≤ 1000) ∧ ∀ i, i < vs.length → (txt vs i).length ≤ 1000
theorem long_ok [NbN] {tbl : Nat → Option FT} (T : NbT tbl) {lf : Bool} {ks vs : List (List Nat)} {ps : List PtrM} {vk vv vp : AV} {r : Rp AV} {N d : Nat} (hd : 1 ≤ d) {Z : Fz} {F : List Hl} {H : AH} (hs : Sat H Z (F)) (hr : RL r [.bool lf, vk, vv, vp]) (hk : Fl Z 1 vk (strs ks)) (hv : Fl Z 1 vv (strs vs)) (hp : Fl Z 3 vp (ptrs ps)) (hkl : ks.length ≤ 9223372036854775807) (hvl : vs.length ≤ 9223372036854775807) (hpl : ps.length ≤ 9223372036854775807) (hN : 200 < N) :
    Ct (RUN tbl N d) (.fn (.fn (.func NbN.long)) [] []) [(.agg r)] H fun v H' => v = .bool (dB (¬ NL ks vs ps)) ∧ Sat H' Z F := by
  obtain ⟨d, rfl⟩ : ∃ e, d = e + 1 := ⟨d - 1, by omega⟩
  refine ct_code T.long (b := b_hlong) (env := [(.agg r), u_, u_, u_, u_, u_, u_, u_, u_, u_, u_, u_, u_, u_, u_, u_, u_, u_, u_, u_, u_, u_, u_, u_, u_, u_, u_, u_, u_, u_, u_, u_, u_, u_, u_, u_, u_, u_, u_, u_, u_, u_, u_, u_, u_, u_, u_, u_, u_]) ?_
  unfold b_hlong
  refine wp_seq (wp_reg ?_)
  obtain ⟨b1, H2, s3, k4⟩ := s_boxn hs hr
  refine wo_x (v := (.ptr b1 0)) (k4 rfl) (wo_mv (.bool false) (wo_nil (thn_n (wp_seq (wp_seq ?_)))))
  refine wp_reg (wo_x (v := (.ptr b1 1)) (ca_fla rfl rfl) (wo_x (v := vk) (s_ld1 s3 0 rfl) (wo_x (v := (.int .i64 (.ofNat ks.length))) (fl_len hk (strs_len ks) rfl) ?_)))
  by_cases c5 : 150 < ks.length
  · refine wo_x (v := (.bool true)) (w_bin (cmp_gtrT ks.length 150 (by omega))) (wo_mv (.bool true) (wo_noT (wo_noT (wo_noT (wo_noT ?_)))))
    refine wo_x (v := (.bool true)) (w_pickT rfl rfl) (wo_mv (.bool true) (wo_noT (wo_noT (wo_noT (wo_noT ?_)))))
    refine wo_x (v := (.bool true)) (w_pickT rfl rfl) (wo_nil (thn_n (wp_condT (wp_seq (wp_reg ?_)))))
    refine wo_mv (.bool true) (wo_nil (thn_n (wp_ret (thn_r ?_))))
    have s6 := s3.drop 0
    exact fin_1 (.bool true) ⟨congrArg AV.bool (dB_true (fun h => by unfold NL at h; omega)).symm, s6⟩
  · refine wo_x (v := (.bool false)) (w_bin (cmp_gtrF ks.length 150 (by omega))) (wo_mv (.bool false) (wo_yesF (wo_x (v := (.ptr b1 2)) (ca_fla rfl rfl) (wo_yesF (wo_x (v := vv) (s_ld1 s3 0 rfl) ?_)))))
    refine wo_yesF (wo_x (v := (.int .i64 (.ofNat vs.length))) (fl_len hv (strs_len vs) rfl) ?_)
    by_cases c7 : 150 < vs.length
    · refine wo_yesF (wo_x (v := (.bool true)) (w_bin (cmp_gtrT vs.length 150 (by omega))) (wo_x (v := (.bool true)) (w_pickF rfl rfl) (wo_mv (.bool true) (wo_noT (wo_noT ?_)))))
      refine wo_noT (wo_noT (wo_x (v := (.bool true)) (w_pickT rfl rfl) (wo_nil (thn_n (wp_condT ?_)))))
      refine wp_seq (wp_reg (wo_mv (.bool true) (wo_nil (thn_n (wp_ret ?_)))))
      refine thn_r ?_
      have s8 := s3.drop 0
      exact fin_1 (.bool true) ⟨congrArg AV.bool (dB_true (fun h => by unfold NL at h; omega)).symm, s8⟩
    · refine wo_yesF (wo_x (v := (.bool false)) (w_bin (cmp_gtrF vs.length 150 (by omega))) (wo_x (v := (.bool false)) (w_pickF rfl rfl) (wo_mv (.bool false) (wo_yesF (wo_x (v := (.ptr b1 3)) (ca_fla rfl rfl) ?_)))))
      refine wo_yesF (wo_x (v := vp) (s_ld1 s3 0 rfl) (wo_yesF (wo_x (v := (.int .i64 (.ofNat ps.length))) (fl_len hp (ptrs_len ps) rfl) ?_)))
      by_cases c9 : 150 < ps.length
      · refine wo_yesF (wo_x (v := (.bool true)) (w_bin (cmp_gtrT ps.length 150 (by omega))) (wo_x (v := (.bool true)) (w_pickF rfl rfl) (wo_nil (thn_n (wp_condT ?_)))))
        refine wp_seq (wp_reg (wo_mv (.bool true) (wo_nil (thn_n (wp_ret ?_)))))
        refine thn_r ?_
        have s10 := s3.drop 0
        exact fin_1 (.bool true) ⟨congrArg AV.bool (dB_true (fun h => by unfold NL at h; omega)).symm, s10⟩
      · refine wo_yesF (wo_x (v := (.bool false)) (w_bin (cmp_gtrF ps.length 150 (by omega))) (wo_x (v := (.bool false)) (w_pickF rfl rfl) (wo_nil (thn_n (wp_condF ?_)))))
        refine wp_skip (thn_n (wp_seq (wp_seq (wp_reg (wo_mv (.int .i64 0) ?_)))))
        refine wo_nil (thn_n (wp_block ?_))
        refine wp_loop (fun ms_ env ds H => ∃ (i : Nat), ∃ ys11 : List AV, ms_ = ks.length - i ∧ env = [(.agg r), (.ptr b1 0), (lget ys11 0), (.int .i64 (.ofNat i)), u_, (.ptr b1 1), vk, (.int .i64 (.ofNat ks.length)), (.bool false), (.bool false), (.ptr b1 2), vv, (.int .i64 (.ofNat vs.length)), (.bool false), (.bool false), (.bool false), (.ptr b1 3), vp, (.int .i64 (.ofNat ps.length)), (.bool false), (.bool false), (lget ys11 1), (lget ys11 2), (lget ys11 3), (lget ys11 4), (lget ys11 5), (lget ys11 6), (lget ys11 7), (lget ys11 8), (lget ys11 9), (lget ys11 10), (lget ys11 11), (lget ys11 12), (lget ys11 13), (lget ys11 14), u_, u_, u_, u_, u_, u_, u_, u_, u_, u_, u_, u_, u_, u_] ∧ ds = [] ∧ Sat H Z ((.cells b1 [(.bool lf), vk, vv, vp]) :: F) ∧ (i ≤ ks.length) ∧ (∀ m, m < i → (txt ks m).length ≤ 1000)) (ks.length - 0) (by omega) ⟨0, [(.bool false), u_, u_, u_, u_, u_, u_, u_, u_, u_, u_, u_, u_, u_, u_], rfl, rfl, rfl, s3, (by omega), (by intro m hm; omega)⟩ ?_
        rintro ms_ env ds H hms_ ⟨i, ys11, rfl, rfl, rfl, s12, hi, hal⟩
        refine wp_seq (wp_seq (wp_reg (wo_mv (.int .i64 (.ofNat i)) (wo_x (v := (.ptr b1 1)) (ca_fla rfl rfl) (wo_x (v := vk) (s_ld1 s12 0 rfl) ?_)))))
        refine wo_x (v := (.int .i64 (.ofNat ks.length))) (fl_len hk (strs_len ks) rfl) ?_
        by_cases c13 : i < ks.length
        · refine wo_x (v := (.bool true)) (w_bin (cmp_lssT i ks.length (by omega))) (wo_nil (thn_n (wp_condT (wp_skip (thn_n ?_)))))
          refine wp_seq (wp_block (wp_seq (wp_reg (wo_x (v := (.ptr b1 1)) (ca_fla rfl rfl) (wo_x (v := vk) (s_ld1 s12 0 rfl) ?_)))))
          refine wo_mv (.int .i64 (.ofNat i)) ?_
          obtain ⟨b14, o15, L16, z17, g18, e19, n20, k21⟩ := fl_ix hk i (strs_get (show i < ks.length by omega))
          refine wo_x (v := (.ptr b14 o15)) (k21 rfl rfl) (wo_x (v := (.str (txt ks i))) (s_zld1 s12 z17 (g18 0 _ rfl)) (wo_x (v := (.int .i64 (.ofNat ((txt ks i).length)))) (w_lens (s := (txt ks i)) (n := ((txt ks i).length)) rfl rfl) ?_))
          by_cases c22 : 1000 < (txt ks i).length
          · refine wo_x (v := (.bool true)) (w_bin (cmp_gtrT ((txt ks i).length) 1000 (by omega))) (wo_nil (thn_n (wp_condT (wp_seq (wp_reg ?_)))))
            refine wo_mv (.bool true) (wo_nil (thn_n (wp_ret (blk_r (thn_r ?_)))))
            refine lpq_r (blk_r (thn_r ?_))
            have s23 := s12.drop 0
            exact fin_1 (.bool true) ⟨congrArg AV.bool (dB_true (fun h => by have := h.2.2.2.1 i (by omega); omega)).symm, s23⟩
          · refine wo_x (v := (.bool false)) (w_bin (cmp_gtrF ((txt ks i).length) 1000 (by omega))) (wo_nil (thn_n (wp_condF (wp_skip (blk_n ?_)))))
            refine thn_n (wp_reg (wo_mv (.int .i64 (.ofNat i)) (wo_x (v := (.int .i64 (.ofNat (i + 1)))) (w_bin (add_i64 i 1 (by omega) _ _)) (wo_mv (.int .i64 (.ofNat (i + 1))) (wo_nil ?_)))))
            refine lpq_n (ks.length - (i + 1)) (by omega) ⟨(i + 1), [(lget ys11 0), (.int .i64 (.ofNat i)), (.ptr b1 1), vk, (.int .i64 (.ofNat ks.length)), (.bool true), (.int .i64 (.ofNat i)), (.int .i64 (.ofNat (i + 1))), (.ptr b1 1), vk, (.int .i64 (.ofNat i)), (.ptr b14 o15), (.str (txt ks i)), (.int .i64 (.ofNat ((txt ks i).length))), (.bool false)], rfl, rfl, rfl, s12, (by omega), (by intro m hm; by_cases e : m = i; (subst e; omega); exact hal m (by omega))⟩
        · refine wo_x (v := (.bool false)) (w_bin (cmp_lssF i ks.length (by omega))) (wo_nil (thn_n (wp_condF (wp_exit (thn_e ?_)))))
          refine lpq_e (blk_h (thn_n (wp_seq (wp_seq (wp_reg ?_)))))
          refine wo_mv (.int .i64 0) (wo_nil (thn_n (wp_block ?_)))
          refine wp_loop (fun ms_ env ds H => ∃ (j : Nat), ∃ ys24 : List AV, ms_ = vs.length - j ∧ env = [(.agg r), (.ptr b1 0), (lget ys24 0), (.int .i64 (.ofNat i)), (.int .i64 (.ofNat j)), (.ptr b1 1), vk, (.int .i64 (.ofNat ks.length)), (.bool false), (.bool false), (.ptr b1 2), vv, (.int .i64 (.ofNat vs.length)), (.bool false), (.bool false), (.bool false), (.ptr b1 3), vp, (.int .i64 (.ofNat ps.length)), (.bool false), (.bool false), (.int .i64 (.ofNat i)), (.ptr b1 1), vk, (.int .i64 (.ofNat ks.length)), (.bool false), (lget ys11 6), (lget ys11 7), (lget ys11 8), (lget ys11 9), (lget ys11 10), (lget ys11 11), (lget ys11 12), (lget ys11 13), (lget ys11 14), (lget ys24 1), (lget ys24 2), (lget ys24 3), (lget ys24 4), (lget ys24 5), (lget ys24 6), (lget ys24 7), (lget ys24 8), (lget ys24 9), (lget ys24 10), (lget ys24 11), (lget ys24 12), (lget ys24 13), (lget ys24 14)] ∧ ds = [] ∧ Sat H Z ((.cells b1 [(.bool lf), vk, vv, vp]) :: F) ∧ (j ≤ vs.length) ∧ (∀ m, m < j → (txt vs m).length ≤ 1000)) (vs.length - 0) (by omega) ⟨0, [(lget ys11 0), u_, u_, u_, u_, u_, u_, u_, u_, u_, u_, u_, u_, u_, u_], rfl, rfl, rfl, s12, (by omega), (by intro m hm; omega)⟩ ?_
          rintro ms_ env ds H hms_ ⟨j, ys24, rfl, rfl, rfl, s25, hj, hbl⟩
          refine wp_seq (wp_seq (wp_reg (wo_mv (.int .i64 (.ofNat j)) (wo_x (v := (.ptr b1 2)) (ca_fla rfl rfl) (wo_x (v := vv) (s_ld1 s25 0 rfl) ?_)))))
          refine wo_x (v := (.int .i64 (.ofNat vs.length))) (fl_len hv (strs_len vs) rfl) ?_
          by_cases c26 : j < vs.length
          · refine wo_x (v := (.bool true)) (w_bin (cmp_lssT j vs.length (by omega))) (wo_nil (thn_n (wp_condT (wp_skip (thn_n ?_)))))
            refine wp_seq (wp_block (wp_seq (wp_reg (wo_x (v := (.ptr b1 2)) (ca_fla rfl rfl) (wo_x (v := vv) (s_ld1 s25 0 rfl) ?_)))))
            refine wo_mv (.int .i64 (.ofNat j)) ?_
            obtain ⟨b27, o28, L29, z30, g31, e32, n33, k34⟩ := fl_ix hv j (strs_get (show j < vs.length by omega))
            refine wo_x (v := (.ptr b27 o28)) (k34 rfl rfl) (wo_x (v := (.str (txt vs j))) (s_zld1 s25 z30 (g31 0 _ rfl)) (wo_x (v := (.int .i64 (.ofNat ((txt vs j).length)))) (w_lens (s := (txt vs j)) (n := ((txt vs j).length)) rfl rfl) ?_))
            by_cases c35 : 1000 < (txt vs j).length
            · refine wo_x (v := (.bool true)) (w_bin (cmp_gtrT ((txt vs j).length) 1000 (by omega))) (wo_nil (thn_n (wp_condT (wp_seq (wp_reg ?_)))))
              refine wo_mv (.bool true) (wo_nil (thn_n (wp_ret (blk_r (thn_r ?_)))))
              refine lpq_r (blk_r (thn_r ?_))
              have s36 := s25.drop 0
              exact fin_1 (.bool true) ⟨congrArg AV.bool (dB_true (fun h => by have := h.2.2.2.2 j (by omega); omega)).symm, s36⟩
            · refine wo_x (v := (.bool false)) (w_bin (cmp_gtrF ((txt vs j).length) 1000 (by omega))) (wo_nil (thn_n (wp_condF (wp_skip (blk_n ?_)))))
              refine thn_n (wp_reg (wo_mv (.int .i64 (.ofNat j)) (wo_x (v := (.int .i64 (.ofNat (j + 1)))) (w_bin (add_i64 j 1 (by omega) _ _)) (wo_mv (.int .i64 (.ofNat (j + 1))) (wo_nil ?_)))))
              refine lpq_n (vs.length - (j + 1)) (by omega) ⟨(j + 1), [(lget ys24 0), (.int .i64 (.ofNat j)), (.ptr b1 2), vv, (.int .i64 (.ofNat vs.length)), (.bool true), (.int .i64 (.ofNat j)), (.int .i64 (.ofNat (j + 1))), (.ptr b1 2), vv, (.int .i64 (.ofNat j)), (.ptr b27 o28), (.str (txt vs j)), (.int .i64 (.ofNat ((txt vs j).length))), (.bool false)], rfl, rfl, rfl, s25, (by omega), (by intro m hm; by_cases e : m = j; (subst e; omega); exact hbl m (by omega))⟩
          · refine wo_x (v := (.bool false)) (w_bin (cmp_lssF j vs.length (by omega))) (wo_nil (thn_n (wp_condF (wp_exit (thn_e ?_)))))
            refine lpq_e (blk_h (thn_n (wp_seq (wp_reg (wo_mv (.bool false) ?_)))))
            refine wo_nil (thn_n (wp_ret ?_))
            have s37 := s25.drop 0
            exact fin_1 (.bool false) ⟨congrArg AV.bool (dB_false (fun h => h ⟨by omega, by omega, by omega, fun m hm => hal m (by omega), fun m hm => hbl m (by omega)⟩)).symm, s37⟩
theorem same_ok [NbN] {tbl : Nat → Option FT} (T : NbT tbl) {lf : Bool} {ks vs : List (List Nat)} {ps : List PtrM} {vk vv vp : AV} {r : Rp AV} {vk2 vv2 vp2 : AV} {r2 : Rp AV} {N d : Nat} (hd : 1 ≤ d) {Z : Fz} {F : List Hl} {H : AH} (hs : Sat H Z (F)) (hr : RL r [.bool lf, vk, vv, vp]) (hk : Fl Z 1 vk (strs ks)) (hv : Fl Z 1 vv (strs vs)) (hp : Fl Z 3 vp (ptrs ps)) (hkl : ks.length ≤ 1099511627776) (hvl : vs.length ≤ 1099511627776) (hpl : ps.length ≤ 1099511627776) (hr2 : RL r2 [.bool lf, vk2, vv2, vp2]) (hk2 : Fl Z 1 vk2 (strs ks)) (hv2 : Fl Z 1 vv2 (strs vs)) (hp2 : Fl Z 3 vp2 (ptrs ps)) (hNk : ks.length < N) (hNv : vs.length < N) (hNp : ps.length < N) :
    Ct (RUN tbl N d) (.fn (.fn (.func NbN.same)) [] []) [(.agg r), (.agg r2)] H fun v H' => v = .bool true ∧ Sat H' Z F := by
  obtain ⟨d, rfl⟩ : ∃ e, d = e + 1 := ⟨d - 1, by omega⟩
  refine ct_code T.same (b := b_hsame) (env := [(.agg r), (.agg r2), u_, u_, u_, u_, u_, u_, u_, u_, u_, u_, u_, u_, u_, u_, u_, u_, u_, u_, u_, u_, u_, u_, u_, u_, u_, u_, u_, u_, u_, u_, u_, u_, u_, u_, u_, u_, u_, u_, u_, u_, u_, u_, u_, u_, u_, u_, u_, u_, u_, u_, u_, u_, u_, u_, u_, u_, u_, u_, u_, u_, u_, u_, u_, u_, u_, u_, u_, u_, u_, u_, u_, u_, u_, u_, u_, u_, u_, u_, u_, u_, u_, u_, u_, u_, u_, u_, u_, u_, u_, u_, u_, u_]) ?_
  unfold b_hsame
  refine wp_seq (wp_reg ?_)
  obtain ⟨b1, H2, s3, k4⟩ := s_boxn hs hr
  refine wo_x (v := (.ptr b1 0)) (k4 rfl) ?_
  obtain ⟨b5, H6, s7, k8⟩ := s_boxn s3 hr2
  refine wo_x (v := (.ptr b5 0)) (k8 rfl) (wo_mv (.bool false) (wo_nil (thn_n (wp_seq (wp_seq ?_)))))
  refine wp_reg (wo_x (v := (.ptr b1 0)) (ca_fla rfl rfl) (wo_x (v := (.bool lf)) (s_ld1 s7 1 rfl) (wo_x (v := (.ptr b5 0)) (ca_fla rfl rfl) (wo_x (v := (.bool lf)) (s_ld1 s7 0 rfl) (wo_x (v := (.bool false)) (w_bin (boolS lf)) ?_)))))
  refine wo_mv (.bool false) (wo_yesF (wo_x (v := (.ptr b1 1)) (ca_fla rfl rfl) (wo_yesF (wo_x (v := vk) (s_ld1 s7 1 rfl) (wo_yesF ?_)))))
  refine wo_x (v := (.int .i64 (.ofNat ks.length))) (fl_len hk (strs_len ks) rfl) (wo_yesF (wo_x (v := (.ptr b5 1)) (ca_fla rfl rfl) (wo_yesF (wo_x (v := vk2) (s_ld1 s7 0 rfl) (wo_yesF ?_)))))
  refine wo_x (v := (.int .i64 (.ofNat ks.length))) (fl_len hk2 (strs_len ks) rfl) (wo_yesF (wo_x (v := (.bool false)) (w_bin (cmp_neqT ks.length ks.length (by omega))) (wo_x (v := (.bool false)) (w_pickF rfl rfl) (wo_mv (.bool false) (wo_yesF ?_)))))
  refine wo_x (v := (.ptr b1 2)) (ca_fla rfl rfl) (wo_yesF (wo_x (v := vv) (s_ld1 s7 1 rfl) (wo_yesF (wo_x (v := (.int .i64 (.ofNat vs.length))) (fl_len hv (strs_len vs) rfl) (wo_yesF ?_)))))
  refine wo_x (v := (.ptr b5 2)) (ca_fla rfl rfl) (wo_yesF (wo_x (v := vv2) (s_ld1 s7 0 rfl) (wo_yesF (wo_x (v := (.int .i64 (.ofNat vs.length))) (fl_len hv2 (strs_len vs) rfl) (wo_yesF ?_)))))
  refine wo_x (v := (.bool false)) (w_bin (cmp_neqT vs.length vs.length (by omega))) (wo_x (v := (.bool false)) (w_pickF rfl rfl) (wo_mv (.bool false) (wo_yesF (wo_x (v := (.ptr b1 3)) (ca_fla rfl rfl) (wo_yesF ?_)))))
  refine wo_x (v := vp) (s_ld1 s7 1 rfl) (wo_yesF (wo_x (v := (.int .i64 (.ofNat ps.length))) (fl_len hp (ptrs_len ps) rfl) (wo_yesF (wo_x (v := (.ptr b5 3)) (ca_fla rfl rfl) (wo_yesF ?_)))))
  refine wo_x (v := vp2) (s_ld1 s7 0 rfl) (wo_yesF (wo_x (v := (.int .i64 (.ofNat ps.length))) (fl_len hp2 (ptrs_len ps) rfl) (wo_yesF (wo_x (v := (.bool false)) (w_bin (cmp_neqT ps.length ps.length (by omega))) (wo_x (v := (.bool false)) (w_pickF rfl rfl) ?_)))))
  refine wo_nil (thn_n (wp_condF (wp_skip (thn_n (wp_seq ?_)))))
  refine wp_seq (wp_reg (wo_mv (.int .i64 0) (wo_nil (thn_n (wp_block ?_)))))
  refine wp_loop (fun ms_ env ds H => ∃ (i1 : Nat), ∃ ys9 : List AV, ms_ = ks.length - i1 ∧ env = [(.agg r), (.agg r2), (.ptr b1 0), (.ptr b5 0), (lget ys9 0), (.int .i64 (.ofNat i1)), u_, u_, (.ptr b1 0), (.bool lf), (.ptr b5 0), (.bool lf), (.bool false), (.bool false), (.ptr b1 1), vk, (.int .i64 (.ofNat ks.length)), (.ptr b5 1), vk2, (.int .i64 (.ofNat ks.length)), (.bool false), (.bool false), (.bool false), (.ptr b1 2), vv, (.int .i64 (.ofNat vs.length)), (.ptr b5 2), vv2, (.int .i64 (.ofNat vs.length)), (.bool false), (.bool false), (.bool false), (.ptr b1 3), vp, (.int .i64 (.ofNat ps.length)), (.ptr b5 3), vp2, (.int .i64 (.ofNat ps.length)), (.bool false), (.bool false), (lget ys9 1), (lget ys9 2), (lget ys9 3), (lget ys9 4), (lget ys9 5), (lget ys9 6), (lget ys9 7), (lget ys9 8), (lget ys9 9), (lget ys9 10), (lget ys9 11), (lget ys9 12), (lget ys9 13), (lget ys9 14), (lget ys9 15), (lget ys9 16), (lget ys9 17), (lget ys9 18), u_, u_, u_, u_, u_, u_, u_, u_, u_, u_, u_, u_, u_, u_, u_, u_, u_, u_, u_, u_, u_, u_, u_, u_, u_, u_, u_, u_, u_, u_, u_, u_, u_, u_, u_, u_] ∧ ds = [] ∧ Sat H Z ((.cells b5 [(.bool lf), vk2, vv2, vp2]) :: (.cells b1 [(.bool lf), vk, vv, vp]) :: F) ∧ (i1 ≤ ks.length)) (ks.length - 0) (by omega) ⟨0, [(.bool false), u_, u_, u_, u_, u_, u_, u_, u_, u_, u_, u_, u_, u_, u_, u_, u_, u_, u_], rfl, rfl, rfl, s7, (by omega)⟩ ?_
  rintro ms_ env ds H hms_ ⟨i1, ys9, rfl, rfl, rfl, s10, hi1⟩
  refine wp_seq (wp_seq (wp_reg (wo_mv (.int .i64 (.ofNat i1)) (wo_x (v := (.ptr b1 1)) (ca_fla rfl rfl) (wo_x (v := vk) (s_ld1 s10 1 rfl) ?_)))))
  refine wo_x (v := (.int .i64 (.ofNat ks.length))) (fl_len hk (strs_len ks) rfl) ?_
  by_cases c11 : i1 < ks.length
  · refine wo_x (v := (.bool true)) (w_bin (cmp_lssT i1 ks.length (by omega))) (wo_nil (thn_n (wp_condT (wp_skip (thn_n ?_)))))
    refine wp_seq (wp_block (wp_seq (wp_dreg (wd_run (wo_x (v := (.ptr b1 1)) (ca_fla rfl rfl) ?_)))))
    refine wo_nil (wd_run (wo_x (v := vk) (s_ld1 s10 1 rfl) (wo_nil (wd_run (wo_mv (.int .i64 (.ofNat i1)) ?_)))))
    refine wo_nil (wd_run ?_)
    obtain ⟨b12, o13, L14, z15, g16, e17, n18, k19⟩ := fl_ix hk i1 (strs_get (show i1 < ks.length by omega))
    refine wo_x (v := (.ptr b12 o13)) (k19 rfl rfl) (wo_nil (wd_run (wo_x (v := (.str (txt ks i1))) (s_zld1 s10 z15 (g16 0 _ rfl)) (wo_nil (wd_run ?_)))))
    refine wo_x (v := (.ptr b5 1)) (ca_fla rfl rfl) (wo_nil (wd_run (wo_x (v := vk2) (s_ld1 s10 0 rfl) (wo_nil (wd_run ?_)))))
    refine wo_mv (.int .i64 (.ofNat i1)) (wo_nil (wd_run ?_))
    obtain ⟨b20, o21, L22, z23, g24, e25, n26, k27⟩ := fl_ix hk2 i1 (strs_get (show i1 < ks.length by omega))
    refine wo_x (v := (.ptr b20 o21)) (k27 rfl rfl) (wo_nil (wd_run (wo_x (v := (.str (txt ks i1))) (s_zld1 s10 z23 (g24 0 _ rfl)) (wo_nil (wd_run ?_)))))
    refine wo_x (v := (.bool false)) (w_bin (str_neqT rfl)) (wo_nil (wd_nil (ws_nil (thn_n (wp_condF ?_)))))
    refine wp_skip (blk_n (thn_n (wp_reg (wo_mv (.int .i64 (.ofNat i1)) (wo_x (v := (.int .i64 (.ofNat (i1 + 1)))) (w_bin (add_i64 i1 1 (by omega) _ _)) ?_)))))
    refine wo_mv (.int .i64 (.ofNat (i1 + 1))) (wo_nil ?_)
    refine lpq_n (ks.length - (i1 + 1)) (by omega) ⟨(i1 + 1), [(lget ys9 0), (.int .i64 (.ofNat i1)), (.ptr b1 1), vk, (.int .i64 (.ofNat ks.length)), (.bool true), (.int .i64 (.ofNat i1)), (.int .i64 (.ofNat (i1 + 1))), (.ptr b1 1), vk, (.int .i64 (.ofNat i1)), (.ptr b12 o13), (.str (txt ks i1)), (.ptr b5 1), vk2, (.int .i64 (.ofNat i1)), (.ptr b20 o21), (.str (txt ks i1)), (.bool false)], rfl, rfl, rfl, s10, (by omega)⟩
  · refine wo_x (v := (.bool false)) (w_bin (cmp_lssF i1 ks.length (by omega))) (wo_nil (thn_n (wp_condF (wp_exit (thn_e ?_)))))
    refine lpq_e (blk_h (thn_n (wp_seq (wp_seq (wp_reg ?_)))))
    refine wo_mv (.int .i64 0) (wo_nil (thn_n (wp_block ?_)))
    refine wp_loop (fun ms_ env ds H => ∃ (i2 : Nat), ∃ ys28 : List AV, ms_ = vs.length - i2 ∧ env = [(.agg r), (.agg r2), (.ptr b1 0), (.ptr b5 0), (lget ys28 0), (.int .i64 (.ofNat i1)), (.int .i64 (.ofNat i2)), u_, (.ptr b1 0), (.bool lf), (.ptr b5 0), (.bool lf), (.bool false), (.bool false), (.ptr b1 1), vk, (.int .i64 (.ofNat ks.length)), (.ptr b5 1), vk2, (.int .i64 (.ofNat ks.length)), (.bool false), (.bool false), (.bool false), (.ptr b1 2), vv, (.int .i64 (.ofNat vs.length)), (.ptr b5 2), vv2, (.int .i64 (.ofNat vs.length)), (.bool false), (.bool false), (.bool false), (.ptr b1 3), vp, (.int .i64 (.ofNat ps.length)), (.ptr b5 3), vp2, (.int .i64 (.ofNat ps.length)), (.bool false), (.bool false), (.int .i64 (.ofNat i1)), (.ptr b1 1), vk, (.int .i64 (.ofNat ks.length)), (.bool false), (lget ys9 6), (lget ys9 7), (lget ys9 8), (lget ys9 9), (lget ys9 10), (lget ys9 11), (lget ys9 12), (lget ys9 13), (lget ys9 14), (lget ys9 15), (lget ys9 16), (lget ys9 17), (lget ys9 18), (lget ys28 1), (lget ys28 2), (lget ys28 3), (lget ys28 4), (lget ys28 5), (lget ys28 6), (lget ys28 7), (lget ys28 8), (lget ys28 9), (lget ys28 10), (lget ys28 11), (lget ys28 12), (lget ys28 13), (lget ys28 14), (lget ys28 15), (lget ys28 16), (lget ys28 17), (lget ys28 18), u_, u_, u_, u_, u_, u_, u_, u_, u_, u_, u_, u_, u_, u_, u_, u_, u_, u_] ∧ ds = [] ∧ Sat H Z ((.cells b5 [(.bool lf), vk2, vv2, vp2]) :: (.cells b1 [(.bool lf), vk, vv, vp]) :: F) ∧ (i2 ≤ vs.length)) (vs.length - 0) (by omega) ⟨0, [(lget ys9 0), u_, u_, u_, u_, u_, u_, u_, u_, u_, u_, u_, u_, u_, u_, u_, u_, u_, u_], rfl, rfl, rfl, s10, (by omega)⟩ ?_
    rintro ms_ env ds H hms_ ⟨i2, ys28, rfl, rfl, rfl, s29, hi2⟩
    refine wp_seq (wp_seq (wp_reg (wo_mv (.int .i64 (.ofNat i2)) (wo_x (v := (.ptr b1 2)) (ca_fla rfl rfl) (wo_x (v := vv) (s_ld1 s29 1 rfl) ?_)))))
    refine wo_x (v := (.int .i64 (.ofNat vs.length))) (fl_len hv (strs_len vs) rfl) ?_
    by_cases c30 : i2 < vs.length
    · refine wo_x (v := (.bool true)) (w_bin (cmp_lssT i2 vs.length (by omega))) (wo_nil (thn_n (wp_condT (wp_skip (thn_n ?_)))))
      refine wp_seq (wp_block (wp_seq (wp_dreg (wd_run (wo_x (v := (.ptr b1 2)) (ca_fla rfl rfl) ?_)))))
      refine wo_nil (wd_run (wo_x (v := vv) (s_ld1 s29 1 rfl) (wo_nil (wd_run (wo_mv (.int .i64 (.ofNat i2)) ?_)))))
      refine wo_nil (wd_run ?_)
      obtain ⟨b31, o32, L33, z34, g35, e36, n37, k38⟩ := fl_ix hv i2 (strs_get (show i2 < vs.length by omega))
      refine wo_x (v := (.ptr b31 o32)) (k38 rfl rfl) (wo_nil (wd_run (wo_x (v := (.str (txt vs i2))) (s_zld1 s29 z34 (g35 0 _ rfl)) (wo_nil (wd_run ?_)))))
      refine wo_x (v := (.ptr b5 2)) (ca_fla rfl rfl) (wo_nil (wd_run (wo_x (v := vv2) (s_ld1 s29 0 rfl) (wo_nil (wd_run ?_)))))
      refine wo_mv (.int .i64 (.ofNat i2)) (wo_nil (wd_run ?_))
      obtain ⟨b39, o40, L41, z42, g43, e44, n45, k46⟩ := fl_ix hv2 i2 (strs_get (show i2 < vs.length by omega))
      refine wo_x (v := (.ptr b39 o40)) (k46 rfl rfl) (wo_nil (wd_run (wo_x (v := (.str (txt vs i2))) (s_zld1 s29 z42 (g43 0 _ rfl)) (wo_nil (wd_run ?_)))))
      refine wo_x (v := (.bool false)) (w_bin (str_neqT rfl)) (wo_nil (wd_nil (ws_nil (thn_n (wp_condF ?_)))))
      refine wp_skip (blk_n (thn_n (wp_reg (wo_mv (.int .i64 (.ofNat i2)) (wo_x (v := (.int .i64 (.ofNat (i2 + 1)))) (w_bin (add_i64 i2 1 (by omega) _ _)) ?_)))))
      refine wo_mv (.int .i64 (.ofNat (i2 + 1))) (wo_nil ?_)
      refine lpq_n (vs.length - (i2 + 1)) (by omega) ⟨(i2 + 1), [(lget ys28 0), (.int .i64 (.ofNat i2)), (.ptr b1 2), vv, (.int .i64 (.ofNat vs.length)), (.bool true), (.int .i64 (.ofNat i2)), (.int .i64 (.ofNat (i2 + 1))), (.ptr b1 2), vv, (.int .i64 (.ofNat i2)), (.ptr b31 o32), (.str (txt vs i2)), (.ptr b5 2), vv2, (.int .i64 (.ofNat i2)), (.ptr b39 o40), (.str (txt vs i2)), (.bool false)], rfl, rfl, rfl, s29, (by omega)⟩
    · refine wo_x (v := (.bool false)) (w_bin (cmp_lssF i2 vs.length (by omega))) (wo_nil (thn_n (wp_condF (wp_exit (thn_e ?_)))))
      refine lpq_e (blk_h (thn_n (wp_seq (wp_seq (wp_reg ?_)))))
      refine wo_mv (.int .i64 0) (wo_nil (thn_n (wp_block ?_)))
      refine wp_loop (fun ms_ env ds H => ∃ (i3 : Nat), ∃ ys47 : List AV, ms_ = ps.length - i3 ∧ env = [(.agg r), (.agg r2), (.ptr b1 0), (.ptr b5 0), (lget ys47 0), (.int .i64 (.ofNat i1)), (.int .i64 (.ofNat i2)), (.int .i64 (.ofNat i3)), (.ptr b1 0), (.bool lf), (.ptr b5 0), (.bool lf), (.bool false), (.bool false), (.ptr b1 1), vk, (.int .i64 (.ofNat ks.length)), (.ptr b5 1), vk2, (.int .i64 (.ofNat ks.length)), (.bool false), (.bool false), (.bool false), (.ptr b1 2), vv, (.int .i64 (.ofNat vs.length)), (.ptr b5 2), vv2, (.int .i64 (.ofNat vs.length)), (.bool false), (.bool false), (.bool false), (.ptr b1 3), vp, (.int .i64 (.ofNat ps.length)), (.ptr b5 3), vp2, (.int .i64 (.ofNat ps.length)), (.bool false), (.bool false), (.int .i64 (.ofNat i1)), (.ptr b1 1), vk, (.int .i64 (.ofNat ks.length)), (.bool false), (lget ys9 6), (lget ys9 7), (lget ys9 8), (lget ys9 9), (lget ys9 10), (lget ys9 11), (lget ys9 12), (lget ys9 13), (lget ys9 14), (lget ys9 15), (lget ys9 16), (lget ys9 17), (lget ys9 18), (.int .i64 (.ofNat i2)), (.ptr b1 2), vv, (.int .i64 (.ofNat vs.length)), (.bool false), (lget ys28 6), (lget ys28 7), (lget ys28 8), (lget ys28 9), (lget ys28 10), (lget ys28 11), (lget ys28 12), (lget ys28 13), (lget ys28 14), (lget ys28 15), (lget ys28 16), (lget ys28 17), (lget ys28 18), (lget ys47 1), (lget ys47 2), (lget ys47 3), (lget ys47 4), (lget ys47 5), (lget ys47 6), (lget ys47 7), (lget ys47 8), (lget ys47 9), (lget ys47 10), (lget ys47 11), (lget ys47 12), (lget ys47 13), (lget ys47 14), (lget ys47 15), (lget ys47 16), (lget ys47 17), (lget ys47 18)] ∧ ds = [] ∧ Sat H Z ((.cells b5 [(.bool lf), vk2, vv2, vp2]) :: (.cells b1 [(.bool lf), vk, vv, vp]) :: F) ∧ (i3 ≤ ps.length)) (ps.length - 0) (by omega) ⟨0, [(lget ys28 0), u_, u_, u_, u_, u_, u_, u_, u_, u_, u_, u_, u_, u_, u_, u_, u_, u_, u_], rfl, rfl, rfl, s29, (by omega)⟩ ?_
      rintro ms_ env ds H hms_ ⟨i3, ys47, rfl, rfl, rfl, s48, hi3⟩
      refine wp_seq (wp_seq (wp_reg (wo_mv (.int .i64 (.ofNat i3)) (wo_x (v := (.ptr b1 3)) (ca_fla rfl rfl) (wo_x (v := vp) (s_ld1 s48 1 rfl) ?_)))))
      refine wo_x (v := (.int .i64 (.ofNat ps.length))) (fl_len hp (ptrs_len ps) rfl) ?_
      by_cases c49 : i3 < ps.length
      · refine wo_x (v := (.bool true)) (w_bin (cmp_lssT i3 ps.length (by omega))) (wo_nil (thn_n (wp_condT (wp_skip (thn_n ?_)))))
        refine wp_seq (wp_block (wp_seq (wp_dreg (wd_run (wo_x (v := (.ptr b1 3)) (ca_fla rfl rfl) ?_)))))
        refine wo_nil (wd_run (wo_x (v := vp) (s_ld1 s48 1 rfl) (wo_nil (wd_run (wo_mv (.int .i64 (.ofNat i3)) ?_)))))
        refine wo_nil (wd_run ?_)
        obtain ⟨b50, o51, L52, z53, g54, e55, n56, k57⟩ := fl_ix hp i3 (ptrs_get (show i3 < ps.length by omega))
        refine wo_x (v := (.ptr b50 o51)) (k57 rfl rfl) (wo_nil (wd_run ?_))
        obtain ⟨r58, q59, k60⟩ := s_zldn s48 z53 o51 3 (hl := e55)
        rw [fl_take g54 n56 e55] at q59
        refine wo_x (v := (.agg r58)) (k60 rfl) (wo_nil (wd_run (wo_x (v := (.ptr b5 3)) (ca_fla rfl rfl) (wo_nil (wd_run ?_)))))
        refine wo_x (v := vp2) (s_ld1 s48 0 rfl) (wo_nil (wd_run (wo_mv (.int .i64 (.ofNat i3)) (wo_nil (wd_run ?_)))))
        obtain ⟨b61, o62, L63, z64, g65, e66, n67, k68⟩ := fl_ix hp2 i3 (ptrs_get (show i3 < ps.length by omega))
        refine wo_x (v := (.ptr b61 o62)) (k68 rfl rfl) (wo_nil (wd_run ?_))
        obtain ⟨r69, q70, k71⟩ := s_zldn s48 z64 o62 3 (hl := e66)
        rw [fl_take g65 n67 e66] at q70
        refine wo_x (v := (.agg r69)) (k71 rfl) (wo_nil (wd_run (wo_x (v := (.bool false)) (w_eqa (t := true) q59 q70 rfl rfl rfl rfl (fun k => (eqS_3 ((ptAt ps i3).a) ((ptAt ps i3).b) (((ptAt ps i3).s : Nat) : Int) ((ptAt ps i3).a) ((ptAt ps i3).b) (((ptAt ps i3).s : Nat) : Int) k).trans (by simp)) true) (wo_nil (wd_nil ?_)))))
        refine ws_nil (thn_n (wp_condF (wp_skip (blk_n (thn_n ?_)))))
        refine wp_reg (wo_mv (.int .i64 (.ofNat i3)) (wo_x (v := (.int .i64 (.ofNat (i3 + 1)))) (w_bin (add_i64 i3 1 (by omega) _ _)) (wo_mv (.int .i64 (.ofNat (i3 + 1))) (wo_nil ?_))))
        refine lpq_n (ps.length - (i3 + 1)) (by omega) ⟨(i3 + 1), [(lget ys47 0), (.int .i64 (.ofNat i3)), (.ptr b1 3), vp, (.int .i64 (.ofNat ps.length)), (.bool true), (.int .i64 (.ofNat i3)), (.int .i64 (.ofNat (i3 + 1))), (.ptr b1 3), vp, (.int .i64 (.ofNat i3)), (.ptr b50 o51), (.agg r58), (.ptr b5 3), vp2, (.int .i64 (.ofNat i3)), (.ptr b61 o62), (.agg r69), (.bool false)], rfl, rfl, rfl, s48, (by omega)⟩
      · refine wo_x (v := (.bool false)) (w_bin (cmp_lssF i3 ps.length (by omega))) (wo_nil (thn_n (wp_condF (wp_exit (thn_e ?_)))))
        refine lpq_e (blk_h (thn_n (wp_seq (wp_reg (wo_mv (.bool true) ?_)))))
        refine wo_nil (thn_n (wp_ret ?_))
        have s72 := s48.drop 0
        have s73 := s72.drop 0
        exact fin_1 (.bool true) ⟨rfl, s73⟩
theorem src_strs {H : AH} {Z : Fz} {l : List Hl} {v : AV} {ks : List (List Nat)} (hs : Sat H Z l) (h : Fl Z 1 v (strs ks)) : Src H 1 v ks.length (txC ks) := by
  have := src_fl hs h
  rw [strs_len] at this
  exact this
theorem src_ptrs {H : AH} {Z : Fz} {l : List Hl} {v : AV} {ps : List PtrM} (hs : Sat H Z l) (h : Fl Z 3 v (ptrs ps)) : Src H 3 v ps.length (ptC ps) := by
  have := src_fl hs h
  rw [ptrs_len] at this
  exact this
theorem given_ok [NbN] {tbl : Nat → Option FT} (T : NbT tbl) {lf : Bool} {ks vs : List (List Nat)} {ps : List PtrM} {vk vv vp : AV} {r : Rp AV} {N d : Nat} (hd : 1 ≤ d) {Z : Fz} {F : List Hl} {H : AH} (hs : Sat H Z (F)) (hr : RL r [.bool lf, vk, vv, vp]) (hk : Fl Z 1 vk (strs ks)) (hv : Fl Z 1 vv (strs vs)) (hp : Fl Z 3 vp (ptrs ps)) (hkl : ks.length ≤ 1099511627776) (hvl : vs.length ≤ 1099511627776) (hpl : ps.length ≤ 1099511627776) :
    Ct (RUN tbl N d) (.fn (.fn (.func NbN.given)) [] []) [(.agg r)] H fun v H' => ∃ q wk wv wp hk' hv' hp', v = .agg q ∧ RL q [.bool lf, wk, wv, wp] ∧ Own 1 wk ks.length (txC ks) hk' ∧ Own 1 wv vs.length (txC vs) hv' ∧ Own 3 wp ps.length (ptC ps) hp' ∧ Sat H' Z (hp' ++ (hv' ++ (hk' ++ F))) := by
  obtain ⟨d, rfl⟩ : ∃ e, d = e + 1 := ⟨d - 1, by omega⟩
  refine ct_code T.given (b := b_hgiven) (env := [(.agg r), u_, u_, u_, u_, u_, u_, u_, u_, u_, u_, u_, u_, u_, u_, u_, u_, u_]) ?_
  unfold b_hgiven
  refine wp_seq (wp_reg ?_)
  obtain ⟨b1, H2, s3, k4⟩ := s_boxn hs hr
  refine wo_x (v := (.ptr b1 0)) (k4 rfl) ?_
  obtain ⟨b5, H6, s7, k8⟩ := s_alloc s3 (RL.cat (RL.one (.bool false)) (RL.rep 3 .nils) rfl)
  refine wo_x (v := (.ptr b5 0)) (k8) (wo_nil (thn_n (wp_seq (wp_dreg (wd_run ?_)))))
  refine wo_x (v := (.ptr b1 0)) (ca_fla rfl rfl) (wo_nil (wd_run (wo_x (v := (.bool lf)) (s_ld1 s7 1 rfl) (wo_nil (wd_run ?_)))))
  obtain ⟨b9, H10, s11, k12⟩ := s_bsl s7 (RL.rep 0 (.str []))
  refine wo_x (v := (.slc b9 0 0 0)) (k12 fill_nil) (wo_nil (wd_run (wo_x (v := (.ptr b1 1)) (ca_fla rfl rfl) (wo_nil (wd_run ?_)))))
  refine wo_x (v := vk) (s_ld1 s11 2 rfl) (wo_nil (wd_run ?_))
  obtain ⟨b13, H14, s15, k16⟩ := s_bsl s11 (RL.rep 0 (.str []))
  refine wo_x (v := (.slc b13 0 0 0)) (k16 fill_nil) (wo_nil (wd_run (wo_x (v := (.ptr b1 2)) (ca_fla rfl rfl) (wo_nil (wd_run ?_)))))
  refine wo_x (v := vv) (s_ld1 s15 3 rfl) (wo_nil (wd_run ?_))
  obtain ⟨b17, H18, s19, k20⟩ := s_bsl s15 RL.nil
  refine wo_x (v := (.slc b17 0 0 0)) (k20 fill_nil) (wo_nil (wd_run (wo_x (v := (.ptr b1 3)) (ca_fla rfl rfl) (wo_nil (wd_run ?_)))))
  refine wo_x (v := vp) (s_ld1 s19 4 rfl) (wo_nil (wd_nil (ws_cons ?_)))
  have c21 := src_strs s19 hk
  have s22 := s19.pull 2
  obtain ⟨v23, hl24, H25, h26, s27, k28⟩ := s_copy (bytes := 16) s22 c21 (by omega) (by omega)
  have s29 := Sat.rot (l₁ := hl24) (hl := [.cells b17 [], .cells b13 [], .cells b5 [(.bool false), .nils, .nils, .nils], .cells b1 [(.bool lf), vk, vv, vp]]) s27
  refine wo_x (v := v23) (k28 rfl rfl) (wo_nil (wd_again (v := (.bool lf)) (hs := same_bool) (s_ld1 s29 3 rfl) (wd_again (v := vv) (hs := fl_same hv) (s_ld1 s29 3 rfl) (wd_again (v := vp) (hs := fl_same hp) (s_ld1 s29 3 rfl) (wd_nil ?_)))))
  refine ws_cons ?_
  have c30 := src_strs s29 hv
  have s31 := s29.pull 1
  obtain ⟨v32, hl33, H34, h35, s36, k37⟩ := s_copy (bytes := 16) s31 c30 (by omega) (by omega)
  have s38 := Sat.rot (l₁ := hl33) (hl := [.cells b17 [], .cells b5 [(.bool false), .nils, .nils, .nils], .cells b1 [(.bool lf), vk, vv, vp]]) s36
  refine wo_x (v := v32) (k37 rfl rfl) (wo_nil (wd_again (v := (.bool lf)) (hs := same_bool) (s_ld1 s38 2 rfl) (wd_again (v := vp) (hs := fl_same hp) (s_ld1 s38 2 rfl) (wd_nil (ws_cons ?_)))))
  have c39 := src_ptrs s38 hp
  obtain ⟨v40, hl41, H42, h43, s44, k45⟩ := s_copy (bytes := 24) s38 c39 (by omega) (by omega)
  have s46 := Sat.rot (l₁ := hl41) (hl := [.cells b5 [(.bool false), .nils, .nils, .nils], .cells b1 [(.bool lf), vk, vv, vp]]) s44
  refine wo_x (v := v40) (k45 rfl rfl) (wo_nil (wd_again (v := (.bool lf)) (hs := same_bool) (s_ld1 s46 1 rfl) (wd_run (wo_x (v := (.agg (Rp.set (Rp.set (Rp.set (Rp.set (.cat 1 (.one (.bool false)) (.rep 3 .nils)) 0 (.bool lf)) 1 v23) 2 v32) 3 v40))) (w_build (r := (Rp.set (Rp.set (Rp.set (Rp.set (.cat 1 (.one (.bool false)) (.rep 3 .nils)) 0 (.bool lf)) 1 v23) 2 v32) 3 v40)) (fill_s (v := (.bool lf)) rfl rfl rfl (fill_s (v := v23) rfl (own_sc h26) rfl (fill_s (v := v32) rfl (own_sc h35) rfl (fill_s (v := v40) rfl (own_sc h43) rfl fill_nil))))) (wo_nil ?_)))))
  refine wd_nil (ws_cons ?_)
  obtain ⟨H47, s48, k49⟩ := s_stn s46 (((((RL.cat (RL.one (.bool false)) (RL.rep 3 .nils) rfl).set 0 (.bool lf)).set 1 v23).set 2 v32).set 3 v40) 0 4 rfl (Nat.le_of_ble_eq_true rfl)
  refine wo_n (k49 rfl rfl) (wo_nil (wd_nil (ws_nil (thn_n (wp_ret ?_)))))
  refine fin_c  (off := 0) s48 0 fun r50 q51 => ?_
  have s52 := s48.drop 0
  have s53 := s52.drop 0
  exact ⟨_, v23, v32, v40, _, _, _, rfl, q51, h26, h35, h43, s53⟩
theorem back_ok [NbN] {tbl : Nat → Option FT} (T : NbT tbl) {lf : Bool} {ks vs : List (List Nat)} {ps : List PtrM} {vk vv vp : AV} {r : Rp AV} {hk hv hp : List Hl} {N d : Nat} (hd : 1 ≤ d) {Z : Fz} {F : List Hl} {H : AH} (hs : Sat H Z ((hk ++ (hv ++ (hp ++ F))))) (hr : RL r [.bool lf, vk, vv, vp]) (hok : Own 1 vk ks.length (txC ks) hk) (hov : Own 1 vv vs.length (txC vs) hv) (hop : Own 3 vp ps.length (ptC ps) hp) (hkl : ks.length ≤ 1099511627776) (hvl : vs.length ≤ 1099511627776) (hpl : ps.length ≤ 1099511627776) (hNk : ks.length < N) (hNv : vs.length < N) (hNp : ps.length < N) :
    Ct (RUN tbl N d) (.fn (.fn (.func NbN.back)) [] []) [(.agg r)] H fun v H' => ∃ q wk wv wp hk' hv' hp', v = .agg q ∧ RL q [.bool lf, wk, wv, wp] ∧ Own 1 wk ks.length (txC ks) hk' ∧ Own 1 wv vs.length (txC vs) hv' ∧ Own 3 wp ps.length (ptC ps) hp' ∧ Sat H' Z (hp' ++ (hv' ++ (hk' ++ F))) := by
  obtain ⟨d, rfl⟩ : ∃ e, d = e + 1 := ⟨d - 1, by omega⟩
  refine ct_code T.back (b := b_hback) (env := [(.agg r), u_, u_, u_, u_, u_, u_, u_, u_, u_, u_, u_, u_, u_, u_, u_, u_, u_, u_, u_, u_, u_, u_, u_, u_, u_, u_, u_, u_, u_, u_, u_, u_, u_, u_, u_, u_, u_, u_, u_, u_, u_, u_, u_, u_, u_, u_, u_, u_, u_, u_, u_, u_, u_, u_, u_, u_]) ?_
  unfold b_hback
  refine wp_seq (wp_reg ?_)
  obtain ⟨b1, H2, s3, k4⟩ := s_boxn hs hr
  refine wo_x (v := (.ptr b1 0)) (k4 rfl) ?_
  obtain ⟨b5, H6, s7, k8⟩ := s_alloc s3 (RL.cat (RL.one (.bool false)) (RL.rep 3 .nils) rfl)
  refine wo_x (v := (.ptr b5 0)) (k8) (wo_nil (thn_n (wp_seq (wp_dreg (wd_run ?_)))))
  refine wo_x (v := (.ptr b1 0)) (ca_fla rfl rfl) (wo_nil (wd_run (wo_x (v := (.bool lf)) (s_ld1 s7 1 rfl) (wo_nil (wd_run ?_)))))
  obtain ⟨b9, H10, s11, k12⟩ := s_bsl s7 (RL.rep 0 (.str []))
  refine wo_x (v := (.slc b9 0 0 0)) (k12 fill_nil) (wo_nil (wd_run (wo_x (v := (.ptr b1 1)) (ca_fla rfl rfl) (wo_nil (wd_run ?_)))))
  refine wo_x (v := vk) (s_ld1 s11 2 rfl) (wo_nil (wd_run ?_))
  obtain ⟨b13, H14, s15, k16⟩ := s_bsl s11 (RL.rep 0 (.str []))
  refine wo_x (v := (.slc b13 0 0 0)) (k16 fill_nil) (wo_nil (wd_run (wo_x (v := (.ptr b1 2)) (ca_fla rfl rfl) (wo_nil (wd_run ?_)))))
  refine wo_x (v := vv) (s_ld1 s15 3 rfl) (wo_nil (wd_run ?_))
  obtain ⟨b17, H18, s19, k20⟩ := s_bsl s15 RL.nil
  refine wo_x (v := (.slc b17 0 0 0)) (k20 fill_nil) (wo_nil (wd_run (wo_x (v := (.ptr b1 3)) (ca_fla rfl rfl) (wo_nil (wd_run ?_)))))
  refine wo_x (v := vp) (s_ld1 s19 4 rfl) (wo_nil (wd_run ?_))
  obtain ⟨b21, H22, s23, k24⟩ := s_alloc s19 (RL.cat (RL.one (.bool false)) (RL.rep 3 .nils) rfl)
  refine wo_x (v := (.ptr b21 0)) (k24) (wo_nil (wd_nil (ws_cons ?_)))
  have r26 := Sat.rot (H := H22) (Z := Z) (l₁ := [.cells b21 [(.bool false), .nils, .nils, .nils], .cells b17 [], .cells b13 [], .cells b9 [], .cells b5 [(.bool false), .nils, .nils, .nils], .cells b1 [(.bool lf), vk, vv, vp]]) (hl := hk) (F := hv ++ (hp ++ (F))) (s23)
  have c25 := src_own r26 hok
  have s27 := s23.pull 3
  obtain ⟨v28, hl29, H30, h31, s32, k33⟩ := s_copy (bytes := 16) s27 c25 (by omega) (by omega)
  have s34 := Sat.rot (l₁ := hl29) (hl := [.cells b21 [(.bool false), .nils, .nils, .nils], .cells b17 [], .cells b13 [], .cells b5 [(.bool false), .nils, .nils, .nils], .cells b1 [(.bool lf), vk, vv, vp]]) s32
  refine wo_x (v := v28) (k33 rfl rfl) (wo_nil (wd_again (v := (.bool lf)) (hs := same_bool) (s_ld1 s34 4 rfl) (wd_again (v := vv) (hs := own_same hov) (s_ld1 s34 4 rfl) (wd_again (v := vp) (hs := own_same hop) (s_ld1 s34 4 rfl) (wd_nil ?_)))))
  refine ws_cons ?_
  have r36 := Sat.rot (H := H30) (Z := Z) (l₁ := [.cells b21 [(.bool false), .nils, .nils, .nils], .cells b17 [], .cells b13 [], .cells b5 [(.bool false), .nils, .nils, .nils], .cells b1 [(.bool lf), vk, vv, vp]] ++ (hl29 ++ (hk))) (hl := hv) (F := hp ++ (F)) (by simp only [List.append_assoc]; exact s34)
  have c35 := src_own r36 hov
  have s37 := s34.pull 2
  obtain ⟨v38, hl39, H40, h41, s42, k43⟩ := s_copy (bytes := 16) s37 c35 (by omega) (by omega)
  have s44 := Sat.rot (l₁ := hl39) (hl := [.cells b21 [(.bool false), .nils, .nils, .nils], .cells b17 [], .cells b5 [(.bool false), .nils, .nils, .nils], .cells b1 [(.bool lf), vk, vv, vp]]) s42
  refine wo_x (v := v38) (k43 rfl rfl) (wo_nil (wd_again (v := (.bool lf)) (hs := same_bool) (s_ld1 s44 3 rfl) (wd_again (v := vp) (hs := own_same hop) (s_ld1 s44 3 rfl) (wd_nil (ws_cons ?_)))))
  have r46 := Sat.rot (H := H40) (Z := Z) (l₁ := [.cells b21 [(.bool false), .nils, .nils, .nils], .cells b17 [], .cells b5 [(.bool false), .nils, .nils, .nils], .cells b1 [(.bool lf), vk, vv, vp]] ++ (hl39 ++ (hl29 ++ (hk ++ (hv))))) (hl := hp) (F := F) (by simp only [List.append_assoc]; exact s44)
  have c45 := src_own r46 hop
  have s47 := s44.pull 1
  obtain ⟨v48, hl49, H50, h51, s52, k53⟩ := s_copy (bytes := 24) s47 c45 (by omega) (by omega)
  have s54 := Sat.rot (l₁ := hl49) (hl := [.cells b21 [(.bool false), .nils, .nils, .nils], .cells b5 [(.bool false), .nils, .nils, .nils], .cells b1 [(.bool lf), vk, vv, vp]]) s52
  refine wo_x (v := v48) (k53 rfl rfl) (wo_nil (wd_again (v := (.bool lf)) (hs := same_bool) (s_ld1 s54 2 rfl) (wd_run (wo_x (v := (.agg (Rp.set (Rp.set (Rp.set (Rp.set (.cat 1 (.one (.bool false)) (.rep 3 .nils)) 0 (.bool lf)) 1 v28) 2 v38) 3 v48))) (w_build (r := (Rp.set (Rp.set (Rp.set (Rp.set (.cat 1 (.one (.bool false)) (.rep 3 .nils)) 0 (.bool lf)) 1 v28) 2 v38) 3 v48)) (fill_s (v := (.bool lf)) rfl rfl rfl (fill_s (v := v28) rfl (own_sc h31) rfl (fill_s (v := v38) rfl (own_sc h41) rfl (fill_s (v := v48) rfl (own_sc h51) rfl fill_nil))))) (wo_nil ?_)))))
  refine wd_nil (ws_cons ?_)
  obtain ⟨H55, s56, k57⟩ := s_stn s54 (((((RL.cat (RL.one (.bool false)) (RL.rep 3 .nils) rfl).set 0 (.bool lf)).set 1 v28).set 2 v38).set 3 v48) 0 4 rfl (Nat.le_of_ble_eq_true rfl)
  refine wo_n (k57 rfl rfl) (wo_nil (wd_nil (ws_nil (thn_n (wp_seq ?_)))))
  refine wp_seq (wp_reg (wo_mv (.int .i64 0) (wo_nil (thn_n (wp_block ?_)))))
  refine wp_loop (fun ms_ env ds H => ∃ (i1 : Nat) (Li1 : List AV) (li1 : List Hl), ∃ ys58 : List AV, ms_ = ks.length - i1 ∧ env = [(.agg r), (.ptr b1 0), (.ptr b5 0), (.ptr b21 0), (.int .i64 (.ofNat i1)), u_, u_, (.ptr b1 0), (.bool lf), (.slc b9 0 0 0), (.ptr b1 1), vk, v28, (.slc b13 0 0 0), (.ptr b1 2), vv, v38, (.slc b17 0 0 0), (.ptr b1 3), vp, v48, (.agg (Rp.set (Rp.set (Rp.set (Rp.set (.cat 1 (.one (.bool false)) (.rep 3 .nils)) 0 (.bool lf)) 1 v28) 2 v38) 3 v48)), (lget ys58 0), (lget ys58 1), (lget ys58 2), (lget ys58 3), (lget ys58 4), (lget ys58 5), (lget ys58 6), (lget ys58 7), (lget ys58 8), (lget ys58 9), (lget ys58 10), u_, u_, u_, u_, u_, u_, u_, u_, u_, u_, u_, u_, u_, u_, u_, u_, u_, u_, u_, u_, u_, u_, u_, u_] ∧ ds = [] ∧ Sat H Z ((.cells b21 [(.bool lf), v28, v38, v48]) :: (.cells b5 [(.bool false), .nils, .nils, .nils]) :: (.cells b1 [(.bool lf), vk, vv, vp]) :: (hl49 ++ (hl39 ++ (hl29 ++ (li1 ++ (hv ++ (hp ++ F))))))) ∧ (i1 ≤ ks.length) ∧ (Own 1 vk ks.length Li1 li1)) (ks.length - 0) (by omega) ⟨0, _, hk, [u_, u_, u_, u_, u_, u_, u_, u_, u_, u_, u_], rfl, rfl, rfl, s56, (by omega), hok⟩ ?_
  rintro ms_ env ds H hms_ ⟨i1, Li1, li1, ys58, rfl, rfl, rfl, s59, ei1, hi1⟩
  refine wp_seq (wp_seq (wp_reg (wo_mv (.int .i64 (.ofNat i1)) (wo_x (v := (.ptr b1 1)) (ca_fla rfl rfl) (wo_x (v := vk) (s_ld1 s59 2 rfl) ?_)))))
  refine wo_x (v := (.int .i64 (.ofNat ks.length))) (own_len hi1 rfl) ?_
  by_cases c60 : i1 < ks.length
  · refine wo_x (v := (.bool true)) (w_bin (cmp_lssT i1 ks.length (by omega))) (wo_nil (thn_n (wp_condT (wp_skip (thn_n ?_)))))
    refine wp_seq (wp_block (wp_reg (wo_x (v := (.ptr b1 1)) (ca_fla rfl rfl) (wo_x (v := vk) (s_ld1 s59 2 rfl) (wo_mv (.int .i64 (.ofNat i1)) ?_)))))
    obtain ⟨b61, e62, g63, o64, k65⟩ := own_ix hi1 i1 (by omega)
    refine wo_x (v := (.ptr b61 (i1 * 1))) (k65 rfl rfl) ?_
    have r66 := Sat.rot (H := H) (Z := Z) (l₁ := [.cells b21 [(.bool lf), v28, v38, v48], .cells b5 [(.bool false), .nils, .nils, .nils], .cells b1 [(.bool lf), vk, vv, vp]] ++ (hl49 ++ (hl39 ++ (hl29)))) (hl := li1) (F := hv ++ (hp ++ (F))) (by simp only [List.append_assoc]; exact s59)
    obtain ⟨L67, l68, H69, h70, s71, k72⟩ := own_st1 (i := i1) (x := (.str [115, 112, 111, 105, 108, 116])) r66 e62 g63 o64 rfl
    have s73 : Sat H69 Z ((.cells b21 [(.bool lf), v28, v38, v48]) :: (.cells b5 [(.bool false), .nils, .nils, .nils]) :: (.cells b1 [(.bool lf), vk, vv, vp]) :: (hl49 ++ (hl39 ++ (hl29 ++ (l68 ++ (hv ++ (hp ++ F))))))) := by have h := Sat.rot (l₁ := l68) (hl := [.cells b21 [(.bool lf), v28, v38, v48], .cells b5 [(.bool false), .nils, .nils, .nils], .cells b1 [(.bool lf), vk, vv, vp]] ++ (hl49 ++ (hl39 ++ (hl29)))) s71; simp only [List.append_assoc] at h; exact h
    refine wo_n (k72 rfl rfl) (wo_nil (blk_n (thn_n (wp_reg (wo_mv (.int .i64 (.ofNat i1)) ?_)))))
    refine wo_x (v := (.int .i64 (.ofNat (i1 + 1)))) (w_bin (add_i64 i1 1 (by omega) _ _)) (wo_mv (.int .i64 (.ofNat (i1 + 1))) (wo_nil ?_))
    refine lpq_n (ks.length - (i1 + 1)) (by omega) ⟨(i1 + 1), L67, l68, [(.int .i64 (.ofNat i1)), (.ptr b1 1), vk, (.int .i64 (.ofNat ks.length)), (.bool true), (.int .i64 (.ofNat i1)), (.int .i64 (.ofNat (i1 + 1))), (.ptr b1 1), vk, (.int .i64 (.ofNat i1)), (.ptr b61 (i1 * 1))], rfl, rfl, rfl, s73, (by omega), h70⟩
  · refine wo_x (v := (.bool false)) (w_bin (cmp_lssF i1 ks.length (by omega))) (wo_nil (thn_n (wp_condF (wp_exit (thn_e ?_)))))
    refine lpq_e (blk_h (thn_n (wp_seq (wp_seq (wp_reg ?_)))))
    refine wo_mv (.int .i64 0) (wo_nil (thn_n (wp_block ?_)))
    refine wp_loop (fun ms_ env ds H => ∃ (i2 : Nat) (Li2 : List AV) (li2 : List Hl), ∃ ys74 : List AV, ms_ = vs.length - i2 ∧ env = [(.agg r), (.ptr b1 0), (.ptr b5 0), (.ptr b21 0), (.int .i64 (.ofNat i1)), (.int .i64 (.ofNat i2)), u_, (.ptr b1 0), (.bool lf), (.slc b9 0 0 0), (.ptr b1 1), vk, v28, (.slc b13 0 0 0), (.ptr b1 2), vv, v38, (.slc b17 0 0 0), (.ptr b1 3), vp, v48, (.agg (Rp.set (Rp.set (Rp.set (Rp.set (.cat 1 (.one (.bool false)) (.rep 3 .nils)) 0 (.bool lf)) 1 v28) 2 v38) 3 v48)), (.int .i64 (.ofNat i1)), (.ptr b1 1), vk, (.int .i64 (.ofNat ks.length)), (.bool false), (lget ys58 5), (lget ys58 6), (lget ys58 7), (lget ys58 8), (lget ys58 9), (lget ys58 10), (lget ys74 0), (lget ys74 1), (lget ys74 2), (lget ys74 3), (lget ys74 4), (lget ys74 5), (lget ys74 6), (lget ys74 7), (lget ys74 8), (lget ys74 9), (lget ys74 10), u_, u_, u_, u_, u_, u_, u_, u_, u_, u_, u_, u_, u_] ∧ ds = [] ∧ Sat H Z ((.cells b21 [(.bool lf), v28, v38, v48]) :: (.cells b5 [(.bool false), .nils, .nils, .nils]) :: (.cells b1 [(.bool lf), vk, vv, vp]) :: (hl49 ++ (hl39 ++ (hl29 ++ (li1 ++ (li2 ++ (hp ++ F))))))) ∧ (i2 ≤ vs.length) ∧ (Own 1 vv vs.length Li2 li2)) (vs.length - 0) (by omega) ⟨0, _, hv, [u_, u_, u_, u_, u_, u_, u_, u_, u_, u_, u_], rfl, rfl, rfl, s59, (by omega), hov⟩ ?_
    rintro ms_ env ds H hms_ ⟨i2, Li2, li2, ys74, rfl, rfl, rfl, s75, ei2, hi2⟩
    refine wp_seq (wp_seq (wp_reg (wo_mv (.int .i64 (.ofNat i2)) (wo_x (v := (.ptr b1 2)) (ca_fla rfl rfl) (wo_x (v := vv) (s_ld1 s75 2 rfl) ?_)))))
    refine wo_x (v := (.int .i64 (.ofNat vs.length))) (own_len hi2 rfl) ?_
    by_cases c76 : i2 < vs.length
    · refine wo_x (v := (.bool true)) (w_bin (cmp_lssT i2 vs.length (by omega))) (wo_nil (thn_n (wp_condT (wp_skip (thn_n ?_)))))
      refine wp_seq (wp_block (wp_reg (wo_x (v := (.ptr b1 2)) (ca_fla rfl rfl) (wo_x (v := vv) (s_ld1 s75 2 rfl) (wo_mv (.int .i64 (.ofNat i2)) ?_)))))
      obtain ⟨b77, e78, g79, o80, k81⟩ := own_ix hi2 i2 (by omega)
      refine wo_x (v := (.ptr b77 (i2 * 1))) (k81 rfl rfl) ?_
      have r82 := Sat.rot (H := H) (Z := Z) (l₁ := [.cells b21 [(.bool lf), v28, v38, v48], .cells b5 [(.bool false), .nils, .nils, .nils], .cells b1 [(.bool lf), vk, vv, vp]] ++ (hl49 ++ (hl39 ++ (hl29 ++ (li1))))) (hl := li2) (F := hp ++ (F)) (by simp only [List.append_assoc]; exact s75)
      obtain ⟨L83, l84, H85, h86, s87, k88⟩ := own_st1 (i := i2) (x := (.str [115, 112, 111, 105, 108, 116])) r82 e78 g79 o80 rfl
      have s89 : Sat H85 Z ((.cells b21 [(.bool lf), v28, v38, v48]) :: (.cells b5 [(.bool false), .nils, .nils, .nils]) :: (.cells b1 [(.bool lf), vk, vv, vp]) :: (hl49 ++ (hl39 ++ (hl29 ++ (li1 ++ (l84 ++ (hp ++ F))))))) := by have h := Sat.rot (l₁ := l84) (hl := [.cells b21 [(.bool lf), v28, v38, v48], .cells b5 [(.bool false), .nils, .nils, .nils], .cells b1 [(.bool lf), vk, vv, vp]] ++ (hl49 ++ (hl39 ++ (hl29 ++ (li1))))) s87; simp only [List.append_assoc] at h; exact h
      refine wo_n (k88 rfl rfl) (wo_nil (blk_n (thn_n (wp_reg (wo_mv (.int .i64 (.ofNat i2)) ?_)))))
      refine wo_x (v := (.int .i64 (.ofNat (i2 + 1)))) (w_bin (add_i64 i2 1 (by omega) _ _)) (wo_mv (.int .i64 (.ofNat (i2 + 1))) (wo_nil ?_))
      refine lpq_n (vs.length - (i2 + 1)) (by omega) ⟨(i2 + 1), L83, l84, [(.int .i64 (.ofNat i2)), (.ptr b1 2), vv, (.int .i64 (.ofNat vs.length)), (.bool true), (.int .i64 (.ofNat i2)), (.int .i64 (.ofNat (i2 + 1))), (.ptr b1 2), vv, (.int .i64 (.ofNat i2)), (.ptr b77 (i2 * 1))], rfl, rfl, rfl, s89, (by omega), h86⟩
    · refine wo_x (v := (.bool false)) (w_bin (cmp_lssF i2 vs.length (by omega))) (wo_nil (thn_n (wp_condF (wp_exit (thn_e ?_)))))
      refine lpq_e (blk_h (thn_n (wp_seq (wp_seq (wp_reg ?_)))))
      refine wo_mv (.int .i64 0) (wo_nil (thn_n (wp_block ?_)))
      refine wp_loop (fun ms_ env ds H => ∃ (i3 : Nat) (Li3 : List AV) (li3 : List Hl), ∃ ys90 : List AV, ms_ = ps.length - i3 ∧ env = [(.agg r), (.ptr b1 0), (.ptr b5 0), (.ptr b21 0), (.int .i64 (.ofNat i1)), (.int .i64 (.ofNat i2)), (.int .i64 (.ofNat i3)), (.ptr b1 0), (.bool lf), (.slc b9 0 0 0), (.ptr b1 1), vk, v28, (.slc b13 0 0 0), (.ptr b1 2), vv, v38, (.slc b17 0 0 0), (.ptr b1 3), vp, v48, (.agg (Rp.set (Rp.set (Rp.set (Rp.set (.cat 1 (.one (.bool false)) (.rep 3 .nils)) 0 (.bool lf)) 1 v28) 2 v38) 3 v48)), (.int .i64 (.ofNat i1)), (.ptr b1 1), vk, (.int .i64 (.ofNat ks.length)), (.bool false), (lget ys58 5), (lget ys58 6), (lget ys58 7), (lget ys58 8), (lget ys58 9), (lget ys58 10), (.int .i64 (.ofNat i2)), (.ptr b1 2), vv, (.int .i64 (.ofNat vs.length)), (.bool false), (lget ys74 5), (lget ys74 6), (lget ys74 7), (lget ys74 8), (lget ys74 9), (lget ys74 10), (lget ys90 0), (lget ys90 1), (lget ys90 2), (lget ys90 3), (lget ys90 4), (lget ys90 5), (lget ys90 6), (lget ys90 7), (lget ys90 8), (lget ys90 9), (lget ys90 10), (lget ys90 11), u_] ∧ ds = [] ∧ Sat H Z ((.cells b21 [(.bool lf), v28, v38, v48]) :: (.cells b5 [(.bool false), .nils, .nils, .nils]) :: (.cells b1 [(.bool lf), vk, vv, vp]) :: (hl49 ++ (hl39 ++ (hl29 ++ (li1 ++ (li2 ++ (li3 ++ F))))))) ∧ (i3 ≤ ps.length) ∧ (Own 3 vp ps.length Li3 li3)) (ps.length - 0) (by omega) ⟨0, _, hp, [u_, u_, u_, u_, u_, u_, u_, u_, u_, u_, u_, u_], rfl, rfl, rfl, s75, (by omega), hop⟩ ?_
      rintro ms_ env ds H hms_ ⟨i3, Li3, li3, ys90, rfl, rfl, rfl, s91, ei3, hi3⟩
      refine wp_seq (wp_seq (wp_reg (wo_mv (.int .i64 (.ofNat i3)) (wo_x (v := (.ptr b1 3)) (ca_fla rfl rfl) (wo_x (v := vp) (s_ld1 s91 2 rfl) ?_)))))
      refine wo_x (v := (.int .i64 (.ofNat ps.length))) (own_len hi3 rfl) ?_
      by_cases c92 : i3 < ps.length
      · refine wo_x (v := (.bool true)) (w_bin (cmp_lssT i3 ps.length (by omega))) (wo_nil (thn_n (wp_condT (wp_skip (thn_n ?_)))))
        refine wp_seq (wp_block (wp_reg (wo_x (v := (.ptr b1 3)) (ca_fla rfl rfl) (wo_x (v := vp) (s_ld1 s91 2 rfl) (wo_mv (.int .i64 (.ofNat i3)) ?_)))))
        refine wo_x (v := (.agg (Rp.set (.cat 2 (.rep 2 (.int .i64 0)) (.one (.int .u64 0))) 0 (.int .i64 (-1))))) (w_build (r := (Rp.set (.cat 2 (.rep 2 (.int .i64 0)) (.one (.int .u64 0))) 0 (.int .i64 (-1)))) (fill_s (v := (.int .i64 (-1))) rfl rfl rfl fill_nil)) ?_
        obtain ⟨b93, e94, g95, o96, k97⟩ := own_ix hi3 i3 (by omega)
        refine wo_x (v := (.ptr b93 (i3 * 3))) (k97 rfl rfl) ?_
        have r98 := Sat.rot (H := H) (Z := Z) (l₁ := [.cells b21 [(.bool lf), v28, v38, v48], .cells b5 [(.bool false), .nils, .nils, .nils], .cells b1 [(.bool lf), vk, vv, vp]] ++ (hl49 ++ (hl39 ++ (hl29 ++ (li1 ++ (li2)))))) (hl := li3) (F := F) (by simp only [List.append_assoc]; exact s91)
        obtain ⟨L99, l100, H101, h102, s103, k104⟩ := own_stn (i := i3) r98 e94 g95 o96 ((RL.cat (RL.rep 2 (.int .i64 0)) (RL.one (.int .u64 0)) rfl).set 0 (.int .i64 (-1))) rfl
        have s105 : Sat H101 Z ((.cells b21 [(.bool lf), v28, v38, v48]) :: (.cells b5 [(.bool false), .nils, .nils, .nils]) :: (.cells b1 [(.bool lf), vk, vv, vp]) :: (hl49 ++ (hl39 ++ (hl29 ++ (li1 ++ (li2 ++ (l100 ++ F))))))) := by have h := Sat.rot (l₁ := l100) (hl := [.cells b21 [(.bool lf), v28, v38, v48], .cells b5 [(.bool false), .nils, .nils, .nils], .cells b1 [(.bool lf), vk, vv, vp]] ++ (hl49 ++ (hl39 ++ (hl29 ++ (li1 ++ (li2)))))) s103; simp only [List.append_assoc] at h; exact h
        refine wo_n (k104 rfl rfl) (wo_nil (blk_n (thn_n (wp_reg (wo_mv (.int .i64 (.ofNat i3)) ?_)))))
        refine wo_x (v := (.int .i64 (.ofNat (i3 + 1)))) (w_bin (add_i64 i3 1 (by omega) _ _)) (wo_mv (.int .i64 (.ofNat (i3 + 1))) (wo_nil ?_))
        refine lpq_n (ps.length - (i3 + 1)) (by omega) ⟨(i3 + 1), L99, l100, [(.int .i64 (.ofNat i3)), (.ptr b1 3), vp, (.int .i64 (.ofNat ps.length)), (.bool true), (.int .i64 (.ofNat i3)), (.int .i64 (.ofNat (i3 + 1))), (.ptr b1 3), vp, (.int .i64 (.ofNat i3)), (.agg (Rp.set (.cat 2 (.rep 2 (.int .i64 0)) (.one (.int .u64 0))) 0 (.int .i64 (-1)))), (.ptr b93 (i3 * 3))], rfl, rfl, rfl, s105, (by omega), h102⟩
      · refine wo_x (v := (.bool false)) (w_bin (cmp_lssF i3 ps.length (by omega))) (wo_nil (thn_n (wp_condF (wp_exit (thn_e ?_)))))
        refine lpq_e (blk_h (thn_n (wp_seq (wp_reg ?_))))
        obtain ⟨r106, q107, k108⟩ := s_ldn s91 0 0 4 
        refine wo_x (v := (.agg r106)) (k108 rfl) ?_
        have s109 := s91.pull 1
        obtain ⟨H110, s111, k112⟩ := s_stn s109 q107 0 4 rfl (Nat.le_of_ble_eq_true rfl)
        refine wo_n (k112 rfl rfl) (wo_nil (thn_n (wp_ret ?_)))
        refine fin_c  (off := 0) s111 0 fun r113 q114 => ?_
        have s115 := s111.drop 0
        have s116 := s115.drop 0
        have s117 := s116.drop 0
        have s118 : Sat H110 Z (hl49 ++ (hl39 ++ (hl29 ++ F))) := s117.sub (List.Sublist.append_left (List.Sublist.append_left (List.Sublist.append_left (((List.sublist_append_right _ F).trans (List.sublist_append_right _ _)).trans (List.sublist_append_right _ _)) _) _) _)
        exact ⟨_, v28, v38, v48, _, _, _, rfl, q114, h31, h41, h51, s118⟩
end
end Go.Jt
