/-
  jettylaw18's helpers. PRINTED by wip/tools/mklf.py.
-/
import Derived.Test.YtlhlgmodhblplaaJtLf
set_option autoImplicit false
set_option linter.all false
set_option maxRecDepth 10000
set_option maxHeartbeats 8000000
namespace Go.Jt
noncomputable section
variable [Gl]
class LfN where
  long : Nat
  given : Nat
  clash : Nat
  law : Nat
  awake : Nat
def b_flong [LfN] [LkN] : IR := (.seq (.reg [xo 2 (.mv (.cst (.bool false)))]) (.seq (.seq (.reg [mv 4 t0, xo 5 (.len 1 t4), xo 6 (.bin .gtr 0 t5 (.cst (.int .i64 80)))]) (.cond t6 (.seq (.reg [xo 2 (.mv (.cst (.bool true)))]) .ret) .skip)) (.seq (.seq (.reg [xo 3 (.mv (.cst (.int .i64 0)))]) (.block 0 (.loop (.seq (.seq (.reg [mv 7 t3, mv 8 t0, xo 9 (.len 1 t8), xo 10 (.bin .lss 0 t7 t9)]) (.cond t10 .skip (.exit 0))) (.seq (.block 1 (.seq (.reg [mv 13 t0, mv 14 t3, xo 15 (.ixs 3 t13 t14), xo 16 (.fla 2 t15), xo 17 (.ld1 t16), xo 18 (.len 1 t17), xo 19 (.bin .gtr 0 t18 (.cst (.int .i64 50)))]) (.cond t19 (.seq (.reg [xo 2 (.mv (.cst (.bool true)))]) .ret) .skip))) (.reg [mv 11 t3, xo 12 (.bin .add 0 t11 (.cst (.int .i64 1))), mv 3 t12])))))) (.seq (.reg [xo 2 (.mv (.cst (.bool false)))]) .ret))))
def ir_flong [LfN] [LkN] : FnIR := ⟨20, [.tmp 2], b_flong⟩
def b_fgiven [LfN] [LkN] : IR := (.seq (.reg [mv 2 (.cst .nils)]) (.seq (.reg [mv 3 (.cst .nils)]) (.seq (.seq (.reg [xo 4 (.mv (.cst (.int .i64 0)))]) (.block 0 (.loop (.seq (.seq (.reg [mv 5 t4, mv 6 t0, xo 7 (.len 1 t6), xo 8 (.bin .lss 0 t5 t7)]) (.cond t8 .skip (.exit 0))) (.seq (.block 1 (.dreg [.run (mv 11 t3), .run (mv 12 t0), .run (mv 13 t4), .run (xo 14 (.ixs 2 t12 t13)), .run (xo 15 (.fla 0 t14)), .run (xo 16 (.ld1 t15)), .run (mv 17 t0), .run (mv 18 t4), .run (xo 19 (.ixs 2 t17 t18)), .run (xo 20 (.fla 1 t19)), .run (xo 21 (.ld1 t20)), .run (xo 22 (.build (.cat 1 (.one (.int .i64 0)) (.one (.bool false))) [(0, 1, t16), (1, 1, t21)])), .run (xo 23 (.bsl 1 (.cat 2 (.cat 1 (.one (.int .i64 0)) (.one (.bool false))) .nil) [(0, 2, t22)]))] [(xo 24 (.app 2 16 (.cat 1 (.one (.int .i64 0)) (.one (.bool false))) false t11 t23), []), (mv 3 t24, [])])) (.reg [mv 9 t4, xo 10 (.bin .add 0 t9 (.cst (.int .i64 1))), mv 4 t10])))))) (.seq (.reg [mv 25 t3, mv 2 t25]) .ret))))
def ir_fgiven [LfN] [LkN] : FnIR := ⟨26, [.tmp 2], b_fgiven⟩
def b_fclash [LfN] [LkN] : IR := (.seq (.reg [xo 4 (.mv (.cst (.bool false)))]) (.seq (.seq (.reg [xo 5 (.mv (.cst (.int .i64 0)))]) (.block 0 (.loop (.seq (.seq (.reg [mv 7 t5, mv 8 t0, xo 9 (.len 1 t8), xo 10 (.bin .lss 0 t7 t9)]) (.cond t10 .skip (.exit 0))) (.seq (.block 1 (.seq (.reg [xo 6 (.mv (.cst (.int .i64 0)))]) (.block 2 (.loop (.seq (.seq (.reg [mv 13 t6, mv 14 t1, xo 15 (.len 1 t14), xo 16 (.bin .lss 0 t13 t15)]) (.cond t16 .skip (.exit 2))) (.seq (.block 3 (.seq (.dreg [.run (mv 19 t0), .run (mv 20 t5), .run (xo 21 (.ixs 2 t19 t20)), .run (xo 22 (.fla 0 t21)), .run (xo 23 (.ld1 t22)), .run (mv 24 t1), .run (mv 25 t6), .run (xo 26 (.ixs 2 t24 t25)), .run (xo 27 (.fla 0 t26)), .run (xo 28 (.ld1 t27)), .run (xo 29 (.bin .eql 0 t23 t28)), .run (mv 30 t29), .run ⟨some 31, .mv t0, some (30, true)⟩, .run ⟨some 32, .mv t5, some (30, true)⟩, .run ⟨some 33, .ixs 2 t31 t32, some (30, true)⟩, .run ⟨some 34, .fla 1 t33, some (30, true)⟩, .run ⟨some 35, .ld1 t34, some (30, true)⟩, .run ⟨some 36, .mv t35, some (30, true)⟩, .run ⟨some 37, .mv t1, some (36, false)⟩, .run ⟨some 38, .mv t6, some (36, false)⟩, .run ⟨some 39, .ixs 2 t37 t38, some (36, false)⟩, .run ⟨some 40, .fla 1 t39, some (36, false)⟩, .run ⟨some 41, .ld1 t40, some (36, false)⟩, .run ⟨some 42, .pick t36 (.cst (.bool true)) t41, some (30, true)⟩, .run (xo 43 (.pick t30 t42 (.cst (.bool false))))] []) (.cond t43 (.seq (.reg [xo 4 (.mv (.cst (.bool true)))]) .ret) .skip))) (.reg [mv 17 t6, xo 18 (.bin .add 0 t17 (.cst (.int .i64 1))), mv 6 t18]))))))) (.reg [mv 11 t5, xo 12 (.bin .add 0 t11 (.cst (.int .i64 1))), mv 5 t12])))))) (.seq (.reg [xo 4 (.mv (.cst (.bool false)))]) .ret)))
def ir_fclash [LfN] [LkN] : FnIR := ⟨44, [.tmp 4], b_fclash⟩
def b_flaw [LfN] [LkN] : IR := (.seq (.reg [xo 2 (.mv (.cst (.bool false)))]) (.seq (.seq (.reg [mv 17 t0, xo 18 (.call (.cst (.fn (.fn (.func LfN.long)) [] [])) [t17]), mv 19 t18, ⟨some 20, .call (.cst (.fn (.fn (.func LfN.awake)) [] [])) [], some (19, false)⟩, ⟨some 21, .not t20, some (19, false)⟩, xo 22 (.pick t19 (.cst (.bool true)) t21)]) (.cond t22 (.seq (.reg [xo 23 (.call (.cst (.fn (.fn (.func LfN.awake)) [] [])) []), mv 2 t23]) .ret) .skip)) (.seq (.reg [xo 24 (.call (.cst (.fn (.fn (.func LkN.new)) [] [])) []), mv 3 t24]) (.seq (.reg [mv 4 (.cst .nils)]) (.seq (.seq (.reg [xo 5 (.mv (.cst (.int .i64 0)))]) (.block 0 (.loop (.seq (.seq (.reg [mv 25 t5, mv 26 t0, xo 27 (.len 1 t26), xo 28 (.bin .lss 0 t25 t27)]) (.cond t28 .skip (.exit 0))) (.seq (.block 1 (.seq (.reg [mv 6 (.cst .nils)]) (.seq (.seq (.reg [mv 31 t0, mv 32 t5, xo 33 (.ixs 3 t31 t32), xo 34 (.fla 0 t33), xo 35 (.ld1 t34), xo 36 (.bin .eql 0 t35 (.cst (.int .u8 0)))]) (.cond t36 (.seq (.dreg [.run (mv 38 t3), .run (mv 39 t0), .run (mv 40 t5), .run (xo 41 (.ixs 3 t39 t40)), .run (xo 42 (.fla 1 t41)), .run (xo 43 (.ld1 t42)), .run (mv 44 t0), .run (mv 45 t5), .run (xo 46 (.ixs 3 t44 t45)), .run (xo 47 (.fla 2 t46)), .run (xo 48 (.ld1 t47))] [(xo 49 (.call (.cst (.fn (.fn (.func LfN.given)) [] [])) [t48]), [.again (xo 43 (.ld1 t42))]), (xo 50 (.call (.cst (.fn (.fn (.func LkN.ask)) [] [])) [t38, t43, t49]), [.run (mv 37 t50), .run (xo 51 (.ext t37 0)), .run (xo 52 (.ext t37 1)), .run (mv 7 t51), .run (mv 8 t52)])]) (.seq (.reg [mv 53 t8, xo 54 (.bin .eql 0 t53 (.cst (.int .i64 0)))]) (.cond t54 (.dreg [.run (mv 55 t4), .run (mv 56 t0), .run (mv 57 t5), .run (xo 58 (.ixs 3 t56 t57)), .run (xo 59 (.fla 1 t58)), .run (xo 60 (.ld1 t59)), .run (mv 61 t0), .run (mv 62 t5), .run (xo 63 (.ixs 3 t61 t62)), .run (xo 64 (.fla 2 t63)), .run (xo 65 (.ld1 t64)), .run (mv 66 t7), .run (xo 67 (.build (.cat 2 (.cat 1 (.one (.int .i64 0)) (.one .nils)) (.one (.bool false))) [(0, 1, t60), (1, 1, t65), (2, 1, t66)])), .run (xo 68 (.bsl 1 (.cat 3 (.cat 2 (.cat 1 (.one (.int .i64 0)) (.one .nils)) (.one (.bool false))) .nil) [(0, 3, t67)]))] [(xo 69 (.app 3 40 (.cat 2 (.cat 1 (.one (.int .i64 0)) (.one .nils)) (.one (.bool false))) false t55 t68), []), (mv 4 t69, [])]) .skip))) (.seq (.reg [mv 71 t3, mv 72 t0, mv 73 t5, xo 74 (.ixs 3 t72 t73), xo 75 (.fla 1 t74), xo 76 (.ld1 t75), xo 77 (.call (.cst (.fn (.fn (.func LkN.drop)) [] [])) [t71, t76]), mv 70 t77, xo 78 (.ext t70 0), xo 79 (.ext t70 1), mv 9 t78, mv 10 t79]) (.seq (.reg [mv 80 t9, mv 6 t80]) (.seq (.reg [xo 11 (.mv (.cst (.int .i64 0)))]) (.block 2 (.loop (.seq (.seq (.reg [mv 81 t11, mv 82 t4, xo 83 (.len 1 t82), xo 84 (.bin .lss 0 t81 t83)]) (.cond t84 .skip (.exit 2))) (.seq (.block 3 (.seq (.dreg [.run (mv 87 t4), .run (mv 88 t11), .run (xo 89 (.ixs 3 t87 t88)), .run (xo 90 (.fla 0 t89)), .run (xo 91 (.ld1 t90)), .run (mv 92 t0), .run (mv 93 t5), .run (xo 94 (.ixs 3 t92 t93)), .run (xo 95 (.fla 1 t94)), .run (xo 96 (.ld1 t95)), .run (xo 97 (.bin .eql 0 t91 t96)), .run (mv 98 t97), .run ⟨some 99, .mv t10, some (98, true)⟩, .run ⟨some 100, .bin .eql 0 t99 (.cst (.int .i64 0)), some (98, true)⟩, .run (xo 101 (.pick t98 t100 (.cst (.bool false))))] []) (.cond t101 (.seq (.dreg [.run (xo 102 (.bsl 0 .nil [])), .run (mv 103 t4), .run (mv 104 t11), .run (xo 105 (.sll 3 t103 none (some t104) none)), .run (mv 107 t4), .run (mv 108 t11), .run (xo 109 (.bin .add 0 t108 (.cst (.int .i64 1)))), .run (xo 110 (.sll 3 t107 (some t109) none none))] [(xo 106 (.app 3 40 (.cat 2 (.cat 1 (.one (.int .i64 0)) (.one .nils)) (.one (.bool false))) false t102 t105), [.again (xo 109 (.bin .add 0 t108 (.cst (.int .i64 1)))), .again (xo 110 (.sll 3 t107 (some t109) none none))]), (xo 111 (.app 3 40 (.cat 2 (.cat 1 (.one (.int .i64 0)) (.one .nils)) (.one (.bool false))) false t106 t110), []), (mv 4 t111, [])]) (.exit 2)) .skip))) (.reg [mv 85 t11, xo 86 (.bin .add 0 t85 (.cst (.int .i64 1))), mv 11 t86])))))))))) (.seq (.seq (.reg [xo 12 (.mv (.cst (.int .i64 0)))]) (.block 4 (.loop (.seq (.seq (.reg [mv 112 t12, mv 113 t4, xo 114 (.len 1 t113), xo 115 (.bin .lss 0 t112 t114)]) (.cond t115 .skip (.exit 4))) (.seq (.block 5 (.seq (.reg [xo 13 (.mv (.cst (.bool true)))]) (.seq (.seq (.reg [xo 14 (.mv (.cst (.int .i64 0)))]) (.block 6 (.loop (.seq (.seq (.reg [mv 118 t14, mv 119 t12, xo 120 (.bin .lss 0 t118 t119)]) (.cond t120 .skip (.exit 6))) (.seq (.block 7 (.seq (.dreg [.run (mv 123 t4), .run (mv 124 t14), .run (xo 125 (.ixs 3 t123 t124)), .run (xo 126 (.fla 1 t125)), .run (xo 127 (.ld1 t126)), .run (mv 128 t4), .run (mv 129 t12), .run (xo 130 (.ixs 3 t128 t129)), .run (xo 131 (.fla 1 t130)), .run (xo 132 (.ld1 t131))] [(xo 133 (.call (.cst (.fn (.fn (.func LfN.clash)) [] [])) [t127, t132]), [.run (mv 15 t133)])]) (.seq (.reg [mv 134 t13, mv 135 t134, ⟨some 136, .mv t15, some (135, true)⟩, ⟨some 137, .not t136, some (135, true)⟩, xo 138 (.pick t135 t137 (.cst (.bool false))), mv 13 t138]) (.seq (.reg [mv 139 t15, mv 140 t139, ⟨some 141, .mv t3, some (140, true)⟩, ⟨some 142, .mv t4, some (140, true)⟩, ⟨some 143, .mv t14, some (140, true)⟩, ⟨some 144, .ixs 3 t142 t143, some (140, true)⟩, ⟨some 145, .fla 0 t144, some (140, true)⟩, ⟨some 146, .ld1 t145, some (140, true)⟩, ⟨some 147, .call (.cst (.fn (.fn (.func LkN.has)) [] [])) [t141, t146], some (140, true)⟩, xo 148 (.pick t140 t147 (.cst (.bool false))), mv 149 t148, ⟨some 150, .mv t3, some (149, true)⟩, ⟨some 151, .mv t4, some (149, true)⟩, ⟨some 152, .mv t12, some (149, true)⟩, ⟨some 153, .ixs 3 t151 t152, some (149, true)⟩, ⟨some 154, .fla 0 t153, some (149, true)⟩, ⟨some 155, .ld1 t154, some (149, true)⟩, ⟨some 156, .call (.cst (.fn (.fn (.func LkN.has)) [] [])) [t150, t155], some (149, true)⟩, xo 157 (.pick t149 t156 (.cst (.bool false)))]) (.cond t157 (.seq (.reg [xo 2 (.mv (.cst (.bool false)))]) .ret) .skip))))) (.reg [mv 121 t14, xo 122 (.bin .add 0 t121 (.cst (.int .i64 1))), mv 14 t122])))))) (.seq (.reg [mv 158 t3, mv 159 t4, mv 160 t12, xo 161 (.ixs 3 t159 t160), xo 162 (.fla 0 t161), xo 163 (.ld1 t162), xo 164 (.call (.cst (.fn (.fn (.func LkN.has)) [] [])) [t158, t163]), mv 16 t164]) (.seq (.seq (.reg [mv 165 t16, mv 166 t13, xo 167 (.bin .neq 1 t165 t166), mv 168 t167, ⟨some 169, .mv t12, some (168, false)⟩, ⟨some 170, .bin .eql 0 t169 (.cst (.int .i64 0)), some (168, false)⟩, ⟨some 171, .mv t170, some (168, false)⟩, ⟨some 172, .mv t16, some (171, true)⟩, ⟨some 173, .not t172, some (171, true)⟩, ⟨some 174, .pick t171 t173 (.cst (.bool false)), some (168, false)⟩, xo 175 (.pick t168 (.cst (.bool true)) t174), mv 176 t175, ⟨some 177, .mv t4, some (176, false)⟩, ⟨some 178, .mv t12, some (176, false)⟩, ⟨some 179, .ixs 3 t177 t178, some (176, false)⟩, ⟨some 180, .fla 2 t179, some (176, false)⟩, ⟨some 181, .ld1 t180, some (176, false)⟩, ⟨some 182, .mv t181, some (176, false)⟩, ⟨some 183, .mv t16, some (182, true)⟩, ⟨some 184, .not t183, some (182, true)⟩, ⟨some 185, .pick t182 t184 (.cst (.bool false)), some (176, false)⟩, xo 186 (.pick t176 (.cst (.bool true)) t185)]) (.cond t186 (.seq (.reg [xo 2 (.mv (.cst (.bool false)))]) .ret) .skip)) (.seq (.seq (.reg [mv 187 t16, mv 188 t187, ⟨some 189, .mv t4, some (188, true)⟩, ⟨some 190, .mv t12, some (188, true)⟩, ⟨some 191, .ixs 3 t189 t190, some (188, true)⟩, ⟨some 192, .fla 2 t191, some (188, true)⟩, ⟨some 193, .ld1 t192, some (188, true)⟩, ⟨some 194, .not t193, some (188, true)⟩, xo 195 (.pick t188 t194 (.cst (.bool false)))]) (.cond t195 (.seq (.seq (.dreg [.run (mv 196 t6), .run (xo 197 (.len 1 t196)), .run (xo 198 (.bin .eql 0 t197 (.cst (.int .i64 0)))), .run (mv 199 t198), .run ⟨some 200, .mv t6, some (199, false)⟩, .run ⟨some 201, .ixs 1 t200 (.cst (.int .i64 0)), some (199, false)⟩, .run ⟨some 202, .ld1 t201, some (199, false)⟩, .run ⟨some 203, .mv t4, some (199, false)⟩, .run ⟨some 204, .mv t12, some (199, false)⟩, .run ⟨some 205, .ixs 3 t203 t204, some (199, false)⟩, .run ⟨some 206, .fla 0 t205, some (199, false)⟩, .run ⟨some 207, .ld1 t206, some (199, false)⟩, .run ⟨some 208, .bin .neq 0 t202 t207, some (199, false)⟩, .run (xo 209 (.pick t199 (.cst (.bool true)) t208))] []) (.cond t209 (.seq (.reg [xo 2 (.mv (.cst (.bool false)))]) .ret) .skip)) (.reg [mv 210 t6, xo 211 (.sll 1 t210 (some (.cst (.int .i64 1))) none none), mv 6 t211])) .skip)) (.reg [mv 212 t4, mv 213 t12, mv 214 t16, xo 215 (.ixs 3 t212 t213), xo 216 (.fla 2 t215), ⟨none, .st 1 t216 t214, none⟩]))))))) (.reg [mv 116 t12, xo 117 (.bin .add 0 t116 (.cst (.int .i64 1))), mv 12 t117])))))) (.seq (.reg [mv 217 t6, xo 218 (.len 1 t217), xo 219 (.bin .neq 0 t218 (.cst (.int .i64 0))), mv 220 t219, ⟨some 221, .mv t3, some (220, false)⟩, ⟨some 222, .call (.cst (.fn (.fn (.func LkN.row)) [] [])) [t221], some (220, false)⟩, ⟨some 223, .len 1 t222, some (220, false)⟩, ⟨some 224, .mv t4, some (220, false)⟩, ⟨some 225, .len 1 t224, some (220, false)⟩, ⟨some 226, .bin .neq 0 t223 t225, some (220, false)⟩, xo 227 (.pick t220 (.cst (.bool true)) t226)]) (.cond t227 (.seq (.reg [xo 2 (.mv (.cst (.bool false)))]) .ret) .skip)))))) (.reg [mv 29 t5, xo 30 (.bin .add 0 t29 (.cst (.int .i64 1))), mv 5 t30])))))) (.seq (.reg [xo 2 (.mv (.cst (.bool true)))]) .ret))))))
def ir_flaw [LfN] [LkN] : FnIR := ⟨228, [.tmp 2], b_flaw⟩
structure LfT [LfN] [LkN] (tbl : Nat → Option FT) : Prop where
  long : tbl LfN.long = some (.code ir_flong)
  given : tbl LfN.given = some (.code ir_fgiven)
  clash : tbl LfN.clash = some (.code ir_fclash)
  law : tbl LfN.law = some (.code ir_flaw)
/-- not long -/
def NL18 (n0 : Nat) (lw : Nat → List Wt) : Prop := n0 ≤ 80 ∧ ∀ i, i < n0 → (lw i).length ≤ 50
theorem long18_ok [LfN] [LkN] {tbl : Nat → Option FT} (T : LfT tbl) {n0 : Nat} {kd : Nat → Nat} {tk : Nat → Int} {lv : Nat → AV} {lw : Nat → List Wt} {xv : AV} {N d : Nat} (hd : 1 ≤ d) {Z : Fz} {F : List Hl} {H : AH} (hs : Sat H Z (F)) (hx : Fl Z 3 xv ((List.range n0).map fun i => [AV.int .u8 (.ofNat (kd i)), .int .i64 (tk i), lv i])) (hlv : ∀ i, i < n0 → Fl Z 2 (lv i) (wrow (lw i))) (hN : 200 < N) :
    Ct (RUN tbl N d) (.fn (.fn (.func LfN.long)) [] []) [xv] H fun v H' => v = .bool (dB (¬ NL18 n0 lw)) ∧ Sat H' Z F := by
  obtain ⟨d, rfl⟩ : ∃ e, d = e + 1 := ⟨d - 1, by omega⟩
  refine ct_code T.long (b := b_flong) (env := [xv, u_, u_, u_, u_, u_, u_, u_, u_, u_, u_, u_, u_, u_, u_, u_, u_, u_, u_, u_]) ?_
  unfold b_flong
  refine wp_seq (wp_reg (wo_mv (.bool false) (wo_nil (thn_n (wp_seq ?_)))))
  refine wp_seq (wp_reg (wo_mv xv (wo_x (v := (.int .i64 (.ofNat n0))) (fl_len hx (ofFn_len n0 _) rfl) ?_)))
  by_cases c1 : 80 < n0
  · refine wo_x (v := (.bool true)) (w_bin (cmp_gtrT n0 80 (by omega))) (wo_nil (thn_n (wp_condT (wp_seq (wp_reg ?_)))))
    refine wo_mv (.bool true) (wo_nil (thn_n (wp_ret (thn_r ?_))))
    exact fin_1 (.bool true) ⟨congrArg AV.bool (dB_true (fun h => by unfold NL18 at h; omega)).symm, hs⟩
  · refine wo_x (v := (.bool false)) (w_bin (cmp_gtrF n0 80 (by omega))) (wo_nil (thn_n (wp_condF (wp_skip (thn_n ?_)))))
    refine wp_seq (wp_seq (wp_reg (wo_mv (.int .i64 0) (wo_nil (thn_n ?_)))))
    refine wp_block ?_
    refine wp_loop (fun ms_ env ds H => ∃ (i : Nat), ∃ ys2 : List AV, ms_ = n0 - i ∧ env = [xv, u_, (lget ys2 0), (.int .i64 (.ofNat i)), xv, (.int .i64 (.ofNat n0)), (.bool false), (lget ys2 1), (lget ys2 2), (lget ys2 3), (lget ys2 4), (lget ys2 5), (lget ys2 6), (lget ys2 7), (lget ys2 8), (lget ys2 9), (lget ys2 10), (lget ys2 11), (lget ys2 12), (lget ys2 13)] ∧ ds = [] ∧ Sat H Z (F) ∧ (i ≤ n0) ∧ (∀ m, m < i → (lw m).length ≤ 50)) (n0 - 0) (by omega) ⟨0, [(.bool false), u_, u_, u_, u_, u_, u_, u_, u_, u_, u_, u_, u_, u_], rfl, rfl, rfl, hs, (by omega), (by intro m hm; omega)⟩ ?_
    rintro ms_ env ds H hms_ ⟨i, ys2, rfl, rfl, rfl, s3, hi, hal⟩
    refine wp_seq (wp_seq (wp_reg (wo_mv (.int .i64 (.ofNat i)) (wo_mv xv (wo_x (v := (.int .i64 (.ofNat n0))) (fl_len hx (ofFn_len n0 _) rfl) ?_)))))
    by_cases c4 : i < n0
    · refine wo_x (v := (.bool true)) (w_bin (cmp_lssT i n0 (by omega))) (wo_nil (thn_n (wp_condT (wp_skip (thn_n ?_)))))
      refine wp_seq (wp_block (wp_seq (wp_reg (wo_mv xv (wo_mv (.int .i64 (.ofNat i)) ?_)))))
      obtain ⟨b5, o6, L7, z8, g9, e10, n11, k12⟩ := fl_ix hx i (ofFn_get _ (show i < n0 by omega))
      refine wo_x (v := (.ptr b5 o6)) (k12 rfl rfl) (wo_x (v := (.ptr b5 (o6 + 2))) (ca_fla rfl (by omega)) (wo_x (v := (lv i)) (s_zld1 s3 z8 (g9 2 _ rfl)) (wo_x (v := (.int .i64 (.ofNat ((lw i).length)))) (fl_len (hlv i (by omega)) (wrow_len (lw i)) rfl) ?_)))
      by_cases c13 : 50 < (lw i).length
      · refine wo_x (v := (.bool true)) (w_bin (cmp_gtrT ((lw i).length) 50 (by omega))) (wo_nil (thn_n (wp_condT (wp_seq (wp_reg ?_)))))
        refine wo_mv (.bool true) (wo_nil (thn_n (wp_ret (blk_r (thn_r ?_)))))
        refine lpq_r (blk_r (thn_r ?_))
        exact fin_1 (.bool true) ⟨congrArg AV.bool (dB_true (fun h => by have := h.2 i (by omega); omega)).symm, s3⟩
      · refine wo_x (v := (.bool false)) (w_bin (cmp_gtrF ((lw i).length) 50 (by omega))) (wo_nil (thn_n (wp_condF (wp_skip (blk_n ?_)))))
        refine thn_n (wp_reg (wo_mv (.int .i64 (.ofNat i)) (wo_x (v := (.int .i64 (.ofNat (i + 1)))) (w_bin (add_i64 i 1 (by omega) _ _)) (wo_mv (.int .i64 (.ofNat (i + 1))) (wo_nil ?_)))))
        refine lpq_n (n0 - (i + 1)) (by omega) ⟨(i + 1), [(lget ys2 0), (.int .i64 (.ofNat i)), xv, (.int .i64 (.ofNat n0)), (.bool true), (.int .i64 (.ofNat i)), (.int .i64 (.ofNat (i + 1))), xv, (.int .i64 (.ofNat i)), (.ptr b5 o6), (.ptr b5 (o6 + 2)), (lv i), (.int .i64 (.ofNat ((lw i).length))), (.bool false)], rfl, rfl, rfl, s3, (by omega), (by intro m hm; by_cases e : m = i; (subst e; omega); exact hal m (by omega))⟩
    · refine wo_x (v := (.bool false)) (w_bin (cmp_lssF i n0 (by omega))) (wo_nil (thn_n (wp_condF (wp_exit (thn_e ?_)))))
      refine lpq_e (blk_h (thn_n (wp_seq (wp_reg (wo_mv (.bool false) ?_)))))
      refine wo_nil (thn_n (wp_ret ?_))
      exact fin_1 (.bool false) ⟨congrArg AV.bool (dB_false (fun h => h ⟨by omega, fun m hm => hal m (by omega)⟩)).symm, s3⟩
theorem wflat_take {ws : List Wt} {i : Nat} (h : i < ws.length) : (wrow (ws.take (i + 1))).flatten = (wrow (ws.take i)).flatten ++ [.int .i64 (wAt ws i).1, .bool (wAt ws i).2] := by
  rw [List.take_succ, wAt_get h]
  simp [wrow]
theorem given18_ok [LfN] [LkN] {tbl : Nat → Option FT} (T : LfT tbl) {ws : List Wt} {v0 : AV} {N d : Nat} (hd : 1 ≤ d) {Z : Fz} {F : List Hl} {H : AH} (hs : Sat H Z (F)) (hv0 : Fl Z 2 v0 (wrow ws)) (hl : ws.length ≤ 1000) (hN : 2000 < N) :
    Ct (RUN tbl N d) (.fn (.fn (.func LfN.given)) [] []) [v0] H fun v H' => ∃ gl, Own 2 v ws.length (wrow ws).flatten gl ∧ Sat H' Z (gl ++ F) := by
  obtain ⟨d, rfl⟩ : ∃ e, d = e + 1 := ⟨d - 1, by omega⟩
  refine ct_code T.given (b := b_fgiven) (env := [v0, u_, u_, u_, u_, u_, u_, u_, u_, u_, u_, u_, u_, u_, u_, u_, u_, u_, u_, u_, u_, u_, u_, u_, u_, u_]) ?_
  unfold b_fgiven
  refine wp_seq (wp_reg (wo_mv .nils (wo_nil (thn_n (wp_seq ?_)))))
  refine wp_reg (wo_mv .nils (wo_nil (thn_n (wp_seq (wp_seq ?_)))))
  refine wp_reg (wo_mv (.int .i64 0) (wo_nil (thn_n (wp_block ?_))))
  refine wp_loop (fun ms_ env ds H => ∃ (i : Nat) (gv : AV) (gl : List Hl), ∃ ys1 : List AV, ms_ = ws.length - i ∧ env = [v0, u_, .nils, gv, (.int .i64 (.ofNat i)), (lget ys1 0), (lget ys1 1), (lget ys1 2), (lget ys1 3), (lget ys1 4), (lget ys1 5), (lget ys1 6), (lget ys1 7), (lget ys1 8), (lget ys1 9), (lget ys1 10), (lget ys1 11), (lget ys1 12), (lget ys1 13), (lget ys1 14), (lget ys1 15), (lget ys1 16), (lget ys1 17), (lget ys1 18), (lget ys1 19), u_] ∧ ds = [] ∧ Sat H Z ((gl ++ F)) ∧ (i ≤ ws.length) ∧ (Own 2 gv i (wrow (ws.take i)).flatten gl)) (ws.length - 0) (by omega) ⟨0, .nils, [], [u_, u_, u_, u_, u_, u_, u_, u_, u_, u_, u_, u_, u_, u_, u_, u_, u_, u_, u_, u_], rfl, rfl, rfl, hs, (by omega), .nil⟩ ?_
  rintro ms_ env ds H hms_ ⟨i, gv, gl, ys1, rfl, rfl, rfl, s2, hi, hgo⟩
  refine wp_seq (wp_seq (wp_reg (wo_mv (.int .i64 (.ofNat i)) (wo_mv v0 (wo_x (v := (.int .i64 (.ofNat ws.length))) (fl_len hv0 (wrow_len ws) rfl) ?_)))))
  by_cases c3 : i < ws.length
  · refine wo_x (v := (.bool true)) (w_bin (cmp_lssT i ws.length (by omega))) (wo_nil (thn_n (wp_condT (wp_skip (thn_n ?_)))))
    refine wp_seq (wp_block (wp_dreg (wd_run (wo_mv gv (wo_nil ?_)))))
    refine wd_run (wo_mv v0 (wo_nil (wd_run (wo_mv (.int .i64 (.ofNat i)) (wo_nil ?_)))))
    refine wd_run ?_
    obtain ⟨b4, o5, L6, z7, g8, e9, n10, k11⟩ := fl_ix hv0 i (wrow_get (show i < ws.length by omega))
    refine wo_x (v := (.ptr b4 o5)) (k11 rfl rfl) (wo_nil (wd_run (wo_x (v := (.ptr b4 o5)) (ca_fla rfl (by omega)) (wo_nil (wd_run ?_)))))
    refine wo_x (v := (.int .i64 ((wAt ws i).1))) (s_zld1 s2 z7 (g8 0 _ rfl)) (wo_nil (wd_run (wo_mv v0 (wo_nil (wd_run ?_)))))
    refine wo_mv (.int .i64 (.ofNat i)) (wo_nil (wd_run ?_))
    obtain ⟨b12, o13, L14, z15, g16, e17, n18, k19⟩ := fl_ix hv0 i (wrow_get (show i < ws.length by omega))
    refine wo_x (v := (.ptr b12 o13)) (k19 rfl rfl) (wo_nil (wd_run (wo_x (v := (.ptr b12 (o13 + 1))) (ca_fla rfl (by omega)) (wo_nil (wd_run ?_)))))
    refine wo_x (v := (.bool ((wAt ws i).2))) (s_zld1 s2 z15 (g16 1 _ rfl)) (wo_nil (wd_run (wo_x (v := (.agg (Rp.set (Rp.set (.cat 1 (.one (.int .i64 0)) (.one (.bool false))) 0 (.int .i64 ((wAt ws i).1))) 1 (.bool ((wAt ws i).2))))) (w_build (r := (Rp.set (Rp.set (.cat 1 (.one (.int .i64 0)) (.one (.bool false))) 0 (.int .i64 ((wAt ws i).1))) 1 (.bool ((wAt ws i).2)))) (fill_s (v := (.int .i64 ((wAt ws i).1))) rfl rfl rfl (fill_s (v := (.bool ((wAt ws i).2))) rfl rfl rfl fill_nil))) (wo_nil (wd_run ?_)))))
    obtain ⟨b20, H21, s22, k23⟩ := s_bsl s2 (RL.put (o := 0) (n := 2) (RL.cat (RL.cat (RL.one (.int .i64 0)) (RL.one (.bool false)) rfl) RL.nil rfl) (((RL.cat (RL.one (.int .i64 0)) (RL.one (.bool false)) rfl).set 0 (.int .i64 ((wAt ws i).1))).set 1 (.bool ((wAt ws i).2))) rfl (Nat.le_of_ble_eq_true rfl))
    refine wo_x (v := (.slc b20 0 1 1)) (k23 (fill_a rfl (by first | rfl | (rw [((((RL.cat (RL.one (.int .i64 0)) (RL.one (.bool false)) rfl).set 0 (.int .i64 ((wAt ws i).1))).set 1 (.bool ((wAt ws i).2)))).len]; rfl)) rfl fill_nil)) (wo_nil (wd_nil (ws_cons ?_)))
    have c24 := src_sl (es := 2) s22 0 (.slc b20 0 1 1 2) (Nat.le_of_ble_eq_true rfl)
    have r25 := Sat.rot (H := H21) (Z := Z) (l₁ := [.cells b20 [(.int .i64 ((wAt ws i).1)), (.bool ((wAt ws i).2))]]) (hl := gl) (F := F) (s22)
    obtain ⟨v26, l27, H28, h29, s30, k31⟩ := s_own (bytes := 16) r25 hgo c24 (by omega) (by omega)
    have s32 : Sat H28 Z ((.cells b20 [(.int .i64 ((wAt ws i).1)), (.bool ((wAt ws i).2))]) :: (l27 ++ F)) := by have h := Sat.rot (l₁ := l27) (hl := [.cells b20 [(.int .i64 ((wAt ws i).1)), (.bool ((wAt ws i).2))]]) s30; exact h
    refine wo_x (v := v26) (k31 rfl rfl) (wo_nil (wd_nil (ws_cons (wo_mv v26 (wo_nil ?_)))))
    refine wd_nil (ws_nil (blk_n (thn_n (wp_reg (wo_mv (.int .i64 (.ofNat i)) ?_)))))
    refine wo_x (v := (.int .i64 (.ofNat (i + 1)))) (w_bin (add_i64 i 1 (by omega) _ _)) (wo_mv (.int .i64 (.ofNat (i + 1))) (wo_nil ?_))
    have s33 := s32.drop 0
    refine lpq_n (ws.length - (i + 1)) (by omega) ⟨(i + 1), v26, l27, [(.int .i64 (.ofNat i)), v0, (.int .i64 (.ofNat ws.length)), (.bool true), (.int .i64 (.ofNat i)), (.int .i64 (.ofNat (i + 1))), gv, v0, (.int .i64 (.ofNat i)), (.ptr b4 o5), (.ptr b4 o5), (.int .i64 ((wAt ws i).1)), v0, (.int .i64 (.ofNat i)), (.ptr b12 o13), (.ptr b12 (o13 + 1)), (.bool ((wAt ws i).2)), (.agg (Rp.set (Rp.set (.cat 1 (.one (.int .i64 0)) (.one (.bool false))) 0 (.int .i64 ((wAt ws i).1))) 1 (.bool ((wAt ws i).2)))), (.slc b20 0 1 1), v26], rfl, rfl, rfl, s33, (by omega), (by rw [wflat_take (by omega)]; exact h29)⟩
  · refine wo_x (v := (.bool false)) (w_bin (cmp_lssF i ws.length (by omega))) (wo_nil (thn_n (wp_condF (wp_exit (thn_e ?_)))))
    refine lpq_e (blk_h (thn_n (wp_seq (wp_reg (wo_mv gv ?_)))))
    refine wo_mv gv (wo_nil (thn_n (wp_ret ?_)))
    obtain rfl : i = ws.length := by omega
    rw [List.take_of_length_le (Nat.le_refl _)] at hgo
    exact fin_1 gv ⟨_, hgo, s2⟩
theorem clashR_ok [LfN] [LkN] {tbl : Nat → Option FT} (T : LfT tbl) {a b : List Wt} {va vb : AV} {N d : Nat} (hd : 1 ≤ d) {Z : Fz} {F : List Hl} {H : AH} (hs : Sat H Z (F)) (hva : Fl Z 2 va (wrow a)) (hvb : Fl Z 2 vb (wrow b)) (ha : a.length ≤ 1000) (hb : b.length ≤ 1000) (hN : 2000 < N) :
    Ct (RUN tbl N d) (.fn (.fn (.func LfN.clash)) [] []) [va, vb] H fun v H' => v = .bool (dB (CC a b)) ∧ Sat H' Z F := by
  obtain ⟨d, rfl⟩ : ∃ e, d = e + 1 := ⟨d - 1, by omega⟩
  refine ct_code T.clash (b := b_fclash) (env := [va, vb, u_, u_, u_, u_, u_, u_, u_, u_, u_, u_, u_, u_, u_, u_, u_, u_, u_, u_, u_, u_, u_, u_, u_, u_, u_, u_, u_, u_, u_, u_, u_, u_, u_, u_, u_, u_, u_, u_, u_, u_, u_, u_]) ?_
  unfold b_fclash
  refine wp_seq (wp_reg (wo_mv (.bool false) (wo_nil (thn_n (wp_seq ?_)))))
  refine wp_seq (wp_reg (wo_mv (.int .i64 0) (wo_nil (thn_n (wp_block ?_)))))
  refine wp_loop (fun ms_ env ds H => ∃ (i : Nat), ∃ ys1 : List AV, ms_ = a.length - i ∧ env = [va, vb, u_, u_, (lget ys1 0), (.int .i64 (.ofNat i)), (lget ys1 1), (lget ys1 2), (lget ys1 3), (lget ys1 4), (lget ys1 5), (lget ys1 6), (lget ys1 7), (lget ys1 8), (lget ys1 9), (lget ys1 10), (lget ys1 11), (lget ys1 12), (lget ys1 13), (lget ys1 14), (lget ys1 15), (lget ys1 16), (lget ys1 17), (lget ys1 18), (lget ys1 19), (lget ys1 20), (lget ys1 21), (lget ys1 22), (lget ys1 23), (lget ys1 24), (lget ys1 25), (lget ys1 26), (lget ys1 27), (lget ys1 28), (lget ys1 29), (lget ys1 30), (lget ys1 31), (lget ys1 32), (lget ys1 33), (lget ys1 34), (lget ys1 35), (lget ys1 36), (lget ys1 37), (lget ys1 38)] ∧ ds = [] ∧ Sat H Z (F) ∧ (i ≤ a.length) ∧ (∀ q, q < i → ¬ CW a b q)) (a.length - 0) (by omega) ⟨0, [(.bool false), u_, u_, u_, u_, u_, u_, u_, u_, u_, u_, u_, u_, u_, u_, u_, u_, u_, u_, u_, u_, u_, u_, u_, u_, u_, u_, u_, u_, u_, u_, u_, u_, u_, u_, u_, u_, u_, u_], rfl, rfl, rfl, hs, (by omega), (fun q hq => by omega)⟩ ?_
  rintro ms_ env ds H hms_ ⟨i, ys1, rfl, rfl, rfl, s2, hi, hA⟩
  refine wp_seq (wp_seq (wp_reg (wo_mv (.int .i64 (.ofNat i)) (wo_mv va (wo_x (v := (.int .i64 (.ofNat a.length))) (fl_len hva (wrow_len a) rfl) ?_)))))
  by_cases c3 : i < a.length
  · refine wo_x (v := (.bool true)) (w_bin (cmp_lssT i a.length (by omega))) (wo_nil (thn_n (wp_condT (wp_skip (thn_n ?_)))))
    refine wp_seq (wp_block (wp_seq (wp_reg (wo_mv (.int .i64 0) (wo_nil ?_)))))
    refine thn_n (wp_block ?_)
    refine wp_loop (fun ms_ env ds H => ∃ (k : Nat), ∃ ys4 : List AV, ms_ = b.length - k ∧ env = [va, vb, u_, u_, (lget ys4 0), (.int .i64 (.ofNat i)), (.int .i64 (.ofNat k)), (.int .i64 (.ofNat i)), va, (.int .i64 (.ofNat a.length)), (.bool true), (lget ys1 6), (lget ys1 7), (lget ys4 1), (lget ys4 2), (lget ys4 3), (lget ys4 4), (lget ys4 5), (lget ys4 6), (lget ys4 7), (lget ys4 8), (lget ys4 9), (lget ys4 10), (lget ys4 11), (lget ys4 12), (lget ys4 13), (lget ys4 14), (lget ys4 15), (lget ys4 16), (lget ys4 17), (lget ys4 18), (lget ys4 19), (lget ys4 20), (lget ys4 21), (lget ys4 22), (lget ys4 23), (lget ys4 24), (lget ys4 25), (lget ys4 26), (lget ys4 27), (lget ys4 28), (lget ys4 29), (lget ys4 30), (lget ys4 31)] ∧ ds = [] ∧ Sat H Z (F) ∧ (k ≤ b.length) ∧ (∀ j, j < k → ¬ clw (wAt a i) (wAt b j) = true)) (b.length - 0) (by omega) ⟨0, [(lget ys1 0), (lget ys1 8), (lget ys1 9), (lget ys1 10), (lget ys1 11), (lget ys1 12), (lget ys1 13), (lget ys1 14), (lget ys1 15), (lget ys1 16), (lget ys1 17), (lget ys1 18), (lget ys1 19), (lget ys1 20), (lget ys1 21), (lget ys1 22), (lget ys1 23), (lget ys1 24), (lget ys1 25), (lget ys1 26), (lget ys1 27), (lget ys1 28), (lget ys1 29), (lget ys1 30), (lget ys1 31), (lget ys1 32), (lget ys1 33), (lget ys1 34), (lget ys1 35), (lget ys1 36), (lget ys1 37), (lget ys1 38)], rfl, rfl, rfl, s2, (by omega), (fun q hq => by omega)⟩ ?_
    rintro ms_ env ds H hms_ ⟨k, ys4, rfl, rfl, rfl, s5, hk, hB⟩
    refine wp_seq (wp_seq (wp_reg (wo_mv (.int .i64 (.ofNat k)) (wo_mv vb (wo_x (v := (.int .i64 (.ofNat b.length))) (fl_len hvb (wrow_len b) rfl) ?_)))))
    by_cases c6 : k < b.length
    · refine wo_x (v := (.bool true)) (w_bin (cmp_lssT k b.length (by omega))) (wo_nil (thn_n (wp_condT (wp_skip (thn_n ?_)))))
      refine wp_seq (wp_block (wp_seq (wp_dreg (wd_run (wo_mv va ?_)))))
      refine wo_nil (wd_run (wo_mv (.int .i64 (.ofNat i)) (wo_nil (wd_run ?_))))
      obtain ⟨b7, o8, L9, z10, g11, e12, n13, k14⟩ := fl_ix hva i (wrow_get (show i < a.length by omega))
      refine wo_x (v := (.ptr b7 o8)) (k14 rfl rfl) (wo_nil (wd_run (wo_x (v := (.ptr b7 o8)) (ca_fla rfl (by omega)) (wo_nil (wd_run ?_)))))
      refine wo_x (v := (.int .i64 ((wAt a i).1))) (s_zld1 s5 z10 (g11 0 _ rfl)) (wo_nil (wd_run (wo_mv vb (wo_nil (wd_run ?_)))))
      refine wo_mv (.int .i64 (.ofNat k)) (wo_nil (wd_run ?_))
      obtain ⟨b15, o16, L17, z18, g19, e20, n21, k22⟩ := fl_ix hvb k (wrow_get (show k < b.length by omega))
      refine wo_x (v := (.ptr b15 o16)) (k22 rfl rfl) (wo_nil (wd_run (wo_x (v := (.ptr b15 o16)) (ca_fla rfl (by omega)) (wo_nil (wd_run ?_)))))
      refine wo_x (v := (.int .i64 ((wAt b k).1))) (s_zld1 s5 z18 (g19 0 _ rfl)) (wo_nil (wd_run ?_))
      by_cases c23 : ((wAt a i).1) = ((wAt b k).1)
      · refine wo_x (v := (.bool true)) (w_bin (cmp_eqlTz ((wAt a i).1) ((wAt b k).1) (by omega))) (wo_nil (wd_run (wo_mv (.bool true) (wo_nil (wd_run ?_)))))
        refine wo_yesT (wo_mv va (wo_nil (wd_run (wo_yesT (wo_mv (.int .i64 (.ofNat i)) ?_)))))
        refine wo_nil (wd_run (wo_yesT ?_))
        obtain ⟨b24, o25, L26, z27, g28, e29, n30, k31⟩ := fl_ix hva i (wrow_get (show i < a.length by omega))
        refine wo_x (v := (.ptr b24 o25)) (k31 rfl rfl) (wo_nil (wd_run (wo_yesT (wo_x (v := (.ptr b24 (o25 + 1))) (ca_fla rfl (by omega)) (wo_nil ?_)))))
        refine wd_run (wo_yesT (wo_x (v := (.bool ((wAt a i).2))) (s_zld1 s5 z27 (g28 1 _ rfl)) (wo_nil (wd_run (wo_yesT ?_)))))
        refine wo_mv (.bool ((wAt a i).2)) (wo_nil (wd_run ?_))
        by_cases c32 : ((wAt a i).2) = true
        · refine wo_noT (ht := (congrArg AV.bool c32)) (wo_nil (wd_run (wo_noT (ht := (congrArg AV.bool c32)) (wo_nil (wd_run ?_)))))
          refine wo_noT (ht := (congrArg AV.bool c32)) (wo_nil (wd_run (wo_noT (ht := (congrArg AV.bool c32)) (wo_nil (wd_run ?_)))))
          refine wo_noT (ht := (congrArg AV.bool c32)) (wo_nil (wd_run (wo_yesT (wo_x (v := (.bool true)) (w_pickT (congrArg AV.bool c32) rfl) (wo_nil ?_)))))
          refine wd_run (wo_x (v := (.bool true)) (w_pickT rfl rfl) (wo_nil (wd_nil (ws_nil (thn_n ?_)))))
          refine wp_condT (wp_seq (wp_reg (wo_mv (.bool true) (wo_nil (thn_n ?_)))))
          refine wp_ret (blk_r (thn_r (lpq_r (blk_r (blk_r ?_)))))
          refine thn_r (lpq_r (blk_r (thn_r ?_)))
          exact fin_1 (.bool true) ⟨congrArg AV.bool (dB_true ⟨i, by omega, k, by omega, by unfold clw; rw [decide_eq_true c23, c32]; simp⟩).symm, s5⟩
        · refine wo_yesF (ht := (congrArg AV.bool (Bool.eq_false_iff.2 c32))) (wo_mv vb (wo_nil (wd_run (wo_yesF (ht := (congrArg AV.bool (Bool.eq_false_iff.2 c32))) (wo_mv (.int .i64 (.ofNat k)) ?_)))))
          refine wo_nil (wd_run (wo_yesF (ht := (congrArg AV.bool (Bool.eq_false_iff.2 c32))) ?_))
          obtain ⟨b33, o34, L35, z36, g37, e38, n39, k40⟩ := fl_ix hvb k (wrow_get (show k < b.length by omega))
          refine wo_x (v := (.ptr b33 o34)) (k40 rfl rfl) (wo_nil (wd_run (wo_yesF (ht := (congrArg AV.bool (Bool.eq_false_iff.2 c32))) (wo_x (v := (.ptr b33 (o34 + 1))) (ca_fla rfl (by omega)) (wo_nil ?_)))))
          refine wd_run (wo_yesF (ht := (congrArg AV.bool (Bool.eq_false_iff.2 c32))) (wo_x (v := (.bool ((wAt b k).2))) (s_zld1 s5 z36 (g37 1 _ rfl)) (wo_nil (wd_run (wo_yesT ?_)))))
          refine wo_x (v := (.bool ((wAt b k).2))) (w_pickF (congrArg AV.bool (Bool.eq_false_iff.2 c32)) rfl) (wo_nil (wd_run (wo_x (v := (.bool ((wAt b k).2))) (w_pickT rfl rfl) (wo_nil (wd_nil ?_)))))
          refine ws_nil (thn_n ?_)
          by_cases c41 : ((wAt b k).2) = true
          · refine wp_condT (hc := (congrArg AV.bool c41)) (wp_seq (wp_reg (wo_mv (.bool true) (wo_nil (thn_n ?_)))))
            refine wp_ret (blk_r (thn_r (lpq_r (blk_r (blk_r ?_)))))
            refine thn_r (lpq_r (blk_r (thn_r ?_)))
            exact fin_1 (.bool true) ⟨congrArg AV.bool (dB_true ⟨i, by omega, k, by omega, by unfold clw; rw [decide_eq_true c23, Bool.eq_false_iff.2 c32, c41]; simp⟩).symm, s5⟩
          · refine wp_condF (hc := (congrArg AV.bool (Bool.eq_false_iff.2 c41))) (wp_skip (blk_n (thn_n (wp_reg (wo_mv (.int .i64 (.ofNat k)) ?_)))))
            refine wo_x (v := (.int .i64 (.ofNat (k + 1)))) (w_bin (add_i64 k 1 (by omega) _ _)) (wo_mv (.int .i64 (.ofNat (k + 1))) (wo_nil ?_))
            refine lpq_n (b.length - (k + 1)) (by omega) ⟨(k + 1), [(lget ys4 0), (.int .i64 (.ofNat k)), vb, (.int .i64 (.ofNat b.length)), (.bool true), (.int .i64 (.ofNat k)), (.int .i64 (.ofNat (k + 1))), va, (.int .i64 (.ofNat i)), (.ptr b7 o8), (.ptr b7 o8), (.int .i64 ((wAt a i).1)), vb, (.int .i64 (.ofNat k)), (.ptr b15 o16), (.ptr b15 o16), (.int .i64 ((wAt b k).1)), (.bool true), (.bool true), va, (.int .i64 (.ofNat i)), (.ptr b24 o25), (.ptr b24 (o25 + 1)), (.bool ((wAt a i).2)), (.bool ((wAt a i).2)), vb, (.int .i64 (.ofNat k)), (.ptr b33 o34), (.ptr b33 (o34 + 1)), (.bool ((wAt b k).2)), (.bool ((wAt b k).2)), (.bool ((wAt b k).2))], rfl, rfl, rfl, s5, (by omega), (fun j hj => by by_cases e : j = k; (subst e; unfold clw; rw [decide_eq_true c23, Bool.eq_false_iff.2 c32, Bool.eq_false_iff.2 c41]; simp); exact hB j (by omega))⟩
      · refine wo_x (v := (.bool false)) (w_bin (cmp_eqlFz ((wAt a i).1) ((wAt b k).1) (by omega))) (wo_nil (wd_run (wo_mv (.bool false) (wo_nil (wd_run ?_)))))
        refine wo_noF (wo_nil (wd_run (wo_noF (wo_nil (wd_run ?_)))))
        refine wo_noF (wo_nil (wd_run (wo_noF (wo_nil (wd_run ?_)))))
        refine wo_noF (wo_nil (wd_run (wo_noF (wo_nil (wd_run ?_)))))
        refine wo_noU (wo_nil (wd_run (wo_noU (wo_nil (wd_run ?_)))))
        refine wo_noU (wo_nil (wd_run (wo_noU (wo_nil (wd_run ?_)))))
        refine wo_noU (wo_nil (wd_run (wo_noF (wo_nil (wd_run ?_)))))
        refine wo_x (v := (.bool false)) (w_pickF rfl rfl) (wo_nil (wd_nil (ws_nil (thn_n (wp_condF ?_)))))
        refine wp_skip (blk_n (thn_n (wp_reg (wo_mv (.int .i64 (.ofNat k)) (wo_x (v := (.int .i64 (.ofNat (k + 1)))) (w_bin (add_i64 k 1 (by omega) _ _)) ?_)))))
        refine wo_mv (.int .i64 (.ofNat (k + 1))) (wo_nil ?_)
        refine lpq_n (b.length - (k + 1)) (by omega) ⟨(k + 1), [(lget ys4 0), (.int .i64 (.ofNat k)), vb, (.int .i64 (.ofNat b.length)), (.bool true), (.int .i64 (.ofNat k)), (.int .i64 (.ofNat (k + 1))), va, (.int .i64 (.ofNat i)), (.ptr b7 o8), (.ptr b7 o8), (.int .i64 ((wAt a i).1)), vb, (.int .i64 (.ofNat k)), (.ptr b15 o16), (.ptr b15 o16), (.int .i64 ((wAt b k).1)), (.bool false), (.bool false), u_, u_, u_, u_, u_, u_, u_, u_, u_, u_, u_, u_, (.bool false)], rfl, rfl, rfl, s5, (by omega), (fun j hj => by by_cases e : j = k; (subst e; unfold clw; rw [decide_eq_false c23]; simp); exact hB j (by omega))⟩
    · refine wo_x (v := (.bool false)) (w_bin (cmp_lssF k b.length (by omega))) (wo_nil (thn_n (wp_condF (wp_exit (thn_e ?_)))))
      refine lpq_e (blk_h (blk_n (thn_n (wp_reg (wo_mv (.int .i64 (.ofNat i)) ?_)))))
      refine wo_x (v := (.int .i64 (.ofNat (i + 1)))) (w_bin (add_i64 i 1 (by omega) _ _)) (wo_mv (.int .i64 (.ofNat (i + 1))) (wo_nil ?_))
      refine lpq_n (a.length - (i + 1)) (by omega) ⟨(i + 1), [(lget ys4 0), (.int .i64 (.ofNat k)), (.int .i64 (.ofNat i)), va, (.int .i64 (.ofNat a.length)), (.bool true), (.int .i64 (.ofNat i)), (.int .i64 (.ofNat (i + 1))), (.int .i64 (.ofNat k)), vb, (.int .i64 (.ofNat b.length)), (.bool false), (lget ys4 5), (lget ys4 6), (lget ys4 7), (lget ys4 8), (lget ys4 9), (lget ys4 10), (lget ys4 11), (lget ys4 12), (lget ys4 13), (lget ys4 14), (lget ys4 15), (lget ys4 16), (lget ys4 17), (lget ys4 18), (lget ys4 19), (lget ys4 20), (lget ys4 21), (lget ys4 22), (lget ys4 23), (lget ys4 24), (lget ys4 25), (lget ys4 26), (lget ys4 27), (lget ys4 28), (lget ys4 29), (lget ys4 30), (lget ys4 31)], rfl, rfl, rfl, s5, (by omega), (fun q hq => by by_cases e : q = i; (subst e; rintro ⟨j, hj, h⟩; exact hB j (by omega) h); exact hA q (by omega))⟩
  · refine wo_x (v := (.bool false)) (w_bin (cmp_lssF i a.length (by omega))) (wo_nil (thn_n (wp_condF (wp_exit (thn_e ?_)))))
    refine lpq_e (blk_h (thn_n (wp_seq (wp_reg (wo_mv (.bool false) ?_)))))
    refine wo_nil (thn_n (wp_ret ?_))
    exact fin_1 (.bool false) ⟨congrArg AV.bool (dB_false (fun ⟨q, hq, h⟩ => hA q (by omega) h)).symm, s2⟩
end
end Go.Jt
