/-
  node.Decode. PRINTED by wip/tools/mkdec.py.
-/
import Derived.Test.YtlhlgmodhblplaaJtDec
set_option autoImplicit false
set_option linter.all false
set_option maxRecDepth 10000
set_option maxHeartbeats 8000000
namespace Go.Jt
noncomputable section
variable [Gl]
class NrN where
  take : Nat
  text : Nat
  kid : Nat
  decode : Nat
def b_rtake [NrN] [BkN] [NdN] : IR := (.seq (.reg [xo 4 (.mv (.cst (.str [])))]) (.seq (.seq (.reg [mv 6 t1, mv 7 t0, xo 8 (.nck t7), xo 9 (.fla 0 t8), xo 10 (.ld1 t9), xo 11 (.len 0 t10), xo 12 (.bin .gtr 0 t6 t11)]) (.cond t12 (.seq (.reg [mv 13 t0, xo 14 (.nck t13), xo 15 (.fla 1 t14), ⟨none, .st 1 t15 (.cst (.bool true)), none⟩]) (.reg [xo 1 (.mv (.cst (.int .i64 0)))])) .skip)) (.seq (.reg [mv 16 t0, xo 17 (.nck t16), xo 18 (.fla 0 t17), xo 19 (.ld1 t18), mv 20 t1, xo 21 (.sls t19 none (some t20)), mv 5 t21]) (.seq (.reg [mv 22 t0, mv 23 t0, xo 24 (.nck t23), xo 25 (.fla 0 t24), xo 26 (.ld1 t25), mv 27 t1, xo 28 (.sls t26 (some t27) none), xo 29 (.nck t22), xo 30 (.fla 0 t29), ⟨none, .st 1 t30 t28, none⟩]) (.seq (.reg [mv 31 t5, mv 4 t31]) .ret)))))
def ir_rtake [NrN] [BkN] [NdN] : FnIR := ⟨32, [.tmp 4], b_rtake⟩
def b_rtext [NrN] [BkN] [NdN] : IR := (.seq (.reg [xo 2 (.mv (.cst (.str [])))]) (.seq (.reg [mv 4 t0, xo 5 (.call (.cst (.fn (.fn (.func NrN.take)) [] [])) [t4, (.cst (.int .i64 1))]), mv 3 t5]) (.seq (.seq (.reg [mv 6 t3, xo 7 (.bin .eql 0 t6 (.cst (.str [])))]) (.cond t7 (.seq (.reg [xo 2 (.mv (.cst (.str [])))]) .ret) .skip)) (.seq (.reg [mv 8 t0, mv 9 t3, xo 10 (.ist t9 (.cst (.int .i64 0))), xo 11 (.cvi .i64 t10), xo 12 (.call (.cst (.fn (.fn (.func NrN.take)) [] [])) [t8, t11]), mv 2 t12]) .ret))))
def ir_rtext [NrN] [BkN] [NdN] : FnIR := ⟨13, [.tmp 2], b_rtext⟩
def b_rkid [NrN] [BkN] [NdN] : IR := (.seq (.reg [xo 2 (.alloc (.cat 2 (.rep 2 (.int .i64 0)) (.one (.int .u64 0))))]) (.seq (.reg [mv 6 t0, xo 7 (.call (.cst (.fn (.fn (.func NrN.take)) [] [])) [t6, (.cst (.int .i64 16))]), xo 8 (.call (.cst (.fn (.fn (.func BkN.dec)) [] [])) [t7]), mv 5 t8, xo 9 (.ext t5 0), xo 10 (.ext t5 1), xo 3 (.alloc (.cat 2 (.rep 2 (.int .i64 0)) (.one (.int .u64 0)))), ⟨none, .st 3 t3 t9, none⟩, mv 4 t10]) (.seq (.reg [mv 11 t0, mv 12 t0, xo 13 (.nck t12), xo 14 (.fla 1 t13), xo 15 (.ld1 t14), mv 16 t15, ⟨some 17, .mv t4, some (16, false)⟩, ⟨some 18, .bin .neq 0 t17 (.cst (.int .i64 0)), some (16, false)⟩, xo 19 (.pick t16 (.cst (.bool true)) t18), xo 20 (.nck t11), xo 21 (.fla 1 t20), ⟨none, .st 1 t21 t19, none⟩]) (.seq (.reg [xo 22 (.ldn 3 t3), ⟨none, .st 3 t2 t22, none⟩]) .ret))))
def ir_rkid [NrN] [BkN] [NdN] : FnIR := ⟨23, [.cell 2 3 true], b_rkid⟩
def b_rdecode [NrN] [BkN] [NdN] : IR := (.seq (.reg [xo 4 (.alloc (.cat 1 (.one (.bool false)) (.rep 3 .nils))), xo 5 (.mv (.cst (.int .i64 0)))]) (.seq (.reg [mv 11 t1, xo 12 (.build (.cat 1 (.one (.str [])) (.one (.bool false))) [(0, 1, t11)]), xo 13 (.box t12), mv 6 t13]) (.seq (.reg [mv 14 t0, xo 15 (.build (.cat 1 (.one (.bool false)) (.rep 3 .nils)) [(0, 1, t14)]), xo 7 (.alloc (.cat 1 (.one (.bool false)) (.rep 3 .nils))), ⟨none, .st 4 t7 t15, none⟩]) (.seq (.reg [mv 16 t6, xo 17 (.call (.cst (.fn (.fn (.func NrN.take)) [] [])) [t16, (.cst (.int .i64 2))]), mv 8 t17]) (.seq (.seq (.reg [mv 18 t6, xo 19 (.nck t18), xo 20 (.fla 1 t19), xo 21 (.ld1 t20)]) (.cond t21 (.seq (.reg [xo 22 (.build (.cat 1 (.one (.bool false)) (.rep 3 .nils)) []), ⟨none, .st 4 t4 t22, none⟩, xo 5 (.mv (.cst (.int .i64 4)))]) .ret) .skip)) (.seq (.reg [mv 23 t6, xo 24 (.mkf (.fn (.func NrN.text)) [t23] []), mv 25 t6, xo 26 (.mkf (.fn (.func NrN.kid)) [t25] []), mv 9 t24, mv 10 t26]) (.seq (.seq (.reg [mv 27 t0, xo 28 (.not t27)]) (.cond t28 (.dreg [.run (xo 29 (.fla 3 t7)), .run (xo 30 (.ld1 t29)), .run (mv 31 t10)] [(xo 32 (.call t31 []), [.again (xo 30 (.ld1 t29)), .run (xo 33 (.bsl 1 (.cat 3 (.cat 2 (.rep 2 (.int .i64 0)) (.one (.int .u64 0))) .nil) [(0, 3, t32)]))]), (xo 34 (.app 3 24 (.cat 2 (.rep 2 (.int .i64 0)) (.one (.int .u64 0))) false t30 t33), [.run (xo 35 (.fla 3 t7))]), (⟨none, .st 1 t35 t34, none⟩, [])]) .skip)) (.seq (.seq (.dreg [.run (mv 36 t8), .run (xo 37 (.ist t36 (.cst (.int .i64 0)))), .run (xo 38 (.cvi .i64 t37)), .run (xo 39 (.bin .shl 0 t38 (.cst (.int .u64 8)))), .run (mv 40 t8), .run (xo 41 (.ist t40 (.cst (.int .i64 1)))), .run (xo 42 (.cvi .i64 t41)), .run (xo 43 (.bin .or 0 t39 t42)), .run (xo 44 (.mv (.cst (.int .i64 0))))] []) (.block 0 (.loop (.seq (.reg [xo 45 (.bin .lss 0 t44 t43)]) (.seq (.cond t45 .skip (.exit 0)) (.seq (.block 1 (.seq (.seq (.reg [mv 46 t6, xo 47 (.nck t46), xo 48 (.fla 1 t47), xo 49 (.ld1 t48)]) (.cond t49 (.exit 0) .skip)) (.seq (.dreg [.run (xo 50 (.fla 1 t7)), .run (xo 51 (.ld1 t50)), .run (mv 52 t9)] [(xo 53 (.call t52 []), [.again (xo 51 (.ld1 t50)), .run (xo 54 (.bsl 1 (.rep 1 (.str [])) [(0, 1, t53)]))]), (xo 55 (.app 1 16 (.one (.str [])) false t51 t54), [.run (xo 56 (.fla 1 t7))]), (⟨none, .st 1 t56 t55, none⟩, [])]) (.seq (.reg [mv 57 t0]) (.cond t57 (.dreg [.run (xo 58 (.fla 2 t7)), .run (xo 59 (.ld1 t58)), .run (mv 60 t9)] [(xo 61 (.call t60 []), [.again (xo 59 (.ld1 t58)), .run (xo 62 (.bsl 1 (.rep 1 (.str [])) [(0, 1, t61)]))]), (xo 63 (.app 1 16 (.one (.str [])) false t59 t62), [.run (xo 64 (.fla 2 t7))]), (⟨none, .st 1 t64 t63, none⟩, [])]) (.dreg [.run (xo 65 (.fla 3 t7)), .run (xo 66 (.ld1 t65)), .run (mv 67 t10)] [(xo 68 (.call t67 []), [.again (xo 66 (.ld1 t65)), .run (xo 69 (.bsl 1 (.cat 3 (.cat 2 (.rep 2 (.int .i64 0)) (.one (.int .u64 0))) .nil) [(0, 3, t68)]))]), (xo 70 (.app 3 24 (.cat 2 (.rep 2 (.int .i64 0)) (.one (.int .u64 0))) false t66 t69), [.run (xo 71 (.fla 3 t7))]), (⟨none, .st 1 t71 t70, none⟩, [])])))))) (.reg [xo 72 (.bin .add 0 t44 (.cst (.int .i64 1))), mv 44 t72]))))))) (.seq (.seq (.reg [mv 73 t6, xo 74 (.nck t73), xo 75 (.fla 1 t74), xo 76 (.ld1 t75), mv 77 t76, ⟨some 78, .mv t6, some (77, false)⟩, ⟨some 79, .nck t78, some (77, false)⟩, ⟨some 80, .fla 0 t79, some (77, false)⟩, ⟨some 81, .ld1 t80, some (77, false)⟩, ⟨some 82, .bin .neq 0 t81 (.cst (.str [])), some (77, false)⟩, xo 83 (.pick t77 (.cst (.bool true)) t82), mv 84 t83, ⟨some 85, .ldn 4 t7, some (84, false)⟩, ⟨some 86, .call (.cst (.fn (.fn (.func NdN.may)) [] [])) [t85], some (84, false)⟩, ⟨some 87, .not t86, some (84, false)⟩, xo 88 (.pick t84 (.cst (.bool true)) t87)]) (.cond t88 (.seq (.reg [xo 89 (.build (.cat 1 (.one (.bool false)) (.rep 3 .nils)) []), ⟨none, .st 4 t4 t89, none⟩, xo 5 (.mv (.cst (.int .i64 4)))]) .ret) .skip)) (.seq (.reg [xo 90 (.ldn 4 t7), ⟨none, .st 4 t4 t90, none⟩, xo 5 (.mv (.cst (.int .i64 0)))]) .ret))))))))))
def ir_rdecode [NrN] [BkN] [NdN] : FnIR := ⟨91, [.cell 4 4 true, .tmp 5], b_rdecode⟩
structure NrT [NrN] [BkN] [NdN] (tbl : Nat → Option FT) : Prop where
  take : tbl NrN.take = some (.code ir_rtake)
  text : tbl NrN.text = some (.code ir_rtext)
  kid : tbl NrN.kid = some (.code ir_rkid)
  decode : tbl NrN.decode = some (.code ir_rdecode)
theorem take_rd [NrN] [BkN] [NdN] {tbl : Nat → Option FT} (T : NrT tbl) {s : List Nat} {bad : Bool} {br n : Nat} {N d : Nat} (hd : 1 ≤ d) {Z : Fz} {F : List Hl} {H : AH} (hs : Sat H Z ((.cells br [(.str s), (.bool bad)]) :: F))  :
    Ct (RUN tbl N d) (.fn (.fn (.func NrN.take)) [] []) [(.ptr br 0), (.int .i64 (.ofNat n))] H fun v H' => v = .str (tkS n s) ∧ Sat H' Z (.cells br [.str (rsS n s), .bool (bdS n s bad)] :: F) := by
  obtain ⟨d, rfl⟩ : ∃ e, d = e + 1 := ⟨d - 1, by omega⟩
  refine ct_code T.take (b := b_rtake) (env := [(.ptr br 0), (.int .i64 (.ofNat n)), u_, u_, u_, u_, u_, u_, u_, u_, u_, u_, u_, u_, u_, u_, u_, u_, u_, u_, u_, u_, u_, u_, u_, u_, u_, u_, u_, u_, u_, u_]) ?_
  unfold b_rtake
  refine wp_seq (wp_reg (wo_mv (.str []) (wo_nil (thn_n (wp_seq ?_)))))
  refine wp_seq (wp_reg (wo_mv (.int .i64 (.ofNat n)) (wo_mv (.ptr br 0) (wo_x (v := (.ptr br 0)) (w_lit (fun K => rfl)) (wo_x (v := (.ptr br 0)) (ca_fla rfl rfl) ?_)))))
  refine wo_x (v := (.str s)) (s_ld1 hs 0 rfl) (wo_x (v := (.int .i64 (.ofNat s.length))) (w_lens (s := s) (n := s.length) rfl rfl) ?_)
  by_cases c1 : s.length < n
  · refine wo_x (v := (.bool true)) (w_bin (cmp_gtrT n s.length (by omega))) (wo_nil (thn_n (wp_condT (wp_seq (wp_reg ?_)))))
    refine wo_mv (.ptr br 0) (wo_x (v := (.ptr br 0)) (w_lit (fun K => rfl)) (wo_x (v := (.ptr br 1)) (ca_fla rfl rfl) ?_))
    obtain ⟨H2, s3, k4⟩ := s_st hs 1 (.bool true) (Nat.le_of_ble_eq_true rfl)
    refine wo_n (k4 rfl rfl) (wo_nil (thn_n (wp_reg (wo_mv (.int .i64 0) (wo_nil ?_)))))
    refine thn_n (wp_seq (wp_reg (wo_mv (.ptr br 0) (wo_x (v := (.ptr br 0)) (w_lit (fun K => rfl)) (wo_x (v := (.ptr br 0)) (ca_fla rfl rfl) ?_)))))
    refine wo_x (v := (.str s)) (s_ld1 s3 0 rfl) (wo_mv (.int .i64 0) (wo_x (v := (.str (List.take 0 s))) (sls_hi (s := s) (n := 0) rfl rfl (by simp)) (wo_mv (.str (List.take 0 s)) (wo_nil (thn_n ?_)))))
    refine wp_seq (wp_reg (wo_mv (.ptr br 0) (wo_mv (.ptr br 0) (wo_x (v := (.ptr br 0)) (w_lit (fun K => rfl)) (wo_x (v := (.ptr br 0)) (ca_fla rfl rfl) ?_)))))
    refine wo_x (v := (.str s)) (s_ld1 s3 0 rfl) (wo_mv (.int .i64 0) (wo_x (v := (.str (List.drop 0 s))) (sls_lo (s := s) (n := 0) rfl rfl (by simp)) (wo_x (v := (.ptr br 0)) (w_lit (fun K => rfl)) (wo_x (v := (.ptr br 0)) (ca_fla rfl rfl) ?_))))
    obtain ⟨H5, s6, k7⟩ := s_st s3 0 (.str (List.drop 0 s)) (Nat.le_of_ble_eq_true rfl)
    refine wo_n (k7 rfl rfl) (wo_nil (thn_n (wp_seq (wp_reg (wo_mv (.str (List.take 0 s)) ?_)))))
    refine wo_mv (.str (List.take 0 s)) (wo_nil (thn_n (wp_ret ?_)))
    have s8 : Sat H5 Z (.cells br [.str (rsS n s), .bool (bdS n s bad)] :: F) := by simp only [tkS, rsS, bdS, if_neg (Nat.not_le_of_lt c1)]; exact s6
    exact fin_1 (.str (List.take 0 s)) ⟨by simp only [tkS, rsS, bdS, if_neg (Nat.not_le_of_lt c1)]; rfl, s8⟩
  · refine wo_x (v := (.bool false)) (w_bin (cmp_gtrF n s.length (by omega))) (wo_nil (thn_n (wp_condF (wp_skip (thn_n ?_)))))
    refine wp_seq (wp_reg (wo_mv (.ptr br 0) (wo_x (v := (.ptr br 0)) (w_lit (fun K => rfl)) (wo_x (v := (.ptr br 0)) (ca_fla rfl rfl) (wo_x (v := (.str s)) (s_ld1 hs 0 rfl) ?_)))))
    refine wo_mv (.int .i64 (.ofNat n)) (wo_x (v := (.str (List.take n s))) (sls_hi (s := s) (n := n) rfl rfl (by omega)) (wo_mv (.str (List.take n s)) (wo_nil (thn_n (wp_seq ?_)))))
    refine wp_reg (wo_mv (.ptr br 0) (wo_mv (.ptr br 0) (wo_x (v := (.ptr br 0)) (w_lit (fun K => rfl)) (wo_x (v := (.ptr br 0)) (ca_fla rfl rfl) (wo_x (v := (.str s)) (s_ld1 hs 0 rfl) ?_)))))
    refine wo_mv (.int .i64 (.ofNat n)) (wo_x (v := (.str (List.drop n s))) (sls_lo (s := s) (n := n) rfl rfl (by omega)) (wo_x (v := (.ptr br 0)) (w_lit (fun K => rfl)) (wo_x (v := (.ptr br 0)) (ca_fla rfl rfl) ?_)))
    obtain ⟨H9, s10, k11⟩ := s_st hs 0 (.str (List.drop n s)) (Nat.le_of_ble_eq_true rfl)
    refine wo_n (k11 rfl rfl) (wo_nil (thn_n (wp_seq (wp_reg (wo_mv (.str (List.take n s)) ?_)))))
    refine wo_mv (.str (List.take n s)) (wo_nil (thn_n (wp_ret ?_)))
    have s12 : Sat H9 Z (.cells br [.str (rsS n s), .bool (bdS n s bad)] :: F) := by simp only [tkS, rsS, bdS, if_pos (Nat.le_of_not_lt c1)]; exact s10
    exact fin_1 (.str (List.take n s)) ⟨by simp only [tkS, rsS, bdS, if_pos (Nat.le_of_not_lt c1)], s12⟩
theorem take1_rd [NrN] [BkN] [NdN] {tbl : Nat → Option FT} (T : NrT tbl) {c : Nat} {r : List Nat} {bad : Bool} {br : Nat} {N d : Nat} (hd : 1 ≤ d) {Z : Fz} {F : List Hl} {H : AH} (hs : Sat H Z (.cells br [.str (c :: r), .bool bad] :: F)) :
    Ct (RUN tbl N d) (.fn (.fn (.func NrN.take)) [] []) [.ptr br 0, .int .i64 (.ofNat 1)] H fun v H' => v = .str [c] ∧ Sat H' Z (.cells br [.str r, .bool bad] :: F) := by
  have h := take_rd T (n := 1) (N := N) hd hs
  have e : 1 ≤ (c :: r).length := by simp
  simp only [tkS, rsS, bdS, if_pos e] at h
  exact h
theorem take0_rd [NrN] [BkN] [NdN] {tbl : Nat → Option FT} (T : NrT tbl) {bad : Bool} {br : Nat} {N d : Nat} (hd : 1 ≤ d) {Z : Fz} {F : List Hl} {H : AH} (hs : Sat H Z (.cells br [.str [], .bool bad] :: F)) :
    Ct (RUN tbl N d) (.fn (.fn (.func NrN.take)) [] []) [.ptr br 0, .int .i64 (.ofNat 1)] H fun v H' => v = .str [] ∧ Sat H' Z (.cells br [.str [], .bool true] :: F) := by
  have h := take_rd T (n := 1) (N := N) hd hs
  have e : ¬ 1 ≤ ([] : List Nat).length := by simp
  simp only [tkS, rsS, bdS, if_neg e] at h
  exact h
theorem text0_rd [NrN] [BkN] [NdN] {tbl : Nat → Option FT} (T : NrT tbl) {bad : Bool} {br : Nat} {N d : Nat} (hd : 2 ≤ d) {Z : Fz} {F : List Hl} {H : AH} (hs : Sat H Z ((.cells br [(.str []), (.bool bad)]) :: F))  :
    Ct (RUN tbl N d) (.fn (.fn (.func NrN.text)) [] []) [(.ptr br 0)] H fun v H' => v = .str (txV []) ∧ Sat H' Z (.cells br [.str (txS []), .bool (txB bad [])] :: F) := by
  obtain ⟨d, rfl⟩ : ∃ e, d = e + 2 := ⟨d - 2, by omega⟩
  refine ct_code T.text (b := b_rtext) (env := [(.ptr br 0), u_, u_, u_, u_, u_, u_, u_, u_, u_, u_, u_, u_]) ?_
  unfold b_rtext
  refine wp_seq (wp_reg (wo_mv (.str []) (wo_nil (thn_n (wp_seq ?_)))))
  refine wp_reg (wo_mv (.ptr br 0) ?_)
  obtain ⟨_, H1, ⟨rfl, s2⟩, k3⟩ := take0_rd (N := N) (d := d + 1) T (by omega) hs
  refine wo_call k3 (wo_mv (.str []) (wo_nil (thn_n (wp_seq (wp_seq ?_)))))
  refine wp_reg (wo_mv (.str []) (wo_x (v := (.bool true)) (w_bin (str_eqlT rfl)) (wo_nil (thn_n (wp_condT ?_)))))
  refine wp_seq (wp_reg (wo_mv (.str []) (wo_nil (thn_n (wp_ret ?_)))))
  refine thn_r ?_
  exact fin_1 (.str []) ⟨rfl, s2⟩
theorem text1_rd [NrN] [BkN] [NdN] {tbl : Nat → Option FT} (T : NrT tbl) {c : Nat} {r : List Nat} {bad : Bool} {br : Nat} (hc : c ≤ 255) {N d : Nat} (hd : 2 ≤ d) {Z : Fz} {F : List Hl} {H : AH} (hs : Sat H Z ((.cells br [(.str (c :: r)), (.bool bad)]) :: F))  :
    Ct (RUN tbl N d) (.fn (.fn (.func NrN.text)) [] []) [(.ptr br 0)] H fun v H' => v = .str (txV (c :: r)) ∧ Sat H' Z (.cells br [.str (txS (c :: r)), .bool (txB bad (c :: r))] :: F) := by
  obtain ⟨d, rfl⟩ : ∃ e, d = e + 2 := ⟨d - 2, by omega⟩
  refine ct_code T.text (b := b_rtext) (env := [(.ptr br 0), u_, u_, u_, u_, u_, u_, u_, u_, u_, u_, u_, u_]) ?_
  unfold b_rtext
  refine wp_seq (wp_reg (wo_mv (.str []) (wo_nil (thn_n (wp_seq ?_)))))
  refine wp_reg (wo_mv (.ptr br 0) ?_)
  obtain ⟨_, H1, ⟨rfl, s2⟩, k3⟩ := take1_rd (N := N) (d := d + 1) T (by omega) hs
  refine wo_call k3 (wo_mv (.str [c]) (wo_nil (thn_n (wp_seq (wp_seq ?_)))))
  refine wp_reg (wo_mv (.str [c]) (wo_x (v := (.bool false)) (w_bin (str_eqlF (by simp))) (wo_nil (thn_n (wp_condF ?_)))))
  refine wp_skip (thn_n (wp_seq (wp_reg (wo_mv (.ptr br 0) (wo_mv (.str [c]) ?_)))))
  refine wo_x (v := (.int .u8 (.ofNat c))) (w_ist (s := [c]) (i := 0) (c := c) rfl rfl rfl) (wo_x (v := (.int .i64 (.ofNat c))) (w_cvi (r := c) rfl (wrap_i64 _ (by omega))) ?_)
  obtain ⟨_, H4, ⟨rfl, s5⟩, k6⟩ := take_rd (N := N) (d := d + 1) T (n := c) (by omega) s2
  refine wo_call k6 (wo_mv (.str (tkS c r)) (wo_nil (thn_n (wp_ret ?_))))
  exact fin_1 (.str (tkS c r)) ⟨rfl, s5⟩
theorem text_rd [NrN] [BkN] [NdN] {tbl : Nat → Option FT} (T : NrT tbl) {s : List Nat} {bad : Bool} {br : Nat} (hb : ∀ c ∈ s, c ≤ 255) {N d : Nat} (hd : 2 ≤ d) {Z : Fz} {F : List Hl} {H : AH} (hs : Sat H Z (.cells br [.str s, .bool bad] :: F)) :
    Ct (RUN tbl N d) (.fn (.fn (.func NrN.text)) [] []) [.ptr br 0] H fun v H' => v = .str (txV s) ∧ Sat H' Z (.cells br [.str (txS s), .bool (txB bad s)] :: F) := by
  cases s with
  | nil => exact text0_rd T hd hs
  | cons c r => exact text1_rd T (hb c List.mem_cons_self) hd hs
theorem kid_rd [NrN] [BkN] [NdN] {tbl : Nat → Option FT} (T : NrT tbl) (TB : BkT tbl) {s : List Nat} {bad : Bool} {br : Nat} (hb : ∀ c ∈ s, c ≤ 255) {N d : Nat} (hd : 3 ≤ d) {Z : Fz} {F : List Hl} {H : AH} (hs : Sat H Z ((.cells br [(.str s), (.bool bad)]) :: F))  :
    Ct (RUN tbl N d) (.fn (.fn (.func NrN.kid)) [] []) [(.ptr br 0)] H fun v H' => ∃ r, v = .agg r ∧ RL r (ptrC (kdV s).a (kdV s).b (kdV s).s) ∧ Sat H' Z (.cells br [.str (rsS 16 s), .bool (kdB s bad)] :: F) := by
  obtain ⟨d, rfl⟩ : ∃ e, d = e + 3 := ⟨d - 3, by omega⟩
  refine ct_code T.kid (b := b_rkid) (env := [(.ptr br 0), u_, u_, u_, u_, u_, u_, u_, u_, u_, u_, u_, u_, u_, u_, u_, u_, u_, u_, u_, u_, u_, u_]) ?_
  unfold b_rkid
  refine wp_seq (wp_reg ?_)
  obtain ⟨b1, H2, s3, k4⟩ := s_alloc hs (RL.cat (RL.rep 2 (.int .i64 0)) (RL.one (.int .u64 0)) rfl)
  refine wo_x (v := (.ptr b1 0)) (k4) (wo_nil (thn_n (wp_seq (wp_reg (wo_mv (.ptr br 0) ?_)))))
  have s5 := s3.pull 1
  obtain ⟨_, H6, ⟨rfl, s7⟩, k8⟩ := take_rd (N := N) (d := d + 2) T (n := 16) (by omega) s5
  refine wo_call k8 ?_
  obtain ⟨_, H13, ⟨r9, e10, rfl, q11, h12, s14⟩, k15⟩ := dec_ok (N := N) (d := d + 2) TB (t := tkS 16 s) (tkS_byte hb) (by omega) s7
  refine wo_call k15 (wo_mv (.tup [(.agg r9), (.int .i64 e10)]) (wo_x (v := (.agg r9)) (w_lit (fun K => rfl)) (wo_x (v := (.int .i64 e10)) (w_lit (fun K => rfl)) ?_)))
  obtain ⟨b16, H17, s18, k19⟩ := s_alloc s14 (RL.cat (RL.rep 2 (.int .i64 0)) (RL.one (.int .u64 0)) rfl)
  refine wo_x (v := (.ptr b16 0)) (k19) ?_
  obtain ⟨H20, s21, k22⟩ := s_stn s18 q11 0 3 rfl (Nat.le_of_ble_eq_true rfl)
  refine wo_n (k22 rfl rfl) (wo_mv (.int .i64 e10) (wo_nil (thn_n (wp_seq (wp_reg ?_)))))
  refine wo_mv (.ptr br 0) (wo_mv (.ptr br 0) (wo_x (v := (.ptr br 0)) (w_lit (fun K => rfl)) (wo_x (v := (.ptr br 1)) (ca_fla rfl rfl) (wo_x (v := (.bool (bdS 16 s bad))) (s_ld1 s21 1 rfl) (wo_mv (.bool (bdS 16 s bad)) ?_)))))
  by_cases c23 : (bdS 16 s bad) = true
  · refine wo_noT (ht := (congrArg AV.bool c23)) (wo_noT (ht := (congrArg AV.bool c23)) (wo_x (v := (.bool true)) (w_pickT (congrArg AV.bool c23) rfl) (wo_x (v := (.ptr br 0)) (w_lit (fun K => rfl)) (wo_x (v := (.ptr br 1)) (ca_fla rfl rfl) ?_))))
    have s24 := s21.pull 1
    obtain ⟨H25, s26, k27⟩ := s_st s24 1 (.bool true) (Nat.le_of_ble_eq_true rfl)
    refine wo_n (k27 rfl rfl) (wo_nil (thn_n (wp_seq (wp_reg ?_))))
    obtain ⟨r28, q29, k30⟩ := s_ldn s26 1 0 3 
    refine wo_x (v := (.agg r28)) (k30 rfl) ?_
    have s31 := s26.pull 2
    obtain ⟨H32, s33, k34⟩ := s_stn s31 q29 0 3 rfl (Nat.le_of_ble_eq_true rfl)
    refine wo_n (k34 rfl rfl) (wo_nil (thn_n (wp_ret ?_)))
    refine fin_c  (off := 0) s33 0 fun r35 q36 => ?_
    have s37 := s33.drop 0
    have s38 := s37.drop 1
    have k40 : kdB s bad = true := by unfold kdB; rw [c23]; rfl
    have s39 : Sat H32 Z (.cells br [.str (rsS 16 s), .bool (kdB s bad)] :: F) := by rw [k40]; exact s38
    exact ⟨_, rfl, q36, s39⟩
  · refine wo_yesF (ht := (congrArg AV.bool (Bool.eq_false_iff.2 c23))) (wo_mv (.int .i64 e10) ?_)
    by_cases c41 : e10 = 0
    · refine wo_yesF (ht := (congrArg AV.bool (Bool.eq_false_iff.2 c23))) (wo_x (v := (.bool false)) (w_bin (cmp_neqTz e10 0 (by omega))) (wo_x (v := (.bool false)) (w_pickF (congrArg AV.bool (Bool.eq_false_iff.2 c23)) rfl) (wo_x (v := (.ptr br 0)) (w_lit (fun K => rfl)) (wo_x (v := (.ptr br 1)) (ca_fla rfl rfl) ?_))))
      have s42 := s21.pull 1
      obtain ⟨H43, s44, k45⟩ := s_st s42 1 (.bool false) (Nat.le_of_ble_eq_true rfl)
      refine wo_n (k45 rfl rfl) (wo_nil (thn_n (wp_seq (wp_reg ?_))))
      obtain ⟨r46, q47, k48⟩ := s_ldn s44 1 0 3 
      refine wo_x (v := (.agg r46)) (k48 rfl) ?_
      have s49 := s44.pull 2
      obtain ⟨H50, s51, k52⟩ := s_stn s49 q47 0 3 rfl (Nat.le_of_ble_eq_true rfl)
      refine wo_n (k52 rfl rfl) (wo_nil (thn_n (wp_ret ?_)))
      refine fin_c  (off := 0) s51 0 fun r53 q54 => ?_
      have s55 := s51.drop 0
      have s56 := s55.drop 1
      have k58 : kdB s bad = false := by unfold kdB; rw [Bool.eq_false_iff.2 c23, Bool.false_or]; exact dB_false (by rcases h12 with ⟨h1, h2⟩ | ⟨h1, h2⟩ <;> simp_all)
      have s57 : Sat H50 Z (.cells br [.str (rsS 16 s), .bool (kdB s bad)] :: F) := by rw [k58]; exact s56
      exact ⟨_, rfl, q54, s57⟩
    · refine wo_yesF (ht := (congrArg AV.bool (Bool.eq_false_iff.2 c23))) (wo_x (v := (.bool true)) (w_bin (cmp_neqFz e10 0 (by omega))) (wo_x (v := (.bool true)) (w_pickF (congrArg AV.bool (Bool.eq_false_iff.2 c23)) rfl) (wo_x (v := (.ptr br 0)) (w_lit (fun K => rfl)) (wo_x (v := (.ptr br 1)) (ca_fla rfl rfl) ?_))))
      have s59 := s21.pull 1
      obtain ⟨H60, s61, k62⟩ := s_st s59 1 (.bool true) (Nat.le_of_ble_eq_true rfl)
      refine wo_n (k62 rfl rfl) (wo_nil (thn_n (wp_seq (wp_reg ?_))))
      obtain ⟨r63, q64, k65⟩ := s_ldn s61 1 0 3 
      refine wo_x (v := (.agg r63)) (k65 rfl) ?_
      have s66 := s61.pull 2
      obtain ⟨H67, s68, k69⟩ := s_stn s66 q64 0 3 rfl (Nat.le_of_ble_eq_true rfl)
      refine wo_n (k69 rfl rfl) (wo_nil (thn_n (wp_ret ?_)))
      refine fin_c  (off := 0) s68 0 fun r70 q71 => ?_
      have s72 := s68.drop 0
      have s73 := s72.drop 1
      have k75 : kdB s bad = true := by unfold kdB; rw [Bool.eq_false_iff.2 c23, Bool.false_or]; exact dB_true (by rcases h12 with ⟨h1, h2⟩ | ⟨h1, h2⟩ <;> simp_all)
      have s74 : Sat H67 Z (.cells br [.str (rsS 16 s), .bool (kdB s bad)] :: F) := by rw [k75]; exact s73
      exact ⟨_, rfl, q71, s74⟩
end
end Go.Jt
