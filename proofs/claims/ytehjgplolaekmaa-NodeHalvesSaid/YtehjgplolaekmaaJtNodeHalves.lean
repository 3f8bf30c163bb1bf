/-
  The law NodeHalves. PRINTED by wip/tools/mknh.py.
-/
import Derived.Test.YtehjgplolaekmaaJtHc
import Derived.Test.YtehjgplolaekmaaJtHj
set_option autoImplicit false
set_option linter.all false
set_option maxRecDepth 10000
set_option maxHeartbeats 8000000
namespace Go.Jt
noncomputable section
variable [Gl]
theorem given2_ok [NbN] {tbl : Nat → Option FT} (T : NbT tbl) {lf : Bool} {ks vs : List (List Nat)} {ps : List PtrM} {vk vv vp : AV} {r : Rp AV} {N d : Nat} (hd : 1 ≤ d) {Z : Fz} {F : List Hl} {H : AH} (hs : Sat H Z (F)) (hr : RL r [.bool lf, vk, vv, vp]) (hk : Fl Z 1 vk (strs ks)) (hv : Fl Z 1 vv (strs vs)) (hp : Fl Z 3 vp (ptrs ps)) (hkl : ks.length ≤ 1099511627776) (hvl : vs.length ≤ 1099511627776) (hpl : ps.length ≤ 1099511627776) :
    Ct (RUN tbl N d) (.fn (.fn (.func NbN.given)) [] []) [(.agg r)] H fun v H' => ∃ q wk wv wp hk' hv' hp', v = .agg q ∧ RL q [.bool lf, wk, wv, wp] ∧ leavesB q = true ∧ Own 1 wk ks.length (txC ks) hk' ∧ Own 1 wv vs.length (txC vs) hv' ∧ Own 3 wp ps.length (ptC ps) hp' ∧ Sat H' Z (hp' ++ (hv' ++ (hk' ++ F))) := by
  obtain ⟨d, rfl⟩ : ∃ e, d = e + 1 := ⟨d - 1, by omega⟩
  refine ct_code T.given (b := b_hgiven) (env := [(.agg r), u_, u_, u_, u_, u_, u_, u_, u_, u_, u_, u_, u_, u_, u_, u_, u_, u_]) ?_
  unfold b_hgiven
  refine wp_seq (wp_reg ?_)
  obtain ⟨b1, H2, s3, k4⟩ := s_boxn hs hr
  refine wo_x (v := (.ptr b1 0)) (k4 rfl) ?_
  obtain ⟨b5, H6, s7, k8⟩ := x_alloc s3 (.cat 1 (.one (.bool false)) (.rep 3 .nils))
  refine wo_x (v := (.ptr b5 0)) (k8) (wo_nil (thn_n (wp_seq (wp_dreg (wd_run ?_)))))
  refine wo_x (v := (.ptr b1 0)) (ca_fla rfl rfl) (wo_nil (wd_run (wo_x (v := (.bool lf)) (s_ld1 s7 1 rfl) (wo_nil (wd_run ?_)))))
  obtain ⟨b9, H10, s11, k12⟩ := s_bsl s7 (RL.rep 0 (.str []))
  refine wo_x (v := (.slc b9 0 0 0)) (k12 fill_nil) (wo_nil (wd_run (wo_x (v := (.ptr b1 1)) (ca_fla rfl rfl) (wo_nil (wd_run ?_)))))
  refine wo_x (v := vk) (s_ld1 s11 2 rfl) (wo_nil (wd_run ?_))
  obtain ⟨b13, H14, s15, k16⟩ := s_bsl s11 (RL.rep 0 (.str []))
  refine wo_x (v := (.slc b13 0 0 0)) (k16 fill_nil) (wo_nil (wd_run (wo_x (v := (.ptr b1 2)) (ca_fla rfl rfl) (wo_nil (wd_run ?_)))))
  refine wo_x (v := vv) (s_ld1 s15 3 rfl) (wo_nil (wd_run ?_))
  obtain ⟨b17, H18, s19, k20⟩ := s_bsl s15 RL.nil
  refine wo_x (v := (.slc b17 0 0 0)) (k20 fill_nil) (wo_nil (wd_run (wo_x (v := (.ptr b1 3)) (ca_fla rfl rfl) (wo_nil (wd_run ?_)))))
  refine wo_x (v := vp) (s_ld1 s19 4 rfl) (wo_nil (wd_nil (ws_cons ?_)))
  have c21 := src_strs s19 hk
  have s22 := s19.pull 2
  obtain ⟨v23, hl24, H25, h26, s27, k28⟩ := s_copy (bytes := 16) s22 c21 (by omega) (by omega)
  have s29 := Sat.rot (l₁ := hl24) (hl := [.cells b17 [], .cells b13 [], .obj b5 (.cells (.cat 1 (.one (.bool false)) (.rep 3 .nils)) false false), .cells b1 [(.bool lf), vk, vv, vp]]) s27
  refine wo_x (v := v23) (k28 rfl rfl) (wo_nil (wd_again (v := (.bool lf)) (hs := same_bool) (s_ld1 s29 3 rfl) (wd_again (v := vv) (hs := fl_same hv) (s_ld1 s29 3 rfl) (wd_again (v := vp) (hs := fl_same hp) (s_ld1 s29 3 rfl) (wd_nil ?_)))))
  refine ws_cons ?_
  have c30 := src_strs s29 hv
  have s31 := s29.pull 1
  obtain ⟨v32, hl33, H34, h35, s36, k37⟩ := s_copy (bytes := 16) s31 c30 (by omega) (by omega)
  have s38 := Sat.rot (l₁ := hl33) (hl := [.cells b17 [], .obj b5 (.cells (.cat 1 (.one (.bool false)) (.rep 3 .nils)) false false), .cells b1 [(.bool lf), vk, vv, vp]]) s36
  refine wo_x (v := v32) (k37 rfl rfl) (wo_nil (wd_again (v := (.bool lf)) (hs := same_bool) (s_ld1 s38 2 rfl) (wd_again (v := vp) (hs := fl_same hp) (s_ld1 s38 2 rfl) (wd_nil (ws_cons ?_)))))
  have c39 := src_ptrs s38 hp
  obtain ⟨v40, hl41, H42, h43, s44, k45⟩ := s_copy (bytes := 24) s38 c39 (by omega) (by omega)
  have s46 := Sat.rot (l₁ := hl41) (hl := [.obj b5 (.cells (.cat 1 (.one (.bool false)) (.rep 3 .nils)) false false), .cells b1 [(.bool lf), vk, vv, vp]]) s44
  refine wo_x (v := v40) (k45 rfl rfl) (wo_nil (wd_again (v := (.bool lf)) (hs := same_bool) (s_ld1 s46 1 rfl) (wd_run (wo_x (v := (.agg (Rp.set (Rp.set (Rp.set (Rp.set (.cat 1 (.one (.bool false)) (.rep 3 .nils)) 0 (.bool lf)) 1 v23) 2 v32) 3 v40))) (w_build (r := (Rp.set (Rp.set (Rp.set (Rp.set (.cat 1 (.one (.bool false)) (.rep 3 .nils)) 0 (.bool lf)) 1 v23) 2 v32) 3 v40)) (fill_s (v := (.bool lf)) rfl rfl rfl (fill_s (v := v23) rfl (own_sc h26) rfl (fill_s (v := v32) rfl (own_sc h35) rfl (fill_s (v := v40) rfl (own_sc h43) rfl fill_nil))))) (wo_nil ?_)))))
  refine wd_nil (ws_cons ?_)
  obtain ⟨H47, s48, k49⟩ := x_stn s46 0 4 rfl rfl (r := (Rp.set (Rp.set (Rp.set (Rp.set (.cat 1 (.one (.bool false)) (.rep 3 .nils)) 0 (.bool lf)) 1 v23) 2 v32) 3 v40))
  refine wo_n (k49 rfl rfl) (wo_nil (wd_nil (ws_nil (thn_n (wp_ret ?_)))))
  have s54 := s48.drop 0
  have s55 := s54.drop 0
  exact fin_cx (off := 0) s48 0 ⟨_, v23, v32, v40, _, _, _, rfl, ((RL.put (o := 0) (n := 4) (RL.cat (RL.one (.bool false)) (RL.rep 3 .nils) rfl) (((((RL.cat (RL.one (.bool false)) (RL.rep 3 .nils) rfl).set 0 (.bool lf)).set 1 v23).set 2 v32).set 3 v40) rfl (Nat.le_of_ble_eq_true rfl)).sub 0 4), (leaves_sub _ _ (leaves_put 0 4 rfl (leaves_set 3 (leaves_set 2 (leaves_set 1 (leaves_set 0 rfl rfl) (own_pl h26)) (own_pl h35)) (own_pl h43)))), h26, h35, h43, s55⟩
class HlN where
  law : Nat
  awake : Nat
def b_glaw [HlN] [NbN] [NeN] [NrN] [BkN] [NdN] [HvN] : IR := (.seq (.reg [xo 1 (.box t0), xo 2 (.mv (.cst (.bool false)))]) (.seq (.seq (.reg [xo 12 (.ldn 4 t1), xo 13 (.call (.cst (.fn (.fn (.func NbN.long)) [] [])) [t12]), mv 14 t13, ⟨some 15, .call (.cst (.fn (.fn (.func HlN.awake)) [] [])) [], some (14, false)⟩, ⟨some 16, .not t15, some (14, false)⟩, xo 17 (.pick t14 (.cst (.bool true)) t16)]) (.cond t17 (.seq (.reg [xo 18 (.call (.cst (.fn (.fn (.func HlN.awake)) [] [])) []), mv 2 t18]) .ret) .skip)) (.seq (.reg [xo 20 (.ldn 4 t1), xo 21 (.call (.cst (.fn (.fn (.func NbN.given)) [] [])) [t20]), xo 22 (.call (.cst (.fn (.fn (.func HvN.cut)) [] [])) [t21]), mv 19 t22, xo 23 (.ext t19 0), xo 24 (.ext t19 1), xo 25 (.ext t19 2), xo 26 (.ext t19 3), xo 3 (.alloc (.cat 1 (.one (.bool false)) (.rep 3 .nils))), xo 5 (.alloc (.cat 1 (.one (.bool false)) (.rep 3 .nils))), ⟨none, .st 4 t3 t23, none⟩, mv 4 t24, ⟨none, .st 4 t5 t25, none⟩, mv 6 t26]) (.seq (.seq (.reg [mv 27 t6, xo 28 (.bin .neq 0 t27 (.cst (.int .i64 0)))]) (.cond t28 (.seq (.reg [mv 29 t4, xo 30 (.bin .eql 0 t29 (.cst (.str []))), mv 2 t30]) .ret) .skip)) (.seq (.reg [xo 31 (.ldn 4 t1), xo 32 (.call (.cst (.fn (.fn (.func NbN.given)) [] [])) [t31]), xo 33 (.call (.cst (.fn (.fn (.func NdN.size)) [] [])) [t32]), mv 7 t33]) (.seq (.reg [xo 35 (.ldn 4 t3), mv 36 t4, xo 37 (.ldn 4 t5), xo 38 (.call (.cst (.fn (.fn (.func HvN.join)) [] [])) [t35, t36, t37]), mv 34 t38, xo 39 (.ext t34 0), xo 40 (.ext t34 1), xo 8 (.alloc (.cat 1 (.one (.bool false)) (.rep 3 .nils))), ⟨none, .st 4 t8 t39, none⟩, mv 9 t40]) (.seq (.seq (.dreg [.run (mv 41 t9), .run (xo 42 (.bin .neq 0 t41 (.cst (.int .i64 0)))), .run (mv 43 t42), .run ⟨some 44, .ldn 4 t8, some (43, false)⟩, .run ⟨some 46, .ldn 4 t1, some (43, false)⟩] [(⟨some 45, .call (.cst (.fn (.fn (.func NbN.back)) [] [])) [t44], some (43, false)⟩, [.again ⟨some 46, .ldn 4 t1, some (43, false)⟩]), (⟨some 47, .call (.cst (.fn (.fn (.func NbN.same)) [] [])) [t45, t46], some (43, false)⟩, [.run ⟨some 48, .not t47, some (43, false)⟩, .run (xo 49 (.pick t43 (.cst (.bool true)) t48)), .run (mv 50 t49), .run ⟨some 51, .ldn 4 t3, some (50, false)⟩, .run ⟨some 53, .mv t7, some (50, false)⟩]), (⟨some 52, .call (.cst (.fn (.fn (.func NdN.size)) [] [])) [t51], some (50, false)⟩, [.run ⟨some 54, .bin .geq 0 t52 t53, some (50, false)⟩, .run (xo 55 (.pick t50 (.cst (.bool true)) t54)), .run (mv 56 t55), .run ⟨some 57, .ldn 4 t5, some (56, false)⟩, .run ⟨some 59, .mv t7, some (56, false)⟩]), (⟨some 58, .call (.cst (.fn (.fn (.func NdN.size)) [] [])) [t57], some (56, false)⟩, [.run ⟨some 60, .bin .geq 0 t58 t59, some (56, false)⟩, .run (xo 61 (.pick t56 (.cst (.bool true)) t60))])]) (.cond t61 (.seq (.reg [xo 2 (.mv (.cst (.bool false)))]) .ret) .skip)) (.seq (.reg [xo 63 (.ldn 4 t3), xo 64 (.call (.cst (.fn (.fn (.func NeN.encode)) [] [])) [t63]), mv 62 t64, xo 65 (.ext t62 0), xo 66 (.ext t62 1), mv 9 t66]) (.seq (.reg [xo 68 (.ldn 4 t5), xo 69 (.call (.cst (.fn (.fn (.func NeN.encode)) [] [])) [t68]), mv 67 t69, xo 70 (.ext t67 0), xo 71 (.ext t67 1), mv 10 t70, mv 11 t71]) (.seq (.reg [mv 72 t9, xo 73 (.bin .eql 0 t72 (.cst (.int .i64 0))), mv 74 t73, ⟨some 75, .mv t9, some (74, false)⟩, ⟨some 76, .bin .eql 0 t75 (.cst (.int .i64 40)), some (74, false)⟩, xo 77 (.pick t74 (.cst (.bool true)) t76), mv 78 t77, ⟨some 79, .mv t11, some (78, true)⟩, ⟨some 80, .bin .eql 0 t79 (.cst (.int .i64 0)), some (78, true)⟩, ⟨some 81, .mv t80, some (78, true)⟩, ⟨some 82, .mv t11, some (81, false)⟩, ⟨some 83, .bin .eql 0 t82 (.cst (.int .i64 40)), some (81, false)⟩, ⟨some 84, .pick t81 (.cst (.bool true)) t83, some (78, true)⟩, xo 85 (.pick t78 t84 (.cst (.bool false))), mv 2 t85]) .ret))))))))))
def ir_glaw [HlN] [NbN] [NeN] [NrN] [BkN] [NdN] [HvN] : FnIR := ⟨86, [.tmp 2], b_glaw⟩
structure HlT [HlN] [NbN] [NeN] [NrN] [BkN] [NdN] [HvN] (tbl : Nat → Option FT) : Prop where
  law : tbl HlN.law = some (.code ir_glaw)
theorem law_nhL [HlN] [NbN] [NeN] [NrN] [BkN] [NdN] [HvN] {tbl : Nat → Option FT} (T : HlT tbl) (hA : tbl HlN.awake = some (.sum sumTrue)) (TH : NbT tbl) (TE : NeT tbl) (TC : HvT tbl) (TD : NdT tbl) (TB : BkT tbl) {ks vs : List (List Nat)} {ps : List PtrM} {vk vv vp : AV} {r : Rp AV} {N d : Nat} (hd : 14 ≤ d) {Z : Fz} {F : List Hl} {H : AH} (hs : Sat H Z (F)) (hr : RL r [.bool true, vk, vv, vp]) (hk : Fl Z 1 vk (strs ks)) (hv : Fl Z 1 vv (strs vs)) (hp : Fl Z 3 vp (ptrs ps)) (hkl : ks.length ≤ 9223372036854775807) (hvl : vs.length ≤ 9223372036854775807) (hpl : ps.length ≤ 9223372036854775807) (hsame : same (.agg (Rp.sub r 0 4)) (.agg (Rp.sub r 0 4)) = true) (hN : 70000 ≤ N) (hps : ∀ p ∈ ps, p.s < 18446744073709551616) (hbk : BytesOk ks) (hbv : BytesOk vs) :
    Ct (RUN tbl N d) (.fn (.fn (.func HlN.law)) [] []) [(.agg r)] H fun v H' => v = .bool true ∧ True := by
  obtain ⟨d, rfl⟩ : ∃ e, d = e + 14 := ⟨d - 14, by omega⟩
  refine ct_code T.law (b := b_glaw) (env := [(.agg r), u_, u_, u_, u_, u_, u_, u_, u_, u_, u_, u_, u_, u_, u_, u_, u_, u_, u_, u_, u_, u_, u_, u_, u_, u_, u_, u_, u_, u_, u_, u_, u_, u_, u_, u_, u_, u_, u_, u_, u_, u_, u_, u_, u_, u_, u_, u_, u_, u_, u_, u_, u_, u_, u_, u_, u_, u_, u_, u_, u_, u_, u_, u_, u_, u_, u_, u_, u_, u_, u_, u_, u_, u_, u_, u_, u_, u_, u_, u_, u_, u_, u_, u_, u_, u_]) ?_
  unfold b_glaw
  refine wp_seq (wp_reg ?_)
  obtain ⟨b1, H2, s3, k4⟩ := x_boxn hs r
  refine wo_x (v := (.ptr b1 0)) (k4 rfl) (wo_mv (.bool false) (wo_nil (thn_n (wp_seq (wp_seq ?_)))))
  refine wp_reg (wo_x (v := (.agg (Rp.sub r 0 4))) (x_ldn s3 0 hr) ?_)
  obtain ⟨_, H5, ⟨rfl, s6⟩, k7⟩ := long_ok (N := N) (d := d + 13) TH (by omega) s3 (hr.sub 0 4) hk hv hp hkl hvl hpl (by omega)
  refine wo_call k7 (wo_mv (.bool (dB (¬ NL ks vs ps))) ?_)
  by_cases c8 : (dB (¬ NL ks vs ps)) = true
  · refine wo_noT (ht := (congrArg AV.bool c8)) (wo_noT (ht := (congrArg AV.bool c8)) (wo_x (v := (.bool true)) (w_pickT (congrArg AV.bool c8) rfl) (wo_nil (thn_n (wp_condT ?_)))))
    refine wp_seq (wp_reg ?_)
    refine wo_call (sum_true (by omega) hA H5) (wo_mv (.bool true) (wo_nil (thn_n (wp_ret (thn_r ?_)))))
    exact fin_1 (.bool true) ⟨rfl, trivial⟩
  · have hNL : NL ks vs ps := Classical.byContradiction fun h => c8 (dB_true h)
    have hm := hNL.small hN hps
    have hl3 := hNL
    unfold NL at hl3
    refine wo_yesF (ht := (congrArg AV.bool (Bool.eq_false_iff.2 c8))) ?_
    refine wo_call (sum_true (by omega) hA H5) (wo_yesF (ht := (congrArg AV.bool (Bool.eq_false_iff.2 c8))) (wo_x (v := (.bool false)) (w_lit (fun K => rfl)) (wo_x (v := (.bool false)) (w_pickF (congrArg AV.bool (Bool.eq_false_iff.2 c8)) rfl) (wo_nil (thn_n ?_)))))
    refine wp_condF (wp_skip (thn_n (wp_seq (wp_reg (wo_x (v := (.agg (Rp.sub r 0 4))) (x_ldn s6 0 hr) ?_)))))
    obtain ⟨_, H13, ⟨q9, wk15, wv16, wp17, lk18, lv19, lp20, rfl, q10, lv11, ok21, ov22, op23, s12⟩, k14⟩ := given2_ok TH (N := N) (d := d + 13) (by omega) s6 (hr.sub 0 4) hk hv hp (by omega) (by omega) (by omega)
    obtain ⟨Z24, l25, s26, f28, f29, f30, g27⟩ := own_lend3 (lf := true) (ks := ks) (vs := vs) (ps := ps) s12 ⟨ok21, ov22, op23⟩
    have f31 := hk.mono l25
    have f32 := hv.mono l25
    have f33 := hp.mono l25
    refine wo_call k14 ?_
    by_cases c34 : FormN true ks vs ps
    · by_cases c35 : ks.length < 2
      · obtain ⟨_, H40, ⟨q36, q37, rfl, q38, q39, s41⟩, k42⟩ := cutNL_ok (N := N) (d := d + 13) TC TB TD c34 c35 (by omega) s26 q10 f28 f29 f30 hm (same_agg (leaves_sub 0 4 lv11))
        refine wo_call k42 (wo_mv (.tup [(.agg q36), (.str []), (.agg q37), (.int .i64 1)]) (wo_x (v := (.agg q36)) (w_lit (fun K => rfl)) (wo_x (v := (.str [])) (w_lit (fun K => rfl)) (wo_x (v := (.agg q37)) (w_lit (fun K => rfl)) (wo_x (v := (.int .i64 1)) (w_lit (fun K => rfl)) ?_)))))
        obtain ⟨b43, H44, s45, k46⟩ := s_alloc s41 (RL.cat (RL.one (.bool false)) (RL.rep 3 .nils) rfl)
        refine wo_x (v := (.ptr b43 0)) (k46) ?_
        obtain ⟨b47, H48, s49, k50⟩ := s_alloc s45 (RL.cat (RL.one (.bool false)) (RL.rep 3 .nils) rfl)
        refine wo_x (v := (.ptr b47 0)) (k50) ?_
        have s51 := s49.pull 1
        obtain ⟨H52, s53, k54⟩ := s_stn s51 q38 0 4 rfl (Nat.le_of_ble_eq_true rfl)
        refine wo_n (k54 rfl rfl) (wo_mv (.str []) ?_)
        have s55 := s53.pull 1
        obtain ⟨H56, s57, k58⟩ := s_stn s55 q39 0 4 rfl (Nat.le_of_ble_eq_true rfl)
        refine wo_n (k58 rfl rfl) (wo_mv (.int .i64 1) (wo_nil (thn_n (wp_seq (wp_seq ?_)))))
        refine wp_reg (wo_mv (.int .i64 1) (wo_x (v := (.bool true)) (w_lit (fun K => rfl)) (wo_nil (thn_n (wp_condT ?_)))))
        refine wp_seq (wp_reg (wo_mv (.str []) (wo_x (v := (.bool true)) (w_bin (str_eqlT rfl)) (wo_mv (.bool true) (wo_nil ?_)))))
        refine thn_n (wp_ret (thn_r ?_))
        exact fin_1 (.bool true) ⟨rfl, trivial⟩
      · obtain ⟨_, H69, ⟨k59, q60, q61, wk71, wv72, wp73, wk74, wv75, wp76, lk77, lv78, lp79, lk80, lv81, lp82, e66, e67, rfl, r62, r63, o64, o65, s68⟩, k70⟩ := cutL_ok TC (N := N) (d := d + 13) TB TD c34 (show 2 ≤ ks.length by omega) (by omega) s26 q10 f28 f29 f30 hm (same_agg (leaves_sub 0 4 lv11))
        obtain ⟨e83, e84, _⟩ := c34.2.1 rfl
        have z85 := halves_L c34 e66 e67
        rw [e84] at z85
        obtain ⟨Z86, l87, s88, f90, f91, f92, g89⟩ := own_lend3 (lf := true) (ks := (win ks k59 ks.length)) (vs := (win vs k59 ks.length)) (ps := []) s68 ⟨o65.k, o65.v, o65.p⟩
        have f93 := f31.mono l87
        have f94 := f32.mono l87
        have f95 := f33.mono l87
        have f96 := f28.mono l87
        have f97 := f29.mono l87
        have f98 := f30.mono l87
        obtain ⟨Z99, l100, s101, f103, f104, f105, g102⟩ := own_lend3 (lf := true) (ks := (win ks 0 k59)) (vs := (win vs 0 k59)) (ps := []) s88 ⟨o64.k, o64.v, o64.p⟩
        have f106 := f93.mono l100
        have f107 := f94.mono l100
        have f108 := f95.mono l100
        have f109 := f96.mono l100
        have f110 := f97.mono l100
        have f111 := f98.mono l100
        have f112 := f90.mono l100
        have f113 := f91.mono l100
        have f114 := f92.mono l100
        refine wo_call k70 (wo_mv (.tup [(.agg q60), (.str (txt ks k59)), (.agg q61), (.int .i64 0)]) (wo_x (v := (.agg q60)) (w_lit (fun K => rfl)) (wo_x (v := (.str (txt ks k59))) (w_lit (fun K => rfl)) (wo_x (v := (.agg q61)) (w_lit (fun K => rfl)) (wo_x (v := (.int .i64 0)) (w_lit (fun K => rfl)) ?_)))))
        obtain ⟨b115, H116, s117, k118⟩ := s_alloc s101 (RL.cat (RL.one (.bool false)) (RL.rep 3 .nils) rfl)
        refine wo_x (v := (.ptr b115 0)) (k118) ?_
        obtain ⟨b119, H120, s121, k122⟩ := s_alloc s117 (RL.cat (RL.one (.bool false)) (RL.rep 3 .nils) rfl)
        refine wo_x (v := (.ptr b119 0)) (k122) ?_
        have s123 := s121.pull 1
        obtain ⟨H124, s125, k126⟩ := s_stn s123 r62 0 4 rfl (Nat.le_of_ble_eq_true rfl)
        refine wo_n (k126 rfl rfl) (wo_mv (.str (txt ks k59)) ?_)
        have s127 := s125.pull 1
        obtain ⟨H128, s129, k130⟩ := s_stn s127 r63 0 4 rfl (Nat.le_of_ble_eq_true rfl)
        refine wo_n (k130 rfl rfl) (wo_mv (.int .i64 0) (wo_nil (thn_n (wp_seq (wp_seq ?_)))))
        refine wp_reg (wo_mv (.int .i64 0) (wo_x (v := (.bool false)) (w_lit (fun K => rfl)) (wo_nil (thn_n (wp_condF ?_)))))
        refine wp_skip (thn_n (wp_seq (wp_reg (wo_x (v := (.agg (Rp.sub r 0 4))) (x_ldn s129 2 hr) ?_))))
        obtain ⟨_, H134, ⟨q131, wk136, wv137, wp138, lk139, lv140, lp141, rfl, q132, ok142, ov143, op144, s133⟩, k135⟩ := given_ok (N := N) (d := d + 13) TH (by omega) s129 (hr.sub 0 4) f106 f107 f108 (by omega) (by omega) (by omega)
        refine wo_call k135 ?_
        obtain ⟨_, H146, ⟨rfl, s147⟩, k148⟩ := size_own (N := N) (d := d + 13) TD (by omega) s133 q132 ⟨ok142, ov143, op144⟩ hm
        have s149 : Sat H146 Z99 ((.cells b119 [(.bool true), wk74, wv75, wp76]) :: (.cells b115 [(.bool true), wk71, wv72, wp73]) :: (.obj b1 (.cells r false false)) :: F) := Sat.dropP (Sat.dropP (Sat.dropP s147))
        refine wo_call k148 (wo_mv (.int .i64 (.ofNat (sizeN ks vs ps))) (wo_nil (thn_n (wp_seq (wp_reg ?_)))))
        obtain ⟨r150, q151, k152⟩ := s_ldn s149 1 0 4 
        refine wo_x (v := (.agg r150)) (k152 rfl) (wo_mv (.str (txt ks k59)) ?_)
        obtain ⟨r153, q154, k155⟩ := s_ldn s149 0 0 4 
        refine wo_x (v := (.agg r153)) (k155 rfl) ?_
        obtain ⟨_, H160, ⟨q156, wk162, wv163, wp164, lk165, lv166, lp167, rfl, q157, o158, s159⟩, k161⟩ := joinL_ok TC (N := N) (d := d + 13) TB TD (by omega) s149 q151 f103 f104 f105 (hm.winL 0 k59) (form_winL c34 (by omega) (by omega)) q154 f112 f113 f114 (hm.winL k59 ks.length) (form_winL c34 (by omega) (by omega)) (sep_ok c34.1 (by omega)) (Nat.le_trans (sep_ok c34.1 (by omega)).2 (by omega)) (fun _ => sep_left c34.1 (by omega) (by omega)) (fun _ => by rw [sep_rightL (by omega)]; exact slt_irr _) ⟨(Nat.le_trans win_le (by omega)), (Nat.le_trans win_le (by omega)), (by simp), (Nat.le_trans win_le (by omega)), (Nat.le_trans win_le (by omega)), (by simp)⟩ (by omega)
        have e168 : win ks 0 k59 ++ ([] ++ win ks k59 ks.length) = ks := by rw [List.nil_append]; exact win_split ks k59 (by omega)
        have e169 : win vs 0 k59 ++ win vs k59 ks.length = vs := by rw [← e84]; exact win_split vs k59 (by omega)
        have e170 : ([] : List PtrM) ++ [] = ps := (List.eq_nil_of_length_eq_zero e83).symm
        rw [e168, e169, e170] at o158
        have s171 : Sat H160 Z99 ((.cells b119 [(.bool true), wk74, wv75, wp76]) :: (.cells b115 [(.bool true), wk71, wv72, wp73]) :: (.obj b1 (.cells r false false)) :: (lp167 ++ (lv166 ++ (lk165 ++ F)))) := by have h := Sat.rot (l₁ := lp167 ++ (lv166 ++ (lk165))) (hl := [.cells b119 [(.bool true), wk74, wv75, wp76], .cells b115 [(.bool true), wk71, wv72, wp73], .obj b1 (.cells r false false)]) (by simp only [List.append_assoc]; exact s159); simp only [List.append_assoc] at h; exact h
        refine wo_call k161 (wo_mv (.tup [(.agg q156), (.int .i64 0)]) (wo_x (v := (.agg q156)) (w_lit (fun K => rfl)) (wo_x (v := (.int .i64 0)) (w_lit (fun K => rfl)) ?_)))
        obtain ⟨b172, H173, s174, k175⟩ := s_alloc s171 (RL.cat (RL.one (.bool false)) (RL.rep 3 .nils) rfl)
        refine wo_x (v := (.ptr b172 0)) (k175) ?_
        obtain ⟨H176, s177, k178⟩ := s_stn s174 q157 0 4 rfl (Nat.le_of_ble_eq_true rfl)
        refine wo_n (k178 rfl rfl) (wo_mv (.int .i64 0) (wo_nil (thn_n (wp_seq (wp_seq ?_)))))
        refine wp_dreg (wd_run (wo_mv (.int .i64 0) (wo_nil (wd_run (wo_x (v := (.bool false)) (w_lit (fun K => rfl)) ?_)))))
        refine wo_nil (wd_run (wo_mv (.bool false) (wo_nil (wd_run (wo_yesF ?_)))))
        obtain ⟨r179, q180, k181⟩ := s_ldn s177 0 0 4 
        refine wo_x (v := (.agg r179)) (k181 rfl) (wo_nil (wd_run (wo_yesF (wo_x (v := (.agg (Rp.sub r 0 4))) (x_ldn s177 3 hr) (wo_nil ?_)))))
        refine wd_nil (ws_cons (wo_yesF ?_))
        have s182 : Sat H176 Z99 ((lp167 ++ (lv166 ++ (lk165 ++ (.cells b172 [(.bool true), wk162, wv163, wp164]) :: (.cells b119 [(.bool true), wk74, wv75, wp76]) :: (.cells b115 [(.bool true), wk71, wv72, wp73]) :: (.obj b1 (.cells r false false)) :: F)))) := by have h := Sat.rot (l₁ := [.cells b172 [(.bool true), wk162, wv163, wp164], .cells b119 [(.bool true), wk74, wv75, wp76], .cells b115 [(.bool true), wk71, wv72, wp73], .obj b1 (.cells r false false)]) (hl := lp167 ++ (lv166 ++ (lk165))) (by simp only [List.append_assoc]; exact s177); simp only [List.append_assoc] at h; exact h
        have s183 := Sat.rot3 s182
        obtain ⟨_, H187, ⟨q184, wk189, wv190, wp191, lk192, lv193, lp194, rfl, q185, ok195, ov196, op197, s186⟩, k188⟩ := back_ok (N := N) (d := d + 13) TH (by omega) s183 q180 o158.k o158.v o158.p (by omega) (by omega) (by omega) (by omega) (by omega) (by omega)
        have s199 : Sat H187 Z99 ((.cells b172 [(.bool true), wk162, wv163, wp164]) :: (.cells b119 [(.bool true), wk74, wv75, wp76]) :: (.cells b115 [(.bool true), wk71, wv72, wp73]) :: (.obj b1 (.cells r false false)) :: (lp194 ++ (lv193 ++ (lk192 ++ F)))) := by have h := Sat.rot (l₁ := lp194 ++ (lv193 ++ (lk192))) (hl := [.cells b172 [(.bool true), wk162, wv163, wp164], .cells b119 [(.bool true), wk74, wv75, wp76], .cells b115 [(.bool true), wk71, wv72, wp73], .obj b1 (.cells r false false)]) (by simp only [List.append_assoc]; exact s186); simp only [List.append_assoc] at h; exact h
        refine wo_call k188 (wo_nil (wd_againY (v := (.agg (Rp.sub r 0 4))) (hs := hsame) (x_ldn s199 3 hr) (wd_nil (ws_cons (wo_yesF ?_)))))
        have s200 : Sat H187 Z99 ((lp194 ++ (lv193 ++ (lk192 ++ (.cells b172 [(.bool true), wk162, wv163, wp164]) :: (.cells b119 [(.bool true), wk74, wv75, wp76]) :: (.cells b115 [(.bool true), wk71, wv72, wp73]) :: (.obj b1 (.cells r false false)) :: F)))) := by have h := Sat.rot (l₁ := [.cells b172 [(.bool true), wk162, wv163, wp164], .cells b119 [(.bool true), wk74, wv75, wp76], .cells b115 [(.bool true), wk71, wv72, wp73], .obj b1 (.cells r false false)]) (hl := lp194 ++ (lv193 ++ (lk192))) (by simp only [List.append_assoc]; exact s199); simp only [List.append_assoc] at h; exact h
        obtain ⟨Z201, l202, s203, f205, f206, f207, g204⟩ := own_lend3 (lf := true) s200 ⟨ok195, ov196, op197⟩
        obtain ⟨_, H208, ⟨rfl, s209⟩, k210⟩ := same_ok TH (N := N) (d := d + 13) (by omega) s203 q185 f205 f206 f207 (by omega) (by omega) (by omega) (hr.sub 0 4) (f106.mono l202) (f107.mono l202) (f108.mono l202) (by omega) (by omega) (by omega)
        have s211 := g204 _ s209
        have s212 : Sat H208 Z99 ((.cells b172 [(.bool true), wk162, wv163, wp164]) :: (.cells b119 [(.bool true), wk74, wv75, wp76]) :: (.cells b115 [(.bool true), wk71, wv72, wp73]) :: (.obj b1 (.cells r false false)) :: F) := Sat.dropP (Sat.dropP (Sat.dropP s211))
        refine wo_call k210 (wo_nil (wd_run (wo_yesF (wo_x (v := (.bool false)) (w_lit (fun K => rfl)) (wo_nil ?_)))))
        refine wd_run (wo_x (v := (.bool false)) (w_pickF rfl rfl) (wo_nil (wd_run (wo_mv (.bool false) (wo_nil ?_)))))
        refine wd_run (wo_yesF ?_)
        obtain ⟨r213, q214, k215⟩ := s_ldn s212 2 0 4 
        refine wo_x (v := (.agg r213)) (k215 rfl) (wo_nil (wd_run (wo_yesF (wo_mv (.int .i64 (.ofNat (sizeN ks vs ps))) (wo_nil ?_)))))
        refine wd_nil (ws_cons (wo_yesF ?_))
        have z216 : 2 ≤ sizeN (win ks 0 k59) (win vs 0 k59) [] ∧ sizeN (win ks 0 k59) (win vs 0 k59) [] ≤ 1099511627776 := ⟨by unfold sizeN; omega, (hm.winL 0 k59).s⟩
        obtain ⟨_, H217, ⟨rfl, s218⟩, k219⟩ := size_ok (N := N) (d := d + 13) TD (ks := (win ks 0 k59)) (vs := (win vs 0 k59)) (ps := []) (by omega) s212 q214 f103 f104 f105 (hm.winL 0 k59).k (hm.winL 0 k59).v (hm.winL 0 k59).p (hm.winL 0 k59).k' (hm.winL 0 k59).v' (hm.winL 0 k59).p' (hm.winL 0 k59).n (hm.winL 0 k59).s
        refine wo_call k219 (wo_nil (wd_run (wo_yesF (wo_x (v := (.bool false)) (w_bin (cmp_geqF (sizeN (win ks 0 k59) (win vs 0 k59) []) (sizeN ks vs ps) (by omega))) (wo_nil ?_)))))
        refine wd_run (wo_x (v := (.bool false)) (w_pickF rfl rfl) (wo_nil (wd_run (wo_mv (.bool false) (wo_nil ?_)))))
        refine wd_run (wo_yesF ?_)
        obtain ⟨r220, q221, k222⟩ := s_ldn s218 1 0 4 
        refine wo_x (v := (.agg r220)) (k222 rfl) (wo_nil (wd_run (wo_yesF (wo_mv (.int .i64 (.ofNat (sizeN ks vs ps))) (wo_nil ?_)))))
        refine wd_nil (ws_cons (wo_yesF ?_))
        have z223 : 2 ≤ sizeN (win ks k59 ks.length) (win vs k59 ks.length) [] ∧ sizeN (win ks k59 ks.length) (win vs k59 ks.length) [] ≤ 1099511627776 := ⟨by unfold sizeN; omega, (hm.winL k59 ks.length).s⟩
        obtain ⟨_, H224, ⟨rfl, s225⟩, k226⟩ := size_ok (N := N) (d := d + 13) TD (ks := (win ks k59 ks.length)) (vs := (win vs k59 ks.length)) (ps := []) (by omega) s218 q221 f112 f113 f114 (hm.winL k59 ks.length).k (hm.winL k59 ks.length).v (hm.winL k59 ks.length).p (hm.winL k59 ks.length).k' (hm.winL k59 ks.length).v' (hm.winL k59 ks.length).p' (hm.winL k59 ks.length).n (hm.winL k59 ks.length).s
        refine wo_call k226 (wo_nil (wd_run (wo_yesF (wo_x (v := (.bool false)) (w_bin (cmp_geqF (sizeN (win ks k59 ks.length) (win vs k59 ks.length) []) (sizeN ks vs ps) (by omega))) (wo_nil ?_)))))
        refine wd_run (wo_x (v := (.bool false)) (w_pickF rfl rfl) (wo_nil (wd_nil (ws_nil (thn_n ?_)))))
        refine wp_condF (wp_skip (thn_n (wp_seq (wp_reg ?_))))
        obtain ⟨r227, q228, k229⟩ := s_ldn s225 2 0 4 
        refine wo_x (v := (.agg r227)) (k229 rfl) ?_
        by_cases c230 : sizeN (win ks 0 k59) (win vs 0 k59) [] ≤ 500
        · obtain ⟨_, H231, ⟨rfl, s232⟩, k233⟩ := encyL_ok (N := N) (d := d + 13) TE TB TD (ks := (win ks 0 k59)) (vs := (win vs 0 k59)) (ps := []) (form_winL c34 (by omega) (by omega)) rfl c230 (by omega) s225 q228 f103 f104 f105 (hm.winL 0 k59).k (hm.winL 0 k59).v (hm.winL 0 k59).p (hm.winL 0 k59).k' (hm.winL 0 k59).v' (hm.winL 0 k59).p' (hm.winL 0 k59).n (hm.winL 0 k59).s (hm.winL 0 k59).q (fun s hs => hbk s (win_mem hs)) (fun s hs => hbv s (win_mem hs))
          refine wo_call k233 (wo_mv (.tup [(.str (encB true (win ks 0 k59) (win vs 0 k59) [])), (.int .i64 0)]) (wo_x (v := (.str (encB true (win ks 0 k59) (win vs 0 k59) []))) (w_lit (fun K => rfl)) (wo_x (v := (.int .i64 0)) (w_lit (fun K => rfl)) (wo_mv (.int .i64 0) (wo_nil ?_)))))
          refine thn_n (wp_seq (wp_reg ?_))
          obtain ⟨r234, q235, k236⟩ := s_ldn s232 1 0 4 
          refine wo_x (v := (.agg r234)) (k236 rfl) ?_
          by_cases c237 : sizeN (win ks k59 ks.length) (win vs k59 ks.length) [] ≤ 500
          · obtain ⟨_, H238, ⟨rfl, s239⟩, k240⟩ := encyL_ok (N := N) (d := d + 13) TE TB TD (ks := (win ks k59 ks.length)) (vs := (win vs k59 ks.length)) (ps := []) (form_winL c34 (by omega) (by omega)) rfl c237 (by omega) s232 q235 f112 f113 f114 (hm.winL k59 ks.length).k (hm.winL k59 ks.length).v (hm.winL k59 ks.length).p (hm.winL k59 ks.length).k' (hm.winL k59 ks.length).v' (hm.winL k59 ks.length).p' (hm.winL k59 ks.length).n (hm.winL k59 ks.length).s (hm.winL k59 ks.length).q (fun s hs => hbk s (win_mem hs)) (fun s hs => hbv s (win_mem hs))
            refine wo_call k240 (wo_mv (.tup [(.str (encB true (win ks k59 ks.length) (win vs k59 ks.length) [])), (.int .i64 0)]) (wo_x (v := (.str (encB true (win ks k59 ks.length) (win vs k59 ks.length) []))) (w_lit (fun K => rfl)) (wo_x (v := (.int .i64 0)) (w_lit (fun K => rfl)) (wo_mv (.str (encB true (win ks k59 ks.length) (win vs k59 ks.length) [])) (wo_mv (.int .i64 0) ?_)))))
            refine wo_nil (thn_n (wp_seq (wp_reg (wo_mv (.int .i64 0) (wo_x (v := (.bool true)) (w_lit (fun K => rfl)) ?_)))))
            refine wo_mv (.bool true) (wo_noT (wo_noT (wo_x (v := (.bool true)) (w_pickT rfl rfl) (wo_mv (.bool true) (wo_yesT ?_)))))
            refine wo_mv (.int .i64 0) (wo_yesT (wo_x (v := (.bool true)) (w_lit (fun K => rfl)) (wo_yesT (wo_mv (.bool true) (wo_noT ?_)))))
            refine wo_noT (wo_yesT (wo_x (v := (.bool true)) (w_pickT rfl rfl) (wo_x (v := (.bool true)) (w_pickT rfl rfl) (wo_mv (.bool true) (wo_nil ?_)))))
            refine thn_n (wp_ret ?_)
            exact fin_1 (.bool true) ⟨rfl, trivial⟩
          · obtain ⟨_, H241, ⟨rfl, s242⟩, k243⟩ := encl_ok (N := N) (d := d + 13) TE TB TD (ks := (win ks k59 ks.length)) (vs := (win vs k59 ks.length)) (ps := []) (form_winL c34 (by omega) (by omega)) (Nat.lt_of_not_le c237) (by omega) s232 q235 f112 f113 f114 (hm.winL k59 ks.length).k (hm.winL k59 ks.length).v (hm.winL k59 ks.length).p (hm.winL k59 ks.length).k' (hm.winL k59 ks.length).v' (hm.winL k59 ks.length).p' (hm.winL k59 ks.length).n (hm.winL k59 ks.length).s (hm.winL k59 ks.length).q
            refine wo_call k243 (wo_mv (.tup [(.str []), (.int .i64 40)]) (wo_x (v := (.str [])) (w_lit (fun K => rfl)) (wo_x (v := (.int .i64 40)) (w_lit (fun K => rfl)) (wo_mv (.str []) (wo_mv (.int .i64 40) ?_)))))
            refine wo_nil (thn_n (wp_seq (wp_reg (wo_mv (.int .i64 0) (wo_x (v := (.bool true)) (w_lit (fun K => rfl)) ?_)))))
            refine wo_mv (.bool true) (wo_noT (wo_noT (wo_x (v := (.bool true)) (w_pickT rfl rfl) (wo_mv (.bool true) (wo_yesT ?_)))))
            refine wo_mv (.int .i64 40) (wo_yesT (wo_x (v := (.bool false)) (w_lit (fun K => rfl)) (wo_yesT (wo_mv (.bool false) (wo_yesF ?_)))))
            refine wo_mv (.int .i64 40) (wo_yesF (wo_x (v := (.bool true)) (w_lit (fun K => rfl)) (wo_yesT (wo_x (v := (.bool true)) (w_pickF rfl rfl) (wo_x (v := (.bool true)) (w_pickT rfl rfl) ?_)))))
            refine wo_mv (.bool true) (wo_nil (thn_n (wp_ret ?_)))
            exact fin_1 (.bool true) ⟨rfl, trivial⟩
        · obtain ⟨_, H244, ⟨rfl, s245⟩, k246⟩ := encl_ok (N := N) (d := d + 13) TE TB TD (ks := (win ks 0 k59)) (vs := (win vs 0 k59)) (ps := []) (form_winL c34 (by omega) (by omega)) (Nat.lt_of_not_le c230) (by omega) s225 q228 f103 f104 f105 (hm.winL 0 k59).k (hm.winL 0 k59).v (hm.winL 0 k59).p (hm.winL 0 k59).k' (hm.winL 0 k59).v' (hm.winL 0 k59).p' (hm.winL 0 k59).n (hm.winL 0 k59).s (hm.winL 0 k59).q
          refine wo_call k246 (wo_mv (.tup [(.str []), (.int .i64 40)]) (wo_x (v := (.str [])) (w_lit (fun K => rfl)) (wo_x (v := (.int .i64 40)) (w_lit (fun K => rfl)) (wo_mv (.int .i64 40) (wo_nil ?_)))))
          refine thn_n (wp_seq (wp_reg ?_))
          obtain ⟨r247, q248, k249⟩ := s_ldn s245 1 0 4 
          refine wo_x (v := (.agg r247)) (k249 rfl) ?_
          by_cases c250 : sizeN (win ks k59 ks.length) (win vs k59 ks.length) [] ≤ 500
          · obtain ⟨_, H251, ⟨rfl, s252⟩, k253⟩ := encyL_ok (N := N) (d := d + 13) TE TB TD (ks := (win ks k59 ks.length)) (vs := (win vs k59 ks.length)) (ps := []) (form_winL c34 (by omega) (by omega)) rfl c250 (by omega) s245 q248 f112 f113 f114 (hm.winL k59 ks.length).k (hm.winL k59 ks.length).v (hm.winL k59 ks.length).p (hm.winL k59 ks.length).k' (hm.winL k59 ks.length).v' (hm.winL k59 ks.length).p' (hm.winL k59 ks.length).n (hm.winL k59 ks.length).s (hm.winL k59 ks.length).q (fun s hs => hbk s (win_mem hs)) (fun s hs => hbv s (win_mem hs))
            refine wo_call k253 (wo_mv (.tup [(.str (encB true (win ks k59 ks.length) (win vs k59 ks.length) [])), (.int .i64 0)]) (wo_x (v := (.str (encB true (win ks k59 ks.length) (win vs k59 ks.length) []))) (w_lit (fun K => rfl)) (wo_x (v := (.int .i64 0)) (w_lit (fun K => rfl)) (wo_mv (.str (encB true (win ks k59 ks.length) (win vs k59 ks.length) [])) (wo_mv (.int .i64 0) ?_)))))
            refine wo_nil (thn_n (wp_seq (wp_reg (wo_mv (.int .i64 40) (wo_x (v := (.bool false)) (w_lit (fun K => rfl)) ?_)))))
            refine wo_mv (.bool false) (wo_yesF (wo_mv (.int .i64 40) (wo_yesF (wo_x (v := (.bool true)) (w_lit (fun K => rfl)) (wo_x (v := (.bool true)) (w_pickF rfl rfl) ?_)))))
            refine wo_mv (.bool true) (wo_yesT (wo_mv (.int .i64 0) (wo_yesT (wo_x (v := (.bool true)) (w_lit (fun K => rfl)) (wo_yesT ?_)))))
            refine wo_mv (.bool true) (wo_noT (wo_noT (wo_yesT (wo_x (v := (.bool true)) (w_pickT rfl rfl) (wo_x (v := (.bool true)) (w_pickT rfl rfl) ?_)))))
            refine wo_mv (.bool true) (wo_nil (thn_n (wp_ret ?_)))
            exact fin_1 (.bool true) ⟨rfl, trivial⟩
          · obtain ⟨_, H254, ⟨rfl, s255⟩, k256⟩ := encl_ok (N := N) (d := d + 13) TE TB TD (ks := (win ks k59 ks.length)) (vs := (win vs k59 ks.length)) (ps := []) (form_winL c34 (by omega) (by omega)) (Nat.lt_of_not_le c250) (by omega) s245 q248 f112 f113 f114 (hm.winL k59 ks.length).k (hm.winL k59 ks.length).v (hm.winL k59 ks.length).p (hm.winL k59 ks.length).k' (hm.winL k59 ks.length).v' (hm.winL k59 ks.length).p' (hm.winL k59 ks.length).n (hm.winL k59 ks.length).s (hm.winL k59 ks.length).q
            refine wo_call k256 (wo_mv (.tup [(.str []), (.int .i64 40)]) (wo_x (v := (.str [])) (w_lit (fun K => rfl)) (wo_x (v := (.int .i64 40)) (w_lit (fun K => rfl)) (wo_mv (.str []) (wo_mv (.int .i64 40) ?_)))))
            refine wo_nil (thn_n (wp_seq (wp_reg (wo_mv (.int .i64 40) (wo_x (v := (.bool false)) (w_lit (fun K => rfl)) ?_)))))
            refine wo_mv (.bool false) (wo_yesF (wo_mv (.int .i64 40) (wo_yesF (wo_x (v := (.bool true)) (w_lit (fun K => rfl)) (wo_x (v := (.bool true)) (w_pickF rfl rfl) ?_)))))
            refine wo_mv (.bool true) (wo_yesT (wo_mv (.int .i64 40) (wo_yesT (wo_x (v := (.bool false)) (w_lit (fun K => rfl)) (wo_yesT ?_)))))
            refine wo_mv (.bool false) (wo_yesF (wo_mv (.int .i64 40) (wo_yesF (wo_x (v := (.bool true)) (w_lit (fun K => rfl)) (wo_yesT ?_)))))
            refine wo_x (v := (.bool true)) (w_pickF rfl rfl) (wo_x (v := (.bool true)) (w_pickT rfl rfl) (wo_mv (.bool true) (wo_nil (thn_n (wp_ret ?_)))))
            exact fin_1 (.bool true) ⟨rfl, trivial⟩
    · obtain ⟨_, H261, ⟨q257, q258, rfl, q259, q260, s262⟩, k263⟩ := cutNF_ok (N := N) (d := d + 13) TC TB TD c34 (by omega) s26 q10 f28 f29 f30 hm (same_agg (leaves_sub 0 4 lv11))
      refine wo_call k263 (wo_mv (.tup [(.agg q257), (.str []), (.agg q258), (.int .i64 1)]) (wo_x (v := (.agg q257)) (w_lit (fun K => rfl)) (wo_x (v := (.str [])) (w_lit (fun K => rfl)) (wo_x (v := (.agg q258)) (w_lit (fun K => rfl)) (wo_x (v := (.int .i64 1)) (w_lit (fun K => rfl)) ?_)))))
      obtain ⟨b264, H265, s266, k267⟩ := s_alloc s262 (RL.cat (RL.one (.bool false)) (RL.rep 3 .nils) rfl)
      refine wo_x (v := (.ptr b264 0)) (k267) ?_
      obtain ⟨b268, H269, s270, k271⟩ := s_alloc s266 (RL.cat (RL.one (.bool false)) (RL.rep 3 .nils) rfl)
      refine wo_x (v := (.ptr b268 0)) (k271) ?_
      have s272 := s270.pull 1
      obtain ⟨H273, s274, k275⟩ := s_stn s272 q259 0 4 rfl (Nat.le_of_ble_eq_true rfl)
      refine wo_n (k275 rfl rfl) (wo_mv (.str []) ?_)
      have s276 := s274.pull 1
      obtain ⟨H277, s278, k279⟩ := s_stn s276 q260 0 4 rfl (Nat.le_of_ble_eq_true rfl)
      refine wo_n (k279 rfl rfl) (wo_mv (.int .i64 1) (wo_nil (thn_n (wp_seq (wp_seq ?_)))))
      refine wp_reg (wo_mv (.int .i64 1) (wo_x (v := (.bool true)) (w_lit (fun K => rfl)) (wo_nil (thn_n (wp_condT ?_)))))
      refine wp_seq (wp_reg (wo_mv (.str []) (wo_x (v := (.bool true)) (w_bin (str_eqlT rfl)) (wo_mv (.bool true) (wo_nil ?_)))))
      refine thn_n (wp_ret (thn_r ?_))
      exact fin_1 (.bool true) ⟨rfl, trivial⟩
theorem law_nhI [HlN] [NbN] [NeN] [NrN] [BkN] [NdN] [HvN] {tbl : Nat → Option FT} (T : HlT tbl) (hA : tbl HlN.awake = some (.sum sumTrue)) (TH : NbT tbl) (TE : NeT tbl) (TC : HvT tbl) (TD : NdT tbl) (TB : BkT tbl) {ks vs : List (List Nat)} {ps : List PtrM} {vk vv vp : AV} {r : Rp AV} {N d : Nat} (hd : 14 ≤ d) {Z : Fz} {F : List Hl} {H : AH} (hs : Sat H Z (F)) (hr : RL r [.bool false, vk, vv, vp]) (hk : Fl Z 1 vk (strs ks)) (hv : Fl Z 1 vv (strs vs)) (hp : Fl Z 3 vp (ptrs ps)) (hkl : ks.length ≤ 9223372036854775807) (hvl : vs.length ≤ 9223372036854775807) (hpl : ps.length ≤ 9223372036854775807) (hsame : same (.agg (Rp.sub r 0 4)) (.agg (Rp.sub r 0 4)) = true) (hN : 70000 ≤ N) (hps : ∀ p ∈ ps, p.s < 18446744073709551616) (hbk : BytesOk ks) (hbv : BytesOk vs) :
    Ct (RUN tbl N d) (.fn (.fn (.func HlN.law)) [] []) [(.agg r)] H fun v H' => v = .bool true ∧ True := by
  obtain ⟨d, rfl⟩ : ∃ e, d = e + 14 := ⟨d - 14, by omega⟩
  refine ct_code T.law (b := b_glaw) (env := [(.agg r), u_, u_, u_, u_, u_, u_, u_, u_, u_, u_, u_, u_, u_, u_, u_, u_, u_, u_, u_, u_, u_, u_, u_, u_, u_, u_, u_, u_, u_, u_, u_, u_, u_, u_, u_, u_, u_, u_, u_, u_, u_, u_, u_, u_, u_, u_, u_, u_, u_, u_, u_, u_, u_, u_, u_, u_, u_, u_, u_, u_, u_, u_, u_, u_, u_, u_, u_, u_, u_, u_, u_, u_, u_, u_, u_, u_, u_, u_, u_, u_, u_, u_, u_, u_, u_]) ?_
  unfold b_glaw
  refine wp_seq (wp_reg ?_)
  obtain ⟨b1, H2, s3, k4⟩ := x_boxn hs r
  refine wo_x (v := (.ptr b1 0)) (k4 rfl) (wo_mv (.bool false) (wo_nil (thn_n (wp_seq (wp_seq ?_)))))
  refine wp_reg (wo_x (v := (.agg (Rp.sub r 0 4))) (x_ldn s3 0 hr) ?_)
  obtain ⟨_, H5, ⟨rfl, s6⟩, k7⟩ := long_ok (N := N) (d := d + 13) TH (by omega) s3 (hr.sub 0 4) hk hv hp hkl hvl hpl (by omega)
  refine wo_call k7 (wo_mv (.bool (dB (¬ NL ks vs ps))) ?_)
  by_cases c8 : (dB (¬ NL ks vs ps)) = true
  · refine wo_noT (ht := (congrArg AV.bool c8)) (wo_noT (ht := (congrArg AV.bool c8)) (wo_x (v := (.bool true)) (w_pickT (congrArg AV.bool c8) rfl) (wo_nil (thn_n (wp_condT ?_)))))
    refine wp_seq (wp_reg ?_)
    refine wo_call (sum_true (by omega) hA H5) (wo_mv (.bool true) (wo_nil (thn_n (wp_ret (thn_r ?_)))))
    exact fin_1 (.bool true) ⟨rfl, trivial⟩
  · have hNL : NL ks vs ps := Classical.byContradiction fun h => c8 (dB_true h)
    have hm := hNL.small hN hps
    have hl3 := hNL
    unfold NL at hl3
    refine wo_yesF (ht := (congrArg AV.bool (Bool.eq_false_iff.2 c8))) ?_
    refine wo_call (sum_true (by omega) hA H5) (wo_yesF (ht := (congrArg AV.bool (Bool.eq_false_iff.2 c8))) (wo_x (v := (.bool false)) (w_lit (fun K => rfl)) (wo_x (v := (.bool false)) (w_pickF (congrArg AV.bool (Bool.eq_false_iff.2 c8)) rfl) (wo_nil (thn_n ?_)))))
    refine wp_condF (wp_skip (thn_n (wp_seq (wp_reg (wo_x (v := (.agg (Rp.sub r 0 4))) (x_ldn s6 0 hr) ?_)))))
    obtain ⟨_, H13, ⟨q9, wk15, wv16, wp17, lk18, lv19, lp20, rfl, q10, lv11, ok21, ov22, op23, s12⟩, k14⟩ := given2_ok TH (N := N) (d := d + 13) (by omega) s6 (hr.sub 0 4) hk hv hp (by omega) (by omega) (by omega)
    obtain ⟨Z24, l25, s26, f28, f29, f30, g27⟩ := own_lend3 (lf := false) (ks := ks) (vs := vs) (ps := ps) s12 ⟨ok21, ov22, op23⟩
    have f31 := hk.mono l25
    have f32 := hv.mono l25
    have f33 := hp.mono l25
    refine wo_call k14 ?_
    by_cases c34 : FormN false ks vs ps
    · by_cases c35 : ks.length < 3
      · obtain ⟨_, H40, ⟨q36, q37, rfl, q38, q39, s41⟩, k42⟩ := cutNI_ok (N := N) (d := d + 13) TC TB TD c34 c35 (by omega) s26 q10 f28 f29 f30 hm (same_agg (leaves_sub 0 4 lv11))
        refine wo_call k42 (wo_mv (.tup [(.agg q36), (.str []), (.agg q37), (.int .i64 1)]) (wo_x (v := (.agg q36)) (w_lit (fun K => rfl)) (wo_x (v := (.str [])) (w_lit (fun K => rfl)) (wo_x (v := (.agg q37)) (w_lit (fun K => rfl)) (wo_x (v := (.int .i64 1)) (w_lit (fun K => rfl)) ?_)))))
        obtain ⟨b43, H44, s45, k46⟩ := s_alloc s41 (RL.cat (RL.one (.bool false)) (RL.rep 3 .nils) rfl)
        refine wo_x (v := (.ptr b43 0)) (k46) ?_
        obtain ⟨b47, H48, s49, k50⟩ := s_alloc s45 (RL.cat (RL.one (.bool false)) (RL.rep 3 .nils) rfl)
        refine wo_x (v := (.ptr b47 0)) (k50) ?_
        have s51 := s49.pull 1
        obtain ⟨H52, s53, k54⟩ := s_stn s51 q38 0 4 rfl (Nat.le_of_ble_eq_true rfl)
        refine wo_n (k54 rfl rfl) (wo_mv (.str []) ?_)
        have s55 := s53.pull 1
        obtain ⟨H56, s57, k58⟩ := s_stn s55 q39 0 4 rfl (Nat.le_of_ble_eq_true rfl)
        refine wo_n (k58 rfl rfl) (wo_mv (.int .i64 1) (wo_nil (thn_n (wp_seq (wp_seq ?_)))))
        refine wp_reg (wo_mv (.int .i64 1) (wo_x (v := (.bool true)) (w_lit (fun K => rfl)) (wo_nil (thn_n (wp_condT ?_)))))
        refine wp_seq (wp_reg (wo_mv (.str []) (wo_x (v := (.bool true)) (w_bin (str_eqlT rfl)) (wo_mv (.bool true) (wo_nil ?_)))))
        refine thn_n (wp_ret (thn_r ?_))
        exact fin_1 (.bool true) ⟨rfl, trivial⟩
      · obtain ⟨_, H69, ⟨k59, q60, q61, wk71, wv72, wp73, wk74, wv75, wp76, lk77, lv78, lp79, lk80, lv81, lp82, e66, e67, rfl, r62, r63, o64, o65, s68⟩, k70⟩ := cutI_ok TC (N := N) (d := d + 13) TB TD c34 (show 3 ≤ ks.length by omega) (by omega) s26 q10 f28 f29 f30 hm (same_agg (leaves_sub 0 4 lv11))
        obtain ⟨_, e83, e84, _⟩ := c34.2.2 rfl
        have z85 := halves_I c34 e66 e67
        rw [e83] at z85
        obtain ⟨Z86, l87, s88, f90, f91, f92, g89⟩ := own_lend3 (lf := false) (ks := (win ks (k59 + 1) ks.length)) (vs := []) (ps := (win ps (k59 + 1) (ks.length + 1))) s68 ⟨o65.k, o65.v, o65.p⟩
        have f93 := f31.mono l87
        have f94 := f32.mono l87
        have f95 := f33.mono l87
        have f96 := f28.mono l87
        have f97 := f29.mono l87
        have f98 := f30.mono l87
        obtain ⟨Z99, l100, s101, f103, f104, f105, g102⟩ := own_lend3 (lf := false) (ks := (win ks 0 k59)) (vs := []) (ps := (win ps 0 (k59 + 1))) s88 ⟨o64.k, o64.v, o64.p⟩
        have f106 := f93.mono l100
        have f107 := f94.mono l100
        have f108 := f95.mono l100
        have f109 := f96.mono l100
        have f110 := f97.mono l100
        have f111 := f98.mono l100
        have f112 := f90.mono l100
        have f113 := f91.mono l100
        have f114 := f92.mono l100
        refine wo_call k70 (wo_mv (.tup [(.agg q60), (.str (txt ks k59)), (.agg q61), (.int .i64 0)]) (wo_x (v := (.agg q60)) (w_lit (fun K => rfl)) (wo_x (v := (.str (txt ks k59))) (w_lit (fun K => rfl)) (wo_x (v := (.agg q61)) (w_lit (fun K => rfl)) (wo_x (v := (.int .i64 0)) (w_lit (fun K => rfl)) ?_)))))
        obtain ⟨b115, H116, s117, k118⟩ := s_alloc s101 (RL.cat (RL.one (.bool false)) (RL.rep 3 .nils) rfl)
        refine wo_x (v := (.ptr b115 0)) (k118) ?_
        obtain ⟨b119, H120, s121, k122⟩ := s_alloc s117 (RL.cat (RL.one (.bool false)) (RL.rep 3 .nils) rfl)
        refine wo_x (v := (.ptr b119 0)) (k122) ?_
        have s123 := s121.pull 1
        obtain ⟨H124, s125, k126⟩ := s_stn s123 r62 0 4 rfl (Nat.le_of_ble_eq_true rfl)
        refine wo_n (k126 rfl rfl) (wo_mv (.str (txt ks k59)) ?_)
        have s127 := s125.pull 1
        obtain ⟨H128, s129, k130⟩ := s_stn s127 r63 0 4 rfl (Nat.le_of_ble_eq_true rfl)
        refine wo_n (k130 rfl rfl) (wo_mv (.int .i64 0) (wo_nil (thn_n (wp_seq (wp_seq ?_)))))
        refine wp_reg (wo_mv (.int .i64 0) (wo_x (v := (.bool false)) (w_lit (fun K => rfl)) (wo_nil (thn_n (wp_condF ?_)))))
        refine wp_skip (thn_n (wp_seq (wp_reg (wo_x (v := (.agg (Rp.sub r 0 4))) (x_ldn s129 2 hr) ?_))))
        obtain ⟨_, H134, ⟨q131, wk136, wv137, wp138, lk139, lv140, lp141, rfl, q132, ok142, ov143, op144, s133⟩, k135⟩ := given_ok (N := N) (d := d + 13) TH (by omega) s129 (hr.sub 0 4) f106 f107 f108 (by omega) (by omega) (by omega)
        refine wo_call k135 ?_
        obtain ⟨_, H146, ⟨rfl, s147⟩, k148⟩ := size_own (N := N) (d := d + 13) TD (by omega) s133 q132 ⟨ok142, ov143, op144⟩ hm
        have s149 : Sat H146 Z99 ((.cells b119 [(.bool false), wk74, wv75, wp76]) :: (.cells b115 [(.bool false), wk71, wv72, wp73]) :: (.obj b1 (.cells r false false)) :: F) := Sat.dropP (Sat.dropP (Sat.dropP s147))
        refine wo_call k148 (wo_mv (.int .i64 (.ofNat (sizeN ks vs ps))) (wo_nil (thn_n (wp_seq (wp_reg ?_)))))
        obtain ⟨r150, q151, k152⟩ := s_ldn s149 1 0 4 
        refine wo_x (v := (.agg r150)) (k152 rfl) (wo_mv (.str (txt ks k59)) ?_)
        obtain ⟨r153, q154, k155⟩ := s_ldn s149 0 0 4 
        refine wo_x (v := (.agg r153)) (k155 rfl) ?_
        obtain ⟨_, H160, ⟨q156, wk162, wv163, wp164, lk165, lv166, lp167, rfl, q157, o158, s159⟩, k161⟩ := joinI_ok TC (N := N) (d := d + 13) TB TD (by omega) s149 q151 f103 f104 f105 (hm.winI 0 k59 0 (k59 + 1)) (form_winI c34 (by omega) (by omega)) q154 f112 f113 f114 (hm.winI (k59 + 1) ks.length (k59 + 1) (ks.length + 1)) (form_winI c34 (by omega) (by omega)) (sep_ok c34.1 (by omega)) (Nat.le_trans (sep_ok c34.1 (by omega)).2 (by omega)) (fun _ => sep_left c34.1 (by omega) (by omega)) (fun _ => slt_asym _ _ (sep_rightI c34.1 (by omega))) (fun _ e => by have e2 := sep_rightI (k := k59) c34.1 (by omega); rw [e, slt_irr] at e2; cases e2) ⟨(Nat.le_trans win_le (by omega)), (by simp), (Nat.le_trans win_le (by omega)), (Nat.le_trans win_le (by omega)), (by simp), (Nat.le_trans win_le (by omega))⟩ (by omega)
        have e168 : win ks 0 k59 ++ ([txt ks k59] ++ win ks (k59 + 1) ks.length) = ks := win_mid (by omega)
        have e169 : ([] : List (List Nat)) ++ [] = vs := (List.eq_nil_of_length_eq_zero e84).symm
        have e170 : win ps 0 (k59 + 1) ++ win ps (k59 + 1) (ks.length + 1) = ps := by rw [← e83]; exact win_split ps (k59 + 1) (by omega)
        rw [e168, e169, e170] at o158
        have s171 : Sat H160 Z99 ((.cells b119 [(.bool false), wk74, wv75, wp76]) :: (.cells b115 [(.bool false), wk71, wv72, wp73]) :: (.obj b1 (.cells r false false)) :: (lp167 ++ (lv166 ++ (lk165 ++ F)))) := by have h := Sat.rot (l₁ := lp167 ++ (lv166 ++ (lk165))) (hl := [.cells b119 [(.bool false), wk74, wv75, wp76], .cells b115 [(.bool false), wk71, wv72, wp73], .obj b1 (.cells r false false)]) (by simp only [List.append_assoc]; exact s159); simp only [List.append_assoc] at h; exact h
        refine wo_call k161 (wo_mv (.tup [(.agg q156), (.int .i64 0)]) (wo_x (v := (.agg q156)) (w_lit (fun K => rfl)) (wo_x (v := (.int .i64 0)) (w_lit (fun K => rfl)) ?_)))
        obtain ⟨b172, H173, s174, k175⟩ := s_alloc s171 (RL.cat (RL.one (.bool false)) (RL.rep 3 .nils) rfl)
        refine wo_x (v := (.ptr b172 0)) (k175) ?_
        obtain ⟨H176, s177, k178⟩ := s_stn s174 q157 0 4 rfl (Nat.le_of_ble_eq_true rfl)
        refine wo_n (k178 rfl rfl) (wo_mv (.int .i64 0) (wo_nil (thn_n (wp_seq (wp_seq ?_)))))
        refine wp_dreg (wd_run (wo_mv (.int .i64 0) (wo_nil (wd_run (wo_x (v := (.bool false)) (w_lit (fun K => rfl)) ?_)))))
        refine wo_nil (wd_run (wo_mv (.bool false) (wo_nil (wd_run (wo_yesF ?_)))))
        obtain ⟨r179, q180, k181⟩ := s_ldn s177 0 0 4 
        refine wo_x (v := (.agg r179)) (k181 rfl) (wo_nil (wd_run (wo_yesF (wo_x (v := (.agg (Rp.sub r 0 4))) (x_ldn s177 3 hr) (wo_nil ?_)))))
        refine wd_nil (ws_cons (wo_yesF ?_))
        have s182 : Sat H176 Z99 ((lp167 ++ (lv166 ++ (lk165 ++ (.cells b172 [(.bool false), wk162, wv163, wp164]) :: (.cells b119 [(.bool false), wk74, wv75, wp76]) :: (.cells b115 [(.bool false), wk71, wv72, wp73]) :: (.obj b1 (.cells r false false)) :: F)))) := by have h := Sat.rot (l₁ := [.cells b172 [(.bool false), wk162, wv163, wp164], .cells b119 [(.bool false), wk74, wv75, wp76], .cells b115 [(.bool false), wk71, wv72, wp73], .obj b1 (.cells r false false)]) (hl := lp167 ++ (lv166 ++ (lk165))) (by simp only [List.append_assoc]; exact s177); simp only [List.append_assoc] at h; exact h
        have s183 := Sat.rot3 s182
        obtain ⟨_, H187, ⟨q184, wk189, wv190, wp191, lk192, lv193, lp194, rfl, q185, ok195, ov196, op197, s186⟩, k188⟩ := back_ok (N := N) (d := d + 13) TH (by omega) s183 q180 o158.k o158.v o158.p (by omega) (by omega) (by omega) (by omega) (by omega) (by omega)
        have s199 : Sat H187 Z99 ((.cells b172 [(.bool false), wk162, wv163, wp164]) :: (.cells b119 [(.bool false), wk74, wv75, wp76]) :: (.cells b115 [(.bool false), wk71, wv72, wp73]) :: (.obj b1 (.cells r false false)) :: (lp194 ++ (lv193 ++ (lk192 ++ F)))) := by have h := Sat.rot (l₁ := lp194 ++ (lv193 ++ (lk192))) (hl := [.cells b172 [(.bool false), wk162, wv163, wp164], .cells b119 [(.bool false), wk74, wv75, wp76], .cells b115 [(.bool false), wk71, wv72, wp73], .obj b1 (.cells r false false)]) (by simp only [List.append_assoc]; exact s186); simp only [List.append_assoc] at h; exact h
        refine wo_call k188 (wo_nil (wd_againY (v := (.agg (Rp.sub r 0 4))) (hs := hsame) (x_ldn s199 3 hr) (wd_nil (ws_cons (wo_yesF ?_)))))
        have s200 : Sat H187 Z99 ((lp194 ++ (lv193 ++ (lk192 ++ (.cells b172 [(.bool false), wk162, wv163, wp164]) :: (.cells b119 [(.bool false), wk74, wv75, wp76]) :: (.cells b115 [(.bool false), wk71, wv72, wp73]) :: (.obj b1 (.cells r false false)) :: F)))) := by have h := Sat.rot (l₁ := [.cells b172 [(.bool false), wk162, wv163, wp164], .cells b119 [(.bool false), wk74, wv75, wp76], .cells b115 [(.bool false), wk71, wv72, wp73], .obj b1 (.cells r false false)]) (hl := lp194 ++ (lv193 ++ (lk192))) (by simp only [List.append_assoc]; exact s199); simp only [List.append_assoc] at h; exact h
        obtain ⟨Z201, l202, s203, f205, f206, f207, g204⟩ := own_lend3 (lf := false) s200 ⟨ok195, ov196, op197⟩
        obtain ⟨_, H208, ⟨rfl, s209⟩, k210⟩ := same_ok TH (N := N) (d := d + 13) (by omega) s203 q185 f205 f206 f207 (by omega) (by omega) (by omega) (hr.sub 0 4) (f106.mono l202) (f107.mono l202) (f108.mono l202) (by omega) (by omega) (by omega)
        have s211 := g204 _ s209
        have s212 : Sat H208 Z99 ((.cells b172 [(.bool false), wk162, wv163, wp164]) :: (.cells b119 [(.bool false), wk74, wv75, wp76]) :: (.cells b115 [(.bool false), wk71, wv72, wp73]) :: (.obj b1 (.cells r false false)) :: F) := Sat.dropP (Sat.dropP (Sat.dropP s211))
        refine wo_call k210 (wo_nil (wd_run (wo_yesF (wo_x (v := (.bool false)) (w_lit (fun K => rfl)) (wo_nil ?_)))))
        refine wd_run (wo_x (v := (.bool false)) (w_pickF rfl rfl) (wo_nil (wd_run (wo_mv (.bool false) (wo_nil ?_)))))
        refine wd_run (wo_yesF ?_)
        obtain ⟨r213, q214, k215⟩ := s_ldn s212 2 0 4 
        refine wo_x (v := (.agg r213)) (k215 rfl) (wo_nil (wd_run (wo_yesF (wo_mv (.int .i64 (.ofNat (sizeN ks vs ps))) (wo_nil ?_)))))
        refine wd_nil (ws_cons (wo_yesF ?_))
        have z216 : 2 ≤ sizeN (win ks 0 k59) [] (win ps 0 (k59 + 1)) ∧ sizeN (win ks 0 k59) [] (win ps 0 (k59 + 1)) ≤ 1099511627776 := ⟨by unfold sizeN; omega, (hm.winI 0 k59 0 (k59 + 1)).s⟩
        obtain ⟨_, H217, ⟨rfl, s218⟩, k219⟩ := size_ok (N := N) (d := d + 13) TD (ks := (win ks 0 k59)) (vs := []) (ps := (win ps 0 (k59 + 1))) (by omega) s212 q214 f103 f104 f105 (hm.winI 0 k59 0 (k59 + 1)).k (hm.winI 0 k59 0 (k59 + 1)).v (hm.winI 0 k59 0 (k59 + 1)).p (hm.winI 0 k59 0 (k59 + 1)).k' (hm.winI 0 k59 0 (k59 + 1)).v' (hm.winI 0 k59 0 (k59 + 1)).p' (hm.winI 0 k59 0 (k59 + 1)).n (hm.winI 0 k59 0 (k59 + 1)).s
        refine wo_call k219 (wo_nil (wd_run (wo_yesF (wo_x (v := (.bool false)) (w_bin (cmp_geqF (sizeN (win ks 0 k59) [] (win ps 0 (k59 + 1))) (sizeN ks vs ps) (by omega))) (wo_nil ?_)))))
        refine wd_run (wo_x (v := (.bool false)) (w_pickF rfl rfl) (wo_nil (wd_run (wo_mv (.bool false) (wo_nil ?_)))))
        refine wd_run (wo_yesF ?_)
        obtain ⟨r220, q221, k222⟩ := s_ldn s218 1 0 4 
        refine wo_x (v := (.agg r220)) (k222 rfl) (wo_nil (wd_run (wo_yesF (wo_mv (.int .i64 (.ofNat (sizeN ks vs ps))) (wo_nil ?_)))))
        refine wd_nil (ws_cons (wo_yesF ?_))
        have z223 : 2 ≤ sizeN (win ks (k59 + 1) ks.length) [] (win ps (k59 + 1) (ks.length + 1)) ∧ sizeN (win ks (k59 + 1) ks.length) [] (win ps (k59 + 1) (ks.length + 1)) ≤ 1099511627776 := ⟨by unfold sizeN; omega, (hm.winI (k59 + 1) ks.length (k59 + 1) (ks.length + 1)).s⟩
        obtain ⟨_, H224, ⟨rfl, s225⟩, k226⟩ := size_ok (N := N) (d := d + 13) TD (ks := (win ks (k59 + 1) ks.length)) (vs := []) (ps := (win ps (k59 + 1) (ks.length + 1))) (by omega) s218 q221 f112 f113 f114 (hm.winI (k59 + 1) ks.length (k59 + 1) (ks.length + 1)).k (hm.winI (k59 + 1) ks.length (k59 + 1) (ks.length + 1)).v (hm.winI (k59 + 1) ks.length (k59 + 1) (ks.length + 1)).p (hm.winI (k59 + 1) ks.length (k59 + 1) (ks.length + 1)).k' (hm.winI (k59 + 1) ks.length (k59 + 1) (ks.length + 1)).v' (hm.winI (k59 + 1) ks.length (k59 + 1) (ks.length + 1)).p' (hm.winI (k59 + 1) ks.length (k59 + 1) (ks.length + 1)).n (hm.winI (k59 + 1) ks.length (k59 + 1) (ks.length + 1)).s
        refine wo_call k226 (wo_nil (wd_run (wo_yesF (wo_x (v := (.bool false)) (w_bin (cmp_geqF (sizeN (win ks (k59 + 1) ks.length) [] (win ps (k59 + 1) (ks.length + 1))) (sizeN ks vs ps) (by omega))) (wo_nil ?_)))))
        refine wd_run (wo_x (v := (.bool false)) (w_pickF rfl rfl) (wo_nil (wd_nil (ws_nil (thn_n ?_)))))
        refine wp_condF (wp_skip (thn_n (wp_seq (wp_reg ?_))))
        obtain ⟨r227, q228, k229⟩ := s_ldn s225 2 0 4 
        refine wo_x (v := (.agg r227)) (k229 rfl) ?_
        by_cases c230 : sizeN (win ks 0 k59) [] (win ps 0 (k59 + 1)) ≤ 500
        · obtain ⟨_, H231, ⟨rfl, s232⟩, k233⟩ := encyI_ok (N := N) (d := d + 13) TE TB TD (ks := (win ks 0 k59)) (vs := []) (ps := (win ps 0 (k59 + 1))) (form_winI c34 (by omega) (by omega)) rfl c230 (by omega) s225 q228 f103 f104 f105 (hm.winI 0 k59 0 (k59 + 1)).k (hm.winI 0 k59 0 (k59 + 1)).v (hm.winI 0 k59 0 (k59 + 1)).p (hm.winI 0 k59 0 (k59 + 1)).k' (hm.winI 0 k59 0 (k59 + 1)).v' (hm.winI 0 k59 0 (k59 + 1)).p' (hm.winI 0 k59 0 (k59 + 1)).n (hm.winI 0 k59 0 (k59 + 1)).s (hm.winI 0 k59 0 (k59 + 1)).q (fun s hs => hbk s (win_mem hs)) (fun s hs => (List.not_mem_nil hs).elim)
          refine wo_call k233 (wo_mv (.tup [(.str (encB false (win ks 0 k59) [] (win ps 0 (k59 + 1)))), (.int .i64 0)]) (wo_x (v := (.str (encB false (win ks 0 k59) [] (win ps 0 (k59 + 1))))) (w_lit (fun K => rfl)) (wo_x (v := (.int .i64 0)) (w_lit (fun K => rfl)) (wo_mv (.int .i64 0) (wo_nil ?_)))))
          refine thn_n (wp_seq (wp_reg ?_))
          obtain ⟨r234, q235, k236⟩ := s_ldn s232 1 0 4 
          refine wo_x (v := (.agg r234)) (k236 rfl) ?_
          by_cases c237 : sizeN (win ks (k59 + 1) ks.length) [] (win ps (k59 + 1) (ks.length + 1)) ≤ 500
          · obtain ⟨_, H238, ⟨rfl, s239⟩, k240⟩ := encyI_ok (N := N) (d := d + 13) TE TB TD (ks := (win ks (k59 + 1) ks.length)) (vs := []) (ps := (win ps (k59 + 1) (ks.length + 1))) (form_winI c34 (by omega) (by omega)) rfl c237 (by omega) s232 q235 f112 f113 f114 (hm.winI (k59 + 1) ks.length (k59 + 1) (ks.length + 1)).k (hm.winI (k59 + 1) ks.length (k59 + 1) (ks.length + 1)).v (hm.winI (k59 + 1) ks.length (k59 + 1) (ks.length + 1)).p (hm.winI (k59 + 1) ks.length (k59 + 1) (ks.length + 1)).k' (hm.winI (k59 + 1) ks.length (k59 + 1) (ks.length + 1)).v' (hm.winI (k59 + 1) ks.length (k59 + 1) (ks.length + 1)).p' (hm.winI (k59 + 1) ks.length (k59 + 1) (ks.length + 1)).n (hm.winI (k59 + 1) ks.length (k59 + 1) (ks.length + 1)).s (hm.winI (k59 + 1) ks.length (k59 + 1) (ks.length + 1)).q (fun s hs => hbk s (win_mem hs)) (fun s hs => (List.not_mem_nil hs).elim)
            refine wo_call k240 (wo_mv (.tup [(.str (encB false (win ks (k59 + 1) ks.length) [] (win ps (k59 + 1) (ks.length + 1)))), (.int .i64 0)]) (wo_x (v := (.str (encB false (win ks (k59 + 1) ks.length) [] (win ps (k59 + 1) (ks.length + 1))))) (w_lit (fun K => rfl)) (wo_x (v := (.int .i64 0)) (w_lit (fun K => rfl)) (wo_mv (.str (encB false (win ks (k59 + 1) ks.length) [] (win ps (k59 + 1) (ks.length + 1)))) (wo_mv (.int .i64 0) ?_)))))
            refine wo_nil (thn_n (wp_seq (wp_reg (wo_mv (.int .i64 0) (wo_x (v := (.bool true)) (w_lit (fun K => rfl)) ?_)))))
            refine wo_mv (.bool true) (wo_noT (wo_noT (wo_x (v := (.bool true)) (w_pickT rfl rfl) (wo_mv (.bool true) (wo_yesT ?_)))))
            refine wo_mv (.int .i64 0) (wo_yesT (wo_x (v := (.bool true)) (w_lit (fun K => rfl)) (wo_yesT (wo_mv (.bool true) (wo_noT ?_)))))
            refine wo_noT (wo_yesT (wo_x (v := (.bool true)) (w_pickT rfl rfl) (wo_x (v := (.bool true)) (w_pickT rfl rfl) (wo_mv (.bool true) (wo_nil ?_)))))
            refine thn_n (wp_ret ?_)
            exact fin_1 (.bool true) ⟨rfl, trivial⟩
          · obtain ⟨_, H241, ⟨rfl, s242⟩, k243⟩ := encl_ok (N := N) (d := d + 13) TE TB TD (ks := (win ks (k59 + 1) ks.length)) (vs := []) (ps := (win ps (k59 + 1) (ks.length + 1))) (form_winI c34 (by omega) (by omega)) (Nat.lt_of_not_le c237) (by omega) s232 q235 f112 f113 f114 (hm.winI (k59 + 1) ks.length (k59 + 1) (ks.length + 1)).k (hm.winI (k59 + 1) ks.length (k59 + 1) (ks.length + 1)).v (hm.winI (k59 + 1) ks.length (k59 + 1) (ks.length + 1)).p (hm.winI (k59 + 1) ks.length (k59 + 1) (ks.length + 1)).k' (hm.winI (k59 + 1) ks.length (k59 + 1) (ks.length + 1)).v' (hm.winI (k59 + 1) ks.length (k59 + 1) (ks.length + 1)).p' (hm.winI (k59 + 1) ks.length (k59 + 1) (ks.length + 1)).n (hm.winI (k59 + 1) ks.length (k59 + 1) (ks.length + 1)).s (hm.winI (k59 + 1) ks.length (k59 + 1) (ks.length + 1)).q
            refine wo_call k243 (wo_mv (.tup [(.str []), (.int .i64 40)]) (wo_x (v := (.str [])) (w_lit (fun K => rfl)) (wo_x (v := (.int .i64 40)) (w_lit (fun K => rfl)) (wo_mv (.str []) (wo_mv (.int .i64 40) ?_)))))
            refine wo_nil (thn_n (wp_seq (wp_reg (wo_mv (.int .i64 0) (wo_x (v := (.bool true)) (w_lit (fun K => rfl)) ?_)))))
            refine wo_mv (.bool true) (wo_noT (wo_noT (wo_x (v := (.bool true)) (w_pickT rfl rfl) (wo_mv (.bool true) (wo_yesT ?_)))))
            refine wo_mv (.int .i64 40) (wo_yesT (wo_x (v := (.bool false)) (w_lit (fun K => rfl)) (wo_yesT (wo_mv (.bool false) (wo_yesF ?_)))))
            refine wo_mv (.int .i64 40) (wo_yesF (wo_x (v := (.bool true)) (w_lit (fun K => rfl)) (wo_yesT (wo_x (v := (.bool true)) (w_pickF rfl rfl) (wo_x (v := (.bool true)) (w_pickT rfl rfl) ?_)))))
            refine wo_mv (.bool true) (wo_nil (thn_n (wp_ret ?_)))
            exact fin_1 (.bool true) ⟨rfl, trivial⟩
        · obtain ⟨_, H244, ⟨rfl, s245⟩, k246⟩ := encl_ok (N := N) (d := d + 13) TE TB TD (ks := (win ks 0 k59)) (vs := []) (ps := (win ps 0 (k59 + 1))) (form_winI c34 (by omega) (by omega)) (Nat.lt_of_not_le c230) (by omega) s225 q228 f103 f104 f105 (hm.winI 0 k59 0 (k59 + 1)).k (hm.winI 0 k59 0 (k59 + 1)).v (hm.winI 0 k59 0 (k59 + 1)).p (hm.winI 0 k59 0 (k59 + 1)).k' (hm.winI 0 k59 0 (k59 + 1)).v' (hm.winI 0 k59 0 (k59 + 1)).p' (hm.winI 0 k59 0 (k59 + 1)).n (hm.winI 0 k59 0 (k59 + 1)).s (hm.winI 0 k59 0 (k59 + 1)).q
          refine wo_call k246 (wo_mv (.tup [(.str []), (.int .i64 40)]) (wo_x (v := (.str [])) (w_lit (fun K => rfl)) (wo_x (v := (.int .i64 40)) (w_lit (fun K => rfl)) (wo_mv (.int .i64 40) (wo_nil ?_)))))
          refine thn_n (wp_seq (wp_reg ?_))
          obtain ⟨r247, q248, k249⟩ := s_ldn s245 1 0 4 
          refine wo_x (v := (.agg r247)) (k249 rfl) ?_
          by_cases c250 : sizeN (win ks (k59 + 1) ks.length) [] (win ps (k59 + 1) (ks.length + 1)) ≤ 500
          · obtain ⟨_, H251, ⟨rfl, s252⟩, k253⟩ := encyI_ok (N := N) (d := d + 13) TE TB TD (ks := (win ks (k59 + 1) ks.length)) (vs := []) (ps := (win ps (k59 + 1) (ks.length + 1))) (form_winI c34 (by omega) (by omega)) rfl c250 (by omega) s245 q248 f112 f113 f114 (hm.winI (k59 + 1) ks.length (k59 + 1) (ks.length + 1)).k (hm.winI (k59 + 1) ks.length (k59 + 1) (ks.length + 1)).v (hm.winI (k59 + 1) ks.length (k59 + 1) (ks.length + 1)).p (hm.winI (k59 + 1) ks.length (k59 + 1) (ks.length + 1)).k' (hm.winI (k59 + 1) ks.length (k59 + 1) (ks.length + 1)).v' (hm.winI (k59 + 1) ks.length (k59 + 1) (ks.length + 1)).p' (hm.winI (k59 + 1) ks.length (k59 + 1) (ks.length + 1)).n (hm.winI (k59 + 1) ks.length (k59 + 1) (ks.length + 1)).s (hm.winI (k59 + 1) ks.length (k59 + 1) (ks.length + 1)).q (fun s hs => hbk s (win_mem hs)) (fun s hs => (List.not_mem_nil hs).elim)
            refine wo_call k253 (wo_mv (.tup [(.str (encB false (win ks (k59 + 1) ks.length) [] (win ps (k59 + 1) (ks.length + 1)))), (.int .i64 0)]) (wo_x (v := (.str (encB false (win ks (k59 + 1) ks.length) [] (win ps (k59 + 1) (ks.length + 1))))) (w_lit (fun K => rfl)) (wo_x (v := (.int .i64 0)) (w_lit (fun K => rfl)) (wo_mv (.str (encB false (win ks (k59 + 1) ks.length) [] (win ps (k59 + 1) (ks.length + 1)))) (wo_mv (.int .i64 0) ?_)))))
            refine wo_nil (thn_n (wp_seq (wp_reg (wo_mv (.int .i64 40) (wo_x (v := (.bool false)) (w_lit (fun K => rfl)) ?_)))))
            refine wo_mv (.bool false) (wo_yesF (wo_mv (.int .i64 40) (wo_yesF (wo_x (v := (.bool true)) (w_lit (fun K => rfl)) (wo_x (v := (.bool true)) (w_pickF rfl rfl) ?_)))))
            refine wo_mv (.bool true) (wo_yesT (wo_mv (.int .i64 0) (wo_yesT (wo_x (v := (.bool true)) (w_lit (fun K => rfl)) (wo_yesT ?_)))))
            refine wo_mv (.bool true) (wo_noT (wo_noT (wo_yesT (wo_x (v := (.bool true)) (w_pickT rfl rfl) (wo_x (v := (.bool true)) (w_pickT rfl rfl) ?_)))))
            refine wo_mv (.bool true) (wo_nil (thn_n (wp_ret ?_)))
            exact fin_1 (.bool true) ⟨rfl, trivial⟩
          · obtain ⟨_, H254, ⟨rfl, s255⟩, k256⟩ := encl_ok (N := N) (d := d + 13) TE TB TD (ks := (win ks (k59 + 1) ks.length)) (vs := []) (ps := (win ps (k59 + 1) (ks.length + 1))) (form_winI c34 (by omega) (by omega)) (Nat.lt_of_not_le c250) (by omega) s245 q248 f112 f113 f114 (hm.winI (k59 + 1) ks.length (k59 + 1) (ks.length + 1)).k (hm.winI (k59 + 1) ks.length (k59 + 1) (ks.length + 1)).v (hm.winI (k59 + 1) ks.length (k59 + 1) (ks.length + 1)).p (hm.winI (k59 + 1) ks.length (k59 + 1) (ks.length + 1)).k' (hm.winI (k59 + 1) ks.length (k59 + 1) (ks.length + 1)).v' (hm.winI (k59 + 1) ks.length (k59 + 1) (ks.length + 1)).p' (hm.winI (k59 + 1) ks.length (k59 + 1) (ks.length + 1)).n (hm.winI (k59 + 1) ks.length (k59 + 1) (ks.length + 1)).s (hm.winI (k59 + 1) ks.length (k59 + 1) (ks.length + 1)).q
            refine wo_call k256 (wo_mv (.tup [(.str []), (.int .i64 40)]) (wo_x (v := (.str [])) (w_lit (fun K => rfl)) (wo_x (v := (.int .i64 40)) (w_lit (fun K => rfl)) (wo_mv (.str []) (wo_mv (.int .i64 40) ?_)))))
            refine wo_nil (thn_n (wp_seq (wp_reg (wo_mv (.int .i64 40) (wo_x (v := (.bool false)) (w_lit (fun K => rfl)) ?_)))))
            refine wo_mv (.bool false) (wo_yesF (wo_mv (.int .i64 40) (wo_yesF (wo_x (v := (.bool true)) (w_lit (fun K => rfl)) (wo_x (v := (.bool true)) (w_pickF rfl rfl) ?_)))))
            refine wo_mv (.bool true) (wo_yesT (wo_mv (.int .i64 40) (wo_yesT (wo_x (v := (.bool false)) (w_lit (fun K => rfl)) (wo_yesT ?_)))))
            refine wo_mv (.bool false) (wo_yesF (wo_mv (.int .i64 40) (wo_yesF (wo_x (v := (.bool true)) (w_lit (fun K => rfl)) (wo_yesT ?_)))))
            refine wo_x (v := (.bool true)) (w_pickF rfl rfl) (wo_x (v := (.bool true)) (w_pickT rfl rfl) (wo_mv (.bool true) (wo_nil (thn_n (wp_ret ?_)))))
            exact fin_1 (.bool true) ⟨rfl, trivial⟩
    · obtain ⟨_, H261, ⟨q257, q258, rfl, q259, q260, s262⟩, k263⟩ := cutNF_ok (N := N) (d := d + 13) TC TB TD c34 (by omega) s26 q10 f28 f29 f30 hm (same_agg (leaves_sub 0 4 lv11))
      refine wo_call k263 (wo_mv (.tup [(.agg q257), (.str []), (.agg q258), (.int .i64 1)]) (wo_x (v := (.agg q257)) (w_lit (fun K => rfl)) (wo_x (v := (.str [])) (w_lit (fun K => rfl)) (wo_x (v := (.agg q258)) (w_lit (fun K => rfl)) (wo_x (v := (.int .i64 1)) (w_lit (fun K => rfl)) ?_)))))
      obtain ⟨b264, H265, s266, k267⟩ := s_alloc s262 (RL.cat (RL.one (.bool false)) (RL.rep 3 .nils) rfl)
      refine wo_x (v := (.ptr b264 0)) (k267) ?_
      obtain ⟨b268, H269, s270, k271⟩ := s_alloc s266 (RL.cat (RL.one (.bool false)) (RL.rep 3 .nils) rfl)
      refine wo_x (v := (.ptr b268 0)) (k271) ?_
      have s272 := s270.pull 1
      obtain ⟨H273, s274, k275⟩ := s_stn s272 q259 0 4 rfl (Nat.le_of_ble_eq_true rfl)
      refine wo_n (k275 rfl rfl) (wo_mv (.str []) ?_)
      have s276 := s274.pull 1
      obtain ⟨H277, s278, k279⟩ := s_stn s276 q260 0 4 rfl (Nat.le_of_ble_eq_true rfl)
      refine wo_n (k279 rfl rfl) (wo_mv (.int .i64 1) (wo_nil (thn_n (wp_seq (wp_seq ?_)))))
      refine wp_reg (wo_mv (.int .i64 1) (wo_x (v := (.bool true)) (w_lit (fun K => rfl)) (wo_nil (thn_n (wp_condT ?_)))))
      refine wp_seq (wp_reg (wo_mv (.str []) (wo_x (v := (.bool true)) (w_bin (str_eqlT rfl)) (wo_mv (.bool true) (wo_nil ?_)))))
      refine thn_n (wp_ret (thn_r ?_))
      exact fin_1 (.bool true) ⟨rfl, trivial⟩
end
end Go.Jt
