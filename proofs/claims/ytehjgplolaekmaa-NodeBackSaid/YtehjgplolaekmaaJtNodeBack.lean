/-
  The law NodeBack. PRINTED by wip/tools/mknb.py.
-/
import Derived.Test.YtehjgplolaekmaaJtNo
set_option autoImplicit false
set_option linter.all false
set_option maxRecDepth 10000
set_option maxHeartbeats 8000000
namespace Go.Jt
noncomputable section
variable [Gl]
class NlN where
  law : Nat
  awake : Nat
def b_llaw [NlN] [NbN] [NeN] [NrN] [BkN] [NdN] : IR := (.seq (.reg [xo 3 (.box t0), xo 6 (.mv (.cst (.bool false)))]) (.seq (.seq (.reg [xo 15 (.ldn 4 t3), xo 16 (.call (.cst (.fn (.fn (.func NbN.long)) [] [])) [t15]), mv 17 t16, ⟨some 18, .mv t2, some (17, false)⟩, ⟨some 19, .len 0 t18, some (17, false)⟩, ⟨some 20, .bin .gtr 0 t19 (.cst (.int .i64 2000)), some (17, false)⟩, xo 21 (.pick t17 (.cst (.bool true)) t20), mv 22 t21, ⟨some 23, .call (.cst (.fn (.fn (.func NlN.awake)) [] [])) [], some (22, false)⟩, ⟨some 24, .not t23, some (22, false)⟩, xo 25 (.pick t22 (.cst (.bool true)) t24)]) (.cond t25 (.seq (.reg [xo 26 (.call (.cst (.fn (.fn (.func NlN.awake)) [] [])) []), mv 6 t26]) .ret) .skip)) (.seq (.reg [xo 28 (.ldn 4 t3), xo 29 (.call (.cst (.fn (.fn (.func NbN.given)) [] [])) [t28]), xo 30 (.call (.cst (.fn (.fn (.func NeN.encode)) [] [])) [t29]), mv 27 t30, xo 31 (.ext t27 0), xo 32 (.ext t27 1), mv 7 t31, mv 8 t32]) (.seq (.seq (.reg [mv 33 t8, xo 34 (.bin .eql 0 t33 (.cst (.int .i64 0))), xo 35 (.ldn 4 t3), xo 36 (.call (.cst (.fn (.fn (.func NbN.given)) [] [])) [t35]), xo 37 (.call (.cst (.fn (.fn (.func NdN.may)) [] [])) [t36]), xo 38 (.bin .neq 1 t34 t37)]) (.cond t38 (.seq (.reg [xo 6 (.mv (.cst (.bool false)))]) .ret) .skip)) (.seq (.seq (.reg [mv 39 t8, xo 40 (.bin .eql 0 t39 (.cst (.int .i64 0)))]) (.cond t40 (.seq (.reg [xo 42 (.fla 0 t3), xo 43 (.ld1 t42), mv 44 t7, xo 45 (.call (.cst (.fn (.fn (.func NrN.decode)) [] [])) [t43, t44]), mv 41 t45, xo 46 (.ext t41 0), xo 47 (.ext t41 1), xo 9 (.alloc (.cat 1 (.one (.bool false)) (.rep 3 .nils))), ⟨none, .st 4 t9 t46, none⟩, mv 10 t47]) (.seq (.dreg [.run (mv 48 t10), .run (xo 49 (.bin .neq 0 t48 (.cst (.int .i64 0)))), .run (mv 50 t49), .run ⟨some 51, .ldn 4 t9, some (50, false)⟩, .run ⟨some 53, .ldn 4 t3, some (50, false)⟩] [(⟨some 52, .call (.cst (.fn (.fn (.func NbN.back)) [] [])) [t51], some (50, false)⟩, [.again ⟨some 53, .ldn 4 t3, some (50, false)⟩]), (⟨some 54, .call (.cst (.fn (.fn (.func NbN.same)) [] [])) [t52, t53], some (50, false)⟩, [.run ⟨some 55, .not t54, some (50, false)⟩, .run (xo 56 (.pick t50 (.cst (.bool true)) t55)), .run (mv 57 t56), .run ⟨some 58, .mv t7, some (57, false)⟩, .run ⟨some 59, .len 0 t58, some (57, false)⟩, .run ⟨some 60, .ldn 4 t3, some (57, false)⟩]), (⟨some 61, .call (.cst (.fn (.fn (.func NbN.given)) [] [])) [t60], some (57, false)⟩, [.again ⟨some 59, .len 0 t58, some (57, false)⟩]), (⟨some 62, .call (.cst (.fn (.fn (.func NdN.size)) [] [])) [t61], some (57, false)⟩, [.again ⟨some 59, .len 0 t58, some (57, false)⟩, .run ⟨some 63, .bin .neq 0 t59 t62, some (57, false)⟩, .run (xo 64 (.pick t57 (.cst (.bool true)) t63))])]) (.cond t64 (.seq (.reg [xo 6 (.mv (.cst (.bool false)))]) .ret) .skip))) .skip)) (.seq (.reg [mv 66 t1, mv 67 t2, xo 68 (.call (.cst (.fn (.fn (.func NrN.decode)) [] [])) [t66, t67]), mv 65 t68, xo 69 (.ext t65 0), xo 70 (.ext t65 1), xo 11 (.alloc (.cat 1 (.one (.bool false)) (.rep 3 .nils))), ⟨none, .st 4 t11 t69, none⟩, mv 12 t70]) (.seq (.seq (.reg [mv 71 t12, xo 72 (.bin .neq 0 t71 (.cst (.int .i64 0)))]) (.cond t72 (.seq (.reg [xo 6 (.mv (.cst (.bool true)))]) .ret) .skip)) (.seq (.reg [xo 74 (.ldn 4 t11), xo 75 (.call (.cst (.fn (.fn (.func NeN.encode)) [] [])) [t74]), mv 73 t75, xo 76 (.ext t73 0), xo 77 (.ext t73 1), mv 13 t76, mv 14 t77]) (.seq (.reg [mv 78 t14, xo 79 (.bin .eql 0 t78 (.cst (.int .i64 0))), mv 80 t79, ⟨some 81, .mv t13, some (80, true)⟩, ⟨some 82, .mv t2, some (80, true)⟩, ⟨some 83, .bin .eql 0 t81 t82, some (80, true)⟩, xo 84 (.pick t80 t83 (.cst (.bool false))), mv 85 t84, ⟨some 86, .fla 0 t11, some (85, true)⟩, ⟨some 87, .ld1 t86, some (85, true)⟩, ⟨some 88, .mv t1, some (85, true)⟩, ⟨some 89, .bin .eql 1 t87 t88, some (85, true)⟩, xo 90 (.pick t85 t89 (.cst (.bool false))), mv 6 t90]) .ret)))))))))
def ir_llaw [NlN] [NbN] [NeN] [NrN] [BkN] [NdN] : FnIR := ⟨91, [.tmp 6], b_llaw⟩
structure NlT [NlN] [NbN] [NeN] [NrN] [BkN] [NdN] (tbl : Nat → Option FT) : Prop where
  law : tbl NlN.law = some (.code ir_llaw)
theorem law_nb [NlN] [NbN] [NeN] [NrN] [BkN] [NdN] {tbl : Nat → Option FT} (T : NlT tbl) (hA : tbl NlN.awake = some (.sum sumTrue)) (TH : NbT tbl) (TE : NeT tbl) (TR : NrT tbl) (TD : NdT tbl) (TB : BkT tbl) {ld : Bool} {sx : List Nat} (hbs : ∀ c ∈ sx, c ≤ 255) {lf : Bool} {ks vs : List (List Nat)} {ps : List PtrM} {vk vv vp : AV} {r : Rp AV} {N d : Nat} (hd : 14 ≤ d) {Z : Fz} {F : List Hl} {H : AH} (hs : Sat H Z (F)) (hr : RL r [.bool lf, vk, vv, vp]) (hk : Fl Z 1 vk (strs ks)) (hv : Fl Z 1 vv (strs vs)) (hp : Fl Z 3 vp (ptrs ps)) (hkl : ks.length ≤ 9223372036854775807) (hvl : vs.length ≤ 9223372036854775807) (hpl : ps.length ≤ 9223372036854775807) (hsame : same (.agg (Rp.sub r 0 4)) (.agg (Rp.sub r 0 4)) = true) (hN : 70000 ≤ N) (hps : ∀ p ∈ ps, p.s < 18446744073709551616) (hbk : BytesOk ks) (hbv : BytesOk vs) :
    Ct (RUN tbl N d) (.fn (.fn (.func NlN.law)) [] []) [(.agg r), (.bool ld), (.str sx)] H fun v H' => v = .bool true ∧ True := by
  obtain ⟨d, rfl⟩ : ∃ e, d = e + 14 := ⟨d - 14, by omega⟩
  refine ct_code T.law (b := b_llaw) (env := [(.agg r), (.bool ld), (.str sx), u_, u_, u_, u_, u_, u_, u_, u_, u_, u_, u_, u_, u_, u_, u_, u_, u_, u_, u_, u_, u_, u_, u_, u_, u_, u_, u_, u_, u_, u_, u_, u_, u_, u_, u_, u_, u_, u_, u_, u_, u_, u_, u_, u_, u_, u_, u_, u_, u_, u_, u_, u_, u_, u_, u_, u_, u_, u_, u_, u_, u_, u_, u_, u_, u_, u_, u_, u_, u_, u_, u_, u_, u_, u_, u_, u_, u_, u_, u_, u_, u_, u_, u_, u_, u_, u_, u_, u_]) ?_
  unfold b_llaw
  refine wp_seq (wp_reg ?_)
  obtain ⟨b1, H2, s3, k4⟩ := x_boxn hs r
  refine wo_x (v := (.ptr b1 0)) (k4 rfl) (wo_mv (.bool false) (wo_nil (thn_n (wp_seq (wp_seq ?_)))))
  refine wp_reg (wo_x (v := (.agg (Rp.sub r 0 4))) (x_ldn s3 0 hr) ?_)
  obtain ⟨_, H5, ⟨rfl, s6⟩, k7⟩ := long_ok (N := N) (d := d + 13) TH (by omega) s3 (hr.sub 0 4) hk hv hp hkl hvl hpl (by omega)
  refine wo_call k7 (wo_mv (.bool (dB (¬ NL ks vs ps))) ?_)
  by_cases c8 : (dB (¬ NL ks vs ps)) = true
  · refine wo_noT (ht := (congrArg AV.bool c8)) (wo_noT (ht := (congrArg AV.bool c8)) (wo_noT (ht := (congrArg AV.bool c8)) (wo_x (v := (.bool true)) (w_pickT (congrArg AV.bool c8) rfl) (wo_mv (.bool true) (wo_noT ?_)))))
    refine wo_noT (wo_x (v := (.bool true)) (w_pickT rfl rfl) (wo_nil (thn_n (wp_condT (wp_seq ?_)))))
    refine wp_reg ?_
    refine wo_call (sum_true (by omega) hA H5) (wo_mv (.bool true) (wo_nil (thn_n (wp_ret (thn_r ?_)))))
    exact fin_1 (.bool true) ⟨rfl, trivial⟩
  · have hNL : NL ks vs ps := Classical.byContradiction fun h => c8 (dB_true h)
    have hm := hNL.small hN hps
    have hl3 := hNL
    unfold NL at hl3
    refine wo_yesF (ht := (congrArg AV.bool (Bool.eq_false_iff.2 c8))) (wo_mv (.str sx) (wo_yesF (ht := (congrArg AV.bool (Bool.eq_false_iff.2 c8))) (wo_x (v := (.int .i64 (.ofNat sx.length))) (w_lens (s := sx) (n := sx.length) rfl rfl) ?_)))
    by_cases c9 : 2000 < sx.length
    · refine wo_yesF (ht := (congrArg AV.bool (Bool.eq_false_iff.2 c8))) (wo_x (v := (.bool true)) (w_bin (cmp_gtrT sx.length 2000 (by omega))) (wo_x (v := (.bool true)) (w_pickF (congrArg AV.bool (Bool.eq_false_iff.2 c8)) rfl) (wo_mv (.bool true) (wo_noT (wo_noT ?_)))))
      refine wo_x (v := (.bool true)) (w_pickT rfl rfl) (wo_nil (thn_n (wp_condT (wp_seq (wp_reg ?_)))))
      refine wo_call (sum_true (by omega) hA H5) (wo_mv (.bool true) (wo_nil (thn_n (wp_ret (thn_r ?_)))))
      exact fin_1 (.bool true) ⟨rfl, trivial⟩
    · refine wo_yesF (ht := (congrArg AV.bool (Bool.eq_false_iff.2 c8))) (wo_x (v := (.bool false)) (w_bin (cmp_gtrF sx.length 2000 (by omega))) (wo_x (v := (.bool false)) (w_pickF (congrArg AV.bool (Bool.eq_false_iff.2 c8)) rfl) (wo_mv (.bool false) (wo_yesF ?_))))
      refine wo_call (sum_true (by omega) hA H5) (wo_yesF (wo_x (v := (.bool false)) (w_lit (fun K => rfl)) (wo_x (v := (.bool false)) (w_pickF rfl rfl) (wo_nil (thn_n ?_)))))
      refine wp_condF (wp_skip (thn_n (wp_seq (wp_reg (wo_x (v := (.agg (Rp.sub r 0 4))) (x_ldn s6 0 hr) ?_)))))
      obtain ⟨_, H13, ⟨q10, wk15, wv16, wp17, lk18, lv19, lp20, rfl, q11, ok21, ov22, op23, s12⟩, k14⟩ := given_ok (N := N) (d := d + 13) TH (by omega) s6 (hr.sub 0 4) hk hv hp (by omega) (by omega) (by omega)
      refine wo_call k14 ?_
      by_cases c25 : FormN lf ks vs ps ∧ sizeN ks vs ps ≤ 500
      · have g26 := encB_len c25.1
        obtain ⟨_, H27, ⟨rfl, s28⟩, k29⟩ := encY_own (N := N) (d := d + 13) TE TB TD c25 hbk hbv (by omega) s12 q11 ⟨ok21, ov22, op23⟩ hm
        have s30 : Sat H27 Z ((.obj b1 (.cells r false false)) :: F) := Sat.dropP (Sat.dropP (Sat.dropP s28))
        refine wo_call k29 (wo_mv (.tup [(.str (encB lf ks vs ps)), (.int .i64 0)]) (wo_x (v := (.str (encB lf ks vs ps))) (w_lit (fun K => rfl)) (wo_x (v := (.int .i64 0)) (w_lit (fun K => rfl)) (wo_mv (.str (encB lf ks vs ps)) (wo_mv (.int .i64 0) ?_)))))
        refine wo_nil (thn_n (wp_seq (wp_seq (wp_reg (wo_mv (.int .i64 0) ?_)))))
        refine wo_x (v := (.bool true)) (w_lit (fun K => rfl)) (wo_x (v := (.agg (Rp.sub r 0 4))) (x_ldn s30 0 hr) ?_)
        obtain ⟨_, H34, ⟨q31, wk36, wv37, wp38, lk39, lv40, lp41, rfl, q32, ok42, ov43, op44, s33⟩, k35⟩ := given_ok (N := N) (d := d + 13) TH (by omega) s30 (hr.sub 0 4) hk hv hp (by omega) (by omega) (by omega)
        refine wo_call k35 ?_
        obtain ⟨v46, H48, ⟨e47, s49⟩, k50⟩ := may_own (N := N) (d := d + 13) TD TB (by omega) s33 q32 ⟨ok42, ov43, op44⟩ hm
        rw [dB_true c25] at e47
        subst e47
        have s51 : Sat H48 Z ((.obj b1 (.cells r false false)) :: F) := Sat.dropP (Sat.dropP (Sat.dropP s49))
        refine wo_call k50 (wo_x (v := (.bool false)) (w_lit (fun K => rfl)) (wo_nil (thn_n (wp_condF (wp_skip ?_)))))
        refine thn_n (wp_seq (wp_seq (wp_reg (wo_mv (.int .i64 0) (wo_x (v := (.bool true)) (w_lit (fun K => rfl)) ?_)))))
        refine wo_nil (thn_n (wp_condT (wp_seq (wp_reg (wo_x (v := (.ptr b1 0)) (ca_fla rfl rfl) ?_)))))
        refine wo_x (v := (.bool lf)) (x_ld1 s51 0 hr rfl) (wo_mv (.str (encB lf ks vs ps)) ?_)
        have g52 := dec_enc c25.1 c25.2 hps
        have d53 : DecOk lf (encB lf ks vs ps) := by unfold DecOk; rw [g52.2]; exact ⟨g52.1, rfl, rfl, c25.1, c25.2⟩
        have b54 := encB_bytes (lf := lf) (ps := ps) hbk hbv
        obtain ⟨_, H58, ⟨q55, wk60, wv61, wp62, lk63, lv64, lp65, rfl, q56, oo69, s57⟩, k59⟩ := decY_enc (N := N) (d := d + 13) TR TB TD b54 d53 g52.2 (by omega) s51 hN
        have s70 : Sat H58 Z ((.obj b1 (.cells r false false)) :: (lp65 ++ (lv64 ++ (lk63 ++ F)))) := by have h := Sat.rot (l₁ := lp65 ++ (lv64 ++ (lk63))) (hl := [.obj b1 (.cells r false false)]) (by simp only [List.append_assoc]; exact s57); simp only [List.append_assoc] at h; exact h
        refine wo_call k59 (wo_mv (.tup [(.agg q55), (.int .i64 0)]) (wo_x (v := (.agg q55)) (w_lit (fun K => rfl)) (wo_x (v := (.int .i64 0)) (w_lit (fun K => rfl)) ?_)))
        obtain ⟨b71, H72, s73, k74⟩ := s_alloc s70 (RL.cat (RL.one (.bool false)) (RL.rep 3 .nils) rfl)
        refine wo_x (v := (.ptr b71 0)) (k74) ?_
        obtain ⟨H75, s76, k77⟩ := s_stn s73 q56 0 4 rfl (Nat.le_of_ble_eq_true rfl)
        refine wo_n (k77 rfl rfl) (wo_mv (.int .i64 0) (wo_nil (thn_n (wp_seq (wp_dreg ?_)))))
        refine wd_run (wo_mv (.int .i64 0) (wo_nil (wd_run (wo_x (v := (.bool false)) (w_lit (fun K => rfl)) (wo_nil ?_)))))
        refine wd_run (wo_mv (.bool false) (wo_nil (wd_run (wo_yesF ?_))))
        obtain ⟨r78, q79, k80⟩ := s_ldn s76 0 0 4 
        refine wo_x (v := (.agg r78)) (k80 rfl) (wo_nil (wd_run (wo_yesF (wo_x (v := (.agg (Rp.sub r 0 4))) (x_ldn s76 1 hr) (wo_nil ?_)))))
        refine wd_nil (ws_cons (wo_yesF ?_))
        have s81 : Sat H75 Z ((lp65 ++ (lv64 ++ (lk63 ++ (.cells b71 [(.bool lf), wk60, wv61, wp62]) :: (.obj b1 (.cells r false false)) :: F)))) := by have h := Sat.rot (l₁ := [.cells b71 [(.bool lf), wk60, wv61, wp62], .obj b1 (.cells r false false)]) (hl := lp65 ++ (lv64 ++ (lk63))) (by simp only [List.append_assoc]; exact s76); simp only [List.append_assoc] at h; exact h
        have s82 := Sat.rot3 s81
        obtain ⟨_, H86, ⟨q83, wk88, wv89, wp90, lk91, lv92, lp93, rfl, q84, ok94, ov95, op96, s85⟩, k87⟩ := back_ok (N := N) (d := d + 13) TH (by omega) s82 q79 oo69.k oo69.v oo69.p (by omega) (by omega) (by omega) (by omega) (by omega) (by omega)
        have s98 : Sat H86 Z ((.cells b71 [(.bool lf), wk60, wv61, wp62]) :: (.obj b1 (.cells r false false)) :: (lp93 ++ (lv92 ++ (lk91 ++ F)))) := by have h := Sat.rot (l₁ := lp93 ++ (lv92 ++ (lk91))) (hl := [.cells b71 [(.bool lf), wk60, wv61, wp62], .obj b1 (.cells r false false)]) (by simp only [List.append_assoc]; exact s85); simp only [List.append_assoc] at h; exact h
        refine wo_call k87 (wo_nil (wd_againY (v := (.agg (Rp.sub r 0 4))) (hs := hsame) (x_ldn s98 1 hr) (wd_nil (ws_cons (wo_yesF ?_)))))
        have s99 : Sat H86 Z ((lp93 ++ (lv92 ++ (lk91 ++ (.cells b71 [(.bool lf), wk60, wv61, wp62]) :: (.obj b1 (.cells r false false)) :: F)))) := by have h := Sat.rot (l₁ := [.cells b71 [(.bool lf), wk60, wv61, wp62], .obj b1 (.cells r false false)]) (hl := lp93 ++ (lv92 ++ (lk91))) (by simp only [List.append_assoc]; exact s98); simp only [List.append_assoc] at h; exact h
        obtain ⟨Z100, l101, s102, f104, f105, f106, g103⟩ := own_lend3 (lf := lf) s99 ⟨ok94, ov95, op96⟩
        obtain ⟨_, H107, ⟨rfl, s108⟩, k109⟩ := same_ok TH (N := N) (d := d + 13) (by omega) s102 q84 f104 f105 f106 (by omega) (by omega) (by omega) (hr.sub 0 4) (hk.mono l101) (hv.mono l101) (hp.mono l101) (by omega) (by omega) (by omega)
        have s110 := g103 _ s108
        have s111 : Sat H107 Z ((.cells b71 [(.bool lf), wk60, wv61, wp62]) :: (.obj b1 (.cells r false false)) :: F) := Sat.dropP (Sat.dropP (Sat.dropP s110))
        refine wo_call k109 (wo_nil (wd_run (wo_yesF (wo_x (v := (.bool false)) (w_lit (fun K => rfl)) (wo_nil ?_)))))
        refine wd_run (wo_x (v := (.bool false)) (w_pickF rfl rfl) (wo_nil (wd_run (wo_mv (.bool false) (wo_nil ?_)))))
        refine wd_run (wo_yesF (wo_mv (.str (encB lf ks vs ps)) (wo_nil (wd_run (wo_yesF ?_)))))
        refine wo_x (v := (.int .i64 (.ofNat ((encB lf ks vs ps).length)))) (w_lens (s := (encB lf ks vs ps)) (n := ((encB lf ks vs ps).length)) rfl rfl) (wo_nil (wd_run (wo_yesF (wo_x (v := (.agg (Rp.sub r 0 4))) (x_ldn s111 1 hr) (wo_nil ?_)))))
        refine wd_nil (ws_cons (wo_yesF ?_))
        obtain ⟨_, H115, ⟨q112, wk117, wv118, wp119, lk120, lv121, lp122, rfl, q113, ok123, ov124, op125, s114⟩, k116⟩ := given_ok (N := N) (d := d + 13) TH (by omega) s111 (hr.sub 0 4) hk hv hp (by omega) (by omega) (by omega)
        refine wo_call k116 (wo_nil (wd_againY (v := (.int .i64 (.ofNat ((encB lf ks vs ps).length)))) (hs := same_int) (w_lens (s := (encB lf ks vs ps)) (n := ((encB lf ks vs ps).length)) rfl rfl) (wd_nil (ws_cons (wo_yesF ?_)))))
        obtain ⟨_, H127, ⟨rfl, s128⟩, k129⟩ := size_own (N := N) (d := d + 13) TD (by omega) s114 q113 ⟨ok123, ov124, op125⟩ hm
        have s130 : Sat H127 Z ((.cells b71 [(.bool lf), wk60, wv61, wp62]) :: (.obj b1 (.cells r false false)) :: F) := Sat.dropP (Sat.dropP (Sat.dropP s128))
        refine wo_call k129 (wo_nil (wd_againY (v := (.int .i64 (.ofNat ((encB lf ks vs ps).length)))) (hs := same_int) (w_lens (s := (encB lf ks vs ps)) (n := ((encB lf ks vs ps).length)) rfl rfl) (wd_run (wo_yesF (wo_x (v := (.bool false)) (w_bin (cmp_neqT ((encB lf ks vs ps).length) (sizeN ks vs ps) (by omega))) ?_)))))
        refine wo_nil (wd_run (wo_x (v := (.bool false)) (w_pickF rfl rfl) (wo_nil (wd_nil (ws_nil ?_)))))
        refine thn_n (wp_condF (wp_skip (thn_n (wp_seq (wp_reg ?_)))))
        refine wo_mv (.bool ld) (wo_mv (.str sx) ?_)
        by_cases c131 : DecOk ld sx
        · obtain ⟨_, H135, ⟨q132, wk137, wv138, wp139, lk140, lv141, lp142, rfl, q133, oo146, s134⟩, k136⟩ := decY (N := N) (d := d + 13) TR TB TD hbs c131 (by omega) s130 hN
          have s147 : Sat H135 Z ((.cells b71 [(.bool lf), wk60, wv61, wp62]) :: (.obj b1 (.cells r false false)) :: (lp142 ++ (lv141 ++ (lk140 ++ F)))) := by have h := Sat.rot (l₁ := lp142 ++ (lv141 ++ (lk140))) (hl := [.cells b71 [(.bool lf), wk60, wv61, wp62], .obj b1 (.cells r false false)]) (by simp only [List.append_assoc]; exact s134); simp only [List.append_assoc] at h; exact h
          refine wo_call k136 (wo_mv (.tup [(.agg q132), (.int .i64 0)]) (wo_x (v := (.agg q132)) (w_lit (fun K => rfl)) (wo_x (v := (.int .i64 0)) (w_lit (fun K => rfl)) ?_)))
          obtain ⟨b148, H149, s150, k151⟩ := s_alloc s147 (RL.cat (RL.one (.bool false)) (RL.rep 3 .nils) rfl)
          refine wo_x (v := (.ptr b148 0)) (k151) ?_
          obtain ⟨H152, s153, k154⟩ := s_stn s150 q133 0 4 rfl (Nat.le_of_ble_eq_true rfl)
          refine wo_n (k154 rfl rfl) (wo_mv (.int .i64 0) (wo_nil (thn_n (wp_seq (wp_seq ?_)))))
          refine wp_reg (wo_mv (.int .i64 0) (wo_x (v := (.bool false)) (w_lit (fun K => rfl)) (wo_nil (thn_n (wp_condF ?_)))))
          refine wp_skip (thn_n (wp_seq (wp_reg ?_)))
          obtain ⟨r155, q156, k157⟩ := s_ldn s153 0 0 4 
          refine wo_x (v := (.agg r155)) (k157 rfl) ?_
          have s158 : Sat H152 Z ((lp142 ++ (lv141 ++ (lk140 ++ (.cells b148 [(.bool ld), wk137, wv138, wp139]) :: (.cells b71 [(.bool lf), wk60, wv61, wp62]) :: (.obj b1 (.cells r false false)) :: F)))) := by have h := Sat.rot (l₁ := [.cells b148 [(.bool ld), wk137, wv138, wp139], .cells b71 [(.bool lf), wk60, wv61, wp62], .obj b1 (.cells r false false)]) (hl := lp142 ++ (lv141 ++ (lk140))) (by simp only [List.append_assoc]; exact s153); simp only [List.append_assoc] at h; exact h
          obtain ⟨_, H159, ⟨rfl, s160⟩, k161⟩ := encY_own (N := N) (d := d + 13) TE TB TD (show FormN ld (dall ld sx).ks (dall ld sx).vs (dall ld sx).ps ∧ sizeN (dall ld sx).ks (dall ld sx).vs (dall ld sx).ps ≤ 500 from c131.2.2.2) (decK hbs) (decV hbs) (by omega) s158 q156 ⟨oo146.k, oo146.v, oo146.p⟩ (DecOk.small hbs hN (decQ hbs))
          have s162 : Sat H159 Z ((.cells b148 [(.bool ld), wk137, wv138, wp139]) :: (.cells b71 [(.bool lf), wk60, wv61, wp62]) :: (.obj b1 (.cells r false false)) :: F) := Sat.dropP (Sat.dropP (Sat.dropP s160))
          refine wo_call k161 (wo_mv (.tup [(.str (encB ld (dall ld sx).ks (dall ld sx).vs (dall ld sx).ps)), (.int .i64 0)]) (wo_x (v := (.str (encB ld (dall ld sx).ks (dall ld sx).vs (dall ld sx).ps))) (w_lit (fun K => rfl)) (wo_x (v := (.int .i64 0)) (w_lit (fun K => rfl)) (wo_mv (.str (encB ld (dall ld sx).ks (dall ld sx).vs (dall ld sx).ps)) (wo_mv (.int .i64 0) ?_)))))
          refine wo_nil (thn_n (wp_seq (wp_reg (wo_mv (.int .i64 0) (wo_x (v := (.bool true)) (w_lit (fun K => rfl)) ?_)))))
          refine wo_mv (.bool true) (wo_yesT (wo_mv (.str (encB ld (dall ld sx).ks (dall ld sx).vs (dall ld sx).ps)) (wo_yesT (wo_mv (.str sx) (wo_yesT ?_)))))
          refine wo_x (v := (.bool true)) (w_bin (str_eqlT (enc_dec hbs c131))) (wo_x (v := (.bool true)) (w_pickT rfl rfl) (wo_mv (.bool true) (wo_yesT (wo_x (v := (.ptr b148 0)) (ca_fla rfl rfl) (wo_yesT ?_)))))
          refine wo_x (v := (.bool ld)) (s_ld1 s162 0 rfl) (wo_yesT (wo_mv (.bool ld) (wo_yesT (wo_x (v := (.bool true)) (w_bin (boolE ld)) (wo_x (v := (.bool true)) (w_pickT rfl rfl) ?_)))))
          refine wo_mv (.bool true) (wo_nil (thn_n (wp_ret ?_)))
          exact fin_1 (.bool true) ⟨rfl, trivial⟩
        · obtain ⟨_, H165, ⟨q163, rfl, q164, s166⟩, k167⟩ := decN (N := N) (d := d + 13) TR TB TD hbs c131 (by omega) s130 hN
          refine wo_call k167 (wo_mv (.tup [(.agg q163), (.int .i64 4)]) (wo_x (v := (.agg q163)) (w_lit (fun K => rfl)) (wo_x (v := (.int .i64 4)) (w_lit (fun K => rfl)) ?_)))
          obtain ⟨b168, H169, s170, k171⟩ := s_alloc s166 (RL.cat (RL.one (.bool false)) (RL.rep 3 .nils) rfl)
          refine wo_x (v := (.ptr b168 0)) (k171) ?_
          obtain ⟨H172, s173, k174⟩ := s_stn s170 q164 0 4 rfl (Nat.le_of_ble_eq_true rfl)
          refine wo_n (k174 rfl rfl) (wo_mv (.int .i64 4) (wo_nil (thn_n (wp_seq (wp_seq ?_)))))
          refine wp_reg (wo_mv (.int .i64 4) (wo_x (v := (.bool true)) (w_lit (fun K => rfl)) (wo_nil (thn_n (wp_condT ?_)))))
          refine wp_seq (wp_reg (wo_mv (.bool true) (wo_nil (thn_n (wp_ret ?_)))))
          refine thn_r ?_
          exact fin_1 (.bool true) ⟨rfl, trivial⟩
      · obtain ⟨_, H177, ⟨e175, rfl, h176, s178⟩, k179⟩ := encN_own (N := N) (d := d + 13) TE TB TD c25 (by omega) s12 q11 ⟨ok21, ov22, op23⟩ hm
        have s180 : Sat H177 Z ((.obj b1 (.cells r false false)) :: F) := Sat.dropP (Sat.dropP (Sat.dropP s178))
        refine wo_call k179 (wo_mv (.tup [(.str []), (.int .i64 (.ofNat e175))]) (wo_x (v := (.str [])) (w_lit (fun K => rfl)) (wo_x (v := (.int .i64 (.ofNat e175))) (w_lit (fun K => rfl)) (wo_mv (.str []) (wo_mv (.int .i64 (.ofNat e175)) ?_)))))
        refine wo_nil (thn_n (wp_seq (wp_seq (wp_reg (wo_mv (.int .i64 (.ofNat e175)) ?_)))))
        refine wo_x (v := (.bool false)) (w_bin (cmp_eqlF e175 0 (by omega))) (wo_x (v := (.agg (Rp.sub r 0 4))) (x_ldn s180 0 hr) ?_)
        obtain ⟨_, H184, ⟨q181, wk186, wv187, wp188, lk189, lv190, lp191, rfl, q182, ok192, ov193, op194, s183⟩, k185⟩ := given_ok (N := N) (d := d + 13) TH (by omega) s180 (hr.sub 0 4) hk hv hp (by omega) (by omega) (by omega)
        refine wo_call k185 ?_
        obtain ⟨v196, H198, ⟨e197, s199⟩, k200⟩ := may_own (N := N) (d := d + 13) TD TB (by omega) s183 q182 ⟨ok192, ov193, op194⟩ hm
        rw [dB_false c25] at e197
        subst e197
        have s201 : Sat H198 Z ((.obj b1 (.cells r false false)) :: F) := Sat.dropP (Sat.dropP (Sat.dropP s199))
        refine wo_call k200 (wo_x (v := (.bool false)) (w_lit (fun K => rfl)) (wo_nil (thn_n (wp_condF (wp_skip ?_)))))
        refine thn_n (wp_seq (wp_seq (wp_reg (wo_mv (.int .i64 (.ofNat e175)) (wo_x (v := (.bool false)) (w_bin (cmp_eqlF e175 0 (by omega))) ?_)))))
        refine wo_nil (thn_n (wp_condF (wp_skip (thn_n (wp_seq ?_)))))
        refine wp_reg (wo_mv (.bool ld) (wo_mv (.str sx) ?_))
        by_cases c202 : DecOk ld sx
        · obtain ⟨_, H206, ⟨q203, wk208, wv209, wp210, lk211, lv212, lp213, rfl, q204, oo217, s205⟩, k207⟩ := decY (N := N) (d := d + 13) TR TB TD hbs c202 (by omega) s201 hN
          have s218 : Sat H206 Z ((.obj b1 (.cells r false false)) :: (lp213 ++ (lv212 ++ (lk211 ++ F)))) := by have h := Sat.rot (l₁ := lp213 ++ (lv212 ++ (lk211))) (hl := [.obj b1 (.cells r false false)]) (by simp only [List.append_assoc]; exact s205); simp only [List.append_assoc] at h; exact h
          refine wo_call k207 (wo_mv (.tup [(.agg q203), (.int .i64 0)]) (wo_x (v := (.agg q203)) (w_lit (fun K => rfl)) (wo_x (v := (.int .i64 0)) (w_lit (fun K => rfl)) ?_)))
          obtain ⟨b219, H220, s221, k222⟩ := s_alloc s218 (RL.cat (RL.one (.bool false)) (RL.rep 3 .nils) rfl)
          refine wo_x (v := (.ptr b219 0)) (k222) ?_
          obtain ⟨H223, s224, k225⟩ := s_stn s221 q204 0 4 rfl (Nat.le_of_ble_eq_true rfl)
          refine wo_n (k225 rfl rfl) (wo_mv (.int .i64 0) (wo_nil (thn_n (wp_seq (wp_seq ?_)))))
          refine wp_reg (wo_mv (.int .i64 0) (wo_x (v := (.bool false)) (w_lit (fun K => rfl)) (wo_nil (thn_n (wp_condF ?_)))))
          refine wp_skip (thn_n (wp_seq (wp_reg ?_)))
          obtain ⟨r226, q227, k228⟩ := s_ldn s224 0 0 4 
          refine wo_x (v := (.agg r226)) (k228 rfl) ?_
          have s229 : Sat H223 Z ((lp213 ++ (lv212 ++ (lk211 ++ (.cells b219 [(.bool ld), wk208, wv209, wp210]) :: (.obj b1 (.cells r false false)) :: F)))) := by have h := Sat.rot (l₁ := [.cells b219 [(.bool ld), wk208, wv209, wp210], .obj b1 (.cells r false false)]) (hl := lp213 ++ (lv212 ++ (lk211))) (by simp only [List.append_assoc]; exact s224); simp only [List.append_assoc] at h; exact h
          obtain ⟨_, H230, ⟨rfl, s231⟩, k232⟩ := encY_own (N := N) (d := d + 13) TE TB TD (show FormN ld (dall ld sx).ks (dall ld sx).vs (dall ld sx).ps ∧ sizeN (dall ld sx).ks (dall ld sx).vs (dall ld sx).ps ≤ 500 from c202.2.2.2) (decK hbs) (decV hbs) (by omega) s229 q227 ⟨oo217.k, oo217.v, oo217.p⟩ (DecOk.small hbs hN (decQ hbs))
          have s233 : Sat H230 Z ((.cells b219 [(.bool ld), wk208, wv209, wp210]) :: (.obj b1 (.cells r false false)) :: F) := Sat.dropP (Sat.dropP (Sat.dropP s231))
          refine wo_call k232 (wo_mv (.tup [(.str (encB ld (dall ld sx).ks (dall ld sx).vs (dall ld sx).ps)), (.int .i64 0)]) (wo_x (v := (.str (encB ld (dall ld sx).ks (dall ld sx).vs (dall ld sx).ps))) (w_lit (fun K => rfl)) (wo_x (v := (.int .i64 0)) (w_lit (fun K => rfl)) (wo_mv (.str (encB ld (dall ld sx).ks (dall ld sx).vs (dall ld sx).ps)) (wo_mv (.int .i64 0) ?_)))))
          refine wo_nil (thn_n (wp_seq (wp_reg (wo_mv (.int .i64 0) (wo_x (v := (.bool true)) (w_lit (fun K => rfl)) ?_)))))
          refine wo_mv (.bool true) (wo_yesT (wo_mv (.str (encB ld (dall ld sx).ks (dall ld sx).vs (dall ld sx).ps)) (wo_yesT (wo_mv (.str sx) (wo_yesT ?_)))))
          refine wo_x (v := (.bool true)) (w_bin (str_eqlT (enc_dec hbs c202))) (wo_x (v := (.bool true)) (w_pickT rfl rfl) (wo_mv (.bool true) (wo_yesT (wo_x (v := (.ptr b219 0)) (ca_fla rfl rfl) (wo_yesT ?_)))))
          refine wo_x (v := (.bool ld)) (s_ld1 s233 0 rfl) (wo_yesT (wo_mv (.bool ld) (wo_yesT (wo_x (v := (.bool true)) (w_bin (boolE ld)) (wo_x (v := (.bool true)) (w_pickT rfl rfl) ?_)))))
          refine wo_mv (.bool true) (wo_nil (thn_n (wp_ret ?_)))
          exact fin_1 (.bool true) ⟨rfl, trivial⟩
        · obtain ⟨_, H236, ⟨q234, rfl, q235, s237⟩, k238⟩ := decN (N := N) (d := d + 13) TR TB TD hbs c202 (by omega) s201 hN
          refine wo_call k238 (wo_mv (.tup [(.agg q234), (.int .i64 4)]) (wo_x (v := (.agg q234)) (w_lit (fun K => rfl)) (wo_x (v := (.int .i64 4)) (w_lit (fun K => rfl)) ?_)))
          obtain ⟨b239, H240, s241, k242⟩ := s_alloc s237 (RL.cat (RL.one (.bool false)) (RL.rep 3 .nils) rfl)
          refine wo_x (v := (.ptr b239 0)) (k242) ?_
          obtain ⟨H243, s244, k245⟩ := s_stn s241 q235 0 4 rfl (Nat.le_of_ble_eq_true rfl)
          refine wo_n (k245 rfl rfl) (wo_mv (.int .i64 4) (wo_nil (thn_n (wp_seq (wp_seq ?_)))))
          refine wp_reg (wo_mv (.int .i64 4) (wo_x (v := (.bool true)) (w_lit (fun K => rfl)) (wo_nil (thn_n (wp_condT ?_)))))
          refine wp_seq (wp_reg (wo_mv (.bool true) (wo_nil (thn_n (wp_ret ?_)))))
          refine thn_r ?_
          exact fin_1 (.bool true) ⟨rfl, trivial⟩
end
end Go.Jt
