/-
  node.Cut. PRINTED by wip/tools/mkhc.py.
-/
import Derived.Test.YtehjgplolaekmaaJtHw
import Derived.Test.YtehjgplolaekmaaJtHp
import Derived.Test.YtehjgplolaekmaaJtNe
set_option autoImplicit false
set_option linter.all false
set_option maxRecDepth 10000
set_option maxHeartbeats 8000000
namespace Go.Jt
noncomputable section
variable [Gl]
theorem cutNF_ok [HvN] [NdN] [BkN] {tbl : Nat → Option FT} (T : HvT tbl) (TB : BkT tbl) (TD : NdT tbl) {lf : Bool} {ks vs : List (List Nat)} {ps : List PtrM} {vk vv vp : AV} {r : Rp AV} (hF : ¬ FormN lf ks vs ps) {N d : Nat} (hd : 10 ≤ d) {Z : Fz} {F : List Hl} {H : AH} (hs : Sat H Z (F)) (hr : RL r [.bool lf, vk, vv, vp]) (hk : Fl Z 1 vk (strs ks)) (hv : Fl Z 1 vv (strs vs)) (hp : Fl Z 3 vp (ptrs ps)) (hm : SmallN N ks vs ps) (hsame : same (.agg (Rp.sub r 0 4)) (.agg (Rp.sub r 0 4)) = true) :
    Ct (RUN tbl N d) (.fn (.fn (.func HvN.cut)) [] []) [(.agg r)] H fun v H' => ∃ q1 q2, v = .tup [.agg q1, .str [], .agg q2, .int .i64 1] ∧ RL q1 [.bool false, .nils, .nils, .nils] ∧ RL q2 [.bool false, .nils, .nils, .nils] ∧ Sat H' Z F := by
  obtain ⟨d, rfl⟩ : ∃ e, d = e + 10 := ⟨d - 10, by omega⟩
  have hkl := hm.k
  have hvl := hm.v
  have hpl := hm.p
  have hNk := hm.k'
  refine ct_code T.cut (b := b_vcut) (env := [(.agg r), u_, u_, u_, u_, u_, u_, u_, u_, u_, u_, u_, u_, u_, u_, u_, u_, u_, u_, u_, u_, u_, u_, u_, u_, u_, u_, u_, u_, u_, u_, u_, u_, u_, u_, u_, u_, u_, u_, u_, u_, u_, u_, u_, u_, u_, u_, u_, u_, u_, u_, u_, u_, u_, u_, u_, u_, u_, u_, u_, u_, u_, u_, u_, u_, u_, u_]) ?_
  unfold b_vcut
  refine wp_seq (wp_reg ?_)
  obtain ⟨b1, H2, s3, k4⟩ := x_boxn hs r
  refine wo_x (v := (.ptr b1 0)) (k4 rfl) ?_
  obtain ⟨b5, H6, s7, k8⟩ := s_alloc s3 (RL.cat (RL.one (.bool false)) (RL.rep 3 .nils) rfl)
  refine wo_x (v := (.ptr b5 0)) (k8) (wo_mv (.str []) ?_)
  obtain ⟨b9, H10, s11, k12⟩ := s_alloc s7 (RL.cat (RL.one (.bool false)) (RL.rep 3 .nils) rfl)
  refine wo_x (v := (.ptr b9 0)) (k12) (wo_mv (.int .i64 0) (wo_nil (thn_n (wp_seq (wp_reg ?_)))))
  refine wo_x (v := (.ptr b1 1)) (ca_fla rfl rfl) (wo_x (v := vk) (x_ld1 s11 2 hr rfl) (wo_x (v := (.int .i64 (.ofNat ks.length))) (fl_len hk (strs_len ks) rfl) (wo_mv (.int .i64 (.ofNat ks.length)) (wo_nil (thn_n ?_)))))
  refine wp_seq (wp_reg (wo_mv (.int .i64 (.ofNat ks.length)) (wo_x (v := (.int .i64 (((ks.length : Nat) : Int) - 1))) (w_bin (sub_z ((ks.length : Nat) : Int) 1 (by omega))) (wo_mv (.int .i64 (((ks.length : Nat) : Int) - 1)) (wo_nil ?_)))))
  refine thn_n (wp_seq (wp_seq (wp_reg (wo_x (v := (.ptr b1 0)) (ca_fla rfl rfl) (wo_x (v := (.bool lf)) (x_ld1 s11 2 hr rfl) ?_)))))
  by_cases c13 : lf = true
  · refine wo_x (v := (.bool false)) (w_notT (congrArg AV.bool c13)) (wo_nil (thn_n (wp_condF (wp_skip (thn_n ?_)))))
    refine wp_seq (wp_seq (wp_reg (wo_x (v := (.agg (Rp.sub r 0 4))) (x_ldn s11 2 hr) ?_)))
    obtain ⟨_, H14, ⟨rfl, s15⟩, k16⟩ := form_ok (N := N) (d := d + 9) TD (ks := ks) (vs := vs) (ps := ps) TB (by omega) s11 (hr.sub 0 4) hk hv hp hm.k hm.v hm.p hm.k' hm.v' hm.p' hm.q
    refine wo_call k16 (wo_x (v := (.bool true)) (w_notF (congrArg AV.bool (Bool.eq_false_iff.2 (fun h => hF (dB_iff.1 h))))) (wo_mv (.bool true) (wo_noT (wo_noT (wo_x (v := (.bool true)) (w_pickT rfl rfl) ?_)))))
    refine wo_nil (thn_n (wp_condT (wp_seq (wp_reg (wo_x (v := (.agg (.cat 1 (.one (.bool false)) (.rep 3 .nils)))) (w_build (r := (.cat 1 (.one (.bool false)) (.rep 3 .nils))) fill_nil) ?_)))))
    refine wo_x (v := (.agg (.cat 1 (.one (.bool false)) (.rep 3 .nils)))) (w_build (r := (.cat 1 (.one (.bool false)) (.rep 3 .nils))) fill_nil) ?_
    have s17 := s15.pull 1
    obtain ⟨H18, s19, k20⟩ := s_stn s17 (RL.cat (RL.one (.bool false)) (RL.rep 3 .nils) rfl) 0 4 rfl (Nat.le_of_ble_eq_true rfl)
    refine wo_n (k20 rfl rfl) (wo_mv (.str []) ?_)
    have s21 := s19.pull 1
    obtain ⟨H22, s23, k24⟩ := s_stn s21 (RL.cat (RL.one (.bool false)) (RL.rep 3 .nils) rfl) 0 4 rfl (Nat.le_of_ble_eq_true rfl)
    refine wo_n (k24 rfl rfl) (wo_mv (.int .i64 1) (wo_nil (thn_n (wp_ret (thn_r ?_)))))
    refine fin_cc (w := (.str [])) (w' := (.int .i64 1)) (o := 0) (o' := 0) s23 1 0 fun r27 r28 q25 q26 => ?_
    have s29 := s23.drop 0
    have s30 := s29.drop 0
    have s31 := s30.drop 0
    exact ⟨_, _, rfl, q25, q26, s31⟩
  · refine wo_x (v := (.bool true)) (w_notF (congrArg AV.bool (Bool.eq_false_iff.2 c13))) (wo_nil (thn_n (wp_condT (wp_reg (wo_mv (.int .i64 (((ks.length : Nat) : Int) - 1)) ?_)))))
    refine wo_x (v := (.int .i64 ((((ks.length : Nat) : Int) - 1) - 1))) (w_bin (sub_z (((ks.length : Nat) : Int) - 1) 1 (by omega))) (wo_mv (.int .i64 ((((ks.length : Nat) : Int) - 1) - 1)) (wo_nil (thn_n (wp_seq (wp_seq ?_)))))
    refine wp_reg (wo_x (v := (.agg (Rp.sub r 0 4))) (x_ldn s11 2 hr) ?_)
    obtain ⟨_, H32, ⟨rfl, s33⟩, k34⟩ := form_ok (N := N) (d := d + 9) TD (ks := ks) (vs := vs) (ps := ps) TB (by omega) s11 (hr.sub 0 4) hk hv hp hm.k hm.v hm.p hm.k' hm.v' hm.p' hm.q
    refine wo_call k34 (wo_x (v := (.bool true)) (w_notF (congrArg AV.bool (Bool.eq_false_iff.2 (fun h => hF (dB_iff.1 h))))) (wo_mv (.bool true) (wo_noT (wo_noT (wo_x (v := (.bool true)) (w_pickT rfl rfl) ?_)))))
    refine wo_nil (thn_n (wp_condT (wp_seq (wp_reg (wo_x (v := (.agg (.cat 1 (.one (.bool false)) (.rep 3 .nils)))) (w_build (r := (.cat 1 (.one (.bool false)) (.rep 3 .nils))) fill_nil) ?_)))))
    refine wo_x (v := (.agg (.cat 1 (.one (.bool false)) (.rep 3 .nils)))) (w_build (r := (.cat 1 (.one (.bool false)) (.rep 3 .nils))) fill_nil) ?_
    have s35 := s33.pull 1
    obtain ⟨H36, s37, k38⟩ := s_stn s35 (RL.cat (RL.one (.bool false)) (RL.rep 3 .nils) rfl) 0 4 rfl (Nat.le_of_ble_eq_true rfl)
    refine wo_n (k38 rfl rfl) (wo_mv (.str []) ?_)
    have s39 := s37.pull 1
    obtain ⟨H40, s41, k42⟩ := s_stn s39 (RL.cat (RL.one (.bool false)) (RL.rep 3 .nils) rfl) 0 4 rfl (Nat.le_of_ble_eq_true rfl)
    refine wo_n (k42 rfl rfl) (wo_mv (.int .i64 1) (wo_nil (thn_n (wp_ret (thn_r ?_)))))
    refine fin_cc (w := (.str [])) (w' := (.int .i64 1)) (o := 0) (o' := 0) s41 1 0 fun r45 r46 q43 q44 => ?_
    have s47 := s41.drop 0
    have s48 := s47.drop 0
    have s49 := s48.drop 0
    exact ⟨_, _, rfl, q43, q44, s49⟩
theorem cutNL_ok [HvN] [NdN] [BkN] {tbl : Nat → Option FT} (T : HvT tbl) (TB : BkT tbl) (TD : NdT tbl) {ks vs : List (List Nat)} {ps : List PtrM} {vk vv vp : AV} {r : Rp AV} (hF : FormN true ks vs ps) (h2 : ks.length < 2) {N d : Nat} (hd : 10 ≤ d) {Z : Fz} {F : List Hl} {H : AH} (hs : Sat H Z (F)) (hr : RL r [.bool true, vk, vv, vp]) (hk : Fl Z 1 vk (strs ks)) (hv : Fl Z 1 vv (strs vs)) (hp : Fl Z 3 vp (ptrs ps)) (hm : SmallN N ks vs ps) (hsame : same (.agg (Rp.sub r 0 4)) (.agg (Rp.sub r 0 4)) = true) :
    Ct (RUN tbl N d) (.fn (.fn (.func HvN.cut)) [] []) [(.agg r)] H fun v H' => ∃ q1 q2, v = .tup [.agg q1, .str [], .agg q2, .int .i64 1] ∧ RL q1 [.bool false, .nils, .nils, .nils] ∧ RL q2 [.bool false, .nils, .nils, .nils] ∧ Sat H' Z F := by
  obtain ⟨d, rfl⟩ : ∃ e, d = e + 10 := ⟨d - 10, by omega⟩
  have hkl := hm.k
  have hvl := hm.v
  have hpl := hm.p
  have hNk := hm.k'
  refine ct_code T.cut (b := b_vcut) (env := [(.agg r), u_, u_, u_, u_, u_, u_, u_, u_, u_, u_, u_, u_, u_, u_, u_, u_, u_, u_, u_, u_, u_, u_, u_, u_, u_, u_, u_, u_, u_, u_, u_, u_, u_, u_, u_, u_, u_, u_, u_, u_, u_, u_, u_, u_, u_, u_, u_, u_, u_, u_, u_, u_, u_, u_, u_, u_, u_, u_, u_, u_, u_, u_, u_, u_, u_, u_]) ?_
  unfold b_vcut
  refine wp_seq (wp_reg ?_)
  obtain ⟨b1, H2, s3, k4⟩ := x_boxn hs r
  refine wo_x (v := (.ptr b1 0)) (k4 rfl) ?_
  obtain ⟨b5, H6, s7, k8⟩ := s_alloc s3 (RL.cat (RL.one (.bool false)) (RL.rep 3 .nils) rfl)
  refine wo_x (v := (.ptr b5 0)) (k8) (wo_mv (.str []) ?_)
  obtain ⟨b9, H10, s11, k12⟩ := s_alloc s7 (RL.cat (RL.one (.bool false)) (RL.rep 3 .nils) rfl)
  refine wo_x (v := (.ptr b9 0)) (k12) (wo_mv (.int .i64 0) (wo_nil (thn_n (wp_seq (wp_reg ?_)))))
  refine wo_x (v := (.ptr b1 1)) (ca_fla rfl rfl) (wo_x (v := vk) (x_ld1 s11 2 hr rfl) (wo_x (v := (.int .i64 (.ofNat ks.length))) (fl_len hk (strs_len ks) rfl) (wo_mv (.int .i64 (.ofNat ks.length)) (wo_nil (thn_n ?_)))))
  refine wp_seq (wp_reg (wo_mv (.int .i64 (.ofNat ks.length)) (wo_x (v := (.int .i64 (((ks.length : Nat) : Int) - 1))) (w_bin (sub_z ((ks.length : Nat) : Int) 1 (by omega))) (wo_mv (.int .i64 (((ks.length : Nat) : Int) - 1)) (wo_nil ?_)))))
  refine thn_n (wp_seq (wp_seq (wp_reg (wo_x (v := (.ptr b1 0)) (ca_fla rfl rfl) (wo_x (v := (.bool true)) (x_ld1 s11 2 hr rfl) ?_)))))
  refine wo_x (v := (.bool false)) (w_lit (fun K => rfl)) (wo_nil (thn_n (wp_condF (wp_skip (thn_n ?_)))))
  refine wp_seq (wp_seq (wp_reg (wo_x (v := (.agg (Rp.sub r 0 4))) (x_ldn s11 2 hr) ?_)))
  obtain ⟨v13, H15, ⟨e14, s16⟩, k17⟩ := form_ok (N := N) (d := d + 9) TD (ks := ks) (vs := vs) (ps := ps) TB (by omega) s11 (hr.sub 0 4) hk hv hp hm.k hm.v hm.p hm.k' hm.v' hm.p' hm.q
  rw [dB_true hF] at e14
  subst e14
  refine wo_call k17 (wo_x (v := (.bool false)) (w_lit (fun K => rfl)) (wo_mv (.bool false) (wo_yesF (wo_mv (.int .i64 (((ks.length : Nat) : Int) - 1)) (wo_yesF ?_)))))
  refine wo_x (v := (.bool true)) (w_bin (cmp_lssTz (((ks.length : Nat) : Int) - 1) 1 (by omega))) (wo_x (v := (.bool true)) (w_pickF rfl rfl) (wo_nil (thn_n (wp_condT (wp_seq ?_)))))
  refine wp_reg (wo_x (v := (.agg (.cat 1 (.one (.bool false)) (.rep 3 .nils)))) (w_build (r := (.cat 1 (.one (.bool false)) (.rep 3 .nils))) fill_nil) (wo_x (v := (.agg (.cat 1 (.one (.bool false)) (.rep 3 .nils)))) (w_build (r := (.cat 1 (.one (.bool false)) (.rep 3 .nils))) fill_nil) ?_))
  have s18 := s16.pull 1
  obtain ⟨H19, s20, k21⟩ := s_stn s18 (RL.cat (RL.one (.bool false)) (RL.rep 3 .nils) rfl) 0 4 rfl (Nat.le_of_ble_eq_true rfl)
  refine wo_n (k21 rfl rfl) (wo_mv (.str []) ?_)
  have s22 := s20.pull 1
  obtain ⟨H23, s24, k25⟩ := s_stn s22 (RL.cat (RL.one (.bool false)) (RL.rep 3 .nils) rfl) 0 4 rfl (Nat.le_of_ble_eq_true rfl)
  refine wo_n (k25 rfl rfl) (wo_mv (.int .i64 1) (wo_nil (thn_n (wp_ret (thn_r ?_)))))
  refine fin_cc (w := (.str [])) (w' := (.int .i64 1)) (o := 0) (o' := 0) s24 1 0 fun r28 r29 q26 q27 => ?_
  have s30 := s24.drop 0
  have s31 := s30.drop 0
  have s32 := s31.drop 0
  exact ⟨_, _, rfl, q26, q27, s32⟩
theorem cutNI_ok [HvN] [NdN] [BkN] {tbl : Nat → Option FT} (T : HvT tbl) (TB : BkT tbl) (TD : NdT tbl) {ks vs : List (List Nat)} {ps : List PtrM} {vk vv vp : AV} {r : Rp AV} (hF : FormN false ks vs ps) (h2 : ks.length < 3) {N d : Nat} (hd : 10 ≤ d) {Z : Fz} {F : List Hl} {H : AH} (hs : Sat H Z (F)) (hr : RL r [.bool false, vk, vv, vp]) (hk : Fl Z 1 vk (strs ks)) (hv : Fl Z 1 vv (strs vs)) (hp : Fl Z 3 vp (ptrs ps)) (hm : SmallN N ks vs ps) (hsame : same (.agg (Rp.sub r 0 4)) (.agg (Rp.sub r 0 4)) = true) :
    Ct (RUN tbl N d) (.fn (.fn (.func HvN.cut)) [] []) [(.agg r)] H fun v H' => ∃ q1 q2, v = .tup [.agg q1, .str [], .agg q2, .int .i64 1] ∧ RL q1 [.bool false, .nils, .nils, .nils] ∧ RL q2 [.bool false, .nils, .nils, .nils] ∧ Sat H' Z F := by
  obtain ⟨d, rfl⟩ : ∃ e, d = e + 10 := ⟨d - 10, by omega⟩
  have hkl := hm.k
  have hvl := hm.v
  have hpl := hm.p
  have hNk := hm.k'
  refine ct_code T.cut (b := b_vcut) (env := [(.agg r), u_, u_, u_, u_, u_, u_, u_, u_, u_, u_, u_, u_, u_, u_, u_, u_, u_, u_, u_, u_, u_, u_, u_, u_, u_, u_, u_, u_, u_, u_, u_, u_, u_, u_, u_, u_, u_, u_, u_, u_, u_, u_, u_, u_, u_, u_, u_, u_, u_, u_, u_, u_, u_, u_, u_, u_, u_, u_, u_, u_, u_, u_, u_, u_, u_, u_]) ?_
  unfold b_vcut
  refine wp_seq (wp_reg ?_)
  obtain ⟨b1, H2, s3, k4⟩ := x_boxn hs r
  refine wo_x (v := (.ptr b1 0)) (k4 rfl) ?_
  obtain ⟨b5, H6, s7, k8⟩ := s_alloc s3 (RL.cat (RL.one (.bool false)) (RL.rep 3 .nils) rfl)
  refine wo_x (v := (.ptr b5 0)) (k8) (wo_mv (.str []) ?_)
  obtain ⟨b9, H10, s11, k12⟩ := s_alloc s7 (RL.cat (RL.one (.bool false)) (RL.rep 3 .nils) rfl)
  refine wo_x (v := (.ptr b9 0)) (k12) (wo_mv (.int .i64 0) (wo_nil (thn_n (wp_seq (wp_reg ?_)))))
  refine wo_x (v := (.ptr b1 1)) (ca_fla rfl rfl) (wo_x (v := vk) (x_ld1 s11 2 hr rfl) (wo_x (v := (.int .i64 (.ofNat ks.length))) (fl_len hk (strs_len ks) rfl) (wo_mv (.int .i64 (.ofNat ks.length)) (wo_nil (thn_n ?_)))))
  refine wp_seq (wp_reg (wo_mv (.int .i64 (.ofNat ks.length)) (wo_x (v := (.int .i64 (((ks.length : Nat) : Int) - 1))) (w_bin (sub_z ((ks.length : Nat) : Int) 1 (by omega))) (wo_mv (.int .i64 (((ks.length : Nat) : Int) - 1)) (wo_nil ?_)))))
  refine thn_n (wp_seq (wp_seq (wp_reg (wo_x (v := (.ptr b1 0)) (ca_fla rfl rfl) (wo_x (v := (.bool false)) (x_ld1 s11 2 hr rfl) ?_)))))
  refine wo_x (v := (.bool true)) (w_lit (fun K => rfl)) (wo_nil (thn_n (wp_condT (wp_reg (wo_mv (.int .i64 (((ks.length : Nat) : Int) - 1)) ?_)))))
  refine wo_x (v := (.int .i64 ((((ks.length : Nat) : Int) - 1) - 1))) (w_bin (sub_z (((ks.length : Nat) : Int) - 1) 1 (by omega))) (wo_mv (.int .i64 ((((ks.length : Nat) : Int) - 1) - 1)) (wo_nil (thn_n (wp_seq (wp_seq ?_)))))
  refine wp_reg (wo_x (v := (.agg (Rp.sub r 0 4))) (x_ldn s11 2 hr) ?_)
  obtain ⟨v13, H15, ⟨e14, s16⟩, k17⟩ := form_ok (N := N) (d := d + 9) TD (ks := ks) (vs := vs) (ps := ps) TB (by omega) s11 (hr.sub 0 4) hk hv hp hm.k hm.v hm.p hm.k' hm.v' hm.p' hm.q
  rw [dB_true hF] at e14
  subst e14
  refine wo_call k17 (wo_x (v := (.bool false)) (w_lit (fun K => rfl)) (wo_mv (.bool false) (wo_yesF (wo_mv (.int .i64 ((((ks.length : Nat) : Int) - 1) - 1)) (wo_yesF ?_)))))
  refine wo_x (v := (.bool true)) (w_bin (cmp_lssTz ((((ks.length : Nat) : Int) - 1) - 1) 1 (by omega))) (wo_x (v := (.bool true)) (w_pickF rfl rfl) (wo_nil (thn_n (wp_condT (wp_seq ?_)))))
  refine wp_reg (wo_x (v := (.agg (.cat 1 (.one (.bool false)) (.rep 3 .nils)))) (w_build (r := (.cat 1 (.one (.bool false)) (.rep 3 .nils))) fill_nil) (wo_x (v := (.agg (.cat 1 (.one (.bool false)) (.rep 3 .nils)))) (w_build (r := (.cat 1 (.one (.bool false)) (.rep 3 .nils))) fill_nil) ?_))
  have s18 := s16.pull 1
  obtain ⟨H19, s20, k21⟩ := s_stn s18 (RL.cat (RL.one (.bool false)) (RL.rep 3 .nils) rfl) 0 4 rfl (Nat.le_of_ble_eq_true rfl)
  refine wo_n (k21 rfl rfl) (wo_mv (.str []) ?_)
  have s22 := s20.pull 1
  obtain ⟨H23, s24, k25⟩ := s_stn s22 (RL.cat (RL.one (.bool false)) (RL.rep 3 .nils) rfl) 0 4 rfl (Nat.le_of_ble_eq_true rfl)
  refine wo_n (k25 rfl rfl) (wo_mv (.int .i64 1) (wo_nil (thn_n (wp_ret (thn_r ?_)))))
  refine fin_cc (w := (.str [])) (w' := (.int .i64 1)) (o := 0) (o' := 0) s24 1 0 fun r28 r29 q26 q27 => ?_
  have s30 := s24.drop 0
  have s31 := s30.drop 0
  have s32 := s31.drop 0
  exact ⟨_, _, rfl, q26, q27, s32⟩
theorem cutL_ok [HvN] [NdN] [BkN] {tbl : Nat → Option FT} (T : HvT tbl) (TB : BkT tbl) (TD : NdT tbl) {ks vs : List (List Nat)} {ps : List PtrM} {vk vv vp : AV} {r : Rp AV} (hF : FormN true ks vs ps) (h2 : 2 ≤ ks.length) {N d : Nat} (hd : 10 ≤ d) {Z : Fz} {F : List Hl} {H : AH} (hs : Sat H Z (F)) (hr : RL r [.bool true, vk, vv, vp]) (hk : Fl Z 1 vk (strs ks)) (hv : Fl Z 1 vv (strs vs)) (hp : Fl Z 3 vp (ptrs ps)) (hm : SmallN N ks vs ps) (hsame : same (.agg (Rp.sub r 0 4)) (.agg (Rp.sub r 0 4)) = true) :
    Ct (RUN tbl N d) (.fn (.fn (.func HvN.cut)) [] []) [(.agg r)] H fun v H' => ∃ k q1 q2 wk1 wv1 wp1 wk2 wv2 wp2 hk1 hv1 hp1 hk2 hv2 hp2, 1 ≤ k ∧ k + 1 ≤ ks.length ∧ v = .tup [.agg q1, .str (txt ks k), .agg q2, .int .i64 0] ∧ RL q1 [.bool true, wk1, wv1, wp1] ∧ RL q2 [.bool true, wk2, wv2, wp2] ∧ OwnN true (win ks 0 k) (win vs 0 k) ([]) wk1 wv1 wp1 hk1 hv1 hp1 ∧ OwnN true (win ks k ks.length) (win vs k ks.length) ([]) wk2 wv2 wp2 hk2 hv2 hp2 ∧ Sat H' Z (hp2 ++ (hv2 ++ (hk2 ++ (hp1 ++ (hv1 ++ (hk1 ++ F)))))) := by
  obtain ⟨d, rfl⟩ : ∃ e, d = e + 10 := ⟨d - 10, by omega⟩
  have hkl := hm.k
  have hvl := hm.v
  have hpl := hm.p
  have hNk := hm.k'
  obtain ⟨fp, fv, _⟩ := hF.2.1 rfl
  refine ct_code T.cut (b := b_vcut) (env := [(.agg r), u_, u_, u_, u_, u_, u_, u_, u_, u_, u_, u_, u_, u_, u_, u_, u_, u_, u_, u_, u_, u_, u_, u_, u_, u_, u_, u_, u_, u_, u_, u_, u_, u_, u_, u_, u_, u_, u_, u_, u_, u_, u_, u_, u_, u_, u_, u_, u_, u_, u_, u_, u_, u_, u_, u_, u_, u_, u_, u_, u_, u_, u_, u_, u_, u_, u_]) ?_
  unfold b_vcut
  refine wp_seq (wp_reg ?_)
  obtain ⟨b1, H2, s3, k4⟩ := x_boxn hs r
  refine wo_x (v := (.ptr b1 0)) (k4 rfl) ?_
  obtain ⟨b5, H6, s7, k8⟩ := s_alloc s3 (RL.cat (RL.one (.bool false)) (RL.rep 3 .nils) rfl)
  refine wo_x (v := (.ptr b5 0)) (k8) (wo_mv (.str []) ?_)
  obtain ⟨b9, H10, s11, k12⟩ := s_alloc s7 (RL.cat (RL.one (.bool false)) (RL.rep 3 .nils) rfl)
  refine wo_x (v := (.ptr b9 0)) (k12) (wo_mv (.int .i64 0) (wo_nil (thn_n (wp_seq (wp_reg ?_)))))
  refine wo_x (v := (.ptr b1 1)) (ca_fla rfl rfl) (wo_x (v := vk) (x_ld1 s11 2 hr rfl) (wo_x (v := (.int .i64 (.ofNat ks.length))) (fl_len hk (strs_len ks) rfl) (wo_mv (.int .i64 (.ofNat ks.length)) (wo_nil (thn_n ?_)))))
  refine wp_seq (wp_reg (wo_mv (.int .i64 (.ofNat ks.length)) (wo_x (v := (.int .i64 (.ofNat (ks.length - 1)))) (w_bin (sub_i64 ks.length 1 (by omega) (by omega))) (wo_mv (.int .i64 (.ofNat (ks.length - 1))) (wo_nil ?_)))))
  refine thn_n (wp_seq (wp_seq (wp_reg (wo_x (v := (.ptr b1 0)) (ca_fla rfl rfl) (wo_x (v := (.bool true)) (x_ld1 s11 2 hr rfl) ?_)))))
  refine wo_x (v := (.bool false)) (w_lit (fun K => rfl)) (wo_nil (thn_n (wp_condF (wp_skip (thn_n ?_)))))
  refine wp_seq (wp_seq (wp_reg (wo_x (v := (.agg (Rp.sub r 0 4))) (x_ldn s11 2 hr) ?_)))
  obtain ⟨v13, H15, ⟨e14, s16⟩, k17⟩ := form_ok (N := N) (d := d + 9) TD (ks := ks) (vs := vs) (ps := ps) TB (by omega) s11 (hr.sub 0 4) hk hv hp hm.k hm.v hm.p hm.k' hm.v' hm.p' hm.q
  rw [dB_true hF] at e14
  subst e14
  refine wo_call k17 (wo_x (v := (.bool false)) (w_lit (fun K => rfl)) (wo_mv (.bool false) (wo_yesF (wo_mv (.int .i64 (.ofNat (ks.length - 1))) (wo_yesF ?_)))))
  refine wo_x (v := (.bool false)) (w_bin (cmp_lssF (ks.length - 1) 1 (by omega))) (wo_x (v := (.bool false)) (w_pickF rfl rfl) (wo_nil (thn_n (wp_condF (wp_skip ?_)))))
  refine thn_n (wp_seq (wp_reg (wo_mv (.int .i64 1) (wo_nil (thn_n ?_)))))
  refine wp_seq (wp_block ?_)
  refine wp_loop (fun ms_ env ds H => ∃ (k : Nat), ∃ ys18 : List AV, ms_ = ks.length - k ∧ env = [(.agg r), (.ptr b1 0), (.ptr b5 0), (.str []), (.ptr b9 0), (.int .i64 0), (.int .i64 (.ofNat ks.length)), (.int .i64 (.ofNat (ks.length - 1))), (.int .i64 (.ofNat k)), u_, (.ptr b1 1), vk, (.int .i64 (.ofNat ks.length)), (.int .i64 (.ofNat ks.length)), (.int .i64 (.ofNat (ks.length - 1))), (.ptr b1 0), (.bool true), (.bool false), u_, u_, (.agg (Rp.sub r 0 4)), (.bool true), (.bool false), (.bool false), (.int .i64 (.ofNat (ks.length - 1))), (.bool false), (.bool false), u_, u_, (lget ys18 0), (lget ys18 1), (lget ys18 2), (lget ys18 3), (lget ys18 4), (lget ys18 5), (lget ys18 6), (lget ys18 7), (lget ys18 8), (lget ys18 9), (lget ys18 10), (lget ys18 11), (lget ys18 12), (lget ys18 13), (lget ys18 14), (lget ys18 15), (lget ys18 16), (lget ys18 17), u_, u_, u_, u_, u_, u_, u_, u_, u_, u_, u_, u_, u_, u_, u_, u_, u_, u_, u_, u_] ∧ ds = [] ∧ Sat H Z ((.cells b9 [(.bool false), .nils, .nils, .nils]) :: (.cells b5 [(.bool false), .nils, .nils, .nils]) :: (.obj b1 (.cells r false false)) :: F) ∧ (1 ≤ k) ∧ (k + 1 ≤ ks.length)) (ks.length - 1) (by omega) ⟨1, [u_, u_, u_, u_, u_, u_, u_, u_, u_, u_, u_, u_, u_, u_, u_, u_, u_, u_], rfl, rfl, rfl, s16, (by omega), (by omega)⟩ ?_
  rintro ms_ env ds H hms_ ⟨k, ys18, rfl, rfl, rfl, s19, hk1, hk2⟩
  refine wp_seq (wp_seq (wp_dreg (wd_run (wo_mv (.int .i64 (.ofNat k)) (wo_nil ?_)))))
  refine wd_run (wo_mv (.int .i64 (.ofNat (ks.length - 1))) (wo_nil (wd_run ?_)))
  by_cases c20 : k < ks.length - 1
  · refine wo_x (v := (.bool true)) (w_bin (cmp_lssT k (ks.length - 1) (by omega))) (wo_nil (wd_run (wo_mv (.bool true) (wo_nil (wd_run ?_)))))
    refine wo_yesT (wo_x (v := (.agg (Rp.sub r 0 4))) (x_ldn s19 2 hr) (wo_nil (wd_run (wo_yesT (wo_mv (.int .i64 (.ofNat k)) ?_)))))
    refine wo_nil (wd_run (wo_yesT (wo_x (v := (.int .i64 (.ofNat (k + 1)))) (w_bin (add_i64 k 1 (by omega) _ _)) (wo_nil (wd_run ?_)))))
    refine wo_yesT (wo_x (v := (.agg (Rp.sub r 0 4))) (x_ldn s19 2 hr) (wo_nil (wd_nil (ws_cons (wo_yesT ?_)))))
    obtain ⟨_, H27, ⟨q21, wk23, wo24, rfl, q22, h25, h26, s28⟩, k29⟩ := partL_ok (N := N) (d := d + 9) T (i := 0) (j := k + 1) (by omega) s19 (hr.sub 0 4) hk hv hp (by omega) (by omega) (by omega) (by omega) (by omega) (by omega)
    refine wo_call k29 (wo_nil (wd_againY (v := (.agg (Rp.sub r 0 4))) (hs := hsame) (x_ldn s28 2 hr) (wd_nil (ws_cons (wo_yesT ?_)))))
    have z30 : 2 ≤ sizeN (win ks 0 (k + 1)) (win vs 0 (k + 1)) [] ∧ sizeN (win ks 0 (k + 1)) (win vs 0 (k + 1)) [] ≤ 1099511627776 := ⟨by unfold sizeN; omega, (hm.winL 0 (k + 1)).s⟩
    obtain ⟨_, H31, ⟨rfl, s32⟩, k33⟩ := size_ok (N := N) (d := d + 9) TD (ks := win ks 0 (k + 1)) (vs := win vs 0 (k + 1)) (ps := []) (by omega) s28 q22 h25 h26 .nil (hm.winL 0 (k + 1)).k (hm.winL 0 (k + 1)).v (hm.winL 0 (k + 1)).p (hm.winL 0 (k + 1)).k' (hm.winL 0 (k + 1)).v' (hm.winL 0 (k + 1)).p' (hm.winL 0 (k + 1)).n (hm.winL 0 (k + 1)).s
    refine wo_call k33 (wo_nil (wd_againY (v := (.agg (Rp.sub r 0 4))) (hs := hsame) (x_ldn s32 2 hr) (wd_run (wo_yesT (wo_x (v := (.int .i64 (.ofNat ((sizeN (win ks 0 (k + 1)) (win vs 0 (k + 1)) []) - 2)))) (w_bin (sub_i64 (sizeN (win ks 0 (k + 1)) (win vs 0 (k + 1)) []) 2 (by omega) (by omega))) ?_)))))
    refine wo_nil (wd_run (wo_yesT (wo_x (v := (.int .i64 (.ofNat (2 * ((sizeN (win ks 0 (k + 1)) (win vs 0 (k + 1)) []) - 2))))) (w_bin (mul_nat 2 ((sizeN (win ks 0 (k + 1)) (win vs 0 (k + 1)) []) - 2) (by omega))) (wo_nil (wd_nil ?_)))))
    refine ws_cons (wo_yesT ?_)
    have z34 : 2 ≤ sizeN ks vs ps ∧ sizeN ks vs ps ≤ 1099511627776 := ⟨by unfold sizeN; omega, hm.s⟩
    obtain ⟨_, H35, ⟨rfl, s36⟩, k37⟩ := size_ok (N := N) (d := d + 9) TD (ks := ks) (vs := vs) (ps := ps) (by omega) s32 (hr.sub 0 4) hk hv hp hm.k hm.v hm.p hm.k' hm.v' hm.p' hm.n hm.s
    refine wo_call k37 (wo_nil (wd_againY (v := (.int .i64 (.ofNat ((sizeN (win ks 0 (k + 1)) (win vs 0 (k + 1)) []) - 2)))) (hs := same_int) (w_bin (sub_i64 (sizeN (win ks 0 (k + 1)) (win vs 0 (k + 1)) []) 2 (by omega) (by omega))) (wd_againY (v := (.int .i64 (.ofNat (2 * ((sizeN (win ks 0 (k + 1)) (win vs 0 (k + 1)) []) - 2))))) (hs := same_int) (w_bin (mul_nat 2 ((sizeN (win ks 0 (k + 1)) (win vs 0 (k + 1)) []) - 2) (by omega))) (wd_run (wo_yesT ?_)))))
    refine wo_x (v := (.int .i64 (.ofNat ((sizeN ks vs ps) - 2)))) (w_bin (sub_i64 (sizeN ks vs ps) 2 (by omega) (by omega))) (wo_nil (wd_run ?_))
    by_cases c38 : 2 * ((sizeN (win ks 0 (k + 1)) (win vs 0 (k + 1)) []) - 2) ≤ (sizeN ks vs ps) - 2
    · refine wo_yesT (wo_x (v := (.bool true)) (w_bin (cmp_leqT (2 * ((sizeN (win ks 0 (k + 1)) (win vs 0 (k + 1)) []) - 2)) ((sizeN ks vs ps) - 2) (by omega))) (wo_nil (wd_run (wo_x (v := (.bool true)) (w_pickT rfl rfl) (wo_nil ?_)))))
      refine wd_nil (ws_nil (thn_n (wp_condT (wp_skip (thn_n ?_)))))
      refine wp_block (wp_reg (wo_mv (.int .i64 (.ofNat k)) (wo_x (v := (.int .i64 (.ofNat (k + 1)))) (w_bin (add_i64 k 1 (by omega) _ _)) (wo_mv (.int .i64 (.ofNat (k + 1))) (wo_nil ?_)))))
      refine blk_n ?_
      refine lpq_n (ks.length - (k + 1)) (by omega) ⟨(k + 1), [(.int .i64 (.ofNat k)), (.int .i64 (.ofNat (ks.length - 1))), (.bool true), (.bool true), (.agg (Rp.sub r 0 4)), (.int .i64 (.ofNat k)), (.int .i64 (.ofNat (k + 1))), (.agg q21), (.int .i64 (.ofNat (sizeN (win ks 0 (k + 1)) (win vs 0 (k + 1)) []))), (.int .i64 (.ofNat ((sizeN (win ks 0 (k + 1)) (win vs 0 (k + 1)) []) - 2))), (.int .i64 (.ofNat (2 * ((sizeN (win ks 0 (k + 1)) (win vs 0 (k + 1)) []) - 2)))), (.agg (Rp.sub r 0 4)), (.int .i64 (.ofNat (sizeN ks vs ps))), (.int .i64 (.ofNat ((sizeN ks vs ps) - 2))), (.bool true), (.bool true), (.int .i64 (.ofNat k)), (.int .i64 (.ofNat (k + 1)))], rfl, rfl, rfl, s36, (by omega), (by omega)⟩
    · refine wo_yesT (wo_x (v := (.bool false)) (w_bin (cmp_leqF (2 * ((sizeN (win ks 0 (k + 1)) (win vs 0 (k + 1)) []) - 2)) ((sizeN ks vs ps) - 2) (by omega))) (wo_nil (wd_run (wo_x (v := (.bool false)) (w_pickT rfl rfl) (wo_nil ?_)))))
      refine wd_nil (ws_nil (thn_n (wp_condF (wp_exit (thn_e ?_)))))
      refine lpq_e (blk_h (thn_n (wp_seq (wp_reg (wo_mv (.int .i64 (.ofNat k)) ?_)))))
      refine wo_mv (.int .i64 (.ofNat k)) (wo_nil (thn_n (wp_seq (wp_seq (wp_reg ?_)))))
      refine wo_x (v := (.ptr b1 0)) (ca_fla rfl rfl) (wo_x (v := (.bool true)) (x_ld1 s36 2 hr rfl) (wo_x (v := (.bool false)) (w_lit (fun K => rfl)) (wo_nil (thn_n (wp_condF ?_)))))
      refine wp_skip (thn_n (wp_seq (wp_dreg (wd_run (wo_x (v := (.agg (Rp.sub r 0 4))) (x_ldn s36 2 hr) ?_)))))
      refine wo_nil (wd_run (wo_mv (.int .i64 (.ofNat k)) (wo_nil (wd_run (wo_x (v := (.ptr b1 1)) (ca_fla rfl rfl) ?_)))))
      refine wo_nil (wd_run (wo_x (v := vk) (x_ld1 s36 2 hr rfl) (wo_nil (wd_run (wo_mv (.int .i64 (.ofNat k)) ?_)))))
      refine wo_nil (wd_run ?_)
      obtain ⟨b39, o40, L41, z42, g43, e44, n45, k46⟩ := fl_ix hk k (strs_get (show k < ks.length by omega))
      refine wo_x (v := (.ptr b39 o40)) (k46 rfl rfl) (wo_nil (wd_run (wo_x (v := (.str (txt ks k))) (s_zld1 s36 z42 (g43 0 _ rfl)) (wo_nil (wd_run ?_)))))
      refine wo_x (v := (.agg (Rp.sub r 0 4))) (x_ldn s36 2 hr) (wo_nil (wd_run (wo_mv (.int .i64 (.ofNat k)) (wo_nil (wd_run ?_)))))
      refine wo_mv (.int .i64 (.ofNat ks.length)) (wo_nil (wd_nil (ws_cons ?_)))
      obtain ⟨_, H53, ⟨q47, wk49, wo50, rfl, q48, h51, h52, s54⟩, k55⟩ := partL_ok (N := N) (d := d + 9) T (i := 0) (j := k) (by omega) s36 (hr.sub 0 4) hk hv hp (by omega) (by omega) (by omega) (by omega) (by omega) (by omega)
      refine wo_call k55 (wo_nil (wd_again (v := vk) (hs := fl_same hk) (x_ld1 s54 2 hr rfl) (wd_again (v := (.str (txt ks k))) (hs := same_str) (s_zld1 s54 z42 (g43 0 _ rfl)) (wd_again (v := (.agg (Rp.sub r 0 4))) (hs := hsame) (x_ldn s54 2 hr) (wd_nil ?_)))))
      refine ws_cons ?_
      obtain ⟨_, H59, ⟨q56, wk61, wv62, wp63, lk64, lv65, lp66, rfl, q57, ok67, ov68, op69, s58⟩, k60⟩ := own_ok T (N := N) (d := d + 9) (ks := win ks 0 k) (vs := win vs 0 k) (ps := []) (by omega) s54 q48 h51 h52 .nil (hm.winL 0 k).k (hm.winL 0 k).v (hm.winL 0 k).p
      have s70 : Sat H59 Z ((.cells b9 [(.bool false), .nils, .nils, .nils]) :: (.cells b5 [(.bool false), .nils, .nils, .nils]) :: (.obj b1 (.cells r false false)) :: (lp66 ++ (lv65 ++ (lk64 ++ F)))) := by have h := Sat.rot (l₁ := lp66 ++ (lv65 ++ (lk64))) (hl := [.cells b9 [(.bool false), .nils, .nils, .nils], .cells b5 [(.bool false), .nils, .nils, .nils], .obj b1 (.cells r false false)]) (by simp only [List.append_assoc]; exact s58); simp only [List.append_assoc] at h; exact h
      refine wo_call k60 (wo_nil (wd_again (v := vk) (hs := fl_same hk) (x_ld1 s70 2 hr rfl) (wd_again (v := (.str (txt ks k))) (hs := same_str) (s_zld1 s70 z42 (g43 0 _ rfl)) (wd_again (v := (.agg (Rp.sub r 0 4))) (hs := hsame) (x_ldn s70 2 hr) (wd_nil ?_)))))
      refine ws_cons ?_
      obtain ⟨_, H77, ⟨q71, wk73, wo74, rfl, q72, h75, h76, s78⟩, k79⟩ := partL_ok (N := N) (d := d + 9) T (i := k) (j := ks.length) (by omega) s70 (hr.sub 0 4) hk hv hp (by omega) (by omega) (by omega) (by omega) (by omega) (by omega)
      refine wo_call k79 (wo_nil (wd_again (v := vk) (hs := fl_same hk) (x_ld1 s78 2 hr rfl) (wd_again (v := (.str (txt ks k))) (hs := same_str) (s_zld1 s78 z42 (g43 0 _ rfl)) (wd_nil (ws_cons ?_)))))
      obtain ⟨_, H83, ⟨q80, wk85, wv86, wp87, lk88, lv89, lp90, rfl, q81, ok91, ov92, op93, s82⟩, k84⟩ := own_ok T (N := N) (d := d + 9) (ks := win ks k ks.length) (vs := win vs k ks.length) (ps := []) (by omega) s78 q72 h75 h76 .nil (hm.winL k ks.length).k (hm.winL k ks.length).v (hm.winL k ks.length).p
      have s94 : Sat H83 Z ((.cells b9 [(.bool false), .nils, .nils, .nils]) :: (.cells b5 [(.bool false), .nils, .nils, .nils]) :: (.obj b1 (.cells r false false)) :: (lp90 ++ (lv89 ++ (lk88 ++ (lp66 ++ (lv65 ++ (lk64 ++ F))))))) := by have h := Sat.rot (l₁ := lp90 ++ (lv89 ++ (lk88))) (hl := [.cells b9 [(.bool false), .nils, .nils, .nils], .cells b5 [(.bool false), .nils, .nils, .nils], .obj b1 (.cells r false false)]) (by simp only [List.append_assoc]; exact s82); simp only [List.append_assoc] at h; exact h
      refine wo_call k84 (wo_nil (wd_again (v := vk) (hs := fl_same hk) (x_ld1 s94 2 hr rfl) (wd_again (v := (.str (txt ks k))) (hs := same_str) (s_zld1 s94 z42 (g43 0 _ rfl)) (wd_nil (ws_cons ?_)))))
      have s95 := s94.pull 1
      obtain ⟨H96, s97, k98⟩ := s_stn s95 q57 0 4 rfl (Nat.le_of_ble_eq_true rfl)
      refine wo_n (k98 rfl rfl) (wo_nil (wd_again (v := vk) (hs := fl_same hk) (x_ld1 s97 2 hr rfl) (wd_again (v := (.str (txt ks k))) (hs := same_str) (s_zld1 s97 z42 (g43 0 _ rfl)) (wd_run (wo_mv (.str (txt ks k)) ?_)))))
      refine wo_nil (wd_nil (ws_cons ?_))
      have s99 := s97.pull 1
      obtain ⟨H100, s101, k102⟩ := s_stn s99 q81 0 4 rfl (Nat.le_of_ble_eq_true rfl)
      refine wo_n (k102 rfl rfl) (wo_nil (wd_run (wo_mv (.int .i64 0) (wo_nil (wd_nil ?_)))))
      refine ws_nil (thn_n (wp_ret ?_))
      refine fin_cc (w := (.str (txt ks k))) (w' := (.int .i64 0)) (o := 0) (o' := 0) s101 1 0 fun r105 r106 q103 q104 => ?_
      have s107 := s101.drop 0
      have s108 := s107.drop 0
      have s109 := s108.drop 0
      exact ⟨k, _, _, _, _, _, _, _, _, _, _, _, _, _, _, by omega, by omega, rfl, q103, q104, ⟨ok67, ov68, op69⟩, ⟨ok91, ov92, op93⟩, s109⟩
  · refine wo_x (v := (.bool false)) (w_bin (cmp_lssF k (ks.length - 1) (by omega))) (wo_nil (wd_run (wo_mv (.bool false) (wo_nil (wd_run ?_)))))
    refine wo_noF (wo_nil (wd_run (wo_noF (wo_nil (wd_run ?_)))))
    refine wo_noF (wo_nil (wd_run (wo_noF (wo_nil (wd_nil ?_)))))
    refine ws_cons (wo_noF (wo_nil (wd_againN (wd_nil (ws_cons ?_)))))
    refine wo_noF (wo_nil (wd_againN (wd_run (wo_noF (wo_nil ?_)))))
    refine wd_run (wo_noF (wo_nil (wd_nil (ws_cons (wo_noF ?_)))))
    refine wo_nil (wd_againN (wd_againN (wd_run (wo_noF (wo_nil ?_)))))
    refine wd_run (wo_noF (wo_nil (wd_run (wo_x (v := (.bool false)) (w_pickF rfl rfl) (wo_nil ?_)))))
    refine wd_nil (ws_nil (thn_n (wp_condF (wp_exit (thn_e ?_)))))
    refine lpq_e (blk_h (thn_n (wp_seq (wp_reg (wo_mv (.int .i64 (.ofNat k)) ?_)))))
    refine wo_mv (.int .i64 (.ofNat k)) (wo_nil (thn_n (wp_seq (wp_seq (wp_reg ?_)))))
    refine wo_x (v := (.ptr b1 0)) (ca_fla rfl rfl) (wo_x (v := (.bool true)) (x_ld1 s19 2 hr rfl) (wo_x (v := (.bool false)) (w_lit (fun K => rfl)) (wo_nil (thn_n (wp_condF ?_)))))
    refine wp_skip (thn_n (wp_seq (wp_dreg (wd_run (wo_x (v := (.agg (Rp.sub r 0 4))) (x_ldn s19 2 hr) ?_)))))
    refine wo_nil (wd_run (wo_mv (.int .i64 (.ofNat k)) (wo_nil (wd_run (wo_x (v := (.ptr b1 1)) (ca_fla rfl rfl) ?_)))))
    refine wo_nil (wd_run (wo_x (v := vk) (x_ld1 s19 2 hr rfl) (wo_nil (wd_run (wo_mv (.int .i64 (.ofNat k)) ?_)))))
    refine wo_nil (wd_run ?_)
    obtain ⟨b110, o111, L112, z113, g114, e115, n116, k117⟩ := fl_ix hk k (strs_get (show k < ks.length by omega))
    refine wo_x (v := (.ptr b110 o111)) (k117 rfl rfl) (wo_nil (wd_run (wo_x (v := (.str (txt ks k))) (s_zld1 s19 z113 (g114 0 _ rfl)) (wo_nil (wd_run ?_)))))
    refine wo_x (v := (.agg (Rp.sub r 0 4))) (x_ldn s19 2 hr) (wo_nil (wd_run (wo_mv (.int .i64 (.ofNat k)) (wo_nil (wd_run ?_)))))
    refine wo_mv (.int .i64 (.ofNat ks.length)) (wo_nil (wd_nil (ws_cons ?_)))
    obtain ⟨_, H124, ⟨q118, wk120, wo121, rfl, q119, h122, h123, s125⟩, k126⟩ := partL_ok (N := N) (d := d + 9) T (i := 0) (j := k) (by omega) s19 (hr.sub 0 4) hk hv hp (by omega) (by omega) (by omega) (by omega) (by omega) (by omega)
    refine wo_call k126 (wo_nil (wd_again (v := vk) (hs := fl_same hk) (x_ld1 s125 2 hr rfl) (wd_again (v := (.str (txt ks k))) (hs := same_str) (s_zld1 s125 z113 (g114 0 _ rfl)) (wd_again (v := (.agg (Rp.sub r 0 4))) (hs := hsame) (x_ldn s125 2 hr) (wd_nil ?_)))))
    refine ws_cons ?_
    obtain ⟨_, H130, ⟨q127, wk132, wv133, wp134, lk135, lv136, lp137, rfl, q128, ok138, ov139, op140, s129⟩, k131⟩ := own_ok T (N := N) (d := d + 9) (ks := win ks 0 k) (vs := win vs 0 k) (ps := []) (by omega) s125 q119 h122 h123 .nil (hm.winL 0 k).k (hm.winL 0 k).v (hm.winL 0 k).p
    have s141 : Sat H130 Z ((.cells b9 [(.bool false), .nils, .nils, .nils]) :: (.cells b5 [(.bool false), .nils, .nils, .nils]) :: (.obj b1 (.cells r false false)) :: (lp137 ++ (lv136 ++ (lk135 ++ F)))) := by have h := Sat.rot (l₁ := lp137 ++ (lv136 ++ (lk135))) (hl := [.cells b9 [(.bool false), .nils, .nils, .nils], .cells b5 [(.bool false), .nils, .nils, .nils], .obj b1 (.cells r false false)]) (by simp only [List.append_assoc]; exact s129); simp only [List.append_assoc] at h; exact h
    refine wo_call k131 (wo_nil (wd_again (v := vk) (hs := fl_same hk) (x_ld1 s141 2 hr rfl) (wd_again (v := (.str (txt ks k))) (hs := same_str) (s_zld1 s141 z113 (g114 0 _ rfl)) (wd_again (v := (.agg (Rp.sub r 0 4))) (hs := hsame) (x_ldn s141 2 hr) (wd_nil ?_)))))
    refine ws_cons ?_
    obtain ⟨_, H148, ⟨q142, wk144, wo145, rfl, q143, h146, h147, s149⟩, k150⟩ := partL_ok (N := N) (d := d + 9) T (i := k) (j := ks.length) (by omega) s141 (hr.sub 0 4) hk hv hp (by omega) (by omega) (by omega) (by omega) (by omega) (by omega)
    refine wo_call k150 (wo_nil (wd_again (v := vk) (hs := fl_same hk) (x_ld1 s149 2 hr rfl) (wd_again (v := (.str (txt ks k))) (hs := same_str) (s_zld1 s149 z113 (g114 0 _ rfl)) (wd_nil (ws_cons ?_)))))
    obtain ⟨_, H154, ⟨q151, wk156, wv157, wp158, lk159, lv160, lp161, rfl, q152, ok162, ov163, op164, s153⟩, k155⟩ := own_ok T (N := N) (d := d + 9) (ks := win ks k ks.length) (vs := win vs k ks.length) (ps := []) (by omega) s149 q143 h146 h147 .nil (hm.winL k ks.length).k (hm.winL k ks.length).v (hm.winL k ks.length).p
    have s165 : Sat H154 Z ((.cells b9 [(.bool false), .nils, .nils, .nils]) :: (.cells b5 [(.bool false), .nils, .nils, .nils]) :: (.obj b1 (.cells r false false)) :: (lp161 ++ (lv160 ++ (lk159 ++ (lp137 ++ (lv136 ++ (lk135 ++ F))))))) := by have h := Sat.rot (l₁ := lp161 ++ (lv160 ++ (lk159))) (hl := [.cells b9 [(.bool false), .nils, .nils, .nils], .cells b5 [(.bool false), .nils, .nils, .nils], .obj b1 (.cells r false false)]) (by simp only [List.append_assoc]; exact s153); simp only [List.append_assoc] at h; exact h
    refine wo_call k155 (wo_nil (wd_again (v := vk) (hs := fl_same hk) (x_ld1 s165 2 hr rfl) (wd_again (v := (.str (txt ks k))) (hs := same_str) (s_zld1 s165 z113 (g114 0 _ rfl)) (wd_nil (ws_cons ?_)))))
    have s166 := s165.pull 1
    obtain ⟨H167, s168, k169⟩ := s_stn s166 q128 0 4 rfl (Nat.le_of_ble_eq_true rfl)
    refine wo_n (k169 rfl rfl) (wo_nil (wd_again (v := vk) (hs := fl_same hk) (x_ld1 s168 2 hr rfl) (wd_again (v := (.str (txt ks k))) (hs := same_str) (s_zld1 s168 z113 (g114 0 _ rfl)) (wd_run (wo_mv (.str (txt ks k)) ?_)))))
    refine wo_nil (wd_nil (ws_cons ?_))
    have s170 := s168.pull 1
    obtain ⟨H171, s172, k173⟩ := s_stn s170 q152 0 4 rfl (Nat.le_of_ble_eq_true rfl)
    refine wo_n (k173 rfl rfl) (wo_nil (wd_run (wo_mv (.int .i64 0) (wo_nil (wd_nil ?_)))))
    refine ws_nil (thn_n (wp_ret ?_))
    refine fin_cc (w := (.str (txt ks k))) (w' := (.int .i64 0)) (o := 0) (o' := 0) s172 1 0 fun r176 r177 q174 q175 => ?_
    have s178 := s172.drop 0
    have s179 := s178.drop 0
    have s180 := s179.drop 0
    exact ⟨k, _, _, _, _, _, _, _, _, _, _, _, _, _, _, by omega, by omega, rfl, q174, q175, ⟨ok138, ov139, op140⟩, ⟨ok162, ov163, op164⟩, s180⟩
theorem cutI_ok [HvN] [NdN] [BkN] {tbl : Nat → Option FT} (T : HvT tbl) (TB : BkT tbl) (TD : NdT tbl) {ks vs : List (List Nat)} {ps : List PtrM} {vk vv vp : AV} {r : Rp AV} (hF : FormN false ks vs ps) (h2 : 3 ≤ ks.length) {N d : Nat} (hd : 10 ≤ d) {Z : Fz} {F : List Hl} {H : AH} (hs : Sat H Z (F)) (hr : RL r [.bool false, vk, vv, vp]) (hk : Fl Z 1 vk (strs ks)) (hv : Fl Z 1 vv (strs vs)) (hp : Fl Z 3 vp (ptrs ps)) (hm : SmallN N ks vs ps) (hsame : same (.agg (Rp.sub r 0 4)) (.agg (Rp.sub r 0 4)) = true) :
    Ct (RUN tbl N d) (.fn (.fn (.func HvN.cut)) [] []) [(.agg r)] H fun v H' => ∃ k q1 q2 wk1 wv1 wp1 wk2 wv2 wp2 hk1 hv1 hp1 hk2 hv2 hp2, 1 ≤ k ∧ k + 2 ≤ ks.length ∧ v = .tup [.agg q1, .str (txt ks k), .agg q2, .int .i64 0] ∧ RL q1 [.bool false, wk1, wv1, wp1] ∧ RL q2 [.bool false, wk2, wv2, wp2] ∧ OwnN false (win ks 0 k) ([]) (win ps 0 (k + 1)) wk1 wv1 wp1 hk1 hv1 hp1 ∧ OwnN false (win ks (k + 1) ks.length) ([]) (win ps (k + 1) (ks.length + 1)) wk2 wv2 wp2 hk2 hv2 hp2 ∧ Sat H' Z (hp2 ++ (hv2 ++ (hk2 ++ (hp1 ++ (hv1 ++ (hk1 ++ F)))))) := by
  obtain ⟨d, rfl⟩ : ∃ e, d = e + 10 := ⟨d - 10, by omega⟩
  have hkl := hm.k
  have hvl := hm.v
  have hpl := hm.p
  have hNk := hm.k'
  obtain ⟨fk, fp, fv, _⟩ := hF.2.2 rfl
  refine ct_code T.cut (b := b_vcut) (env := [(.agg r), u_, u_, u_, u_, u_, u_, u_, u_, u_, u_, u_, u_, u_, u_, u_, u_, u_, u_, u_, u_, u_, u_, u_, u_, u_, u_, u_, u_, u_, u_, u_, u_, u_, u_, u_, u_, u_, u_, u_, u_, u_, u_, u_, u_, u_, u_, u_, u_, u_, u_, u_, u_, u_, u_, u_, u_, u_, u_, u_, u_, u_, u_, u_, u_, u_, u_]) ?_
  unfold b_vcut
  refine wp_seq (wp_reg ?_)
  obtain ⟨b1, H2, s3, k4⟩ := x_boxn hs r
  refine wo_x (v := (.ptr b1 0)) (k4 rfl) ?_
  obtain ⟨b5, H6, s7, k8⟩ := s_alloc s3 (RL.cat (RL.one (.bool false)) (RL.rep 3 .nils) rfl)
  refine wo_x (v := (.ptr b5 0)) (k8) (wo_mv (.str []) ?_)
  obtain ⟨b9, H10, s11, k12⟩ := s_alloc s7 (RL.cat (RL.one (.bool false)) (RL.rep 3 .nils) rfl)
  refine wo_x (v := (.ptr b9 0)) (k12) (wo_mv (.int .i64 0) (wo_nil (thn_n (wp_seq (wp_reg ?_)))))
  refine wo_x (v := (.ptr b1 1)) (ca_fla rfl rfl) (wo_x (v := vk) (x_ld1 s11 2 hr rfl) (wo_x (v := (.int .i64 (.ofNat ks.length))) (fl_len hk (strs_len ks) rfl) (wo_mv (.int .i64 (.ofNat ks.length)) (wo_nil (thn_n ?_)))))
  refine wp_seq (wp_reg (wo_mv (.int .i64 (.ofNat ks.length)) (wo_x (v := (.int .i64 (.ofNat (ks.length - 1)))) (w_bin (sub_i64 ks.length 1 (by omega) (by omega))) (wo_mv (.int .i64 (.ofNat (ks.length - 1))) (wo_nil ?_)))))
  refine thn_n (wp_seq (wp_seq (wp_reg (wo_x (v := (.ptr b1 0)) (ca_fla rfl rfl) (wo_x (v := (.bool false)) (x_ld1 s11 2 hr rfl) ?_)))))
  refine wo_x (v := (.bool true)) (w_lit (fun K => rfl)) (wo_nil (thn_n (wp_condT (wp_reg (wo_mv (.int .i64 (.ofNat (ks.length - 1))) ?_)))))
  refine wo_x (v := (.int .i64 (.ofNat ((ks.length - 1) - 1)))) (w_bin (sub_i64 (ks.length - 1) 1 (by omega) (by omega))) (wo_mv (.int .i64 (.ofNat ((ks.length - 1) - 1))) (wo_nil (thn_n (wp_seq (wp_seq ?_)))))
  refine wp_reg (wo_x (v := (.agg (Rp.sub r 0 4))) (x_ldn s11 2 hr) ?_)
  obtain ⟨v13, H15, ⟨e14, s16⟩, k17⟩ := form_ok (N := N) (d := d + 9) TD (ks := ks) (vs := vs) (ps := ps) TB (by omega) s11 (hr.sub 0 4) hk hv hp hm.k hm.v hm.p hm.k' hm.v' hm.p' hm.q
  rw [dB_true hF] at e14
  subst e14
  refine wo_call k17 (wo_x (v := (.bool false)) (w_lit (fun K => rfl)) (wo_mv (.bool false) (wo_yesF (wo_mv (.int .i64 (.ofNat ((ks.length - 1) - 1))) (wo_yesF ?_)))))
  refine wo_x (v := (.bool false)) (w_bin (cmp_lssF ((ks.length - 1) - 1) 1 (by omega))) (wo_x (v := (.bool false)) (w_pickF rfl rfl) (wo_nil (thn_n (wp_condF (wp_skip ?_)))))
  refine thn_n (wp_seq (wp_reg (wo_mv (.int .i64 1) (wo_nil (thn_n ?_)))))
  refine wp_seq (wp_block ?_)
  refine wp_loop (fun ms_ env ds H => ∃ (k : Nat), ∃ ys18 : List AV, ms_ = ks.length - k ∧ env = [(.agg r), (.ptr b1 0), (.ptr b5 0), (.str []), (.ptr b9 0), (.int .i64 0), (.int .i64 (.ofNat ks.length)), (.int .i64 (.ofNat ((ks.length - 1) - 1))), (.int .i64 (.ofNat k)), u_, (.ptr b1 1), vk, (.int .i64 (.ofNat ks.length)), (.int .i64 (.ofNat ks.length)), (.int .i64 (.ofNat (ks.length - 1))), (.ptr b1 0), (.bool false), (.bool true), (.int .i64 (.ofNat (ks.length - 1))), (.int .i64 (.ofNat ((ks.length - 1) - 1))), (.agg (Rp.sub r 0 4)), (.bool true), (.bool false), (.bool false), (.int .i64 (.ofNat ((ks.length - 1) - 1))), (.bool false), (.bool false), u_, u_, (lget ys18 0), (lget ys18 1), (lget ys18 2), (lget ys18 3), (lget ys18 4), (lget ys18 5), (lget ys18 6), (lget ys18 7), (lget ys18 8), (lget ys18 9), (lget ys18 10), (lget ys18 11), (lget ys18 12), (lget ys18 13), (lget ys18 14), (lget ys18 15), (lget ys18 16), (lget ys18 17), u_, u_, u_, u_, u_, u_, u_, u_, u_, u_, u_, u_, u_, u_, u_, u_, u_, u_, u_, u_] ∧ ds = [] ∧ Sat H Z ((.cells b9 [(.bool false), .nils, .nils, .nils]) :: (.cells b5 [(.bool false), .nils, .nils, .nils]) :: (.obj b1 (.cells r false false)) :: F) ∧ (1 ≤ k) ∧ (k + 2 ≤ ks.length)) (ks.length - 1) (by omega) ⟨1, [u_, u_, u_, u_, u_, u_, u_, u_, u_, u_, u_, u_, u_, u_, u_, u_, u_, u_], rfl, rfl, rfl, s16, (by omega), (by omega)⟩ ?_
  rintro ms_ env ds H hms_ ⟨k, ys18, rfl, rfl, rfl, s19, hk1, hk2⟩
  refine wp_seq (wp_seq (wp_dreg (wd_run (wo_mv (.int .i64 (.ofNat k)) (wo_nil ?_)))))
  refine wd_run (wo_mv (.int .i64 (.ofNat ((ks.length - 1) - 1))) (wo_nil (wd_run ?_)))
  by_cases c20 : k < (ks.length - 1) - 1
  · refine wo_x (v := (.bool true)) (w_bin (cmp_lssT k ((ks.length - 1) - 1) (by omega))) (wo_nil (wd_run (wo_mv (.bool true) (wo_nil (wd_run ?_)))))
    refine wo_yesT (wo_x (v := (.agg (Rp.sub r 0 4))) (x_ldn s19 2 hr) (wo_nil (wd_run (wo_yesT (wo_mv (.int .i64 (.ofNat k)) ?_)))))
    refine wo_nil (wd_run (wo_yesT (wo_x (v := (.int .i64 (.ofNat (k + 1)))) (w_bin (add_i64 k 1 (by omega) _ _)) (wo_nil (wd_run ?_)))))
    refine wo_yesT (wo_x (v := (.agg (Rp.sub r 0 4))) (x_ldn s19 2 hr) (wo_nil (wd_nil (ws_cons (wo_yesT ?_)))))
    obtain ⟨_, H27, ⟨q21, wk23, wo24, rfl, q22, h25, h26, s28⟩, k29⟩ := partI_ok (N := N) (d := d + 9) T (i := 0) (j := k + 1) (by omega) s19 (hr.sub 0 4) hk hv hp (by omega) (by omega) (by omega) (by omega) (by omega) (by omega)
    refine wo_call k29 (wo_nil (wd_againY (v := (.agg (Rp.sub r 0 4))) (hs := hsame) (x_ldn s28 2 hr) (wd_nil (ws_cons (wo_yesT ?_)))))
    have z30 : 2 ≤ sizeN (win ks 0 (k + 1)) [] (win ps 0 (k + 1 + 1)) ∧ sizeN (win ks 0 (k + 1)) [] (win ps 0 (k + 1 + 1)) ≤ 1099511627776 := ⟨by unfold sizeN; omega, (hm.winI 0 (k + 1) 0 (k + 1 + 1)).s⟩
    obtain ⟨_, H31, ⟨rfl, s32⟩, k33⟩ := size_ok (N := N) (d := d + 9) TD (ks := win ks 0 (k + 1)) (vs := []) (ps := win ps 0 (k + 1 + 1)) (by omega) s28 q22 h25 .nil h26 (hm.winI 0 (k + 1) 0 (k + 1 + 1)).k (hm.winI 0 (k + 1) 0 (k + 1 + 1)).v (hm.winI 0 (k + 1) 0 (k + 1 + 1)).p (hm.winI 0 (k + 1) 0 (k + 1 + 1)).k' (hm.winI 0 (k + 1) 0 (k + 1 + 1)).v' (hm.winI 0 (k + 1) 0 (k + 1 + 1)).p' (hm.winI 0 (k + 1) 0 (k + 1 + 1)).n (hm.winI 0 (k + 1) 0 (k + 1 + 1)).s
    refine wo_call k33 (wo_nil (wd_againY (v := (.agg (Rp.sub r 0 4))) (hs := hsame) (x_ldn s32 2 hr) (wd_run (wo_yesT (wo_x (v := (.int .i64 (.ofNat ((sizeN (win ks 0 (k + 1)) [] (win ps 0 (k + 1 + 1))) - 2)))) (w_bin (sub_i64 (sizeN (win ks 0 (k + 1)) [] (win ps 0 (k + 1 + 1))) 2 (by omega) (by omega))) ?_)))))
    refine wo_nil (wd_run (wo_yesT (wo_x (v := (.int .i64 (.ofNat (2 * ((sizeN (win ks 0 (k + 1)) [] (win ps 0 (k + 1 + 1))) - 2))))) (w_bin (mul_nat 2 ((sizeN (win ks 0 (k + 1)) [] (win ps 0 (k + 1 + 1))) - 2) (by omega))) (wo_nil (wd_nil ?_)))))
    refine ws_cons (wo_yesT ?_)
    have z34 : 2 ≤ sizeN ks vs ps ∧ sizeN ks vs ps ≤ 1099511627776 := ⟨by unfold sizeN; omega, hm.s⟩
    obtain ⟨_, H35, ⟨rfl, s36⟩, k37⟩ := size_ok (N := N) (d := d + 9) TD (ks := ks) (vs := vs) (ps := ps) (by omega) s32 (hr.sub 0 4) hk hv hp hm.k hm.v hm.p hm.k' hm.v' hm.p' hm.n hm.s
    refine wo_call k37 (wo_nil (wd_againY (v := (.int .i64 (.ofNat ((sizeN (win ks 0 (k + 1)) [] (win ps 0 (k + 1 + 1))) - 2)))) (hs := same_int) (w_bin (sub_i64 (sizeN (win ks 0 (k + 1)) [] (win ps 0 (k + 1 + 1))) 2 (by omega) (by omega))) (wd_againY (v := (.int .i64 (.ofNat (2 * ((sizeN (win ks 0 (k + 1)) [] (win ps 0 (k + 1 + 1))) - 2))))) (hs := same_int) (w_bin (mul_nat 2 ((sizeN (win ks 0 (k + 1)) [] (win ps 0 (k + 1 + 1))) - 2) (by omega))) (wd_run (wo_yesT ?_)))))
    refine wo_x (v := (.int .i64 (.ofNat ((sizeN ks vs ps) - 2)))) (w_bin (sub_i64 (sizeN ks vs ps) 2 (by omega) (by omega))) (wo_nil (wd_run ?_))
    by_cases c38 : 2 * ((sizeN (win ks 0 (k + 1)) [] (win ps 0 (k + 1 + 1))) - 2) ≤ (sizeN ks vs ps) - 2
    · refine wo_yesT (wo_x (v := (.bool true)) (w_bin (cmp_leqT (2 * ((sizeN (win ks 0 (k + 1)) [] (win ps 0 (k + 1 + 1))) - 2)) ((sizeN ks vs ps) - 2) (by omega))) (wo_nil (wd_run (wo_x (v := (.bool true)) (w_pickT rfl rfl) (wo_nil ?_)))))
      refine wd_nil (ws_nil (thn_n (wp_condT (wp_skip (thn_n ?_)))))
      refine wp_block (wp_reg (wo_mv (.int .i64 (.ofNat k)) (wo_x (v := (.int .i64 (.ofNat (k + 1)))) (w_bin (add_i64 k 1 (by omega) _ _)) (wo_mv (.int .i64 (.ofNat (k + 1))) (wo_nil ?_)))))
      refine blk_n ?_
      refine lpq_n (ks.length - (k + 1)) (by omega) ⟨(k + 1), [(.int .i64 (.ofNat k)), (.int .i64 (.ofNat ((ks.length - 1) - 1))), (.bool true), (.bool true), (.agg (Rp.sub r 0 4)), (.int .i64 (.ofNat k)), (.int .i64 (.ofNat (k + 1))), (.agg q21), (.int .i64 (.ofNat (sizeN (win ks 0 (k + 1)) [] (win ps 0 (k + 1 + 1))))), (.int .i64 (.ofNat ((sizeN (win ks 0 (k + 1)) [] (win ps 0 (k + 1 + 1))) - 2))), (.int .i64 (.ofNat (2 * ((sizeN (win ks 0 (k + 1)) [] (win ps 0 (k + 1 + 1))) - 2)))), (.agg (Rp.sub r 0 4)), (.int .i64 (.ofNat (sizeN ks vs ps))), (.int .i64 (.ofNat ((sizeN ks vs ps) - 2))), (.bool true), (.bool true), (.int .i64 (.ofNat k)), (.int .i64 (.ofNat (k + 1)))], rfl, rfl, rfl, s36, (by omega), (by omega)⟩
    · refine wo_yesT (wo_x (v := (.bool false)) (w_bin (cmp_leqF (2 * ((sizeN (win ks 0 (k + 1)) [] (win ps 0 (k + 1 + 1))) - 2)) ((sizeN ks vs ps) - 2) (by omega))) (wo_nil (wd_run (wo_x (v := (.bool false)) (w_pickT rfl rfl) (wo_nil ?_)))))
      refine wd_nil (ws_nil (thn_n (wp_condF (wp_exit (thn_e ?_)))))
      refine lpq_e (blk_h (thn_n (wp_seq (wp_reg (wo_mv (.int .i64 (.ofNat k)) ?_)))))
      refine wo_mv (.int .i64 (.ofNat k)) (wo_nil (thn_n (wp_seq (wp_seq (wp_reg ?_)))))
      refine wo_x (v := (.ptr b1 0)) (ca_fla rfl rfl) (wo_x (v := (.bool false)) (x_ld1 s36 2 hr rfl) (wo_x (v := (.bool true)) (w_lit (fun K => rfl)) (wo_nil (thn_n (wp_condT ?_)))))
      refine wp_reg (wo_mv (.int .i64 (.ofNat k)) (wo_x (v := (.int .i64 (.ofNat (k + 1)))) (w_bin (add_i64 k 1 (by omega) _ _)) (wo_mv (.int .i64 (.ofNat (k + 1))) (wo_nil (thn_n ?_)))))
      refine wp_seq (wp_dreg (wd_run (wo_x (v := (.agg (Rp.sub r 0 4))) (x_ldn s36 2 hr) (wo_nil (wd_run ?_)))))
      refine wo_mv (.int .i64 (.ofNat k)) (wo_nil (wd_run (wo_x (v := (.ptr b1 1)) (ca_fla rfl rfl) (wo_nil (wd_run ?_)))))
      refine wo_x (v := vk) (x_ld1 s36 2 hr rfl) (wo_nil (wd_run (wo_mv (.int .i64 (.ofNat k)) (wo_nil (wd_run ?_)))))
      obtain ⟨b39, o40, L41, z42, g43, e44, n45, k46⟩ := fl_ix hk k (strs_get (show k < ks.length by omega))
      refine wo_x (v := (.ptr b39 o40)) (k46 rfl rfl) (wo_nil (wd_run (wo_x (v := (.str (txt ks k))) (s_zld1 s36 z42 (g43 0 _ rfl)) (wo_nil (wd_run ?_)))))
      refine wo_x (v := (.agg (Rp.sub r 0 4))) (x_ldn s36 2 hr) (wo_nil (wd_run (wo_mv (.int .i64 (.ofNat (k + 1))) (wo_nil (wd_run ?_)))))
      refine wo_mv (.int .i64 (.ofNat ks.length)) (wo_nil (wd_nil (ws_cons ?_)))
      obtain ⟨_, H53, ⟨q47, wk49, wo50, rfl, q48, h51, h52, s54⟩, k55⟩ := partI_ok (N := N) (d := d + 9) T (i := 0) (j := k) (by omega) s36 (hr.sub 0 4) hk hv hp (by omega) (by omega) (by omega) (by omega) (by omega) (by omega)
      refine wo_call k55 (wo_nil (wd_again (v := vk) (hs := fl_same hk) (x_ld1 s54 2 hr rfl) (wd_again (v := (.str (txt ks k))) (hs := same_str) (s_zld1 s54 z42 (g43 0 _ rfl)) (wd_again (v := (.agg (Rp.sub r 0 4))) (hs := hsame) (x_ldn s54 2 hr) (wd_nil ?_)))))
      refine ws_cons ?_
      obtain ⟨_, H59, ⟨q56, wk61, wv62, wp63, lk64, lv65, lp66, rfl, q57, ok67, ov68, op69, s58⟩, k60⟩ := own_ok T (N := N) (d := d + 9) (ks := win ks 0 k) (vs := []) (ps := win ps 0 (k + 1)) (by omega) s54 q48 h51 .nil h52 (hm.winI 0 k 0 (k + 1)).k (hm.winI 0 k 0 (k + 1)).v (hm.winI 0 k 0 (k + 1)).p
      have s70 : Sat H59 Z ((.cells b9 [(.bool false), .nils, .nils, .nils]) :: (.cells b5 [(.bool false), .nils, .nils, .nils]) :: (.obj b1 (.cells r false false)) :: (lp66 ++ (lv65 ++ (lk64 ++ F)))) := by have h := Sat.rot (l₁ := lp66 ++ (lv65 ++ (lk64))) (hl := [.cells b9 [(.bool false), .nils, .nils, .nils], .cells b5 [(.bool false), .nils, .nils, .nils], .obj b1 (.cells r false false)]) (by simp only [List.append_assoc]; exact s58); simp only [List.append_assoc] at h; exact h
      refine wo_call k60 (wo_nil (wd_again (v := vk) (hs := fl_same hk) (x_ld1 s70 2 hr rfl) (wd_again (v := (.str (txt ks k))) (hs := same_str) (s_zld1 s70 z42 (g43 0 _ rfl)) (wd_again (v := (.agg (Rp.sub r 0 4))) (hs := hsame) (x_ldn s70 2 hr) (wd_nil ?_)))))
      refine ws_cons ?_
      obtain ⟨_, H77, ⟨q71, wk73, wo74, rfl, q72, h75, h76, s78⟩, k79⟩ := partI_ok (N := N) (d := d + 9) T (i := k + 1) (j := ks.length) (by omega) s70 (hr.sub 0 4) hk hv hp (by omega) (by omega) (by omega) (by omega) (by omega) (by omega)
      refine wo_call k79 (wo_nil (wd_again (v := vk) (hs := fl_same hk) (x_ld1 s78 2 hr rfl) (wd_again (v := (.str (txt ks k))) (hs := same_str) (s_zld1 s78 z42 (g43 0 _ rfl)) (wd_nil (ws_cons ?_)))))
      obtain ⟨_, H83, ⟨q80, wk85, wv86, wp87, lk88, lv89, lp90, rfl, q81, ok91, ov92, op93, s82⟩, k84⟩ := own_ok T (N := N) (d := d + 9) (ks := win ks (k + 1) ks.length) (vs := []) (ps := win ps (k + 1) (ks.length + 1)) (by omega) s78 q72 h75 .nil h76 (hm.winI (k + 1) ks.length (k + 1) (ks.length + 1)).k (hm.winI (k + 1) ks.length (k + 1) (ks.length + 1)).v (hm.winI (k + 1) ks.length (k + 1) (ks.length + 1)).p
      have s94 : Sat H83 Z ((.cells b9 [(.bool false), .nils, .nils, .nils]) :: (.cells b5 [(.bool false), .nils, .nils, .nils]) :: (.obj b1 (.cells r false false)) :: (lp90 ++ (lv89 ++ (lk88 ++ (lp66 ++ (lv65 ++ (lk64 ++ F))))))) := by have h := Sat.rot (l₁ := lp90 ++ (lv89 ++ (lk88))) (hl := [.cells b9 [(.bool false), .nils, .nils, .nils], .cells b5 [(.bool false), .nils, .nils, .nils], .obj b1 (.cells r false false)]) (by simp only [List.append_assoc]; exact s82); simp only [List.append_assoc] at h; exact h
      refine wo_call k84 (wo_nil (wd_again (v := vk) (hs := fl_same hk) (x_ld1 s94 2 hr rfl) (wd_again (v := (.str (txt ks k))) (hs := same_str) (s_zld1 s94 z42 (g43 0 _ rfl)) (wd_nil (ws_cons ?_)))))
      have s95 := s94.pull 1
      obtain ⟨H96, s97, k98⟩ := s_stn s95 q57 0 4 rfl (Nat.le_of_ble_eq_true rfl)
      refine wo_n (k98 rfl rfl) (wo_nil (wd_again (v := vk) (hs := fl_same hk) (x_ld1 s97 2 hr rfl) (wd_again (v := (.str (txt ks k))) (hs := same_str) (s_zld1 s97 z42 (g43 0 _ rfl)) (wd_run (wo_mv (.str (txt ks k)) ?_)))))
      refine wo_nil (wd_nil (ws_cons ?_))
      have s99 := s97.pull 1
      obtain ⟨H100, s101, k102⟩ := s_stn s99 q81 0 4 rfl (Nat.le_of_ble_eq_true rfl)
      refine wo_n (k102 rfl rfl) (wo_nil (wd_run (wo_mv (.int .i64 0) (wo_nil (wd_nil ?_)))))
      refine ws_nil (thn_n (wp_ret ?_))
      refine fin_cc (w := (.str (txt ks k))) (w' := (.int .i64 0)) (o := 0) (o' := 0) s101 1 0 fun r105 r106 q103 q104 => ?_
      have s107 := s101.drop 0
      have s108 := s107.drop 0
      have s109 := s108.drop 0
      exact ⟨k, _, _, _, _, _, _, _, _, _, _, _, _, _, _, by omega, by omega, rfl, q103, q104, ⟨ok67, ov68, op69⟩, ⟨ok91, ov92, op93⟩, s109⟩
  · refine wo_x (v := (.bool false)) (w_bin (cmp_lssF k ((ks.length - 1) - 1) (by omega))) (wo_nil (wd_run (wo_mv (.bool false) (wo_nil (wd_run ?_)))))
    refine wo_noF (wo_nil (wd_run (wo_noF (wo_nil (wd_run ?_)))))
    refine wo_noF (wo_nil (wd_run (wo_noF (wo_nil (wd_nil ?_)))))
    refine ws_cons (wo_noF (wo_nil (wd_againN (wd_nil (ws_cons ?_)))))
    refine wo_noF (wo_nil (wd_againN (wd_run (wo_noF (wo_nil ?_)))))
    refine wd_run (wo_noF (wo_nil (wd_nil (ws_cons (wo_noF ?_)))))
    refine wo_nil (wd_againN (wd_againN (wd_run (wo_noF (wo_nil ?_)))))
    refine wd_run (wo_noF (wo_nil (wd_run (wo_x (v := (.bool false)) (w_pickF rfl rfl) (wo_nil ?_)))))
    refine wd_nil (ws_nil (thn_n (wp_condF (wp_exit (thn_e ?_)))))
    refine lpq_e (blk_h (thn_n (wp_seq (wp_reg (wo_mv (.int .i64 (.ofNat k)) ?_)))))
    refine wo_mv (.int .i64 (.ofNat k)) (wo_nil (thn_n (wp_seq (wp_seq (wp_reg ?_)))))
    refine wo_x (v := (.ptr b1 0)) (ca_fla rfl rfl) (wo_x (v := (.bool false)) (x_ld1 s19 2 hr rfl) (wo_x (v := (.bool true)) (w_lit (fun K => rfl)) (wo_nil (thn_n (wp_condT ?_)))))
    refine wp_reg (wo_mv (.int .i64 (.ofNat k)) (wo_x (v := (.int .i64 (.ofNat (k + 1)))) (w_bin (add_i64 k 1 (by omega) _ _)) (wo_mv (.int .i64 (.ofNat (k + 1))) (wo_nil (thn_n ?_)))))
    refine wp_seq (wp_dreg (wd_run (wo_x (v := (.agg (Rp.sub r 0 4))) (x_ldn s19 2 hr) (wo_nil (wd_run ?_)))))
    refine wo_mv (.int .i64 (.ofNat k)) (wo_nil (wd_run (wo_x (v := (.ptr b1 1)) (ca_fla rfl rfl) (wo_nil (wd_run ?_)))))
    refine wo_x (v := vk) (x_ld1 s19 2 hr rfl) (wo_nil (wd_run (wo_mv (.int .i64 (.ofNat k)) (wo_nil (wd_run ?_)))))
    obtain ⟨b110, o111, L112, z113, g114, e115, n116, k117⟩ := fl_ix hk k (strs_get (show k < ks.length by omega))
    refine wo_x (v := (.ptr b110 o111)) (k117 rfl rfl) (wo_nil (wd_run (wo_x (v := (.str (txt ks k))) (s_zld1 s19 z113 (g114 0 _ rfl)) (wo_nil (wd_run ?_)))))
    refine wo_x (v := (.agg (Rp.sub r 0 4))) (x_ldn s19 2 hr) (wo_nil (wd_run (wo_mv (.int .i64 (.ofNat (k + 1))) (wo_nil (wd_run ?_)))))
    refine wo_mv (.int .i64 (.ofNat ks.length)) (wo_nil (wd_nil (ws_cons ?_)))
    obtain ⟨_, H124, ⟨q118, wk120, wo121, rfl, q119, h122, h123, s125⟩, k126⟩ := partI_ok (N := N) (d := d + 9) T (i := 0) (j := k) (by omega) s19 (hr.sub 0 4) hk hv hp (by omega) (by omega) (by omega) (by omega) (by omega) (by omega)
    refine wo_call k126 (wo_nil (wd_again (v := vk) (hs := fl_same hk) (x_ld1 s125 2 hr rfl) (wd_again (v := (.str (txt ks k))) (hs := same_str) (s_zld1 s125 z113 (g114 0 _ rfl)) (wd_again (v := (.agg (Rp.sub r 0 4))) (hs := hsame) (x_ldn s125 2 hr) (wd_nil ?_)))))
    refine ws_cons ?_
    obtain ⟨_, H130, ⟨q127, wk132, wv133, wp134, lk135, lv136, lp137, rfl, q128, ok138, ov139, op140, s129⟩, k131⟩ := own_ok T (N := N) (d := d + 9) (ks := win ks 0 k) (vs := []) (ps := win ps 0 (k + 1)) (by omega) s125 q119 h122 .nil h123 (hm.winI 0 k 0 (k + 1)).k (hm.winI 0 k 0 (k + 1)).v (hm.winI 0 k 0 (k + 1)).p
    have s141 : Sat H130 Z ((.cells b9 [(.bool false), .nils, .nils, .nils]) :: (.cells b5 [(.bool false), .nils, .nils, .nils]) :: (.obj b1 (.cells r false false)) :: (lp137 ++ (lv136 ++ (lk135 ++ F)))) := by have h := Sat.rot (l₁ := lp137 ++ (lv136 ++ (lk135))) (hl := [.cells b9 [(.bool false), .nils, .nils, .nils], .cells b5 [(.bool false), .nils, .nils, .nils], .obj b1 (.cells r false false)]) (by simp only [List.append_assoc]; exact s129); simp only [List.append_assoc] at h; exact h
    refine wo_call k131 (wo_nil (wd_again (v := vk) (hs := fl_same hk) (x_ld1 s141 2 hr rfl) (wd_again (v := (.str (txt ks k))) (hs := same_str) (s_zld1 s141 z113 (g114 0 _ rfl)) (wd_again (v := (.agg (Rp.sub r 0 4))) (hs := hsame) (x_ldn s141 2 hr) (wd_nil ?_)))))
    refine ws_cons ?_
    obtain ⟨_, H148, ⟨q142, wk144, wo145, rfl, q143, h146, h147, s149⟩, k150⟩ := partI_ok (N := N) (d := d + 9) T (i := k + 1) (j := ks.length) (by omega) s141 (hr.sub 0 4) hk hv hp (by omega) (by omega) (by omega) (by omega) (by omega) (by omega)
    refine wo_call k150 (wo_nil (wd_again (v := vk) (hs := fl_same hk) (x_ld1 s149 2 hr rfl) (wd_again (v := (.str (txt ks k))) (hs := same_str) (s_zld1 s149 z113 (g114 0 _ rfl)) (wd_nil (ws_cons ?_)))))
    obtain ⟨_, H154, ⟨q151, wk156, wv157, wp158, lk159, lv160, lp161, rfl, q152, ok162, ov163, op164, s153⟩, k155⟩ := own_ok T (N := N) (d := d + 9) (ks := win ks (k + 1) ks.length) (vs := []) (ps := win ps (k + 1) (ks.length + 1)) (by omega) s149 q143 h146 .nil h147 (hm.winI (k + 1) ks.length (k + 1) (ks.length + 1)).k (hm.winI (k + 1) ks.length (k + 1) (ks.length + 1)).v (hm.winI (k + 1) ks.length (k + 1) (ks.length + 1)).p
    have s165 : Sat H154 Z ((.cells b9 [(.bool false), .nils, .nils, .nils]) :: (.cells b5 [(.bool false), .nils, .nils, .nils]) :: (.obj b1 (.cells r false false)) :: (lp161 ++ (lv160 ++ (lk159 ++ (lp137 ++ (lv136 ++ (lk135 ++ F))))))) := by have h := Sat.rot (l₁ := lp161 ++ (lv160 ++ (lk159))) (hl := [.cells b9 [(.bool false), .nils, .nils, .nils], .cells b5 [(.bool false), .nils, .nils, .nils], .obj b1 (.cells r false false)]) (by simp only [List.append_assoc]; exact s153); simp only [List.append_assoc] at h; exact h
    refine wo_call k155 (wo_nil (wd_again (v := vk) (hs := fl_same hk) (x_ld1 s165 2 hr rfl) (wd_again (v := (.str (txt ks k))) (hs := same_str) (s_zld1 s165 z113 (g114 0 _ rfl)) (wd_nil (ws_cons ?_)))))
    have s166 := s165.pull 1
    obtain ⟨H167, s168, k169⟩ := s_stn s166 q128 0 4 rfl (Nat.le_of_ble_eq_true rfl)
    refine wo_n (k169 rfl rfl) (wo_nil (wd_again (v := vk) (hs := fl_same hk) (x_ld1 s168 2 hr rfl) (wd_again (v := (.str (txt ks k))) (hs := same_str) (s_zld1 s168 z113 (g114 0 _ rfl)) (wd_run (wo_mv (.str (txt ks k)) ?_)))))
    refine wo_nil (wd_nil (ws_cons ?_))
    have s170 := s168.pull 1
    obtain ⟨H171, s172, k173⟩ := s_stn s170 q152 0 4 rfl (Nat.le_of_ble_eq_true rfl)
    refine wo_n (k173 rfl rfl) (wo_nil (wd_run (wo_mv (.int .i64 0) (wo_nil (wd_nil ?_)))))
    refine ws_nil (thn_n (wp_ret ?_))
    refine fin_cc (w := (.str (txt ks k))) (w' := (.int .i64 0)) (o := 0) (o' := 0) s172 1 0 fun r176 r177 q174 q175 => ?_
    have s178 := s172.drop 0
    have s179 := s178.drop 0
    have s180 := s179.drop 0
    exact ⟨k, _, _, _, _, _, _, _, _, _, _, _, _, _, _, by omega, by omega, rfl, q174, q175, ⟨ok138, ov139, op140⟩, ⟨ok162, ov163, op164⟩, s180⟩
end
end Go.Jt
