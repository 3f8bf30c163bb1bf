/-
  node.Decode, gone through. PRINTED by wip/tools/mkdec.py.
-/
import Derived.Test.YtehjgplolaekmaaJtDec2
set_option autoImplicit false
set_option linter.all false
set_option maxRecDepth 10000
set_option maxHeartbeats 8000000
namespace Go.Jt
noncomputable section
variable [Gl]
theorem bindV {tbl : Nat → Option FT} {N d g : Nat} {a v : AV} {H H' : AH} (hd : 1 ≤ d) (h : DoesV (RUN tbl N d) (.fn (.fn (.func g)) [] []) [a] H v H') : DoesV (RUN tbl N d) (.fn (.fn (.func g)) [a] []) [] H v H' := by
  obtain ⟨d, rfl⟩ : ∃ e, d = e + 1 := ⟨d - 1, by omega⟩
  exact h
theorem take2_rd [NrN] [BkN] [NdN] {tbl : Nat → Option FT} (T : NrT tbl) {c0 c1 : Nat} {r : List Nat} {bad : Bool} {br : Nat} {N d : Nat} (hd : 1 ≤ d) {Z : Fz} {F : List Hl} {H : AH} (hs : Sat H Z (.cells br [.str (c0 :: c1 :: r), .bool bad] :: F)) :
    Ct (RUN tbl N d) (.fn (.fn (.func NrN.take)) [] []) [.ptr br 0, .int .i64 (.ofNat 2)] H fun v H' => v = .str [c0, c1] ∧ Sat H' Z (.cells br [.str r, .bool bad] :: F) := by
  have h := take_rd T (n := 2) (N := N) hd hs
  have e : 2 ≤ (c0 :: c1 :: r).length := by simp
  simp only [tkS, rsS, bdS, if_pos e] at h
  exact h
theorem takes_rd [NrN] [BkN] [NdN] {tbl : Nat → Option FT} (T : NrT tbl) {s : List Nat} {bad : Bool} {br : Nat} (hsl : s.length < 2) {N d : Nat} (hd : 1 ≤ d) {Z : Fz} {F : List Hl} {H : AH} (hs : Sat H Z (.cells br [.str s, .bool bad] :: F)) :
    Ct (RUN tbl N d) (.fn (.fn (.func NrN.take)) [] []) [.ptr br 0, .int .i64 (.ofNat 2)] H fun v H' => v = .str [] ∧ Sat H' Z (.cells br [.str s, .bool true] :: F) := by
  have h := take_rd T (n := 2) (N := N) hd hs
  have e : ¬ 2 ≤ s.length := by omega
  simp only [tkS, rsS, bdS, if_neg e] at h
  exact h
theorem decs_ok [NrN] [BkN] [NdN] {tbl : Nat → Option FT} (T : NrT tbl) {lf : Bool} {s : List Nat} (hsl : s.length < 2) {N d : Nat} (hd : 3 ≤ d) {Z : Fz} {F : List Hl} {H : AH} (hs : Sat H Z (F))  :
    Ct (RUN tbl N d) (.fn (.fn (.func NrN.decode)) [] []) [(.bool lf), (.str s)] H fun v H' => ∃ r, v = .tup [.agg r, .int .i64 4] ∧ RL r [.bool false, .nils, .nils, .nils] ∧ Sat H' Z F := by
  obtain ⟨d, rfl⟩ : ∃ e, d = e + 3 := ⟨d - 3, by omega⟩
  refine ct_code T.decode (b := b_rdecode) (env := [(.bool lf), (.str s), u_, u_, u_, u_, u_, u_, u_, u_, u_, u_, u_, u_, u_, u_, u_, u_, u_, u_, u_, u_, u_, u_, u_, u_, u_, u_, u_, u_, u_, u_, u_, u_, u_, u_, u_, u_, u_, u_, u_, u_, u_, u_, u_, u_, u_, u_, u_, u_, u_, u_, u_, u_, u_, u_, u_, u_, u_, u_, u_, u_, u_, u_, u_, u_, u_, u_, u_, u_, u_, u_, u_, u_, u_, u_, u_, u_, u_, u_, u_, u_, u_, u_, u_, u_, u_, u_, u_, u_, u_]) ?_
  unfold b_rdecode
  refine wp_seq (wp_reg ?_)
  obtain ⟨b1, H2, s3, k4⟩ := s_alloc hs (RL.cat (RL.one (.bool false)) (RL.rep 3 .nils) rfl)
  refine wo_x (v := (.ptr b1 0)) (k4) (wo_mv (.int .i64 0) (wo_nil (thn_n (wp_seq (wp_reg ?_)))))
  refine wo_mv (.str s) (wo_x (v := (.agg (Rp.set (.cat 1 (.one (.str [])) (.one (.bool false))) 0 (.str s)))) (w_build (r := (Rp.set (.cat 1 (.one (.str [])) (.one (.bool false))) 0 (.str s))) (fill_s (v := (.str s)) rfl rfl rfl fill_nil)) ?_)
  obtain ⟨b5, H6, s7, k8⟩ := s_boxn s3 ((RL.cat (RL.one (.str [])) (RL.one (.bool false)) rfl).set 0 (.str s))
  refine wo_x (v := (.ptr b5 0)) (k8 rfl) (wo_mv (.ptr b5 0) (wo_nil (thn_n (wp_seq (wp_reg ?_)))))
  refine wo_mv (.bool lf) (wo_x (v := (.agg (Rp.set (.cat 1 (.one (.bool false)) (.rep 3 .nils)) 0 (.bool lf)))) (w_build (r := (Rp.set (.cat 1 (.one (.bool false)) (.rep 3 .nils)) 0 (.bool lf))) (fill_s (v := (.bool lf)) rfl rfl rfl fill_nil)) ?_)
  obtain ⟨b9, H10, s11, k12⟩ := s_alloc s7 (RL.cat (RL.one (.bool false)) (RL.rep 3 .nils) rfl)
  refine wo_x (v := (.ptr b9 0)) (k12) ?_
  obtain ⟨H13, s14, k15⟩ := s_stn s11 ((RL.cat (RL.one (.bool false)) (RL.rep 3 .nils) rfl).set 0 (.bool lf)) 0 4 rfl (Nat.le_of_ble_eq_true rfl)
  refine wo_n (k15 rfl rfl) (wo_nil (thn_n (wp_seq (wp_reg (wo_mv (.ptr b5 0) ?_)))))
  have s16 := s14.pull 1
  obtain ⟨_, H17, ⟨rfl, s18⟩, k19⟩ := takes_rd (N := N) (d := d + 2) T hsl (by omega) s16
  refine wo_call k19 (wo_mv (.str []) (wo_nil (thn_n (wp_seq (wp_seq ?_)))))
  refine wp_reg (wo_mv (.ptr b5 0) (wo_x (v := (.ptr b5 0)) (w_lit (fun K => rfl)) (wo_x (v := (.ptr b5 1)) (ca_fla rfl rfl) (wo_x (v := (.bool true)) (s_ld1 s18 0 rfl) (wo_nil ?_)))))
  refine thn_n (wp_condT (wp_seq (wp_reg (wo_x (v := (.agg (.cat 1 (.one (.bool false)) (.rep 3 .nils)))) (w_build (r := (.cat 1 (.one (.bool false)) (.rep 3 .nils))) fill_nil) ?_))))
  have s20 := s18.pull 2
  obtain ⟨H21, s22, k23⟩ := s_stn s20 (RL.cat (RL.one (.bool false)) (RL.rep 3 .nils) rfl) 0 4 rfl (Nat.le_of_ble_eq_true rfl)
  refine wo_n (k23 rfl rfl) (wo_mv (.int .i64 4) (wo_nil (thn_n (wp_ret (thn_r ?_)))))
  refine fin_ct (w := (.int .i64 4)) (off := 0) s22 0 fun r24 q25 => ?_
  have s26 := s22.drop 0
  have s27 := s26.drop 0
  have s28 := s27.drop 0
  exact ⟨_, rfl, q25, s28⟩
theorem decl_rd [NrN] [BkN] [NdN] {tbl : Nat → Option FT} (T : NrT tbl) (TB : BkT tbl) (TD : NdT tbl) {c0 c1 : Nat} {r : List Nat} (h0 : c0 ≤ 255) (h1 : c1 ≤ 255) (hr : ∀ c ∈ r, c ≤ 255) (hbig : sizeN (dall true (c0 :: c1 :: r)).ks (dall true (c0 :: c1 :: r)).vs (dall true (c0 :: c1 :: r)).ps ≤ 1099511627776) {N d : Nat} (hd : 12 ≤ d) {Z : Fz} {F : List Hl} {H : AH} (hs : Sat H Z (F)) (hN : 70000 ≤ N) :
    Ct (RUN tbl N d) (.fn (.fn (.func NrN.decode)) [] []) [(.bool true), (.str (c0 :: c1 :: r))] H fun v H' => (DecOk true (c0 :: c1 :: r) ∧ ∃ q vk vv hk hv, v = .tup [.agg q, .int .i64 0] ∧ RL q [.bool true, vk, vv, .nils] ∧ Own 1 vk (dall true (c0 :: c1 :: r)).ks.length (txC (dall true (c0 :: c1 :: r)).ks) hk ∧ Own 1 vv (dall true (c0 :: c1 :: r)).vs.length (txC (dall true (c0 :: c1 :: r)).vs) hv ∧ Sat H' Z (hk ++ (hv ++ F))) ∨ (¬ DecOk true (c0 :: c1 :: r) ∧ ∃ q, v = .tup [.agg q, .int .i64 4] ∧ RL q [.bool false, .nils, .nils, .nils] ∧ Sat H' Z F) := by
  obtain ⟨d, rfl⟩ : ∃ e, d = e + 12 := ⟨d - 12, by omega⟩
  refine ct_code T.decode (b := b_rdecode) (env := [(.bool true), (.str (c0 :: c1 :: r)), u_, u_, u_, u_, u_, u_, u_, u_, u_, u_, u_, u_, u_, u_, u_, u_, u_, u_, u_, u_, u_, u_, u_, u_, u_, u_, u_, u_, u_, u_, u_, u_, u_, u_, u_, u_, u_, u_, u_, u_, u_, u_, u_, u_, u_, u_, u_, u_, u_, u_, u_, u_, u_, u_, u_, u_, u_, u_, u_, u_, u_, u_, u_, u_, u_, u_, u_, u_, u_, u_, u_, u_, u_, u_, u_, u_, u_, u_, u_, u_, u_, u_, u_, u_, u_, u_, u_, u_, u_]) ?_
  unfold b_rdecode
  refine wp_seq (wp_reg ?_)
  obtain ⟨b1, H2, s3, k4⟩ := s_alloc hs (RL.cat (RL.one (.bool false)) (RL.rep 3 .nils) rfl)
  refine wo_x (v := (.ptr b1 0)) (k4) (wo_mv (.int .i64 0) (wo_nil (thn_n (wp_seq (wp_reg ?_)))))
  refine wo_mv (.str (c0 :: c1 :: r)) (wo_x (v := (.agg (Rp.set (.cat 1 (.one (.str [])) (.one (.bool false))) 0 (.str (c0 :: c1 :: r))))) (w_build (r := (Rp.set (.cat 1 (.one (.str [])) (.one (.bool false))) 0 (.str (c0 :: c1 :: r)))) (fill_s (v := (.str (c0 :: c1 :: r))) rfl rfl rfl fill_nil)) ?_)
  obtain ⟨b5, H6, s7, k8⟩ := s_boxn s3 ((RL.cat (RL.one (.str [])) (RL.one (.bool false)) rfl).set 0 (.str (c0 :: c1 :: r)))
  refine wo_x (v := (.ptr b5 0)) (k8 rfl) (wo_mv (.ptr b5 0) (wo_nil (thn_n (wp_seq (wp_reg ?_)))))
  refine wo_mv (.bool true) (wo_x (v := (.agg (Rp.set (.cat 1 (.one (.bool false)) (.rep 3 .nils)) 0 (.bool true)))) (w_build (r := (Rp.set (.cat 1 (.one (.bool false)) (.rep 3 .nils)) 0 (.bool true))) (fill_s (v := (.bool true)) rfl rfl rfl fill_nil)) ?_)
  obtain ⟨b9, H10, s11, k12⟩ := s_alloc s7 (RL.cat (RL.one (.bool false)) (RL.rep 3 .nils) rfl)
  refine wo_x (v := (.ptr b9 0)) (k12) ?_
  obtain ⟨H13, s14, k15⟩ := s_stn s11 ((RL.cat (RL.one (.bool false)) (RL.rep 3 .nils) rfl).set 0 (.bool true)) 0 4 rfl (Nat.le_of_ble_eq_true rfl)
  refine wo_n (k15 rfl rfl) (wo_nil (thn_n (wp_seq (wp_reg (wo_mv (.ptr b5 0) ?_)))))
  have s16 := s14.pull 1
  obtain ⟨_, H17, ⟨rfl, s18⟩, k19⟩ := take2_rd (N := N) (d := d + 11) T (by omega) s16
  refine wo_call k19 (wo_mv (.str [c0, c1]) (wo_nil (thn_n (wp_seq (wp_seq ?_)))))
  refine wp_reg (wo_mv (.ptr b5 0) (wo_x (v := (.ptr b5 0)) (w_lit (fun K => rfl)) (wo_x (v := (.ptr b5 1)) (ca_fla rfl rfl) (wo_x (v := (.bool false)) (s_ld1 s18 0 rfl) (wo_nil ?_)))))
  refine thn_n (wp_condF (wp_skip (thn_n (wp_seq (wp_reg ?_)))))
  refine wo_mv (.ptr b5 0) (wo_x (v := (.fn (.fn (.func NrN.text)) [(.ptr b5 0)] [])) (w_lit (fun K => rfl)) (wo_mv (.ptr b5 0) (wo_x (v := (.fn (.fn (.func NrN.kid)) [(.ptr b5 0)] [])) (w_lit (fun K => rfl)) (wo_mv (.fn (.fn (.func NrN.text)) [(.ptr b5 0)] []) (wo_mv (.fn (.fn (.func NrN.kid)) [(.ptr b5 0)] []) ?_)))))
  refine wo_nil (thn_n (wp_seq (wp_seq (wp_reg (wo_mv (.bool true) ?_)))))
  refine wo_x (v := (.bool false)) (w_lit (fun K => rfl)) (wo_nil (thn_n (wp_condF (wp_skip (thn_n ?_)))))
  refine wp_seq (wp_seq (wp_dreg (wd_run (wo_mv (.str [c0, c1]) (wo_nil ?_)))))
  refine wd_run (wo_x (v := (.int .u8 (.ofNat c0))) (w_ist (s := [c0, c1]) (i := 0) (c := c0) rfl rfl rfl) (wo_nil (wd_run (wo_x (v := (.int .i64 (.ofNat c0))) (w_cvi (r := c0) rfl (wrap_i64 _ (by omega))) (wo_nil ?_)))))
  refine wd_run (wo_x (v := (.int .i64 (.ofNat (c0 * 256)))) (w_bin (shl_nat c0 8 (p := 256) rfl (wrap_i64 _ (by omega)))) (wo_nil (wd_run (wo_mv (.str [c0, c1]) (wo_nil ?_)))))
  refine wd_run (wo_x (v := (.int .u8 (.ofNat c1))) (w_ist (s := [c0, c1]) (i := 1) (c := c1) rfl rfl rfl) (wo_nil (wd_run (wo_x (v := (.int .i64 (.ofNat c1))) (w_cvi (r := c1) rfl (wrap_i64 _ (by omega))) (wo_nil ?_)))))
  refine wd_run (wo_x (v := (.int .i64 (.ofNat ((c0 * 256) + c1)))) (w_bin (or_i64 (c0 * 256) c1 8 256 rfl (by omega) (by omega) (by omega))) (wo_nil (wd_run (wo_mv (.int .i64 0) (wo_nil ?_)))))
  refine wd_nil (ws_nil (thn_n (wp_block ?_)))
  refine wp_loop (fun ms_ env ds H => ∃ (j : Nat) (s2 : List Nat) (bad : _root_.Bool) (ks : List (List Nat)) (vs : List (List Nat)) (vk : AV) (vv : AV) (hk : List Hl) (hv : List Hl), ∃ ys20 : List AV, ms_ = c0 * 256 + c1 - j ∧ env = [(.bool true), (.str (c0 :: c1 :: r)), u_, u_, (.ptr b1 0), (.int .i64 0), (.ptr b5 0), (.ptr b9 0), (.str [c0, c1]), (.fn (.fn (.func NrN.text)) [(.ptr b5 0)] []), (.fn (.fn (.func NrN.kid)) [(.ptr b5 0)] []), (.str (c0 :: c1 :: r)), (.agg (Rp.set (.cat 1 (.one (.str [])) (.one (.bool false))) 0 (.str (c0 :: c1 :: r)))), (.ptr b5 0), (.bool true), (.agg (Rp.set (.cat 1 (.one (.bool false)) (.rep 3 .nils)) 0 (.bool true))), (.ptr b5 0), (.str [c0, c1]), (.ptr b5 0), (.ptr b5 0), (.ptr b5 1), (.bool false), u_, (.ptr b5 0), (.fn (.fn (.func NrN.text)) [(.ptr b5 0)] []), (.ptr b5 0), (.fn (.fn (.func NrN.kid)) [(.ptr b5 0)] []), (.bool true), (.bool false), u_, u_, u_, u_, u_, u_, u_, (.str [c0, c1]), (.int .u8 (.ofNat c0)), (.int .i64 (.ofNat c0)), (.int .i64 (.ofNat (c0 * 256))), (.str [c0, c1]), (.int .u8 (.ofNat c1)), (.int .i64 (.ofNat c1)), (.int .i64 (.ofNat ((c0 * 256) + c1))), (.int .i64 (.ofNat j)), (lget ys20 0), (lget ys20 1), (lget ys20 2), (lget ys20 3), (lget ys20 4), (lget ys20 5), (lget ys20 6), (lget ys20 7), (lget ys20 8), (lget ys20 9), (lget ys20 10), (lget ys20 11), (lget ys20 12), (lget ys20 13), (lget ys20 14), (lget ys20 15), (lget ys20 16), (lget ys20 17), (lget ys20 18), (lget ys20 19), (lget ys20 20), (lget ys20 21), (lget ys20 22), (lget ys20 23), (lget ys20 24), (lget ys20 25), (lget ys20 26), (lget ys20 27), u_, u_, u_, u_, u_, u_, u_, u_, u_, u_, u_, u_, u_, u_, u_, u_, u_, u_] ∧ ds = [] ∧ Sat H Z ((.cells b5 [(.str s2), (.bool bad)]) :: (.cells b9 [(.bool true), vk, vv, .nils]) :: (.cells b1 [(.bool false), .nils, .nils, .nils]) :: (hk ++ (hv ++ F))) ∧ (diter true j (dst0 true r) = ⟨s2, bad, ks, vs, []⟩) ∧ (Own 1 vk ks.length (txC ks) hk) ∧ (Own 1 vv vs.length (txC vs) hv) ∧ (∀ c ∈ s2, c ≤ 255) ∧ (ks.length = j) ∧ (vs.length = j) ∧ (j ≤ c0 * 256 + c1)) (c0 * 256 + c1 - 0) (by omega) ⟨0, r, false, [], [], .nils, .nils, [], [], [u_, u_, u_, u_, u_, u_, u_, u_, u_, u_, u_, u_, u_, u_, u_, u_, u_, u_, u_, u_, u_, u_, u_, u_, u_, u_, u_, u_], rfl, rfl, rfl, s18, rfl, .nil, .nil, hr, rfl, rfl, (by omega)⟩ ?_
  rintro ms_ env ds H hms_ ⟨j, s2, bad, ks, vs, vk, vv, hk, hv, ys20, rfl, rfl, rfl, s21, hst, hok, hov, hb2, hkl, hvl, hj⟩
  refine wp_seq (wp_reg ?_)
  by_cases c22 : j < (c0 * 256) + c1
  · refine wo_x (v := (.bool true)) (w_bin (cmp_lssT j ((c0 * 256) + c1) (by omega))) (wo_nil (thn_n (wp_seq (wp_condT (wp_skip ?_)))))
    refine thn_n (wp_seq (wp_block (wp_seq (wp_seq (wp_reg ?_)))))
    refine wo_mv (.ptr b5 0) (wo_x (v := (.ptr b5 0)) (w_lit (fun K => rfl)) (wo_x (v := (.ptr b5 1)) (ca_fla rfl rfl) (wo_x (v := (.bool bad)) (s_ld1 s21 0 rfl) (wo_nil (thn_n ?_)))))
    by_cases c23 : bad = true
    · have hfin : dall true (c0 :: c1 :: r) = ⟨s2, bad, ks, vs, []⟩ := by rw [← hst]; show diter true (c0 * 256 + c1) (dst0 true r) = _; exact diter_bad (by omega) (by rw [hst]; exact c23)
      refine wp_condT (hc := (congrArg AV.bool c23)) (wp_exit (thn_e (blk_e (thn_e (lpq_e ?_)))))
      refine blk_h (thn_n (wp_seq (wp_seq (wp_reg (wo_mv (.ptr b5 0) ?_)))))
      refine wo_x (v := (.ptr b5 0)) (w_lit (fun K => rfl)) (wo_x (v := (.ptr b5 1)) (ca_fla rfl rfl) (wo_x (v := (.bool bad)) (s_ld1 s21 0 rfl) (wo_mv (.bool bad) (wo_noT (ht := (congrArg AV.bool c23)) (wo_noT (ht := (congrArg AV.bool c23)) ?_)))))
      refine wo_noT (ht := (congrArg AV.bool c23)) (wo_noT (ht := (congrArg AV.bool c23)) (wo_noT (ht := (congrArg AV.bool c23)) (wo_x (v := (.bool true)) (w_pickT (congrArg AV.bool c23) rfl) (wo_mv (.bool true) (wo_noT ?_)))))
      refine wo_noT (wo_noT (wo_x (v := (.bool true)) (w_pickT rfl rfl) (wo_nil (thn_n (wp_condT ?_)))))
      refine wp_seq (wp_reg (wo_x (v := (.agg (.cat 1 (.one (.bool false)) (.rep 3 .nils)))) (w_build (r := (.cat 1 (.one (.bool false)) (.rep 3 .nils))) fill_nil) ?_))
      have s24 := s21.pull 2
      obtain ⟨H25, s26, k27⟩ := s_stn s24 (RL.cat (RL.one (.bool false)) (RL.rep 3 .nils) rfl) 0 4 rfl (Nat.le_of_ble_eq_true rfl)
      refine wo_n (k27 rfl rfl) (wo_mv (.int .i64 4) (wo_nil (thn_n (wp_ret (thn_r ?_)))))
      refine fin_ct (w := (.int .i64 4)) (off := 0) s26 0 fun r28 q29 => ?_
      have s30 := s26.drop 0
      have s31 := s30.drop 0
      have s32 := s31.drop 0
      exact .inr ⟨fun h => (by unfold DecOk at h; rw [hfin] at h; have h2 : bad = false := h.2.1; rw [c23] at h2; cases h2), _, rfl, q29, (Sat.dropP (Sat.dropP s32))⟩
    · refine wp_condF (hc := (congrArg AV.bool (Bool.eq_false_iff.2 c23))) (wp_skip (thn_n (wp_seq (wp_dreg (wd_run ?_)))))
      refine wo_x (v := (.ptr b9 1)) (ca_fla rfl rfl) (wo_nil (wd_run (wo_x (v := vk) (s_ld1 s21 1 rfl) (wo_nil (wd_run ?_)))))
      refine wo_mv (.fn (.fn (.func NrN.text)) [(.ptr b5 0)] []) (wo_nil (wd_nil (ws_cons ?_)))
      obtain ⟨_, H33, ⟨rfl, s34⟩, k35⟩ := text_rd (N := N) (d := d + 11) T hb2 (by omega) s21
      refine wo_call (bindV (by omega) k35) (wo_nil (wd_again (v := vk) (hs := own_same hok) (s_ld1 s34 1 rfl) (wd_run ?_)))
      obtain ⟨b36, H37, s38, k39⟩ := s_bsl s34 ((RL.rep 1 (.str [])).set 0 (.str (txV s2)))
      refine wo_x (v := (.slc b36 0 1 1)) (k39 (fill_s (v := (.str (txV s2))) rfl rfl rfl fill_nil)) (wo_nil (wd_nil (ws_cons ?_)))
      have c40 := src_sl (es := 1) s38 0 (.slc _ 0 1 1 1) (Nat.le_of_ble_eq_true rfl)
      have r41 := Sat.rot (l₁ := [.cells b36 [(.str (txV s2))], .cells b5 [(.str (txS s2)), (.bool (txB bad s2))], .cells b9 [(.bool true), vk, vv, .nils], .cells b1 [(.bool false), .nils, .nils, .nils]]) (hl := hk) s38
      obtain ⟨v42, hl43, H44, h45, s46, k47⟩ := s_ownS (ks := ks) (k := txV s2) r41 hok c40 (by omega)
      have s48 := Sat.rot (l₁ := hl43) (hl := [.cells b36 [(.str (txV s2))], .cells b5 [(.str (txS s2)), (.bool (txB bad s2))], .cells b9 [(.bool true), vk, vv, .nils], .cells b1 [(.bool false), .nils, .nils, .nils]]) s46
      refine wo_x (v := v42) (k47 rfl rfl) (wo_nil (wd_run (wo_x (v := (.ptr b9 1)) (ca_fla rfl rfl) (wo_nil (wd_nil ?_)))))
      refine ws_cons ?_
      have s49 := s48.pull 2
      obtain ⟨H50, s51, k52⟩ := s_st s49 1 v42 (Nat.le_of_ble_eq_true rfl) (hv := (own_sc h45))
      refine wo_n (k52 rfl rfl) (wo_nil (wd_nil (ws_nil (thn_n (wp_seq ?_)))))
      refine wp_reg (wo_mv (.bool true) (wo_nil (thn_n (wp_condT (wp_dreg ?_)))))
      refine wd_run (wo_x (v := (.ptr b9 2)) (ca_fla rfl rfl) (wo_nil (wd_run (wo_x (v := vv) (s_ld1 s51 0 rfl) (wo_nil ?_)))))
      refine wd_run (wo_mv (.fn (.fn (.func NrN.text)) [(.ptr b5 0)] []) (wo_nil (wd_nil (ws_cons ?_))))
      have s53 := s51.pull 2
      obtain ⟨_, H54, ⟨rfl, s55⟩, k56⟩ := text_rd (N := N) (d := d + 11) T (txS_byte hb2) (by omega) s53
      refine wo_call (bindV (by omega) k56) (wo_nil (wd_again (v := vv) (hs := own_same hov) (s_ld1 s55 1 rfl) (wd_run ?_)))
      obtain ⟨b57, H58, s59, k60⟩ := s_bsl s55 ((RL.rep 1 (.str [])).set 0 (.str (txV (txS s2))))
      refine wo_x (v := (.slc b57 0 1 1)) (k60 (fill_s (v := (.str (txV (txS s2)))) rfl rfl rfl fill_nil)) (wo_nil (wd_nil (ws_cons ?_)))
      have c61 := src_sl (es := 1) s59 0 (.slc _ 0 1 1 1) (Nat.le_of_ble_eq_true rfl)
      have r62 := Sat.rot2 (p := hl43) (l₁ := [.cells b57 [(.str (txV (txS s2)))], .cells b5 [(.str (txS (txS s2))), (.bool (txB (txB bad s2) (txS s2)))], .cells b9 [(.bool true), v42, vv, .nils], .cells b36 [(.str (txV s2))], .cells b1 [(.bool false), .nils, .nils, .nils]]) (q := hv) (Sat.rot (l₁ := [.cells b57 [(.str (txV (txS s2)))], .cells b5 [(.str (txS (txS s2))), (.bool (txB (txB bad s2) (txS s2)))], .cells b9 [(.bool true), v42, vv, .nils], .cells b36 [(.str (txV s2))], .cells b1 [(.bool false), .nils, .nils, .nils]]) (hl := hl43) s59)
      obtain ⟨v63, hl64, H65, h66, s67, k68⟩ := s_ownS (ks := vs) (k := txV (txS s2)) r62 hov c61 (by omega)
      have s69 := Sat.rot3 (p := hl43) (A := [.cells b57 [(.str (txV (txS s2)))], .cells b5 [(.str (txS (txS s2))), (.bool (txB (txB bad s2) (txS s2)))], .cells b9 [(.bool true), v42, vv, .nils], .cells b36 [(.str (txV s2))], .cells b1 [(.bool false), .nils, .nils, .nils]]) (q := hl64) s67
      refine wo_x (v := v63) (k68 rfl rfl) (wo_nil (wd_run (wo_x (v := (.ptr b9 2)) (ca_fla rfl rfl) (wo_nil (wd_nil ?_)))))
      refine ws_cons ?_
      have s70 := s69.pull 2
      obtain ⟨H71, s72, k73⟩ := s_st s70 2 v63 (Nat.le_of_ble_eq_true rfl) (hv := (own_sc h66))
      refine wo_n (k73 rfl rfl) (wo_nil (wd_nil (ws_nil (blk_n (thn_n ?_)))))
      refine wp_reg (wo_x (v := (.int .i64 (.ofNat (j + 1)))) (w_bin (add_i64 j 1 (by omega) _ _)) (wo_mv (.int .i64 (.ofNat (j + 1))) (wo_nil ?_)))
      have s74 := s72.drop 1
      have s75 := s74.drop 2
      have s76 := s75.pull 2
      have s77 := s76.pull 1
      have s78 := s77.pull 2
      refine lpq_n (c0 * 256 + c1 - (j + 1)) (by omega) ⟨(j + 1), (txS (txS s2)), (txB (txB bad s2) (txS s2)), (ks ++ [txV s2]), (vs ++ [txV (txS s2)]), v42, v63, hl43, hl64, [(.bool true), (.ptr b5 0), (.ptr b5 0), (.ptr b5 1), (.bool bad), (.ptr b9 1), vk, (.fn (.fn (.func NrN.text)) [(.ptr b5 0)] []), (.str (txV s2)), (.slc b36 0 1 1), v42, (.ptr b9 1), (.bool true), (.ptr b9 2), vv, (.fn (.fn (.func NrN.text)) [(.ptr b5 0)] []), (.str (txV (txS s2))), (.slc b57 0 1 1), v63, (.ptr b9 2), (lget ys20 20), (lget ys20 21), (lget ys20 22), (lget ys20 23), (lget ys20 24), (lget ys20 25), (lget ys20 26), (.int .i64 (.ofNat (j + 1)))], rfl, rfl, rfl, s78, (by show dstep true (diter true j _) = _; rw [hst]; unfold dstep; rw [if_neg c23, if_pos rfl]), h45, h66, (txS_byte (txS_byte hb2)), (by simp; omega), (by simp; omega), (by omega)⟩
  · have hfin : dall true (c0 :: c1 :: r) = ⟨s2, bad, ks, vs, []⟩ := by rw [← hst]; show diter true (c0 * 256 + c1) _ = _; rw [show c0 * 256 + c1 = j by omega]; rfl
    refine wo_x (v := (.bool false)) (w_bin (cmp_lssF j ((c0 * 256) + c1) (by omega))) (wo_nil (thn_n (wp_seq (wp_condF (wp_exit ?_)))))
    refine thn_e (lpq_e (blk_h (thn_n (wp_seq (wp_seq ?_)))))
    refine wp_reg (wo_mv (.ptr b5 0) (wo_x (v := (.ptr b5 0)) (w_lit (fun K => rfl)) (wo_x (v := (.ptr b5 1)) (ca_fla rfl rfl) (wo_x (v := (.bool bad)) (s_ld1 s21 0 rfl) (wo_mv (.bool bad) ?_)))))
    by_cases c79 : bad = true
    · refine wo_noT (ht := (congrArg AV.bool c79)) (wo_noT (ht := (congrArg AV.bool c79)) (wo_noT (ht := (congrArg AV.bool c79)) (wo_noT (ht := (congrArg AV.bool c79)) (wo_noT (ht := (congrArg AV.bool c79)) (wo_x (v := (.bool true)) (w_pickT (congrArg AV.bool c79) rfl) ?_)))))
      refine wo_mv (.bool true) (wo_noT (wo_noT (wo_noT (wo_x (v := (.bool true)) (w_pickT rfl rfl) (wo_nil ?_)))))
      refine thn_n (wp_condT (wp_seq (wp_reg (wo_x (v := (.agg (.cat 1 (.one (.bool false)) (.rep 3 .nils)))) (w_build (r := (.cat 1 (.one (.bool false)) (.rep 3 .nils))) fill_nil) ?_))))
      have s80 := s21.pull 2
      obtain ⟨H81, s82, k83⟩ := s_stn s80 (RL.cat (RL.one (.bool false)) (RL.rep 3 .nils) rfl) 0 4 rfl (Nat.le_of_ble_eq_true rfl)
      refine wo_n (k83 rfl rfl) (wo_mv (.int .i64 4) (wo_nil (thn_n (wp_ret (thn_r ?_)))))
      refine fin_ct (w := (.int .i64 4)) (off := 0) s82 0 fun r84 q85 => ?_
      have s86 := s82.drop 0
      have s87 := s86.drop 0
      have s88 := s87.drop 0
      exact .inr ⟨fun h => (by unfold DecOk at h; rw [hfin] at h; have h2 : bad = false := h.2.1; rw [c79] at h2; cases h2), _, rfl, q85, (Sat.dropP (Sat.dropP s88))⟩
    · refine wo_yesF (ht := (congrArg AV.bool (Bool.eq_false_iff.2 c79))) (wo_mv (.ptr b5 0) (wo_yesF (ht := (congrArg AV.bool (Bool.eq_false_iff.2 c79))) (wo_x (v := (.ptr b5 0)) (w_lit (fun K => rfl)) (wo_yesF (ht := (congrArg AV.bool (Bool.eq_false_iff.2 c79))) (wo_x (v := (.ptr b5 0)) (ca_fla rfl rfl) ?_)))))
      refine wo_yesF (ht := (congrArg AV.bool (Bool.eq_false_iff.2 c79))) (wo_x (v := (.str s2)) (s_ld1 s21 0 rfl) ?_)
      by_cases c89 : s2 = []
      · refine wo_yesF (ht := (congrArg AV.bool (Bool.eq_false_iff.2 c79))) (wo_x (v := (.bool false)) (w_bin (str_neqT c89)) (wo_x (v := (.bool false)) (w_pickF (congrArg AV.bool (Bool.eq_false_iff.2 c79)) rfl) (wo_mv (.bool false) (wo_yesF ?_))))
        obtain ⟨r90, q91, k92⟩ := s_ldn s21 1 0 4 
        refine wo_x (v := (.agg r90)) (k92 rfl) (wo_yesF ?_)
        have r93 := Sat.rot (l₁ := [.cells b5 [(.str s2), (.bool bad)], .cells b9 [(.bool true), vk, vv, .nils], .cells b1 [(.bool false), .nils, .nils, .nils]]) (hl := hk) s21
        obtain ⟨Z94, l95, s96, f97, g98⟩ := own_lend (xs := strs ks) strs_one r93 hok (strs_len ks)
        have q104 := Sat.rot (l₁ := [.cells b5 [(.str s2), (.bool bad)], .cells b9 [(.bool true), vk, vv, .nils], .cells b1 [(.bool false), .nils, .nils, .nils]]) (hl := hv) s96
        obtain ⟨Z99, l100, s101, f102, g103⟩ := own_lend (xs := strs vs) strs_one q104 hov (strs_len vs)
        obtain ⟨_, H106, ⟨rfl, s107⟩, k108⟩ := may_ok2 (ks := ks) (vs := vs) (ps := []) (N := N) (d := d + 11) TD TB (by omega) s101 q91 (f97.mono l100) f102 .nil (by omega) (by omega) (by simp) (by omega) (by omega) (by simp; omega) (by omega) (by have := hbig; rw [hfin] at this; exact this) (by simp)
        have s109 := Sat.rot (l₁ := hk) (hl := [.cells b5 [(.str s2), (.bool bad)], .cells b9 [(.bool true), vk, vv, .nils], .cells b1 [(.bool false), .nils, .nils, .nils]]) (g98 _ (Sat.rot (l₁ := hv) (hl := [.cells b5 [(.str s2), (.bool bad)], .cells b9 [(.bool true), vk, vv, .nils], .cells b1 [(.bool false), .nils, .nils, .nils]]) (g103 _ s107)))
        refine wo_call k108 ?_
        by_cases c110 : (dB (FormN true ks vs [] ∧ sizeN ks vs [] ≤ 500)) = true
        · refine wo_yesF (wo_x (v := (.bool false)) (w_notT (congrArg AV.bool c110)) (wo_x (v := (.bool false)) (w_pickF rfl rfl) (wo_nil (thn_n (wp_condF ?_)))))
          refine wp_skip (thn_n (wp_seq (wp_reg ?_)))
          obtain ⟨r111, q112, k113⟩ := s_ldn s109 1 0 4 
          refine wo_x (v := (.agg r111)) (k113 rfl) ?_
          have s114 := s109.pull 2
          obtain ⟨H115, s116, k117⟩ := s_stn s114 q112 0 4 rfl (Nat.le_of_ble_eq_true rfl)
          refine wo_n (k117 rfl rfl) (wo_mv (.int .i64 0) (wo_nil (thn_n (wp_ret ?_))))
          refine fin_ct (w := (.int .i64 0)) (off := 0) s116 0 fun r118 q119 => ?_
          have s120 := s116.drop 0
          have s121 := s120.drop 0
          have s122 := s121.drop 0
          exact .inl ⟨⟨by simp, by rw [hfin]; exact Bool.eq_false_iff.2 c79, by rw [hfin]; exact c89, by rw [hfin]; exact (dB_iff.1 c110).1, by rw [hfin]; exact (dB_iff.1 c110).2⟩, _, vk, vv, hk, hv, rfl, q119, by rw [hfin]; exact hok, by rw [hfin]; exact hov, s122⟩
        · refine wo_yesF (wo_x (v := (.bool true)) (w_notF (congrArg AV.bool (Bool.eq_false_iff.2 c110))) (wo_x (v := (.bool true)) (w_pickF rfl rfl) (wo_nil (thn_n (wp_condT ?_)))))
          refine wp_seq (wp_reg (wo_x (v := (.agg (.cat 1 (.one (.bool false)) (.rep 3 .nils)))) (w_build (r := (.cat 1 (.one (.bool false)) (.rep 3 .nils))) fill_nil) ?_))
          have s123 := s109.pull 2
          obtain ⟨H124, s125, k126⟩ := s_stn s123 (RL.cat (RL.one (.bool false)) (RL.rep 3 .nils) rfl) 0 4 rfl (Nat.le_of_ble_eq_true rfl)
          refine wo_n (k126 rfl rfl) (wo_mv (.int .i64 4) (wo_nil (thn_n (wp_ret (thn_r ?_)))))
          refine fin_ct (w := (.int .i64 4)) (off := 0) s125 0 fun r127 q128 => ?_
          have s129 := s125.drop 0
          have s130 := s129.drop 0
          have s131 := s130.drop 0
          exact .inr ⟨fun h => (by unfold DecOk at h; rw [hfin] at h; exact (dB_not.1 (Bool.eq_false_iff.2 c110)) ⟨h.2.2.2.1, h.2.2.2.2⟩), _, rfl, q128, (Sat.dropP (Sat.dropP s131))⟩
      · refine wo_yesF (ht := (congrArg AV.bool (Bool.eq_false_iff.2 c79))) (wo_x (v := (.bool true)) (w_bin (str_neqF c89)) (wo_x (v := (.bool true)) (w_pickF (congrArg AV.bool (Bool.eq_false_iff.2 c79)) rfl) (wo_mv (.bool true) (wo_noT (wo_noT ?_)))))
        refine wo_noT (wo_x (v := (.bool true)) (w_pickT rfl rfl) (wo_nil (thn_n (wp_condT (wp_seq ?_)))))
        refine wp_reg (wo_x (v := (.agg (.cat 1 (.one (.bool false)) (.rep 3 .nils)))) (w_build (r := (.cat 1 (.one (.bool false)) (.rep 3 .nils))) fill_nil) ?_)
        have s132 := s21.pull 2
        obtain ⟨H133, s134, k135⟩ := s_stn s132 (RL.cat (RL.one (.bool false)) (RL.rep 3 .nils) rfl) 0 4 rfl (Nat.le_of_ble_eq_true rfl)
        refine wo_n (k135 rfl rfl) (wo_mv (.int .i64 4) (wo_nil (thn_n (wp_ret (thn_r ?_)))))
        refine fin_ct (w := (.int .i64 4)) (off := 0) s134 0 fun r136 q137 => ?_
        have s138 := s134.drop 0
        have s139 := s138.drop 0
        have s140 := s139.drop 0
        exact .inr ⟨fun h => (by unfold DecOk at h; rw [hfin] at h; exact c89 h.2.2.1), _, rfl, q137, (Sat.dropP (Sat.dropP s140))⟩
theorem deci_rd [NrN] [BkN] [NdN] {tbl : Nat → Option FT} (T : NrT tbl) (TB : BkT tbl) (TD : NdT tbl) {c0 c1 : Nat} {r : List Nat} (h0 : c0 ≤ 255) (h1 : c1 ≤ 255) (hr : ∀ c ∈ r, c ≤ 255) (hbig : sizeN (dall false (c0 :: c1 :: r)).ks (dall false (c0 :: c1 :: r)).vs (dall false (c0 :: c1 :: r)).ps ≤ 1099511627776) {N d : Nat} (hd : 12 ≤ d) {Z : Fz} {F : List Hl} {H : AH} (hs : Sat H Z (F)) (hN : 70000 ≤ N) :
    Ct (RUN tbl N d) (.fn (.fn (.func NrN.decode)) [] []) [(.bool false), (.str (c0 :: c1 :: r))] H fun v H' => (DecOk false (c0 :: c1 :: r) ∧ ∃ q vk vp hk hp, v = .tup [.agg q, .int .i64 0] ∧ RL q [.bool false, vk, .nils, vp] ∧ Own 1 vk (dall false (c0 :: c1 :: r)).ks.length (txC (dall false (c0 :: c1 :: r)).ks) hk ∧ Own 3 vp (dall false (c0 :: c1 :: r)).ps.length (ptC (dall false (c0 :: c1 :: r)).ps) hp ∧ Sat H' Z (hk ++ (hp ++ F))) ∨ (¬ DecOk false (c0 :: c1 :: r) ∧ ∃ q, v = .tup [.agg q, .int .i64 4] ∧ RL q [.bool false, .nils, .nils, .nils] ∧ Sat H' Z F) := by
  obtain ⟨d, rfl⟩ : ∃ e, d = e + 12 := ⟨d - 12, by omega⟩
  refine ct_code T.decode (b := b_rdecode) (env := [(.bool false), (.str (c0 :: c1 :: r)), u_, u_, u_, u_, u_, u_, u_, u_, u_, u_, u_, u_, u_, u_, u_, u_, u_, u_, u_, u_, u_, u_, u_, u_, u_, u_, u_, u_, u_, u_, u_, u_, u_, u_, u_, u_, u_, u_, u_, u_, u_, u_, u_, u_, u_, u_, u_, u_, u_, u_, u_, u_, u_, u_, u_, u_, u_, u_, u_, u_, u_, u_, u_, u_, u_, u_, u_, u_, u_, u_, u_, u_, u_, u_, u_, u_, u_, u_, u_, u_, u_, u_, u_, u_, u_, u_, u_, u_, u_]) ?_
  unfold b_rdecode
  refine wp_seq (wp_reg ?_)
  obtain ⟨b1, H2, s3, k4⟩ := s_alloc hs (RL.cat (RL.one (.bool false)) (RL.rep 3 .nils) rfl)
  refine wo_x (v := (.ptr b1 0)) (k4) (wo_mv (.int .i64 0) (wo_nil (thn_n (wp_seq (wp_reg ?_)))))
  refine wo_mv (.str (c0 :: c1 :: r)) (wo_x (v := (.agg (Rp.set (.cat 1 (.one (.str [])) (.one (.bool false))) 0 (.str (c0 :: c1 :: r))))) (w_build (r := (Rp.set (.cat 1 (.one (.str [])) (.one (.bool false))) 0 (.str (c0 :: c1 :: r)))) (fill_s (v := (.str (c0 :: c1 :: r))) rfl rfl rfl fill_nil)) ?_)
  obtain ⟨b5, H6, s7, k8⟩ := s_boxn s3 ((RL.cat (RL.one (.str [])) (RL.one (.bool false)) rfl).set 0 (.str (c0 :: c1 :: r)))
  refine wo_x (v := (.ptr b5 0)) (k8 rfl) (wo_mv (.ptr b5 0) (wo_nil (thn_n (wp_seq (wp_reg ?_)))))
  refine wo_mv (.bool false) (wo_x (v := (.agg (Rp.set (.cat 1 (.one (.bool false)) (.rep 3 .nils)) 0 (.bool false)))) (w_build (r := (Rp.set (.cat 1 (.one (.bool false)) (.rep 3 .nils)) 0 (.bool false))) (fill_s (v := (.bool false)) rfl rfl rfl fill_nil)) ?_)
  obtain ⟨b9, H10, s11, k12⟩ := s_alloc s7 (RL.cat (RL.one (.bool false)) (RL.rep 3 .nils) rfl)
  refine wo_x (v := (.ptr b9 0)) (k12) ?_
  obtain ⟨H13, s14, k15⟩ := s_stn s11 ((RL.cat (RL.one (.bool false)) (RL.rep 3 .nils) rfl).set 0 (.bool false)) 0 4 rfl (Nat.le_of_ble_eq_true rfl)
  refine wo_n (k15 rfl rfl) (wo_nil (thn_n (wp_seq (wp_reg (wo_mv (.ptr b5 0) ?_)))))
  have s16 := s14.pull 1
  obtain ⟨_, H17, ⟨rfl, s18⟩, k19⟩ := take2_rd (N := N) (d := d + 11) T (by omega) s16
  refine wo_call k19 (wo_mv (.str [c0, c1]) (wo_nil (thn_n (wp_seq (wp_seq ?_)))))
  refine wp_reg (wo_mv (.ptr b5 0) (wo_x (v := (.ptr b5 0)) (w_lit (fun K => rfl)) (wo_x (v := (.ptr b5 1)) (ca_fla rfl rfl) (wo_x (v := (.bool false)) (s_ld1 s18 0 rfl) (wo_nil ?_)))))
  refine thn_n (wp_condF (wp_skip (thn_n (wp_seq (wp_reg ?_)))))
  refine wo_mv (.ptr b5 0) (wo_x (v := (.fn (.fn (.func NrN.text)) [(.ptr b5 0)] [])) (w_lit (fun K => rfl)) (wo_mv (.ptr b5 0) (wo_x (v := (.fn (.fn (.func NrN.kid)) [(.ptr b5 0)] [])) (w_lit (fun K => rfl)) (wo_mv (.fn (.fn (.func NrN.text)) [(.ptr b5 0)] []) (wo_mv (.fn (.fn (.func NrN.kid)) [(.ptr b5 0)] []) ?_)))))
  refine wo_nil (thn_n (wp_seq (wp_seq (wp_reg (wo_mv (.bool false) ?_)))))
  refine wo_x (v := (.bool true)) (w_lit (fun K => rfl)) (wo_nil (thn_n (wp_condT (wp_dreg (wd_run ?_)))))
  refine wo_x (v := (.ptr b9 3)) (ca_fla rfl rfl) (wo_nil (wd_run (wo_x (v := .nils) (s_ld1 s18 1 rfl) (wo_nil (wd_run ?_)))))
  refine wo_mv (.fn (.fn (.func NrN.kid)) [(.ptr b5 0)] []) (wo_nil (wd_nil (ws_cons ?_)))
  obtain ⟨_, H22, ⟨r20, rfl, q21, s23⟩, k24⟩ := kid_rd (N := N) (d := d + 11) T TB hr (by omega) s18
  refine wo_call (bindV (by omega) k24) (wo_nil (wd_again (v := .nils) (hs := rfl) (s_ld1 s23 1 rfl) (wd_run ?_)))
  obtain ⟨b25, H26, s27, k28⟩ := s_bsl s23 (RL.put (o := 0) (n := 3) (RL.cat (RL.cat (RL.rep 2 (.int .i64 0)) (RL.one (.int .u64 0)) rfl) RL.nil rfl) q21 rfl (Nat.le_of_ble_eq_true rfl))
  refine wo_x (v := (.slc b25 0 1 1)) (k28 (fill_a rfl (by rw [(q21).len]; rfl) rfl fill_nil)) (wo_nil (wd_nil (ws_cons ?_)))
  have c29 := src_sl (es := 3) s27 0 (.slc _ 0 1 1 3) (Nat.le_of_ble_eq_true rfl)
  have r30 := Sat.rot (l₁ := [.cells b25 [(.int .i64 ((kdV r).a)), (.int .i64 ((kdV r).b)), (.int .u64 (.ofNat ((kdV r).s)))], .cells b5 [(.str (rsS 16 r)), (.bool (kdB r false))], .cells b9 [(.bool false), .nils, .nils, .nils], .cells b1 [(.bool false), .nils, .nils, .nils]]) (hl := ([] : List Hl)) s27
  obtain ⟨v31, hl32, H33, h34, s35, k36⟩ := s_ownP (ps := ([] : List PtrM)) (p := (kdV r)) r30 .nil c29 (by simp)
  have s37 := Sat.rot (l₁ := hl32) (hl := [.cells b25 [(.int .i64 ((kdV r).a)), (.int .i64 ((kdV r).b)), (.int .u64 (.ofNat ((kdV r).s)))], .cells b5 [(.str (rsS 16 r)), (.bool (kdB r false))], .cells b9 [(.bool false), .nils, .nils, .nils], .cells b1 [(.bool false), .nils, .nils, .nils]]) s35
  refine wo_x (v := v31) (k36 rfl rfl) (wo_nil (wd_run (wo_x (v := (.ptr b9 3)) (ca_fla rfl rfl) (wo_nil (wd_nil ?_)))))
  refine ws_cons ?_
  have s38 := s37.pull 2
  obtain ⟨H39, s40, k41⟩ := s_st s38 3 v31 (Nat.le_of_ble_eq_true rfl) (hv := (own_sc h34))
  refine wo_n (k41 rfl rfl) (wo_nil (wd_nil (ws_nil (thn_n (wp_seq ?_)))))
  refine wp_seq (wp_dreg (wd_run (wo_mv (.str [c0, c1]) (wo_nil (wd_run ?_)))))
  refine wo_x (v := (.int .u8 (.ofNat c0))) (w_ist (s := [c0, c1]) (i := 0) (c := c0) rfl rfl rfl) (wo_nil (wd_run (wo_x (v := (.int .i64 (.ofNat c0))) (w_cvi (r := c0) rfl (wrap_i64 _ (by omega))) (wo_nil (wd_run ?_)))))
  refine wo_x (v := (.int .i64 (.ofNat (c0 * 256)))) (w_bin (shl_nat c0 8 (p := 256) rfl (wrap_i64 _ (by omega)))) (wo_nil (wd_run (wo_mv (.str [c0, c1]) (wo_nil (wd_run ?_)))))
  refine wo_x (v := (.int .u8 (.ofNat c1))) (w_ist (s := [c0, c1]) (i := 1) (c := c1) rfl rfl rfl) (wo_nil (wd_run (wo_x (v := (.int .i64 (.ofNat c1))) (w_cvi (r := c1) rfl (wrap_i64 _ (by omega))) (wo_nil (wd_run ?_)))))
  refine wo_x (v := (.int .i64 (.ofNat ((c0 * 256) + c1)))) (w_bin (or_i64 (c0 * 256) c1 8 256 rfl (by omega) (by omega) (by omega))) (wo_nil (wd_run (wo_mv (.int .i64 0) (wo_nil (wd_nil ?_)))))
  refine ws_nil (thn_n (wp_block ?_))
  have s43 := s40.drop 1
  have s44 := s43.pull 2
  have s45 := s44.pull 1
  have s46 := s45.pull 2
  refine wp_loop (fun ms_ env ds H => ∃ (j : Nat) (s2 : List Nat) (bad : _root_.Bool) (ks : List (List Nat)) (ps : List PtrM) (vk : AV) (vp : AV) (hk : List Hl) (hp : List Hl), ∃ ys42 : List AV, ms_ = c0 * 256 + c1 - j ∧ env = [(.bool false), (.str (c0 :: c1 :: r)), u_, u_, (.ptr b1 0), (.int .i64 0), (.ptr b5 0), (.ptr b9 0), (.str [c0, c1]), (.fn (.fn (.func NrN.text)) [(.ptr b5 0)] []), (.fn (.fn (.func NrN.kid)) [(.ptr b5 0)] []), (.str (c0 :: c1 :: r)), (.agg (Rp.set (.cat 1 (.one (.str [])) (.one (.bool false))) 0 (.str (c0 :: c1 :: r)))), (.ptr b5 0), (.bool false), (.agg (Rp.set (.cat 1 (.one (.bool false)) (.rep 3 .nils)) 0 (.bool false))), (.ptr b5 0), (.str [c0, c1]), (.ptr b5 0), (.ptr b5 0), (.ptr b5 1), (.bool false), u_, (.ptr b5 0), (.fn (.fn (.func NrN.text)) [(.ptr b5 0)] []), (.ptr b5 0), (.fn (.fn (.func NrN.kid)) [(.ptr b5 0)] []), (.bool false), (.bool true), (.ptr b9 3), .nils, (.fn (.fn (.func NrN.kid)) [(.ptr b5 0)] []), (.agg r20), (.slc b25 0 1 1), v31, (.ptr b9 3), (.str [c0, c1]), (.int .u8 (.ofNat c0)), (.int .i64 (.ofNat c0)), (.int .i64 (.ofNat (c0 * 256))), (.str [c0, c1]), (.int .u8 (.ofNat c1)), (.int .i64 (.ofNat c1)), (.int .i64 (.ofNat ((c0 * 256) + c1))), (.int .i64 (.ofNat j)), (lget ys42 0), (lget ys42 1), (lget ys42 2), (lget ys42 3), (lget ys42 4), (lget ys42 5), (lget ys42 6), (lget ys42 7), (lget ys42 8), (lget ys42 9), (lget ys42 10), (lget ys42 11), (lget ys42 12), (lget ys42 13), (lget ys42 14), (lget ys42 15), (lget ys42 16), (lget ys42 17), (lget ys42 18), (lget ys42 19), (lget ys42 20), (lget ys42 21), (lget ys42 22), (lget ys42 23), (lget ys42 24), (lget ys42 25), (lget ys42 26), (lget ys42 27), u_, u_, u_, u_, u_, u_, u_, u_, u_, u_, u_, u_, u_, u_, u_, u_, u_, u_] ∧ ds = [] ∧ Sat H Z ((.cells b5 [(.str s2), (.bool bad)]) :: (.cells b9 [(.bool false), vk, .nils, vp]) :: (.cells b1 [(.bool false), .nils, .nils, .nils]) :: (hk ++ (hp ++ F))) ∧ (diter false j (dst0 false r) = ⟨s2, bad, ks, [], ps⟩) ∧ (Own 1 vk ks.length (txC ks) hk) ∧ (Own 3 vp ps.length (ptC ps) hp) ∧ (∀ c ∈ s2, c ≤ 255) ∧ (∀ p ∈ ps, p.s < 18446744073709551616) ∧ (ks.length = j) ∧ (ps.length = j + 1) ∧ (j ≤ c0 * 256 + c1)) (c0 * 256 + c1 - 0) (by omega) ⟨0, (rsS 16 r), (kdB r false), [], (([] : List PtrM) ++ [(kdV r)]), .nils, v31, [], hl32, [u_, u_, u_, u_, u_, u_, u_, u_, u_, u_, u_, u_, u_, u_, u_, u_, u_, u_, u_, u_, u_, u_, u_, u_, u_, u_, u_, u_], rfl, rfl, rfl, s46, rfl, .nil, h34, (rsS_byte hr), (all_snoc (by simp) (kdV_lt hr)), rfl, (by simp), (by omega)⟩ ?_
  rintro ms_ env ds H hms_ ⟨j, s2, bad, ks, ps, vk, vp, hk, hp, ys42, rfl, rfl, rfl, s47, hst, hok, hop, hb2, hps, hkl, hpl, hj⟩
  refine wp_seq (wp_reg ?_)
  by_cases c48 : j < (c0 * 256) + c1
  · refine wo_x (v := (.bool true)) (w_bin (cmp_lssT j ((c0 * 256) + c1) (by omega))) (wo_nil (thn_n (wp_seq (wp_condT (wp_skip ?_)))))
    refine thn_n (wp_seq (wp_block (wp_seq (wp_seq (wp_reg ?_)))))
    refine wo_mv (.ptr b5 0) (wo_x (v := (.ptr b5 0)) (w_lit (fun K => rfl)) (wo_x (v := (.ptr b5 1)) (ca_fla rfl rfl) (wo_x (v := (.bool bad)) (s_ld1 s47 0 rfl) (wo_nil (thn_n ?_)))))
    by_cases c49 : bad = true
    · have hfin : dall false (c0 :: c1 :: r) = ⟨s2, bad, ks, [], ps⟩ := by rw [← hst]; show diter false (c0 * 256 + c1) (dst0 false r) = _; exact diter_bad (by omega) (by rw [hst]; exact c49)
      refine wp_condT (hc := (congrArg AV.bool c49)) (wp_exit (thn_e (blk_e (thn_e (lpq_e ?_)))))
      refine blk_h (thn_n (wp_seq (wp_seq (wp_reg (wo_mv (.ptr b5 0) ?_)))))
      refine wo_x (v := (.ptr b5 0)) (w_lit (fun K => rfl)) (wo_x (v := (.ptr b5 1)) (ca_fla rfl rfl) (wo_x (v := (.bool bad)) (s_ld1 s47 0 rfl) (wo_mv (.bool bad) (wo_noT (ht := (congrArg AV.bool c49)) (wo_noT (ht := (congrArg AV.bool c49)) ?_)))))
      refine wo_noT (ht := (congrArg AV.bool c49)) (wo_noT (ht := (congrArg AV.bool c49)) (wo_noT (ht := (congrArg AV.bool c49)) (wo_x (v := (.bool true)) (w_pickT (congrArg AV.bool c49) rfl) (wo_mv (.bool true) (wo_noT ?_)))))
      refine wo_noT (wo_noT (wo_x (v := (.bool true)) (w_pickT rfl rfl) (wo_nil (thn_n (wp_condT ?_)))))
      refine wp_seq (wp_reg (wo_x (v := (.agg (.cat 1 (.one (.bool false)) (.rep 3 .nils)))) (w_build (r := (.cat 1 (.one (.bool false)) (.rep 3 .nils))) fill_nil) ?_))
      have s50 := s47.pull 2
      obtain ⟨H51, s52, k53⟩ := s_stn s50 (RL.cat (RL.one (.bool false)) (RL.rep 3 .nils) rfl) 0 4 rfl (Nat.le_of_ble_eq_true rfl)
      refine wo_n (k53 rfl rfl) (wo_mv (.int .i64 4) (wo_nil (thn_n (wp_ret (thn_r ?_)))))
      refine fin_ct (w := (.int .i64 4)) (off := 0) s52 0 fun r54 q55 => ?_
      have s56 := s52.drop 0
      have s57 := s56.drop 0
      have s58 := s57.drop 0
      exact .inr ⟨fun h => (by unfold DecOk at h; rw [hfin] at h; have h2 : bad = false := h.2.1; rw [c49] at h2; cases h2), _, rfl, q55, (Sat.dropP (Sat.dropP s58))⟩
    · refine wp_condF (hc := (congrArg AV.bool (Bool.eq_false_iff.2 c49))) (wp_skip (thn_n (wp_seq (wp_dreg (wd_run ?_)))))
      refine wo_x (v := (.ptr b9 1)) (ca_fla rfl rfl) (wo_nil (wd_run (wo_x (v := vk) (s_ld1 s47 1 rfl) (wo_nil (wd_run ?_)))))
      refine wo_mv (.fn (.fn (.func NrN.text)) [(.ptr b5 0)] []) (wo_nil (wd_nil (ws_cons ?_)))
      obtain ⟨_, H59, ⟨rfl, s60⟩, k61⟩ := text_rd (N := N) (d := d + 11) T hb2 (by omega) s47
      refine wo_call (bindV (by omega) k61) (wo_nil (wd_again (v := vk) (hs := own_same hok) (s_ld1 s60 1 rfl) (wd_run ?_)))
      obtain ⟨b62, H63, s64, k65⟩ := s_bsl s60 ((RL.rep 1 (.str [])).set 0 (.str (txV s2)))
      refine wo_x (v := (.slc b62 0 1 1)) (k65 (fill_s (v := (.str (txV s2))) rfl rfl rfl fill_nil)) (wo_nil (wd_nil (ws_cons ?_)))
      have c66 := src_sl (es := 1) s64 0 (.slc _ 0 1 1 1) (Nat.le_of_ble_eq_true rfl)
      have r67 := Sat.rot (l₁ := [.cells b62 [(.str (txV s2))], .cells b5 [(.str (txS s2)), (.bool (txB bad s2))], .cells b9 [(.bool false), vk, .nils, vp], .cells b1 [(.bool false), .nils, .nils, .nils]]) (hl := hk) s64
      obtain ⟨v68, hl69, H70, h71, s72, k73⟩ := s_ownS (ks := ks) (k := txV s2) r67 hok c66 (by omega)
      have s74 := Sat.rot (l₁ := hl69) (hl := [.cells b62 [(.str (txV s2))], .cells b5 [(.str (txS s2)), (.bool (txB bad s2))], .cells b9 [(.bool false), vk, .nils, vp], .cells b1 [(.bool false), .nils, .nils, .nils]]) s72
      refine wo_x (v := v68) (k73 rfl rfl) (wo_nil (wd_run (wo_x (v := (.ptr b9 1)) (ca_fla rfl rfl) (wo_nil (wd_nil ?_)))))
      refine ws_cons ?_
      have s75 := s74.pull 2
      obtain ⟨H76, s77, k78⟩ := s_st s75 1 v68 (Nat.le_of_ble_eq_true rfl) (hv := (own_sc h71))
      refine wo_n (k78 rfl rfl) (wo_nil (wd_nil (ws_nil (thn_n (wp_seq ?_)))))
      refine wp_reg (wo_mv (.bool false) (wo_nil (thn_n (wp_condF (wp_dreg ?_)))))
      refine wd_run (wo_x (v := (.ptr b9 3)) (ca_fla rfl rfl) (wo_nil (wd_run (wo_x (v := vp) (s_ld1 s77 0 rfl) (wo_nil ?_)))))
      refine wd_run (wo_mv (.fn (.fn (.func NrN.kid)) [(.ptr b5 0)] []) (wo_nil (wd_nil (ws_cons ?_))))
      have s81 := s77.pull 2
      obtain ⟨_, H82, ⟨r79, rfl, q80, s83⟩, k84⟩ := kid_rd (N := N) (d := d + 11) T TB (txS_byte hb2) (by omega) s81
      refine wo_call (bindV (by omega) k84) (wo_nil (wd_again (v := vp) (hs := own_same hop) (s_ld1 s83 1 rfl) (wd_run ?_)))
      obtain ⟨b85, H86, s87, k88⟩ := s_bsl s83 (RL.put (o := 0) (n := 3) (RL.cat (RL.cat (RL.rep 2 (.int .i64 0)) (RL.one (.int .u64 0)) rfl) RL.nil rfl) q80 rfl (Nat.le_of_ble_eq_true rfl))
      refine wo_x (v := (.slc b85 0 1 1)) (k88 (fill_a rfl (by rw [(q80).len]; rfl) rfl fill_nil)) (wo_nil (wd_nil (ws_cons ?_)))
      have c89 := src_sl (es := 3) s87 0 (.slc _ 0 1 1 3) (Nat.le_of_ble_eq_true rfl)
      have r90 := Sat.rot2 (p := hl69) (l₁ := [.cells b85 [(.int .i64 ((kdV (txS s2)).a)), (.int .i64 ((kdV (txS s2)).b)), (.int .u64 (.ofNat ((kdV (txS s2)).s)))], .cells b5 [(.str (rsS 16 (txS s2))), (.bool (kdB (txS s2) (txB bad s2)))], .cells b9 [(.bool false), v68, .nils, vp], .cells b62 [(.str (txV s2))], .cells b1 [(.bool false), .nils, .nils, .nils]]) (q := hp) (Sat.rot (l₁ := [.cells b85 [(.int .i64 ((kdV (txS s2)).a)), (.int .i64 ((kdV (txS s2)).b)), (.int .u64 (.ofNat ((kdV (txS s2)).s)))], .cells b5 [(.str (rsS 16 (txS s2))), (.bool (kdB (txS s2) (txB bad s2)))], .cells b9 [(.bool false), v68, .nils, vp], .cells b62 [(.str (txV s2))], .cells b1 [(.bool false), .nils, .nils, .nils]]) (hl := hl69) s87)
      obtain ⟨v91, hl92, H93, h94, s95, k96⟩ := s_ownP (ps := ps) (p := (kdV (txS s2))) r90 hop c89 (by omega)
      have s97 := Sat.rot3 (p := hl69) (A := [.cells b85 [(.int .i64 ((kdV (txS s2)).a)), (.int .i64 ((kdV (txS s2)).b)), (.int .u64 (.ofNat ((kdV (txS s2)).s)))], .cells b5 [(.str (rsS 16 (txS s2))), (.bool (kdB (txS s2) (txB bad s2)))], .cells b9 [(.bool false), v68, .nils, vp], .cells b62 [(.str (txV s2))], .cells b1 [(.bool false), .nils, .nils, .nils]]) (q := hl92) s95
      refine wo_x (v := v91) (k96 rfl rfl) (wo_nil (wd_run (wo_x (v := (.ptr b9 3)) (ca_fla rfl rfl) (wo_nil (wd_nil ?_)))))
      refine ws_cons ?_
      have s98 := s97.pull 2
      obtain ⟨H99, s100, k101⟩ := s_st s98 3 v91 (Nat.le_of_ble_eq_true rfl) (hv := (own_sc h94))
      refine wo_n (k101 rfl rfl) (wo_nil (wd_nil (ws_nil (blk_n (thn_n ?_)))))
      refine wp_reg (wo_x (v := (.int .i64 (.ofNat (j + 1)))) (w_bin (add_i64 j 1 (by omega) _ _)) (wo_mv (.int .i64 (.ofNat (j + 1))) (wo_nil ?_)))
      have s102 := s100.drop 1
      have s103 := s102.drop 2
      have s104 := s103.pull 2
      have s105 := s104.pull 1
      have s106 := s105.pull 2
      refine lpq_n (c0 * 256 + c1 - (j + 1)) (by omega) ⟨(j + 1), (rsS 16 (txS s2)), (kdB (txS s2) (txB bad s2)), (ks ++ [txV s2]), (ps ++ [(kdV (txS s2))]), v68, v91, hl69, hl92, [(.bool true), (.ptr b5 0), (.ptr b5 0), (.ptr b5 1), (.bool bad), (.ptr b9 1), vk, (.fn (.fn (.func NrN.text)) [(.ptr b5 0)] []), (.str (txV s2)), (.slc b62 0 1 1), v68, (.ptr b9 1), (.bool false), (lget ys42 13), (lget ys42 14), (lget ys42 15), (lget ys42 16), (lget ys42 17), (lget ys42 18), (lget ys42 19), (.ptr b9 3), vp, (.fn (.fn (.func NrN.kid)) [(.ptr b5 0)] []), (.agg r79), (.slc b85 0 1 1), v91, (.ptr b9 3), (.int .i64 (.ofNat (j + 1)))], rfl, rfl, rfl, s106, (by show dstep false (diter false j _) = _; rw [hst]; unfold dstep; rw [if_neg c49, if_neg (by simp)]), h71, h94, (rsS_byte (txS_byte hb2)), (all_snoc hps (kdV_lt (txS_byte hb2))), (by simp; omega), (by simp; omega), (by omega)⟩
  · have hfin : dall false (c0 :: c1 :: r) = ⟨s2, bad, ks, [], ps⟩ := by rw [← hst]; show diter false (c0 * 256 + c1) _ = _; rw [show c0 * 256 + c1 = j by omega]; rfl
    refine wo_x (v := (.bool false)) (w_bin (cmp_lssF j ((c0 * 256) + c1) (by omega))) (wo_nil (thn_n (wp_seq (wp_condF (wp_exit ?_)))))
    refine thn_e (lpq_e (blk_h (thn_n (wp_seq (wp_seq ?_)))))
    refine wp_reg (wo_mv (.ptr b5 0) (wo_x (v := (.ptr b5 0)) (w_lit (fun K => rfl)) (wo_x (v := (.ptr b5 1)) (ca_fla rfl rfl) (wo_x (v := (.bool bad)) (s_ld1 s47 0 rfl) (wo_mv (.bool bad) ?_)))))
    by_cases c107 : bad = true
    · refine wo_noT (ht := (congrArg AV.bool c107)) (wo_noT (ht := (congrArg AV.bool c107)) (wo_noT (ht := (congrArg AV.bool c107)) (wo_noT (ht := (congrArg AV.bool c107)) (wo_noT (ht := (congrArg AV.bool c107)) (wo_x (v := (.bool true)) (w_pickT (congrArg AV.bool c107) rfl) ?_)))))
      refine wo_mv (.bool true) (wo_noT (wo_noT (wo_noT (wo_x (v := (.bool true)) (w_pickT rfl rfl) (wo_nil ?_)))))
      refine thn_n (wp_condT (wp_seq (wp_reg (wo_x (v := (.agg (.cat 1 (.one (.bool false)) (.rep 3 .nils)))) (w_build (r := (.cat 1 (.one (.bool false)) (.rep 3 .nils))) fill_nil) ?_))))
      have s108 := s47.pull 2
      obtain ⟨H109, s110, k111⟩ := s_stn s108 (RL.cat (RL.one (.bool false)) (RL.rep 3 .nils) rfl) 0 4 rfl (Nat.le_of_ble_eq_true rfl)
      refine wo_n (k111 rfl rfl) (wo_mv (.int .i64 4) (wo_nil (thn_n (wp_ret (thn_r ?_)))))
      refine fin_ct (w := (.int .i64 4)) (off := 0) s110 0 fun r112 q113 => ?_
      have s114 := s110.drop 0
      have s115 := s114.drop 0
      have s116 := s115.drop 0
      exact .inr ⟨fun h => (by unfold DecOk at h; rw [hfin] at h; have h2 : bad = false := h.2.1; rw [c107] at h2; cases h2), _, rfl, q113, (Sat.dropP (Sat.dropP s116))⟩
    · refine wo_yesF (ht := (congrArg AV.bool (Bool.eq_false_iff.2 c107))) (wo_mv (.ptr b5 0) (wo_yesF (ht := (congrArg AV.bool (Bool.eq_false_iff.2 c107))) (wo_x (v := (.ptr b5 0)) (w_lit (fun K => rfl)) (wo_yesF (ht := (congrArg AV.bool (Bool.eq_false_iff.2 c107))) (wo_x (v := (.ptr b5 0)) (ca_fla rfl rfl) ?_)))))
      refine wo_yesF (ht := (congrArg AV.bool (Bool.eq_false_iff.2 c107))) (wo_x (v := (.str s2)) (s_ld1 s47 0 rfl) ?_)
      by_cases c117 : s2 = []
      · refine wo_yesF (ht := (congrArg AV.bool (Bool.eq_false_iff.2 c107))) (wo_x (v := (.bool false)) (w_bin (str_neqT c117)) (wo_x (v := (.bool false)) (w_pickF (congrArg AV.bool (Bool.eq_false_iff.2 c107)) rfl) (wo_mv (.bool false) (wo_yesF ?_))))
        obtain ⟨r118, q119, k120⟩ := s_ldn s47 1 0 4 
        refine wo_x (v := (.agg r118)) (k120 rfl) (wo_yesF ?_)
        have r121 := Sat.rot (l₁ := [.cells b5 [(.str s2), (.bool bad)], .cells b9 [(.bool false), vk, .nils, vp], .cells b1 [(.bool false), .nils, .nils, .nils]]) (hl := hk) s47
        obtain ⟨Z122, l123, s124, f125, g126⟩ := own_lend (xs := strs ks) strs_one r121 hok (strs_len ks)
        have q132 := Sat.rot (l₁ := [.cells b5 [(.str s2), (.bool bad)], .cells b9 [(.bool false), vk, .nils, vp], .cells b1 [(.bool false), .nils, .nils, .nils]]) (hl := hp) s124
        obtain ⟨Z127, l128, s129, f130, g131⟩ := own_lend (xs := ptrs ps) ptrs_three q132 hop (ptrs_len ps)
        obtain ⟨_, H133, ⟨rfl, s134⟩, k135⟩ := may_ok2 (ks := ks) (vs := []) (ps := ps) (N := N) (d := d + 11) TD TB (by omega) s129 q119 (f125.mono l128) .nil f130 (by omega) (by simp) (by omega) (by omega) (by simp; omega) (by omega) (by omega) (by have := hbig; rw [hfin] at this; exact this) hps
        have s136 := Sat.rot (l₁ := hk) (hl := [.cells b5 [(.str s2), (.bool bad)], .cells b9 [(.bool false), vk, .nils, vp], .cells b1 [(.bool false), .nils, .nils, .nils]]) (g126 _ (Sat.rot (l₁ := hp) (hl := [.cells b5 [(.str s2), (.bool bad)], .cells b9 [(.bool false), vk, .nils, vp], .cells b1 [(.bool false), .nils, .nils, .nils]]) (g131 _ s134)))
        refine wo_call k135 ?_
        by_cases c137 : (dB (FormN false ks [] ps ∧ sizeN ks [] ps ≤ 500)) = true
        · refine wo_yesF (wo_x (v := (.bool false)) (w_notT (congrArg AV.bool c137)) (wo_x (v := (.bool false)) (w_pickF rfl rfl) (wo_nil (thn_n (wp_condF ?_)))))
          refine wp_skip (thn_n (wp_seq (wp_reg ?_)))
          obtain ⟨r138, q139, k140⟩ := s_ldn s136 1 0 4 
          refine wo_x (v := (.agg r138)) (k140 rfl) ?_
          have s141 := s136.pull 2
          obtain ⟨H142, s143, k144⟩ := s_stn s141 q139 0 4 rfl (Nat.le_of_ble_eq_true rfl)
          refine wo_n (k144 rfl rfl) (wo_mv (.int .i64 0) (wo_nil (thn_n (wp_ret ?_))))
          refine fin_ct (w := (.int .i64 0)) (off := 0) s143 0 fun r145 q146 => ?_
          have s147 := s143.drop 0
          have s148 := s147.drop 0
          have s149 := s148.drop 0
          exact .inl ⟨⟨by simp, by rw [hfin]; exact Bool.eq_false_iff.2 c107, by rw [hfin]; exact c117, by rw [hfin]; exact (dB_iff.1 c137).1, by rw [hfin]; exact (dB_iff.1 c137).2⟩, _, vk, vp, hk, hp, rfl, q146, by rw [hfin]; exact hok, by rw [hfin]; exact hop, s149⟩
        · refine wo_yesF (wo_x (v := (.bool true)) (w_notF (congrArg AV.bool (Bool.eq_false_iff.2 c137))) (wo_x (v := (.bool true)) (w_pickF rfl rfl) (wo_nil (thn_n (wp_condT ?_)))))
          refine wp_seq (wp_reg (wo_x (v := (.agg (.cat 1 (.one (.bool false)) (.rep 3 .nils)))) (w_build (r := (.cat 1 (.one (.bool false)) (.rep 3 .nils))) fill_nil) ?_))
          have s150 := s136.pull 2
          obtain ⟨H151, s152, k153⟩ := s_stn s150 (RL.cat (RL.one (.bool false)) (RL.rep 3 .nils) rfl) 0 4 rfl (Nat.le_of_ble_eq_true rfl)
          refine wo_n (k153 rfl rfl) (wo_mv (.int .i64 4) (wo_nil (thn_n (wp_ret (thn_r ?_)))))
          refine fin_ct (w := (.int .i64 4)) (off := 0) s152 0 fun r154 q155 => ?_
          have s156 := s152.drop 0
          have s157 := s156.drop 0
          have s158 := s157.drop 0
          exact .inr ⟨fun h => (by unfold DecOk at h; rw [hfin] at h; exact (dB_not.1 (Bool.eq_false_iff.2 c137)) ⟨h.2.2.2.1, h.2.2.2.2⟩), _, rfl, q155, (Sat.dropP (Sat.dropP s158))⟩
      · refine wo_yesF (ht := (congrArg AV.bool (Bool.eq_false_iff.2 c107))) (wo_x (v := (.bool true)) (w_bin (str_neqF c117)) (wo_x (v := (.bool true)) (w_pickF (congrArg AV.bool (Bool.eq_false_iff.2 c107)) rfl) (wo_mv (.bool true) (wo_noT (wo_noT ?_)))))
        refine wo_noT (wo_x (v := (.bool true)) (w_pickT rfl rfl) (wo_nil (thn_n (wp_condT (wp_seq ?_)))))
        refine wp_reg (wo_x (v := (.agg (.cat 1 (.one (.bool false)) (.rep 3 .nils)))) (w_build (r := (.cat 1 (.one (.bool false)) (.rep 3 .nils))) fill_nil) ?_)
        have s159 := s47.pull 2
        obtain ⟨H160, s161, k162⟩ := s_stn s159 (RL.cat (RL.one (.bool false)) (RL.rep 3 .nils) rfl) 0 4 rfl (Nat.le_of_ble_eq_true rfl)
        refine wo_n (k162 rfl rfl) (wo_mv (.int .i64 4) (wo_nil (thn_n (wp_ret (thn_r ?_)))))
        refine fin_ct (w := (.int .i64 4)) (off := 0) s161 0 fun r163 q164 => ?_
        have s165 := s161.drop 0
        have s166 := s165.drop 0
        have s167 := s166.drop 0
        exact .inr ⟨fun h => (by unfold DecOk at h; rw [hfin] at h; exact c117 h.2.2.1), _, rfl, q164, (Sat.dropP (Sat.dropP s167))⟩
end
end Go.Jt
