/-
  The law LocksPlays. PRINTED by wip/tools/mkly.py.
-/
import Derived.Test.YtlhlgmodhblplaaJtDy
import Derived.Test.YtlhlgmodhblplaaJtDl
set_option autoImplicit false
set_option linter.all false
set_option maxRecDepth 10000
set_option maxHeartbeats 8000000
namespace Go.Jt
noncomputable section
variable [Gl]
theorem law_lp [LpN] [LfN] [LkN] {tbl : Nat → Option FT} (T : LpT tbl) (TK : LkT tbl) (TL : LfT tbl) (hA : tbl LfN.awake = some (.sum sumTrue)) {n0 : Nat} {kd : Nat → Nat} {tk : Nat → Int} {lv : Nat → AV} {lw : Nat → List Wt} {xv : AV} {N d : Nat} (hd : 14 ≤ d) {Z : Fz} {F : List Hl} {H : AH} (hs : Sat H Z (F)) (hx : Fl Z 3 xv ((List.range n0).map fun i => [AV.int .u8 (.ofNat (kd i)), .int .i64 (tk i), lv i])) (hlv : ∀ i, i < n0 → Fl Z 2 (lv i) (wrow (lw i))) (hN : 20000 ≤ N) :
    Ct (RUN tbl N d) (.fn (.fn (.func LpN.law)) [] []) [xv] H fun v H' => v = .bool true ∧ True := by
  obtain ⟨d, rfl⟩ : ∃ e, d = e + 14 := ⟨d - 14, by omega⟩
  refine ct_code T.law (b := b_elaw) (env := [xv, u_, u_, u_, u_, u_, u_, u_, u_, u_, u_, u_, u_, u_, u_, u_, u_, u_, u_, u_, u_, u_, u_, u_, u_, u_, u_, u_, u_, u_, u_, u_, u_, u_, u_, u_, u_, u_, u_, u_, u_, u_, u_, u_, u_, u_, u_, u_, u_, u_, u_, u_, u_, u_, u_, u_, u_, u_, u_, u_, u_, u_, u_, u_, u_, u_, u_, u_, u_, u_, u_, u_, u_, u_, u_, u_, u_, u_]) ?_
  unfold b_elaw
  refine wp_seq (wp_reg (wo_mv (.bool false) (wo_nil (thn_n (wp_seq ?_)))))
  refine wp_seq (wp_reg (wo_mv xv ?_))
  obtain ⟨_, H1, ⟨rfl, s2⟩, k3⟩ := long18_ok (N := N) (d := d + 13) TL (by omega) hs hx hlv (by omega)
  refine wo_call k3 (wo_nil (thn_n ?_))
  by_cases c4 : (dB (¬ NL18 n0 lw)) = true
  · refine wp_condT (hc := (congrArg AV.bool c4)) (wp_seq (wp_reg ?_))
    refine wo_call (sum_true (by omega) hA H1) (wo_mv (.bool true) (wo_nil (thn_n (wp_ret (thn_r ?_)))))
    exact fin_1 (.bool true) ⟨rfl, trivial⟩
  · have hNL : NL18 n0 lw := Classical.byContradiction fun h => c4 (dB_true h)
    obtain ⟨hn80, hlen⟩ := hNL
    refine wp_condF (hc := (congrArg AV.bool (Bool.eq_false_iff.2 c4))) (wp_skip (thn_n (wp_seq (wp_reg ?_))))
    obtain ⟨_, H5, ⟨t, rfl, s6⟩, k7⟩ := new_ok TK (N := N) (d := d + 13) (by omega) s2
    refine wo_call k7 (wo_mv (.ptr t 0) (wo_nil (thn_n (wp_seq (wp_reg ?_)))))
    refine wo_x (v := (.agg (.one .nils))) (w_build (r := (.one .nils)) fill_nil) ?_
    obtain ⟨b8, H9, s10, k11⟩ := s_boxn s6 (RL.one .nils)
    refine wo_x (v := (.ptr b8 0)) (k11 rfl) (wo_mv (.ptr b8 0) (wo_nil (thn_n (wp_seq (wp_seq ?_)))))
    refine wp_reg (wo_mv (.ptr t 0) (wo_x (v := (.bool false)) (w_lit (fun K => rfl)) (wo_nil (thn_n (wp_condF ?_)))))
    refine wp_skip (thn_n (wp_seq (wp_seq (wp_reg (wo_mv (.int .i64 0) ?_)))))
    refine wo_nil (thn_n (wp_block ?_))
    have s12 := s10.pull 1
    refine wp_loop (fun ms_ env ds H => ∃ (Zi : Fz) (R : List Tk) (D : List Dk) (rv : AV) (rl : List Hl) (i : Nat), ∃ ysO : List AV, ms_ = n0 - i ∧ env = [xv, u_, (lget ysO 0), (.ptr t 0), (.ptr b8 0), (.int .i64 (.ofNat i)), (lget ysO 1), (lget ysO 2), xv, (.bool (dB (¬ NL18 n0 lw))), u_, (.ptr t 0), (.agg (.one .nils)), (.ptr b8 0), (.ptr t 0), (.bool false), (lget ysO 3), (lget ysO 4), (lget ysO 5), (lget ysO 6), (lget ysO 7), (lget ysO 8), (lget ysO 9), (lget ysO 10), (lget ysO 11), (lget ysO 12), (lget ysO 13), (lget ysO 14), (lget ysO 15), (lget ysO 16), (lget ysO 17), (lget ysO 18), (lget ysO 19), (lget ysO 20), (lget ysO 21), (lget ysO 22), (lget ysO 23), (lget ysO 24), (lget ysO 25), (lget ysO 26), (lget ysO 27), (lget ysO 28), (lget ysO 29), (lget ysO 30), (lget ysO 31), (lget ysO 32), (lget ysO 33), (lget ysO 34), (lget ysO 35), (lget ysO 36), (lget ysO 37), (lget ysO 38), (lget ysO 39), (lget ysO 40), (lget ysO 41), (lget ysO 42), (lget ysO 43), (lget ysO 44), (lget ysO 45), (lget ysO 46), (lget ysO 47), (lget ysO 48), (lget ysO 49), (lget ysO 50), (lget ysO 51), (lget ysO 52), (lget ysO 53), (lget ysO 54), (lget ysO 55), (lget ysO 56), (lget ysO 57), (lget ysO 58), (lget ysO 59), (lget ysO 60), (lget ysO 61), (lget ysO 62), (lget ysO 63), u_] ∧ ds = [] ∧ Sat H Zi (((PT t b8 R rv rl) ++ F)) ∧ (i ≤ n0) ∧ (Z.le Zi) ∧ (Pl Zi R D) ∧ (Own 2 rv D.length (dC D) rl)) (n0 - 0) (by omega) ⟨Z, [], [], .nils, [], 0, [(.bool false), u_, u_, u_, u_, u_, u_, u_, u_, u_, u_, u_, u_, u_, u_, u_, u_, u_, u_, u_, u_, u_, u_, u_, u_, u_, u_, u_, u_, u_, u_, u_, u_, u_, u_, u_, u_, u_, u_, u_, u_, u_, u_, u_, u_, u_, u_, u_, u_, u_, u_, u_, u_, u_, u_, u_, u_, u_, u_, u_, u_, u_, u_, u_], rfl, rfl, rfl, s12, by omega, Fz.le_refl _, Pl.nil _, .nil⟩ ?_
    rintro ms_ env ds H hms_ ⟨Zi, R, D, rv, rl, i, ysO, rfl, rfl, rfl, s13, hi, hle, hP, hr⟩
    have hxi := hx.mono hle
    have hlvi := fun i hi => (hlv i hi).mono hle
    refine wp_seq (wp_seq (wp_reg (wo_mv (.int .i64 (.ofNat i)) (wo_mv xv (wo_x (v := (.int .i64 (.ofNat n0))) (fl_len hxi (ofFn_len n0 _) rfl) ?_)))))
    by_cases c14 : i < n0
    · refine wo_x (v := (.bool true)) (w_bin (cmp_lssT i n0 (by omega))) (wo_nil (thn_n (wp_condT (wp_skip (thn_n ?_)))))
      refine wp_seq (wp_block (wp_seq (wp_reg (wo_mv (.ptr t 0) ?_))))
      have s15 : Sat H Zi ((PT t b8 R rv rl) ++ (F)) := s13.perm (by exact perm_cn fun a => by (simp only [cn_PT, cn_app, cn_cons, cn_nil] <;> omega))
      obtain ⟨_, H19, ⟨c16, NR17, rfl, hp18, s20⟩, k21⟩ := copy_p (N := N) (d := d + 13) T TK (by omega) s15 hP (by omega)
      have s22 : Sat H19 Zi ((.cells c16 [(hdQ NR17 .nilp), (.int .i64 (.ofNat NR17.length))]) :: ((PT t b8 R rv rl) ++ ((rowS NR17 .nilp) ++ F))) := s20.perm (by exact perm_cn fun a => by (simp only [cn_PT, cn_app, cn_cons, cn_nil] <;> omega))
      refine wo_call k21 (wo_mv (.ptr b8 0) ?_)
      have s23 : Sat H19 Zi ((PT t b8 R rv rl) ++ ((.cells c16 [(hdQ NR17 .nilp), (.int .i64 (.ofNat NR17.length))]) :: ((rowS NR17 .nilp) ++ (F)))) := s22.perm (by exact perm_cn fun a => by (simp only [cn_PT, cn_app, cn_cons, cn_nil] <;> omega))
      obtain ⟨_, H28, ⟨y24, rv25, rl26, rfl, o27, s29⟩, k30⟩ := dcopy_p (N := N) (d := d + 13) T (by omega) s23 hP hr (by omega)
      have s31 : Sat H28 Zi (((PT t b8 R rv rl) ++ ((PT c16 y24 NR17 rv25 rl26) ++ F))) := s29.perm (by exact perm_cn fun a => by (simp only [cn_PT, cn_app, cn_cons, cn_nil] <;> omega))
      refine wo_call k30 (wo_mv (.ptr c16 0) (wo_mv (.ptr y24 0) (wo_nil (thn_n (wp_seq ?_)))))
      refine wp_reg (wo_mv xv (wo_mv (.int .i64 (.ofNat i)) ?_))
      obtain ⟨b32, o33, L34, z35, g36, e37, n38, k39⟩ := fl_ix hxi i (ofFn_get _ (show i < n0 by omega))
      refine wo_x (v := (.ptr b32 o33)) (k39 rfl rfl) ?_
      obtain ⟨r40, q41, k42⟩ := s_zldn s31 z35 o33 3 (hl := e37)
      rw [fl_take g36 n38 e37] at q41
      refine wo_x (v := (.agg r40)) (k42 rfl) (wo_mv (.ptr t 0) (wo_mv (.ptr b8 0) ?_))
      have s43 : Sat H28 Zi ((PT t b8 R rv rl) ++ (((PT c16 y24 NR17 rv25 rl26) ++ F))) := s31.perm (by exact perm_cn fun a => by (simp only [cn_PT, cn_app, cn_cons, cn_nil] <;> omega))
      obtain ⟨_, H44, ⟨rfl, Z45, R46, D47, rv48, rl49, l50, hp51, o52, s53⟩, k54⟩ := do_ok (N := N) (d := d + 13) T TK TL (by omega) s43 q41 (hlvi i (by omega)) (hlen i (by omega)) hP hr (by omega)
      have f55 := Fz.le_trans hle l50
      have f56 := hxi.mono l50
      have f57 := fun i hi => (hlvi i hi).mono l50
      have f58 := hp18.mono l50
      have s59 : Sat H44 Z45 (((PT t b8 R46 rv48 rl49) ++ ((PT c16 y24 NR17 rv25 rl26) ++ F))) := s53.perm (by exact perm_cn fun a => by (simp only [cn_PT, cn_app, cn_cons, cn_nil] <;> omega))
      refine wo_call k54 (wo_x (v := (.bool false)) (w_lit (fun K => rfl)) (wo_mv (.bool false) (wo_yesF (wo_mv (.ptr t 0) (wo_yesF ?_)))))
      refine wo_mv (.ptr b8 0) (wo_yesF (wo_mv xv (wo_yesF (wo_mv (.int .i64 (.ofNat i)) (wo_yesF ?_)))))
      obtain ⟨b60, o61, L62, z63, g64, e65, n66, k67⟩ := fl_ix f56 i (ofFn_get _ (show i < n0 by omega))
      refine wo_x (v := (.ptr b60 o61)) (k67 rfl rfl) (wo_yesF (wo_x (v := (.ptr b60 (o61 + 1))) (ca_fla rfl (by omega)) (wo_yesF (wo_x (v := (.int .i64 (tk i))) (s_zld1 s59 z63 (g64 1 _ rfl)) (wo_yesF ?_)))))
      have s68 : Sat H44 Z45 ((PT t b8 R46 rv48 rl49) ++ (((PT c16 y24 NR17 rv25 rl26) ++ F))) := s59.perm (by exact perm_cn fun a => by (simp only [cn_PT, cn_app, cn_cons, cn_nil] <;> omega))
      obtain ⟨_, H69, ⟨rfl, s70⟩, k71⟩ := like_ok (N := N) (d := d + 13) (n := (tk i)) T TK TL (by omega) s68 hp51 o52 (by omega)
      have s72 : Sat H69 Z45 (((PT t b8 R46 rv48 rl49) ++ ((PT c16 y24 NR17 rv25 rl26) ++ F))) := s70.perm (by exact perm_cn fun a => by (simp only [cn_PT, cn_app, cn_cons, cn_nil] <;> omega))
      refine wo_call k71 (wo_yesF (wo_x (v := (.bool false)) (w_lit (fun K => rfl)) (wo_x (v := (.bool false)) (w_pickF rfl rfl) (wo_mv (.bool false) (wo_yesF ?_)))))
      refine wo_mv (.ptr c16 0) (wo_yesF (wo_mv (.ptr y24 0) (wo_yesF (wo_mv xv (wo_yesF ?_)))))
      refine wo_mv (.int .i64 (.ofNat i)) (wo_yesF ?_)
      obtain ⟨b73, o74, L75, z76, g77, e78, n79, k80⟩ := fl_ix f56 i (ofFn_get _ (show i < n0 by omega))
      refine wo_x (v := (.ptr b73 o74)) (k80 rfl rfl) (wo_yesF (wo_x (v := (.ptr b73 (o74 + 1))) (ca_fla rfl (by omega)) (wo_yesF (wo_x (v := (.int .i64 (tk i))) (s_zld1 s72 z76 (g77 1 _ rfl)) (wo_yesF ?_)))))
      have s81 : Sat H69 Z45 ((PT c16 y24 NR17 rv25 rl26) ++ (((PT t b8 R46 rv48 rl49) ++ F))) := s72.perm (by exact perm_cn fun a => by (simp only [cn_PT, cn_app, cn_cons, cn_nil] <;> omega))
      obtain ⟨_, H82, ⟨rfl, s83⟩, k84⟩ := like_ok (N := N) (d := d + 13) (n := (tk i)) T TK TL (by omega) s81 f58 o27 (by omega)
      have s85 : Sat H82 Z45 (((PT c16 y24 NR17 rv25 rl26) ++ ((PT t b8 R46 rv48 rl49) ++ F))) := s83.perm (by exact perm_cn fun a => by (simp only [cn_PT, cn_app, cn_cons, cn_nil] <;> omega))
      refine wo_call k84 (wo_yesF (wo_x (v := (.bool false)) (w_lit (fun K => rfl)) (wo_x (v := (.bool false)) (w_pickF rfl rfl) (wo_mv (.bool false) (wo_yesF ?_)))))
      refine wo_mv xv (wo_yesF (wo_mv (.int .i64 (.ofNat i)) (wo_yesF ?_)))
      obtain ⟨b86, o87, L88, z89, g90, e91, n92, k93⟩ := fl_ix f56 i (ofFn_get _ (show i < n0 by omega))
      refine wo_x (v := (.ptr b86 o87)) (k93 rfl rfl) (wo_yesF ?_)
      obtain ⟨r94, q95, k96⟩ := s_zldn s85 z89 o87 3 (hl := e91)
      rw [fl_take g90 n92 e91] at q95
      refine wo_x (v := (.agg r94)) (k96 rfl) (wo_yesF (wo_mv (.ptr c16 0) (wo_yesF (wo_mv (.ptr y24 0) (wo_yesF ?_)))))
      have s97 : Sat H82 Z45 ((PT c16 y24 NR17 rv25 rl26) ++ (((PT t b8 R46 rv48 rl49) ++ F))) := s85.perm (by exact perm_cn fun a => by (simp only [cn_PT, cn_app, cn_cons, cn_nil] <;> omega))
      obtain ⟨_, H98, ⟨rfl, Z99, R100, D101, rv102, rl103, l104, hp105, o106, s107⟩, k108⟩ := do_ok (N := N) (d := d + 13) T TK TL (by omega) s97 q95 (f57 i (by omega)) (hlen i (by omega)) f58 o27 (by omega)
      have f109 := Fz.le_trans f55 l104
      have f110 := f56.mono l104
      have f111 := fun i hi => (f57 i hi).mono l104
      have f112 := hp51.mono l104
      have s113 : Sat H98 Z99 (((PT c16 y24 R100 rv102 rl103) ++ ((PT t b8 R46 rv48 rl49) ++ F))) := s107.perm (by exact perm_cn fun a => by (simp only [cn_PT, cn_app, cn_cons, cn_nil] <;> omega))
      refine wo_call k108 (wo_yesF (wo_x (v := (.bool false)) (w_lit (fun K => rfl)) (wo_x (v := (.bool false)) (w_pickF rfl rfl) (wo_mv (.bool false) (wo_yesF ?_)))))
      refine wo_mv (.ptr c16 0) (wo_yesF (wo_mv (.ptr y24 0) (wo_yesF (wo_mv xv (wo_yesF ?_)))))
      refine wo_mv (.int .i64 (.ofNat i)) (wo_yesF ?_)
      obtain ⟨b114, o115, L116, z117, g118, e119, n120, k121⟩ := fl_ix f110 i (ofFn_get _ (show i < n0 by omega))
      refine wo_x (v := (.ptr b114 o115)) (k121 rfl rfl) (wo_yesF (wo_x (v := (.ptr b114 (o115 + 1))) (ca_fla rfl (by omega)) (wo_yesF (wo_x (v := (.int .i64 (tk i))) (s_zld1 s113 z117 (g118 1 _ rfl)) (wo_yesF ?_)))))
      have s122 : Sat H98 Z99 ((PT c16 y24 R100 rv102 rl103) ++ (((PT t b8 R46 rv48 rl49) ++ F))) := s113.perm (by exact perm_cn fun a => by (simp only [cn_PT, cn_app, cn_cons, cn_nil] <;> omega))
      obtain ⟨_, H123, ⟨rfl, s124⟩, k125⟩ := like_ok (N := N) (d := d + 13) (n := (tk i)) T TK TL (by omega) s122 hp105 o106 (by omega)
      have s126 : Sat H123 Z99 (((PT c16 y24 R100 rv102 rl103) ++ ((PT t b8 R46 rv48 rl49) ++ F))) := s124.perm (by exact perm_cn fun a => by (simp only [cn_PT, cn_app, cn_cons, cn_nil] <;> omega))
      refine wo_call k125 (wo_yesF (wo_x (v := (.bool false)) (w_lit (fun K => rfl)) (wo_x (v := (.bool false)) (w_pickF rfl rfl) (wo_nil (thn_n ?_)))))
      refine wp_condF (wp_skip (blk_n (thn_n (wp_reg (wo_mv (.int .i64 (.ofNat i)) ?_)))))
      refine wo_x (v := (.int .i64 (.ofNat (i + 1)))) (w_bin (add_i64 i 1 (by omega) _ _)) (wo_mv (.int .i64 (.ofNat (i + 1))) (wo_nil ?_))
      have s127 : Sat H123 Z99 ((PT t b8 R46 rv48 rl49) ++ (((PT c16 y24 R100 rv102 rl103) ++ F))) := s126.perm (by exact perm_cn fun a => by (simp only [cn_PT, cn_app, cn_cons, cn_nil] <;> omega))
      have s128 : Sat H123 Z99 ((PT t b8 R46 rv48 rl49) ++ F) := s127.sub (List.Sublist.append_left (by first | exact List.Sublist.refl _ | exact List.sublist_append_right _ _ | exact (List.sublist_append_right _ _).trans (List.sublist_append_right _ _)) _)
      refine lpq_n (n0 - (i + 1)) (by omega) ⟨Z99, R46, D47, rv48, rl49, i + 1, [(lget ysO 0), (.ptr c16 0), (.ptr y24 0), (.int .i64 (.ofNat i)), xv, (.int .i64 (.ofNat n0)), (.bool true), (.int .i64 (.ofNat i)), (.int .i64 (.ofNat (i + 1))), (.ptr t 0), (.ptr c16 0), (.ptr b8 0), (.ptr y24 0), xv, (.int .i64 (.ofNat i)), (.ptr b32 o33), (.agg r40), (.ptr t 0), (.ptr b8 0), (.bool true), (.bool false), (.bool false), (.ptr t 0), (.ptr b8 0), xv, (.int .i64 (.ofNat i)), (.ptr b60 o61), (.ptr b60 (o61 + 1)), (.int .i64 (tk i)), (.bool true), (.bool false), (.bool false), (.bool false), (.ptr c16 0), (.ptr y24 0), xv, (.int .i64 (.ofNat i)), (.ptr b73 o74), (.ptr b73 (o74 + 1)), (.int .i64 (tk i)), (.bool true), (.bool false), (.bool false), (.bool false), xv, (.int .i64 (.ofNat i)), (.ptr b86 o87), (.agg r94), (.ptr c16 0), (.ptr y24 0), (.bool true), (.bool false), (.bool false), (.bool false), (.ptr c16 0), (.ptr y24 0), xv, (.int .i64 (.ofNat i)), (.ptr b114 o115), (.ptr b114 (o115 + 1)), (.int .i64 (tk i)), (.bool true), (.bool false), (.bool false)], rfl, rfl, rfl, s128, by omega, f109, f112, o52⟩
    · refine wo_x (v := (.bool false)) (w_bin (cmp_lssF i n0 (by omega))) (wo_nil (thn_n (wp_condF (wp_exit (thn_e ?_)))))
      refine lpq_e (blk_h (thn_n (wp_seq (wp_reg ?_))))
      refine wo_call (sum_true (by omega) hA H) (wo_mv (.bool true) (wo_nil (thn_n (wp_ret ?_))))
      exact fin_1 (.bool true) ⟨rfl, trivial⟩
end
end Go.Jt
