/-
  The document's table: Ask. PRINTED by wip/tools/mklp.py.
-/
import Derived.Test.YtlhlgmodhblplaaJtDo
set_option autoImplicit false
set_option linter.all false
set_option maxRecDepth 10000
set_option maxHeartbeats 8000000
namespace Go.Jt
noncomputable section
variable [Gl]
theorem dask_ok [LpN] [LfN] [LkN] {tbl : Nat → Option FT} (T : LpT tbl) (TK : LkT tbl) (TL : LfT tbl) {x : Nat} {R : List Tk} {D : List Dk} {rv v0 : AV} {rl : List Hl} {n : Int} {ws : List Wt} {N d : Nat} (hd : 4 ≤ d) {Z : Fz} {F : List Hl} {H : AH} (hs : Sat H Z ((.cells x [rv]) :: (rl ++ F))) (hv0 : Fl Z 2 v0 (wrow ws)) (hlw : ws.length ≤ 1000) (ho : Own 2 rv D.length (dC D) rl) (hD : DOk Z D) (hm : Mt R D) (hlr : D.length ≤ 1000) (hN : 2000 < N) :
    Ct (RUN tbl N d) (.fn (.fn (.func LpN.dask)) [] []) [(.ptr x 0), (.int .i64 n), v0] H fun v H' => ∃ e : Nat, AskP R n ws e ∧ ((e ≠ 0 ∧ v = .tup [.bool false, .int .i64 (.ofNat e)] ∧ Sat H' Z ((.cells x [rv]) :: (rl ++ F))) ∨ (e = 0 ∧ ∃ xv rv' rl' Z', Z.le Z' ∧ Fl Z' 2 xv (wrow ws) ∧ Own 2 rv' (D ++ [(⟨n, xv, ws⟩ : Dk)]).length (dC (D ++ [(⟨n, xv, ws⟩ : Dk)])) rl' ∧ v = .tup [.bool (dB (FreeD (D ++ [(⟨n, xv, ws⟩ : Dk)]) ((D ++ [(⟨n, xv, ws⟩ : Dk)]).length - 1))), .int .i64 0] ∧ Sat H' Z' ((.cells x [rv']) :: (rl' ++ F)))) := by
  obtain ⟨d, rfl⟩ : ∃ e, d = e + 4 := ⟨d - 4, by omega⟩
  have hml := hm.len
  refine ct_code T.dask (b := b_edask) (env := [(.ptr x 0), (.int .i64 n), v0, u_, u_, u_, u_, u_, u_, u_, u_, u_, u_, u_, u_, u_, u_, u_, u_, u_, u_, u_, u_, u_, u_, u_, u_, u_, u_, u_, u_, u_, u_, u_, u_, u_, u_, u_, u_, u_, u_, u_, u_, u_, u_, u_, u_, u_, u_, u_, u_, u_, u_, u_, u_, u_, u_, u_, u_, u_, u_, u_, u_, u_, u_, u_, u_, u_, u_, u_, u_, u_, u_, u_, u_, u_, u_]) ?_
  unfold b_edask
  refine wp_seq (wp_reg (wo_mv (.bool false) (wo_mv (.int .i64 0) (wo_nil (thn_n ?_)))))
  refine wp_seq (wp_seq (wp_reg (wo_mv (.int .i64 n) ?_)))
  by_cases c1 : n < 0
  · refine wo_x (v := (.bool true)) (w_bin (cmp_lssTz n 0 (by omega))) (wo_mv (.bool true) (wo_noT (wo_noT (wo_noT (wo_x (v := (.bool true)) (w_pickT rfl rfl) ?_)))))
    refine wo_nil (thn_n (wp_condT (wp_seq (wp_reg (wo_mv (.bool false) ?_)))))
    refine wo_mv (.int .i64 1) (wo_nil (thn_n (wp_ret (thn_r ?_))))
    exact fin_2 (.bool false) (.int .i64 1) ⟨1, .arg (by omega), .inl ⟨by decide, rfl, hs⟩⟩
  · refine wo_x (v := (.bool false)) (w_bin (cmp_lssFz n 0 (by omega))) (wo_mv (.bool false) (wo_yesF (wo_mv v0 (wo_yesF (wo_x (v := (.int .i64 (.ofNat ws.length))) (fl_len hv0 (wrow_len ws) rfl) ?_)))))
    by_cases c2 : 4 < ws.length
    · refine wo_yesF (wo_x (v := (.bool true)) (w_bin (cmp_gtrT ws.length 4 (by omega))) (wo_x (v := (.bool true)) (w_pickF rfl rfl) (wo_nil (thn_n (wp_condT ?_)))))
      refine wp_seq (wp_reg (wo_mv (.bool false) (wo_mv (.int .i64 1) (wo_nil (thn_n ?_)))))
      refine wp_ret (thn_r ?_)
      exact fin_2 (.bool false) (.int .i64 1) ⟨1, .arg (by omega), .inl ⟨by decide, rfl, hs⟩⟩
    · refine wo_yesF (wo_x (v := (.bool false)) (w_bin (cmp_gtrF ws.length 4 (by omega))) (wo_x (v := (.bool false)) (w_pickF rfl rfl) (wo_nil (thn_n (wp_condF ?_)))))
      refine wp_skip (thn_n (wp_seq (wp_seq (wp_reg (wo_mv (.int .i64 0) ?_)))))
      refine wo_nil (thn_n (wp_block ?_))
      refine wp_loop (fun ms_ env ds H => ∃ (q : Nat), ∃ ys3 : List AV, ms_ = ws.length - q ∧ env = [(.ptr x 0), (.int .i64 n), v0, u_, u_, u_, (lget ys3 0), (lget ys3 1), (.int .i64 (.ofNat q)), (lget ys3 2), (.int .i64 n), (.bool false), (.bool false), v0, (.int .i64 (.ofNat ws.length)), (.bool false), (.bool false), (lget ys3 3), (lget ys3 4), (lget ys3 5), (lget ys3 6), (lget ys3 7), (lget ys3 8), (lget ys3 9), (lget ys3 10), (lget ys3 11), (lget ys3 12), (lget ys3 13), (lget ys3 14), (lget ys3 15), (lget ys3 16), (lget ys3 17), (lget ys3 18), (lget ys3 19), (lget ys3 20), (lget ys3 21), (lget ys3 22), (lget ys3 23), (lget ys3 24), (lget ys3 25), (lget ys3 26), (lget ys3 27), (lget ys3 28), (lget ys3 29), (lget ys3 30), u_, u_, u_, u_, u_, u_, u_, u_, u_, u_, u_, u_, u_, u_, u_, u_, u_, u_, u_, u_, u_, u_, u_, u_, u_, u_, u_, u_, u_, u_, u_, u_] ∧ ds = [] ∧ Sat H Z ((.cells x [rv]) :: (rl ++ F)) ∧ (q ≤ ws.length) ∧ (∀ z, z < q → 1 ≤ (wAt ws z).1 ∧ ∀ y, y < z → ¬ (wAt ws y).1 = (wAt ws z).1)) (ws.length - 0) (by omega) ⟨0, [(.bool false), (.int .i64 0), u_, u_, u_, u_, u_, u_, u_, u_, u_, u_, u_, u_, u_, u_, u_, u_, u_, u_, u_, u_, u_, u_, u_, u_, u_, u_, u_, u_, u_], rfl, rfl, rfl, hs, (by omega), (fun z hz => by omega)⟩ ?_
      rintro ms_ env ds H hms_ ⟨q, ys3, rfl, rfl, rfl, s4, hq, hg⟩
      refine wp_seq (wp_seq (wp_reg (wo_mv (.int .i64 (.ofNat q)) (wo_mv v0 (wo_x (v := (.int .i64 (.ofNat ws.length))) (fl_len hv0 (wrow_len ws) rfl) ?_)))))
      by_cases c5 : q < ws.length
      · refine wo_x (v := (.bool true)) (w_bin (cmp_lssT q ws.length (by omega))) (wo_nil (thn_n (wp_condT (wp_skip (thn_n ?_)))))
        refine wp_seq (wp_block (wp_seq (wp_seq (wp_reg (wo_mv v0 ?_)))))
        refine wo_mv (.int .i64 (.ofNat q)) ?_
        obtain ⟨b6, o7, L8, z9, g10, e11, n12, k13⟩ := fl_ix hv0 q (wrow_get (show q < ws.length by omega))
        refine wo_x (v := (.ptr b6 o7)) (k13 rfl rfl) (wo_x (v := (.ptr b6 o7)) (ca_fla rfl (by omega)) (wo_x (v := (.int .i64 ((wAt ws q).1))) (s_zld1 s4 z9 (g10 0 _ rfl)) ?_))
        by_cases c14 : ((wAt ws q).1) < 1
        · refine wo_x (v := (.bool true)) (w_bin (cmp_lssTz ((wAt ws q).1) 1 (by omega))) (wo_nil (thn_n (wp_condT (wp_seq (wp_reg ?_)))))
          refine wo_mv (.bool false) (wo_mv (.int .i64 1) (wo_nil (thn_n (wp_ret (thn_r ?_)))))
          refine blk_r (thn_r (lpq_r (blk_r (thn_r ?_))))
          exact fin_2 (.bool false) (.int .i64 1) ⟨1, .bad (by omega) (by omega) q (by omega) (.inl c14), .inl ⟨by decide, rfl, s4⟩⟩
        · refine wo_x (v := (.bool false)) (w_bin (cmp_lssFz ((wAt ws q).1) 1 (by omega))) (wo_nil (thn_n (wp_condF (wp_skip (thn_n ?_)))))
          refine wp_seq (wp_reg (wo_mv (.int .i64 0) (wo_nil (thn_n (wp_block ?_)))))
          refine wp_loop (fun ms_ env ds H => ∃ (p : Nat), ∃ ys15 : List AV, ms_ = q - p ∧ env = [(.ptr x 0), (.int .i64 n), v0, u_, u_, u_, (lget ys15 0), (lget ys15 1), (.int .i64 (.ofNat q)), (.int .i64 (.ofNat p)), (.int .i64 n), (.bool false), (.bool false), v0, (.int .i64 (.ofNat ws.length)), (.bool false), (.bool false), (.int .i64 (.ofNat q)), v0, (.int .i64 (.ofNat ws.length)), (.bool true), (lget ys3 7), (lget ys3 8), v0, (.int .i64 (.ofNat q)), (.ptr b6 o7), (.ptr b6 o7), (.int .i64 ((wAt ws q).1)), (.bool false), (lget ys15 2), (lget ys15 3), (lget ys15 4), (lget ys15 5), (lget ys15 6), (lget ys15 7), (lget ys15 8), (lget ys15 9), (lget ys15 10), (lget ys15 11), (lget ys15 12), (lget ys15 13), (lget ys15 14), (lget ys15 15), (lget ys15 16), (lget ys15 17), u_, u_, u_, u_, u_, u_, u_, u_, u_, u_, u_, u_, u_, u_, u_, u_, u_, u_, u_, u_, u_, u_, u_, u_, u_, u_, u_, u_, u_, u_, u_, u_] ∧ ds = [] ∧ Sat H Z ((.cells x [rv]) :: (rl ++ F)) ∧ (p ≤ q) ∧ (∀ y, y < p → ¬ (wAt ws y).1 = (wAt ws q).1)) (q - 0) (by omega) ⟨0, [(lget ys3 0), (lget ys3 1), (lget ys3 15), (lget ys3 16), (lget ys3 17), (lget ys3 18), (lget ys3 19), (lget ys3 20), (lget ys3 21), (lget ys3 22), (lget ys3 23), (lget ys3 24), (lget ys3 25), (lget ys3 26), (lget ys3 27), (lget ys3 28), (lget ys3 29), (lget ys3 30)], rfl, rfl, rfl, s4, (by omega), (fun z hz => by omega)⟩ ?_
          rintro ms_ env ds H hms_ ⟨p, ys15, rfl, rfl, rfl, s16, hp, hB⟩
          refine wp_seq (wp_seq (wp_reg (wo_mv (.int .i64 (.ofNat p)) (wo_mv (.int .i64 (.ofNat q)) ?_))))
          by_cases c17 : p < q
          · refine wo_x (v := (.bool true)) (w_bin (cmp_lssT p q (by omega))) (wo_nil (thn_n (wp_condT (wp_skip (thn_n ?_)))))
            refine wp_seq (wp_block (wp_seq (wp_dreg (wd_run (wo_mv v0 ?_)))))
            refine wo_nil (wd_run (wo_mv (.int .i64 (.ofNat p)) (wo_nil (wd_run ?_))))
            obtain ⟨b18, o19, L20, z21, g22, e23, n24, k25⟩ := fl_ix hv0 p (wrow_get (show p < ws.length by omega))
            refine wo_x (v := (.ptr b18 o19)) (k25 rfl rfl) (wo_nil (wd_run (wo_x (v := (.ptr b18 o19)) (ca_fla rfl (by omega)) (wo_nil (wd_run ?_)))))
            refine wo_x (v := (.int .i64 ((wAt ws p).1))) (s_zld1 s16 z21 (g22 0 _ rfl)) (wo_nil (wd_run (wo_mv v0 (wo_nil (wd_run ?_)))))
            refine wo_mv (.int .i64 (.ofNat q)) (wo_nil (wd_run ?_))
            obtain ⟨b26, o27, L28, z29, g30, e31, n32, k33⟩ := fl_ix hv0 q (wrow_get (show q < ws.length by omega))
            refine wo_x (v := (.ptr b26 o27)) (k33 rfl rfl) (wo_nil (wd_run (wo_x (v := (.ptr b26 o27)) (ca_fla rfl (by omega)) (wo_nil (wd_run ?_)))))
            refine wo_x (v := (.int .i64 ((wAt ws q).1))) (s_zld1 s16 z29 (g30 0 _ rfl)) (wo_nil (wd_run ?_))
            by_cases c34 : ((wAt ws p).1) = ((wAt ws q).1)
            · refine wo_x (v := (.bool true)) (w_bin (cmp_eqlTz ((wAt ws p).1) ((wAt ws q).1) (by omega))) (wo_nil (wd_nil (ws_nil (thn_n (wp_condT ?_)))))
              refine wp_seq (wp_reg (wo_mv (.bool false) (wo_mv (.int .i64 1) (wo_nil (thn_n ?_)))))
              refine wp_ret (blk_r (thn_r (lpq_r (blk_r (blk_r ?_)))))
              refine thn_r (lpq_r (blk_r (thn_r ?_)))
              exact fin_2 (.bool false) (.int .i64 1) ⟨1, .bad (by omega) (by omega) q (by omega) (.inr ⟨p, by omega, by assumption⟩), .inl ⟨by decide, rfl, s16⟩⟩
            · refine wo_x (v := (.bool false)) (w_bin (cmp_eqlFz ((wAt ws p).1) ((wAt ws q).1) (by omega))) (wo_nil (wd_nil (ws_nil (thn_n (wp_condF ?_)))))
              refine wp_skip (blk_n (thn_n (wp_reg (wo_mv (.int .i64 (.ofNat p)) (wo_x (v := (.int .i64 (.ofNat (p + 1)))) (w_bin (add_i64 p 1 (by omega) _ _)) ?_)))))
              refine wo_mv (.int .i64 (.ofNat (p + 1))) (wo_nil ?_)
              refine lpq_n (q - (p + 1)) (by omega) ⟨(p + 1), [(lget ys15 0), (lget ys15 1), (.int .i64 (.ofNat p)), (.int .i64 (.ofNat q)), (.bool true), (.int .i64 (.ofNat p)), (.int .i64 (.ofNat (p + 1))), v0, (.int .i64 (.ofNat p)), (.ptr b18 o19), (.ptr b18 o19), (.int .i64 ((wAt ws p).1)), v0, (.int .i64 (.ofNat q)), (.ptr b26 o27), (.ptr b26 o27), (.int .i64 ((wAt ws q).1)), (.bool false)], rfl, rfl, rfl, s16, (by omega), (fun y hy => by by_cases e : y = p; (subst e; assumption); exact hB y (by omega))⟩
          · refine wo_x (v := (.bool false)) (w_bin (cmp_lssF p q (by omega))) (wo_nil (thn_n (wp_condF (wp_exit (thn_e ?_)))))
            refine lpq_e (blk_h (blk_n (thn_n (wp_reg (wo_mv (.int .i64 (.ofNat q)) ?_)))))
            refine wo_x (v := (.int .i64 (.ofNat (q + 1)))) (w_bin (add_i64 q 1 (by omega) _ _)) (wo_mv (.int .i64 (.ofNat (q + 1))) (wo_nil ?_))
            refine lpq_n (ws.length - (q + 1)) (by omega) ⟨(q + 1), [(lget ys15 0), (lget ys15 1), (.int .i64 (.ofNat p)), (.int .i64 (.ofNat q)), v0, (.int .i64 (.ofNat ws.length)), (.bool true), (.int .i64 (.ofNat q)), (.int .i64 (.ofNat (q + 1))), v0, (.int .i64 (.ofNat q)), (.ptr b6 o7), (.ptr b6 o7), (.int .i64 ((wAt ws q).1)), (.bool false), (.int .i64 (.ofNat p)), (.int .i64 (.ofNat q)), (.bool false), (lget ys15 5), (lget ys15 6), (lget ys15 7), (lget ys15 8), (lget ys15 9), (lget ys15 10), (lget ys15 11), (lget ys15 12), (lget ys15 13), (lget ys15 14), (lget ys15 15), (lget ys15 16), (lget ys15 17)], rfl, rfl, rfl, s16, (by omega), (fun z hz => by by_cases e : z = q; (subst e; exact ⟨by omega, fun y hy => hB y (by omega)⟩); exact hg z (by omega))⟩
      · refine wo_x (v := (.bool false)) (w_bin (cmp_lssF q ws.length (by omega))) (wo_nil (thn_n (wp_condF (wp_exit (thn_e ?_)))))
        refine lpq_e (blk_h (thn_n (wp_seq (wp_seq (wp_reg ?_)))))
        refine wo_mv (.ptr x 0) (wo_mv (.int .i64 n) ?_)
        by_cases c35 : ∃ j_, j_ < R.length ∧ (tkAt R j_).n = n
        · obtain ⟨j36, h37, h38, h39⟩ := first_tk c35
          have r40 := Sat.rot (H := H) (Z := Z) (l₁ := [.cells x [rv]]) (hl := rl) (F := F) (s4)
          have s41 : Sat H Z (rl ++ ((.cells x [rv]) :: F)) := by have h := r40; simp only [List.cons_append, List.nil_append, List.append_assoc] at h ⊢; exact h
          obtain ⟨_, H42, ⟨rfl, s43⟩, k44⟩ := datY_own (N := N) (d := d + 3) (D := D) T (by omega) s41 ho (List.mem_cons_self) hD (by omega) (by omega) (i := j36) (by omega) ((hm.n j36 h37).trans h38) (fun q hq e => h39 q hq ((hm.n q (by omega)).symm.trans e))
          have s45 : Sat H42 Z ((.cells x [rv]) :: (rl ++ F)) := by have h := Sat.rot (l₁ := rl) (hl := [.cells x [rv]]) (by simp only [List.cons_append, List.nil_append, List.append_assoc]; exact s43); simp only [List.cons_append, List.nil_append, List.append_assoc] at h ⊢; exact h
          refine wo_call k44 (wo_x (v := (.bool true)) (w_bin (cmp_geqT j36 0 (by omega))) (wo_nil (thn_n (wp_condT (wp_seq ?_)))))
          refine wp_reg (wo_mv (.bool false) (wo_mv (.int .i64 6) (wo_nil (thn_n (wp_ret ?_)))))
          refine thn_r ?_
          exact fin_2 (.bool false) (.int .i64 6) ⟨6, .twice (by omega) (by omega) (fun z hz => hg z (by omega)) j36 h37 h38, .inl ⟨by decide, rfl, s45⟩⟩
        · have r46 := Sat.rot (H := H) (Z := Z) (l₁ := [.cells x [rv]]) (hl := rl) (F := F) (s4)
          have s47 : Sat H Z (rl ++ ((.cells x [rv]) :: F)) := by have h := r46; simp only [List.cons_append, List.nil_append, List.append_assoc] at h ⊢; exact h
          obtain ⟨_, H48, ⟨rfl, s49⟩, k50⟩ := datN_own (N := N) (d := d + 3) (D := D) T (by omega) s47 ho (List.mem_cons_self) hD (by omega) (by omega) (fun q hq e => c35 ⟨q, by omega, (hm.n q (by omega)).symm.trans e⟩)
          have s51 : Sat H48 Z ((.cells x [rv]) :: (rl ++ F)) := by have h := Sat.rot (l₁ := rl) (hl := [.cells x [rv]]) (by simp only [List.cons_append, List.nil_append, List.append_assoc]; exact s49); simp only [List.cons_append, List.nil_append, List.append_assoc] at h ⊢; exact h
          refine wo_call k50 (wo_x (v := (.bool false)) (w_lit (fun K => rfl)) (wo_nil (thn_n (wp_condF (wp_skip ?_)))))
          refine thn_n (wp_seq (wp_seq (wp_reg (wo_mv (.ptr x 0) (wo_x (v := (.ptr x 0)) (w_lit (fun K => rfl)) ?_)))))
          refine wo_x (v := (.ptr x 0)) (ca_fla rfl rfl) (wo_x (v := rv) (s_ld1 s51 0 rfl) (wo_x (v := (.int .i64 (.ofNat D.length))) (own_len ho rfl) ?_))
          by_cases c52 : 16 ≤ D.length
          · refine wo_x (v := (.bool true)) (w_bin (cmp_geqT D.length 16 (by omega))) (wo_nil (thn_n (wp_condT (wp_seq (wp_reg ?_)))))
            refine wo_mv (.bool false) (wo_mv (.int .i64 3) (wo_nil (thn_n (wp_ret (thn_r ?_)))))
            exact fin_2 (.bool false) (.int .i64 3) ⟨3, .full (by omega) (by omega) (fun z hz => hg z (by omega)) (fun j hj e => c35 ⟨j, hj, e⟩) (by omega), .inl ⟨by decide, rfl, s51⟩⟩
          · refine wo_x (v := (.bool false)) (w_bin (cmp_geqF D.length 16 (by omega))) (wo_nil (thn_n (wp_condF (wp_skip (thn_n ?_)))))
            refine wp_seq (wp_dreg (wd_run (wo_mv (.ptr x 0) (wo_nil (wd_run ?_)))))
            refine wo_mv (.ptr x 0) (wo_nil (wd_run (wo_x (v := (.ptr x 0)) (w_lit (fun K => rfl)) (wo_nil (wd_run ?_)))))
            refine wo_x (v := (.ptr x 0)) (ca_fla rfl rfl) (wo_nil (wd_run (wo_x (v := rv) (s_ld1 s51 0 rfl) (wo_nil (wd_run ?_)))))
            refine wo_mv (.int .i64 n) (wo_nil (wd_run ?_))
            obtain ⟨b53, H54, s55, k56⟩ := s_bsl s51 RL.nil
            refine wo_x (v := (.slc b53 0 0 0)) (k56 fill_nil) (wo_nil (wd_run (wo_mv v0 (wo_nil (wd_nil ?_)))))
            refine ws_cons ?_
            have c57 := src_w s55 hv0
            obtain ⟨v58, hl59, H60, h61, s62, k63⟩ := s_copy (bytes := 16) s55 c57 (by omega) (by omega)
            have s64 := Sat.rot (l₁ := hl59) (hl := [.cells x [rv]]) s62
            have r71 := Sat.rot (H := H60) (Z := Z) (l₁ := [.cells x [rv]]) (hl := hl59) (F := rl ++ (F)) (s64)
            have s72 : Sat H60 Z (hl59 ++ ((.cells x [rv]) :: (rl ++ F))) := by have h := r71; simp only [List.cons_append, List.nil_append, List.append_assoc] at h ⊢; exact h
            obtain ⟨Z65, l66, s67, f68, g69⟩ := own_lend (xs := wrow ws) wrow_two s72 h61 (wrow_len ws)
            have hd73 := hD.mono l66
            refine wo_x (v := v58) (k63 rfl rfl) (wo_nil (wd_again (v := rv) (hs := own_same ho) (s_ld1 s67 0 rfl) (wd_run (wo_x (v := (.agg (Rp.set (Rp.set (.cat 1 (.one (.int .i64 0)) (.one .nils)) 0 (.int .i64 n)) 1 v58))) (w_build (r := (Rp.set (Rp.set (.cat 1 (.one (.int .i64 0)) (.one .nils)) 0 (.int .i64 n)) 1 v58)) (fill_s (v := (.int .i64 n)) rfl rfl rfl (fill_s (v := v58) rfl (fl_sc f68) rfl fill_nil))) (wo_nil ?_)))))
            refine wd_run ?_
            obtain ⟨b74, H75, s76, k77⟩ := s_bsl s67 (RL.put (o := 0) (n := 2) (RL.cat (RL.cat (RL.one (.int .i64 0)) (RL.one .nils) rfl) RL.nil rfl) (((RL.cat (RL.one (.int .i64 0)) (RL.one .nils) rfl).set 0 (.int .i64 n)).set 1 v58) rfl (Nat.le_of_ble_eq_true rfl))
            refine wo_x (v := (.slc b74 0 1 1)) (k77 (fill_a rfl (by first | rfl | (rw [((((RL.cat (RL.one (.int .i64 0)) (RL.one .nils) rfl).set 0 (.int .i64 n)).set 1 v58)).len]; rfl)) rfl fill_nil)) (wo_nil (wd_nil (ws_cons ?_)))
            have c78 := src_sl (es := 2) s76 0 (.slc b74 0 1 1 2) (Nat.le_of_ble_eq_true rfl)
            have r79 := Sat.rot (H := H75) (Z := Z65) (l₁ := [.cells b74 [(.int .i64 n), v58], .cells x [rv]]) (hl := rl) (F := F) (s76)
            obtain ⟨v80, l81, H82, h83, s84, k85⟩ := s_own (bytes := 32) r79 ho c78 (by omega) (by omega)
            have s86 : Sat H82 Z65 ((.cells b74 [(.int .i64 n), v58]) :: (.cells x [rv]) :: (l81 ++ F)) := by have h := Sat.rot (l₁ := l81) (hl := [.cells b74 [(.int .i64 n), v58], .cells x [rv]]) s84; exact h
            have h87 := own_dsnoc (x := ⟨n, v58, ws⟩) h83
            have hd88 := hd73.snoc (x := ⟨n, v58, ws⟩) f68 (show ws.length ≤ 50 by omega)
            have e89 : (D ++ [(⟨n, v58, ws⟩ : Dk)]).length = D.length + 1 := by simp
            refine wo_x (v := v80) (k85 rfl rfl) (wo_nil (wd_run (wo_x (v := (.ptr x 0)) (w_lit (fun K => rfl)) (wo_nil (wd_run ?_)))))
            refine wo_x (v := (.ptr x 0)) (ca_fla rfl rfl) (wo_nil (wd_nil (ws_cons ?_)))
            have s90 := s86.pull 1
            obtain ⟨H91, s92, k93⟩ := s_st s90 0 v80 (Nat.le_of_ble_eq_true rfl) (hv := (own_sc h87))
            refine wo_n (k93 rfl rfl) (wo_nil (wd_nil (ws_nil (thn_n (wp_seq ?_)))))
            refine wp_reg (wo_mv (.ptr x 0) (wo_mv (.ptr x 0) (wo_x (v := (.ptr x 0)) (w_lit (fun K => rfl)) (wo_x (v := (.ptr x 0)) (ca_fla rfl rfl) (wo_x (v := v80) (s_ld1 s92 0 rfl) ?_)))))
            refine wo_x (v := (.int .i64 (.ofNat ((D ++ [(⟨n, v58, ws⟩ : Dk)]).length)))) (own_len h87 rfl) (wo_x (v := (.int .i64 (.ofNat (((D ++ [(⟨n, v58, ws⟩ : Dk)]).length) - 1)))) (w_bin (sub_i64 ((D ++ [(⟨n, v58, ws⟩ : Dk)]).length) 1 (by omega) (by omega))) ?_)
            have r94 := Sat.rot (H := H91) (Z := Z65) (l₁ := [.cells x [v80], .cells b74 [(.int .i64 n), v58]]) (hl := l81) (F := F) (s92)
            have s95 : Sat H91 Z65 (l81 ++ ((.cells x [v80]) :: (.cells b74 [(.int .i64 n), v58]) :: F)) := by have h := r94; simp only [List.cons_append, List.nil_append, List.append_assoc] at h ⊢; exact h
            obtain ⟨_, H96, ⟨rfl, s97⟩, k98⟩ := dmay_own (N := N) (d := d + 3) (D := (D ++ [(⟨n, v58, ws⟩ : Dk)])) T TK TL (by omega) s95 h87 (List.mem_cons_self) hd88 (by omega) (by omega) (i := ((D ++ [(⟨n, v58, ws⟩ : Dk)]).length) - 1) (by omega)
            have s99 : Sat H96 Z65 ((.cells x [v80]) :: (.cells b74 [(.int .i64 n), v58]) :: (l81 ++ F)) := by have h := Sat.rot (l₁ := l81) (hl := [.cells x [v80], .cells b74 [(.int .i64 n), v58]]) (by simp only [List.cons_append, List.nil_append, List.append_assoc]; exact s97); simp only [List.cons_append, List.nil_append, List.append_assoc] at h ⊢; exact h
            refine wo_call k98 (wo_mv (.bool (dB (FreeD (D ++ [(⟨n, v58, ws⟩ : Dk)]) ((D ++ [(⟨n, v58, ws⟩ : Dk)]).length - 1)))) (wo_mv (.int .i64 0) (wo_nil (thn_n (wp_ret ?_)))))
            have s100 := s99.drop 1
            exact fin_2 (.bool (dB (FreeD (D ++ [(⟨n, v58, ws⟩ : Dk)]) ((D ++ [(⟨n, v58, ws⟩ : Dk)]).length - 1)))) (.int .i64 0) ⟨0, .ok (by omega) (by omega) (fun z hz => hg z (by omega)) (fun j hj e => c35 ⟨j, hj, e⟩) (by omega), .inr ⟨rfl, _, _, _, Z65, l66, f68, h87, rfl, s100⟩⟩
end
end Go.Jt
