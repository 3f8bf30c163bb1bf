/-
  The document's table: Drop. PRINTED by wip/tools/mklp.py.
-/
import Derived.Test.YtlhlgmodhblplaaJtDo
set_option autoImplicit false
set_option linter.all false
set_option maxRecDepth 10000
set_option maxHeartbeats 8000000
namespace Go.Jt
noncomputable section
variable [Gl]
theorem ddropN_ok [LpN] [LfN] [LkN] {tbl : Nat → Option FT} (T : LpT tbl) (TK : LkT tbl) (TL : LfT tbl) {x : Nat} {R : List Tk} {D : List Dk} {rv : AV} {rl : List Hl} {n : Int} {N d : Nat} (hd : 4 ≤ d) {Z : Fz} {F : List Hl} {H : AH} (hs : Sat H Z ((.cells x [rv]) :: (rl ++ F))) (ho : Own 2 rv D.length (dC D) rl) (hD : DOk Z D) (hm : Mt R D) (hlr : D.length ≤ 1000) (hN : 2000 < N) (hno : ∀ j, j < R.length → ¬ (tkAt R j).n = n) :
    Ct (RUN tbl N d) (.fn (.fn (.func LpN.ddrop)) [] []) [(.ptr x 0), (.int .i64 n)] H fun v H' => v = .tup [.nils, .int .i64 5] ∧ Sat H' Z ((.cells x [rv]) :: (rl ++ F)) := by
  obtain ⟨d, rfl⟩ : ∃ e, d = e + 4 := ⟨d - 4, by omega⟩
  have hml := hm.len
  refine ct_code T.ddrop (b := b_eddrop) (env := [(.ptr x 0), (.int .i64 n), u_, u_, u_, u_, u_, u_, u_, u_, u_, u_, u_, u_, u_, u_, u_, u_, u_, u_, u_, u_, u_, u_, u_, u_, u_, u_, u_, u_, u_, u_, u_, u_, u_, u_, u_, u_, u_, u_, u_, u_, u_, u_, u_, u_, u_, u_, u_, u_, u_, u_, u_, u_, u_, u_, u_, u_, u_, u_, u_, u_, u_, u_, u_, u_, u_, u_, u_, u_, u_, u_, u_, u_, u_, u_, u_, u_, u_, u_, u_, u_, u_]) ?_
  unfold b_eddrop
  refine wp_seq (wp_reg (wo_mv .nils (wo_mv (.int .i64 0) (wo_nil (thn_n ?_)))))
  refine wp_seq (wp_reg (wo_mv (.ptr x 0) (wo_mv (.int .i64 n) ?_)))
  have r1 := Sat.rot (H := H) (Z := Z) (l₁ := [.cells x [rv]]) (hl := rl) (F := F) (hs)
  have s2 : Sat H Z (rl ++ ((.cells x [rv]) :: F)) := by have h := r1; simp only [List.cons_append, List.nil_append, List.append_assoc] at h ⊢; exact h
  obtain ⟨_, H3, ⟨rfl, s4⟩, k5⟩ := datN_own (N := N) (d := d + 3) (D := D) T (by omega) s2 ho (List.mem_cons_self) hD (by omega) (by omega) (fun q hq e => hno q (by omega) ((hm.n q (by omega)).symm.trans e))
  have s6 : Sat H3 Z ((.cells x [rv]) :: (rl ++ F)) := by have h := Sat.rot (l₁ := rl) (hl := [.cells x [rv]]) (by simp only [List.cons_append, List.nil_append, List.append_assoc]; exact s4); simp only [List.cons_append, List.nil_append, List.append_assoc] at h ⊢; exact h
  refine wo_call k5 (wo_mv (.int .i64 (-1)) (wo_nil (thn_n (wp_seq (wp_seq ?_)))))
  refine wp_reg (wo_mv (.int .i64 (-1)) (wo_x (v := (.bool true)) (w_lit (fun K => rfl)) (wo_nil (thn_n (wp_condT ?_)))))
  refine wp_seq (wp_reg (wo_mv .nils (wo_mv (.int .i64 5) (wo_nil (thn_n ?_)))))
  refine wp_ret (thn_r ?_)
  exact fin_2 .nils (.int .i64 5) ⟨rfl, s6⟩
theorem ddropY_ok [LpN] [LfN] [LkN] {tbl : Nat → Option FT} (T : LpT tbl) (TK : LkT tbl) (TL : LfT tbl) {x : Nat} {R : List Tk} {D : List Dk} {rv : AV} {rl : List Hl} {n : Int} {i : Nat} {N d : Nat} (hd : 4 ≤ d) {Z : Fz} {F : List Hl} {H : AH} (hs : Sat H Z ((.cells x [rv]) :: (rl ++ F))) (ho : Own 2 rv D.length (dC D) rl) (hD : DOk Z D) (hm : Mt R D) (hlr : D.length ≤ 1000) (hN : 2000 < N) (hi : i < R.length) (he : (tkAt R i).n = n) (hno : ∀ j, j < i → ¬ (tkAt R j).n = n) (hf : ∀ k, k < R.length → ((tkAt R k).has = true ↔ FreeT R k)) :
    Ct (RUN tbl N d) (.fn (.fn (.func LpN.ddrop)) [] []) [(.ptr x 0), (.int .i64 n)] H fun v H' => ∃ wv lw rv' rl' Z', Z.le Z' ∧ Own 1 wv (outs (R.take i ++ R.drop (i + 1)) (R.take i ++ R.drop (i + 1)).length).length ((outs (R.take i ++ R.drop (i + 1)) (R.take i ++ R.drop (i + 1)).length).map (.int .i64)) lw ∧ Own 2 rv' (D.take i ++ D.drop (i + 1)).length (dC (D.take i ++ D.drop (i + 1))) rl' ∧ v = .tup [wv, .int .i64 0] ∧ Sat H' Z' (rl' ++ (.cells x [rv'] :: (lw ++ F))) := by
  obtain ⟨d, rfl⟩ : ∃ e, d = e + 4 := ⟨d - 4, by omega⟩
  have hml := hm.len
  refine ct_code T.ddrop (b := b_eddrop) (env := [(.ptr x 0), (.int .i64 n), u_, u_, u_, u_, u_, u_, u_, u_, u_, u_, u_, u_, u_, u_, u_, u_, u_, u_, u_, u_, u_, u_, u_, u_, u_, u_, u_, u_, u_, u_, u_, u_, u_, u_, u_, u_, u_, u_, u_, u_, u_, u_, u_, u_, u_, u_, u_, u_, u_, u_, u_, u_, u_, u_, u_, u_, u_, u_, u_, u_, u_, u_, u_, u_, u_, u_, u_, u_, u_, u_, u_, u_, u_, u_, u_, u_, u_, u_, u_, u_, u_]) ?_
  unfold b_eddrop
  refine wp_seq (wp_reg (wo_mv .nils (wo_mv (.int .i64 0) (wo_nil (thn_n ?_)))))
  refine wp_seq (wp_reg (wo_mv (.ptr x 0) (wo_mv (.int .i64 n) ?_)))
  have r1 := Sat.rot (H := H) (Z := Z) (l₁ := [.cells x [rv]]) (hl := rl) (F := F) (hs)
  have s2 : Sat H Z (rl ++ ((.cells x [rv]) :: F)) := by have h := r1; simp only [List.cons_append, List.nil_append, List.append_assoc] at h ⊢; exact h
  obtain ⟨_, H3, ⟨rfl, s4⟩, k5⟩ := datY_own (N := N) (d := d + 3) (D := D) T (by omega) s2 ho (List.mem_cons_self) hD (by omega) (by omega) (i := i) (by omega) ((hm.n i hi).trans he) (fun q hq e => hno q hq ((hm.n q (by omega)).symm.trans e))
  have s6 : Sat H3 Z ((.cells x [rv]) :: (rl ++ F)) := by have h := Sat.rot (l₁ := rl) (hl := [.cells x [rv]]) (by simp only [List.cons_append, List.nil_append, List.append_assoc]; exact s4); simp only [List.cons_append, List.nil_append, List.append_assoc] at h ⊢; exact h
  refine wo_call k5 (wo_mv (.int .i64 (.ofNat i)) (wo_nil (thn_n (wp_seq (wp_seq ?_)))))
  refine wp_reg (wo_mv (.int .i64 (.ofNat i)) (wo_x (v := (.bool false)) (w_bin (cmp_lssF i 0 (by omega))) (wo_nil (thn_n (wp_condF ?_)))))
  refine wp_skip (thn_n (wp_seq (wp_reg (wo_mv .nils (wo_nil ?_)))))
  refine thn_n (wp_seq (wp_seq (wp_reg (wo_mv (.int .i64 0) (wo_nil ?_)))))
  refine thn_n (wp_block ?_)
  refine wp_loop (fun ms_ env ds H => ∃ (q : Nat) (hv : AV) (hl : List Hl), ∃ ys7 : List AV, ms_ = D.length - q ∧ env = [(.ptr x 0), (.int .i64 n), u_, u_, .nils, (.int .i64 0), (.int .i64 (.ofNat i)), hv, (.int .i64 (.ofNat q)), u_, u_, (.ptr x 0), (.int .i64 n), (.int .i64 (.ofNat i)), (.int .i64 (.ofNat i)), (.bool false), (lget ys7 0), (lget ys7 1), (lget ys7 2), (lget ys7 3), (lget ys7 4), (lget ys7 5), (lget ys7 6), (lget ys7 7), (lget ys7 8), (lget ys7 9), (lget ys7 10), (lget ys7 11), (lget ys7 12), (lget ys7 13), (lget ys7 14), u_, u_, u_, u_, u_, u_, u_, u_, u_, u_, u_, u_, u_, u_, u_, u_, u_, u_, u_, u_, u_, u_, u_, u_, u_, u_, u_, u_, u_, u_, u_, u_, u_, u_, u_, u_, u_, u_, u_, u_, u_, u_, u_, u_, u_, u_, u_, u_, u_, u_, u_, u_] ∧ ds = [] ∧ Sat H Z ((.cells x [rv]) :: (rl ++ (hl ++ F))) ∧ (q ≤ D.length) ∧ (Own 1 hv q (hadL D q) hl)) (D.length - 0) (by omega) ⟨0, .nils, [], [u_, u_, u_, u_, u_, u_, u_, u_, u_, u_, u_, u_, u_, u_, u_], rfl, rfl, rfl, s6, (by omega), .nil⟩ ?_
  rintro ms_ env ds H hms_ ⟨q, hv, hl, ys7, rfl, rfl, rfl, s8, hq, ho1⟩
  refine wp_seq (wp_seq (wp_reg (wo_mv (.int .i64 (.ofNat q)) (wo_mv (.ptr x 0) (wo_x (v := (.ptr x 0)) (w_lit (fun K => rfl)) ?_)))))
  refine wo_x (v := (.ptr x 0)) (ca_fla rfl rfl) (wo_x (v := rv) (s_ld1 s8 0 rfl) (wo_x (v := (.int .i64 (.ofNat D.length))) (own_len ho rfl) ?_))
  by_cases c9 : q < D.length
  · refine wo_x (v := (.bool true)) (w_bin (cmp_lssT q D.length (by omega))) (wo_nil (thn_n (wp_condT (wp_skip (thn_n ?_)))))
    refine wp_seq (wp_block (wp_reg (wo_mv hv (wo_mv (.ptr x 0) (wo_mv (.int .i64 (.ofNat q)) ?_)))))
    have r10 := Sat.rot (H := H) (Z := Z) (l₁ := [.cells x [rv]]) (hl := rl) (F := hl ++ (F)) (s8)
    have s11 : Sat H Z (rl ++ ((.cells x [rv]) :: (hl ++ F))) := by have h := r10; simp only [List.cons_append, List.nil_append, List.append_assoc] at h ⊢; exact h
    obtain ⟨_, H12, ⟨rfl, s13⟩, k14⟩ := dmay_own (N := N) (d := d + 3) (D := D) T TK TL (by omega) s11 ho (List.mem_cons_self) hD (by omega) (by omega) (i := q) (by omega)
    have s15 : Sat H12 Z ((.cells x [rv]) :: (rl ++ (hl ++ F))) := by have h := Sat.rot (l₁ := rl) (hl := [.cells x [rv]]) (by simp only [List.cons_append, List.nil_append, List.append_assoc]; exact s13); simp only [List.cons_append, List.nil_append, List.append_assoc] at h ⊢; exact h
    refine wo_call k14 ?_
    obtain ⟨b16, H17, s18, k19⟩ := s_bsl s15 ((RL.rep 1 (.bool false)).set 0 (.bool (dB (FreeD D q))))
    refine wo_x (v := (.slc b16 0 1 1)) (k19 (fill_s (v := (.bool (dB (FreeD D q)))) rfl rfl rfl fill_nil)) ?_
    have c20 := src_sl (es := 1) s18 0 (.slc b16 0 1 1 1) (Nat.le_of_ble_eq_true rfl)
    have r21 := Sat.rot (H := H17) (Z := Z) (l₁ := [.cells b16 [(.bool (dB (FreeD D q)))], .cells x [rv]] ++ (rl)) (hl := hl) (F := F) (by simp only [List.append_assoc]; exact s18)
    obtain ⟨v22, l23, H24, h25, s26, k27⟩ := s_own (bytes := 1) r21 ho1 c20 (by omega) (by omega)
    have s28 : Sat H24 Z ((.cells b16 [(.bool (dB (FreeD D q)))]) :: (.cells x [rv]) :: (rl ++ (l23 ++ F))) := by have h := Sat.rot (l₁ := l23) (hl := [.cells b16 [(.bool (dB (FreeD D q)))], .cells x [rv]] ++ (rl)) s26; (try simp only [List.append_assoc] at h); exact h
    refine wo_x (v := v22) (k27 rfl rfl) (wo_mv v22 (wo_nil (blk_n (thn_n (wp_reg ?_)))))
    refine wo_mv (.int .i64 (.ofNat q)) (wo_x (v := (.int .i64 (.ofNat (q + 1)))) (w_bin (add_i64 q 1 (by omega) _ _)) (wo_mv (.int .i64 (.ofNat (q + 1))) (wo_nil ?_)))
    have s29 := s28.drop 0
    refine lpq_n (D.length - (q + 1)) (by omega) ⟨(q + 1), v22, l23, [(.int .i64 (.ofNat q)), (.ptr x 0), (.ptr x 0), (.ptr x 0), rv, (.int .i64 (.ofNat D.length)), (.bool true), (.int .i64 (.ofNat q)), (.int .i64 (.ofNat (q + 1))), hv, (.ptr x 0), (.int .i64 (.ofNat q)), (.bool (dB (FreeD D q))), (.slc b16 0 1 1), v22], rfl, rfl, rfl, s29, (by omega), (by rw [hadL_step]; exact h25)⟩
  · refine wo_x (v := (.bool false)) (w_bin (cmp_lssF q D.length (by omega))) (wo_nil (thn_n (wp_condF (wp_exit (thn_e ?_)))))
    refine lpq_e (blk_h (thn_n (wp_seq (wp_dreg (wd_run ?_)))))
    refine wo_mv (.ptr x 0) (wo_nil (wd_run ?_))
    obtain ⟨b30, H31, s32, k33⟩ := s_bsl s8 RL.nil
    refine wo_x (v := (.slc b30 0 0 0)) (k33 fill_nil) (wo_nil (wd_run (wo_mv (.ptr x 0) (wo_nil (wd_run ?_)))))
    refine wo_x (v := (.ptr x 0)) (w_lit (fun K => rfl)) (wo_nil (wd_run (wo_x (v := (.ptr x 0)) (ca_fla rfl rfl) (wo_nil (wd_run ?_)))))
    refine wo_x (v := rv) (s_ld1 s32 1 rfl) (wo_nil (wd_run (wo_mv (.int .i64 (.ofNat i)) (wo_nil (wd_run ?_)))))
    have r39 := Sat.rot (H := H31) (Z := Z) (l₁ := [.cells b30 [], .cells x [rv]]) (hl := rl) (F := hl ++ (F)) (s32)
    have s40 : Sat H31 Z (rl ++ ((.cells b30 []) :: (.cells x [rv]) :: (hl ++ F))) := by have h := r39; simp only [List.cons_append, List.nil_append, List.append_assoc] at h ⊢; exact h
    obtain ⟨Z34, l35, s36, f37, g38⟩ := own_lend (xs := ddr D) ddr_two s40 ho (ddr_len D)
    have hd41 := hD.mono l35
    obtain ⟨v42, h43, k44⟩ := fl_hi (by decide) f37 i (by rw [ddr_len]; omega)
    refine wo_x (v := v42) (k44 s36 rfl rfl) (wo_nil (wd_run (wo_mv (.ptr x 0) (wo_nil (wd_run ?_)))))
    refine wo_x (v := (.ptr x 0)) (w_lit (fun K => rfl)) (wo_nil (wd_run (wo_x (v := (.ptr x 0)) (ca_fla rfl rfl) (wo_nil (wd_run ?_)))))
    refine wo_x (v := rv) (s_ld1 s36 1 rfl) (wo_nil (wd_run (wo_mv (.int .i64 (.ofNat i)) (wo_nil (wd_run ?_)))))
    refine wo_x (v := (.int .i64 (.ofNat (i + 1)))) (w_bin (add_i64 i 1 (by omega) _ _)) (wo_nil (wd_run ?_))
    obtain ⟨v45, h46, k47⟩ := fl_lo (by decide) f37 (i + 1) (by rw [ddr_len]; omega)
    refine wo_x (v := v45) (k47 s36 rfl rfl) (wo_nil (wd_nil (ws_cons ?_)))
    have c48 := src_fl s36 h43
    obtain ⟨v49, hl50, H51, h52, s53, k54⟩ := s_copy (bytes := 32) s36 c48 (by have a1 := win4_le D 0 i; omega) (by omega)
    have s55 : Sat H51 Z34 ((.cells x [rv]) :: (hl50 ++ (hl ++ F))) := Sat.rot (l₁ := hl50) (hl := [.cells x [rv]]) s53
    refine wo_x (v := v49) (k54 rfl rfl) (wo_nil (wd_again (v := rv) (hs := own_same ho) (s_ld1 s55 0 rfl) (wd_again (v := (.int .i64 (.ofNat (i + 1)))) (hs := same_int) (w_bin (add_i64 i 1 (by omega) _ _)) (wd_again (v := v45) (hs := fl_same h46) (k47 s55 rfl rfl) (wd_nil ?_)))))
    refine ws_cons ?_
    have c56 := src_fl s55 h46
    have r57 := Sat.rot (H := H51) (Z := Z34) (l₁ := [.cells x [rv]]) (hl := hl50) (F := hl ++ (F)) (s55)
    obtain ⟨v58, l59, H60, h61, s62, k63⟩ := s_own (bytes := 32) r57 h52 c56 (by have a1 := win4_le D; have b1 := a1 0 i; have b2 := a1 (i + 1) (ddr D).length; omega) (by omega)
    have s64 : Sat H60 Z34 ((.cells x [rv]) :: (l59 ++ (hl ++ F))) := by have h := Sat.rot (l₁ := l59) (hl := [.cells x [rv]]) s62; exact h
    have h65 := own_dcut h61
    have e66 : (D.take i ++ D.drop (i + 1)).length = D.length - 1 := by simp; omega
    have hd67 := hd41.cut (show i < D.length by omega)
    refine wo_x (v := v58) (k63 rfl rfl) (wo_nil (wd_run (wo_x (v := (.ptr x 0)) (w_lit (fun K => rfl)) (wo_nil (wd_run ?_)))))
    refine wo_x (v := (.ptr x 0)) (ca_fla rfl rfl) (wo_nil (wd_nil (ws_cons ?_)))
    obtain ⟨H68, s69, k70⟩ := s_st s64 0 v58 (Nat.le_of_ble_eq_true rfl) (hv := (own_sc h65))
    refine wo_n (k70 rfl rfl) (wo_nil (wd_nil (ws_nil (thn_n (wp_seq ?_)))))
    refine wp_reg (wo_mv .nils (wo_nil (thn_n (wp_seq (wp_seq ?_)))))
    refine wp_reg (wo_mv (.int .i64 (.ofNat i)) (wo_mv (.int .i64 (.ofNat i)) (wo_nil (thn_n (wp_block ?_)))))
    have hgi := fun k (a : i ≤ k) (b : k + 1 < R.length) => gets_iff hm hi hf a b
    have hmc := hm.cut hi
    have hcl := cut_len hi
    refine wp_loop (fun ms_ env ds H => ∃ (k : Nat) (ov : AV) (ol : List Hl), ∃ ys71 : List AV, ms_ = (D.take i ++ D.drop (i + 1)).length - k ∧ env = [(.ptr x 0), (.int .i64 n), u_, u_, .nils, (.int .i64 0), (.int .i64 (.ofNat i)), hv, (.int .i64 (.ofNat q)), ov, (.int .i64 (.ofNat k)), (.ptr x 0), (.int .i64 n), (.int .i64 (.ofNat i)), (.int .i64 (.ofNat i)), (.bool false), (.int .i64 (.ofNat q)), (.ptr x 0), (.ptr x 0), (.ptr x 0), rv, (.int .i64 (.ofNat D.length)), (.bool false), (lget ys7 7), (lget ys7 8), (lget ys7 9), (lget ys7 10), (lget ys7 11), (lget ys7 12), (lget ys7 13), (lget ys7 14), (.ptr x 0), (.slc b30 0 0 0), (.ptr x 0), (.ptr x 0), (.ptr x 0), rv, (.int .i64 (.ofNat i)), v42, v49, (.ptr x 0), (.ptr x 0), (.ptr x 0), rv, (.int .i64 (.ofNat i)), (.int .i64 (.ofNat (i + 1))), v45, v58, (.ptr x 0), (.ptr x 0), (.int .i64 (.ofNat i)), (lget ys71 0), (lget ys71 1), (lget ys71 2), (lget ys71 3), (lget ys71 4), (lget ys71 5), (lget ys71 6), (lget ys71 7), (lget ys71 8), (lget ys71 9), (lget ys71 10), (lget ys71 11), (lget ys71 12), (lget ys71 13), (lget ys71 14), (lget ys71 15), (lget ys71 16), (lget ys71 17), (lget ys71 18), (lget ys71 19), (lget ys71 20), (lget ys71 21), (lget ys71 22), (lget ys71 23), (lget ys71 24), (lget ys71 25), (lget ys71 26), (lget ys71 27), (lget ys71 28), (lget ys71 29), (lget ys71 30), u_] ∧ ds = [] ∧ Sat H Z34 ((.cells x [v58]) :: (l59 ++ (ol ++ (hl ++ F)))) ∧ (i ≤ k) ∧ (k ≤ (D.take i ++ D.drop (i + 1)).length) ∧ (Own 1 ov (outs (R.take i ++ R.drop (i + 1)) k).length ((outs (R.take i ++ R.drop (i + 1)) k).map (.int .i64)) ol)) ((D.take i ++ D.drop (i + 1)).length - i) (by omega) ⟨i, .nils, [], [u_, u_, u_, u_, u_, u_, u_, u_, u_, u_, u_, u_, u_, u_, u_, u_, u_, u_, u_, u_, u_, u_, u_, u_, u_, u_, u_, u_, u_, u_, u_], rfl, rfl, rfl, s69, (by omega), (by omega), (by rw [outs_zero hi hf]; exact .nil)⟩ ?_
    rintro ms_ env ds H hms_ ⟨k, ov, ol, ys71, rfl, rfl, rfl, s72, hk, hk2, ho2⟩
    have hol := outs_len (R.take i ++ R.drop (i + 1)) k
    refine wp_seq (wp_seq (wp_reg (wo_mv (.int .i64 (.ofNat k)) (wo_mv (.ptr x 0) (wo_x (v := (.ptr x 0)) (w_lit (fun K => rfl)) ?_)))))
    refine wo_x (v := (.ptr x 0)) (ca_fla rfl rfl) (wo_x (v := v58) (s_ld1 s72 0 rfl) (wo_x (v := (.int .i64 (.ofNat ((D.take i ++ D.drop (i + 1)).length)))) (own_len h65 rfl) ?_))
    by_cases c73 : k < (D.take i ++ D.drop (i + 1)).length
    · refine wo_x (v := (.bool true)) (w_bin (cmp_lssT k ((D.take i ++ D.drop (i + 1)).length) (by omega))) (wo_nil (thn_n (wp_condT (wp_skip (thn_n ?_)))))
      refine wp_seq (wp_block (wp_seq (wp_reg (wo_mv hv (wo_mv (.int .i64 (.ofNat k)) ?_)))))
      refine wo_x (v := (.int .i64 (.ofNat (k + 1)))) (w_bin (add_i64 k 1 (by omega) _ _)) ?_
      obtain ⟨b74, e75, g76, o77, k78⟩ := own_ix ho1 (k + 1) (by omega)
      refine wo_x (v := (.ptr b74 ((k + 1) * 1))) (k78 rfl rfl) ?_
      have r79 := Sat.rot (H := H) (Z := Z34) (l₁ := [.cells x [v58]] ++ (l59 ++ (ol))) (hl := hl) (F := F) (by simp only [List.append_assoc]; exact s72)
      have q80 := r79
      rw [e75] at q80
      refine wo_x (v := (.bool (dB (FreeD D (k + 1))))) (s_ld1 q80 0 (hadL_get (k := q) (by omega))) ?_
      by_cases c81 : (dB (FreeD D (k + 1))) = true
      · refine wo_x (v := (.bool false)) (w_notT (congrArg AV.bool c81)) (wo_mv (.bool false) (wo_noF (wo_noF (wo_noF (wo_x (v := (.bool false)) (w_pickF rfl rfl) ?_)))))
        refine wo_nil (thn_n (wp_condF (wp_skip (blk_n (thn_n ?_)))))
        refine wp_reg (wo_mv (.int .i64 (.ofNat k)) (wo_x (v := (.int .i64 (.ofNat (k + 1)))) (w_bin (add_i64 k 1 (by omega) _ _)) (wo_mv (.int .i64 (.ofNat (k + 1))) (wo_nil ?_))))
        refine lpq_n ((D.take i ++ D.drop (i + 1)).length - (k + 1)) (by omega) ⟨(k + 1), ov, ol, [(.int .i64 (.ofNat k)), (.ptr x 0), (.ptr x 0), (.ptr x 0), v58, (.int .i64 (.ofNat ((D.take i ++ D.drop (i + 1)).length))), (.bool true), (.int .i64 (.ofNat k)), (.int .i64 (.ofNat (k + 1))), hv, (.int .i64 (.ofNat k)), (.int .i64 (.ofNat (k + 1))), (.ptr b74 ((k + 1) * 1)), (.bool (dB (FreeD D (k + 1)))), (.bool false), (.bool false), u_, u_, u_, (.bool false), (lget ys71 20), (lget ys71 21), (lget ys71 22), (lget ys71 23), (lget ys71 24), (lget ys71 25), (lget ys71 26), (lget ys71 27), (lget ys71 28), (lget ys71 29), (lget ys71 30)], rfl, rfl, rfl, s72, (by omega), (by omega), (by rw [outs_stay (fun h0 => by have h := (hgi k (by omega) (by omega)).1 h0; exact h.1 (dB_iff.1 c81))]; exact ho2)⟩
      · refine wo_x (v := (.bool true)) (w_notF (congrArg AV.bool (Bool.eq_false_iff.2 c81))) (wo_mv (.bool true) (wo_yesT (wo_mv (.ptr x 0) (wo_yesT (wo_mv (.int .i64 (.ofNat k)) ?_)))))
        refine wo_yesT ?_
        have r82 := Sat.rot (H := H) (Z := Z34) (l₁ := [.cells x [v58]]) (hl := l59) (F := ol ++ (hl ++ (F))) (s72)
        have s83 : Sat H Z34 (l59 ++ ((.cells x [v58]) :: (ol ++ (hl ++ F)))) := by have h := r82; simp only [List.cons_append, List.nil_append, List.append_assoc] at h ⊢; exact h
        obtain ⟨_, H84, ⟨rfl, s85⟩, k86⟩ := dmay_own (N := N) (d := d + 3) (D := (D.take i ++ D.drop (i + 1))) T TK TL (by omega) s83 h65 (List.mem_cons_self) hd67 (by omega) (by omega) (i := k) (by omega)
        have s87 : Sat H84 Z34 ((.cells x [v58]) :: (l59 ++ (ol ++ (hl ++ F)))) := by have h := Sat.rot (l₁ := l59) (hl := [.cells x [v58]]) (by simp only [List.cons_append, List.nil_append, List.append_assoc]; exact s85); simp only [List.cons_append, List.nil_append, List.append_assoc] at h ⊢; exact h
        refine wo_call k86 (wo_x (v := (.bool (dB (FreeD (D.take i ++ D.drop (i + 1)) k)))) (w_pickT rfl rfl) (wo_nil (thn_n ?_)))
        by_cases c88 : (dB (FreeD (D.take i ++ D.drop (i + 1)) k)) = true
        · refine wp_condT (hc := (congrArg AV.bool c88)) (wp_reg (wo_mv ov (wo_mv (.ptr x 0) (wo_x (v := (.ptr x 0)) (w_lit (fun K => rfl)) (wo_x (v := (.ptr x 0)) (ca_fla rfl rfl) ?_)))))
          refine wo_x (v := v58) (s_ld1 s87 0 rfl) (wo_mv (.int .i64 (.ofNat k)) ?_)
          obtain ⟨b89, e90, g91, o92, k93⟩ := own_ix h65 k (by omega)
          refine wo_x (v := (.ptr b89 (k * 2))) (k93 rfl rfl) (wo_x (v := (.ptr b89 (k * 2))) (ca_fla rfl (by omega)) ?_)
          have r94 := Sat.rot (H := H84) (Z := Z34) (l₁ := [.cells x [v58]]) (hl := l59) (F := ol ++ (hl ++ (F))) (s87)
          have q95 := r94
          rw [e90] at q95
          refine wo_x (v := (.int .i64 ((dkAt (D.take i ++ D.drop (i + 1)) k).n))) (s_ld1 q95 0 (dC_get (D := (D.take i ++ D.drop (i + 1))) (by omega))) ?_
          obtain ⟨b96, H97, s98, k99⟩ := s_bsl s87 ((RL.rep 1 (.int .i64 0)).set 0 (.int .i64 ((dkAt (D.take i ++ D.drop (i + 1)) k).n)))
          refine wo_x (v := (.slc b96 0 1 1)) (k99 (fill_s (v := (.int .i64 ((dkAt (D.take i ++ D.drop (i + 1)) k).n))) rfl rfl rfl fill_nil)) ?_
          have c100 := src_sl (es := 1) s98 0 (.slc b96 0 1 1 1) (Nat.le_of_ble_eq_true rfl)
          have r101 := Sat.rot (H := H97) (Z := Z34) (l₁ := [.cells b96 [(.int .i64 ((dkAt (D.take i ++ D.drop (i + 1)) k).n))], .cells x [v58]] ++ (l59)) (hl := ol) (F := hl ++ (F)) (by simp only [List.append_assoc]; exact s98)
          obtain ⟨v102, l103, H104, h105, s106, k107⟩ := s_own (bytes := 8) r101 ho2 c100 (by omega) (by omega)
          have s108 : Sat H104 Z34 ((.cells b96 [(.int .i64 ((dkAt (D.take i ++ D.drop (i + 1)) k).n))]) :: (.cells x [v58]) :: (l59 ++ (l103 ++ (hl ++ F)))) := by have h := Sat.rot (l₁ := l103) (hl := [.cells b96 [(.int .i64 ((dkAt (D.take i ++ D.drop (i + 1)) k).n))], .cells x [v58]] ++ (l59)) s106; (try simp only [List.append_assoc] at h); exact h
          refine wo_x (v := v102) (k107 rfl rfl) (wo_mv v102 (wo_nil (blk_n (thn_n (wp_reg ?_)))))
          refine wo_mv (.int .i64 (.ofNat k)) (wo_x (v := (.int .i64 (.ofNat (k + 1)))) (w_bin (add_i64 k 1 (by omega) _ _)) (wo_mv (.int .i64 (.ofNat (k + 1))) (wo_nil ?_)))
          have s109 := s108.drop 0
          refine lpq_n ((D.take i ++ D.drop (i + 1)).length - (k + 1)) (by omega) ⟨(k + 1), v102, l103, [(.int .i64 (.ofNat k)), (.ptr x 0), (.ptr x 0), (.ptr x 0), v58, (.int .i64 (.ofNat ((D.take i ++ D.drop (i + 1)).length))), (.bool true), (.int .i64 (.ofNat k)), (.int .i64 (.ofNat (k + 1))), hv, (.int .i64 (.ofNat k)), (.int .i64 (.ofNat (k + 1))), (.ptr b74 ((k + 1) * 1)), (.bool (dB (FreeD D (k + 1)))), (.bool true), (.bool true), (.ptr x 0), (.int .i64 (.ofNat k)), (.bool (dB (FreeD (D.take i ++ D.drop (i + 1)) k))), (.bool (dB (FreeD (D.take i ++ D.drop (i + 1)) k))), ov, (.ptr x 0), (.ptr x 0), (.ptr x 0), v58, (.int .i64 (.ofNat k)), (.ptr b89 (k * 2)), (.ptr b89 (k * 2)), (.int .i64 ((dkAt (D.take i ++ D.drop (i + 1)) k).n)), (.slc b96 0 1 1), v102], rfl, rfl, rfl, s109, (by omega), (by omega), (by rw [outs_step ((hgi k (by omega) (by omega)).2 ⟨fun h => c81 (dB_true h), dB_iff.1 c88⟩), List.map_append, List.length_append]; rw [hmc.n k (by omega)] at h105; exact h105)⟩
        · refine wp_condF (hc := (congrArg AV.bool (Bool.eq_false_iff.2 c88))) (wp_skip (blk_n (thn_n (wp_reg (wo_mv (.int .i64 (.ofNat k)) ?_)))))
          refine wo_x (v := (.int .i64 (.ofNat (k + 1)))) (w_bin (add_i64 k 1 (by omega) _ _)) (wo_mv (.int .i64 (.ofNat (k + 1))) (wo_nil ?_))
          refine lpq_n ((D.take i ++ D.drop (i + 1)).length - (k + 1)) (by omega) ⟨(k + 1), ov, ol, [(.int .i64 (.ofNat k)), (.ptr x 0), (.ptr x 0), (.ptr x 0), v58, (.int .i64 (.ofNat ((D.take i ++ D.drop (i + 1)).length))), (.bool true), (.int .i64 (.ofNat k)), (.int .i64 (.ofNat (k + 1))), hv, (.int .i64 (.ofNat k)), (.int .i64 (.ofNat (k + 1))), (.ptr b74 ((k + 1) * 1)), (.bool (dB (FreeD D (k + 1)))), (.bool true), (.bool true), (.ptr x 0), (.int .i64 (.ofNat k)), (.bool (dB (FreeD (D.take i ++ D.drop (i + 1)) k))), (.bool (dB (FreeD (D.take i ++ D.drop (i + 1)) k))), (lget ys71 20), (lget ys71 21), (lget ys71 22), (lget ys71 23), (lget ys71 24), (lget ys71 25), (lget ys71 26), (lget ys71 27), (lget ys71 28), (lget ys71 29), (lget ys71 30)], rfl, rfl, rfl, s87, (by omega), (by omega), (by rw [outs_stay (fun h0 => by have h := (hgi k (by omega) (by omega)).1 h0; exact c88 (dB_true h.2))]; exact ho2)⟩
    · refine wo_x (v := (.bool false)) (w_bin (cmp_lssF k ((D.take i ++ D.drop (i + 1)).length) (by omega))) (wo_nil (thn_n (wp_condF (wp_exit (thn_e ?_)))))
      refine lpq_e (blk_h (thn_n (wp_seq (wp_reg (wo_mv ov ?_)))))
      refine wo_mv ov (wo_mv (.int .i64 0) (wo_nil (thn_n (wp_ret ?_))))
      obtain rfl : k = (R.take i ++ R.drop (i + 1)).length := by have := hmc.len; omega
      have r111 := Sat.rot (H := H) (Z := Z34) (l₁ := [.cells x [v58]]) (hl := l59) (F := ol ++ (hl ++ (F))) (s72)
      have s112 : Sat H Z34 (l59 ++ ((.cells x [v58]) :: (ol ++ (hl ++ F)))) := by have h := r111; simp only [List.cons_append, List.nil_append, List.append_assoc] at h ⊢; exact h
      have s110 : Sat H Z34 (l59 ++ (.cells x [v58] :: (ol ++ F))) := s112.sub (List.Sublist.append_left (List.Sublist.cons₂ _ (List.Sublist.append_left (by first | exact List.Sublist.refl _ | exact List.sublist_append_right _ _ | exact (List.sublist_append_right _ _).trans (List.sublist_append_right _ _)) _)) _)
      exact fin_2 ov (.int .i64 0) ⟨_, _, _, _, Z34, l35, ho2, h65, rfl, s110⟩
end
end Go.Jt
