/-
  locks.Drop. PRINTED by wip/tools/mklk3.py.
-/
import Derived.Test.YtlhlgmodhblplaaJtLp
set_option autoImplicit false
set_option linter.all false
set_option maxRecDepth 10000
set_option maxHeartbeats 8000000
namespace Go.Jt
noncomputable section
variable [Gl]
theorem hdQ_setHas (R : List Tk) (j : Nat) (b : Bool) (t : AV) : hdQ (setHas R j b) t = hdQ R t := by
  cases R with
  | nil => rfl
  | cons x xs => cases j <;> rfl
theorem set_mem {R : List Tk} {j : Nat} (hj : j < R.length) (b : Bool) (tl : AV) : ∃ nx, Hl.loc (tkAt R j).b [.int .i64 (tkAt R j).n, (tkAt R j).v, .bool b, nx] ∈ rowS (setHas R j b) tl := by
  have h := row_mem (l := setHas R j b) (i := j) (by rw [setHas_len]; exact hj) tl
  rw [setHas_at hj, if_pos rfl] at h
  exact ⟨_, h⟩
theorem tbl_of {t : Nat} {row : List Tk} {c : AV} {l : List Hl} (ht : Hl.cells t [hdQ row .nilp, c] ∈ l) (hr : ∀ x ∈ rowS row .nilp, x ∈ l) : Tbl t row l :=
  ⟨⟨c, ht⟩, fun i hi => hr _ (row_mem hi .nilp)⟩
theorem drop1_ok [LkN] {tbl : Nat → Option FT} (T : LkT tbl) {t bt bo j k : Nat} {R : List Tk} {wv c : AV} {L : List AV} {lw : List Hl} {N d : Nat} (hd : 7 ≤ d) {Z : Fz} {F : List Hl} {H : AH} (hs : Sat H Z ((.cells bt [(.ptr t 0)]) :: (.cells bo [wv]) :: (.cells t [(hdQ R .nilp), c]) :: (lw ++ ((rowS R .nilp) ++ F)))) (hw : Own 1 wv k L lw) (hW : Tks Z R) (hj : j < R.length) (hR : R.length ≤ 1000) (hk : k ≤ 1000) (hN : 2000 < N) :
    Ct (RUN tbl N d) (.fn (.fn (.func LkN.drop1)) [] [(.ptr bt 0), (.ptr bo 0)]) [(.ptr ((tkAt R j).b) 0)] H fun v H' => v = .bool true ∧ ((((tkAt R j).has = true ∨ ¬ FreeT R j) ∧ Sat H' Z ((.cells bt [.ptr t 0]) :: (.cells bo [wv]) :: (.cells t [hdQ R .nilp, c]) :: (lw ++ (rowS R .nilp ++ F)))) ∨ ((tkAt R j).has = false ∧ FreeT R j ∧ ∃ wv' lw', Own 1 wv' (k + 1) (L ++ [.int .i64 (tkAt R j).n]) lw' ∧ Sat H' Z ((.cells bt [.ptr t 0]) :: (.cells bo [wv']) :: (.cells t [hdQ R .nilp, c]) :: (lw' ++ (rowS (setHas R j true) .nilp ++ F))))) := by
  obtain ⟨d, rfl⟩ : ∃ e, d = e + 7 := ⟨d - 7, by omega⟩
  refine ct_code T.drop1 (b := b_qdrop1) (env := [(.ptr ((tkAt R j).b) 0), (.ptr bt 0), (.ptr bo 0), u_, u_, u_, u_, u_, u_, u_, u_, u_, u_, u_, u_, u_, u_, u_, u_, u_, u_, u_, u_, u_, u_]) ?_
  unfold b_qdrop1
  refine wp_seq (wp_reg (wo_mv (.bool false) (wo_nil (thn_n (wp_seq ?_)))))
  refine wp_seq (wp_reg (wo_mv (.ptr ((tkAt R j).b) 0) (wo_x (v := (.ptr ((tkAt R j).b) 0)) (w_lit (fun K => rfl)) (wo_x (v := (.ptr ((tkAt R j).b) 2)) (ca_fla rfl rfl) (wo_x (v := (.bool ((tkAt R j).has))) (o_ldm (v := (.bool ((tkAt R j).has))) hs (.tail _ (.tail _ (.tail _ (List.mem_append_right _ (List.mem_append_left _ (row_mem hj .nilp)))))) rfl) ?_)))))
  by_cases c1 : ((tkAt R j).has) = true
  · refine wo_x (v := (.bool false)) (w_notT (congrArg AV.bool c1)) (wo_mv (.bool false) (wo_noF (wo_noF (wo_noF (wo_x (v := (.bool false)) (w_pickF rfl rfl) ?_)))))
    refine wo_nil (thn_n (wp_condF (wp_skip (thn_n (wp_seq ?_)))))
    refine wp_reg (wo_mv (.bool true) (wo_nil (thn_n (wp_ret ?_))))
    exact fin_1 (.bool true) ⟨rfl, .inl ⟨.inl c1, hs⟩⟩
  · refine wo_x (v := (.bool true)) (w_notF (congrArg AV.bool (Bool.eq_false_iff.2 c1))) (wo_mv (.bool true) (wo_yesT (wo_x (v := (.ptr t 0)) (s_ld1 hs 0 rfl) (wo_yesT (wo_mv (.ptr ((tkAt R j).b) 0) ?_)))))
    refine wo_yesT ?_
    obtain ⟨v2, H5, ⟨e3, s4⟩, k6⟩ := lmay_ok T (N := N) (d := d + 6) (row := R) (i := j) (t := t) (by omega) hs (tbl_of (.tail _ (.tail _ (List.mem_cons_self))) (fun x hx => (.tail _ (.tail _ (.tail _ (List.mem_append_right _ (List.mem_append_left _ hx))))))) hW hj (by omega) (by omega)
    subst e3
    refine wo_call k6 (wo_x (v := (.bool (dB (FreeT R j)))) (w_pickT rfl rfl) (wo_nil (thn_n ?_)))
    by_cases c7 : (dB (FreeT R j)) = true
    · refine wp_condT (hc := (congrArg AV.bool c7)) (wp_seq (wp_reg (wo_mv (.ptr ((tkAt R j).b) 0) (wo_x (v := (.ptr ((tkAt R j).b) 0)) (w_lit (fun K => rfl)) (wo_x (v := (.ptr ((tkAt R j).b) 2)) (ca_fla rfl rfl) ?_)))))
      obtain ⟨H8, s9, k10⟩ := set_has (l := [.cells bt [(.ptr t 0)], .cells bo [wv], .cells t [(hdQ R .nilp), c]] ++ (lw)) (R := R) (tl := .nilp) (F := F) (by have h := s4; simp only [List.append_assoc, List.cons_append, List.nil_append] at h ⊢; exact h) hj true
      have s11 : Sat H8 Z ((.cells bt [(.ptr t 0)]) :: (.cells bo [wv]) :: (.cells t [(hdQ R .nilp), c]) :: (lw ++ ((rowS (setHas R j true) .nilp) ++ F))) := by have h := s9; simp only [List.append_assoc, List.cons_append, List.nil_append] at h ⊢; exact h
      obtain ⟨nx12, m13⟩ := set_mem hj true .nilp
      refine wo_n (k10 rfl rfl) (wo_nil (thn_n (wp_dreg (wd_run (wo_x (v := wv) (s_ld1 s11 1 rfl) ?_)))))
      refine wo_nil (wd_run (wo_mv (.ptr ((tkAt R j).b) 0) (wo_nil (wd_run (wo_x (v := (.ptr ((tkAt R j).b) 0)) (w_lit (fun K => rfl)) ?_)))))
      refine wo_nil (wd_run (wo_x (v := (.ptr ((tkAt R j).b) 0)) (ca_fla rfl rfl) (wo_nil (wd_run (wo_x (v := (.int .i64 ((tkAt R j).n))) (o_ldm (v := (.int .i64 ((tkAt R j).n))) s11 (.tail _ (.tail _ (.tail _ (List.mem_append_right _ (List.mem_append_left _ m13))))) rfl) ?_)))))
      refine wo_nil (wd_run ?_)
      obtain ⟨b14, H15, s16, k17⟩ := s_bsl s11 ((RL.rep 1 (.int .i64 0)).set 0 (.int .i64 ((tkAt R j).n)))
      refine wo_x (v := (.slc b14 0 1 1)) (k17 (fill_s (v := (.int .i64 ((tkAt R j).n))) rfl rfl rfl fill_nil)) (wo_nil (wd_nil (ws_cons ?_)))
      have c18 := src_sl (es := 1) s16 0 (.slc b14 0 1 1 1) (Nat.le_of_ble_eq_true rfl)
      have r19 := Sat.rot (H := H15) (Z := Z) (l₁ := [.cells b14 [(.int .i64 ((tkAt R j).n))], .cells bt [(.ptr t 0)], .cells bo [wv], .cells t [(hdQ R .nilp), c]]) (hl := lw) (F := (rowS (setHas R j true) .nilp) ++ (F)) (s16)
      obtain ⟨v20, l21, H22, h23, s24, k25⟩ := s_own (bytes := 8) r19 hw c18 (by omega) (by omega)
      have s26 : Sat H22 Z ((.cells b14 [(.int .i64 ((tkAt R j).n))]) :: (.cells bt [(.ptr t 0)]) :: (.cells bo [wv]) :: (.cells t [(hdQ R .nilp), c]) :: (l21 ++ ((rowS (setHas R j true) .nilp) ++ F))) := by have h := Sat.rot (l₁ := l21) (hl := [.cells b14 [(.int .i64 ((tkAt R j).n))], .cells bt [(.ptr t 0)], .cells bo [wv], .cells t [(hdQ R .nilp), c]]) s24; exact h
      refine wo_x (v := v20) (k25 rfl rfl) (wo_nil (wd_nil (ws_cons ?_)))
      have s27 := s26.pull 2
      obtain ⟨H28, s29, k30⟩ := s_st s27 0 v20 (Nat.le_of_ble_eq_true rfl) (hv := (own_sc h23))
      refine wo_n (k30 rfl rfl) (wo_nil (wd_nil (ws_nil (thn_n (wp_seq ?_)))))
      refine wp_reg (wo_mv (.bool true) (wo_nil (thn_n (wp_ret ?_))))
      have s31 := s29.drop 1
      have s32 := s31.pull 2
      have s33 := s32.pull 1
      have s34 := s33.pull 2
      exact fin_1 (.bool true) ⟨rfl, .inr ⟨Bool.eq_false_iff.2 c1, dB_iff.1 c7, _, _, h23, s34⟩⟩
    · refine wp_condF (hc := (congrArg AV.bool (Bool.eq_false_iff.2 c7))) (wp_skip (thn_n (wp_seq (wp_reg (wo_mv (.bool true) ?_)))))
      refine wo_nil (thn_n (wp_ret ?_))
      exact fin_1 (.bool true) ⟨rfl, .inl ⟨.inr (fun h => c7 (dB_true h)), s4⟩⟩
theorem outs_len (R : List Tk) (j : Nat) : (outs R j).length ≤ j := by
  induction j with
  | zero => exact Nat.le_refl 0
  | succ j ih => unfold outs; split <;> (try simp) <;> omega
/-- how it stands when j were looked at -/
def DropI (Z : Fz) (F : List Hl) (R : List Tk) (t bt bo : Nat) (c : AV) (j : Nat) (H : AH) : Prop :=
  ∃ wv lw, Own 1 wv (outs R j).length ((outs R j).map (.int .i64)) lw ∧ Sat H Z ((.cells bt [.ptr t 0]) :: (.cells bo [wv]) :: (.cells t [hdQ (prom R j) .nilp, c]) :: (lw ++ (rowS (prom R j) .nilp ++ F)))
theorem drop_step [LkN] {tbl : Nat → Option FT} (T : LkT tbl) {Z : Fz} {F : List Hl} {R : List Tk} {t bt bo j N d : Nat} {c : AV} {H : AH} (hd : 7 ≤ d) (hW : Tks Z R) (hR : R.length ≤ 1000) (hN : 2000 < N) (hj : j < R.length) (hI : DropI Z F R t bt bo c j H) :
    Ct (RUN tbl N d) (.fn (.fn (.func LkN.drop1)) [] [(.ptr bt 0), (.ptr bo 0)]) [.ptr (tkAt R j).b 0] H fun v H' => v = .bool true ∧ DropI Z F R t bt bo c (j + 1) H' := by
  obtain ⟨wv, lw, ho, hs⟩ := hI
  have hl := outs_len R j
  have hp := prom_len R j
  have hb := (prom_at R j (by omega) j).1
  rw [← hb]
  refine (drop1_ok T (N := N) (R := prom R j) hd hs ho (tks_prom hW (by omega)) (by omega) (by omega) (by omega) hN).imp fun v H' ⟨ev, h⟩ => ⟨ev, ?_⟩
  have hh := prom_has (R := R) (j := j) (q := j) (by omega) (Nat.le_refl _)
  have hf := prom_free (R := R) (j := j) (q := j) (by omega)
  rcases h with ⟨h1, s⟩ | ⟨h1, h2, wv', lw', o, s⟩
  · have hg : ¬ gets R j := fun ⟨g1, g2⟩ => by
      rcases h1 with h1 | h1
      · rw [hh, g1] at h1; cases h1
      · exact h1 (hf.2 g2)
    refine ⟨wv, lw, ?_, ?_⟩
    · unfold outs; rw [if_neg hg]; exact ho
    · unfold prom; rw [if_neg hg]; exact s
  · have hg : gets R j := ⟨by rw [← hh]; exact h1, hf.1 h2⟩
    refine ⟨wv', lw', ?_, ?_⟩
    · unfold outs; rw [if_pos hg, List.map_append, List.length_append]
      rw [(prom_at R j (by omega) j).2.1] at o
      exact o
    · unfold prom; rw [if_pos hg, hdQ_setHas]; exact s
theorem dropI_rd {Z : Fz} {F : List Hl} {R : List Tk} {t bt bo j : Nat} {c : AV} {H : AH} (hj : j ≤ R.length) (h : DropI Z F R t bt bo c j H) : Rd H t 0 (atP (idsOf R) 0) ∧ ∀ q, q < R.length → Rd H ((idsOf R).getD q 0) 3 (atP (idsOf R) (q + 1)) := by
  obtain ⟨wv, lw, _, hs⟩ := h
  have hT : Tbl t (prom R j) ((.cells bt [.ptr t 0]) :: (.cells bo [wv]) :: (.cells t [hdQ (prom R j) .nilp, c]) :: (lw ++ (rowS (prom R j) .nilp ++ F))) := tbl_of (.tail _ (.tail _ List.mem_cons_self)) (fun x hx => .tail _ (.tail _ (.tail _ (List.mem_append_right _ (List.mem_append_left _ hx)))))
  have e := prom_ids hj
  rw [← e]
  exact ⟨hT.first (l := []) hs, fun q hq => hT.next (l := []) hs (by rw [prom_len]; exact hq)⟩
theorem dropN_ok [LkN] {tbl : Nat → Option FT} (T : LkT tbl) {t : Nat} {row : List Tk} {n : Int} {N d : Nat} (hd : 10 ≤ d) {Z : Fz} {F : List Hl} {H : AH} (hs : Sat H Z ((.cells t [(hdQ row .nilp), (.int .i64 (.ofNat row.length))]) :: ((rowS row .nilp) ++ F))) (hW : Tks Z row) (hlr : row.length ≤ 1000) (hN : 2000 < N) (hno : ∀ j, j < row.length → ¬ (tkAt row j).n = n) :
    Ct (RUN tbl N d) (.fn (.fn (.func LkN.drop)) [] []) [(.ptr t 0), (.int .i64 n)] H fun v H' => v = .tup [.nils, .int .i64 5] ∧ Sat H' Z ((.cells t [hdQ row .nilp, .int .i64 (.ofNat row.length)]) :: (rowS row .nilp ++ F)) := by
  obtain ⟨d, rfl⟩ : ∃ e, d = e + 10 := ⟨d - 10, by omega⟩
  refine ct_code T.drop (b := b_qdrop) (env := [(.ptr t 0), (.int .i64 n), u_, u_, u_, u_, u_, u_, u_, u_, u_, u_, u_, u_, u_, u_, u_, u_, u_, u_, u_, u_, u_, u_, u_, u_, u_, u_, u_, u_, u_, u_, u_, u_, u_, u_, u_, u_, u_, u_, u_, u_, u_, u_, u_, u_]) ?_
  unfold b_qdrop
  refine wp_seq (wp_reg ?_)
  obtain ⟨b1, H2, s3, k4⟩ := s_box hs (.ptr t 0)
  refine wo_x (v := (.ptr b1 0)) (k4 rfl) (wo_mv .nils (wo_mv (.int .i64 0) (wo_nil (thn_n (wp_seq ?_)))))
  refine wp_seq (wp_reg (wo_x (v := (.ptr t 0)) (s_ld1 s3 0 rfl) (wo_x (v := (.bool false)) (w_lit (fun K => rfl)) (wo_nil (thn_n ?_)))))
  refine wp_condF (wp_skip (thn_n (wp_seq (wp_reg (wo_x (v := (.ptr t 0)) (s_ld1 s3 0 rfl) ?_)))))
  refine wo_mv (.int .i64 n) ?_
  have s5 := s3.pull 1
  obtain ⟨_, H6, ⟨rfl, s7⟩, k8⟩ := findN_ok (N := N) (d := d + 9) T (by omega) s5 (tbl_of (List.mem_cons_self) (fun x hx => (.tail _ (.tail _ (List.mem_append_left _ hx))))) (by omega) hno
  refine wo_call k8 (wo_mv .nilp (wo_nil (thn_n (wp_seq (wp_seq ?_)))))
  refine wp_reg (wo_mv .nilp (wo_x (v := (.bool true)) (w_lit (fun K => rfl)) (wo_nil (thn_n (wp_condT ?_)))))
  refine wp_seq (wp_reg (wo_mv .nils (wo_mv (.int .i64 5) (wo_nil (thn_n ?_)))))
  refine wp_ret (thn_r ?_)
  have s9 := s7.drop 1
  exact fin_2 .nils (.int .i64 5) ⟨rfl, s9⟩
theorem dropY_ok [LkN] {tbl : Nat → Option FT} (T : LkT tbl) {t i : Nat} {row : List Tk} {n : Int} {N d : Nat} (hd : 10 ≤ d) {Z : Fz} {F : List Hl} {H : AH} (hs : Sat H Z ((.cells t [(hdQ row .nilp), (.int .i64 (.ofNat row.length))]) :: ((rowS row .nilp) ++ F))) (hW : Tks Z row) (hlr : row.length ≤ 1000) (hN : 2000 < N) (hi : i < row.length) (he : (tkAt row i).n = n) (hno : ∀ j, j < i → ¬ (tkAt row j).n = n) :
    Ct (RUN tbl N d) (.fn (.fn (.func LkN.drop)) [] []) [(.ptr t 0), (.int .i64 n)] H fun v H' => ∃ wv lw, v = .tup [wv, .int .i64 0] ∧ Own 1 wv (outs (row.take i ++ row.drop (i + 1)) (row.take i ++ row.drop (i + 1)).length).length ((outs (row.take i ++ row.drop (i + 1)) (row.take i ++ row.drop (i + 1)).length).map (.int .i64)) lw ∧ Sat H' Z ((.cells t [hdQ (prom (row.take i ++ row.drop (i + 1)) (row.take i ++ row.drop (i + 1)).length) .nilp, .int .i64 (.ofNat (row.length - 1))]) :: (lw ++ (rowS (prom (row.take i ++ row.drop (i + 1)) (row.take i ++ row.drop (i + 1)).length) .nilp ++ F))) := by
  obtain ⟨d, rfl⟩ : ∃ e, d = e + 10 := ⟨d - 10, by omega⟩
  refine ct_code T.drop (b := b_qdrop) (env := [(.ptr t 0), (.int .i64 n), u_, u_, u_, u_, u_, u_, u_, u_, u_, u_, u_, u_, u_, u_, u_, u_, u_, u_, u_, u_, u_, u_, u_, u_, u_, u_, u_, u_, u_, u_, u_, u_, u_, u_, u_, u_, u_, u_, u_, u_, u_, u_, u_, u_]) ?_
  unfold b_qdrop
  refine wp_seq (wp_reg ?_)
  obtain ⟨b1, H2, s3, k4⟩ := s_box hs (.ptr t 0)
  refine wo_x (v := (.ptr b1 0)) (k4 rfl) (wo_mv .nils (wo_mv (.int .i64 0) (wo_nil (thn_n (wp_seq ?_)))))
  refine wp_seq (wp_reg (wo_x (v := (.ptr t 0)) (s_ld1 s3 0 rfl) (wo_x (v := (.bool false)) (w_lit (fun K => rfl)) (wo_nil (thn_n ?_)))))
  refine wp_condF (wp_skip (thn_n (wp_seq (wp_reg (wo_x (v := (.ptr t 0)) (s_ld1 s3 0 rfl) ?_)))))
  refine wo_mv (.int .i64 n) ?_
  have s5 := s3.pull 1
  obtain ⟨_, H6, ⟨rfl, s7⟩, k8⟩ := findY_ok (N := N) (d := d + 9) T (by omega) s5 (tbl_of (List.mem_cons_self) (fun x hx => (.tail _ (.tail _ (List.mem_append_left _ hx))))) (by omega) hi he hno
  refine wo_call k8 (wo_mv (.ptr ((tkAt row i).b) 0) (wo_nil (thn_n (wp_seq (wp_seq ?_)))))
  refine wp_reg (wo_mv (.ptr ((tkAt row i).b) 0) (wo_x (v := (.bool false)) (w_lit (fun K => rfl)) (wo_nil (thn_n (wp_condF ?_)))))
  refine wp_skip (thn_n (wp_seq (wp_reg (wo_x (v := (.ptr t 0)) (s_ld1 s7 1 rfl) (wo_x (v := (.ptr t 0)) (w_lit (fun K => rfl)) ?_)))))
  refine wo_x (v := (.ptr t 0)) (ca_fla rfl rfl) (wo_mv (.ptr t 0) (wo_nil (thn_n (wp_seq (wp_block ?_)))))
  refine wp_loop (fun ms_ env ds H => ∃ (j : Nat), ∃ ys : List AV, ms_ = row.length + 1 - j ∧ env = [(.ptr t 0), (.int .i64 n), (.ptr b1 0), u_, .nils, (.int .i64 0), (.ptr ((tkAt row i).b) 0), (atQ t row j), u_, (.ptr t 0), (.bool false), (.ptr t 0), (.int .i64 n), (.ptr ((tkAt row i).b) 0), (.ptr ((tkAt row i).b) 0), (.bool false), (.ptr t 0), (.ptr t 0), (.ptr t 0), (lget ys 0), (lget ys 1), (lget ys 2), (lget ys 3), (lget ys 4), (lget ys 5), (lget ys 6), (lget ys 7), (lget ys 8), (lget ys 9), u_, u_, u_, u_, u_, u_, u_, u_, u_, u_, u_, u_, u_, u_, u_, u_, u_] ∧ ds = [] ∧ j ≤ i ∧ Sat H Z ((.cells t [(hdQ row .nilp), (.int .i64 (.ofNat row.length))]) :: (.cells b1 [(.ptr t 0)]) :: ((rowS row .nilp) ++ F))) (row.length + 1 - 0) (by omega) ⟨0, [u_, u_, u_, u_, u_, u_, u_, u_, u_, u_], rfl, rfl, rfl, by omega, s7⟩ ?_
  rintro ms_ env ds H hms_ ⟨j, ys, rfl, rfl, rfl, hj0, s9⟩
  by_cases hj : j < i
  · refine wp_seq (wp_seq (wp_reg (wo_mv (atQ t row j) (wo_x (v := (atQ t row j)) (nck_at rfl) (wo_x (v := (.ptr ((tkAt row j).b) 0)) (rd_lt (show j < row.length by omega) (rd_at s9 (List.mem_cons_self) (fun x hx => (.tail _ (.tail _ (List.mem_append_left _ hx)))) (show j ≤ row.length by omega) (tl := .nilp)) rfl) ?_)))))
    refine wo_mv (.ptr ((tkAt row i).b) 0) (wo_x (v := (.bool true)) (w_bin (ptr_neqF (s9.ns (.tail _ (.tail _ (List.mem_append_left _ (row_mem (show j < row.length by omega) .nilp))))) (s9.ns (.tail _ (.tail _ (List.mem_append_left _ (row_mem hi .nilp))))) (hW.ne j i (by omega) hi (by omega)))) (wo_nil (thn_n (wp_condT (wp_skip ?_)))))
    refine thn_n (wp_block (wp_reg (wo_mv (atQ t row j) (wo_x (v := (atQ t row j)) (nck_at rfl) (wo_x (v := (.ptr ((tkAt row j).b) 0)) (rd_lt (show j < row.length by omega) (rd_at s9 (List.mem_cons_self) (fun x hx => (.tail _ (.tail _ (List.mem_append_left _ hx)))) (show j ≤ row.length by omega) (tl := .nilp)) rfl) ?_)))))
    refine wo_x (v := (.ptr ((tkAt row j).b) 0)) (w_lit (fun K => rfl)) (wo_x (v := (.ptr ((tkAt row j).b) 3)) (ca_fla rfl rfl) (wo_mv (.ptr ((tkAt row j).b) 3) (wo_nil (blk_n ?_))))
    refine lpq_n (row.length + 1 - (j + 1)) (by omega) ⟨j + 1, [(atQ t row j), (atQ t row j), (.ptr ((tkAt row j).b) 0), (.ptr ((tkAt row i).b) 0), (.bool true), (atQ t row j), (atQ t row j), (.ptr ((tkAt row j).b) 0), (.ptr ((tkAt row j).b) 0), (.ptr ((tkAt row j).b) 3)], rfl, rfl, rfl, by omega, s9⟩
  · obtain rfl : j = i := by omega
    refine wp_seq (wp_seq (wp_reg (wo_mv (atQ t row j) (wo_x (v := (atQ t row j)) (nck_at rfl) (wo_x (v := (.ptr ((tkAt row j).b) 0)) (rd_lt (show j < row.length by omega) (rd_at s9 (List.mem_cons_self) (fun x hx => (.tail _ (.tail _ (List.mem_append_left _ hx)))) (show j ≤ row.length by omega) (tl := .nilp)) rfl) ?_)))))
    refine wo_mv (.ptr ((tkAt row j).b) 0) (wo_x (v := (.bool false)) (w_bin ptr_neqT) (wo_nil (thn_n (wp_condF (wp_exit ?_)))))
    refine thn_e (lpq_e (blk_h (thn_n (wp_seq (wp_reg ?_)))))
    refine wo_mv (atQ t row j) (wo_mv (.ptr ((tkAt row j).b) 0) (wo_x (v := (.ptr ((tkAt row j).b) 0)) (w_lit (fun K => rfl)) (wo_x (v := (.ptr ((tkAt row j).b) 3)) (ca_fla rfl rfl) (wo_x (v := (hdQ (row.drop (j + 1)) .nilp)) (o_ldm (v := (hdQ (row.drop (j + 1)) .nilp)) s9 (.tail _ (.tail _ (List.mem_append_left _ (row_mem (show j < row.length by omega) .nilp)))) rfl) (wo_x (v := (atQ t row j)) (nck_at rfl) ?_)))))
    have s13 : Sat H Z (.cells t [hdQ row .nilp, (.int .i64 (.ofNat row.length))] :: (rowS row .nilp ++ ([.cells b1 [(.ptr t 0)]] ++ F))) := s9.perm (List.Perm.cons _ (by simpa using (List.perm_append_comm_assoc [.cells b1 [(.ptr t 0)]] (rowS row .nilp) F)))
    obtain ⟨H10, s11, k12⟩ := unlink s13 (show j < row.length by omega)
    have s14 : Sat H10 Z ((.cells t [(hdQ (row.take j ++ row.drop (j + 1)) .nilp), (.int .i64 (.ofNat row.length))]) :: (.cells b1 [(.ptr t 0)]) :: ((rowS (row.take j ++ row.drop (j + 1)) .nilp) ++ F)) := s11.perm (List.Perm.cons _ (by simpa using (List.perm_append_comm_assoc (rowS (row.take j ++ row.drop (j + 1)) .nilp) [.cells b1 [(.ptr t 0)]] F)))
    refine wo_n (k12 rfl rfl) (wo_nil (thn_n (wp_seq (wp_reg (wo_x (v := (.ptr t 0)) (s_ld1 s14 1 rfl) ?_)))))
    refine wo_x (v := (.ptr t 0)) (w_lit (fun K => rfl)) (wo_x (v := (.ptr t 1)) (ca_fla rfl rfl) (wo_x (v := (.int .i64 (.ofNat row.length))) (s_ld1 s14 0 rfl) (wo_x (v := (.int .i64 (.ofNat (row.length - 1)))) (w_bin (sub_i64 row.length 1 (by omega) (by omega))) (wo_x (v := (.ptr t 0)) (w_lit (fun K => rfl)) (wo_x (v := (.ptr t 1)) (ca_fla rfl rfl) ?_)))))
    obtain ⟨H15, s16, k17⟩ := s_st s14 1 (.int .i64 (.ofNat (row.length - 1))) (Nat.le_of_ble_eq_true rfl)
    refine wo_n (k17 rfl rfl) (wo_nil (thn_n (wp_seq (wp_reg ?_))))
    obtain ⟨b18, H19, s20, k21⟩ := s_alloc s16 (RL.one .nils)
    refine wo_x (v := (.ptr b18 0)) (k21) (wo_nil (thn_n (wp_seq (wp_reg (wo_x (v := (.ptr t 0)) (s_ld1 s20 2 rfl) ?_)))))
    refine wo_x (v := (.fn (.fn (.func LkN.drop1)) [] [(.ptr b1 0), (.ptr b18 0)])) (w_lit (fun K => rfl)) ?_
    have s22 := s20.pull 1
    have s23 := s22.pull 1
    have s24 := s23.pull 2
    have hw32 := tks_cut hW (show j < row.length by omega)
    have hl33 := cut_len (show j < row.length by omega)
    obtain ⟨_, H25, ⟨rfl, h26⟩, k27⟩ := each_ok T (N := N) (d := d + 9) (ids := idsOf (row.take j ++ row.drop (j + 1))) (Inv := fun q H => q ≤ (row.take j ++ row.drop (j + 1)).length ∧ DropI Z F (row.take j ++ row.drop (j + 1)) t b1 b18 (.int .i64 (.ofNat (row.length - 1))) q H) (Stop := fun _ => False) (by omega) s24 ⟨Nat.zero_le _, .nils, [], .nil, s24⟩ (by rw [ids_len]; omega) (fun H h => (dropI_rd h.1 h.2).1) (fun q H hq h => by rw [ids_len] at hq; exact (dropI_rd h.1 h.2).2 q hq) (fun q H hq h => by rw [ids_len] at hq; rw [ids_at hq]; exact (drop_step T (by omega) hw32 (by omega) hN hq h.2).imp fun v H' ⟨ev, hh⟩ => ⟨true, ev, fun _ => ⟨by omega, hh⟩, fun e => by cases e⟩)
    obtain ⟨_, wv30, lw31, o28, s29⟩ := h26.resolve_right (fun h => h)
    rw [ids_len] at o28 s29
    refine wo_call k27 (wo_nil (thn_n (wp_seq (wp_reg (wo_x (v := wv30) (s_ld1 s29 1 rfl) ?_)))))
    refine wo_mv wv30 (wo_mv (.int .i64 0) (wo_nil (thn_n (wp_ret ?_))))
    have s34 := s29.drop 0
    have s35 := s34.drop 0
    exact fin_2 wv30 (.int .i64 0) ⟨_, _, rfl, o28, s35⟩
end
end Go.Jt
