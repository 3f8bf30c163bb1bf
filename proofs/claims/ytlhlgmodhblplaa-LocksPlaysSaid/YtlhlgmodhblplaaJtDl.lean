/-
  What is told of the two tables. PRINTED by wip/tools/mkly.py.
-/
import Derived.Test.YtlhlgmodhblplaaJtPl
set_option autoImplicit false
set_option linter.all false
set_option maxRecDepth 10000
set_option maxHeartbeats 8000000
namespace Go.Jt
noncomputable section
variable [Gl]
theorem like_ok [LpN] [LfN] [LkN] {tbl : Nat → Option FT} (T : LpT tbl) (TK : LkT tbl) (TL : LfT tbl) {t x : Nat} {R : List Tk} {D : List Dk} {rv : AV} {rl : List Hl} {n : Int} {N d : Nat} (hd : 12 ≤ d) {Z : Fz} {F : List Hl} {H : AH} (hs : Sat H Z (((PT t x R rv rl) ++ F))) (hP : Pl Z R D) (hr : Own 2 rv D.length (dC D) rl) (hN : 2000 < N) :
    Ct (RUN tbl N d) (.fn (.fn (.func LpN.like)) [] []) [(.ptr t 0), (.ptr x 0), (.int .i64 n)] H fun v H' => v = .bool true ∧ Sat H' Z (PT t x R rv rl ++ F) := by
  obtain ⟨d, rfl⟩ : ∃ e, d = e + 12 := ⟨d - 12, by omega⟩
  have hln : (R.map fun x => x.n).length ≤ 16 := by rw [List.length_map]; exact hP.sz
  refine ct_code T.like (b := b_elike) (env := [(.ptr t 0), (.ptr x 0), (.int .i64 n), u_, u_, u_, u_, u_, u_, u_, u_, u_, u_, u_, u_, u_, u_, u_, u_, u_, u_, u_, u_, u_, u_, u_, u_, u_, u_, u_, u_, u_, u_, u_, u_, u_, u_, u_, u_, u_, u_, u_, u_, u_, u_, u_, u_, u_, u_]) ?_
  unfold b_elike
  refine wp_seq (wp_reg (wo_mv (.bool false) (wo_nil (thn_n (wp_seq ?_)))))
  refine wp_reg (wo_mv (.ptr t 0) ?_)
  have s1 : Sat H Z ((PT t x R rv rl) ++ (F)) := hs.perm (by exact perm_cn fun a => by (simp only [cn_PT, cn_app, cn_cons, cn_nil] <;> omega))
  obtain ⟨v2, H3, ⟨lw4, o5, s6⟩, k7⟩ := row_p (N := N) (d := d + 11) TK (by omega) s1 hP hN
  have s8 : Sat H3 Z (((PT t x R rv rl) ++ (lw4 ++ F))) := s6.perm (by exact perm_cn fun a => by (simp only [cn_PT, cn_app, cn_cons, cn_nil] <;> omega))
  refine wo_call k7 (wo_mv v2 (wo_nil (thn_n (wp_seq (wp_reg ?_)))))
  refine wo_mv (.ptr x 0) ?_
  have s9 : Sat H3 Z ((PT t x R rv rl) ++ ((lw4 ++ F))) := s8.perm (by exact perm_cn fun a => by (simp only [cn_PT, cn_app, cn_cons, cn_nil] <;> omega))
  obtain ⟨v10, H11, ⟨lw12, o13, s14⟩, k15⟩ := drow_p (N := N) (d := d + 11) T (by omega) s9 hP hr hN
  have s16 : Sat H11 Z (((PT t x R rv rl) ++ (lw12 ++ (lw4 ++ F)))) := s14.perm (by exact perm_cn fun a => by (simp only [cn_PT, cn_app, cn_cons, cn_nil] <;> omega))
  refine wo_call k15 (wo_mv v10 (wo_nil (thn_n (wp_seq (wp_seq ?_)))))
  refine wp_reg (wo_mv v2 (wo_mv v10 ?_))
  have s20 : Sat H11 Z (lw4 ++ ((lw12 ++ (((PT t x R rv rl) ++ F))))) := s16.perm (by exact perm_cn fun a => by (simp only [cn_PT, cn_app, cn_cons, cn_nil] <;> omega))
  obtain ⟨_, H17, ⟨rfl, s19⟩, k18⟩ := same_p (N := N) (d := d + 11) T (by omega) s20 o5 o13 (by omega) hN
  have s21 : Sat H17 Z ((lw4 ++ (lw12 ++ ((PT t x R rv rl) ++ F)))) := s19.perm (by exact perm_cn fun a => by (simp only [cn_PT, cn_app, cn_cons, cn_nil] <;> omega))
  refine wo_call k18 (wo_x (v := (.bool false)) (w_lit (fun K => rfl)) (wo_mv (.bool false) (wo_yesF (wo_mv (.ptr t 0) (wo_yesF ?_)))))
  refine wo_mv (.int .i64 n) (wo_yesF ?_)
  have s22 : Sat H17 Z ((PT t x R rv rl) ++ ((lw4 ++ (lw12 ++ F)))) := s21.perm (by exact perm_cn fun a => by (simp only [cn_PT, cn_app, cn_cons, cn_nil] <;> omega))
  obtain ⟨b26, h27, h28⟩ := has_p T TK TL hP hr hN n
  obtain ⟨_, H23, ⟨rfl, s24⟩, k25⟩ := h27 (d := d + 11) (by omega) s22
  have s29 : Sat H23 Z (((PT t x R rv rl) ++ (lw4 ++ (lw12 ++ F)))) := s24.perm (by exact perm_cn fun a => by (simp only [cn_PT, cn_app, cn_cons, cn_nil] <;> omega))
  refine wo_call k25 (wo_yesF (wo_mv (.ptr x 0) (wo_yesF (wo_mv (.int .i64 n) (wo_yesF ?_)))))
  have s30 : Sat H23 Z ((PT t x R rv rl) ++ ((lw4 ++ (lw12 ++ F)))) := s29.perm (by exact perm_cn fun a => by (simp only [cn_PT, cn_app, cn_cons, cn_nil] <;> omega))
  obtain ⟨_, H31, ⟨rfl, s32⟩, k33⟩ := h28 (d := d + 11) (by omega) s30
  have s34 : Sat H31 Z (((PT t x R rv rl) ++ (lw4 ++ (lw12 ++ F)))) := s32.perm (by exact perm_cn fun a => by (simp only [cn_PT, cn_app, cn_cons, cn_nil] <;> omega))
  refine wo_call k33 (wo_yesF (wo_x (v := (.bool false)) (w_bin bool_neqS) (wo_x (v := (.bool false)) (w_pickF rfl rfl) (wo_nil (thn_n ?_)))))
  refine wp_condF (wp_skip (thn_n (wp_seq (wp_seq (wp_reg ?_)))))
  refine wo_mv (.int .i64 0) (wo_nil (thn_n (wp_block ?_)))
  have s35 : Sat H31 Z ((lw4 ++ ((PT t x R rv rl) ++ (lw12 ++ F)))) := s34.perm (by exact perm_cn fun a => by (simp only [cn_PT, cn_app, cn_cons, cn_nil] <;> omega))
  refine wp_loop (fun ms_ env ds H => ∃ (q : Nat) (L_ : List AV) (gl_ : List Hl), ∃ ys36 : List AV, ms_ = (R.map fun x => x.n).length - q ∧ env = [(.ptr t 0), (.ptr x 0), (.int .i64 n), u_, u_, u_, (lget ys36 0), v2, v10, (.int .i64 (.ofNat q)), (.ptr t 0), v2, (.ptr x 0), v10, v2, v10, (.bool true), (.bool false), (.bool false), (.ptr t 0), (.int .i64 n), (.bool b26), (.ptr x 0), (.int .i64 n), (.bool b26), (.bool false), (.bool false), (lget ys36 1), (lget ys36 2), (lget ys36 3), (lget ys36 4), (lget ys36 5), (lget ys36 6), (lget ys36 7), (lget ys36 8), (lget ys36 9), (lget ys36 10), (lget ys36 11), (lget ys36 12), (lget ys36 13), (lget ys36 14), (lget ys36 15), (lget ys36 16), (lget ys36 17), (lget ys36 18), (lget ys36 19), (lget ys36 20), (lget ys36 21), (lget ys36 22)] ∧ ds = [] ∧ Sat H Z ((gl_ ++ ((PT t x R rv rl) ++ (lw12 ++ F)))) ∧ (q ≤ (R.map fun x => x.n).length) ∧ (Own 1 v2 ((R.map fun x => x.n).length) L_ gl_)) ((R.map fun x => x.n).length - 0) (by omega) ⟨0, (((R.map fun x => x.n)).map (.int .i64)), lw4, [(.bool false), u_, u_, u_, u_, u_, u_, u_, u_, u_, u_, u_, u_, u_, u_, u_, u_, u_, u_, u_, u_, u_, u_], rfl, rfl, rfl, s35, (by omega), o5⟩ ?_
  rintro ms_ env ds H hms_ ⟨q, L_, gl_, ys36, rfl, rfl, rfl, s37, hq, ho_⟩
  refine wp_seq (wp_seq (wp_reg (wo_mv (.int .i64 (.ofNat q)) (wo_mv v10 (wo_x (v := (.int .i64 (.ofNat ((R.map fun x => x.n).length)))) (own_len o13 rfl) ?_)))))
  by_cases c38 : q < (R.map fun x => x.n).length
  · refine wo_x (v := (.bool true)) (w_bin (cmp_lssT q ((R.map fun x => x.n).length) (by omega))) (wo_nil (thn_n (wp_condT (wp_skip (thn_n ?_)))))
    refine wp_seq (wp_block (wp_seq (wp_seq (wp_dreg (wd_run ?_)))))
    refine wo_mv (.ptr t 0) (wo_nil (wd_run (wo_mv v10 (wo_nil (wd_run ?_)))))
    refine wo_mv (.int .i64 (.ofNat q)) (wo_nil (wd_run ?_))
    obtain ⟨b39, e40, g41, o42, k43⟩ := own_ix o13 q (by omega)
    refine wo_x (v := (.ptr b39 (q * 1))) (k43 rfl rfl) (wo_nil (wd_run ?_))
    have r44 := Sat.rot (H := H) (Z := Z) (l₁ := ([] : List Hl) ++ (gl_ ++ ((PT t x R rv rl)))) (hl := lw12) (F := F) (by simp only [List.append_assoc]; exact s37)
    have q45 := r44
    rw [e40] at q45
    refine wo_x (v := (.int .i64 (iAt (R.map fun x => x.n) q))) (s_ld1 q45 0 (ig_get (G := (R.map fun x => x.n)) (by omega))) (wo_nil (wd_run (wo_mv (.ptr x 0) (wo_nil (wd_run ?_)))))
    refine wo_mv v10 (wo_nil (wd_run (wo_mv (.int .i64 (.ofNat q)) (wo_nil (wd_run ?_)))))
    obtain ⟨b46, e47, g48, o49, k50⟩ := own_ix o13 q (by omega)
    refine wo_x (v := (.ptr b46 (q * 1))) (k50 rfl rfl) (wo_nil (wd_run ?_))
    have r51 := Sat.rot (H := H) (Z := Z) (l₁ := ([] : List Hl) ++ (gl_ ++ ((PT t x R rv rl)))) (hl := lw12) (F := F) (by simp only [List.append_assoc]; exact s37)
    have q52 := r51
    rw [e47] at q52
    refine wo_x (v := (.int .i64 (iAt (R.map fun x => x.n) q))) (s_ld1 q52 0 (ig_get (G := (R.map fun x => x.n)) (by omega))) (wo_nil (wd_nil (ws_cons ?_)))
    have s53 : Sat H Z ((PT t x R rv rl) ++ ((gl_ ++ (lw12 ++ F)))) := s37.perm (by exact perm_cn fun a => by (simp only [cn_PT, cn_app, cn_cons, cn_nil] <;> omega))
    obtain ⟨b57, h58, h59⟩ := has_p T TK TL hP hr hN (iAt (R.map fun x => x.n) q)
    obtain ⟨_, H54, ⟨rfl, s55⟩, k56⟩ := h58 (d := d + 11) (by omega) s53
    have s60 : Sat H54 Z (((PT t x R rv rl) ++ (gl_ ++ (lw12 ++ F)))) := s55.perm (by exact perm_cn fun a => by (simp only [cn_PT, cn_app, cn_cons, cn_nil] <;> omega))
    refine wo_call k56 (wo_nil ?_)
    have r61 := Sat.rot (H := H54) (Z := Z) (l₁ := ([] : List Hl) ++ ((PT t x R rv rl) ++ (gl_))) (hl := lw12) (F := F) (by simp only [List.append_assoc]; exact s60)
    have q62 := r61
    rw [e47] at q62
    refine wd_again (v := (.int .i64 (iAt (R.map fun x => x.n) q))) (hs := same_int) (s_ld1 q62 0 (ig_get (G := (R.map fun x => x.n)) (by omega))) (wd_nil (ws_cons ?_))
    have s63 : Sat H54 Z ((PT t x R rv rl) ++ ((gl_ ++ (lw12 ++ F)))) := s60.perm (by exact perm_cn fun a => by (simp only [cn_PT, cn_app, cn_cons, cn_nil] <;> omega))
    obtain ⟨_, H64, ⟨rfl, s65⟩, k66⟩ := h59 (d := d + 11) (by omega) s63
    have s67 : Sat H64 Z (((PT t x R rv rl) ++ (gl_ ++ (lw12 ++ F)))) := s65.perm (by exact perm_cn fun a => by (simp only [cn_PT, cn_app, cn_cons, cn_nil] <;> omega))
    refine wo_call k66 (wo_nil (wd_run (wo_x (v := (.bool false)) (w_bin bool_neqS) (wo_nil (wd_nil ?_)))))
    refine ws_nil (thn_n (wp_condF (wp_skip (thn_n (wp_reg ?_)))))
    refine wo_mv v2 (wo_mv (.int .i64 (.ofNat q)) ?_)
    obtain ⟨b68, e69, g70, o71, k72⟩ := own_ix ho_ q (by omega)
    refine wo_x (v := (.ptr b68 (q * 1))) (k72 rfl rfl) ?_
    have r73 := Sat.rot (H := H64) (Z := Z) (l₁ := ([] : List Hl) ++ ((PT t x R rv rl))) (hl := gl_) (F := lw12 ++ (F)) (by simp only [List.append_assoc]; exact s67)
    obtain ⟨l74, L75, H76, h77, s78, k79⟩ := own_set1 (i := q) (x := (.int .i64 (-7))) r73 e69 g70 o71 rfl
    have s80 : Sat H76 Z (((PT t x R rv rl) ++ (l74 ++ (lw12 ++ F)))) := by have h := Sat.rot (l₁ := l74) (hl := ([] : List Hl) ++ ((PT t x R rv rl))) s78; (try simp only [List.append_assoc] at h); exact h
    refine wo_n (k79 rfl rfl) (wo_nil (blk_n (thn_n (wp_reg (wo_mv (.int .i64 (.ofNat q)) ?_)))))
    refine wo_x (v := (.int .i64 (.ofNat (q + 1)))) (w_bin (add_i64 q 1 (by omega) _ _)) (wo_mv (.int .i64 (.ofNat (q + 1))) (wo_nil ?_))
    have s81 : Sat H76 Z ((l74 ++ ((PT t x R rv rl) ++ (lw12 ++ F)))) := s80.perm (by exact perm_cn fun a => by (simp only [cn_PT, cn_app, cn_cons, cn_nil] <;> omega))
    refine lpq_n ((R.map fun x => x.n).length - (q + 1)) (by omega) ⟨(q + 1), L75, l74, [(lget ys36 0), (.int .i64 (.ofNat q)), v10, (.int .i64 (.ofNat ((R.map fun x => x.n).length))), (.bool true), (.int .i64 (.ofNat q)), (.int .i64 (.ofNat (q + 1))), (.ptr t 0), v10, (.int .i64 (.ofNat q)), (.ptr b39 (q * 1)), (.int .i64 (iAt (R.map fun x => x.n) q)), (.bool b57), (.ptr x 0), v10, (.int .i64 (.ofNat q)), (.ptr b46 (q * 1)), (.int .i64 (iAt (R.map fun x => x.n) q)), (.bool b57), (.bool false), v2, (.int .i64 (.ofNat q)), (.ptr b68 (q * 1))], rfl, rfl, rfl, s81, (by omega), h77⟩
  · refine wo_x (v := (.bool false)) (w_bin (cmp_lssF q ((R.map fun x => x.n).length) (by omega))) (wo_nil (thn_n (wp_condF (wp_exit (thn_e ?_)))))
    refine lpq_e (blk_h (thn_n (wp_seq (wp_reg (wo_mv (.bool true) ?_)))))
    refine wo_nil (thn_n (wp_ret ?_))
    have s82 : Sat H Z ((PT t x R rv rl) ++ ((gl_ ++ (lw12 ++ F)))) := s37.perm (by exact perm_cn fun a => by (simp only [cn_PT, cn_app, cn_cons, cn_nil] <;> omega))
    have s83 : Sat H Z ((PT t x R rv rl) ++ F) := s82.sub (List.Sublist.append_left (by first | exact List.Sublist.refl _ | exact List.sublist_append_right _ _ | exact (List.sublist_append_right _ _).trans (List.sublist_append_right _ _)) _)
    exact fin_1 (.bool true) ⟨rfl, s83⟩
end
end Go.Jt
