/-
  A step of the law LocksPlays. PRINTED by wip/tools/mkly.py.
-/
import Derived.Test.YtlhlgmodhblplaaJtPl
set_option autoImplicit false
set_option linter.all false
set_option maxRecDepth 10000
set_option maxHeartbeats 8000000
namespace Go.Jt
noncomputable section
variable [Gl]
theorem do_ok [LpN] [LfN] [LkN] {tbl : Nat → Option FT} (T : LpT tbl) (TK : LkT tbl) (TL : LfT tbl) {t x : Nat} {R : List Tk} {D : List Dk} {rv : AV} {rl : List Hl} {kd : Nat} {n : Int} {lv : AV} {ws : List Wt} {ro : Rp AV} {N d : Nat} (hd : 12 ≤ d) {Z : Fz} {F : List Hl} {H : AH} (hs : Sat H Z (((PT t x R rv rl) ++ F))) (hro : RL ro [.int .u8 (.ofNat kd), .int .i64 n, lv]) (hlv : Fl Z 2 lv (wrow ws)) (hlw : ws.length ≤ 50) (hP : Pl Z R D) (hr : Own 2 rv D.length (dC D) rl) (hN : 2000 < N) :
    Ct (RUN tbl N d) (.fn (.fn (.func LpN.do_)) [] []) [(.agg ro), (.ptr t 0), (.ptr x 0)] H fun v H' => v = .bool true ∧ ∃ Z' R' D' rv' rl', Z.le Z' ∧ Pl Z' R' D' ∧ Own 2 rv' D'.length (dC D') rl' ∧ Sat H' Z' (PT t x R' rv' rl' ++ F) := by
  obtain ⟨d, rfl⟩ : ∃ e, d = e + 12 := ⟨d - 12, by omega⟩
  refine ct_code T.do_ (b := b_edo_) (env := [(.agg ro), (.ptr t 0), (.ptr x 0), u_, u_, u_, u_, u_, u_, u_, u_, u_, u_, u_, u_, u_, u_, u_, u_, u_, u_, u_, u_, u_, u_, u_, u_, u_, u_, u_, u_, u_, u_, u_, u_, u_, u_, u_, u_, u_, u_, u_, u_, u_, u_, u_, u_, u_, u_, u_, u_, u_, u_, u_, u_, u_, u_, u_, u_, u_, u_, u_, u_, u_, u_, u_, u_, u_, u_, u_, u_, u_, u_, u_, u_, u_, u_, u_, u_, u_, u_, u_, u_, u_, u_, u_, u_, u_, u_, u_, u_, u_]) ?_
  unfold b_edo_
  refine wp_seq (wp_reg ?_)
  obtain ⟨b1, H2, s3, k4⟩ := s_boxn hs hro
  refine wo_x (v := (.ptr b1 0)) (k4 rfl) (wo_mv (.bool false) (wo_nil (thn_n (wp_seq (wp_seq ?_)))))
  refine wp_reg (wo_x (v := (.ptr b1 0)) (ca_fla rfl rfl) (wo_x (v := (.int .u8 (.ofNat kd))) (s_ld1 s3 0 rfl) ?_))
  by_cases c5 : kd = 0
  · refine wo_x (v := (.bool true)) (w_bin (cmp_eqlT kd 0 (by omega))) (wo_nil (thn_n (wp_condT (wp_seq (wp_reg ?_)))))
    refine wo_x (v := (.ptr b1 2)) (ca_fla rfl rfl) (wo_x (v := lv) (s_ld1 s3 0 rfl) ?_)
    obtain ⟨gv6, H7, ⟨gl8, o9, s10⟩, k11⟩ := given18_ok TL (N := N) (d := d + 11) (by omega) s3 hlv (by omega) hN
    have s12 : Sat H7 Z ((.cells b1 [(.int .u8 (.ofNat kd)), (.int .i64 n), lv]) :: (gl8 ++ ((PT t x R rv rl) ++ F))) := s10.perm (by exact perm_cn fun a => by (simp only [cn_PT, cn_app, cn_cons, cn_nil] <;> omega))
    refine wo_call k11 (wo_mv gv6 (wo_nil (thn_n (wp_seq (wp_reg ?_)))))
    refine wo_mv (.ptr t 0) (wo_x (v := (.ptr b1 1)) (ca_fla rfl rfl) (wo_x (v := (.int .i64 n)) (s_ld1 s12 0 rfl) (wo_mv gv6 ?_)))
    by_cases c13 : AskP R n ws 0
    · have s14 : Sat H7 Z ((PT t x R rv rl) ++ ((gl8 ++ ((.cells b1 [(.int .u8 (.ofNat kd)), (.int .i64 n), lv]) :: F)))) := s12.perm (by exact perm_cn fun a => by (simp only [cn_PT, cn_app, cn_cons, cn_nil] <;> omega))
      obtain ⟨_, H15, ⟨xb18, xv19, Z20, l21, ht22, rfl, s17⟩, k16⟩ := askY_p (N := N) (d := d + 11) TK c13 (by omega) s14 hP o9 (by omega) hN
      have f23 := hP.mono l21
      have f24 := hlv.mono l21
      have f25 := Fz.le_trans (Fz.le_refl Z) l21
      have s26 : Sat H15 Z20 ((.cells b1 [(.int .u8 (.ofNat kd)), (.int .i64 n), lv]) :: ((PT t x (R ++ [(⟨xb18, n, xv19, ws, dB (FreeW R ws)⟩ : Tk)]) rv rl) ++ (gl8 ++ F))) := s17.perm (by exact perm_cn fun a => by (simp only [cn_PT, cn_app, cn_cons, cn_nil] <;> omega))
      refine wo_call k16 (wo_mv (.tup [(.bool (dB (FreeW R ws))), (.int .i64 0)]) (wo_x (v := (.bool (dB (FreeW R ws)))) (w_lit (fun K => rfl)) (wo_x (v := (.int .i64 0)) (w_lit (fun K => rfl)) (wo_mv (.bool (dB (FreeW R ws))) (wo_mv (.int .i64 0) ?_)))))
      refine wo_nil (thn_n (wp_seq (wp_reg (wo_mv (.ptr x 0) (wo_x (v := (.ptr b1 1)) (ca_fla rfl rfl) ?_)))))
      refine wo_x (v := (.int .i64 n)) (s_ld1 s26 0 rfl) (wo_x (v := (.ptr b1 2)) (ca_fla rfl rfl) (wo_x (v := lv) (s_ld1 s26 0 rfl) ?_))
      have s30 : Sat H15 Z20 ((PT t x (R ++ [(⟨xb18, n, xv19, ws, dB (FreeW R ws)⟩ : Tk)]) rv rl) ++ ((.cells b1 [(.int .u8 (.ofNat kd)), (.int .i64 n), lv]) :: (gl8 ++ F))) := s26.perm (by exact perm_cn fun a => by (simp only [cn_PT, cn_app, cn_cons, cn_nil] <;> omega))
      obtain ⟨_, H27, ⟨D31, rv32, rl33, Z34, l35, hp36, o37, rfl, s29⟩, k28⟩ := daskY_p (N := N) (d := d + 11) T TK TL c13 (by omega) s30 f23 ht22 hr f24 hlw hN
      have f38 := f24.mono l35
      have f39 := Fz.le_trans f25 l35
      have s40 : Sat H27 Z34 ((.cells b1 [(.int .u8 (.ofNat kd)), (.int .i64 n), lv]) :: ((PT t x (R ++ [(⟨xb18, n, xv19, ws, dB (FreeW R ws)⟩ : Tk)]) rv32 rl33) ++ (gl8 ++ F))) := s29.perm (by exact perm_cn fun a => by (simp only [cn_PT, cn_app, cn_cons, cn_nil] <;> omega))
      refine wo_call k28 (wo_mv (.tup [(.bool (dB (FreeW R ws))), (.int .i64 0)]) (wo_x (v := (.bool (dB (FreeW R ws)))) (w_lit (fun K => rfl)) (wo_x (v := (.int .i64 0)) (w_lit (fun K => rfl)) (wo_mv (.bool (dB (FreeW R ws))) (wo_mv (.int .i64 0) ?_)))))
      refine wo_nil (thn_n (wp_seq (wp_seq (wp_reg (wo_mv (.int .i64 0) ?_)))))
      refine wo_nil (thn_n (wp_block ?_))
      have s41 : Sat H27 Z34 ((.cells b1 [(.int .u8 (.ofNat kd)), (.int .i64 n), lv]) :: (gl8 ++ ((PT t x (R ++ [(⟨xb18, n, xv19, ws, dB (FreeW R ws)⟩ : Tk)]) rv32 rl33) ++ F))) := s40.perm (by exact perm_cn fun a => by (simp only [cn_PT, cn_app, cn_cons, cn_nil] <;> omega))
      refine wp_loop (fun ms_ env ds H => ∃ (q : Nat) (L_ : List AV) (gl_ : List Hl), ∃ ys42 : List AV, ms_ = ws.length - q ∧ env = [(.agg ro), (.ptr t 0), (.ptr x 0), (.ptr b1 0), u_, u_, (.bool false), gv6, (.bool (dB (FreeW R ws))), (.int .i64 0), (.bool (dB (FreeW R ws))), (.int .i64 0), (.int .i64 (.ofNat q)), u_, u_, u_, u_, u_, u_, (.ptr b1 0), (.int .u8 (.ofNat kd)), (.bool true), (.ptr b1 2), lv, gv6, (.tup [(.bool (dB (FreeW R ws))), (.int .i64 0)]), (.ptr t 0), (.ptr b1 1), (.int .i64 n), gv6, (.tup [(.bool (dB (FreeW R ws))), (.int .i64 0)]), (.bool (dB (FreeW R ws))), (.int .i64 0), (.tup [(.bool (dB (FreeW R ws))), (.int .i64 0)]), (.ptr x 0), (.ptr b1 1), (.int .i64 n), (.ptr b1 2), lv, (.tup [(.bool (dB (FreeW R ws))), (.int .i64 0)]), (.bool (dB (FreeW R ws))), (.int .i64 0), (lget ys42 0), (lget ys42 1), (lget ys42 2), (lget ys42 3), (lget ys42 4), (lget ys42 5), (lget ys42 6), (lget ys42 7), (lget ys42 8), (lget ys42 9), u_, u_, u_, u_, u_, u_, u_, u_, u_, u_, u_, u_, u_, u_, u_, u_, u_, u_, u_, u_, u_, u_, u_, u_, u_, u_, u_, u_, u_, u_, u_, u_, u_, u_, u_, u_, u_, u_, u_, u_] ∧ ds = [] ∧ Sat H Z34 ((.cells b1 [(.int .u8 (.ofNat kd)), (.int .i64 n), lv]) :: (gl_ ++ ((PT t x (R ++ [(⟨xb18, n, xv19, ws, dB (FreeW R ws)⟩ : Tk)]) rv32 rl33) ++ F))) ∧ (q ≤ ws.length) ∧ (Own 2 gv6 ws.length L_ gl_)) (ws.length - 0) (by omega) ⟨0, (wrow ws).flatten, gl8, [u_, u_, u_, u_, u_, u_, u_, u_, u_, u_], rfl, rfl, rfl, s41, (by omega), o9⟩ ?_
      rintro ms_ env ds H hms_ ⟨q, L_, gl_, ys42, rfl, rfl, rfl, s43, hq, ho_⟩
      refine wp_seq (wp_seq (wp_reg (wo_mv (.int .i64 (.ofNat q)) (wo_mv gv6 (wo_x (v := (.int .i64 (.ofNat ws.length))) (own_len ho_ rfl) ?_)))))
      by_cases c44 : q < ws.length
      · refine wo_x (v := (.bool true)) (w_bin (cmp_lssT q ws.length (by omega))) (wo_nil (thn_n (wp_condT (wp_skip (thn_n ?_)))))
        refine wp_seq (wp_block (wp_reg (wo_mv gv6 (wo_mv (.int .i64 (.ofNat q)) (wo_x (v := (.agg (Rp.set (Rp.set (.cat 1 (.one (.int .i64 0)) (.one (.bool false))) 0 (.int .i64 77)) 1 (.bool true)))) (w_build (r := (Rp.set (Rp.set (.cat 1 (.one (.int .i64 0)) (.one (.bool false))) 0 (.int .i64 77)) 1 (.bool true))) (fill_s (v := (.int .i64 77)) rfl rfl rfl (fill_s (v := (.bool true)) rfl rfl rfl fill_nil))) ?_)))))
        obtain ⟨b45, e46, g47, o48, k49⟩ := own_ix ho_ q (by omega)
        refine wo_x (v := (.ptr b45 (q * 2))) (k49 rfl rfl) ?_
        have r50 := Sat.rot (H := H) (Z := Z34) (l₁ := [.cells b1 [(.int .u8 (.ofNat kd)), (.int .i64 n), lv]]) (hl := gl_) (F := (PT t x (R ++ [(⟨xb18, n, xv19, ws, dB (FreeW R ws)⟩ : Tk)]) rv32 rl33) ++ (F)) (s43)
        obtain ⟨l51, L52, H53, h54, s55, k56⟩ := own_set2 (i := q) r50 e46 g47 o48 (((RL.cat (RL.one (.int .i64 0)) (RL.one (.bool false)) rfl).set 0 (.int .i64 77)).set 1 (.bool true)) rfl
        have s57 : Sat H53 Z34 ((.cells b1 [(.int .u8 (.ofNat kd)), (.int .i64 n), lv]) :: (l51 ++ ((PT t x (R ++ [(⟨xb18, n, xv19, ws, dB (FreeW R ws)⟩ : Tk)]) rv32 rl33) ++ F))) := by have h := Sat.rot (l₁ := l51) (hl := [.cells b1 [(.int .u8 (.ofNat kd)), (.int .i64 n), lv]]) s55; exact h
        refine wo_n (k56 rfl rfl) (wo_nil (blk_n (thn_n (wp_reg (wo_mv (.int .i64 (.ofNat q)) ?_)))))
        refine wo_x (v := (.int .i64 (.ofNat (q + 1)))) (w_bin (add_i64 q 1 (by omega) _ _)) (wo_mv (.int .i64 (.ofNat (q + 1))) (wo_nil ?_))
        refine lpq_n (ws.length - (q + 1)) (by omega) ⟨(q + 1), L52, l51, [(.int .i64 (.ofNat q)), gv6, (.int .i64 (.ofNat ws.length)), (.bool true), (.int .i64 (.ofNat q)), (.int .i64 (.ofNat (q + 1))), gv6, (.int .i64 (.ofNat q)), (.agg (Rp.set (Rp.set (.cat 1 (.one (.int .i64 0)) (.one (.bool false))) 0 (.int .i64 77)) 1 (.bool true))), (.ptr b45 (q * 2))], rfl, rfl, rfl, s57, (by omega), h54⟩
      · refine wo_x (v := (.bool false)) (w_bin (cmp_lssF q ws.length (by omega))) (wo_nil (thn_n (wp_condF (wp_exit (thn_e ?_)))))
        refine lpq_e (blk_h (thn_n (wp_seq (wp_reg (wo_mv (.bool (dB (FreeW R ws))) ?_)))))
        refine wo_mv (.bool (dB (FreeW R ws))) (wo_x (v := (.bool true)) (w_bin bool_eqlS) (wo_mv (.bool true) (wo_yesT (wo_mv (.int .i64 0) (wo_yesT ?_)))))
        refine wo_mv (.int .i64 0) (wo_yesT (wo_x (v := (.bool true)) (w_lit (fun K => rfl)) (wo_x (v := (.bool true)) (w_pickT rfl rfl) (wo_mv (.bool true) (wo_nil ?_)))))
        refine thn_n (wp_ret (thn_r ?_))
        have s58 : Sat H Z34 ((PT t x (R ++ [(⟨xb18, n, xv19, ws, dB (FreeW R ws)⟩ : Tk)]) rv32 rl33) ++ ((.cells b1 [(.int .u8 (.ofNat kd)), (.int .i64 n), lv]) :: (gl_ ++ F))) := s43.perm (by exact perm_cn fun a => by (simp only [cn_PT, cn_app, cn_cons, cn_nil] <;> omega))
        have s59 : Sat H Z34 ((PT t x (R ++ [(⟨xb18, n, xv19, ws, dB (FreeW R ws)⟩ : Tk)]) rv32 rl33) ++ F) := s58.sub (List.Sublist.append_left (by first | exact List.Sublist.refl _ | (repeat first | exact List.Sublist.refl _ | apply List.Sublist.cons | exact (List.sublist_append_right _ _) | apply List.Sublist.trans _ (List.sublist_append_right _ _))) _)
        exact fin_1 (.bool true) ⟨rfl, Z34, (R ++ [(⟨xb18, n, xv19, ws, dB (FreeW R ws)⟩ : Tk)]), D31, rv32, rl33, f39, hp36, o37, s59⟩
    · have s61 : Sat H7 Z ((PT t x R rv rl) ++ ((gl8 ++ ((.cells b1 [(.int .u8 (.ofNat kd)), (.int .i64 n), lv]) :: F)))) := s12.perm (by exact perm_cn fun a => by (simp only [cn_PT, cn_app, cn_cons, cn_nil] <;> omega))
      obtain ⟨_, H62, ⟨e65, hA66, hp67, rfl, s64⟩, k63⟩ := askN_p (N := N) (d := d + 11) TK c13 (by omega) s61 hP o9 (by omega) hN
      have s68 : Sat H62 Z ((.cells b1 [(.int .u8 (.ofNat kd)), (.int .i64 n), lv]) :: ((PT t x R rv rl) ++ (gl8 ++ F))) := s64.perm (by exact perm_cn fun a => by (simp only [cn_PT, cn_app, cn_cons, cn_nil] <;> omega))
      refine wo_call k63 (wo_mv (.tup [(.bool false), (.int .i64 (.ofNat e65))]) (wo_x (v := (.bool false)) (w_lit (fun K => rfl)) (wo_x (v := (.int .i64 (.ofNat e65))) (w_lit (fun K => rfl)) (wo_mv (.bool false) (wo_mv (.int .i64 (.ofNat e65)) ?_)))))
      refine wo_nil (thn_n (wp_seq (wp_reg (wo_mv (.ptr x 0) (wo_x (v := (.ptr b1 1)) (ca_fla rfl rfl) ?_)))))
      refine wo_x (v := (.int .i64 n)) (s_ld1 s68 0 rfl) (wo_x (v := (.ptr b1 2)) (ca_fla rfl rfl) (wo_x (v := lv) (s_ld1 s68 0 rfl) ?_))
      have s72 : Sat H62 Z ((PT t x R rv rl) ++ ((.cells b1 [(.int .u8 (.ofNat kd)), (.int .i64 n), lv]) :: (gl8 ++ F))) := s68.perm (by exact perm_cn fun a => by (simp only [cn_PT, cn_app, cn_cons, cn_nil] <;> omega))
      obtain ⟨_, H69, ⟨rfl, s71⟩, k70⟩ := daskN_p (N := N) (d := d + 11) T TK TL hA66 hp67 (by omega) s72 hP hr hlv hlw hN
      have s73 : Sat H69 Z ((.cells b1 [(.int .u8 (.ofNat kd)), (.int .i64 n), lv]) :: ((PT t x R rv rl) ++ (gl8 ++ F))) := s71.perm (by exact perm_cn fun a => by (simp only [cn_PT, cn_app, cn_cons, cn_nil] <;> omega))
      refine wo_call k70 (wo_mv (.tup [(.bool false), (.int .i64 (.ofNat e65))]) (wo_x (v := (.bool false)) (w_lit (fun K => rfl)) (wo_x (v := (.int .i64 (.ofNat e65))) (w_lit (fun K => rfl)) (wo_mv (.bool false) (wo_mv (.int .i64 (.ofNat e65)) ?_)))))
      refine wo_nil (thn_n (wp_seq (wp_seq (wp_reg (wo_mv (.int .i64 0) ?_)))))
      refine wo_nil (thn_n (wp_block ?_))
      have s74 : Sat H69 Z ((.cells b1 [(.int .u8 (.ofNat kd)), (.int .i64 n), lv]) :: (gl8 ++ ((PT t x R rv rl) ++ F))) := s73.perm (by exact perm_cn fun a => by (simp only [cn_PT, cn_app, cn_cons, cn_nil] <;> omega))
      refine wp_loop (fun ms_ env ds H => ∃ (q : Nat) (L_ : List AV) (gl_ : List Hl), ∃ ys75 : List AV, ms_ = ws.length - q ∧ env = [(.agg ro), (.ptr t 0), (.ptr x 0), (.ptr b1 0), u_, u_, (.bool false), gv6, (.bool false), (.int .i64 (.ofNat e65)), (.bool false), (.int .i64 (.ofNat e65)), (.int .i64 (.ofNat q)), u_, u_, u_, u_, u_, u_, (.ptr b1 0), (.int .u8 (.ofNat kd)), (.bool true), (.ptr b1 2), lv, gv6, (.tup [(.bool false), (.int .i64 (.ofNat e65))]), (.ptr t 0), (.ptr b1 1), (.int .i64 n), gv6, (.tup [(.bool false), (.int .i64 (.ofNat e65))]), (.bool false), (.int .i64 (.ofNat e65)), (.tup [(.bool false), (.int .i64 (.ofNat e65))]), (.ptr x 0), (.ptr b1 1), (.int .i64 n), (.ptr b1 2), lv, (.tup [(.bool false), (.int .i64 (.ofNat e65))]), (.bool false), (.int .i64 (.ofNat e65)), (lget ys75 0), (lget ys75 1), (lget ys75 2), (lget ys75 3), (lget ys75 4), (lget ys75 5), (lget ys75 6), (lget ys75 7), (lget ys75 8), (lget ys75 9), u_, u_, u_, u_, u_, u_, u_, u_, u_, u_, u_, u_, u_, u_, u_, u_, u_, u_, u_, u_, u_, u_, u_, u_, u_, u_, u_, u_, u_, u_, u_, u_, u_, u_, u_, u_, u_, u_, u_, u_] ∧ ds = [] ∧ Sat H Z ((.cells b1 [(.int .u8 (.ofNat kd)), (.int .i64 n), lv]) :: (gl_ ++ ((PT t x R rv rl) ++ F))) ∧ (q ≤ ws.length) ∧ (Own 2 gv6 ws.length L_ gl_)) (ws.length - 0) (by omega) ⟨0, (wrow ws).flatten, gl8, [u_, u_, u_, u_, u_, u_, u_, u_, u_, u_], rfl, rfl, rfl, s74, (by omega), o9⟩ ?_
      rintro ms_ env ds H hms_ ⟨q, L_, gl_, ys75, rfl, rfl, rfl, s76, hq, ho_⟩
      refine wp_seq (wp_seq (wp_reg (wo_mv (.int .i64 (.ofNat q)) (wo_mv gv6 (wo_x (v := (.int .i64 (.ofNat ws.length))) (own_len ho_ rfl) ?_)))))
      by_cases c77 : q < ws.length
      · refine wo_x (v := (.bool true)) (w_bin (cmp_lssT q ws.length (by omega))) (wo_nil (thn_n (wp_condT (wp_skip (thn_n ?_)))))
        refine wp_seq (wp_block (wp_reg (wo_mv gv6 (wo_mv (.int .i64 (.ofNat q)) (wo_x (v := (.agg (Rp.set (Rp.set (.cat 1 (.one (.int .i64 0)) (.one (.bool false))) 0 (.int .i64 77)) 1 (.bool true)))) (w_build (r := (Rp.set (Rp.set (.cat 1 (.one (.int .i64 0)) (.one (.bool false))) 0 (.int .i64 77)) 1 (.bool true))) (fill_s (v := (.int .i64 77)) rfl rfl rfl (fill_s (v := (.bool true)) rfl rfl rfl fill_nil))) ?_)))))
        obtain ⟨b78, e79, g80, o81, k82⟩ := own_ix ho_ q (by omega)
        refine wo_x (v := (.ptr b78 (q * 2))) (k82 rfl rfl) ?_
        have r83 := Sat.rot (H := H) (Z := Z) (l₁ := [.cells b1 [(.int .u8 (.ofNat kd)), (.int .i64 n), lv]]) (hl := gl_) (F := (PT t x R rv rl) ++ (F)) (s76)
        obtain ⟨l84, L85, H86, h87, s88, k89⟩ := own_set2 (i := q) r83 e79 g80 o81 (((RL.cat (RL.one (.int .i64 0)) (RL.one (.bool false)) rfl).set 0 (.int .i64 77)).set 1 (.bool true)) rfl
        have s90 : Sat H86 Z ((.cells b1 [(.int .u8 (.ofNat kd)), (.int .i64 n), lv]) :: (l84 ++ ((PT t x R rv rl) ++ F))) := by have h := Sat.rot (l₁ := l84) (hl := [.cells b1 [(.int .u8 (.ofNat kd)), (.int .i64 n), lv]]) s88; exact h
        refine wo_n (k89 rfl rfl) (wo_nil (blk_n (thn_n (wp_reg (wo_mv (.int .i64 (.ofNat q)) ?_)))))
        refine wo_x (v := (.int .i64 (.ofNat (q + 1)))) (w_bin (add_i64 q 1 (by omega) _ _)) (wo_mv (.int .i64 (.ofNat (q + 1))) (wo_nil ?_))
        refine lpq_n (ws.length - (q + 1)) (by omega) ⟨(q + 1), L85, l84, [(.int .i64 (.ofNat q)), gv6, (.int .i64 (.ofNat ws.length)), (.bool true), (.int .i64 (.ofNat q)), (.int .i64 (.ofNat (q + 1))), gv6, (.int .i64 (.ofNat q)), (.agg (Rp.set (Rp.set (.cat 1 (.one (.int .i64 0)) (.one (.bool false))) 0 (.int .i64 77)) 1 (.bool true))), (.ptr b78 (q * 2))], rfl, rfl, rfl, s90, (by omega), h87⟩
      · refine wo_x (v := (.bool false)) (w_bin (cmp_lssF q ws.length (by omega))) (wo_nil (thn_n (wp_condF (wp_exit (thn_e ?_)))))
        refine lpq_e (blk_h (thn_n (wp_seq (wp_reg (wo_mv (.bool false) ?_)))))
        refine wo_mv (.bool false) (wo_x (v := (.bool true)) (w_lit (fun K => rfl)) (wo_mv (.bool true) (wo_yesT (wo_mv (.int .i64 (.ofNat e65)) (wo_yesT ?_)))))
        refine wo_mv (.int .i64 (.ofNat e65)) (wo_yesT (wo_x (v := (.bool true)) (w_bin (cmp_eqlT e65 e65 (by omega))) (wo_x (v := (.bool true)) (w_pickT rfl rfl) (wo_mv (.bool true) (wo_nil ?_)))))
        refine thn_n (wp_ret (thn_r ?_))
        have s91 : Sat H Z ((PT t x R rv rl) ++ ((.cells b1 [(.int .u8 (.ofNat kd)), (.int .i64 n), lv]) :: (gl_ ++ F))) := s76.perm (by exact perm_cn fun a => by (simp only [cn_PT, cn_app, cn_cons, cn_nil] <;> omega))
        have s92 : Sat H Z ((PT t x R rv rl) ++ F) := s91.sub (List.Sublist.append_left (by first | exact List.Sublist.refl _ | (repeat first | exact List.Sublist.refl _ | apply List.Sublist.cons | exact (List.sublist_append_right _ _) | apply List.Sublist.trans _ (List.sublist_append_right _ _))) _)
        exact fin_1 (.bool true) ⟨rfl, Z, R, D, rv, rl, (Fz.le_refl Z), hP, hr, s92⟩
  · refine wo_x (v := (.bool false)) (w_bin (cmp_eqlF kd 0 (by omega))) (wo_nil (thn_n (wp_condF (wp_skip (thn_n ?_)))))
    refine wp_seq (wp_reg (wo_mv (.ptr t 0) (wo_x (v := (.ptr b1 1)) (ca_fla rfl rfl) (wo_x (v := (.int .i64 n)) (s_ld1 s3 0 rfl) ?_))))
    by_cases c94 : ∃ j, j < R.length ∧ (tkAt R j).n = n
    · have s95 : Sat H2 Z ((PT t x R rv rl) ++ ((.cells b1 [(.int .u8 (.ofNat kd)), (.int .i64 n), lv]) :: F)) := s3.perm (by exact perm_cn fun a => by (simp only [cn_PT, cn_app, cn_cons, cn_nil] <;> omega))
      obtain ⟨ix99, h100, h101, h102⟩ := first_tk c94
      obtain ⟨_, H96, ⟨wv103, lw104, o105, rfl, s98⟩, k97⟩ := dropY_p (N := N) (d := d + 11) TK h100 h101 h102 (by omega) s95 hP hN
      have s106 : Sat H96 Z ((.cells b1 [(.int .u8 (.ofNat kd)), (.int .i64 n), lv]) :: ((PT t x (PR R ix99) rv rl) ++ (lw104 ++ F))) := s98.perm (by exact perm_cn fun a => by (simp only [cn_PT, cn_app, cn_cons, cn_nil] <;> omega))
      refine wo_call k97 (wo_mv (.tup [wv103, (.int .i64 0)]) (wo_x (v := wv103) (w_lit (fun K => rfl)) (wo_x (v := (.int .i64 0)) (w_lit (fun K => rfl)) (wo_mv wv103 (wo_mv (.int .i64 0) ?_)))))
      refine wo_nil (thn_n (wp_seq (wp_reg (wo_mv (.ptr x 0) (wo_x (v := (.ptr b1 1)) (ca_fla rfl rfl) ?_)))))
      refine wo_x (v := (.int .i64 n)) (s_ld1 s106 0 rfl) ?_
      have s110 : Sat H96 Z ((PT t x (PR R ix99) rv rl) ++ ((.cells b1 [(.int .u8 (.ofNat kd)), (.int .i64 n), lv]) :: (lw104 ++ F))) := s106.perm (by exact perm_cn fun a => by (simp only [cn_PT, cn_app, cn_cons, cn_nil] <;> omega))
      obtain ⟨_, H107, ⟨wv111, lw112, D113, rv114, rl115, Z116, l117, hp118, o119, o120, rfl, s109⟩, k108⟩ := ddropY_p (N := N) (d := d + 11) T TK TL h100 h101 h102 (by omega) s110 hP hr hN
      have f121 := hlv.mono l117
      have f122 := Fz.le_trans (Fz.le_refl Z) l117
      have hou : (OU R ix99).length ≤ 16 := by unfold OU; exact Nat.le_trans (outs_len _ _) (by rw [cut_len h100]; have := hP.sz; omega)
      have s123 : Sat H107 Z116 ((.cells b1 [(.int .u8 (.ofNat kd)), (.int .i64 n), lv]) :: ((PT t x (PR R ix99) rv114 rl115) ++ (lw112 ++ (lw104 ++ F)))) := s109.perm (by exact perm_cn fun a => by (simp only [cn_PT, cn_app, cn_cons, cn_nil] <;> omega))
      refine wo_call k108 (wo_mv (.tup [wv111, (.int .i64 0)]) (wo_x (v := wv111) (w_lit (fun K => rfl)) (wo_x (v := (.int .i64 0)) (w_lit (fun K => rfl)) (wo_mv wv111 (wo_mv (.int .i64 0) ?_)))))
      refine wo_nil (thn_n (wp_seq (wp_reg (wo_mv wv103 (wo_mv wv111 ?_)))))
      have s127 : Sat H107 Z116 (lw104 ++ ((lw112 ++ ((.cells b1 [(.int .u8 (.ofNat kd)), (.int .i64 n), lv]) :: ((PT t x (PR R ix99) rv114 rl115) ++ F))))) := s123.perm (by exact perm_cn fun a => by (simp only [cn_PT, cn_app, cn_cons, cn_nil] <;> omega))
      obtain ⟨_, H124, ⟨rfl, s126⟩, k125⟩ := same_p (N := N) (d := d + 11) T (by omega) s127 o105 o119 (by omega) hN
      have s128 : Sat H124 Z116 ((.cells b1 [(.int .u8 (.ofNat kd)), (.int .i64 n), lv]) :: (lw104 ++ (lw112 ++ ((PT t x (PR R ix99) rv114 rl115) ++ F)))) := s126.perm (by exact perm_cn fun a => by (simp only [cn_PT, cn_app, cn_cons, cn_nil] <;> omega))
      refine wo_call k125 (wo_mv (.bool true) (wo_yesT (wo_mv (.int .i64 0) (wo_yesT (wo_mv (.int .i64 0) ?_)))))
      refine wo_yesT (wo_x (v := (.bool true)) (w_lit (fun K => rfl)) (wo_x (v := (.bool true)) (w_pickT rfl rfl) (wo_mv (.bool true) (wo_nil (thn_n ?_)))))
      refine wp_seq (wp_seq (wp_reg (wo_mv (.int .i64 0) (wo_nil (thn_n ?_)))))
      refine wp_block ?_
      have s129 : Sat H124 Z116 ((.cells b1 [(.int .u8 (.ofNat kd)), (.int .i64 n), lv]) :: (lw104 ++ (lw112 ++ ((PT t x (PR R ix99) rv114 rl115) ++ F)))) := s128.perm (by exact perm_cn fun a => by (simp only [cn_PT, cn_app, cn_cons, cn_nil] <;> omega))
      refine wp_loop (fun ms_ env ds H => ∃ (q : Nat) (L_ : List AV) (gl_ : List Hl), ∃ ys130 : List AV, ms_ = (OU R ix99).length - q ∧ env = [(.agg ro), (.ptr t 0), (.ptr x 0), (.ptr b1 0), u_, u_, (.bool false), u_, u_, u_, u_, u_, u_, wv103, (.int .i64 0), wv111, (.int .i64 0), (.bool true), (.int .i64 (.ofNat q)), (.ptr b1 0), (.int .u8 (.ofNat kd)), (.bool false), u_, u_, u_, u_, u_, u_, u_, u_, u_, u_, u_, u_, u_, u_, u_, u_, u_, u_, u_, u_, u_, u_, u_, u_, u_, u_, u_, u_, u_, u_, u_, u_, u_, u_, u_, u_, u_, u_, (.tup [wv103, (.int .i64 0)]), (.ptr t 0), (.ptr b1 1), (.int .i64 n), (.tup [wv103, (.int .i64 0)]), wv103, (.int .i64 0), (.tup [wv111, (.int .i64 0)]), (.ptr x 0), (.ptr b1 1), (.int .i64 n), (.tup [wv111, (.int .i64 0)]), wv111, (.int .i64 0), wv103, wv111, (.bool true), (.bool true), (.int .i64 0), (.int .i64 0), (.bool true), (.bool true), (lget ys130 0), (lget ys130 1), (lget ys130 2), (lget ys130 3), (lget ys130 4), (lget ys130 5), (lget ys130 6), (lget ys130 7), (lget ys130 8), u_] ∧ ds = [] ∧ Sat H Z116 ((.cells b1 [(.int .u8 (.ofNat kd)), (.int .i64 n), lv]) :: (gl_ ++ (lw112 ++ ((PT t x (PR R ix99) rv114 rl115) ++ F)))) ∧ (q ≤ (OU R ix99).length) ∧ (Own 1 wv103 ((OU R ix99).length) L_ gl_)) ((OU R ix99).length - 0) (by omega) ⟨0, ((OU R ix99).map (.int .i64)), lw104, [u_, u_, u_, u_, u_, u_, u_, u_, u_], rfl, rfl, rfl, s129, (by omega), o105⟩ ?_
      rintro ms_ env ds H hms_ ⟨q, L_, gl_, ys130, rfl, rfl, rfl, s131, hq, ho_⟩
      refine wp_seq (wp_seq (wp_reg (wo_mv (.int .i64 (.ofNat q)) (wo_mv wv103 (wo_x (v := (.int .i64 (.ofNat ((OU R ix99).length)))) (own_len ho_ rfl) ?_)))))
      by_cases c132 : q < (OU R ix99).length
      · refine wo_x (v := (.bool true)) (w_bin (cmp_lssT q ((OU R ix99).length) (by omega))) (wo_nil (thn_n (wp_condT (wp_skip (thn_n ?_)))))
        refine wp_seq (wp_block (wp_reg (wo_mv wv103 (wo_mv (.int .i64 (.ofNat q)) ?_))))
        obtain ⟨b133, e134, g135, o136, k137⟩ := own_ix ho_ q (by omega)
        refine wo_x (v := (.ptr b133 (q * 1))) (k137 rfl rfl) ?_
        have r138 := Sat.rot (H := H) (Z := Z116) (l₁ := [.cells b1 [(.int .u8 (.ofNat kd)), (.int .i64 n), lv]]) (hl := gl_) (F := lw112 ++ ((PT t x (PR R ix99) rv114 rl115) ++ (F))) (s131)
        obtain ⟨l139, L140, H141, h142, s143, k144⟩ := own_set1 (i := q) (x := (.int .i64 (-7))) r138 e134 g135 o136 rfl
        have s145 : Sat H141 Z116 ((.cells b1 [(.int .u8 (.ofNat kd)), (.int .i64 n), lv]) :: (l139 ++ (lw112 ++ ((PT t x (PR R ix99) rv114 rl115) ++ F)))) := by have h := Sat.rot (l₁ := l139) (hl := [.cells b1 [(.int .u8 (.ofNat kd)), (.int .i64 n), lv]]) s143; exact h
        refine wo_n (k144 rfl rfl) (wo_nil (blk_n (thn_n (wp_reg (wo_mv (.int .i64 (.ofNat q)) ?_)))))
        refine wo_x (v := (.int .i64 (.ofNat (q + 1)))) (w_bin (add_i64 q 1 (by omega) _ _)) (wo_mv (.int .i64 (.ofNat (q + 1))) (wo_nil ?_))
        refine lpq_n ((OU R ix99).length - (q + 1)) (by omega) ⟨(q + 1), L140, l139, [(.int .i64 (.ofNat q)), wv103, (.int .i64 (.ofNat ((OU R ix99).length))), (.bool true), (.int .i64 (.ofNat q)), (.int .i64 (.ofNat (q + 1))), wv103, (.int .i64 (.ofNat q)), (.ptr b133 (q * 1))], rfl, rfl, rfl, s145, (by omega), h142⟩
      · refine wo_x (v := (.bool false)) (w_bin (cmp_lssF q ((OU R ix99).length) (by omega))) (wo_nil (thn_n (wp_condF (wp_exit (thn_e ?_)))))
        refine lpq_e (blk_h (thn_n (wp_seq (wp_reg (wo_mv (.bool true) ?_)))))
        refine wo_mv (.bool true) (wo_nil (thn_n (wp_ret ?_)))
        have s146 : Sat H Z116 ((PT t x (PR R ix99) rv114 rl115) ++ ((.cells b1 [(.int .u8 (.ofNat kd)), (.int .i64 n), lv]) :: (gl_ ++ (lw112 ++ F)))) := s131.perm (by exact perm_cn fun a => by (simp only [cn_PT, cn_app, cn_cons, cn_nil] <;> omega))
        have s147 : Sat H Z116 ((PT t x (PR R ix99) rv114 rl115) ++ F) := s146.sub (List.Sublist.append_left (by first | exact List.Sublist.refl _ | (repeat first | exact List.Sublist.refl _ | apply List.Sublist.cons | exact (List.sublist_append_right _ _) | apply List.Sublist.trans _ (List.sublist_append_right _ _))) _)
        exact fin_1 (.bool true) ⟨rfl, Z116, (PR R ix99), D113, rv114, rl115, f122, hp118, o120, s147⟩
    · have s149 : Sat H2 Z ((PT t x R rv rl) ++ ((.cells b1 [(.int .u8 (.ofNat kd)), (.int .i64 n), lv]) :: F)) := s3.perm (by exact perm_cn fun a => by (simp only [cn_PT, cn_app, cn_cons, cn_nil] <;> omega))
      obtain ⟨_, H150, ⟨rfl, s152⟩, k151⟩ := dropN_p (N := N) (d := d + 11) TK c94 (by omega) s149 hP hN
      have s153 : Sat H150 Z ((.cells b1 [(.int .u8 (.ofNat kd)), (.int .i64 n), lv]) :: ((PT t x R rv rl) ++ F)) := s152.perm (by exact perm_cn fun a => by (simp only [cn_PT, cn_app, cn_cons, cn_nil] <;> omega))
      refine wo_call k151 (wo_mv (.tup [.nils, (.int .i64 5)]) (wo_x (v := .nils) (w_lit (fun K => rfl)) (wo_x (v := (.int .i64 5)) (w_lit (fun K => rfl)) (wo_mv .nils (wo_mv (.int .i64 5) ?_)))))
      refine wo_nil (thn_n (wp_seq (wp_reg (wo_mv (.ptr x 0) (wo_x (v := (.ptr b1 1)) (ca_fla rfl rfl) ?_)))))
      refine wo_x (v := (.int .i64 n)) (s_ld1 s153 0 rfl) ?_
      have s157 : Sat H150 Z ((PT t x R rv rl) ++ ((.cells b1 [(.int .u8 (.ofNat kd)), (.int .i64 n), lv]) :: F)) := s153.perm (by exact perm_cn fun a => by (simp only [cn_PT, cn_app, cn_cons, cn_nil] <;> omega))
      obtain ⟨_, H154, ⟨rfl, s156⟩, k155⟩ := ddropN_p (N := N) (d := d + 11) T TK TL c94 (by omega) s157 hP hr hN
      have s158 : Sat H154 Z ((.cells b1 [(.int .u8 (.ofNat kd)), (.int .i64 n), lv]) :: ((PT t x R rv rl) ++ F)) := s156.perm (by exact perm_cn fun a => by (simp only [cn_PT, cn_app, cn_cons, cn_nil] <;> omega))
      refine wo_call k155 (wo_mv (.tup [.nils, (.int .i64 5)]) (wo_x (v := .nils) (w_lit (fun K => rfl)) (wo_x (v := (.int .i64 5)) (w_lit (fun K => rfl)) (wo_mv .nils (wo_mv (.int .i64 5) ?_)))))
      refine wo_nil (thn_n (wp_seq (wp_reg (wo_mv .nils (wo_mv .nils ?_)))))
      obtain ⟨_, H159, ⟨rfl, s161⟩, k160⟩ := same_p (N := N) (d := d + 11) (G := []) (la := []) (lb := []) T (by omega) s158 .nil .nil (by simp) hN
      have s162 : Sat H159 Z ((.cells b1 [(.int .u8 (.ofNat kd)), (.int .i64 n), lv]) :: ((PT t x R rv rl) ++ F)) := s161
      refine wo_call k160 (wo_mv (.bool true) (wo_yesT (wo_mv (.int .i64 5) (wo_yesT (wo_mv (.int .i64 5) ?_)))))
      refine wo_yesT (wo_x (v := (.bool true)) (w_lit (fun K => rfl)) (wo_x (v := (.bool true)) (w_pickT rfl rfl) (wo_mv (.bool true) (wo_nil (thn_n ?_)))))
      refine wp_seq (wp_seq (wp_reg (wo_mv (.int .i64 0) (wo_nil (thn_n ?_)))))
      refine wp_block ?_
      refine wp_loop (fun ms_ env ds H => ∃ ys163 : List AV, ms_ = 0 ∧ env = [(.agg ro), (.ptr t 0), (.ptr x 0), (.ptr b1 0), u_, u_, (.bool false), u_, u_, u_, u_, u_, u_, .nils, (.int .i64 5), .nils, (.int .i64 5), (.bool true), (.int .i64 0), (.ptr b1 0), (.int .u8 (.ofNat kd)), (.bool false), u_, u_, u_, u_, u_, u_, u_, u_, u_, u_, u_, u_, u_, u_, u_, u_, u_, u_, u_, u_, u_, u_, u_, u_, u_, u_, u_, u_, u_, u_, u_, u_, u_, u_, u_, u_, u_, u_, (.tup [.nils, (.int .i64 5)]), (.ptr t 0), (.ptr b1 1), (.int .i64 n), (.tup [.nils, (.int .i64 5)]), .nils, (.int .i64 5), (.tup [.nils, (.int .i64 5)]), (.ptr x 0), (.ptr b1 1), (.int .i64 n), (.tup [.nils, (.int .i64 5)]), .nils, (.int .i64 5), .nils, .nils, (.bool true), (.bool true), (.int .i64 5), (.int .i64 5), (.bool true), (.bool true), (lget ys163 0), (lget ys163 1), (lget ys163 2), (lget ys163 3), (lget ys163 4), (lget ys163 5), (lget ys163 6), (lget ys163 7), (lget ys163 8), u_] ∧ ds = [] ∧ Sat H Z ((.cells b1 [(.int .u8 (.ofNat kd)), (.int .i64 n), lv]) :: ((PT t x R rv rl) ++ F))) (0) (by omega) ⟨[u_, u_, u_, u_, u_, u_, u_, u_, u_], rfl, rfl, rfl, s162⟩ ?_
      rintro ms_ env ds H hms_ ⟨ys163, rfl, rfl, rfl, s164⟩
      refine wp_seq (wp_seq (wp_reg (wo_mv (.int .i64 0) (wo_mv .nils (wo_x (v := (.int .i64 (.ofNat 0))) (own_len (Own.nil : Own 1 .nils 0 [] []) rfl) ?_)))))
      refine wo_x (v := (.bool false)) (w_bin (cmp_lssF 0 0 (by omega))) (wo_nil (thn_n (wp_condF (wp_exit (thn_e ?_)))))
      refine lpq_e (blk_h (thn_n (wp_seq (wp_reg (wo_mv (.bool true) ?_)))))
      refine wo_mv (.bool true) (wo_nil (thn_n (wp_ret ?_)))
      have s165 : Sat H Z ((PT t x R rv rl) ++ ((.cells b1 [(.int .u8 (.ofNat kd)), (.int .i64 n), lv]) :: F)) := s164.perm (by exact perm_cn fun a => by (simp only [cn_PT, cn_app, cn_cons, cn_nil] <;> omega))
      have s166 : Sat H Z ((PT t x R rv rl) ++ F) := s165.sub (List.Sublist.append_left (by first | exact List.Sublist.refl _ | (repeat first | exact List.Sublist.refl _ | apply List.Sublist.cons | exact (List.sublist_append_right _ _) | apply List.Sublist.trans _ (List.sublist_append_right _ _))) _)
      exact fin_1 (.bool true) ⟨rfl, Z, R, D, rv, rl, (Fz.le_refl Z), hP, hr, s166⟩
end
end Go.Jt
