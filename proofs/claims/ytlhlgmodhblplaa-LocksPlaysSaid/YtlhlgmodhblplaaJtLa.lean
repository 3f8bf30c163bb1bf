/-
  locks.New, Ask. PRINTED by wip/tools/mklk2.py.
-/
import Derived.Test.YtlhlgmodhblplaaJtLk
set_option autoImplicit false
set_option linter.all false
set_option maxRecDepth 10000
set_option maxHeartbeats 8000000
namespace Go.Jt
noncomputable section
variable [Gl]
theorem Tks.mono {Z Z' : Fz} {row : List Tk} (h : Tks Z row) (hl : Z.le Z') : Tks Z' row := ⟨fun i hi => (h.fl i hi).mono hl, h.le, h.ne⟩
theorem tbl_here {t : Nat} {row : List Tk} {c : AV} {F : List Hl} : Tbl t row (.cells t [hdQ row .nilp, c] :: (rowS row .nilp ++ F)) :=
  ⟨⟨c, List.mem_cons_self⟩, fun i hi => List.mem_cons_of_mem _ (List.mem_append_left _ (row_mem hi .nilp))⟩
theorem Tbl.pre {t : Nat} {row : List Tk} {l F : List Hl} (h : Tbl t row F) : Tbl t row (l ++ F) := h.weak fun x hx => List.mem_append_right _ hx
theorem wrow_hi (ws : List Wt) (i : Nat) : win (wrow ws) 0 i = wrow (ws.take i) := by simp [win, wrow, List.map_take]
theorem fl_whi {Z : Fz} {ws : List Wt} {v : AV} (h : Fl Z 2 v (wrow ws)) (j : Nat) (hj : j ≤ ws.length) :
    ∃ v', Fl Z 2 v' (wrow (ws.take j)) ∧ ∀ {env : Env} {H : AH} {l : List Hl} {x a : Od}, Sat H Z l → ev env x = v → ev env a = .int .i64 (.ofNat j) → ∀ K : AV → AH → Bool, xop (.sll 2 x none (some a) none) env H K = K v' H := by
  have := fl_hi (by decide) h j (by rw [wrow_len]; exact hj)
  rwa [wrow_hi] at this
def DUP (ws : List Wt) (i : Nat) : Prop := ∃ j, j < (ws.take i).length ∧ decide ((wAt (ws.take i) j).1 = (wAt ws i).1) = true
theorem dup_iff {ws : List Wt} {i : Nat} (hi : i < ws.length) : DUP ws i ↔ ∃ k, k < i ∧ (wAt ws k).1 = (wAt ws i).1 := by
  have e : ∀ k, k < i → wAt (ws.take i) k = wAt ws k := by
    intro k hk
    unfold wAt
    rw [List.getD_eq_getElem?_getD, List.getD_eq_getElem?_getD, List.getElem?_take_of_lt hk]
  constructor
  · rintro ⟨j, hj, h⟩
    have hj' : j < i := by simp at hj; omega
    exact ⟨j, hj', by rw [← e j hj']; exact of_decide_eq_true h⟩
  · rintro ⟨k, hk, h⟩
    exact ⟨k, by simp; omega, decide_eq_true (by rw [e k hk]; exact h)⟩
theorem first_tk {row : List Tk} {n : Int} (h : ∃ j, j < row.length ∧ (tkAt row j).n = n) : ∃ i, i < row.length ∧ (tkAt row i).n = n ∧ ∀ j, j < i → ¬ (tkAt row j).n = n := by
  obtain ⟨i, hi, e⟩ := h
  induction i using Nat.strongRecOn with
  | ind i ih =>
    by_cases hx : ∃ j, j < i ∧ (tkAt row j).n = n
    · obtain ⟨j, hj, e2⟩ := hx
      exact ih j hj (by omega) e2
    · exact ⟨i, hi, e, fun j hj e2 => hx ⟨j, hj, e2⟩⟩
theorem tkAt_left {row : List Tk} {x : List Tk} {j : Nat} (h : j < row.length) : tkAt (row ++ x) j = tkAt row j := by
  unfold tkAt
  rw [List.getD_eq_getElem?_getD, List.getD_eq_getElem?_getD, List.getElem?_append_left h]
theorem tkAt_last (row : List Tk) (x : Tk) : tkAt (row ++ [x]) row.length = x := by simp [tkAt]
/-- nobody that stands clashes with these wants -/
def FreeW (row : List Tk) (ws : List Wt) : Prop := ∀ j, j < row.length → ¬ CC (tkAt row j).ws ws
theorem freeT_last {row : List Tk} {x : Tk} : FreeT (row ++ [x]) row.length ↔ FreeW row x.ws := by
  unfold FreeT FreeW
  rw [tkAt_last]
  exact ⟨fun h j hj => by have := h j hj; rwa [tkAt_left hj] at this, fun h j hj => by rw [tkAt_left hj]; exact h j hj⟩
theorem row_ids (row : List Tk) (t : AV) : (rowS row t).map Hl.id = idsOf row := by
  induction row with
  | nil => rfl
  | cons x xs ih => show x.b :: (rowS xs t).map Hl.id = x.b :: idsOf xs; rw [ih]
theorem row_ne {H : AH} {Z : Fz} {l F : List Hl} {row : List Tk} {tl : AV} (hs : Sat H Z (l ++ (rowS row tl ++ F))) (i j : Nat) (hi : i < row.length) (hj : j < row.length) (hij : i ≠ j) : ¬ (tkAt row i).b = (tkAt row j).b := by
  have h := hs.nd
  rw [List.map_append, List.map_append, row_ids] at h
  have h2 := (List.nodup_append.1 (List.nodup_append.1 h).2.1).1
  intro e
  rw [← ids_at hi, ← ids_at hj] at e
  have hi' : i < (idsOf row).length := by rw [ids_len]; exact hi
  have hj' : j < (idsOf row).length := by rw [ids_len]; exact hj
  simp only [List.getD_eq_getElem?_getD, List.getElem?_eq_getElem hi', List.getElem?_eq_getElem hj', Option.getD_some] at e
  have h3 := List.pairwise_iff_getElem.1 h2
  rcases Nat.lt_or_gt_of_ne hij with hlt | hlt
  · exact h3 i j hi' hj' hlt e
  · exact h3 j i hj' hi' hlt e.symm
/-- a new one behind the others -/
theorem tks_snoc {H : AH} {Z : Fz} {l F : List Hl} {row : List Tk} {x : Tk} {tl : AV} (h : Tks Z row) (hf : Fl Z 2 x.v (wrow x.ws)) (hl : x.ws.length ≤ 1000) (hs : Sat H Z (l ++ (rowS (row ++ [x]) tl ++ F))) : Tks Z (row ++ [x]) := by
  refine ⟨fun i hi => ?_, fun i hi => ?_, row_ne hs⟩
  · by_cases e : i < row.length
    · rw [tkAt_left e]; exact h.fl i e
    · have : i = row.length := by simp at hi; omega
      subst this
      rw [tkAt_last]; exact hf
  · by_cases e : i < row.length
    · rw [tkAt_left e]; exact h.le i e
    · have : i = row.length := by simp at hi; omega
      subst this
      rw [tkAt_last]; exact hl
theorem new_ok [LkN] {tbl : Nat → Option FT} (T : LkT tbl)  {N d : Nat} (hd : 1 ≤ d) {Z : Fz} {F : List Hl} {H : AH} (hs : Sat H Z (F))  :
    Ct (RUN tbl N d) (.fn (.fn (.func LkN.new)) [] []) [] H fun v H' => ∃ t, v = .ptr t 0 ∧ Sat H' Z ((.cells t [.nilp, .int .i64 (.ofNat 0)]) :: F) := by
  obtain ⟨d, rfl⟩ : ∃ e, d = e + 1 := ⟨d - 1, by omega⟩
  refine ct_code T.new (b := b_qnew) (env := [u_, u_, u_]) ?_
  unfold b_qnew
  refine wp_seq (wp_reg (wo_mv .nilp (wo_nil (thn_n (wp_seq ?_)))))
  refine wp_reg (wo_x (v := (.agg (.cat 1 (.one .nilp) (.one (.int .i64 0))))) (w_build (r := (.cat 1 (.one .nilp) (.one (.int .i64 0)))) fill_nil) ?_)
  obtain ⟨b1, H2, s3, k4⟩ := s_boxn hs (RL.cat (RL.one .nilp) (RL.one (.int .i64 0)) rfl)
  refine wo_x (v := (.ptr b1 0)) (k4 rfl) (wo_mv (.ptr b1 0) (wo_nil (thn_n (wp_ret ?_))))
  exact fin_1 (.ptr b1 0) ⟨_, rfl, s3⟩
theorem cloW_ok [LkN] {tbl : Nat → Option FT} (T : LkT tbl) {ws : List Wt} {vk : AV} {N d : Nat} (hd : 1 ≤ d) {Z : Fz} {F : List Hl} {H : AH} (hs : Sat H Z (F)) (hk : Fl Z 2 vk (wrow ws)) (hkl : ws.length ≤ 1000) :
    Ct (RUN tbl N d) (.fn (.fn (.func LkN.clo)) [] []) [vk] H fun v H' => ∃ hl, Own 2 v ws.length (wrow ws).flatten hl ∧ Sat H' Z (hl ++ F) := by
  obtain ⟨d, rfl⟩ : ∃ e, d = e + 1 := ⟨d - 1, by omega⟩
  refine ct_code T.clo (b := b_qclo) (env := [vk, u_, u_, u_, u_, u_, u_, u_]) ?_
  unfold b_qclo
  refine wp_seq (wp_reg (wo_mv .nils (wo_nil (thn_n (wp_seq ?_)))))
  refine wp_seq (wp_reg (wo_mv vk ?_))
  by_cases c1 : vk = .nils
  · refine wo_x (v := (.bool true)) (bin_nlT c1 rfl rfl) (wo_nil (thn_n (wp_condT (wp_seq (wp_reg ?_)))))
    refine wo_mv .nils (wo_nil (thn_n (wp_ret (thn_r ?_))))
    exact fin_1 .nils ⟨[], nils_w hk c1, hs⟩
  · refine wo_x (v := (.bool false)) (bin_nlF hk c1 rfl rfl) (wo_nil (thn_n (wp_condF (wp_skip (thn_n ?_)))))
    refine wp_seq (wp_reg ?_)
    obtain ⟨b2, H3, s4, k5⟩ := s_bsl hs RL.nil
    refine wo_x (v := (.slc b2 0 0 0)) (k5 fill_nil) (wo_mv vk ?_)
    have c6 := src_w s4 hk
    obtain ⟨v7, hl8, H9, h10, s11, k12⟩ := s_copy (bytes := 16) s4 c6 (by omega) (by omega)
    have s13 := Sat.rot (l₁ := hl8) (hl := []) s11
    refine wo_x (v := v7) (k12 rfl rfl) (wo_mv v7 (wo_nil (thn_n (wp_ret ?_))))
    exact fin_1 v7 ⟨_, h10, s13⟩
theorem ask1_ok [LkN] {tbl : Nat → Option FT} (T : LkT tbl) {u y : Wt} {ru : Rp AV} {bw : Nat} {N d : Nat} (hd : 1 ≤ d) {Z : Fz} {F : List Hl} {H : AH} (hs : Sat H Z ((.cells bw [(.int .i64 y.1), (.bool y.2)]) :: F)) (hu : RL ru [.int .i64 u.1, .bool u.2]) :
    Ct (RUN tbl N d) (.fn (.fn (.func LkN.ask1)) [] [(.ptr bw 0)]) [(.agg ru)] H fun v H' => v = .bool (decide (u.1 = y.1)) ∧ Sat H' Z ((.cells bw [.int .i64 y.1, .bool y.2]) :: F) := by
  obtain ⟨d, rfl⟩ : ∃ e, d = e + 1 := ⟨d - 1, by omega⟩
  refine ct_code T.ask1 (b := b_qask1) (env := [(.agg ru), (.ptr bw 0), u_, u_, u_, u_, u_, u_, u_]) ?_
  unfold b_qask1
  refine wp_seq (wp_reg ?_)
  obtain ⟨b1, H2, s3, k4⟩ := s_boxn hs hu
  refine wo_x (v := (.ptr b1 0)) (k4 rfl) (wo_mv (.bool false) (wo_nil (thn_n (wp_seq (wp_reg ?_)))))
  refine wo_x (v := (.ptr b1 0)) (ca_fla rfl rfl) (wo_x (v := (.int .i64 u.1)) (s_ld1 s3 0 rfl) (wo_x (v := (.ptr bw 0)) (ca_fla rfl rfl) (wo_x (v := (.int .i64 y.1)) (s_ld1 s3 1 rfl) ?_)))
  by_cases c5 : u.1 = y.1
  · refine wo_x (v := (.bool true)) (w_bin (cmp_eqlTz u.1 y.1 (by omega))) (wo_mv (.bool true) (wo_nil (thn_n (wp_ret ?_))))
    have s6 := s3.drop 0
    exact fin_1 (.bool true) ⟨congrArg AV.bool (decide_eq_true c5).symm, s6⟩
  · refine wo_x (v := (.bool false)) (w_bin (cmp_eqlFz u.1 y.1 (by omega))) (wo_mv (.bool false) (wo_nil (thn_n (wp_ret ?_))))
    have s7 := s3.drop 0
    exact fin_1 (.bool false) ⟨congrArg AV.bool (decide_eq_false c5).symm, s7⟩
theorem rd_lt {row : List Tk} {j : Nat} (hj : j < row.length) {env : Env} {H : AH} {a : Od} {q tl : AV} (h : ev env a = q → ∀ K : AV → AH → Bool, xop (.ld1 a) env H K = K (hdQ (row.drop j) tl) H) (ha : ev env a = q) (K : AV → AH → Bool) : xop (.ld1 a) env H K = K (.ptr (tkAt row j).b 0) H := by
  rw [h ha K, hdQ_drop, if_pos hj]
theorem rd_ge {row : List Tk} {env : Env} {H : AH} {a : Od} {q tl : AV} (h : ev env a = q → ∀ K : AV → AH → Bool, xop (.ld1 a) env H K = K (hdQ (row.drop row.length) tl) H) (ha : ev env a = q) (K : AV → AH → Bool) : xop (.ld1 a) env H K = K tl H := by
  rw [h ha K, hdQ_drop, if_neg (by omega)]
theorem nck_at {t : Nat} {row : List Tk} {j : Nat} {env : Env} {H : AH} {a : Od} (h : ev env a = atQ t row j) (K : AV → AH → Bool) : xop (.nck a) env H K = K (atQ t row j) H := by
  cases j <;> simp only [xop, h, atQ]
theorem dB_congr {p q : Prop} (h : p ↔ q) : dB p = dB q := by
  by_cases hp : p
  · rw [dB_true hp, dB_true (h.1 hp)]
  · rw [dB_false hp, dB_false fun hq => hp (h.2 hq)]
theorem ask_ok [LkN] {tbl : Nat → Option FT} (T : LkT tbl) {t : Nat} {row : List Tk} {n : Int} {ws : List Wt} {v0 : AV} {N d : Nat} (hd : 8 ≤ d) {Z : Fz} {F : List Hl} {H : AH} (hs : Sat H Z ((.cells t [(hdQ row .nilp), (.int .i64 (.ofNat row.length))]) :: ((rowS row .nilp) ++ F))) (hv0 : Fl Z 2 v0 (wrow ws)) (hW : Tks Z row) (hlr : row.length ≤ 1000) (hlw : ws.length ≤ 1000) (hN : 2000 < N) :
    Ct (RUN tbl N d) (.fn (.fn (.func LkN.ask)) [] []) [(.ptr t 0), (.int .i64 n), v0] H fun v H' => ∃ e : Nat, AskP row n ws e ∧ ((e ≠ 0 ∧ v = .tup [.bool false, .int .i64 (.ofNat e)] ∧ Sat H' Z ((.cells t [hdQ row .nilp, .int .i64 (.ofNat row.length)]) :: (rowS row .nilp ++ F))) ∨ (e = 0 ∧ ∃ xb xv Z', Z.le Z' ∧ Fl Z' 2 xv (wrow ws) ∧ v = .tup [.bool (dB (FreeW row ws)), .int .i64 0] ∧ Sat H' Z' ((.cells t [hdQ (row ++ [⟨xb, n, xv, ws, dB (FreeW row ws)⟩]) .nilp, .int .i64 (.ofNat (row.length + 1))]) :: (rowS (row ++ [⟨xb, n, xv, ws, dB (FreeW row ws)⟩]) .nilp ++ F)))) := by
  obtain ⟨d, rfl⟩ : ∃ e, d = e + 8 := ⟨d - 8, by omega⟩
  refine ct_code T.ask (b := b_qask) (env := [(.ptr t 0), (.int .i64 n), v0, u_, u_, u_, u_, u_, u_, u_, u_, u_, u_, u_, u_, u_, u_, u_, u_, u_, u_, u_, u_, u_, u_, u_, u_, u_, u_, u_, u_, u_, u_, u_, u_, u_, u_, u_, u_, u_, u_, u_, u_, u_, u_, u_, u_, u_, u_, u_, u_, u_, u_, u_, u_, u_, u_, u_, u_, u_, u_, u_, u_, u_, u_, u_, u_, u_, u_, u_, u_, u_, u_, u_, u_, u_, u_, u_, u_, u_, u_, u_, u_, u_, u_, u_, u_, u_, u_]) ?_
  unfold b_qask
  refine wp_seq (wp_reg (wo_mv (.bool false) (wo_mv (.int .i64 0) (wo_nil (thn_n ?_)))))
  refine wp_seq (wp_block (wp_seq (wp_reg (wo_mv (.ptr t 0) (wo_x (v := (.bool false)) (w_lit (fun K => rfl)) ?_)))))
  refine wo_mv (.bool false) (wo_nil (thn_n (wp_condF (wp_seq (wp_reg ?_)))))
  refine wo_mv (.int .i64 n) ?_
  by_cases c1 : n < 0
  · refine wo_x (v := (.bool true)) (w_bin (cmp_lssTz n 0 (by omega))) (wo_mv (.bool true) (wo_noT (wo_noT (wo_noT (wo_x (v := (.bool true)) (w_pickT rfl rfl) ?_)))))
    refine wo_mv (.bool true) (wo_nil (thn_n (wp_condT (wp_seq (wp_reg ?_)))))
    refine wo_mv (.bool false) (wo_mv (.int .i64 1) (wo_nil (thn_n (wp_ret (blk_r ?_)))))
    refine thn_r ?_
    exact fin_2 (.bool false) (.int .i64 1) ⟨1, .arg (by omega), .inl ⟨by decide, rfl, hs⟩⟩
  · refine wo_x (v := (.bool false)) (w_bin (cmp_lssFz n 0 (by omega))) (wo_mv (.bool false) (wo_yesF (wo_mv v0 (wo_yesF (wo_x (v := (.int .i64 (.ofNat ws.length))) (fl_len hv0 (wrow_len ws) rfl) ?_)))))
    by_cases c2 : 4 < ws.length
    · refine wo_yesF (wo_x (v := (.bool true)) (w_bin (cmp_gtrT ws.length 4 (by omega))) (wo_x (v := (.bool true)) (w_pickF rfl rfl) (wo_mv (.bool true) (wo_nil (thn_n ?_)))))
      refine wp_condT (wp_seq (wp_reg (wo_mv (.bool false) (wo_mv (.int .i64 1) (wo_nil ?_)))))
      refine thn_n (wp_ret (blk_r (thn_r ?_)))
      exact fin_2 (.bool false) (.int .i64 1) ⟨1, .arg (by omega), .inl ⟨by decide, rfl, hs⟩⟩
    · refine wo_yesF (wo_x (v := (.bool false)) (w_bin (cmp_gtrF ws.length 4 (by omega))) (wo_x (v := (.bool false)) (w_pickF rfl rfl) (wo_mv (.bool false) (wo_nil (thn_n ?_)))))
      refine wp_condF (wp_skip (blk_n (thn_n (wp_seq (wp_seq ?_)))))
      refine wp_reg (wo_mv v0 (wo_x (v := (.int .i64 (.ofNat ws.length))) (fl_len hv0 (wrow_len ws) rfl) (wo_mv (.int .i64 0) (wo_nil (thn_n ?_)))))
      refine wp_block ?_
      refine wp_loop (fun ms_ env ds H => ∃ (i : Nat), ∃ ys3 : List AV, ms_ = ws.length - i ∧ env = [(.ptr t 0), (.int .i64 n), v0, u_, u_, u_, (lget ys3 0), (lget ys3 1), (lget ys3 2), (lget ys3 3), u_, u_, (.bool false), (.ptr t 0), (.bool false), (.bool false), (.int .i64 n), (.bool false), (.bool false), v0, (.int .i64 (.ofNat ws.length)), (.bool false), (.bool false), v0, (.int .i64 (.ofNat ws.length)), (.int .i64 (.ofNat i)), (lget ys3 4), (lget ys3 5), (lget ys3 6), (lget ys3 7), (lget ys3 8), (lget ys3 9), (lget ys3 10), (lget ys3 11), (lget ys3 12), (lget ys3 13), (lget ys3 14), (lget ys3 15), (lget ys3 16), (lget ys3 17), (lget ys3 18), u_, u_, u_, u_, u_, u_, u_, u_, u_, u_, u_, u_, u_, u_, u_, u_, u_, u_, u_, u_, u_, u_, u_, u_, u_, u_, u_, u_, u_, u_, u_, u_, u_, u_, u_, u_, u_, u_, u_, u_, u_, u_, u_, u_, u_, u_, u_, u_] ∧ ds = [] ∧ Sat H Z ((.cells t [(hdQ row .nilp), (.int .i64 (.ofNat row.length))]) :: ((rowS row .nilp) ++ F)) ∧ (i ≤ ws.length) ∧ (∀ q, q < i → 1 ≤ (wAt ws q).1 ∧ ∀ k, k < q → ¬ (wAt ws k).1 = (wAt ws q).1)) (ws.length - 0) (by omega) ⟨0, [(.bool false), (.int .i64 0), u_, u_, u_, u_, u_, u_, u_, u_, u_, u_, u_, u_, u_, u_, u_, u_, u_], rfl, rfl, rfl, hs, (by omega), (fun q hq => by omega)⟩ ?_
      rintro ms_ env ds H hms_ ⟨i, ys3, rfl, rfl, rfl, s4, hi, hg⟩
      refine wp_seq (wp_reg ?_)
      by_cases c5 : i < ws.length
      · refine wo_x (v := (.bool true)) (w_bin (cmp_lssT i ws.length (by omega))) (wo_nil (thn_n (wp_seq (wp_condT (wp_skip ?_)))))
        refine thn_n (wp_seq (wp_block (wp_seq (wp_reg (wo_mv (.int .i64 (.ofNat i)) ?_)))))
        obtain ⟨b6, o7, L8, z9, g10, e11, n12, k13⟩ := fl_ix hv0 i (wrow_get (show i < ws.length by omega))
        refine wo_x (v := (.ptr b6 o7)) (k13 rfl rfl) ?_
        obtain ⟨r14, q15, k16⟩ := s_zldn s4 z9 o7 2 (hl := e11)
        rw [fl_take g10 n12 e11] at q15
        refine wo_x (v := (.agg r14)) (k16 rfl) ?_
        obtain ⟨b17, H18, s19, k20⟩ := s_alloc s4 (RL.cat (RL.one (.int .i64 0)) (RL.one (.bool false)) rfl)
        refine wo_x (v := (.ptr b17 0)) (k20) (wo_mv (.int .i64 (.ofNat i)) ?_)
        obtain ⟨H21, s22, k23⟩ := s_stn s19 q15 0 2 rfl (Nat.le_of_ble_eq_true rfl)
        refine wo_n (k23 rfl rfl) (wo_nil (thn_n (wp_seq (wp_reg (wo_x (v := (.ptr b17 0)) (ca_fla rfl rfl) ?_)))))
        refine wo_x (v := (.int .i64 ((wAt ws i).1))) (s_ld1 s22 0 rfl) ?_
        by_cases c24 : ((wAt ws i).1) < 1
        · refine wo_x (v := (.bool true)) (w_bin (cmp_lssTz ((wAt ws i).1) 1 (by omega))) (wo_mv (.bool true) (wo_noT (wo_noT (wo_noT (wo_noT ?_)))))
          refine wo_noT (wo_x (v := (.bool true)) (w_pickT rfl rfl) (wo_nil (thn_n (wp_condT (wp_seq ?_)))))
          refine wp_reg (wo_mv (.bool false) (wo_mv (.int .i64 1) (wo_nil (thn_n (wp_ret ?_)))))
          refine blk_r (thn_r (lpq_r (blk_r (thn_r ?_))))
          have s25 := s22.drop 0
          exact fin_2 (.bool false) (.int .i64 1) ⟨1, .bad (by omega) (by omega) i (by omega) (.inl c24), .inl ⟨by decide, rfl, s25⟩⟩
        · refine wo_x (v := (.bool false)) (w_bin (cmp_lssFz ((wAt ws i).1) 1 (by omega))) (wo_mv (.bool false) (wo_yesF (wo_mv v0 (wo_yesF (wo_mv (.int .i64 (.ofNat i)) ?_)))))
          refine wo_yesF ?_
          obtain ⟨v26, h27, k28⟩ := fl_whi hv0 i (by omega)
          refine wo_x (v := v26) (k28 s22 rfl rfl) (wo_yesF (wo_x (v := (.fn (.fn (.func LkN.ask1)) [] [(.ptr b17 0)])) (w_lit (fun K => rfl)) (wo_yesF ?_)))
          have l29 : (ws.take i).length ≤ 4 := by simp; omega
          obtain ⟨_, H30, ⟨rfl, s31⟩, k32⟩ := con_ok (N := N) (d := d + 7) T (p := fun j => decide ((wAt (ws.take i) j).1 = (wAt ws i).1)) (by omega) s22 h27 (by omega) (by omega) (fun j hj r hr H hs => ask1_ok T (by omega) hs hr)
          refine wo_call k32 (wo_x (v := (.bool (dB (DUP ws i)))) (w_pickF rfl rfl) (wo_nil (thn_n ?_)))
          by_cases c33 : (dB (DUP ws i)) = true
          · refine wp_condT (hc := (congrArg AV.bool c33)) (wp_seq (wp_reg (wo_mv (.bool false) (wo_mv (.int .i64 1) (wo_nil ?_)))))
            refine thn_n (wp_ret (blk_r (thn_r (lpq_r (blk_r ?_)))))
            refine thn_r ?_
            have s34 := s31.drop 0
            exact fin_2 (.bool false) (.int .i64 1) ⟨1, .bad (by omega) (by omega) i (by omega) (.inr ((dup_iff (by omega)).1 (dB_iff.1 c33))), .inl ⟨by decide, rfl, s34⟩⟩
          · refine wp_condF (hc := (congrArg AV.bool (Bool.eq_false_iff.2 c33))) (wp_skip (blk_n (thn_n (wp_reg (wo_x (v := (.int .i64 (.ofNat (i + 1)))) (w_bin (add_i64 i 1 (by omega) _ _)) ?_)))))
            refine wo_mv (.int .i64 (.ofNat (i + 1))) (wo_nil ?_)
            have s35 := s31.drop 0
            refine lpq_n (ws.length - (i + 1)) (by omega) ⟨(i + 1), [(lget ys3 0), (lget ys3 1), (.int .i64 (.ofNat i)), (.ptr b17 0), (.bool true), (.int .i64 (.ofNat i)), (.ptr b6 o7), (.agg r14), (.ptr b17 0), (.int .i64 ((wAt ws i).1)), (.bool false), (.bool false), v0, (.int .i64 (.ofNat i)), v26, (.fn (.fn (.func LkN.ask1)) [] [(.ptr b17 0)]), (.bool (dB (DUP ws i))), (.bool (dB (DUP ws i))), (.int .i64 (.ofNat (i + 1)))], rfl, rfl, rfl, s35, (by omega), (fun q hq => by by_cases e : q = i; (subst e; exact ⟨by omega, fun k hk h => c33 (dB_true ((dup_iff (by omega)).2 ⟨k, hk, h⟩))⟩); exact hg q (by omega))⟩
      · refine wo_x (v := (.bool false)) (w_bin (cmp_lssF i ws.length (by omega))) (wo_nil (thn_n (wp_seq (wp_condF (wp_exit ?_)))))
        refine thn_e (lpq_e (blk_h (thn_n (wp_seq (wp_block ?_)))))
        refine wp_seq (wp_reg (wo_mv (.ptr t 0) (wo_mv (.int .i64 n) ?_)))
        by_cases c36 : ∃ j_, j_ < row.length ∧ (tkAt row j_).n = n
        · obtain ⟨j37, h38, h39, h40⟩ := first_tk c36
          obtain ⟨_, H41, ⟨rfl, s42⟩, k43⟩ := findY_ok (N := N) (d := d + 7) T (by omega) s4 tbl_here (by omega) h38 h39 h40
          refine wo_call k43 (wo_x (v := (.bool true)) (w_lit (fun K => rfl)) (wo_mv (.bool true) (wo_nil (thn_n (wp_condT ?_)))))
          refine wp_seq (wp_reg (wo_mv (.bool false) (wo_mv (.int .i64 6) (wo_nil (thn_n ?_)))))
          refine wp_ret (blk_r (thn_r ?_))
          exact fin_2 (.bool false) (.int .i64 6) ⟨6, .twice (by omega) (by omega) (fun q hq => hg q (by omega)) j37 h38 h39, .inl ⟨by decide, rfl, s42⟩⟩
        · obtain ⟨_, H44, ⟨rfl, s45⟩, k46⟩ := findN_ok (N := N) (d := d + 7) T (by omega) s4 tbl_here (by omega) (fun j hj e => c36 ⟨j, hj, e⟩)
          refine wo_call k46 (wo_x (v := (.bool false)) (w_lit (fun K => rfl)) (wo_mv (.bool false) (wo_nil (thn_n (wp_condF ?_)))))
          refine wp_seq (wp_reg (wo_mv (.ptr t 0) (wo_x (v := (.ptr t 0)) (w_lit (fun K => rfl)) (wo_x (v := (.ptr t 1)) (ca_fla rfl rfl) (wo_x (v := (.int .i64 (.ofNat row.length))) (s_ld1 s45 0 rfl) ?_)))))
          by_cases c47 : 16 ≤ row.length
          · refine wo_x (v := (.bool true)) (w_bin (cmp_geqT row.length 16 (by omega))) (wo_mv (.bool true) (wo_nil (thn_n (wp_condT (wp_seq ?_)))))
            refine wp_reg (wo_mv (.bool false) (wo_mv (.int .i64 3) (wo_nil (thn_n (wp_ret ?_)))))
            refine blk_r (thn_r ?_)
            exact fin_2 (.bool false) (.int .i64 3) ⟨3, .full (by omega) (by omega) (fun q hq => hg q (by omega)) (fun j hj e => c36 ⟨j, hj, e⟩) (by omega), .inl ⟨by decide, rfl, s45⟩⟩
          · refine wo_x (v := (.bool false)) (w_bin (cmp_geqF row.length 16 (by omega))) (wo_mv (.bool false) (wo_nil (thn_n (wp_condF (wp_skip ?_)))))
            refine blk_n (thn_n (wp_seq (wp_reg (wo_mv (.int .i64 n) (wo_mv v0 ?_)))))
            obtain ⟨v48, H49, ⟨l50, o51, s52⟩, k53⟩ := cloW_ok T (N := N) (d := d + 7) (by omega) s45 hv0 (by omega)
            obtain ⟨Z54, l55, s56, f57, g58⟩ := own_lend (xs := wrow ws) wrow_two s52 o51 (wrow_len ws)
            have hw59 := hW.mono l55
            refine wo_call k53 (wo_x (v := (.agg (Rp.set (Rp.set (.cat 2 (.cat 1 (.one (.int .i64 0)) (.one .nils)) (.cat 1 (.one (.bool false)) (.one .nilp))) 0 (.int .i64 n)) 1 v48))) (w_build (r := (Rp.set (Rp.set (.cat 2 (.cat 1 (.one (.int .i64 0)) (.one .nils)) (.cat 1 (.one (.bool false)) (.one .nilp))) 0 (.int .i64 n)) 1 v48)) (fill_s (v := (.int .i64 n)) rfl rfl rfl (fill_s (v := v48) rfl (fl_sc f57) rfl fill_nil))) ?_)
            obtain ⟨b60, H61, s62, k63⟩ := o_boxn s56 (((RL.cat (RL.cat (RL.one (.int .i64 0)) (RL.one .nils) rfl) (RL.cat (RL.one (.bool false)) (RL.one .nilp) rfl) rfl).set 0 (.int .i64 n)).set 1 v48)
            refine wo_x (v := (.ptr b60 0)) (k63 rfl) (wo_mv (.ptr b60 0) (wo_nil (thn_n (wp_seq (wp_reg ?_)))))
            refine wo_mv (.ptr t 0) (wo_x (v := (.ptr t 0)) (w_lit (fun K => rfl)) (wo_x (v := (.ptr t 0)) (ca_fla rfl rfl) (wo_mv (.ptr t 0) (wo_nil (thn_n ?_)))))
            refine wp_seq (wp_block ?_)
            have s64 := s62.pull 1
            refine wp_loop (fun ms_ env ds H => ∃ (j : Nat), ∃ ys : List AV, ms_ = row.length + 1 - j ∧ env = [(.ptr t 0), (.int .i64 n), v0, u_, u_, u_, (lget ys3 0), (lget ys3 1), (lget ys3 2), (lget ys3 3), (.ptr b60 0), (atQ t row j), (.bool false), (.ptr t 0), (.bool false), (.bool false), (.int .i64 n), (.bool false), (.bool false), v0, (.int .i64 (.ofNat ws.length)), (.bool false), (.bool false), v0, (.int .i64 (.ofNat ws.length)), (.int .i64 (.ofNat i)), (.bool false), (lget ys3 5), (lget ys3 6), (lget ys3 7), (lget ys3 8), (lget ys3 9), (lget ys3 10), (lget ys3 11), (lget ys3 12), (lget ys3 13), (lget ys3 14), (lget ys3 15), (lget ys3 16), (lget ys3 17), (lget ys3 18), (.bool false), (.ptr t 0), (.int .i64 n), .nilp, (.bool false), (.bool false), (.ptr t 0), (.ptr t 0), (.ptr t 1), (.int .i64 (.ofNat row.length)), (.bool false), (.int .i64 n), v0, v48, (.agg (Rp.set (Rp.set (.cat 2 (.cat 1 (.one (.int .i64 0)) (.one .nils)) (.cat 1 (.one (.bool false)) (.one .nilp))) 0 (.int .i64 n)) 1 v48)), (.ptr b60 0), (.ptr t 0), (.ptr t 0), (.ptr t 0), (lget ys 0), (lget ys 1), (lget ys 2), (lget ys 3), (lget ys 4), (lget ys 5), (lget ys 6), (lget ys 7), (lget ys 8), u_, u_, u_, u_, u_, u_, u_, u_, u_, u_, u_, u_, u_, u_, u_, u_, u_, u_, u_, u_] ∧ ds = [] ∧ j ≤ row.length ∧ Sat H Z54 ((.cells t [(hdQ row .nilp), (.int .i64 (.ofNat row.length))]) :: (.loc b60 [(.int .i64 n), v48, (.bool false), .nilp]) :: ((rowS row .nilp) ++ F))) (row.length + 1 - 0) (by omega) ⟨0, [u_, u_, u_, u_, u_, u_, u_, u_, u_], rfl, rfl, rfl, by omega, s64⟩ ?_
            rintro ms_ env ds H hms_ ⟨j, ys, rfl, rfl, rfl, hj0, s65⟩
            by_cases hj : j < row.length
            · refine wp_seq (wp_seq (wp_reg (wo_mv (atQ t row j) (wo_x (v := (atQ t row j)) (nck_at rfl) (wo_x (v := (.ptr ((tkAt row j).b) 0)) (rd_lt hj (rd_at s65 (List.mem_cons_self) (fun x hx => .tail _ (.tail _ (List.mem_append_left _ hx))) (show j ≤ row.length by omega) (tl := .nilp)) rfl) ?_)))))
              refine wo_x (v := (.bool true)) (w_lit (fun K => rfl)) (wo_nil (thn_n (wp_condT (wp_skip (thn_n ?_)))))
              refine wp_block (wp_reg (wo_mv (atQ t row j) (wo_x (v := (atQ t row j)) (nck_at rfl) (wo_x (v := (.ptr ((tkAt row j).b) 0)) (rd_lt hj (rd_at s65 (List.mem_cons_self) (fun x hx => .tail _ (.tail _ (List.mem_append_left _ hx))) (show j ≤ row.length by omega) (tl := .nilp)) rfl) (wo_x (v := (.ptr ((tkAt row j).b) 0)) (w_lit (fun K => rfl)) ?_)))))
              refine wo_x (v := (.ptr ((tkAt row j).b) 3)) (ca_fla rfl rfl) (wo_mv (.ptr ((tkAt row j).b) 3) (wo_nil (blk_n ?_)))
              refine lpq_n (row.length + 1 - (j + 1)) (by omega) ⟨j + 1, [(atQ t row j), (atQ t row j), (.ptr ((tkAt row j).b) 0), (.bool true), (atQ t row j), (atQ t row j), (.ptr ((tkAt row j).b) 0), (.ptr ((tkAt row j).b) 0), (.ptr ((tkAt row j).b) 3)], rfl, rfl, rfl, by omega, s65⟩
            · obtain rfl : j = row.length := by omega
              refine wp_seq (wp_seq (wp_reg (wo_mv (atQ t row row.length) (wo_x (v := (atQ t row row.length)) (nck_at rfl) (wo_x (v := .nilp) (rd_ge (rd_at s65 (List.mem_cons_self) (fun x hx => .tail _ (.tail _ (List.mem_append_left _ hx))) (show row.length ≤ row.length by omega) (tl := .nilp)) rfl) ?_)))))
              refine wo_x (v := (.bool false)) (w_lit (fun K => rfl)) (wo_nil (thn_n (wp_condF (wp_exit (thn_e ?_)))))
              refine lpq_e (blk_h (thn_n (wp_seq (wp_reg (wo_mv (atQ t row row.length) ?_)))))
              refine wo_mv (.ptr b60 0) (wo_x (v := (atQ t row row.length)) (nck_at rfl) ?_)
              have s69 : Sat H Z54 (.cells t [hdQ row .nilp, (.int .i64 (.ofNat row.length))] :: (rowS row .nilp ++ (.loc b60 [(.int .i64 n), v48, (.bool false), .nilp] :: F))) := s65.perm (List.Perm.cons _ List.perm_middle.symm)
              obtain ⟨H66, s67, k68⟩ := link_at s69 (.ptr b60 0) rfl
              have s70 : Sat H66 Z54 (.cells t [hdQ (row ++ [⟨b60, n, v48, ws, false⟩]) .nilp, (.int .i64 (.ofNat row.length))] :: (rowS (row ++ [⟨b60, n, v48, ws, false⟩]) .nilp ++ F)) := by rw [hdQ_app, rowS_app, List.append_assoc]; exact s67
              refine wo_n (k68 rfl rfl) (wo_nil (thn_n (wp_seq (wp_reg (wo_mv (.ptr t 0) ?_)))))
              refine wo_x (v := (.ptr t 0)) (w_lit (fun K => rfl)) (wo_x (v := (.ptr t 1)) (ca_fla rfl rfl) (wo_x (v := (.int .i64 (.ofNat row.length))) (s_ld1 s70 0 rfl) (wo_x (v := (.int .i64 (.ofNat (row.length + 1)))) (w_bin (add_i64 row.length 1 (by omega) _ _)) (wo_x (v := (.ptr t 0)) (w_lit (fun K => rfl)) (wo_x (v := (.ptr t 1)) (ca_fla rfl rfl) ?_)))))
              obtain ⟨H71, s72, k73⟩ := s_st s70 1 (.int .i64 (.ofNat (row.length + 1))) (Nat.le_of_ble_eq_true rfl)
              refine wo_n (k73 rfl rfl) (wo_nil (thn_n (wp_seq (wp_reg (wo_mv (.ptr b60 0) ?_)))))
              refine wo_mv (.ptr t 0) (wo_mv (.ptr b60 0) ?_)
              have hw74 := tks_snoc (l := [_]) hw59 (x := ⟨b60, n, v48, ws, false⟩) f57 (show ws.length ≤ 1000 by omega) s72
              obtain ⟨v79, H77, ⟨e80, s76⟩, k78⟩ := lmay_ok T (N := N) (d := d + 7) (row := row ++ [⟨b60, n, v48, ws, false⟩]) (i := row.length) (t := t) (by omega) s72 tbl_here hw74 (by simp) (by simp; omega) (by omega)
              rw [tkAt_last] at k78
              rw [show dB (FreeT (row ++ [⟨b60, n, v48, ws, false⟩]) row.length) = dB (FreeW row ws) from dB_congr freeT_last] at e80
              subst e80
              refine wo_call k78 (wo_x (v := (.ptr b60 0)) (w_lit (fun K => rfl)) (wo_x (v := (.ptr b60 2)) (ca_fla rfl rfl) ?_))
              have s84 : Sat H77 Z54 ((.cells t [hdQ (row ++ [⟨b60, n, v48, ws, false⟩]) .nilp, (.int .i64 (.ofNat (row.length + 1)))] :: rowS row (.ptr b60 0)) ++ (.loc b60 [.int .i64 n, v48, .bool false, .nilp] :: F)) := by have h := s76; rw [rowS_app, List.append_assoc] at h; exact h
              obtain ⟨H81, s82, k83⟩ := o_stm (off := 2) s84 ((.bool (dB (FreeW row ws)))) (by simp) rfl
              have s85 : Sat H81 Z54 (.cells t [hdQ (row ++ [⟨b60, n, v48, ws, (dB (FreeW row ws))⟩]) .nilp, (.int .i64 (.ofNat (row.length + 1)))] :: (rowS (row ++ [⟨b60, n, v48, ws, (dB (FreeW row ws))⟩]) .nilp ++ F)) := by have h := s82; rw [hdQ_app] at h; rw [hdQ_app, rowS_app, List.append_assoc]; exact h
              refine wo_n (k83 rfl rfl) (wo_nil (thn_n (wp_seq (wp_reg (wo_mv (.ptr b60 0) ?_)))))
              refine wo_x (v := (.ptr b60 0)) (w_lit (fun K => rfl)) (wo_x (v := (.ptr b60 2)) (ca_fla rfl rfl) (wo_x (v := (.bool (dB (FreeW row ws)))) (o_ldm (v := (.bool (dB (FreeW row ws)))) s85 (List.mem_cons_of_mem _ (List.mem_append_left _ (by rw [rowS_app]; exact List.mem_append_right _ List.mem_cons_self))) rfl) (wo_mv (.bool (dB (FreeW row ws))) (wo_mv (.int .i64 0) (wo_nil ?_)))))
              refine thn_n (wp_ret ?_)
              exact fin_2 (.bool (dB (FreeW row ws))) (.int .i64 0) ⟨0, .ok (by omega) (by omega) (fun q hq => hg q (by omega)) (fun j hj e => c36 ⟨j, hj, e⟩) (by omega), .inr ⟨rfl, _, _, Z54, l55, f57, rfl, s85⟩⟩
end
end Go.Jt
