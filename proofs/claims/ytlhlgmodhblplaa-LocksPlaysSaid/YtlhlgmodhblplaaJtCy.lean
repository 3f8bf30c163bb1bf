/-
  Copies of the two tables. PRINTED by wip/tools/mkly.py.
-/
import Derived.Test.YtlhlgmodhblplaaJtCq
set_option autoImplicit false
set_option linter.all false
set_option maxRecDepth 10000
set_option maxHeartbeats 8000000
namespace Go.Jt
noncomputable section
variable [Gl]
theorem dcopy_ok [LpN] [LfN] [LkN] {tbl : Nat → Option FT} (T : LpT tbl) {x : Nat} {D : List Dk} {rv : AV} {N d : Nat} (hd : 1 ≤ d) {Z : Fz} {F : List Hl} {H : AH} (hs : Sat H Z (F)) (hx : Hl.cells x [rv] ∈ F) (hv : Fl Z 2 rv (ddr D)) (hD : DOk Z D) (hl : D.length ≤ 1000) (hN : 2000 < N) :
    Ct (RUN tbl N d) (.fn (.fn (.func LpN.dcopy)) [] []) [(.ptr x 0)] H fun v H' => ∃ y rv' rl', v = .ptr y 0 ∧ Own 2 rv' D.length (dC D) rl' ∧ Sat H' Z ((.cells y [rv']) :: (rl' ++ F)) := by
  obtain ⟨d, rfl⟩ : ∃ e, d = e + 1 := ⟨d - 1, by omega⟩
  refine ct_code T.dcopy (b := b_edcopy) (env := [(.ptr x 0), u_, u_, u_, u_, u_, u_, u_, u_, u_, u_]) ?_
  unfold b_edcopy
  refine wp_seq (wp_reg (wo_mv .nilp (wo_nil (thn_n (wp_seq ?_)))))
  refine wp_reg ?_
  obtain ⟨b1, H2, s3, k4⟩ := s_bsl hs RL.nil
  refine wo_x (v := (.slc b1 0 0 0)) (k4 fill_nil) (wo_mv (.ptr x 0) (wo_x (v := (.ptr x 0)) (w_lit (fun K => rfl)) (wo_x (v := (.ptr x 0)) (ca_fla rfl rfl) (wo_x (v := rv) (s_ldm (v := rv) s3 (.tail _ hx) rfl) ?_))))
  have c5 := src_fl s3 hv
  rw [ddr_len] at c5
  obtain ⟨v6, hl7, H8, h9, s10, k11⟩ := s_copy (bytes := 32) s3 c5 (by omega) (by omega)
  have s12 := Sat.rot (l₁ := hl7) (hl := []) s10
  refine wo_x (v := v6) (k11 rfl rfl) (wo_x (v := (.agg (Rp.set (.one .nils) 0 v6))) (w_build (r := (Rp.set (.one .nils) 0 v6)) (fill_s (v := v6) rfl (own_sc h9) rfl fill_nil)) ?_)
  obtain ⟨b13, H14, s15, k16⟩ := s_boxn s12 ((RL.one .nils).set 0 v6)
  refine wo_x (v := (.ptr b13 0)) (k16 rfl) (wo_mv (.ptr b13 0) (wo_nil (thn_n (wp_ret ?_))))
  exact fin_1 (.ptr b13 0) ⟨_, _, _, rfl, h9, s15⟩
theorem atQ_snoc {o : Nat} {NR : List Tk} {x : Tk} : atQ o (NR ++ [x]) (NR ++ [x]).length = .ptr x.b 3 := by
  rw [List.length_append]
  show AV.ptr (tkAt (NR ++ [x]) NR.length).b 3 = _
  rw [tkAt_last]
theorem copy1_ok [LpN] [LfN] [LkN] {tbl : Nat → Option FT} (T : LpT tbl) {wb bo o : Nat} {NR : List Tk} {n : Int} {va nx c : AV} {hb : Bool} {ws : List Wt} {N d : Nat} (hd : 1 ≤ d) {Z : Fz} {F : List Hl} {H : AH} (hs : Sat H Z ((.cells bo [(atQ o NR NR.length)]) :: (.cells o [(hdQ NR .nilp), c]) :: ((rowS NR .nilp) ++ F))) (hx : Hl.loc wb [.int .i64 n, va, .bool hb, nx] ∈ F) (hva : va.sc = true) :
    Ct (RUN tbl N d) (.fn (.fn (.func LpN.copy1)) [] [(.ptr bo 0)]) [(.ptr wb 0)] H fun v H' => v = .bool true ∧ ∃ xb, Sat H' Z ((.cells bo [atQ o (NR ++ [(⟨xb, n, va, ws, hb⟩ : Tk)]) (NR ++ [(⟨xb, n, va, ws, hb⟩ : Tk)]).length]) :: (.cells o [hdQ (NR ++ [(⟨xb, n, va, ws, hb⟩ : Tk)]) .nilp, c]) :: (rowS (NR ++ [(⟨xb, n, va, ws, hb⟩ : Tk)]) .nilp ++ F)) := by
  obtain ⟨d, rfl⟩ : ∃ e, d = e + 1 := ⟨d - 1, by omega⟩
  refine ct_code T.copy1 (b := b_ecopy1) (env := [(.ptr wb 0), (.ptr bo 0), u_, u_, u_, u_, u_, u_, u_, u_, u_, u_]) ?_
  unfold b_ecopy1
  refine wp_seq (wp_reg (wo_mv (.bool false) (wo_nil (thn_n (wp_seq ?_)))))
  refine wp_reg (wo_mv (.ptr wb 0) (wo_x (v := (.ptr wb 0)) (w_lit (fun K => rfl)) ?_))
  obtain ⟨r1, h2, k3⟩ := o_ldnm hs (.tail _ (.tail _ (List.mem_append_right _ hx))) rfl
  refine wo_x (v := (.agg r1)) (k3 rfl) ?_
  obtain ⟨b4, H5, s6, k7⟩ := l_alloc hs (RL.cat (RL.cat (RL.one (.int .i64 0)) (RL.one .nils) rfl) (RL.cat (RL.one (.bool false)) (RL.one .nilp) rfl) rfl)
  refine wo_x (v := (.ptr b4 0)) (k7) ?_
  obtain ⟨H8, s9, k10⟩ := o_st4 s6 h2 rfl rfl
  refine wo_n (k10 rfl rfl) (wo_nil (thn_n (wp_seq (wp_reg (wo_x (v := (.ptr b4 3)) (ca_fla rfl rfl) ?_)))))
  obtain ⟨H11, s12, k13⟩ := o_st1 (off := 3) s9 .nilp (by simp) rfl
  refine wo_n (k13 rfl rfl) (wo_nil (thn_n (wp_seq (wp_reg (wo_x (v := (atQ o NR NR.length)) (s_ld1 s12 1 rfl) ?_)))))
  refine wo_x (v := (atQ o NR NR.length)) (nck_at rfl) ?_
  obtain ⟨H14, s15, k16⟩ := link_new (nd := (⟨b4, n, va, ws, hb⟩ : Tk)) s12
  refine wo_n (k16 rfl rfl) (wo_nil (thn_n (wp_seq (wp_reg (wo_x (v := (.ptr b4 3)) (ca_fla rfl rfl) ?_)))))
  obtain ⟨H17, s18, k19⟩ := s_st s15 0 (.ptr b4 3) (Nat.le_of_ble_eq_true rfl)
  refine wo_n (k19 rfl rfl) (wo_nil (thn_n (wp_seq (wp_reg (wo_mv (.bool true) ?_)))))
  refine wo_nil (thn_n (wp_ret ?_))
  exact fin_1 (.bool true) ⟨rfl, b4, by rw [atQ_snoc]; exact s18⟩
/-- how a copy stands when j were seen -/
def CopyI (Z : Fz) (F : List Hl) (R : List Tk) (o bo : Nat) (c : AV) (j : Nat) (H : AH) : Prop :=
  ∃ NR, Cpy NR (R.take j) ∧ Sat H Z ((.cells bo [atQ o NR NR.length]) :: (.cells o [hdQ NR .nilp, c]) :: (rowS NR .nilp ++ F))
theorem copyI_rd {Z : Fz} {F : List Hl} {R : List Tk} {t o bo j : Nat} {c : AV} {H : AH} (hT : Tbl t R F) (h : CopyI Z F R o bo c j H) : Rd H t 0 (atP (idsOf R) 0) ∧ ∀ q, q < R.length → Rd H ((idsOf R).getD q 0) 3 (atP (idsOf R) (q + 1)) := by
  obtain ⟨NR, _, hs⟩ := h
  exact ⟨hT.first (l := (.cells bo [atQ o NR NR.length]) :: (.cells o [hdQ NR .nilp, c]) :: rowS NR .nilp) hs, fun q hq => hT.next (l := (.cells bo [atQ o NR NR.length]) :: (.cells o [hdQ NR .nilp, c]) :: rowS NR .nilp) hs hq⟩
theorem copy_step [LpN] [LfN] [LkN] {tbl : Nat → Option FT} (T : LpT tbl) {Z : Fz} {F : List Hl} {R : List Tk} {t o bo j N d : Nat} {c : AV} {H : AH} (hd : 1 ≤ d) (hT : Tbl t R F) (hW : Tks Z R) (hj : j < R.length) (hI : CopyI Z F R o bo c j H) :
    Ct (RUN tbl N d) (.fn (.fn (.func LpN.copy1)) [] [(.ptr bo 0)]) [.ptr (tkAt R j).b 0] H fun v H' => v = .bool true ∧ CopyI Z F R o bo c (j + 1) H' := by
  obtain ⟨NR, hc, hs⟩ := hI
  exact (copy1_ok T (N := N) (ws := (tkAt R j).ws) hd hs (hT.tk j hj) (fl_sc (hW.fl j hj))).imp fun v H' ⟨ev, xb, s⟩ => ⟨ev, _, hc.snoc hj, s⟩
theorem copy_ok [LpN] [LfN] [LkN] {tbl : Nat → Option FT} (T : LpT tbl) (TK : LkT tbl) {t : Nat} {R : List Tk} {N d : Nat} (hd : 4 ≤ d) {Z : Fz} {F : List Hl} {H : AH} (hs : Sat H Z (F)) (ht : Hl.cells t [hdQ R .nilp, .int .i64 (.ofNat R.length)] ∈ F) (hT : Tbl t R F) (hW : Tks Z R) (hR : R.length ≤ 1000) (hN : 2000 < N) :
    Ct (RUN tbl N d) (.fn (.fn (.func LpN.copy)) [] []) [(.ptr t 0)] H fun v H' => ∃ o NR, v = .ptr o 0 ∧ Cpy NR R ∧ Sat H' Z ((.cells o [hdQ NR .nilp, .int .i64 (.ofNat R.length)]) :: (rowS NR .nilp ++ F)) := by
  obtain ⟨d, rfl⟩ : ∃ e, d = e + 4 := ⟨d - 4, by omega⟩
  refine ct_code T.copy (b := b_ecopy) (env := [(.ptr t 0), u_, u_, u_, u_, u_, u_, u_, u_, u_, u_, u_, u_, u_, u_, u_, u_, u_, u_, u_]) ?_
  unfold b_ecopy
  refine wp_seq (wp_reg (wo_mv .nilp (wo_nil (thn_n (wp_seq ?_)))))
  refine wp_seq (wp_reg (wo_mv (.ptr t 0) (wo_x (v := (.bool false)) (w_lit (fun K => rfl)) (wo_nil (thn_n ?_)))))
  refine wp_condF (wp_skip (thn_n (wp_seq (wp_reg (wo_mv (.ptr t 0) ?_)))))
  refine wo_x (v := (.ptr t 0)) (w_lit (fun K => rfl)) (wo_x (v := (.ptr t 1)) (ca_fla rfl rfl) (wo_x (v := (.int .i64 (.ofNat R.length))) (s_ldm (v := .int .i64 (.ofNat R.length)) hs ht rfl) (wo_x (v := (.agg (Rp.set (.cat 1 (.one .nilp) (.one (.int .i64 0))) 1 (.int .i64 (.ofNat R.length))))) (w_build (r := (Rp.set (.cat 1 (.one .nilp) (.one (.int .i64 0))) 1 (.int .i64 (.ofNat R.length)))) (fill_s (v := (.int .i64 (.ofNat R.length))) rfl rfl rfl fill_nil)) ?_)))
  obtain ⟨b1, H2, s3, k4⟩ := s_boxn hs ((RL.cat (RL.one .nilp) (RL.one (.int .i64 0)) rfl).set 1 (.int .i64 (.ofNat R.length)))
  refine wo_x (v := (.ptr b1 0)) (k4 rfl) (wo_mv (.ptr b1 0) (wo_nil (thn_n (wp_seq (wp_reg ?_)))))
  refine wo_mv (.ptr b1 0) (wo_x (v := (.ptr b1 0)) (w_lit (fun K => rfl)) (wo_x (v := (.ptr b1 0)) (ca_fla rfl rfl) ?_))
  obtain ⟨b5, H6, s7, k8⟩ := s_alloc s3 (RL.one .nilp)
  refine wo_x (v := (.ptr b5 0)) (k8) ?_
  obtain ⟨H9, s10, k11⟩ := s_st s7 0 (.ptr b1 0) (Nat.le_of_ble_eq_true rfl)
  refine wo_n (k11 rfl rfl) (wo_nil (thn_n (wp_seq (wp_reg (wo_mv (.ptr t 0) ?_)))))
  refine wo_x (v := (.fn (.fn (.func LpN.copy1)) [] [(.ptr b5 0)])) (w_lit (fun K => rfl)) ?_
  obtain ⟨_, H12, ⟨rfl, h13⟩, k14⟩ := each_ok TK (N := N) (d := d + 3) (t := t) (ids := idsOf R) (Inv := CopyI Z F R b1 b5 (.int .i64 (.ofNat R.length))) (Stop := fun _ => False) (by omega) s10 ⟨[], Cpy.nil R, s10⟩ (by rw [ids_len]; omega) (fun H h => (copyI_rd hT h).1) (fun q H hq h => by rw [ids_len] at hq; exact (copyI_rd hT h).2 q hq) (fun q H hq h => by rw [ids_len] at hq; rw [ids_at hq]; exact (copy_step T (by omega) hT hW hq h).imp fun v H' ⟨ev, hh⟩ => ⟨true, ev, fun _ => hh, fun e => by cases e⟩)
  obtain ⟨NR15, c16, s17⟩ := h13.resolve_right (fun h => h)
  rw [ids_len, List.take_of_length_le (Nat.le_refl _)] at c16
  refine wo_call k14 (wo_nil (thn_n (wp_seq (wp_reg (wo_mv (.ptr b1 0) ?_)))))
  refine wo_mv (.ptr b1 0) (wo_nil (thn_n (wp_ret ?_)))
  have s19 := s17.drop 0
  exact fin_1 (.ptr b1 0) ⟨_, NR15, rfl, c16, s19⟩
end
end Go.Jt
