/-
  node.Join. PRINTED by wip/tools/mkhj.py.
-/
import Derived.Test.YtehjgplolaekmaaJtHw
import Derived.Test.YtehjgplolaekmaaJtHp
import Derived.Test.YtehjgplolaekmaaJtNe
set_option autoImplicit false
set_option linter.all false
set_option maxRecDepth 10000
set_option maxHeartbeats 8000000
namespace Go.Jt
noncomputable section
variable [Gl]
theorem joinL_ok [HvN] [NdN] [BkN] {tbl : Nat → Option FT} (T : HvT tbl) (TB : BkT tbl) (TD : NdT tbl) {ka va kb vb : List (List Nat)} {pa pb : List PtrM} {vka vva vpa vkb vvb vpb : AV} {ra rb : Rp AV} {s : List Nat} {N d : Nat} (hd : 10 ≤ d) {Z : Fz} {F : List Hl} {H : AH} (hs : Sat H Z (F)) (hra : RL ra [.bool true, vka, vva, vpa]) (hka : Fl Z 1 vka (strs ka)) (hva : Fl Z 1 vva (strs va)) (hpa : Fl Z 3 vpa (ptrs pa)) (ma : SmallN N ka va pa) (Fa : FormN true ka va pa) (hrb : RL rb [.bool true, vkb, vvb, vpb]) (hkb : Fl Z 1 vkb (strs kb)) (hvb : Fl Z 1 vvb (strs vb)) (hpb : Fl Z 3 vpb (ptrs pb)) (mb : SmallN N kb vb pb) (Fb : FormN true kb vb pb) (hs0 : KeyOk s) (hsl : s.length ≤ 1000) (hal : 0 < ka.length → slt (txt ka (ka.length - 1)) s = true) (hbl : 0 < kb.length → slt (txt kb 0) s = false) (bnd : ka.length ≤ 1000000000 ∧ va.length ≤ 1000000000 ∧ pa.length ≤ 1000000000 ∧ kb.length ≤ 1000000000 ∧ vb.length ≤ 1000000000 ∧ pb.length ≤ 1000000000) (hN4 : 4 < N) :
    Ct (RUN tbl N d) (.fn (.fn (.func HvN.join)) [] []) [(.agg ra), (.str s), (.agg rb)] H fun v H' => ∃ q wk wv wp hk hv hp, v = .tup [.agg q, .int .i64 0] ∧ RL q [.bool true, wk, wv, wp] ∧ OwnN true (ka ++ ([] ++ kb)) (va ++ vb) (pa ++ pb) wk wv wp hk hv hp ∧ Sat H' Z (hp ++ (hv ++ (hk ++ F))) := by
  obtain ⟨d, rfl⟩ : ∃ e, d = e + 10 := ⟨d - 10, by omega⟩
  obtain ⟨b1_, b2_, b3_, b4_, b5_, b6_⟩ := bnd
  have hN3 := ma.n
  refine ct_code T.join (b := b_vjoin) (env := [(.agg ra), (.str s), (.agg rb), u_, u_, u_, u_, u_, u_, u_, u_, u_, u_, u_, u_, u_, u_, u_, u_, u_, u_, u_, u_, u_, u_, u_, u_, u_, u_, u_, u_, u_, u_, u_, u_, u_, u_, u_, u_, u_, u_, u_, u_, u_, u_, u_, u_, u_, u_, u_, u_, u_, u_, u_, u_, u_, u_, u_, u_, u_, u_, u_, u_, u_, u_, u_, u_, u_, u_, u_, u_, u_, u_, u_, u_, u_, u_, u_, u_, u_, u_, u_, u_, u_, u_, u_, u_, u_, u_, u_, u_, u_, u_, u_, u_, u_, u_, u_, u_, u_, u_, u_, u_]) ?_
  unfold b_vjoin
  refine wp_seq (wp_reg ?_)
  obtain ⟨b1, H2, s3, k4⟩ := s_boxn hs hra
  refine wo_x (v := (.ptr b1 0)) (k4 rfl) ?_
  obtain ⟨b5, H6, s7, k8⟩ := s_boxn s3 hrb
  refine wo_x (v := (.ptr b5 0)) (k8 rfl) ?_
  obtain ⟨b9, H10, s11, k12⟩ := s_alloc s7 (RL.cat (RL.one (.bool false)) (RL.rep 3 .nils) rfl)
  refine wo_x (v := (.ptr b9 0)) (k12) (wo_mv (.int .i64 0) (wo_nil (thn_n (wp_seq (wp_block ?_)))))
  refine wp_seq (wp_reg ?_)
  obtain ⟨r13, q14, k15⟩ := s_ldn s11 2 0 4 
  refine wo_x (v := (.agg r13)) (k15 rfl) ?_
  obtain ⟨v16, H18, ⟨e17, s19⟩, k20⟩ := form_ok (N := N) (d := d + 9) TD (ks := ka) (vs := va) (ps := pa) TB (by omega) s11 q14 hka hva hpa ma.k ma.v ma.p ma.k' ma.v' ma.p' ma.q
  rw [dB_true Fa] at e17
  subst e17
  refine wo_call k20 (wo_x (v := (.bool false)) (w_lit (fun K => rfl)) (wo_mv (.bool false) (wo_yesF ?_)))
  obtain ⟨r21, q22, k23⟩ := s_ldn s19 1 0 4 
  refine wo_x (v := (.agg r21)) (k23 rfl) (wo_yesF ?_)
  obtain ⟨v24, H26, ⟨e25, s27⟩, k28⟩ := form_ok (N := N) (d := d + 9) TD (ks := kb) (vs := vb) (ps := pb) TB (by omega) s19 q22 hkb hvb hpb mb.k mb.v mb.p mb.k' mb.v' mb.p' mb.q
  rw [dB_true Fb] at e25
  subst e25
  refine wo_call k28 (wo_yesF (wo_x (v := (.bool false)) (w_lit (fun K => rfl)) (wo_x (v := (.bool false)) (w_pickF rfl rfl) (wo_mv (.bool false) (wo_yesF ?_)))))
  refine wo_x (v := (.ptr b1 0)) (ca_fla rfl rfl) (wo_yesF (wo_x (v := (.bool true)) (s_ld1 s27 2 rfl) (wo_yesF (wo_x (v := (.ptr b5 0)) (ca_fla rfl rfl) (wo_yesF ?_)))))
  refine wo_x (v := (.bool true)) (s_ld1 s27 1 rfl) (wo_yesF (wo_x (v := (.bool false)) (w_lit (fun K => rfl)) (wo_x (v := (.bool false)) (w_pickF rfl rfl) (wo_mv (.bool false) (wo_yesF ?_)))))
  refine wo_mv (.str s) (wo_yesF ?_)
  obtain ⟨v29, H31, ⟨e30, s32⟩, k33⟩ := key_ok (N := N) (d := d + 9) TD (s := s) (by omega) s27
  rw [dB_true hs0] at e30
  subst e30
  refine wo_call k33 (wo_yesF (wo_x (v := (.bool false)) (w_lit (fun K => rfl)) (wo_x (v := (.bool false)) (w_pickF rfl rfl) (wo_mv (.bool false) (wo_nil ?_)))))
  refine thn_n (wp_condF (wp_seq (wp_reg (wo_x (v := (.ptr b1 1)) (ca_fla rfl rfl) (wo_x (v := vka) (s_ld1 s32 2 rfl) ?_)))))
  refine wo_x (v := (.int .i64 (.ofNat ka.length))) (fl_len hka (strs_len ka) rfl) ?_
  by_cases c34 : 0 < ka.length
  · refine wo_x (v := (.bool true)) (w_bin (cmp_gtrT ka.length 0 (by omega))) (wo_mv (.bool true) (wo_yesT (wo_x (v := (.ptr b1 1)) (ca_fla rfl rfl) (wo_yesT (wo_x (v := vka) (s_ld1 s32 2 rfl) ?_)))))
    refine wo_yesT (wo_x (v := (.ptr b1 1)) (ca_fla rfl rfl) (wo_yesT (wo_x (v := vka) (s_ld1 s32 2 rfl) (wo_yesT (wo_x (v := (.int .i64 (.ofNat ka.length))) (fl_len hka (strs_len ka) rfl) ?_)))))
    refine wo_yesT (wo_x (v := (.int .i64 (.ofNat (ka.length - 1)))) (w_bin (sub_i64 ka.length 1 (by omega) (by omega))) (wo_yesT ?_))
    obtain ⟨b35, o36, L37, z38, g39, e40, n41, k42⟩ := fl_ix hka (ka.length - 1) (strs_get (show ka.length - 1 < ka.length by omega))
    refine wo_x (v := (.ptr b35 o36)) (k42 rfl rfl) (wo_yesT (wo_x (v := (.str (txt ka (ka.length - 1)))) (s_zld1 s32 z38 (g39 0 _ rfl)) (wo_yesT (wo_mv (.str s) (wo_yesT ?_)))))
    refine wo_x (v := (.bool false)) (w_bin (fun K => (str_geq (txt ka (ka.length - 1)) s K).trans (congrArg (fun z => K (.bool (!z))) (hal (by omega))))) (wo_x (v := (.bool false)) (w_pickT rfl rfl) (wo_mv (.bool false) (wo_nil (thn_n (wp_condF ?_)))))
    refine wp_seq (wp_reg (wo_x (v := (.ptr b5 1)) (ca_fla rfl rfl) (wo_x (v := vkb) (s_ld1 s32 1 rfl) (wo_x (v := (.int .i64 (.ofNat kb.length))) (fl_len hkb (strs_len kb) rfl) ?_))))
    by_cases c43 : 0 < kb.length
    · refine wo_x (v := (.bool true)) (w_bin (cmp_gtrT kb.length 0 (by omega))) (wo_mv (.bool true) (wo_yesT (wo_x (v := (.ptr b5 1)) (ca_fla rfl rfl) (wo_yesT (wo_x (v := vkb) (s_ld1 s32 1 rfl) ?_)))))
      refine wo_yesT ?_
      obtain ⟨b44, o45, L46, z47, g48, e49, n50, k51⟩ := fl_ix hkb 0 (strs_get (show 0 < kb.length by omega))
      refine wo_x (v := (.ptr b44 o45)) (k51 rfl rfl) (wo_yesT (wo_x (v := (.str (txt kb 0))) (s_zld1 s32 z47 (g48 0 _ rfl)) (wo_yesT (wo_mv (.str s) (wo_yesT ?_)))))
      refine wo_x (v := (.bool false)) (w_bin (fun K => (str_lss (txt kb 0) s K).trans (congrArg (fun z => K (.bool z)) (Bool.eq_false_iff.2 (fun h => by rw [hbl (by omega)] at h; cases h))))) (wo_yesT (wo_mv (.bool false) (wo_yesF (wo_x (v := (.ptr b5 1)) (ca_fla rfl rfl) (wo_yesF ?_)))))
      refine wo_x (v := vkb) (s_ld1 s32 1 rfl) (wo_yesF ?_)
      obtain ⟨b52, o53, L54, z55, g56, e57, n58, k59⟩ := fl_ix hkb 0 (strs_get (show 0 < kb.length by omega))
      refine wo_x (v := (.ptr b52 o53)) (k59 rfl rfl) (wo_yesF (wo_x (v := (.str (txt kb 0))) (s_zld1 s32 z55 (g56 0 _ rfl)) (wo_yesF (wo_mv (.str s) ?_))))
      by_cases c60 : txt kb 0 = s
      · refine wo_yesF (wo_x (v := (.bool true)) (w_bin (str_eqlT c60)) (wo_yesF (wo_mv (.bool true) (wo_yesT (wo_x (v := (.ptr b5 0)) (ca_fla rfl rfl) ?_)))))
        refine wo_yesT (wo_x (v := (.bool true)) (s_ld1 s32 1 rfl) (wo_yesT (wo_x (v := (.bool false)) (w_lit (fun K => rfl)) (wo_yesF (wo_x (v := (.bool false)) (w_pickT rfl rfl) ?_)))))
        refine wo_yesT (wo_x (v := (.bool false)) (w_pickF rfl rfl) (wo_x (v := (.bool false)) (w_pickT rfl rfl) (wo_mv (.bool false) (wo_nil (thn_n ?_)))))
        refine wp_condF (wp_skip (blk_n (thn_n (wp_seq (wp_reg ?_)))))
        refine wo_mv .nils (wo_nil (thn_n (wp_seq (wp_seq (wp_reg ?_)))))
        refine wo_x (v := (.ptr b1 0)) (ca_fla rfl rfl) (wo_x (v := (.bool true)) (s_ld1 s32 2 rfl) (wo_x (v := (.bool false)) (w_lit (fun K => rfl)) (wo_nil (thn_n (wp_condF ?_)))))
        refine wp_skip (thn_n (wp_seq (wp_dreg (wd_run (wo_x (v := (.ptr b1 0)) (ca_fla rfl rfl) ?_)))))
        refine wo_nil (wd_run (wo_x (v := (.bool true)) (s_ld1 s32 2 rfl) (wo_nil (wd_run (wo_x (v := (.ptr b1 1)) (ca_fla rfl rfl) ?_)))))
        refine wo_nil (wd_run (wo_x (v := vka) (s_ld1 s32 2 rfl) (wo_nil (wd_run (wo_mv .nils ?_)))))
        refine wo_nil (wd_run (wo_x (v := (.ptr b5 1)) (ca_fla rfl rfl) (wo_nil (wd_run (wo_x (v := vkb) (s_ld1 s32 1 rfl) ?_)))))
        refine wo_nil (wd_run ?_)
        obtain ⟨b61, H62, s63, k64⟩ := s_bsl s32 ((((RL.rep 3 .nils).set 0 vka).set 1 .nils).set 2 vkb)
        refine wo_x (v := (.slc b61 0 3 3)) (k64 (fill_s (v := vka) rfl (fl_sc hka) rfl (fill_s (v := .nils) rfl rfl rfl (fill_s (v := vkb) rfl (fl_sc hkb) rfl fill_nil)))) (wo_nil (wd_run (wo_x (v := (.ptr b1 2)) (ca_fla rfl rfl) (wo_nil (wd_run ?_)))))
        refine wo_x (v := vva) (s_ld1 s63 3 rfl) (wo_nil (wd_run (wo_x (v := (.ptr b5 2)) (ca_fla rfl rfl) (wo_nil (wd_run ?_)))))
        refine wo_x (v := vvb) (s_ld1 s63 2 rfl) (wo_nil (wd_run ?_))
        obtain ⟨b65, H66, s67, k68⟩ := s_bsl s63 (((RL.rep 2 .nils).set 0 vva).set 1 vvb)
        refine wo_x (v := (.slc b65 0 2 2)) (k68 (fill_s (v := vva) rfl (fl_sc hva) rfl (fill_s (v := vvb) rfl (fl_sc hvb) rfl fill_nil))) (wo_nil (wd_run (wo_x (v := (.ptr b1 3)) (ca_fla rfl rfl) (wo_nil (wd_run ?_)))))
        refine wo_x (v := vpa) (s_ld1 s67 4 rfl) (wo_nil (wd_run (wo_x (v := (.ptr b5 3)) (ca_fla rfl rfl) (wo_nil (wd_run ?_)))))
        refine wo_x (v := vpb) (s_ld1 s67 3 rfl) (wo_nil (wd_run ?_))
        obtain ⟨b69, H70, s71, k72⟩ := s_bsl s67 (((RL.rep 2 .nils).set 0 vpa).set 1 vpb)
        refine wo_x (v := (.slc b69 0 2 2)) (k72 (fill_s (v := vpa) rfl (fl_sc hpa) rfl (fill_s (v := vpb) rfl (fl_sc hpb) rfl fill_nil))) (wo_nil (wd_nil (ws_cons ?_)))
        have s73 := s71.pull 2
        obtain ⟨v79, H80, ⟨l81, o82, s83⟩, k84⟩ := conS3_ok T (N := N) (d := d + 9) (kx1 := ka) (kx2 := []) (kx3 := kb) (by omega) s73 hka (by first | omega | (simp; done) | (simp; omega)) .nil (by first | omega | (simp; done) | (simp; omega)) hkb (by first | omega | (simp; done) | (simp; omega)) (by omega)
        have s85 : Sat H80 Z ((.cells b69 [vpa, vpb]) :: (.cells b65 [vva, vvb]) :: (.cells b9 [(.bool false), .nils, .nils, .nils]) :: (.cells b5 [(.bool true), vkb, vvb, vpb]) :: (.cells b1 [(.bool true), vka, vva, vpa]) :: (l81 ++ F)) := Sat.rot (l₁ := l81) (hl := [.cells b69 [vpa, vpb], .cells b65 [vva, vvb], .cells b9 [(.bool false), .nils, .nils, .nils], .cells b5 [(.bool true), vkb, vvb, vpb], .cells b1 [(.bool true), vka, vva, vpa]]) s83
        refine wo_call k84 (wo_nil (wd_again (v := (.bool true)) (hs := same_bool) (s_ld1 s85 4 rfl) (wd_again (v := vva) (hs := fl_same hva) (s_ld1 s85 4 rfl) (wd_again (v := vvb) (hs := fl_same hvb) (s_ld1 s85 3 rfl) (wd_again (v := vpa) (hs := fl_same hpa) (s_ld1 s85 4 rfl) ?_)))))
        refine wd_again (v := vpb) (hs := fl_same hpb) (s_ld1 s85 3 rfl) (wd_nil (ws_cons ?_))
        have s86 := s85.pull 1
        obtain ⟨v92, H93, ⟨l94, o95, s96⟩, k97⟩ := conS2_ok T (N := N) (d := d + 9) (kx1 := va) (kx2 := vb) (by omega) s86 hva (by first | omega | (simp; done) | (simp; omega)) hvb (by first | omega | (simp; done) | (simp; omega)) (by omega)
        have s98 : Sat H93 Z ((.cells b69 [vpa, vpb]) :: (.cells b9 [(.bool false), .nils, .nils, .nils]) :: (.cells b5 [(.bool true), vkb, vvb, vpb]) :: (.cells b1 [(.bool true), vka, vva, vpa]) :: (l94 ++ (l81 ++ F))) := Sat.rot (l₁ := l94) (hl := [.cells b69 [vpa, vpb], .cells b9 [(.bool false), .nils, .nils, .nils], .cells b5 [(.bool true), vkb, vvb, vpb], .cells b1 [(.bool true), vka, vva, vpa]]) s96
        refine wo_call k97 (wo_nil (wd_again (v := (.bool true)) (hs := same_bool) (s_ld1 s98 3 rfl) (wd_again (v := vpa) (hs := fl_same hpa) (s_ld1 s98 3 rfl) (wd_again (v := vpb) (hs := fl_same hpb) (s_ld1 s98 2 rfl) (wd_nil ?_)))))
        refine ws_cons ?_
        obtain ⟨v104, H105, ⟨l106, o107, s108⟩, k109⟩ := conP2_ok T (N := N) (d := d + 9) (kx1 := pa) (kx2 := pb) (by omega) s98 hpa (by first | omega | (simp; done) | (simp; omega)) hpb (by first | omega | (simp; done) | (simp; omega)) (by omega)
        have s110 : Sat H105 Z ((.cells b9 [(.bool false), .nils, .nils, .nils]) :: (.cells b5 [(.bool true), vkb, vvb, vpb]) :: (.cells b1 [(.bool true), vka, vva, vpa]) :: (l106 ++ (l94 ++ (l81 ++ F)))) := Sat.rot (l₁ := l106) (hl := [.cells b9 [(.bool false), .nils, .nils, .nils], .cells b5 [(.bool true), vkb, vvb, vpb], .cells b1 [(.bool true), vka, vva, vpa]]) s108
        refine wo_call k109 (wo_nil (wd_again (v := (.bool true)) (hs := same_bool) (s_ld1 s110 2 rfl) (wd_run (wo_x (v := (.agg (Rp.set (Rp.set (Rp.set (Rp.set (.cat 1 (.one (.bool false)) (.rep 3 .nils)) 0 (.bool true)) 1 v79) 2 v92) 3 v104))) (w_build (r := (Rp.set (Rp.set (Rp.set (Rp.set (.cat 1 (.one (.bool false)) (.rep 3 .nils)) 0 (.bool true)) 1 v79) 2 v92) 3 v104)) (fill_s (v := (.bool true)) rfl rfl rfl (fill_s (v := v79) rfl (own_sc o82) rfl (fill_s (v := v92) rfl (own_sc o95) rfl (fill_s (v := v104) rfl (own_sc o107) rfl fill_nil))))) (wo_nil ?_)))))
        refine wd_nil (ws_cons ?_)
        obtain ⟨H111, s112, k113⟩ := s_stn s110 (((((RL.cat (RL.one (.bool false)) (RL.rep 3 .nils) rfl).set 0 (.bool true)).set 1 v79).set 2 v92).set 3 v104) 0 4 rfl (Nat.le_of_ble_eq_true rfl)
        refine wo_n (k113 rfl rfl) (wo_nil (wd_run (wo_mv (.int .i64 0) (wo_nil (wd_nil ?_)))))
        refine ws_nil (thn_n (wp_ret ?_))
        refine fin_ct (w := (.int .i64 0)) (off := 0) s112 0 fun r114 q115 => ?_
        have s116 := s112.drop 0
        have s117 := s116.drop 0
        have s118 := s117.drop 0
        exact ⟨_, _, _, _, _, _, _, rfl, q115, ⟨o82, o95, o107⟩, s118⟩
      · refine wo_yesF (wo_x (v := (.bool false)) (w_bin (str_eqlF c60)) (wo_yesF (wo_mv (.bool false) (wo_noF (wo_noF ?_)))))
        refine wo_noF (wo_yesF (wo_x (v := (.bool false)) (w_pickF rfl rfl) (wo_yesT (wo_x (v := (.bool false)) (w_pickF rfl rfl) (wo_x (v := (.bool false)) (w_pickT rfl rfl) ?_)))))
        refine wo_mv (.bool false) (wo_nil (thn_n (wp_condF (wp_skip (blk_n ?_)))))
        refine thn_n (wp_seq (wp_reg (wo_mv .nils (wo_nil (thn_n ?_)))))
        refine wp_seq (wp_seq (wp_reg (wo_x (v := (.ptr b1 0)) (ca_fla rfl rfl) (wo_x (v := (.bool true)) (s_ld1 s32 2 rfl) (wo_x (v := (.bool false)) (w_lit (fun K => rfl)) ?_)))))
        refine wo_nil (thn_n (wp_condF (wp_skip (thn_n (wp_seq ?_)))))
        refine wp_dreg (wd_run (wo_x (v := (.ptr b1 0)) (ca_fla rfl rfl) (wo_nil (wd_run (wo_x (v := (.bool true)) (s_ld1 s32 2 rfl) ?_)))))
        refine wo_nil (wd_run (wo_x (v := (.ptr b1 1)) (ca_fla rfl rfl) (wo_nil (wd_run (wo_x (v := vka) (s_ld1 s32 2 rfl) ?_)))))
        refine wo_nil (wd_run (wo_mv .nils (wo_nil (wd_run (wo_x (v := (.ptr b5 1)) (ca_fla rfl rfl) ?_)))))
        refine wo_nil (wd_run (wo_x (v := vkb) (s_ld1 s32 1 rfl) (wo_nil (wd_run ?_))))
        obtain ⟨b119, H120, s121, k122⟩ := s_bsl s32 ((((RL.rep 3 .nils).set 0 vka).set 1 .nils).set 2 vkb)
        refine wo_x (v := (.slc b119 0 3 3)) (k122 (fill_s (v := vka) rfl (fl_sc hka) rfl (fill_s (v := .nils) rfl rfl rfl (fill_s (v := vkb) rfl (fl_sc hkb) rfl fill_nil)))) (wo_nil (wd_run (wo_x (v := (.ptr b1 2)) (ca_fla rfl rfl) (wo_nil (wd_run ?_)))))
        refine wo_x (v := vva) (s_ld1 s121 3 rfl) (wo_nil (wd_run (wo_x (v := (.ptr b5 2)) (ca_fla rfl rfl) (wo_nil (wd_run ?_)))))
        refine wo_x (v := vvb) (s_ld1 s121 2 rfl) (wo_nil (wd_run ?_))
        obtain ⟨b123, H124, s125, k126⟩ := s_bsl s121 (((RL.rep 2 .nils).set 0 vva).set 1 vvb)
        refine wo_x (v := (.slc b123 0 2 2)) (k126 (fill_s (v := vva) rfl (fl_sc hva) rfl (fill_s (v := vvb) rfl (fl_sc hvb) rfl fill_nil))) (wo_nil (wd_run (wo_x (v := (.ptr b1 3)) (ca_fla rfl rfl) (wo_nil (wd_run ?_)))))
        refine wo_x (v := vpa) (s_ld1 s125 4 rfl) (wo_nil (wd_run (wo_x (v := (.ptr b5 3)) (ca_fla rfl rfl) (wo_nil (wd_run ?_)))))
        refine wo_x (v := vpb) (s_ld1 s125 3 rfl) (wo_nil (wd_run ?_))
        obtain ⟨b127, H128, s129, k130⟩ := s_bsl s125 (((RL.rep 2 .nils).set 0 vpa).set 1 vpb)
        refine wo_x (v := (.slc b127 0 2 2)) (k130 (fill_s (v := vpa) rfl (fl_sc hpa) rfl (fill_s (v := vpb) rfl (fl_sc hpb) rfl fill_nil))) (wo_nil (wd_nil (ws_cons ?_)))
        have s131 := s129.pull 2
        obtain ⟨v137, H138, ⟨l139, o140, s141⟩, k142⟩ := conS3_ok T (N := N) (d := d + 9) (kx1 := ka) (kx2 := []) (kx3 := kb) (by omega) s131 hka (by first | omega | (simp; done) | (simp; omega)) .nil (by first | omega | (simp; done) | (simp; omega)) hkb (by first | omega | (simp; done) | (simp; omega)) (by omega)
        have s143 : Sat H138 Z ((.cells b127 [vpa, vpb]) :: (.cells b123 [vva, vvb]) :: (.cells b9 [(.bool false), .nils, .nils, .nils]) :: (.cells b5 [(.bool true), vkb, vvb, vpb]) :: (.cells b1 [(.bool true), vka, vva, vpa]) :: (l139 ++ F)) := Sat.rot (l₁ := l139) (hl := [.cells b127 [vpa, vpb], .cells b123 [vva, vvb], .cells b9 [(.bool false), .nils, .nils, .nils], .cells b5 [(.bool true), vkb, vvb, vpb], .cells b1 [(.bool true), vka, vva, vpa]]) s141
        refine wo_call k142 (wo_nil (wd_again (v := (.bool true)) (hs := same_bool) (s_ld1 s143 4 rfl) (wd_again (v := vva) (hs := fl_same hva) (s_ld1 s143 4 rfl) (wd_again (v := vvb) (hs := fl_same hvb) (s_ld1 s143 3 rfl) (wd_again (v := vpa) (hs := fl_same hpa) (s_ld1 s143 4 rfl) ?_)))))
        refine wd_again (v := vpb) (hs := fl_same hpb) (s_ld1 s143 3 rfl) (wd_nil (ws_cons ?_))
        have s144 := s143.pull 1
        obtain ⟨v150, H151, ⟨l152, o153, s154⟩, k155⟩ := conS2_ok T (N := N) (d := d + 9) (kx1 := va) (kx2 := vb) (by omega) s144 hva (by first | omega | (simp; done) | (simp; omega)) hvb (by first | omega | (simp; done) | (simp; omega)) (by omega)
        have s156 : Sat H151 Z ((.cells b127 [vpa, vpb]) :: (.cells b9 [(.bool false), .nils, .nils, .nils]) :: (.cells b5 [(.bool true), vkb, vvb, vpb]) :: (.cells b1 [(.bool true), vka, vva, vpa]) :: (l152 ++ (l139 ++ F))) := Sat.rot (l₁ := l152) (hl := [.cells b127 [vpa, vpb], .cells b9 [(.bool false), .nils, .nils, .nils], .cells b5 [(.bool true), vkb, vvb, vpb], .cells b1 [(.bool true), vka, vva, vpa]]) s154
        refine wo_call k155 (wo_nil (wd_again (v := (.bool true)) (hs := same_bool) (s_ld1 s156 3 rfl) (wd_again (v := vpa) (hs := fl_same hpa) (s_ld1 s156 3 rfl) (wd_again (v := vpb) (hs := fl_same hpb) (s_ld1 s156 2 rfl) (wd_nil ?_)))))
        refine ws_cons ?_
        obtain ⟨v162, H163, ⟨l164, o165, s166⟩, k167⟩ := conP2_ok T (N := N) (d := d + 9) (kx1 := pa) (kx2 := pb) (by omega) s156 hpa (by first | omega | (simp; done) | (simp; omega)) hpb (by first | omega | (simp; done) | (simp; omega)) (by omega)
        have s168 : Sat H163 Z ((.cells b9 [(.bool false), .nils, .nils, .nils]) :: (.cells b5 [(.bool true), vkb, vvb, vpb]) :: (.cells b1 [(.bool true), vka, vva, vpa]) :: (l164 ++ (l152 ++ (l139 ++ F)))) := Sat.rot (l₁ := l164) (hl := [.cells b9 [(.bool false), .nils, .nils, .nils], .cells b5 [(.bool true), vkb, vvb, vpb], .cells b1 [(.bool true), vka, vva, vpa]]) s166
        refine wo_call k167 (wo_nil (wd_again (v := (.bool true)) (hs := same_bool) (s_ld1 s168 2 rfl) (wd_run (wo_x (v := (.agg (Rp.set (Rp.set (Rp.set (Rp.set (.cat 1 (.one (.bool false)) (.rep 3 .nils)) 0 (.bool true)) 1 v137) 2 v150) 3 v162))) (w_build (r := (Rp.set (Rp.set (Rp.set (Rp.set (.cat 1 (.one (.bool false)) (.rep 3 .nils)) 0 (.bool true)) 1 v137) 2 v150) 3 v162)) (fill_s (v := (.bool true)) rfl rfl rfl (fill_s (v := v137) rfl (own_sc o140) rfl (fill_s (v := v150) rfl (own_sc o153) rfl (fill_s (v := v162) rfl (own_sc o165) rfl fill_nil))))) (wo_nil ?_)))))
        refine wd_nil (ws_cons ?_)
        obtain ⟨H169, s170, k171⟩ := s_stn s168 (((((RL.cat (RL.one (.bool false)) (RL.rep 3 .nils) rfl).set 0 (.bool true)).set 1 v137).set 2 v150).set 3 v162) 0 4 rfl (Nat.le_of_ble_eq_true rfl)
        refine wo_n (k171 rfl rfl) (wo_nil (wd_run (wo_mv (.int .i64 0) (wo_nil (wd_nil ?_)))))
        refine ws_nil (thn_n (wp_ret ?_))
        refine fin_ct (w := (.int .i64 0)) (off := 0) s170 0 fun r172 q173 => ?_
        have s174 := s170.drop 0
        have s175 := s174.drop 0
        have s176 := s175.drop 0
        exact ⟨_, _, _, _, _, _, _, rfl, q173, ⟨o140, o153, o165⟩, s176⟩
    · refine wo_x (v := (.bool false)) (w_bin (cmp_gtrF kb.length 0 (by omega))) (wo_mv (.bool false) (wo_noF (wo_noF (wo_noF (wo_noF ?_)))))
      refine wo_noF (wo_noF (wo_noF (wo_noU (wo_noU (wo_noU ?_)))))
      refine wo_noU (wo_noU (wo_noU (wo_noU (wo_noU (wo_noU ?_)))))
      refine wo_noU (wo_noU (wo_noF (wo_x (v := (.bool false)) (w_pickF rfl rfl) (wo_mv (.bool false) (wo_nil ?_)))))
      refine thn_n (wp_condF (wp_skip (blk_n (thn_n (wp_seq ?_)))))
      refine wp_reg (wo_mv .nils (wo_nil (thn_n (wp_seq (wp_seq ?_)))))
      refine wp_reg (wo_x (v := (.ptr b1 0)) (ca_fla rfl rfl) (wo_x (v := (.bool true)) (s_ld1 s32 2 rfl) (wo_x (v := (.bool false)) (w_lit (fun K => rfl)) (wo_nil (thn_n ?_)))))
      refine wp_condF (wp_skip (thn_n (wp_seq (wp_dreg (wd_run ?_)))))
      refine wo_x (v := (.ptr b1 0)) (ca_fla rfl rfl) (wo_nil (wd_run (wo_x (v := (.bool true)) (s_ld1 s32 2 rfl) (wo_nil (wd_run ?_)))))
      refine wo_x (v := (.ptr b1 1)) (ca_fla rfl rfl) (wo_nil (wd_run (wo_x (v := vka) (s_ld1 s32 2 rfl) (wo_nil (wd_run ?_)))))
      refine wo_mv .nils (wo_nil (wd_run (wo_x (v := (.ptr b5 1)) (ca_fla rfl rfl) (wo_nil (wd_run ?_)))))
      refine wo_x (v := vkb) (s_ld1 s32 1 rfl) (wo_nil (wd_run ?_))
      obtain ⟨b177, H178, s179, k180⟩ := s_bsl s32 ((((RL.rep 3 .nils).set 0 vka).set 1 .nils).set 2 vkb)
      refine wo_x (v := (.slc b177 0 3 3)) (k180 (fill_s (v := vka) rfl (fl_sc hka) rfl (fill_s (v := .nils) rfl rfl rfl (fill_s (v := vkb) rfl (fl_sc hkb) rfl fill_nil)))) (wo_nil (wd_run (wo_x (v := (.ptr b1 2)) (ca_fla rfl rfl) (wo_nil (wd_run ?_)))))
      refine wo_x (v := vva) (s_ld1 s179 3 rfl) (wo_nil (wd_run (wo_x (v := (.ptr b5 2)) (ca_fla rfl rfl) (wo_nil (wd_run ?_)))))
      refine wo_x (v := vvb) (s_ld1 s179 2 rfl) (wo_nil (wd_run ?_))
      obtain ⟨b181, H182, s183, k184⟩ := s_bsl s179 (((RL.rep 2 .nils).set 0 vva).set 1 vvb)
      refine wo_x (v := (.slc b181 0 2 2)) (k184 (fill_s (v := vva) rfl (fl_sc hva) rfl (fill_s (v := vvb) rfl (fl_sc hvb) rfl fill_nil))) (wo_nil (wd_run (wo_x (v := (.ptr b1 3)) (ca_fla rfl rfl) (wo_nil (wd_run ?_)))))
      refine wo_x (v := vpa) (s_ld1 s183 4 rfl) (wo_nil (wd_run (wo_x (v := (.ptr b5 3)) (ca_fla rfl rfl) (wo_nil (wd_run ?_)))))
      refine wo_x (v := vpb) (s_ld1 s183 3 rfl) (wo_nil (wd_run ?_))
      obtain ⟨b185, H186, s187, k188⟩ := s_bsl s183 (((RL.rep 2 .nils).set 0 vpa).set 1 vpb)
      refine wo_x (v := (.slc b185 0 2 2)) (k188 (fill_s (v := vpa) rfl (fl_sc hpa) rfl (fill_s (v := vpb) rfl (fl_sc hpb) rfl fill_nil))) (wo_nil (wd_nil (ws_cons ?_)))
      have s189 := s187.pull 2
      obtain ⟨v195, H196, ⟨l197, o198, s199⟩, k200⟩ := conS3_ok T (N := N) (d := d + 9) (kx1 := ka) (kx2 := []) (kx3 := kb) (by omega) s189 hka (by first | omega | (simp; done) | (simp; omega)) .nil (by first | omega | (simp; done) | (simp; omega)) hkb (by first | omega | (simp; done) | (simp; omega)) (by omega)
      have s201 : Sat H196 Z ((.cells b185 [vpa, vpb]) :: (.cells b181 [vva, vvb]) :: (.cells b9 [(.bool false), .nils, .nils, .nils]) :: (.cells b5 [(.bool true), vkb, vvb, vpb]) :: (.cells b1 [(.bool true), vka, vva, vpa]) :: (l197 ++ F)) := Sat.rot (l₁ := l197) (hl := [.cells b185 [vpa, vpb], .cells b181 [vva, vvb], .cells b9 [(.bool false), .nils, .nils, .nils], .cells b5 [(.bool true), vkb, vvb, vpb], .cells b1 [(.bool true), vka, vva, vpa]]) s199
      refine wo_call k200 (wo_nil (wd_again (v := (.bool true)) (hs := same_bool) (s_ld1 s201 4 rfl) (wd_again (v := vva) (hs := fl_same hva) (s_ld1 s201 4 rfl) (wd_again (v := vvb) (hs := fl_same hvb) (s_ld1 s201 3 rfl) (wd_again (v := vpa) (hs := fl_same hpa) (s_ld1 s201 4 rfl) ?_)))))
      refine wd_again (v := vpb) (hs := fl_same hpb) (s_ld1 s201 3 rfl) (wd_nil (ws_cons ?_))
      have s202 := s201.pull 1
      obtain ⟨v208, H209, ⟨l210, o211, s212⟩, k213⟩ := conS2_ok T (N := N) (d := d + 9) (kx1 := va) (kx2 := vb) (by omega) s202 hva (by first | omega | (simp; done) | (simp; omega)) hvb (by first | omega | (simp; done) | (simp; omega)) (by omega)
      have s214 : Sat H209 Z ((.cells b185 [vpa, vpb]) :: (.cells b9 [(.bool false), .nils, .nils, .nils]) :: (.cells b5 [(.bool true), vkb, vvb, vpb]) :: (.cells b1 [(.bool true), vka, vva, vpa]) :: (l210 ++ (l197 ++ F))) := Sat.rot (l₁ := l210) (hl := [.cells b185 [vpa, vpb], .cells b9 [(.bool false), .nils, .nils, .nils], .cells b5 [(.bool true), vkb, vvb, vpb], .cells b1 [(.bool true), vka, vva, vpa]]) s212
      refine wo_call k213 (wo_nil (wd_again (v := (.bool true)) (hs := same_bool) (s_ld1 s214 3 rfl) (wd_again (v := vpa) (hs := fl_same hpa) (s_ld1 s214 3 rfl) (wd_again (v := vpb) (hs := fl_same hpb) (s_ld1 s214 2 rfl) (wd_nil ?_)))))
      refine ws_cons ?_
      obtain ⟨v220, H221, ⟨l222, o223, s224⟩, k225⟩ := conP2_ok T (N := N) (d := d + 9) (kx1 := pa) (kx2 := pb) (by omega) s214 hpa (by first | omega | (simp; done) | (simp; omega)) hpb (by first | omega | (simp; done) | (simp; omega)) (by omega)
      have s226 : Sat H221 Z ((.cells b9 [(.bool false), .nils, .nils, .nils]) :: (.cells b5 [(.bool true), vkb, vvb, vpb]) :: (.cells b1 [(.bool true), vka, vva, vpa]) :: (l222 ++ (l210 ++ (l197 ++ F)))) := Sat.rot (l₁ := l222) (hl := [.cells b9 [(.bool false), .nils, .nils, .nils], .cells b5 [(.bool true), vkb, vvb, vpb], .cells b1 [(.bool true), vka, vva, vpa]]) s224
      refine wo_call k225 (wo_nil (wd_again (v := (.bool true)) (hs := same_bool) (s_ld1 s226 2 rfl) (wd_run (wo_x (v := (.agg (Rp.set (Rp.set (Rp.set (Rp.set (.cat 1 (.one (.bool false)) (.rep 3 .nils)) 0 (.bool true)) 1 v195) 2 v208) 3 v220))) (w_build (r := (Rp.set (Rp.set (Rp.set (Rp.set (.cat 1 (.one (.bool false)) (.rep 3 .nils)) 0 (.bool true)) 1 v195) 2 v208) 3 v220)) (fill_s (v := (.bool true)) rfl rfl rfl (fill_s (v := v195) rfl (own_sc o198) rfl (fill_s (v := v208) rfl (own_sc o211) rfl (fill_s (v := v220) rfl (own_sc o223) rfl fill_nil))))) (wo_nil ?_)))))
      refine wd_nil (ws_cons ?_)
      obtain ⟨H227, s228, k229⟩ := s_stn s226 (((((RL.cat (RL.one (.bool false)) (RL.rep 3 .nils) rfl).set 0 (.bool true)).set 1 v195).set 2 v208).set 3 v220) 0 4 rfl (Nat.le_of_ble_eq_true rfl)
      refine wo_n (k229 rfl rfl) (wo_nil (wd_run (wo_mv (.int .i64 0) (wo_nil (wd_nil ?_)))))
      refine ws_nil (thn_n (wp_ret ?_))
      refine fin_ct (w := (.int .i64 0)) (off := 0) s228 0 fun r230 q231 => ?_
      have s232 := s228.drop 0
      have s233 := s232.drop 0
      have s234 := s233.drop 0
      exact ⟨_, _, _, _, _, _, _, rfl, q231, ⟨o198, o211, o223⟩, s234⟩
  · refine wo_x (v := (.bool false)) (w_bin (cmp_gtrF ka.length 0 (by omega))) (wo_mv (.bool false) (wo_noF (wo_noF (wo_noF (wo_noF ?_)))))
    refine wo_noF (wo_noF (wo_noF (wo_noF (wo_noF (wo_noF ?_)))))
    refine wo_x (v := (.bool false)) (w_pickF rfl rfl) (wo_mv (.bool false) (wo_nil (thn_n (wp_condF (wp_seq ?_)))))
    refine wp_reg (wo_x (v := (.ptr b5 1)) (ca_fla rfl rfl) (wo_x (v := vkb) (s_ld1 s32 1 rfl) (wo_x (v := (.int .i64 (.ofNat kb.length))) (fl_len hkb (strs_len kb) rfl) ?_)))
    by_cases c235 : 0 < kb.length
    · refine wo_x (v := (.bool true)) (w_bin (cmp_gtrT kb.length 0 (by omega))) (wo_mv (.bool true) (wo_yesT (wo_x (v := (.ptr b5 1)) (ca_fla rfl rfl) (wo_yesT (wo_x (v := vkb) (s_ld1 s32 1 rfl) ?_)))))
      refine wo_yesT ?_
      obtain ⟨b236, o237, L238, z239, g240, e241, n242, k243⟩ := fl_ix hkb 0 (strs_get (show 0 < kb.length by omega))
      refine wo_x (v := (.ptr b236 o237)) (k243 rfl rfl) (wo_yesT (wo_x (v := (.str (txt kb 0))) (s_zld1 s32 z239 (g240 0 _ rfl)) (wo_yesT (wo_mv (.str s) (wo_yesT ?_)))))
      refine wo_x (v := (.bool false)) (w_bin (fun K => (str_lss (txt kb 0) s K).trans (congrArg (fun z => K (.bool z)) (Bool.eq_false_iff.2 (fun h => by rw [hbl (by omega)] at h; cases h))))) (wo_yesT (wo_mv (.bool false) (wo_yesF (wo_x (v := (.ptr b5 1)) (ca_fla rfl rfl) (wo_yesF ?_)))))
      refine wo_x (v := vkb) (s_ld1 s32 1 rfl) (wo_yesF ?_)
      obtain ⟨b244, o245, L246, z247, g248, e249, n250, k251⟩ := fl_ix hkb 0 (strs_get (show 0 < kb.length by omega))
      refine wo_x (v := (.ptr b244 o245)) (k251 rfl rfl) (wo_yesF (wo_x (v := (.str (txt kb 0))) (s_zld1 s32 z247 (g248 0 _ rfl)) (wo_yesF (wo_mv (.str s) ?_))))
      by_cases c252 : txt kb 0 = s
      · refine wo_yesF (wo_x (v := (.bool true)) (w_bin (str_eqlT c252)) (wo_yesF (wo_mv (.bool true) (wo_yesT (wo_x (v := (.ptr b5 0)) (ca_fla rfl rfl) ?_)))))
        refine wo_yesT (wo_x (v := (.bool true)) (s_ld1 s32 1 rfl) (wo_yesT (wo_x (v := (.bool false)) (w_lit (fun K => rfl)) (wo_yesF (wo_x (v := (.bool false)) (w_pickT rfl rfl) ?_)))))
        refine wo_yesT (wo_x (v := (.bool false)) (w_pickF rfl rfl) (wo_x (v := (.bool false)) (w_pickT rfl rfl) (wo_mv (.bool false) (wo_nil (thn_n ?_)))))
        refine wp_condF (wp_skip (blk_n (thn_n (wp_seq (wp_reg ?_)))))
        refine wo_mv .nils (wo_nil (thn_n (wp_seq (wp_seq (wp_reg ?_)))))
        refine wo_x (v := (.ptr b1 0)) (ca_fla rfl rfl) (wo_x (v := (.bool true)) (s_ld1 s32 2 rfl) (wo_x (v := (.bool false)) (w_lit (fun K => rfl)) (wo_nil (thn_n (wp_condF ?_)))))
        refine wp_skip (thn_n (wp_seq (wp_dreg (wd_run (wo_x (v := (.ptr b1 0)) (ca_fla rfl rfl) ?_)))))
        refine wo_nil (wd_run (wo_x (v := (.bool true)) (s_ld1 s32 2 rfl) (wo_nil (wd_run (wo_x (v := (.ptr b1 1)) (ca_fla rfl rfl) ?_)))))
        refine wo_nil (wd_run (wo_x (v := vka) (s_ld1 s32 2 rfl) (wo_nil (wd_run (wo_mv .nils ?_)))))
        refine wo_nil (wd_run (wo_x (v := (.ptr b5 1)) (ca_fla rfl rfl) (wo_nil (wd_run (wo_x (v := vkb) (s_ld1 s32 1 rfl) ?_)))))
        refine wo_nil (wd_run ?_)
        obtain ⟨b253, H254, s255, k256⟩ := s_bsl s32 ((((RL.rep 3 .nils).set 0 vka).set 1 .nils).set 2 vkb)
        refine wo_x (v := (.slc b253 0 3 3)) (k256 (fill_s (v := vka) rfl (fl_sc hka) rfl (fill_s (v := .nils) rfl rfl rfl (fill_s (v := vkb) rfl (fl_sc hkb) rfl fill_nil)))) (wo_nil (wd_run (wo_x (v := (.ptr b1 2)) (ca_fla rfl rfl) (wo_nil (wd_run ?_)))))
        refine wo_x (v := vva) (s_ld1 s255 3 rfl) (wo_nil (wd_run (wo_x (v := (.ptr b5 2)) (ca_fla rfl rfl) (wo_nil (wd_run ?_)))))
        refine wo_x (v := vvb) (s_ld1 s255 2 rfl) (wo_nil (wd_run ?_))
        obtain ⟨b257, H258, s259, k260⟩ := s_bsl s255 (((RL.rep 2 .nils).set 0 vva).set 1 vvb)
        refine wo_x (v := (.slc b257 0 2 2)) (k260 (fill_s (v := vva) rfl (fl_sc hva) rfl (fill_s (v := vvb) rfl (fl_sc hvb) rfl fill_nil))) (wo_nil (wd_run (wo_x (v := (.ptr b1 3)) (ca_fla rfl rfl) (wo_nil (wd_run ?_)))))
        refine wo_x (v := vpa) (s_ld1 s259 4 rfl) (wo_nil (wd_run (wo_x (v := (.ptr b5 3)) (ca_fla rfl rfl) (wo_nil (wd_run ?_)))))
        refine wo_x (v := vpb) (s_ld1 s259 3 rfl) (wo_nil (wd_run ?_))
        obtain ⟨b261, H262, s263, k264⟩ := s_bsl s259 (((RL.rep 2 .nils).set 0 vpa).set 1 vpb)
        refine wo_x (v := (.slc b261 0 2 2)) (k264 (fill_s (v := vpa) rfl (fl_sc hpa) rfl (fill_s (v := vpb) rfl (fl_sc hpb) rfl fill_nil))) (wo_nil (wd_nil (ws_cons ?_)))
        have s265 := s263.pull 2
        obtain ⟨v271, H272, ⟨l273, o274, s275⟩, k276⟩ := conS3_ok T (N := N) (d := d + 9) (kx1 := ka) (kx2 := []) (kx3 := kb) (by omega) s265 hka (by first | omega | (simp; done) | (simp; omega)) .nil (by first | omega | (simp; done) | (simp; omega)) hkb (by first | omega | (simp; done) | (simp; omega)) (by omega)
        have s277 : Sat H272 Z ((.cells b261 [vpa, vpb]) :: (.cells b257 [vva, vvb]) :: (.cells b9 [(.bool false), .nils, .nils, .nils]) :: (.cells b5 [(.bool true), vkb, vvb, vpb]) :: (.cells b1 [(.bool true), vka, vva, vpa]) :: (l273 ++ F)) := Sat.rot (l₁ := l273) (hl := [.cells b261 [vpa, vpb], .cells b257 [vva, vvb], .cells b9 [(.bool false), .nils, .nils, .nils], .cells b5 [(.bool true), vkb, vvb, vpb], .cells b1 [(.bool true), vka, vva, vpa]]) s275
        refine wo_call k276 (wo_nil (wd_again (v := (.bool true)) (hs := same_bool) (s_ld1 s277 4 rfl) (wd_again (v := vva) (hs := fl_same hva) (s_ld1 s277 4 rfl) (wd_again (v := vvb) (hs := fl_same hvb) (s_ld1 s277 3 rfl) (wd_again (v := vpa) (hs := fl_same hpa) (s_ld1 s277 4 rfl) ?_)))))
        refine wd_again (v := vpb) (hs := fl_same hpb) (s_ld1 s277 3 rfl) (wd_nil (ws_cons ?_))
        have s278 := s277.pull 1
        obtain ⟨v284, H285, ⟨l286, o287, s288⟩, k289⟩ := conS2_ok T (N := N) (d := d + 9) (kx1 := va) (kx2 := vb) (by omega) s278 hva (by first | omega | (simp; done) | (simp; omega)) hvb (by first | omega | (simp; done) | (simp; omega)) (by omega)
        have s290 : Sat H285 Z ((.cells b261 [vpa, vpb]) :: (.cells b9 [(.bool false), .nils, .nils, .nils]) :: (.cells b5 [(.bool true), vkb, vvb, vpb]) :: (.cells b1 [(.bool true), vka, vva, vpa]) :: (l286 ++ (l273 ++ F))) := Sat.rot (l₁ := l286) (hl := [.cells b261 [vpa, vpb], .cells b9 [(.bool false), .nils, .nils, .nils], .cells b5 [(.bool true), vkb, vvb, vpb], .cells b1 [(.bool true), vka, vva, vpa]]) s288
        refine wo_call k289 (wo_nil (wd_again (v := (.bool true)) (hs := same_bool) (s_ld1 s290 3 rfl) (wd_again (v := vpa) (hs := fl_same hpa) (s_ld1 s290 3 rfl) (wd_again (v := vpb) (hs := fl_same hpb) (s_ld1 s290 2 rfl) (wd_nil ?_)))))
        refine ws_cons ?_
        obtain ⟨v296, H297, ⟨l298, o299, s300⟩, k301⟩ := conP2_ok T (N := N) (d := d + 9) (kx1 := pa) (kx2 := pb) (by omega) s290 hpa (by first | omega | (simp; done) | (simp; omega)) hpb (by first | omega | (simp; done) | (simp; omega)) (by omega)
        have s302 : Sat H297 Z ((.cells b9 [(.bool false), .nils, .nils, .nils]) :: (.cells b5 [(.bool true), vkb, vvb, vpb]) :: (.cells b1 [(.bool true), vka, vva, vpa]) :: (l298 ++ (l286 ++ (l273 ++ F)))) := Sat.rot (l₁ := l298) (hl := [.cells b9 [(.bool false), .nils, .nils, .nils], .cells b5 [(.bool true), vkb, vvb, vpb], .cells b1 [(.bool true), vka, vva, vpa]]) s300
        refine wo_call k301 (wo_nil (wd_again (v := (.bool true)) (hs := same_bool) (s_ld1 s302 2 rfl) (wd_run (wo_x (v := (.agg (Rp.set (Rp.set (Rp.set (Rp.set (.cat 1 (.one (.bool false)) (.rep 3 .nils)) 0 (.bool true)) 1 v271) 2 v284) 3 v296))) (w_build (r := (Rp.set (Rp.set (Rp.set (Rp.set (.cat 1 (.one (.bool false)) (.rep 3 .nils)) 0 (.bool true)) 1 v271) 2 v284) 3 v296)) (fill_s (v := (.bool true)) rfl rfl rfl (fill_s (v := v271) rfl (own_sc o274) rfl (fill_s (v := v284) rfl (own_sc o287) rfl (fill_s (v := v296) rfl (own_sc o299) rfl fill_nil))))) (wo_nil ?_)))))
        refine wd_nil (ws_cons ?_)
        obtain ⟨H303, s304, k305⟩ := s_stn s302 (((((RL.cat (RL.one (.bool false)) (RL.rep 3 .nils) rfl).set 0 (.bool true)).set 1 v271).set 2 v284).set 3 v296) 0 4 rfl (Nat.le_of_ble_eq_true rfl)
        refine wo_n (k305 rfl rfl) (wo_nil (wd_run (wo_mv (.int .i64 0) (wo_nil (wd_nil ?_)))))
        refine ws_nil (thn_n (wp_ret ?_))
        refine fin_ct (w := (.int .i64 0)) (off := 0) s304 0 fun r306 q307 => ?_
        have s308 := s304.drop 0
        have s309 := s308.drop 0
        have s310 := s309.drop 0
        exact ⟨_, _, _, _, _, _, _, rfl, q307, ⟨o274, o287, o299⟩, s310⟩
      · refine wo_yesF (wo_x (v := (.bool false)) (w_bin (str_eqlF c252)) (wo_yesF (wo_mv (.bool false) (wo_noF (wo_noF ?_)))))
        refine wo_noF (wo_yesF (wo_x (v := (.bool false)) (w_pickF rfl rfl) (wo_yesT (wo_x (v := (.bool false)) (w_pickF rfl rfl) (wo_x (v := (.bool false)) (w_pickT rfl rfl) ?_)))))
        refine wo_mv (.bool false) (wo_nil (thn_n (wp_condF (wp_skip (blk_n ?_)))))
        refine thn_n (wp_seq (wp_reg (wo_mv .nils (wo_nil (thn_n ?_)))))
        refine wp_seq (wp_seq (wp_reg (wo_x (v := (.ptr b1 0)) (ca_fla rfl rfl) (wo_x (v := (.bool true)) (s_ld1 s32 2 rfl) (wo_x (v := (.bool false)) (w_lit (fun K => rfl)) ?_)))))
        refine wo_nil (thn_n (wp_condF (wp_skip (thn_n (wp_seq ?_)))))
        refine wp_dreg (wd_run (wo_x (v := (.ptr b1 0)) (ca_fla rfl rfl) (wo_nil (wd_run (wo_x (v := (.bool true)) (s_ld1 s32 2 rfl) ?_)))))
        refine wo_nil (wd_run (wo_x (v := (.ptr b1 1)) (ca_fla rfl rfl) (wo_nil (wd_run (wo_x (v := vka) (s_ld1 s32 2 rfl) ?_)))))
        refine wo_nil (wd_run (wo_mv .nils (wo_nil (wd_run (wo_x (v := (.ptr b5 1)) (ca_fla rfl rfl) ?_)))))
        refine wo_nil (wd_run (wo_x (v := vkb) (s_ld1 s32 1 rfl) (wo_nil (wd_run ?_))))
        obtain ⟨b311, H312, s313, k314⟩ := s_bsl s32 ((((RL.rep 3 .nils).set 0 vka).set 1 .nils).set 2 vkb)
        refine wo_x (v := (.slc b311 0 3 3)) (k314 (fill_s (v := vka) rfl (fl_sc hka) rfl (fill_s (v := .nils) rfl rfl rfl (fill_s (v := vkb) rfl (fl_sc hkb) rfl fill_nil)))) (wo_nil (wd_run (wo_x (v := (.ptr b1 2)) (ca_fla rfl rfl) (wo_nil (wd_run ?_)))))
        refine wo_x (v := vva) (s_ld1 s313 3 rfl) (wo_nil (wd_run (wo_x (v := (.ptr b5 2)) (ca_fla rfl rfl) (wo_nil (wd_run ?_)))))
        refine wo_x (v := vvb) (s_ld1 s313 2 rfl) (wo_nil (wd_run ?_))
        obtain ⟨b315, H316, s317, k318⟩ := s_bsl s313 (((RL.rep 2 .nils).set 0 vva).set 1 vvb)
        refine wo_x (v := (.slc b315 0 2 2)) (k318 (fill_s (v := vva) rfl (fl_sc hva) rfl (fill_s (v := vvb) rfl (fl_sc hvb) rfl fill_nil))) (wo_nil (wd_run (wo_x (v := (.ptr b1 3)) (ca_fla rfl rfl) (wo_nil (wd_run ?_)))))
        refine wo_x (v := vpa) (s_ld1 s317 4 rfl) (wo_nil (wd_run (wo_x (v := (.ptr b5 3)) (ca_fla rfl rfl) (wo_nil (wd_run ?_)))))
        refine wo_x (v := vpb) (s_ld1 s317 3 rfl) (wo_nil (wd_run ?_))
        obtain ⟨b319, H320, s321, k322⟩ := s_bsl s317 (((RL.rep 2 .nils).set 0 vpa).set 1 vpb)
        refine wo_x (v := (.slc b319 0 2 2)) (k322 (fill_s (v := vpa) rfl (fl_sc hpa) rfl (fill_s (v := vpb) rfl (fl_sc hpb) rfl fill_nil))) (wo_nil (wd_nil (ws_cons ?_)))
        have s323 := s321.pull 2
        obtain ⟨v329, H330, ⟨l331, o332, s333⟩, k334⟩ := conS3_ok T (N := N) (d := d + 9) (kx1 := ka) (kx2 := []) (kx3 := kb) (by omega) s323 hka (by first | omega | (simp; done) | (simp; omega)) .nil (by first | omega | (simp; done) | (simp; omega)) hkb (by first | omega | (simp; done) | (simp; omega)) (by omega)
        have s335 : Sat H330 Z ((.cells b319 [vpa, vpb]) :: (.cells b315 [vva, vvb]) :: (.cells b9 [(.bool false), .nils, .nils, .nils]) :: (.cells b5 [(.bool true), vkb, vvb, vpb]) :: (.cells b1 [(.bool true), vka, vva, vpa]) :: (l331 ++ F)) := Sat.rot (l₁ := l331) (hl := [.cells b319 [vpa, vpb], .cells b315 [vva, vvb], .cells b9 [(.bool false), .nils, .nils, .nils], .cells b5 [(.bool true), vkb, vvb, vpb], .cells b1 [(.bool true), vka, vva, vpa]]) s333
        refine wo_call k334 (wo_nil (wd_again (v := (.bool true)) (hs := same_bool) (s_ld1 s335 4 rfl) (wd_again (v := vva) (hs := fl_same hva) (s_ld1 s335 4 rfl) (wd_again (v := vvb) (hs := fl_same hvb) (s_ld1 s335 3 rfl) (wd_again (v := vpa) (hs := fl_same hpa) (s_ld1 s335 4 rfl) ?_)))))
        refine wd_again (v := vpb) (hs := fl_same hpb) (s_ld1 s335 3 rfl) (wd_nil (ws_cons ?_))
        have s336 := s335.pull 1
        obtain ⟨v342, H343, ⟨l344, o345, s346⟩, k347⟩ := conS2_ok T (N := N) (d := d + 9) (kx1 := va) (kx2 := vb) (by omega) s336 hva (by first | omega | (simp; done) | (simp; omega)) hvb (by first | omega | (simp; done) | (simp; omega)) (by omega)
        have s348 : Sat H343 Z ((.cells b319 [vpa, vpb]) :: (.cells b9 [(.bool false), .nils, .nils, .nils]) :: (.cells b5 [(.bool true), vkb, vvb, vpb]) :: (.cells b1 [(.bool true), vka, vva, vpa]) :: (l344 ++ (l331 ++ F))) := Sat.rot (l₁ := l344) (hl := [.cells b319 [vpa, vpb], .cells b9 [(.bool false), .nils, .nils, .nils], .cells b5 [(.bool true), vkb, vvb, vpb], .cells b1 [(.bool true), vka, vva, vpa]]) s346
        refine wo_call k347 (wo_nil (wd_again (v := (.bool true)) (hs := same_bool) (s_ld1 s348 3 rfl) (wd_again (v := vpa) (hs := fl_same hpa) (s_ld1 s348 3 rfl) (wd_again (v := vpb) (hs := fl_same hpb) (s_ld1 s348 2 rfl) (wd_nil ?_)))))
        refine ws_cons ?_
        obtain ⟨v354, H355, ⟨l356, o357, s358⟩, k359⟩ := conP2_ok T (N := N) (d := d + 9) (kx1 := pa) (kx2 := pb) (by omega) s348 hpa (by first | omega | (simp; done) | (simp; omega)) hpb (by first | omega | (simp; done) | (simp; omega)) (by omega)
        have s360 : Sat H355 Z ((.cells b9 [(.bool false), .nils, .nils, .nils]) :: (.cells b5 [(.bool true), vkb, vvb, vpb]) :: (.cells b1 [(.bool true), vka, vva, vpa]) :: (l356 ++ (l344 ++ (l331 ++ F)))) := Sat.rot (l₁ := l356) (hl := [.cells b9 [(.bool false), .nils, .nils, .nils], .cells b5 [(.bool true), vkb, vvb, vpb], .cells b1 [(.bool true), vka, vva, vpa]]) s358
        refine wo_call k359 (wo_nil (wd_again (v := (.bool true)) (hs := same_bool) (s_ld1 s360 2 rfl) (wd_run (wo_x (v := (.agg (Rp.set (Rp.set (Rp.set (Rp.set (.cat 1 (.one (.bool false)) (.rep 3 .nils)) 0 (.bool true)) 1 v329) 2 v342) 3 v354))) (w_build (r := (Rp.set (Rp.set (Rp.set (Rp.set (.cat 1 (.one (.bool false)) (.rep 3 .nils)) 0 (.bool true)) 1 v329) 2 v342) 3 v354)) (fill_s (v := (.bool true)) rfl rfl rfl (fill_s (v := v329) rfl (own_sc o332) rfl (fill_s (v := v342) rfl (own_sc o345) rfl (fill_s (v := v354) rfl (own_sc o357) rfl fill_nil))))) (wo_nil ?_)))))
        refine wd_nil (ws_cons ?_)
        obtain ⟨H361, s362, k363⟩ := s_stn s360 (((((RL.cat (RL.one (.bool false)) (RL.rep 3 .nils) rfl).set 0 (.bool true)).set 1 v329).set 2 v342).set 3 v354) 0 4 rfl (Nat.le_of_ble_eq_true rfl)
        refine wo_n (k363 rfl rfl) (wo_nil (wd_run (wo_mv (.int .i64 0) (wo_nil (wd_nil ?_)))))
        refine ws_nil (thn_n (wp_ret ?_))
        refine fin_ct (w := (.int .i64 0)) (off := 0) s362 0 fun r364 q365 => ?_
        have s366 := s362.drop 0
        have s367 := s366.drop 0
        have s368 := s367.drop 0
        exact ⟨_, _, _, _, _, _, _, rfl, q365, ⟨o332, o345, o357⟩, s368⟩
    · refine wo_x (v := (.bool false)) (w_bin (cmp_gtrF kb.length 0 (by omega))) (wo_mv (.bool false) (wo_noF (wo_noF (wo_noF (wo_noF ?_)))))
      refine wo_noF (wo_noF (wo_noF (wo_noU (wo_noU (wo_noU ?_)))))
      refine wo_noU (wo_noU (wo_noU (wo_noU (wo_noU (wo_noU ?_)))))
      refine wo_noU (wo_noU (wo_noF (wo_x (v := (.bool false)) (w_pickF rfl rfl) (wo_mv (.bool false) (wo_nil ?_)))))
      refine thn_n (wp_condF (wp_skip (blk_n (thn_n (wp_seq ?_)))))
      refine wp_reg (wo_mv .nils (wo_nil (thn_n (wp_seq (wp_seq ?_)))))
      refine wp_reg (wo_x (v := (.ptr b1 0)) (ca_fla rfl rfl) (wo_x (v := (.bool true)) (s_ld1 s32 2 rfl) (wo_x (v := (.bool false)) (w_lit (fun K => rfl)) (wo_nil (thn_n ?_)))))
      refine wp_condF (wp_skip (thn_n (wp_seq (wp_dreg (wd_run ?_)))))
      refine wo_x (v := (.ptr b1 0)) (ca_fla rfl rfl) (wo_nil (wd_run (wo_x (v := (.bool true)) (s_ld1 s32 2 rfl) (wo_nil (wd_run ?_)))))
      refine wo_x (v := (.ptr b1 1)) (ca_fla rfl rfl) (wo_nil (wd_run (wo_x (v := vka) (s_ld1 s32 2 rfl) (wo_nil (wd_run ?_)))))
      refine wo_mv .nils (wo_nil (wd_run (wo_x (v := (.ptr b5 1)) (ca_fla rfl rfl) (wo_nil (wd_run ?_)))))
      refine wo_x (v := vkb) (s_ld1 s32 1 rfl) (wo_nil (wd_run ?_))
      obtain ⟨b369, H370, s371, k372⟩ := s_bsl s32 ((((RL.rep 3 .nils).set 0 vka).set 1 .nils).set 2 vkb)
      refine wo_x (v := (.slc b369 0 3 3)) (k372 (fill_s (v := vka) rfl (fl_sc hka) rfl (fill_s (v := .nils) rfl rfl rfl (fill_s (v := vkb) rfl (fl_sc hkb) rfl fill_nil)))) (wo_nil (wd_run (wo_x (v := (.ptr b1 2)) (ca_fla rfl rfl) (wo_nil (wd_run ?_)))))
      refine wo_x (v := vva) (s_ld1 s371 3 rfl) (wo_nil (wd_run (wo_x (v := (.ptr b5 2)) (ca_fla rfl rfl) (wo_nil (wd_run ?_)))))
      refine wo_x (v := vvb) (s_ld1 s371 2 rfl) (wo_nil (wd_run ?_))
      obtain ⟨b373, H374, s375, k376⟩ := s_bsl s371 (((RL.rep 2 .nils).set 0 vva).set 1 vvb)
      refine wo_x (v := (.slc b373 0 2 2)) (k376 (fill_s (v := vva) rfl (fl_sc hva) rfl (fill_s (v := vvb) rfl (fl_sc hvb) rfl fill_nil))) (wo_nil (wd_run (wo_x (v := (.ptr b1 3)) (ca_fla rfl rfl) (wo_nil (wd_run ?_)))))
      refine wo_x (v := vpa) (s_ld1 s375 4 rfl) (wo_nil (wd_run (wo_x (v := (.ptr b5 3)) (ca_fla rfl rfl) (wo_nil (wd_run ?_)))))
      refine wo_x (v := vpb) (s_ld1 s375 3 rfl) (wo_nil (wd_run ?_))
      obtain ⟨b377, H378, s379, k380⟩ := s_bsl s375 (((RL.rep 2 .nils).set 0 vpa).set 1 vpb)
      refine wo_x (v := (.slc b377 0 2 2)) (k380 (fill_s (v := vpa) rfl (fl_sc hpa) rfl (fill_s (v := vpb) rfl (fl_sc hpb) rfl fill_nil))) (wo_nil (wd_nil (ws_cons ?_)))
      have s381 := s379.pull 2
      obtain ⟨v387, H388, ⟨l389, o390, s391⟩, k392⟩ := conS3_ok T (N := N) (d := d + 9) (kx1 := ka) (kx2 := []) (kx3 := kb) (by omega) s381 hka (by first | omega | (simp; done) | (simp; omega)) .nil (by first | omega | (simp; done) | (simp; omega)) hkb (by first | omega | (simp; done) | (simp; omega)) (by omega)
      have s393 : Sat H388 Z ((.cells b377 [vpa, vpb]) :: (.cells b373 [vva, vvb]) :: (.cells b9 [(.bool false), .nils, .nils, .nils]) :: (.cells b5 [(.bool true), vkb, vvb, vpb]) :: (.cells b1 [(.bool true), vka, vva, vpa]) :: (l389 ++ F)) := Sat.rot (l₁ := l389) (hl := [.cells b377 [vpa, vpb], .cells b373 [vva, vvb], .cells b9 [(.bool false), .nils, .nils, .nils], .cells b5 [(.bool true), vkb, vvb, vpb], .cells b1 [(.bool true), vka, vva, vpa]]) s391
      refine wo_call k392 (wo_nil (wd_again (v := (.bool true)) (hs := same_bool) (s_ld1 s393 4 rfl) (wd_again (v := vva) (hs := fl_same hva) (s_ld1 s393 4 rfl) (wd_again (v := vvb) (hs := fl_same hvb) (s_ld1 s393 3 rfl) (wd_again (v := vpa) (hs := fl_same hpa) (s_ld1 s393 4 rfl) ?_)))))
      refine wd_again (v := vpb) (hs := fl_same hpb) (s_ld1 s393 3 rfl) (wd_nil (ws_cons ?_))
      have s394 := s393.pull 1
      obtain ⟨v400, H401, ⟨l402, o403, s404⟩, k405⟩ := conS2_ok T (N := N) (d := d + 9) (kx1 := va) (kx2 := vb) (by omega) s394 hva (by first | omega | (simp; done) | (simp; omega)) hvb (by first | omega | (simp; done) | (simp; omega)) (by omega)
      have s406 : Sat H401 Z ((.cells b377 [vpa, vpb]) :: (.cells b9 [(.bool false), .nils, .nils, .nils]) :: (.cells b5 [(.bool true), vkb, vvb, vpb]) :: (.cells b1 [(.bool true), vka, vva, vpa]) :: (l402 ++ (l389 ++ F))) := Sat.rot (l₁ := l402) (hl := [.cells b377 [vpa, vpb], .cells b9 [(.bool false), .nils, .nils, .nils], .cells b5 [(.bool true), vkb, vvb, vpb], .cells b1 [(.bool true), vka, vva, vpa]]) s404
      refine wo_call k405 (wo_nil (wd_again (v := (.bool true)) (hs := same_bool) (s_ld1 s406 3 rfl) (wd_again (v := vpa) (hs := fl_same hpa) (s_ld1 s406 3 rfl) (wd_again (v := vpb) (hs := fl_same hpb) (s_ld1 s406 2 rfl) (wd_nil ?_)))))
      refine ws_cons ?_
      obtain ⟨v412, H413, ⟨l414, o415, s416⟩, k417⟩ := conP2_ok T (N := N) (d := d + 9) (kx1 := pa) (kx2 := pb) (by omega) s406 hpa (by first | omega | (simp; done) | (simp; omega)) hpb (by first | omega | (simp; done) | (simp; omega)) (by omega)
      have s418 : Sat H413 Z ((.cells b9 [(.bool false), .nils, .nils, .nils]) :: (.cells b5 [(.bool true), vkb, vvb, vpb]) :: (.cells b1 [(.bool true), vka, vva, vpa]) :: (l414 ++ (l402 ++ (l389 ++ F)))) := Sat.rot (l₁ := l414) (hl := [.cells b9 [(.bool false), .nils, .nils, .nils], .cells b5 [(.bool true), vkb, vvb, vpb], .cells b1 [(.bool true), vka, vva, vpa]]) s416
      refine wo_call k417 (wo_nil (wd_again (v := (.bool true)) (hs := same_bool) (s_ld1 s418 2 rfl) (wd_run (wo_x (v := (.agg (Rp.set (Rp.set (Rp.set (Rp.set (.cat 1 (.one (.bool false)) (.rep 3 .nils)) 0 (.bool true)) 1 v387) 2 v400) 3 v412))) (w_build (r := (Rp.set (Rp.set (Rp.set (Rp.set (.cat 1 (.one (.bool false)) (.rep 3 .nils)) 0 (.bool true)) 1 v387) 2 v400) 3 v412)) (fill_s (v := (.bool true)) rfl rfl rfl (fill_s (v := v387) rfl (own_sc o390) rfl (fill_s (v := v400) rfl (own_sc o403) rfl (fill_s (v := v412) rfl (own_sc o415) rfl fill_nil))))) (wo_nil ?_)))))
      refine wd_nil (ws_cons ?_)
      obtain ⟨H419, s420, k421⟩ := s_stn s418 (((((RL.cat (RL.one (.bool false)) (RL.rep 3 .nils) rfl).set 0 (.bool true)).set 1 v387).set 2 v400).set 3 v412) 0 4 rfl (Nat.le_of_ble_eq_true rfl)
      refine wo_n (k421 rfl rfl) (wo_nil (wd_run (wo_mv (.int .i64 0) (wo_nil (wd_nil ?_)))))
      refine ws_nil (thn_n (wp_ret ?_))
      refine fin_ct (w := (.int .i64 0)) (off := 0) s420 0 fun r422 q423 => ?_
      have s424 := s420.drop 0
      have s425 := s424.drop 0
      have s426 := s425.drop 0
      exact ⟨_, _, _, _, _, _, _, rfl, q423, ⟨o390, o403, o415⟩, s426⟩
theorem joinI_ok [HvN] [NdN] [BkN] {tbl : Nat → Option FT} (T : HvT tbl) (TB : BkT tbl) (TD : NdT tbl) {ka va kb vb : List (List Nat)} {pa pb : List PtrM} {vka vva vpa vkb vvb vpb : AV} {ra rb : Rp AV} {s : List Nat} {N d : Nat} (hd : 10 ≤ d) {Z : Fz} {F : List Hl} {H : AH} (hs : Sat H Z (F)) (hra : RL ra [.bool false, vka, vva, vpa]) (hka : Fl Z 1 vka (strs ka)) (hva : Fl Z 1 vva (strs va)) (hpa : Fl Z 3 vpa (ptrs pa)) (ma : SmallN N ka va pa) (Fa : FormN false ka va pa) (hrb : RL rb [.bool false, vkb, vvb, vpb]) (hkb : Fl Z 1 vkb (strs kb)) (hvb : Fl Z 1 vvb (strs vb)) (hpb : Fl Z 3 vpb (ptrs pb)) (mb : SmallN N kb vb pb) (Fb : FormN false kb vb pb) (hs0 : KeyOk s) (hsl : s.length ≤ 1000) (hal : 0 < ka.length → slt (txt ka (ka.length - 1)) s = true) (hbl : 0 < kb.length → slt (txt kb 0) s = false) (hbe : 0 < kb.length → ¬ txt kb 0 = s) (bnd : ka.length ≤ 1000000000 ∧ va.length ≤ 1000000000 ∧ pa.length ≤ 1000000000 ∧ kb.length ≤ 1000000000 ∧ vb.length ≤ 1000000000 ∧ pb.length ≤ 1000000000) (hN4 : 4 < N) :
    Ct (RUN tbl N d) (.fn (.fn (.func HvN.join)) [] []) [(.agg ra), (.str s), (.agg rb)] H fun v H' => ∃ q wk wv wp hk hv hp, v = .tup [.agg q, .int .i64 0] ∧ RL q [.bool false, wk, wv, wp] ∧ OwnN false (ka ++ ([s] ++ kb)) (va ++ vb) (pa ++ pb) wk wv wp hk hv hp ∧ Sat H' Z (hp ++ (hv ++ (hk ++ F))) := by
  obtain ⟨d, rfl⟩ : ∃ e, d = e + 10 := ⟨d - 10, by omega⟩
  obtain ⟨b1_, b2_, b3_, b4_, b5_, b6_⟩ := bnd
  have hN3 := ma.n
  refine ct_code T.join (b := b_vjoin) (env := [(.agg ra), (.str s), (.agg rb), u_, u_, u_, u_, u_, u_, u_, u_, u_, u_, u_, u_, u_, u_, u_, u_, u_, u_, u_, u_, u_, u_, u_, u_, u_, u_, u_, u_, u_, u_, u_, u_, u_, u_, u_, u_, u_, u_, u_, u_, u_, u_, u_, u_, u_, u_, u_, u_, u_, u_, u_, u_, u_, u_, u_, u_, u_, u_, u_, u_, u_, u_, u_, u_, u_, u_, u_, u_, u_, u_, u_, u_, u_, u_, u_, u_, u_, u_, u_, u_, u_, u_, u_, u_, u_, u_, u_, u_, u_, u_, u_, u_, u_, u_, u_, u_, u_, u_, u_, u_]) ?_
  unfold b_vjoin
  refine wp_seq (wp_reg ?_)
  obtain ⟨b1, H2, s3, k4⟩ := s_boxn hs hra
  refine wo_x (v := (.ptr b1 0)) (k4 rfl) ?_
  obtain ⟨b5, H6, s7, k8⟩ := s_boxn s3 hrb
  refine wo_x (v := (.ptr b5 0)) (k8 rfl) ?_
  obtain ⟨b9, H10, s11, k12⟩ := s_alloc s7 (RL.cat (RL.one (.bool false)) (RL.rep 3 .nils) rfl)
  refine wo_x (v := (.ptr b9 0)) (k12) (wo_mv (.int .i64 0) (wo_nil (thn_n (wp_seq (wp_block ?_)))))
  refine wp_seq (wp_reg ?_)
  obtain ⟨r13, q14, k15⟩ := s_ldn s11 2 0 4 
  refine wo_x (v := (.agg r13)) (k15 rfl) ?_
  obtain ⟨v16, H18, ⟨e17, s19⟩, k20⟩ := form_ok (N := N) (d := d + 9) TD (ks := ka) (vs := va) (ps := pa) TB (by omega) s11 q14 hka hva hpa ma.k ma.v ma.p ma.k' ma.v' ma.p' ma.q
  rw [dB_true Fa] at e17
  subst e17
  refine wo_call k20 (wo_x (v := (.bool false)) (w_lit (fun K => rfl)) (wo_mv (.bool false) (wo_yesF ?_)))
  obtain ⟨r21, q22, k23⟩ := s_ldn s19 1 0 4 
  refine wo_x (v := (.agg r21)) (k23 rfl) (wo_yesF ?_)
  obtain ⟨v24, H26, ⟨e25, s27⟩, k28⟩ := form_ok (N := N) (d := d + 9) TD (ks := kb) (vs := vb) (ps := pb) TB (by omega) s19 q22 hkb hvb hpb mb.k mb.v mb.p mb.k' mb.v' mb.p' mb.q
  rw [dB_true Fb] at e25
  subst e25
  refine wo_call k28 (wo_yesF (wo_x (v := (.bool false)) (w_lit (fun K => rfl)) (wo_x (v := (.bool false)) (w_pickF rfl rfl) (wo_mv (.bool false) (wo_yesF ?_)))))
  refine wo_x (v := (.ptr b1 0)) (ca_fla rfl rfl) (wo_yesF (wo_x (v := (.bool false)) (s_ld1 s27 2 rfl) (wo_yesF (wo_x (v := (.ptr b5 0)) (ca_fla rfl rfl) (wo_yesF ?_)))))
  refine wo_x (v := (.bool false)) (s_ld1 s27 1 rfl) (wo_yesF (wo_x (v := (.bool false)) (w_lit (fun K => rfl)) (wo_x (v := (.bool false)) (w_pickF rfl rfl) (wo_mv (.bool false) (wo_yesF ?_)))))
  refine wo_mv (.str s) (wo_yesF ?_)
  obtain ⟨v29, H31, ⟨e30, s32⟩, k33⟩ := key_ok (N := N) (d := d + 9) TD (s := s) (by omega) s27
  rw [dB_true hs0] at e30
  subst e30
  refine wo_call k33 (wo_yesF (wo_x (v := (.bool false)) (w_lit (fun K => rfl)) (wo_x (v := (.bool false)) (w_pickF rfl rfl) (wo_mv (.bool false) (wo_nil ?_)))))
  refine thn_n (wp_condF (wp_seq (wp_reg (wo_x (v := (.ptr b1 1)) (ca_fla rfl rfl) (wo_x (v := vka) (s_ld1 s32 2 rfl) ?_)))))
  refine wo_x (v := (.int .i64 (.ofNat ka.length))) (fl_len hka (strs_len ka) rfl) ?_
  by_cases c34 : 0 < ka.length
  · refine wo_x (v := (.bool true)) (w_bin (cmp_gtrT ka.length 0 (by omega))) (wo_mv (.bool true) (wo_yesT (wo_x (v := (.ptr b1 1)) (ca_fla rfl rfl) (wo_yesT (wo_x (v := vka) (s_ld1 s32 2 rfl) ?_)))))
    refine wo_yesT (wo_x (v := (.ptr b1 1)) (ca_fla rfl rfl) (wo_yesT (wo_x (v := vka) (s_ld1 s32 2 rfl) (wo_yesT (wo_x (v := (.int .i64 (.ofNat ka.length))) (fl_len hka (strs_len ka) rfl) ?_)))))
    refine wo_yesT (wo_x (v := (.int .i64 (.ofNat (ka.length - 1)))) (w_bin (sub_i64 ka.length 1 (by omega) (by omega))) (wo_yesT ?_))
    obtain ⟨b35, o36, L37, z38, g39, e40, n41, k42⟩ := fl_ix hka (ka.length - 1) (strs_get (show ka.length - 1 < ka.length by omega))
    refine wo_x (v := (.ptr b35 o36)) (k42 rfl rfl) (wo_yesT (wo_x (v := (.str (txt ka (ka.length - 1)))) (s_zld1 s32 z38 (g39 0 _ rfl)) (wo_yesT (wo_mv (.str s) (wo_yesT ?_)))))
    refine wo_x (v := (.bool false)) (w_bin (fun K => (str_geq (txt ka (ka.length - 1)) s K).trans (congrArg (fun z => K (.bool (!z))) (hal (by omega))))) (wo_x (v := (.bool false)) (w_pickT rfl rfl) (wo_mv (.bool false) (wo_nil (thn_n (wp_condF ?_)))))
    refine wp_seq (wp_reg (wo_x (v := (.ptr b5 1)) (ca_fla rfl rfl) (wo_x (v := vkb) (s_ld1 s32 1 rfl) (wo_x (v := (.int .i64 (.ofNat kb.length))) (fl_len hkb (strs_len kb) rfl) ?_))))
    by_cases c43 : 0 < kb.length
    · refine wo_x (v := (.bool true)) (w_bin (cmp_gtrT kb.length 0 (by omega))) (wo_mv (.bool true) (wo_yesT (wo_x (v := (.ptr b5 1)) (ca_fla rfl rfl) (wo_yesT (wo_x (v := vkb) (s_ld1 s32 1 rfl) ?_)))))
      refine wo_yesT ?_
      obtain ⟨b44, o45, L46, z47, g48, e49, n50, k51⟩ := fl_ix hkb 0 (strs_get (show 0 < kb.length by omega))
      refine wo_x (v := (.ptr b44 o45)) (k51 rfl rfl) (wo_yesT (wo_x (v := (.str (txt kb 0))) (s_zld1 s32 z47 (g48 0 _ rfl)) (wo_yesT (wo_mv (.str s) (wo_yesT ?_)))))
      refine wo_x (v := (.bool false)) (w_bin (fun K => (str_lss (txt kb 0) s K).trans (congrArg (fun z => K (.bool z)) (Bool.eq_false_iff.2 (fun h => by rw [hbl (by omega)] at h; cases h))))) (wo_yesT (wo_mv (.bool false) (wo_yesF (wo_x (v := (.ptr b5 1)) (ca_fla rfl rfl) (wo_yesF ?_)))))
      refine wo_x (v := vkb) (s_ld1 s32 1 rfl) (wo_yesF ?_)
      obtain ⟨b52, o53, L54, z55, g56, e57, n58, k59⟩ := fl_ix hkb 0 (strs_get (show 0 < kb.length by omega))
      refine wo_x (v := (.ptr b52 o53)) (k59 rfl rfl) (wo_yesF (wo_x (v := (.str (txt kb 0))) (s_zld1 s32 z55 (g56 0 _ rfl)) (wo_yesF (wo_mv (.str s) (wo_yesF ?_)))))
      refine wo_x (v := (.bool false)) (w_bin (str_eqlF (hbe (by omega)))) (wo_yesF (wo_mv (.bool false) (wo_noF (wo_noF (wo_noF ?_)))))
      refine wo_yesF (wo_x (v := (.bool false)) (w_pickF rfl rfl) (wo_yesT (wo_x (v := (.bool false)) (w_pickF rfl rfl) (wo_x (v := (.bool false)) (w_pickT rfl rfl) (wo_mv (.bool false) ?_)))))
      refine wo_nil (thn_n (wp_condF (wp_skip (blk_n (thn_n ?_)))))
      refine wp_seq (wp_reg (wo_mv .nils (wo_nil (thn_n (wp_seq ?_)))))
      refine wp_seq (wp_reg (wo_x (v := (.ptr b1 0)) (ca_fla rfl rfl) (wo_x (v := (.bool false)) (s_ld1 s32 2 rfl) (wo_x (v := (.bool true)) (w_lit (fun K => rfl)) (wo_nil ?_)))))
      refine thn_n (wp_condT (wp_reg (wo_mv (.str s) ?_)))
      obtain ⟨b60, H61, s62, k63⟩ := s_bsl s32 ((RL.rep 1 (.str [])).set 0 (.str s))
      refine wo_x (v := (.slc b60 0 1 1)) (k63 (fill_s (v := (.str s)) rfl rfl rfl fill_nil)) (wo_mv (.slc b60 0 1 1) (wo_nil (thn_n (wp_seq (wp_dreg ?_)))))
      refine wd_run (wo_x (v := (.ptr b1 0)) (ca_fla rfl rfl) (wo_nil (wd_run (wo_x (v := (.bool false)) (s_ld1 s62 3 rfl) (wo_nil ?_)))))
      refine wd_run (wo_x (v := (.ptr b1 1)) (ca_fla rfl rfl) (wo_nil (wd_run (wo_x (v := vka) (s_ld1 s62 3 rfl) (wo_nil ?_)))))
      refine wd_run (wo_mv (.slc b60 0 1 1) (wo_nil (wd_run (wo_x (v := (.ptr b5 1)) (ca_fla rfl rfl) (wo_nil ?_)))))
      refine wd_run (wo_x (v := vkb) (s_ld1 s62 2 rfl) (wo_nil (wd_run ?_)))
      obtain ⟨b64, H65, s66, k67⟩ := s_bsl s62 ((((RL.rep 3 .nils).set 0 vka).set 1 (.slc b60 0 1 1)).set 2 vkb)
      refine wo_x (v := (.slc b64 0 3 3)) (k67 (fill_s (v := vka) rfl (fl_sc hka) rfl (fill_s (v := (.slc b60 0 1 1)) rfl rfl rfl (fill_s (v := vkb) rfl (fl_sc hkb) rfl fill_nil)))) (wo_nil (wd_run (wo_x (v := (.ptr b1 2)) (ca_fla rfl rfl) (wo_nil (wd_run ?_)))))
      refine wo_x (v := vva) (s_ld1 s66 4 rfl) (wo_nil (wd_run (wo_x (v := (.ptr b5 2)) (ca_fla rfl rfl) (wo_nil (wd_run ?_)))))
      refine wo_x (v := vvb) (s_ld1 s66 3 rfl) (wo_nil (wd_run ?_))
      obtain ⟨b68, H69, s70, k71⟩ := s_bsl s66 (((RL.rep 2 .nils).set 0 vva).set 1 vvb)
      refine wo_x (v := (.slc b68 0 2 2)) (k71 (fill_s (v := vva) rfl (fl_sc hva) rfl (fill_s (v := vvb) rfl (fl_sc hvb) rfl fill_nil))) (wo_nil (wd_run (wo_x (v := (.ptr b1 3)) (ca_fla rfl rfl) (wo_nil (wd_run ?_)))))
      refine wo_x (v := vpa) (s_ld1 s70 5 rfl) (wo_nil (wd_run (wo_x (v := (.ptr b5 3)) (ca_fla rfl rfl) (wo_nil (wd_run ?_)))))
      refine wo_x (v := vpb) (s_ld1 s70 4 rfl) (wo_nil (wd_run ?_))
      obtain ⟨b72, H73, s74, k75⟩ := s_bsl s70 (((RL.rep 2 .nils).set 0 vpa).set 1 vpb)
      refine wo_x (v := (.slc b72 0 2 2)) (k75 (fill_s (v := vpa) rfl (fl_sc hpa) rfl (fill_s (v := vpb) rfl (fl_sc hpb) rfl fill_nil))) (wo_nil (wd_nil (ws_cons ?_)))
      have s76 := s74.pull 2
      have s77 := s76.pull 3
      obtain ⟨Z78, l79, s80, f81, g82⟩ := own_lend (l := (.cells b64 [vka, (.slc b60 0 1 1), vkb]) :: (.cells b72 [vpa, vpb]) :: (.cells b68 [vva, vvb]) :: (.cells b9 [(.bool false), .nils, .nils, .nils]) :: (.cells b5 [(.bool false), vkb, vvb, vpb]) :: (.cells b1 [(.bool false), vka, vva, vpa]) :: F) (xs := strs [s]) strs_one s77 (show Own 1 (.slc b60 0 1 1) 1 (strs [s]).flatten [.cells b60 [(.str s)]] from .slc b60 1 [(.str s)] rfl) rfl
      obtain ⟨v83, H84, ⟨l85, o86, s87⟩, k88⟩ := conS3_ok T (N := N) (d := d + 9) (kx1 := ka) (kx2 := [s]) (kx3 := kb) (by omega) s80 (hka.mono l79) (by first | omega | (simp; done) | (simp; omega)) f81 (by first | omega | (simp; done) | (simp; omega)) (hkb.mono l79) (by first | omega | (simp; done) | (simp; omega)) (by omega)
      have s89 := (g82 _ s87).drop 0
      have s90 : Sat H84 Z ((.cells b72 [vpa, vpb]) :: (.cells b68 [vva, vvb]) :: (.cells b9 [(.bool false), .nils, .nils, .nils]) :: (.cells b5 [(.bool false), vkb, vvb, vpb]) :: (.cells b1 [(.bool false), vka, vva, vpa]) :: (l85 ++ F)) := Sat.rot (l₁ := l85) (hl := [.cells b72 [vpa, vpb], .cells b68 [vva, vvb], .cells b9 [(.bool false), .nils, .nils, .nils], .cells b5 [(.bool false), vkb, vvb, vpb], .cells b1 [(.bool false), vka, vva, vpa]]) s89
      refine wo_call k88 (wo_nil (wd_again (v := (.bool false)) (hs := same_bool) (s_ld1 s90 4 rfl) (wd_again (v := vva) (hs := fl_same hva) (s_ld1 s90 4 rfl) (wd_again (v := vvb) (hs := fl_same hvb) (s_ld1 s90 3 rfl) (wd_again (v := vpa) (hs := fl_same hpa) (s_ld1 s90 4 rfl) ?_)))))
      refine wd_again (v := vpb) (hs := fl_same hpb) (s_ld1 s90 3 rfl) (wd_nil (ws_cons ?_))
      have s91 := s90.pull 1
      obtain ⟨v97, H98, ⟨l99, o100, s101⟩, k102⟩ := conS2_ok T (N := N) (d := d + 9) (kx1 := va) (kx2 := vb) (by omega) s91 hva (by first | omega | (simp; done) | (simp; omega)) hvb (by first | omega | (simp; done) | (simp; omega)) (by omega)
      have s103 : Sat H98 Z ((.cells b72 [vpa, vpb]) :: (.cells b9 [(.bool false), .nils, .nils, .nils]) :: (.cells b5 [(.bool false), vkb, vvb, vpb]) :: (.cells b1 [(.bool false), vka, vva, vpa]) :: (l99 ++ (l85 ++ F))) := Sat.rot (l₁ := l99) (hl := [.cells b72 [vpa, vpb], .cells b9 [(.bool false), .nils, .nils, .nils], .cells b5 [(.bool false), vkb, vvb, vpb], .cells b1 [(.bool false), vka, vva, vpa]]) s101
      refine wo_call k102 (wo_nil (wd_again (v := (.bool false)) (hs := same_bool) (s_ld1 s103 3 rfl) (wd_again (v := vpa) (hs := fl_same hpa) (s_ld1 s103 3 rfl) (wd_again (v := vpb) (hs := fl_same hpb) (s_ld1 s103 2 rfl) (wd_nil ?_)))))
      refine ws_cons ?_
      obtain ⟨v109, H110, ⟨l111, o112, s113⟩, k114⟩ := conP2_ok T (N := N) (d := d + 9) (kx1 := pa) (kx2 := pb) (by omega) s103 hpa (by first | omega | (simp; done) | (simp; omega)) hpb (by first | omega | (simp; done) | (simp; omega)) (by omega)
      have s115 : Sat H110 Z ((.cells b9 [(.bool false), .nils, .nils, .nils]) :: (.cells b5 [(.bool false), vkb, vvb, vpb]) :: (.cells b1 [(.bool false), vka, vva, vpa]) :: (l111 ++ (l99 ++ (l85 ++ F)))) := Sat.rot (l₁ := l111) (hl := [.cells b9 [(.bool false), .nils, .nils, .nils], .cells b5 [(.bool false), vkb, vvb, vpb], .cells b1 [(.bool false), vka, vva, vpa]]) s113
      refine wo_call k114 (wo_nil (wd_again (v := (.bool false)) (hs := same_bool) (s_ld1 s115 2 rfl) (wd_run (wo_x (v := (.agg (Rp.set (Rp.set (Rp.set (Rp.set (.cat 1 (.one (.bool false)) (.rep 3 .nils)) 0 (.bool false)) 1 v83) 2 v97) 3 v109))) (w_build (r := (Rp.set (Rp.set (Rp.set (Rp.set (.cat 1 (.one (.bool false)) (.rep 3 .nils)) 0 (.bool false)) 1 v83) 2 v97) 3 v109)) (fill_s (v := (.bool false)) rfl rfl rfl (fill_s (v := v83) rfl (own_sc o86) rfl (fill_s (v := v97) rfl (own_sc o100) rfl (fill_s (v := v109) rfl (own_sc o112) rfl fill_nil))))) (wo_nil ?_)))))
      refine wd_nil (ws_cons ?_)
      obtain ⟨H116, s117, k118⟩ := s_stn s115 (((((RL.cat (RL.one (.bool false)) (RL.rep 3 .nils) rfl).set 0 (.bool false)).set 1 v83).set 2 v97).set 3 v109) 0 4 rfl (Nat.le_of_ble_eq_true rfl)
      refine wo_n (k118 rfl rfl) (wo_nil (wd_run (wo_mv (.int .i64 0) (wo_nil (wd_nil ?_)))))
      refine ws_nil (thn_n (wp_ret ?_))
      refine fin_ct (w := (.int .i64 0)) (off := 0) s117 0 fun r119 q120 => ?_
      have s121 := s117.drop 0
      have s122 := s121.drop 0
      have s123 := s122.drop 0
      exact ⟨_, _, _, _, _, _, _, rfl, q120, ⟨o86, o100, o112⟩, s123⟩
    · refine wo_x (v := (.bool false)) (w_bin (cmp_gtrF kb.length 0 (by omega))) (wo_mv (.bool false) (wo_noF (wo_noF (wo_noF (wo_noF ?_)))))
      refine wo_noF (wo_noF (wo_noF (wo_noU (wo_noU (wo_noU ?_)))))
      refine wo_noU (wo_noU (wo_noU (wo_noU (wo_noU (wo_noU ?_)))))
      refine wo_noU (wo_noU (wo_noF (wo_x (v := (.bool false)) (w_pickF rfl rfl) (wo_mv (.bool false) (wo_nil ?_)))))
      refine thn_n (wp_condF (wp_skip (blk_n (thn_n (wp_seq ?_)))))
      refine wp_reg (wo_mv .nils (wo_nil (thn_n (wp_seq (wp_seq ?_)))))
      refine wp_reg (wo_x (v := (.ptr b1 0)) (ca_fla rfl rfl) (wo_x (v := (.bool false)) (s_ld1 s32 2 rfl) (wo_x (v := (.bool true)) (w_lit (fun K => rfl)) (wo_nil (thn_n ?_)))))
      refine wp_condT (wp_reg (wo_mv (.str s) ?_))
      obtain ⟨b124, H125, s126, k127⟩ := s_bsl s32 ((RL.rep 1 (.str [])).set 0 (.str s))
      refine wo_x (v := (.slc b124 0 1 1)) (k127 (fill_s (v := (.str s)) rfl rfl rfl fill_nil)) (wo_mv (.slc b124 0 1 1) (wo_nil (thn_n (wp_seq (wp_dreg ?_)))))
      refine wd_run (wo_x (v := (.ptr b1 0)) (ca_fla rfl rfl) (wo_nil (wd_run (wo_x (v := (.bool false)) (s_ld1 s126 3 rfl) (wo_nil ?_)))))
      refine wd_run (wo_x (v := (.ptr b1 1)) (ca_fla rfl rfl) (wo_nil (wd_run (wo_x (v := vka) (s_ld1 s126 3 rfl) (wo_nil ?_)))))
      refine wd_run (wo_mv (.slc b124 0 1 1) (wo_nil (wd_run (wo_x (v := (.ptr b5 1)) (ca_fla rfl rfl) (wo_nil ?_)))))
      refine wd_run (wo_x (v := vkb) (s_ld1 s126 2 rfl) (wo_nil (wd_run ?_)))
      obtain ⟨b128, H129, s130, k131⟩ := s_bsl s126 ((((RL.rep 3 .nils).set 0 vka).set 1 (.slc b124 0 1 1)).set 2 vkb)
      refine wo_x (v := (.slc b128 0 3 3)) (k131 (fill_s (v := vka) rfl (fl_sc hka) rfl (fill_s (v := (.slc b124 0 1 1)) rfl rfl rfl (fill_s (v := vkb) rfl (fl_sc hkb) rfl fill_nil)))) (wo_nil (wd_run (wo_x (v := (.ptr b1 2)) (ca_fla rfl rfl) (wo_nil (wd_run ?_)))))
      refine wo_x (v := vva) (s_ld1 s130 4 rfl) (wo_nil (wd_run (wo_x (v := (.ptr b5 2)) (ca_fla rfl rfl) (wo_nil (wd_run ?_)))))
      refine wo_x (v := vvb) (s_ld1 s130 3 rfl) (wo_nil (wd_run ?_))
      obtain ⟨b132, H133, s134, k135⟩ := s_bsl s130 (((RL.rep 2 .nils).set 0 vva).set 1 vvb)
      refine wo_x (v := (.slc b132 0 2 2)) (k135 (fill_s (v := vva) rfl (fl_sc hva) rfl (fill_s (v := vvb) rfl (fl_sc hvb) rfl fill_nil))) (wo_nil (wd_run (wo_x (v := (.ptr b1 3)) (ca_fla rfl rfl) (wo_nil (wd_run ?_)))))
      refine wo_x (v := vpa) (s_ld1 s134 5 rfl) (wo_nil (wd_run (wo_x (v := (.ptr b5 3)) (ca_fla rfl rfl) (wo_nil (wd_run ?_)))))
      refine wo_x (v := vpb) (s_ld1 s134 4 rfl) (wo_nil (wd_run ?_))
      obtain ⟨b136, H137, s138, k139⟩ := s_bsl s134 (((RL.rep 2 .nils).set 0 vpa).set 1 vpb)
      refine wo_x (v := (.slc b136 0 2 2)) (k139 (fill_s (v := vpa) rfl (fl_sc hpa) rfl (fill_s (v := vpb) rfl (fl_sc hpb) rfl fill_nil))) (wo_nil (wd_nil (ws_cons ?_)))
      have s140 := s138.pull 2
      have s141 := s140.pull 3
      obtain ⟨Z142, l143, s144, f145, g146⟩ := own_lend (l := (.cells b128 [vka, (.slc b124 0 1 1), vkb]) :: (.cells b136 [vpa, vpb]) :: (.cells b132 [vva, vvb]) :: (.cells b9 [(.bool false), .nils, .nils, .nils]) :: (.cells b5 [(.bool false), vkb, vvb, vpb]) :: (.cells b1 [(.bool false), vka, vva, vpa]) :: F) (xs := strs [s]) strs_one s141 (show Own 1 (.slc b124 0 1 1) 1 (strs [s]).flatten [.cells b124 [(.str s)]] from .slc b124 1 [(.str s)] rfl) rfl
      obtain ⟨v147, H148, ⟨l149, o150, s151⟩, k152⟩ := conS3_ok T (N := N) (d := d + 9) (kx1 := ka) (kx2 := [s]) (kx3 := kb) (by omega) s144 (hka.mono l143) (by first | omega | (simp; done) | (simp; omega)) f145 (by first | omega | (simp; done) | (simp; omega)) (hkb.mono l143) (by first | omega | (simp; done) | (simp; omega)) (by omega)
      have s153 := (g146 _ s151).drop 0
      have s154 : Sat H148 Z ((.cells b136 [vpa, vpb]) :: (.cells b132 [vva, vvb]) :: (.cells b9 [(.bool false), .nils, .nils, .nils]) :: (.cells b5 [(.bool false), vkb, vvb, vpb]) :: (.cells b1 [(.bool false), vka, vva, vpa]) :: (l149 ++ F)) := Sat.rot (l₁ := l149) (hl := [.cells b136 [vpa, vpb], .cells b132 [vva, vvb], .cells b9 [(.bool false), .nils, .nils, .nils], .cells b5 [(.bool false), vkb, vvb, vpb], .cells b1 [(.bool false), vka, vva, vpa]]) s153
      refine wo_call k152 (wo_nil (wd_again (v := (.bool false)) (hs := same_bool) (s_ld1 s154 4 rfl) (wd_again (v := vva) (hs := fl_same hva) (s_ld1 s154 4 rfl) (wd_again (v := vvb) (hs := fl_same hvb) (s_ld1 s154 3 rfl) (wd_again (v := vpa) (hs := fl_same hpa) (s_ld1 s154 4 rfl) ?_)))))
      refine wd_again (v := vpb) (hs := fl_same hpb) (s_ld1 s154 3 rfl) (wd_nil (ws_cons ?_))
      have s155 := s154.pull 1
      obtain ⟨v161, H162, ⟨l163, o164, s165⟩, k166⟩ := conS2_ok T (N := N) (d := d + 9) (kx1 := va) (kx2 := vb) (by omega) s155 hva (by first | omega | (simp; done) | (simp; omega)) hvb (by first | omega | (simp; done) | (simp; omega)) (by omega)
      have s167 : Sat H162 Z ((.cells b136 [vpa, vpb]) :: (.cells b9 [(.bool false), .nils, .nils, .nils]) :: (.cells b5 [(.bool false), vkb, vvb, vpb]) :: (.cells b1 [(.bool false), vka, vva, vpa]) :: (l163 ++ (l149 ++ F))) := Sat.rot (l₁ := l163) (hl := [.cells b136 [vpa, vpb], .cells b9 [(.bool false), .nils, .nils, .nils], .cells b5 [(.bool false), vkb, vvb, vpb], .cells b1 [(.bool false), vka, vva, vpa]]) s165
      refine wo_call k166 (wo_nil (wd_again (v := (.bool false)) (hs := same_bool) (s_ld1 s167 3 rfl) (wd_again (v := vpa) (hs := fl_same hpa) (s_ld1 s167 3 rfl) (wd_again (v := vpb) (hs := fl_same hpb) (s_ld1 s167 2 rfl) (wd_nil ?_)))))
      refine ws_cons ?_
      obtain ⟨v173, H174, ⟨l175, o176, s177⟩, k178⟩ := conP2_ok T (N := N) (d := d + 9) (kx1 := pa) (kx2 := pb) (by omega) s167 hpa (by first | omega | (simp; done) | (simp; omega)) hpb (by first | omega | (simp; done) | (simp; omega)) (by omega)
      have s179 : Sat H174 Z ((.cells b9 [(.bool false), .nils, .nils, .nils]) :: (.cells b5 [(.bool false), vkb, vvb, vpb]) :: (.cells b1 [(.bool false), vka, vva, vpa]) :: (l175 ++ (l163 ++ (l149 ++ F)))) := Sat.rot (l₁ := l175) (hl := [.cells b9 [(.bool false), .nils, .nils, .nils], .cells b5 [(.bool false), vkb, vvb, vpb], .cells b1 [(.bool false), vka, vva, vpa]]) s177
      refine wo_call k178 (wo_nil (wd_again (v := (.bool false)) (hs := same_bool) (s_ld1 s179 2 rfl) (wd_run (wo_x (v := (.agg (Rp.set (Rp.set (Rp.set (Rp.set (.cat 1 (.one (.bool false)) (.rep 3 .nils)) 0 (.bool false)) 1 v147) 2 v161) 3 v173))) (w_build (r := (Rp.set (Rp.set (Rp.set (Rp.set (.cat 1 (.one (.bool false)) (.rep 3 .nils)) 0 (.bool false)) 1 v147) 2 v161) 3 v173)) (fill_s (v := (.bool false)) rfl rfl rfl (fill_s (v := v147) rfl (own_sc o150) rfl (fill_s (v := v161) rfl (own_sc o164) rfl (fill_s (v := v173) rfl (own_sc o176) rfl fill_nil))))) (wo_nil ?_)))))
      refine wd_nil (ws_cons ?_)
      obtain ⟨H180, s181, k182⟩ := s_stn s179 (((((RL.cat (RL.one (.bool false)) (RL.rep 3 .nils) rfl).set 0 (.bool false)).set 1 v147).set 2 v161).set 3 v173) 0 4 rfl (Nat.le_of_ble_eq_true rfl)
      refine wo_n (k182 rfl rfl) (wo_nil (wd_run (wo_mv (.int .i64 0) (wo_nil (wd_nil ?_)))))
      refine ws_nil (thn_n (wp_ret ?_))
      refine fin_ct (w := (.int .i64 0)) (off := 0) s181 0 fun r183 q184 => ?_
      have s185 := s181.drop 0
      have s186 := s185.drop 0
      have s187 := s186.drop 0
      exact ⟨_, _, _, _, _, _, _, rfl, q184, ⟨o150, o164, o176⟩, s187⟩
  · refine wo_x (v := (.bool false)) (w_bin (cmp_gtrF ka.length 0 (by omega))) (wo_mv (.bool false) (wo_noF (wo_noF (wo_noF (wo_noF ?_)))))
    refine wo_noF (wo_noF (wo_noF (wo_noF (wo_noF (wo_noF ?_)))))
    refine wo_x (v := (.bool false)) (w_pickF rfl rfl) (wo_mv (.bool false) (wo_nil (thn_n (wp_condF (wp_seq ?_)))))
    refine wp_reg (wo_x (v := (.ptr b5 1)) (ca_fla rfl rfl) (wo_x (v := vkb) (s_ld1 s32 1 rfl) (wo_x (v := (.int .i64 (.ofNat kb.length))) (fl_len hkb (strs_len kb) rfl) ?_)))
    by_cases c188 : 0 < kb.length
    · refine wo_x (v := (.bool true)) (w_bin (cmp_gtrT kb.length 0 (by omega))) (wo_mv (.bool true) (wo_yesT (wo_x (v := (.ptr b5 1)) (ca_fla rfl rfl) (wo_yesT (wo_x (v := vkb) (s_ld1 s32 1 rfl) ?_)))))
      refine wo_yesT ?_
      obtain ⟨b189, o190, L191, z192, g193, e194, n195, k196⟩ := fl_ix hkb 0 (strs_get (show 0 < kb.length by omega))
      refine wo_x (v := (.ptr b189 o190)) (k196 rfl rfl) (wo_yesT (wo_x (v := (.str (txt kb 0))) (s_zld1 s32 z192 (g193 0 _ rfl)) (wo_yesT (wo_mv (.str s) (wo_yesT ?_)))))
      refine wo_x (v := (.bool false)) (w_bin (fun K => (str_lss (txt kb 0) s K).trans (congrArg (fun z => K (.bool z)) (Bool.eq_false_iff.2 (fun h => by rw [hbl (by omega)] at h; cases h))))) (wo_yesT (wo_mv (.bool false) (wo_yesF (wo_x (v := (.ptr b5 1)) (ca_fla rfl rfl) (wo_yesF ?_)))))
      refine wo_x (v := vkb) (s_ld1 s32 1 rfl) (wo_yesF ?_)
      obtain ⟨b197, o198, L199, z200, g201, e202, n203, k204⟩ := fl_ix hkb 0 (strs_get (show 0 < kb.length by omega))
      refine wo_x (v := (.ptr b197 o198)) (k204 rfl rfl) (wo_yesF (wo_x (v := (.str (txt kb 0))) (s_zld1 s32 z200 (g201 0 _ rfl)) (wo_yesF (wo_mv (.str s) (wo_yesF ?_)))))
      refine wo_x (v := (.bool false)) (w_bin (str_eqlF (hbe (by omega)))) (wo_yesF (wo_mv (.bool false) (wo_noF (wo_noF (wo_noF ?_)))))
      refine wo_yesF (wo_x (v := (.bool false)) (w_pickF rfl rfl) (wo_yesT (wo_x (v := (.bool false)) (w_pickF rfl rfl) (wo_x (v := (.bool false)) (w_pickT rfl rfl) (wo_mv (.bool false) ?_)))))
      refine wo_nil (thn_n (wp_condF (wp_skip (blk_n (thn_n ?_)))))
      refine wp_seq (wp_reg (wo_mv .nils (wo_nil (thn_n (wp_seq ?_)))))
      refine wp_seq (wp_reg (wo_x (v := (.ptr b1 0)) (ca_fla rfl rfl) (wo_x (v := (.bool false)) (s_ld1 s32 2 rfl) (wo_x (v := (.bool true)) (w_lit (fun K => rfl)) (wo_nil ?_)))))
      refine thn_n (wp_condT (wp_reg (wo_mv (.str s) ?_)))
      obtain ⟨b205, H206, s207, k208⟩ := s_bsl s32 ((RL.rep 1 (.str [])).set 0 (.str s))
      refine wo_x (v := (.slc b205 0 1 1)) (k208 (fill_s (v := (.str s)) rfl rfl rfl fill_nil)) (wo_mv (.slc b205 0 1 1) (wo_nil (thn_n (wp_seq (wp_dreg ?_)))))
      refine wd_run (wo_x (v := (.ptr b1 0)) (ca_fla rfl rfl) (wo_nil (wd_run (wo_x (v := (.bool false)) (s_ld1 s207 3 rfl) (wo_nil ?_)))))
      refine wd_run (wo_x (v := (.ptr b1 1)) (ca_fla rfl rfl) (wo_nil (wd_run (wo_x (v := vka) (s_ld1 s207 3 rfl) (wo_nil ?_)))))
      refine wd_run (wo_mv (.slc b205 0 1 1) (wo_nil (wd_run (wo_x (v := (.ptr b5 1)) (ca_fla rfl rfl) (wo_nil ?_)))))
      refine wd_run (wo_x (v := vkb) (s_ld1 s207 2 rfl) (wo_nil (wd_run ?_)))
      obtain ⟨b209, H210, s211, k212⟩ := s_bsl s207 ((((RL.rep 3 .nils).set 0 vka).set 1 (.slc b205 0 1 1)).set 2 vkb)
      refine wo_x (v := (.slc b209 0 3 3)) (k212 (fill_s (v := vka) rfl (fl_sc hka) rfl (fill_s (v := (.slc b205 0 1 1)) rfl rfl rfl (fill_s (v := vkb) rfl (fl_sc hkb) rfl fill_nil)))) (wo_nil (wd_run (wo_x (v := (.ptr b1 2)) (ca_fla rfl rfl) (wo_nil (wd_run ?_)))))
      refine wo_x (v := vva) (s_ld1 s211 4 rfl) (wo_nil (wd_run (wo_x (v := (.ptr b5 2)) (ca_fla rfl rfl) (wo_nil (wd_run ?_)))))
      refine wo_x (v := vvb) (s_ld1 s211 3 rfl) (wo_nil (wd_run ?_))
      obtain ⟨b213, H214, s215, k216⟩ := s_bsl s211 (((RL.rep 2 .nils).set 0 vva).set 1 vvb)
      refine wo_x (v := (.slc b213 0 2 2)) (k216 (fill_s (v := vva) rfl (fl_sc hva) rfl (fill_s (v := vvb) rfl (fl_sc hvb) rfl fill_nil))) (wo_nil (wd_run (wo_x (v := (.ptr b1 3)) (ca_fla rfl rfl) (wo_nil (wd_run ?_)))))
      refine wo_x (v := vpa) (s_ld1 s215 5 rfl) (wo_nil (wd_run (wo_x (v := (.ptr b5 3)) (ca_fla rfl rfl) (wo_nil (wd_run ?_)))))
      refine wo_x (v := vpb) (s_ld1 s215 4 rfl) (wo_nil (wd_run ?_))
      obtain ⟨b217, H218, s219, k220⟩ := s_bsl s215 (((RL.rep 2 .nils).set 0 vpa).set 1 vpb)
      refine wo_x (v := (.slc b217 0 2 2)) (k220 (fill_s (v := vpa) rfl (fl_sc hpa) rfl (fill_s (v := vpb) rfl (fl_sc hpb) rfl fill_nil))) (wo_nil (wd_nil (ws_cons ?_)))
      have s221 := s219.pull 2
      have s222 := s221.pull 3
      obtain ⟨Z223, l224, s225, f226, g227⟩ := own_lend (l := (.cells b209 [vka, (.slc b205 0 1 1), vkb]) :: (.cells b217 [vpa, vpb]) :: (.cells b213 [vva, vvb]) :: (.cells b9 [(.bool false), .nils, .nils, .nils]) :: (.cells b5 [(.bool false), vkb, vvb, vpb]) :: (.cells b1 [(.bool false), vka, vva, vpa]) :: F) (xs := strs [s]) strs_one s222 (show Own 1 (.slc b205 0 1 1) 1 (strs [s]).flatten [.cells b205 [(.str s)]] from .slc b205 1 [(.str s)] rfl) rfl
      obtain ⟨v228, H229, ⟨l230, o231, s232⟩, k233⟩ := conS3_ok T (N := N) (d := d + 9) (kx1 := ka) (kx2 := [s]) (kx3 := kb) (by omega) s225 (hka.mono l224) (by first | omega | (simp; done) | (simp; omega)) f226 (by first | omega | (simp; done) | (simp; omega)) (hkb.mono l224) (by first | omega | (simp; done) | (simp; omega)) (by omega)
      have s234 := (g227 _ s232).drop 0
      have s235 : Sat H229 Z ((.cells b217 [vpa, vpb]) :: (.cells b213 [vva, vvb]) :: (.cells b9 [(.bool false), .nils, .nils, .nils]) :: (.cells b5 [(.bool false), vkb, vvb, vpb]) :: (.cells b1 [(.bool false), vka, vva, vpa]) :: (l230 ++ F)) := Sat.rot (l₁ := l230) (hl := [.cells b217 [vpa, vpb], .cells b213 [vva, vvb], .cells b9 [(.bool false), .nils, .nils, .nils], .cells b5 [(.bool false), vkb, vvb, vpb], .cells b1 [(.bool false), vka, vva, vpa]]) s234
      refine wo_call k233 (wo_nil (wd_again (v := (.bool false)) (hs := same_bool) (s_ld1 s235 4 rfl) (wd_again (v := vva) (hs := fl_same hva) (s_ld1 s235 4 rfl) (wd_again (v := vvb) (hs := fl_same hvb) (s_ld1 s235 3 rfl) (wd_again (v := vpa) (hs := fl_same hpa) (s_ld1 s235 4 rfl) ?_)))))
      refine wd_again (v := vpb) (hs := fl_same hpb) (s_ld1 s235 3 rfl) (wd_nil (ws_cons ?_))
      have s236 := s235.pull 1
      obtain ⟨v242, H243, ⟨l244, o245, s246⟩, k247⟩ := conS2_ok T (N := N) (d := d + 9) (kx1 := va) (kx2 := vb) (by omega) s236 hva (by first | omega | (simp; done) | (simp; omega)) hvb (by first | omega | (simp; done) | (simp; omega)) (by omega)
      have s248 : Sat H243 Z ((.cells b217 [vpa, vpb]) :: (.cells b9 [(.bool false), .nils, .nils, .nils]) :: (.cells b5 [(.bool false), vkb, vvb, vpb]) :: (.cells b1 [(.bool false), vka, vva, vpa]) :: (l244 ++ (l230 ++ F))) := Sat.rot (l₁ := l244) (hl := [.cells b217 [vpa, vpb], .cells b9 [(.bool false), .nils, .nils, .nils], .cells b5 [(.bool false), vkb, vvb, vpb], .cells b1 [(.bool false), vka, vva, vpa]]) s246
      refine wo_call k247 (wo_nil (wd_again (v := (.bool false)) (hs := same_bool) (s_ld1 s248 3 rfl) (wd_again (v := vpa) (hs := fl_same hpa) (s_ld1 s248 3 rfl) (wd_again (v := vpb) (hs := fl_same hpb) (s_ld1 s248 2 rfl) (wd_nil ?_)))))
      refine ws_cons ?_
      obtain ⟨v254, H255, ⟨l256, o257, s258⟩, k259⟩ := conP2_ok T (N := N) (d := d + 9) (kx1 := pa) (kx2 := pb) (by omega) s248 hpa (by first | omega | (simp; done) | (simp; omega)) hpb (by first | omega | (simp; done) | (simp; omega)) (by omega)
      have s260 : Sat H255 Z ((.cells b9 [(.bool false), .nils, .nils, .nils]) :: (.cells b5 [(.bool false), vkb, vvb, vpb]) :: (.cells b1 [(.bool false), vka, vva, vpa]) :: (l256 ++ (l244 ++ (l230 ++ F)))) := Sat.rot (l₁ := l256) (hl := [.cells b9 [(.bool false), .nils, .nils, .nils], .cells b5 [(.bool false), vkb, vvb, vpb], .cells b1 [(.bool false), vka, vva, vpa]]) s258
      refine wo_call k259 (wo_nil (wd_again (v := (.bool false)) (hs := same_bool) (s_ld1 s260 2 rfl) (wd_run (wo_x (v := (.agg (Rp.set (Rp.set (Rp.set (Rp.set (.cat 1 (.one (.bool false)) (.rep 3 .nils)) 0 (.bool false)) 1 v228) 2 v242) 3 v254))) (w_build (r := (Rp.set (Rp.set (Rp.set (Rp.set (.cat 1 (.one (.bool false)) (.rep 3 .nils)) 0 (.bool false)) 1 v228) 2 v242) 3 v254)) (fill_s (v := (.bool false)) rfl rfl rfl (fill_s (v := v228) rfl (own_sc o231) rfl (fill_s (v := v242) rfl (own_sc o245) rfl (fill_s (v := v254) rfl (own_sc o257) rfl fill_nil))))) (wo_nil ?_)))))
      refine wd_nil (ws_cons ?_)
      obtain ⟨H261, s262, k263⟩ := s_stn s260 (((((RL.cat (RL.one (.bool false)) (RL.rep 3 .nils) rfl).set 0 (.bool false)).set 1 v228).set 2 v242).set 3 v254) 0 4 rfl (Nat.le_of_ble_eq_true rfl)
      refine wo_n (k263 rfl rfl) (wo_nil (wd_run (wo_mv (.int .i64 0) (wo_nil (wd_nil ?_)))))
      refine ws_nil (thn_n (wp_ret ?_))
      refine fin_ct (w := (.int .i64 0)) (off := 0) s262 0 fun r264 q265 => ?_
      have s266 := s262.drop 0
      have s267 := s266.drop 0
      have s268 := s267.drop 0
      exact ⟨_, _, _, _, _, _, _, rfl, q265, ⟨o231, o245, o257⟩, s268⟩
    · refine wo_x (v := (.bool false)) (w_bin (cmp_gtrF kb.length 0 (by omega))) (wo_mv (.bool false) (wo_noF (wo_noF (wo_noF (wo_noF ?_)))))
      refine wo_noF (wo_noF (wo_noF (wo_noU (wo_noU (wo_noU ?_)))))
      refine wo_noU (wo_noU (wo_noU (wo_noU (wo_noU (wo_noU ?_)))))
      refine wo_noU (wo_noU (wo_noF (wo_x (v := (.bool false)) (w_pickF rfl rfl) (wo_mv (.bool false) (wo_nil ?_)))))
      refine thn_n (wp_condF (wp_skip (blk_n (thn_n (wp_seq ?_)))))
      refine wp_reg (wo_mv .nils (wo_nil (thn_n (wp_seq (wp_seq ?_)))))
      refine wp_reg (wo_x (v := (.ptr b1 0)) (ca_fla rfl rfl) (wo_x (v := (.bool false)) (s_ld1 s32 2 rfl) (wo_x (v := (.bool true)) (w_lit (fun K => rfl)) (wo_nil (thn_n ?_)))))
      refine wp_condT (wp_reg (wo_mv (.str s) ?_))
      obtain ⟨b269, H270, s271, k272⟩ := s_bsl s32 ((RL.rep 1 (.str [])).set 0 (.str s))
      refine wo_x (v := (.slc b269 0 1 1)) (k272 (fill_s (v := (.str s)) rfl rfl rfl fill_nil)) (wo_mv (.slc b269 0 1 1) (wo_nil (thn_n (wp_seq (wp_dreg ?_)))))
      refine wd_run (wo_x (v := (.ptr b1 0)) (ca_fla rfl rfl) (wo_nil (wd_run (wo_x (v := (.bool false)) (s_ld1 s271 3 rfl) (wo_nil ?_)))))
      refine wd_run (wo_x (v := (.ptr b1 1)) (ca_fla rfl rfl) (wo_nil (wd_run (wo_x (v := vka) (s_ld1 s271 3 rfl) (wo_nil ?_)))))
      refine wd_run (wo_mv (.slc b269 0 1 1) (wo_nil (wd_run (wo_x (v := (.ptr b5 1)) (ca_fla rfl rfl) (wo_nil ?_)))))
      refine wd_run (wo_x (v := vkb) (s_ld1 s271 2 rfl) (wo_nil (wd_run ?_)))
      obtain ⟨b273, H274, s275, k276⟩ := s_bsl s271 ((((RL.rep 3 .nils).set 0 vka).set 1 (.slc b269 0 1 1)).set 2 vkb)
      refine wo_x (v := (.slc b273 0 3 3)) (k276 (fill_s (v := vka) rfl (fl_sc hka) rfl (fill_s (v := (.slc b269 0 1 1)) rfl rfl rfl (fill_s (v := vkb) rfl (fl_sc hkb) rfl fill_nil)))) (wo_nil (wd_run (wo_x (v := (.ptr b1 2)) (ca_fla rfl rfl) (wo_nil (wd_run ?_)))))
      refine wo_x (v := vva) (s_ld1 s275 4 rfl) (wo_nil (wd_run (wo_x (v := (.ptr b5 2)) (ca_fla rfl rfl) (wo_nil (wd_run ?_)))))
      refine wo_x (v := vvb) (s_ld1 s275 3 rfl) (wo_nil (wd_run ?_))
      obtain ⟨b277, H278, s279, k280⟩ := s_bsl s275 (((RL.rep 2 .nils).set 0 vva).set 1 vvb)
      refine wo_x (v := (.slc b277 0 2 2)) (k280 (fill_s (v := vva) rfl (fl_sc hva) rfl (fill_s (v := vvb) rfl (fl_sc hvb) rfl fill_nil))) (wo_nil (wd_run (wo_x (v := (.ptr b1 3)) (ca_fla rfl rfl) (wo_nil (wd_run ?_)))))
      refine wo_x (v := vpa) (s_ld1 s279 5 rfl) (wo_nil (wd_run (wo_x (v := (.ptr b5 3)) (ca_fla rfl rfl) (wo_nil (wd_run ?_)))))
      refine wo_x (v := vpb) (s_ld1 s279 4 rfl) (wo_nil (wd_run ?_))
      obtain ⟨b281, H282, s283, k284⟩ := s_bsl s279 (((RL.rep 2 .nils).set 0 vpa).set 1 vpb)
      refine wo_x (v := (.slc b281 0 2 2)) (k284 (fill_s (v := vpa) rfl (fl_sc hpa) rfl (fill_s (v := vpb) rfl (fl_sc hpb) rfl fill_nil))) (wo_nil (wd_nil (ws_cons ?_)))
      have s285 := s283.pull 2
      have s286 := s285.pull 3
      obtain ⟨Z287, l288, s289, f290, g291⟩ := own_lend (l := (.cells b273 [vka, (.slc b269 0 1 1), vkb]) :: (.cells b281 [vpa, vpb]) :: (.cells b277 [vva, vvb]) :: (.cells b9 [(.bool false), .nils, .nils, .nils]) :: (.cells b5 [(.bool false), vkb, vvb, vpb]) :: (.cells b1 [(.bool false), vka, vva, vpa]) :: F) (xs := strs [s]) strs_one s286 (show Own 1 (.slc b269 0 1 1) 1 (strs [s]).flatten [.cells b269 [(.str s)]] from .slc b269 1 [(.str s)] rfl) rfl
      obtain ⟨v292, H293, ⟨l294, o295, s296⟩, k297⟩ := conS3_ok T (N := N) (d := d + 9) (kx1 := ka) (kx2 := [s]) (kx3 := kb) (by omega) s289 (hka.mono l288) (by first | omega | (simp; done) | (simp; omega)) f290 (by first | omega | (simp; done) | (simp; omega)) (hkb.mono l288) (by first | omega | (simp; done) | (simp; omega)) (by omega)
      have s298 := (g291 _ s296).drop 0
      have s299 : Sat H293 Z ((.cells b281 [vpa, vpb]) :: (.cells b277 [vva, vvb]) :: (.cells b9 [(.bool false), .nils, .nils, .nils]) :: (.cells b5 [(.bool false), vkb, vvb, vpb]) :: (.cells b1 [(.bool false), vka, vva, vpa]) :: (l294 ++ F)) := Sat.rot (l₁ := l294) (hl := [.cells b281 [vpa, vpb], .cells b277 [vva, vvb], .cells b9 [(.bool false), .nils, .nils, .nils], .cells b5 [(.bool false), vkb, vvb, vpb], .cells b1 [(.bool false), vka, vva, vpa]]) s298
      refine wo_call k297 (wo_nil (wd_again (v := (.bool false)) (hs := same_bool) (s_ld1 s299 4 rfl) (wd_again (v := vva) (hs := fl_same hva) (s_ld1 s299 4 rfl) (wd_again (v := vvb) (hs := fl_same hvb) (s_ld1 s299 3 rfl) (wd_again (v := vpa) (hs := fl_same hpa) (s_ld1 s299 4 rfl) ?_)))))
      refine wd_again (v := vpb) (hs := fl_same hpb) (s_ld1 s299 3 rfl) (wd_nil (ws_cons ?_))
      have s300 := s299.pull 1
      obtain ⟨v306, H307, ⟨l308, o309, s310⟩, k311⟩ := conS2_ok T (N := N) (d := d + 9) (kx1 := va) (kx2 := vb) (by omega) s300 hva (by first | omega | (simp; done) | (simp; omega)) hvb (by first | omega | (simp; done) | (simp; omega)) (by omega)
      have s312 : Sat H307 Z ((.cells b281 [vpa, vpb]) :: (.cells b9 [(.bool false), .nils, .nils, .nils]) :: (.cells b5 [(.bool false), vkb, vvb, vpb]) :: (.cells b1 [(.bool false), vka, vva, vpa]) :: (l308 ++ (l294 ++ F))) := Sat.rot (l₁ := l308) (hl := [.cells b281 [vpa, vpb], .cells b9 [(.bool false), .nils, .nils, .nils], .cells b5 [(.bool false), vkb, vvb, vpb], .cells b1 [(.bool false), vka, vva, vpa]]) s310
      refine wo_call k311 (wo_nil (wd_again (v := (.bool false)) (hs := same_bool) (s_ld1 s312 3 rfl) (wd_again (v := vpa) (hs := fl_same hpa) (s_ld1 s312 3 rfl) (wd_again (v := vpb) (hs := fl_same hpb) (s_ld1 s312 2 rfl) (wd_nil ?_)))))
      refine ws_cons ?_
      obtain ⟨v318, H319, ⟨l320, o321, s322⟩, k323⟩ := conP2_ok T (N := N) (d := d + 9) (kx1 := pa) (kx2 := pb) (by omega) s312 hpa (by first | omega | (simp; done) | (simp; omega)) hpb (by first | omega | (simp; done) | (simp; omega)) (by omega)
      have s324 : Sat H319 Z ((.cells b9 [(.bool false), .nils, .nils, .nils]) :: (.cells b5 [(.bool false), vkb, vvb, vpb]) :: (.cells b1 [(.bool false), vka, vva, vpa]) :: (l320 ++ (l308 ++ (l294 ++ F)))) := Sat.rot (l₁ := l320) (hl := [.cells b9 [(.bool false), .nils, .nils, .nils], .cells b5 [(.bool false), vkb, vvb, vpb], .cells b1 [(.bool false), vka, vva, vpa]]) s322
      refine wo_call k323 (wo_nil (wd_again (v := (.bool false)) (hs := same_bool) (s_ld1 s324 2 rfl) (wd_run (wo_x (v := (.agg (Rp.set (Rp.set (Rp.set (Rp.set (.cat 1 (.one (.bool false)) (.rep 3 .nils)) 0 (.bool false)) 1 v292) 2 v306) 3 v318))) (w_build (r := (Rp.set (Rp.set (Rp.set (Rp.set (.cat 1 (.one (.bool false)) (.rep 3 .nils)) 0 (.bool false)) 1 v292) 2 v306) 3 v318)) (fill_s (v := (.bool false)) rfl rfl rfl (fill_s (v := v292) rfl (own_sc o295) rfl (fill_s (v := v306) rfl (own_sc o309) rfl (fill_s (v := v318) rfl (own_sc o321) rfl fill_nil))))) (wo_nil ?_)))))
      refine wd_nil (ws_cons ?_)
      obtain ⟨H325, s326, k327⟩ := s_stn s324 (((((RL.cat (RL.one (.bool false)) (RL.rep 3 .nils) rfl).set 0 (.bool false)).set 1 v292).set 2 v306).set 3 v318) 0 4 rfl (Nat.le_of_ble_eq_true rfl)
      refine wo_n (k327 rfl rfl) (wo_nil (wd_run (wo_mv (.int .i64 0) (wo_nil (wd_nil ?_)))))
      refine ws_nil (thn_n (wp_ret ?_))
      refine fin_ct (w := (.int .i64 0)) (off := 0) s326 0 fun r328 q329 => ?_
      have s330 := s326.drop 0
      have s331 := s330.drop 0
      have s332 := s331.drop 0
      exact ⟨_, _, _, _, _, _, _, rfl, q329, ⟨o295, o309, o321⟩, s332⟩
end
end Go.Jt
