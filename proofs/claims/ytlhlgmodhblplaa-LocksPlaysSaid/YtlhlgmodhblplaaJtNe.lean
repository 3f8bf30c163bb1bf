/-
  node.Encode. PRINTED by wip/tools/mkenc.py.
-/
import Derived.Test.YtlhlgmodhblplaaJtEnc
set_option autoImplicit false
set_option linter.all false
set_option maxRecDepth 10000
set_option maxHeartbeats 8000000
namespace Go.Jt
noncomputable section
variable [Gl]
class NeN where
  enc1 : Nat
  encode : Nat
def b_eenc1 [NeN] [BkN] [NdN] : IR := (.seq (.reg [xo 7 (.fla 3 t1), xo 8 (.ld1 t7), mv 9 t0, xo 10 (.ixs 3 t8 t9), xo 11 (.ldn 3 t10), xo 12 (.call (.cst (.fn (.fn (.func BkN.enc)) [] [])) [t11]), mv 6 t12, xo 13 (.ext t6 0), xo 14 (.ext t6 1), mv 4 t13, mv 5 t14]) (.reg [xo 15 (.ld1 t2), mv 16 t4, xo 17 (.app 1 1 (.one (.int .u8 0)) false t15 t16), ⟨none, .st 1 t2 t17, none⟩]))
def ir_eenc1 [NeN] [BkN] [NdN] : FnIR := ⟨18, [], b_eenc1⟩
def b_eencode [NeN] [BkN] [NdN] : IR := (.seq (.reg [xo 1 (.box t0), xo 2 (.mv (.cst (.str []))), xo 3 (.mv (.cst (.int .i64 0)))]) (.seq (.block 0 (.seq (.reg [xo 9 (.ldn 4 t1), xo 10 (.call (.cst (.fn (.fn (.func NdN.form)) [] [])) [t9]), xo 11 (.not t10), mv 8 t11]) (.cond t8 (.seq (.reg [xo 2 (.mv (.cst (.str []))), xo 3 (.mv (.cst (.int .i64 4)))]) .ret) (.seq (.reg [xo 13 (.ldn 4 t1), xo 14 (.call (.cst (.fn (.fn (.func NdN.size)) [] [])) [t13]), xo 15 (.bin .gtr 0 t14 (.cst (.int .i64 500))), mv 12 t15]) (.cond t12 (.seq (.reg [xo 2 (.mv (.cst (.str []))), xo 3 (.mv (.cst (.int .i64 40)))]) .ret) .skip))))) (.seq (.reg [xo 16 (.fla 1 t1), xo 17 (.ld1 t16), xo 18 (.len 1 t17), xo 19 (.bin .shr 0 t18 (.cst (.int .u64 8))), xo 20 (.cvi .u8 t19), xo 21 (.fla 1 t1), xo 22 (.ld1 t21), xo 23 (.len 1 t22), xo 24 (.cvi .u8 t23), xo 25 (.bsl 2 (.rep 2 (.int .u8 0)) [(0, 1, t20), (1, 1, t24)]), xo 4 (.alloc (.one .nils)), ⟨none, .st 1 t4 t25, none⟩]) (.seq (.reg [xo 26 (.mkf (.fn (.func NeN.enc1)) [] [t1, t4]), mv 5 t26]) (.seq (.seq (.reg [xo 27 (.fla 0 t1), xo 28 (.ld1 t27), xo 29 (.not t28)]) (.cond t29 (.reg [mv 30 t5, xo 31 (.call t30 [(.cst (.int .i64 0))])]) .skip)) (.seq (.seq (.reg [xo 32 (.fla 1 t1), xo 33 (.ld1 t32), xo 34 (.len 1 t33), xo 35 (.mv (.cst (.int .i64 0)))]) (.block 1 (.loop (.seq (.reg [xo 36 (.bin .lss 0 t35 t34)]) (.seq (.cond t36 .skip (.exit 1)) (.seq (.block 2 (.seq (.reg [mv 37 t35, xo 38 (.ixs 1 t33 t35), xo 39 (.ld1 t38), mv 6 t37, mv 7 t39]) (.seq (.reg [xo 40 (.ld1 t4), mv 41 t7, xo 42 (.len 0 t41), xo 43 (.cvi .u8 t42), xo 44 (.bsl 1 (.rep 1 (.int .u8 0)) [(0, 1, t43)]), xo 45 (.app 1 1 (.one (.int .u8 0)) false t40 t44), mv 46 t7, xo 47 (.app 1 1 (.one (.int .u8 0)) false t45 t46), ⟨none, .st 1 t4 t47, none⟩]) (.seq (.reg [xo 48 (.fla 0 t1), xo 49 (.ld1 t48)]) (.cond t49 (.dreg [.run (xo 50 (.ld1 t4)), .run (xo 51 (.fla 2 t1)), .run (xo 52 (.ld1 t51)), .run (mv 53 t6), .run (xo 54 (.ixs 1 t52 t53)), .run (xo 55 (.ld1 t54)), .run (xo 56 (.len 0 t55)), .run (xo 57 (.cvi .u8 t56)), .run (xo 58 (.bsl 1 (.rep 1 (.int .u8 0)) [(0, 1, t57)])), .run (xo 60 (.fla 2 t1)), .run (xo 61 (.ld1 t60)), .run (mv 62 t6), .run (xo 63 (.ixs 1 t61 t62)), .run (xo 64 (.ld1 t63))] [(xo 59 (.app 1 1 (.one (.int .u8 0)) false t50 t58), [.again (xo 61 (.ld1 t60)), .again (xo 64 (.ld1 t63))]), (xo 65 (.app 1 1 (.one (.int .u8 0)) false t59 t64), []), (⟨none, .st 1 t4 t65, none⟩, [])]) (.reg [mv 66 t5, mv 67 t6, xo 68 (.bin .add 0 t67 (.cst (.int .i64 1))), xo 69 (.call t66 [t68])])))))) (.reg [xo 70 (.bin .add 0 t35 (.cst (.int .i64 1))), mv 35 t70]))))))) (.seq (.reg [xo 71 (.ld1 t4), xo 72 (.b2s t71), mv 2 t72, xo 3 (.mv (.cst (.int .i64 0)))]) .ret)))))))
def ir_eencode [NeN] [BkN] [NdN] : FnIR := ⟨73, [.tmp 2, .tmp 3], b_eencode⟩
structure NeT [NeN] [BkN] [NdN] (tbl : Nat → Option FT) : Prop where
  enc1 : tbl NeN.enc1 = some (.code ir_eenc1)
  encode : tbl NeN.encode = some (.code ir_eencode)
theorem enc1_ok [NeN] [BkN] [NdN] {tbl : Nat → Option FT} (T : NeT tbl) (TB : BkT tbl) {lf : Bool} {ps : List PtrM} {vk vv vp v0 : AV} {b0 bb bn i : Nat} {B : List Nat} {N d : Nat} (hd : 3 ≤ d) {Z : Fz} {F : List Hl} {H : AH} (hs : Sat H Z ((.cells b0 (B.map byteV)) :: (.cells bb [v0]) :: (.cells bn [(.bool lf), vk, vv, vp]) :: F)) (hp : Fl Z 3 vp (ptrs ps)) (hb : Buf 1 v0 b0 B.length) (hB : 0 < B.length) (hBl : B.length ≤ 1000000000000) (hi : i < ps.length) (hko : KidOk (ptAt ps i)) (hps : ∀ p ∈ ps, p.s < 18446744073709551616) :
    Ct (RUN tbl N d) (.fn (.fn (.func NeN.enc1)) [] [(.ptr bn 0), (.ptr bb 0)]) [(.int .i64 (.ofNat i))] H fun v H' => v = .tup [] ∧ ∃ v1 b1, Buf 1 v1 b1 (B ++ (ptAt ps i).B).length ∧ Sat H' Z (.cells b1 ((B ++ (ptAt ps i).B).map byteV) :: .cells bb [v1] :: .cells bn [.bool lf, vk, vv, vp] :: F) := by
  obtain ⟨d, rfl⟩ : ∃ e, d = e + 3 := ⟨d - 3, by omega⟩
  refine ct_code T.enc1 (b := b_eenc1) (env := [(.int .i64 (.ofNat i)), (.ptr bn 0), (.ptr bb 0), u_, u_, u_, u_, u_, u_, u_, u_, u_, u_, u_, u_, u_, u_, u_]) ?_
  unfold b_eenc1
  refine wp_seq (wp_reg (wo_x (v := (.ptr bn 3)) (ca_fla rfl rfl) (wo_x (v := vp) (s_ld1 hs 2 rfl) (wo_mv (.int .i64 (.ofNat i)) ?_))))
  obtain ⟨b1, o2, L3, z4, g5, e6, n7, k8⟩ := fl_ix hp i (ptrs_get (show i < ps.length by omega))
  refine wo_x (v := (.ptr b1 o2)) (k8 rfl rfl) ?_
  obtain ⟨r9, q10, k11⟩ := s_zldn hs z4 o2 3 (hl := e6)
  rw [fl_take g5 n7 e6] at q10
  refine wo_x (v := (.agg r9)) (k11 rfl) ?_
  obtain ⟨_, H12, ⟨rfl, s13⟩, k14⟩ := encI_ok (N := N) (d := d + 2) TB hko.1 q10 (hps _ (ptAt_mem hi)) (by omega) hs
  refine wo_call k14 (wo_mv (.tup [(.str ((ptAt ps i).B)), (.int .i64 0)]) (wo_x (v := (.str ((ptAt ps i).B))) (w_lit (fun K => rfl)) (wo_x (v := (.int .i64 0)) (w_lit (fun K => rfl)) (wo_mv (.str ((ptAt ps i).B)) (wo_mv (.int .i64 0) ?_)))))
  refine wo_nil (thn_n (wp_reg (wo_x (v := v0) (s_ld1 s13 1 rfl) (wo_mv (.str ((ptAt ps i).B)) ?_))))
  obtain ⟨v15, b16, H17, h18, s19, k20⟩ := s_bytes (B := B) (s := (ptAt ps i).B) s13 hb hB (src_str ((ptAt ps i).B)) (by simp only [List.length_append, List.length_cons, List.length_nil, PtrM.B, ptrB_len, tB, headB]; omega)
  refine wo_x (v := v15) (k20 rfl rfl) ?_
  have s21 := s19.pull 1
  obtain ⟨H22, s23, k24⟩ := s_st s21 0 v15 (Nat.le_of_ble_eq_true rfl) (hv := (sl_sc (buf_sl h18)))
  refine wo_n (k24 rfl rfl) (wo_nil ?_)
  have s25 := s23.pull 2
  have s26 := s25.pull 1
  have s27 := s26.pull 2
  exact fin_0  ⟨rfl, _, _, h18, s27⟩
theorem encf_ok [NeN] [BkN] [NdN] {tbl : Nat → Option FT} (T : NeT tbl) (TB : BkT tbl) (TD : NdT tbl) {lf : Bool} {ks vs : List (List Nat)} {ps : List PtrM} {vk vv vp : AV} {r : Rp AV} (hf : ¬ FormN lf ks vs ps) {N d : Nat} (hd : 9 ≤ d) {Z : Fz} {F : List Hl} {H : AH} (hs : Sat H Z (F)) (hr : RL r [.bool lf, vk, vv, vp]) (hk : Fl Z 1 vk (strs ks)) (hv : Fl Z 1 vv (strs vs)) (hp : Fl Z 3 vp (ptrs ps)) (hkl : ks.length ≤ 1099511627776) (hvl : vs.length ≤ 1099511627776) (hpl : ps.length ≤ 1099511627776) (hNk : ks.length < N) (hNv : vs.length < N) (hNp : ps.length < N) (hN3 : 3 < N) (hsz : sizeN ks vs ps ≤ 1099511627776) (hps : ∀ p ∈ ps, p.s < 18446744073709551616) :
    Ct (RUN tbl N d) (.fn (.fn (.func NeN.encode)) [] []) [(.agg r)] H fun v H' => v = .tup [.str [], .int .i64 4] ∧ Sat H' Z F := by
  obtain ⟨d, rfl⟩ : ∃ e, d = e + 9 := ⟨d - 9, by omega⟩
  refine ct_code T.encode (b := b_eencode) (env := [(.agg r), u_, u_, u_, u_, u_, u_, u_, u_, u_, u_, u_, u_, u_, u_, u_, u_, u_, u_, u_, u_, u_, u_, u_, u_, u_, u_, u_, u_, u_, u_, u_, u_, u_, u_, u_, u_, u_, u_, u_, u_, u_, u_, u_, u_, u_, u_, u_, u_, u_, u_, u_, u_, u_, u_, u_, u_, u_, u_, u_, u_, u_, u_, u_, u_, u_, u_, u_, u_, u_, u_, u_, u_]) ?_
  unfold b_eencode
  refine wp_seq (wp_reg ?_)
  obtain ⟨b1, H2, s3, k4⟩ := s_boxn hs hr
  refine wo_x (v := (.ptr b1 0)) (k4 rfl) (wo_mv (.str []) (wo_mv (.int .i64 0) (wo_nil (thn_n (wp_seq ?_)))))
  refine wp_block (wp_seq (wp_reg ?_))
  obtain ⟨r5, q6, k7⟩ := s_ldn s3 0 0 4 
  refine wo_x (v := (.agg r5)) (k7 rfl) ?_
  obtain ⟨_, H8, ⟨rfl, s9⟩, k10⟩ := form_ok (N := N) (d := d + 8) TD TB (by omega) s3 q6 hk hv hp hkl hvl hpl hNk hNv hNp hps
  refine wo_call k10 (wo_x (v := (.bool true)) (w_notF (congrArg AV.bool (Bool.eq_false_iff.2 (fun h => hf (dB_iff.1 h))))) (wo_mv (.bool true) (wo_nil (thn_n (wp_condT ?_)))))
  refine wp_seq (wp_reg (wo_mv (.str []) (wo_mv (.int .i64 4) (wo_nil (thn_n ?_)))))
  refine wp_ret (blk_r (thn_r ?_))
  have s11 := s9.drop 0
  exact fin_2 (.str []) (.int .i64 4) ⟨rfl, s11⟩
theorem encl_ok [NeN] [BkN] [NdN] {tbl : Nat → Option FT} (T : NeT tbl) (TB : BkT tbl) (TD : NdT tbl) {lf : Bool} {ks vs : List (List Nat)} {ps : List PtrM} {vk vv vp : AV} {r : Rp AV} (hf : FormN lf ks vs ps) (h5 : 500 < sizeN ks vs ps) {N d : Nat} (hd : 9 ≤ d) {Z : Fz} {F : List Hl} {H : AH} (hs : Sat H Z (F)) (hr : RL r [.bool lf, vk, vv, vp]) (hk : Fl Z 1 vk (strs ks)) (hv : Fl Z 1 vv (strs vs)) (hp : Fl Z 3 vp (ptrs ps)) (hkl : ks.length ≤ 1099511627776) (hvl : vs.length ≤ 1099511627776) (hpl : ps.length ≤ 1099511627776) (hNk : ks.length < N) (hNv : vs.length < N) (hNp : ps.length < N) (hN3 : 3 < N) (hsz : sizeN ks vs ps ≤ 1099511627776) (hps : ∀ p ∈ ps, p.s < 18446744073709551616) :
    Ct (RUN tbl N d) (.fn (.fn (.func NeN.encode)) [] []) [(.agg r)] H fun v H' => v = .tup [.str [], .int .i64 40] ∧ Sat H' Z F := by
  obtain ⟨d, rfl⟩ : ∃ e, d = e + 9 := ⟨d - 9, by omega⟩
  refine ct_code T.encode (b := b_eencode) (env := [(.agg r), u_, u_, u_, u_, u_, u_, u_, u_, u_, u_, u_, u_, u_, u_, u_, u_, u_, u_, u_, u_, u_, u_, u_, u_, u_, u_, u_, u_, u_, u_, u_, u_, u_, u_, u_, u_, u_, u_, u_, u_, u_, u_, u_, u_, u_, u_, u_, u_, u_, u_, u_, u_, u_, u_, u_, u_, u_, u_, u_, u_, u_, u_, u_, u_, u_, u_, u_, u_, u_, u_, u_, u_]) ?_
  unfold b_eencode
  refine wp_seq (wp_reg ?_)
  obtain ⟨b1, H2, s3, k4⟩ := s_boxn hs hr
  refine wo_x (v := (.ptr b1 0)) (k4 rfl) (wo_mv (.str []) (wo_mv (.int .i64 0) (wo_nil (thn_n (wp_seq ?_)))))
  refine wp_block (wp_seq (wp_reg ?_))
  obtain ⟨r5, q6, k7⟩ := s_ldn s3 0 0 4 
  refine wo_x (v := (.agg r5)) (k7 rfl) ?_
  obtain ⟨_, H8, ⟨rfl, s9⟩, k10⟩ := form_ok (N := N) (d := d + 8) TD TB (by omega) s3 q6 hk hv hp hkl hvl hpl hNk hNv hNp hps
  refine wo_call k10 (wo_x (v := (.bool false)) (w_notT (congrArg AV.bool (dB_true hf))) (wo_mv (.bool false) (wo_nil (thn_n (wp_condF ?_)))))
  refine wp_seq (wp_reg ?_)
  obtain ⟨r11, q12, k13⟩ := s_ldn s9 0 0 4 
  refine wo_x (v := (.agg r11)) (k13 rfl) ?_
  obtain ⟨_, H14, ⟨rfl, s15⟩, k16⟩ := size_ok (N := N) (d := d + 8) TD (by omega) s9 q12 hk hv hp hkl hvl hpl hNk hNv hNp hN3 hsz
  refine wo_call k16 (wo_x (v := (.bool true)) (w_bin (cmp_gtrT (sizeN ks vs ps) 500 (by omega))) (wo_mv (.bool true) (wo_nil (thn_n (wp_condT ?_)))))
  refine wp_seq (wp_reg (wo_mv (.str []) (wo_mv (.int .i64 40) (wo_nil (thn_n ?_)))))
  refine wp_ret (blk_r (thn_r ?_))
  have s17 := s15.drop 0
  exact fin_2 (.str []) (.int .i64 40) ⟨rfl, s17⟩
theorem txt_le {ks : List (List Nat)} (i : Nat) : (txt ks i).length ≤ sumL ks ks.length := by
  by_cases hi : i < ks.length
  · have := sumL_le (ks := ks) (show i + 1 ≤ ks.length by omega)
    rw [sumL_succ hi] at this
    omega
  · have : txt ks i = [] := by simp [txt, List.getD_eq_getElem?_getD, List.getElem?_eq_none (Nat.le_of_not_lt hi)]
    rw [this]; simp
theorem bodyB_le (lf : Bool) (ks vs : List (List Nat)) (ps : List PtrM) {i : Nat} (hi : i ≤ ks.length) (hv : lf = true → vs.length = ks.length) : (bodyB lf ks vs ps i).length ≤ 18 + sumL ks ks.length + sumL vs vs.length + 16 * i := by
  unfold bodyB
  rw [List.length_append, headB_len]
  have h1 := sumL_le hi
  cases lf with
  | true =>
    have hvi := hv rfl
    have h2 := sumL_le (ks := vs) (i := i) (by omega)
    rw [if_pos rfl, leafB_len ks vs hi (by omega)]
    omega
  | false =>
    rw [if_neg (by simp), List.length_append, kidB_len ks ps hi, PtrM.B, ptrB_len]
    omega
theorem encyL_ok [NeN] [BkN] [NdN] {tbl : Nat → Option FT} (T : NeT tbl) (TB : BkT tbl) (TD : NdT tbl) {lf : Bool} {ks vs : List (List Nat)} {ps : List PtrM} {vk vv vp : AV} {r : Rp AV} (hf : FormN lf ks vs ps) (hlf : lf = true) (h5 : sizeN ks vs ps ≤ 500) {N d : Nat} (hd : 9 ≤ d) {Z : Fz} {F : List Hl} {H : AH} (hs : Sat H Z (F)) (hr : RL r [.bool lf, vk, vv, vp]) (hk : Fl Z 1 vk (strs ks)) (hv : Fl Z 1 vv (strs vs)) (hp : Fl Z 3 vp (ptrs ps)) (hkl : ks.length ≤ 1099511627776) (hvl : vs.length ≤ 1099511627776) (hpl : ps.length ≤ 1099511627776) (hNk : ks.length < N) (hNv : vs.length < N) (hNp : ps.length < N) (hN3 : 3 < N) (hsz : sizeN ks vs ps ≤ 1099511627776) (hps : ∀ p ∈ ps, p.s < 18446744073709551616) (hbk : BytesOk ks) (hbv : BytesOk vs) :
    Ct (RUN tbl N d) (.fn (.fn (.func NeN.encode)) [] []) [(.agg r)] H fun v H' => v = .tup [.str (encB lf ks vs ps), .int .i64 0] ∧ Sat H' Z F := by
  obtain ⟨d, rfl⟩ : ∃ e, d = e + 9 := ⟨d - 9, by omega⟩
  have hsz2 := h5
  unfold sizeN at hsz2
  have hfl := hf.2.1 hlf
  have hvk := hfl.2.1
  have hkids : ∀ i, i < ps.length → KidOk (ptAt ps i) := fun i hi => absurd hi (by omega)
  refine ct_code T.encode (b := b_eencode) (env := [(.agg r), u_, u_, u_, u_, u_, u_, u_, u_, u_, u_, u_, u_, u_, u_, u_, u_, u_, u_, u_, u_, u_, u_, u_, u_, u_, u_, u_, u_, u_, u_, u_, u_, u_, u_, u_, u_, u_, u_, u_, u_, u_, u_, u_, u_, u_, u_, u_, u_, u_, u_, u_, u_, u_, u_, u_, u_, u_, u_, u_, u_, u_, u_, u_, u_, u_, u_, u_, u_, u_, u_, u_, u_]) ?_
  unfold b_eencode
  refine wp_seq (wp_reg ?_)
  obtain ⟨b1, H2, s3, k4⟩ := s_boxn hs hr
  refine wo_x (v := (.ptr b1 0)) (k4 rfl) (wo_mv (.str []) (wo_mv (.int .i64 0) (wo_nil (thn_n (wp_seq ?_)))))
  refine wp_block (wp_seq (wp_reg ?_))
  obtain ⟨r5, q6, k7⟩ := s_ldn s3 0 0 4 
  refine wo_x (v := (.agg r5)) (k7 rfl) ?_
  obtain ⟨_, H8, ⟨rfl, s9⟩, k10⟩ := form_ok (N := N) (d := d + 8) TD TB (by omega) s3 q6 hk hv hp hkl hvl hpl hNk hNv hNp hps
  refine wo_call k10 (wo_x (v := (.bool false)) (w_notT (congrArg AV.bool (dB_true hf))) (wo_mv (.bool false) (wo_nil (thn_n (wp_condF ?_)))))
  refine wp_seq (wp_reg ?_)
  obtain ⟨r11, q12, k13⟩ := s_ldn s9 0 0 4 
  refine wo_x (v := (.agg r11)) (k13 rfl) ?_
  obtain ⟨_, H14, ⟨rfl, s15⟩, k16⟩ := size_ok (N := N) (d := d + 8) TD (by omega) s9 q12 hk hv hp hkl hvl hpl hNk hNv hNp hN3 hsz
  refine wo_call k16 (wo_x (v := (.bool false)) (w_bin (cmp_gtrF (sizeN ks vs ps) 500 (by omega))) (wo_mv (.bool false) (wo_nil (thn_n (wp_condF ?_)))))
  refine wp_skip (blk_n (thn_n (wp_seq (wp_reg (wo_x (v := (.ptr b1 1)) (ca_fla rfl rfl) ?_)))))
  refine wo_x (v := vk) (s_ld1 s15 0 rfl) (wo_x (v := (.int .i64 (.ofNat ks.length))) (fl_len hk (strs_len ks) rfl) (wo_x (v := (.int .i64 (.ofNat (ks.length / 256)))) (w_bin (shr_u (a := ks.length) (b := 8) (p := 256) rfl)) (wo_x (v := (.int .u8 (.ofNat ((ks.length / 256) % 256)))) (w_cvi rfl rfl) (wo_x (v := (.ptr b1 1)) (ca_fla rfl rfl) (wo_x (v := vk) (s_ld1 s15 0 rfl) ?_)))))
  refine wo_x (v := (.int .i64 (.ofNat ks.length))) (fl_len hk (strs_len ks) rfl) (wo_x (v := (.int .u8 (.ofNat (ks.length % 256)))) (w_cvi rfl rfl) ?_)
  obtain ⟨b17, H18, s19, k20⟩ := s_bsl s15 (((RL.rep 2 (.int .u8 0)).set 0 (.int .u8 (.ofNat ((ks.length / 256) % 256)))).set 1 (.int .u8 (.ofNat (ks.length % 256))))
  refine wo_x (v := (.slc b17 0 2 2)) (k20 (fill_s (v := (.int .u8 (.ofNat ((ks.length / 256) % 256)))) rfl rfl rfl (fill_s (v := (.int .u8 (.ofNat (ks.length % 256)))) rfl rfl rfl fill_nil))) ?_
  obtain ⟨b21, H22, s23, k24⟩ := s_alloc s19 (RL.one .nils)
  refine wo_x (v := (.ptr b21 0)) (k24) ?_
  obtain ⟨H25, s26, k27⟩ := s_st s23 0 (.slc b17 0 2 2) (Nat.le_of_ble_eq_true rfl)
  refine wo_n (k27 rfl rfl) (wo_nil (thn_n (wp_seq (wp_reg (wo_x (v := (.fn (.fn (.func NeN.enc1)) [] [(.ptr b1 0), (.ptr b21 0)])) (w_lit (fun K => rfl)) ?_)))))
  refine wo_mv (.fn (.fn (.func NeN.enc1)) [] [(.ptr b1 0), (.ptr b21 0)]) (wo_nil (thn_n (wp_seq (wp_seq (wp_reg ?_)))))
  refine wo_x (v := (.ptr b1 0)) (ca_fla rfl rfl) (wo_x (v := (.bool lf)) (s_ld1 s26 2 rfl) (wo_x (v := (.bool false)) (w_notT (congrArg AV.bool hlf)) (wo_nil (thn_n (wp_condF ?_)))))
  refine wp_skip (thn_n (wp_seq (wp_seq (wp_reg (wo_x (v := (.ptr b1 1)) (ca_fla rfl rfl) ?_)))))
  refine wo_x (v := vk) (s_ld1 s26 2 rfl) (wo_x (v := (.int .i64 (.ofNat ks.length))) (fl_len hk (strs_len ks) rfl) (wo_mv (.int .i64 0) (wo_nil (thn_n (wp_block ?_)))))
  have s29 := s26.pull 2
  have s30 := s29.pull 1
  have s31 := s30.pull 2
  have e33 : [(ks.length / 256) % 256, ks.length % 256] = bodyB lf ks vs ps 0 := (by simp [bodyB, headB, leafB, hlf])
  have s32 : Sat H25 Z (.cells b17 ((bodyB lf ks vs ps 0).map byteV) :: .cells b21 [(.slc b17 0 2 2)] :: .cells b1 [.bool lf, vk, vv, vp] :: F) := by rw [← e33]; exact s31
  refine wp_loop (fun ms_ env ds H => ∃ (i : Nat) (vb : AV) (cb : Nat), ∃ ys28 : List AV, ms_ = ks.length - i ∧ env = [(.agg r), (.ptr b1 0), (.str []), (.int .i64 0), (.ptr b21 0), (.fn (.fn (.func NeN.enc1)) [] [(.ptr b1 0), (.ptr b21 0)]), (lget ys28 0), (lget ys28 1), (.bool false), (.agg r5), (.bool (dB (FormN lf ks vs ps))), (.bool false), (.bool false), (.agg r11), (.int .i64 (.ofNat (sizeN ks vs ps))), (.bool false), (.ptr b1 1), vk, (.int .i64 (.ofNat ks.length)), (.int .i64 (.ofNat (ks.length / 256))), (.int .u8 (.ofNat ((ks.length / 256) % 256))), (.ptr b1 1), vk, (.int .i64 (.ofNat ks.length)), (.int .u8 (.ofNat (ks.length % 256))), (.slc b17 0 2 2), (.fn (.fn (.func NeN.enc1)) [] [(.ptr b1 0), (.ptr b21 0)]), (.ptr b1 0), (.bool lf), (.bool false), u_, u_, (.ptr b1 1), vk, (.int .i64 (.ofNat ks.length)), (.int .i64 (.ofNat i)), (lget ys28 2), (lget ys28 3), (lget ys28 4), (lget ys28 5), (lget ys28 6), (lget ys28 7), (lget ys28 8), (lget ys28 9), (lget ys28 10), (lget ys28 11), (lget ys28 12), (lget ys28 13), (lget ys28 14), (lget ys28 15), (lget ys28 16), (lget ys28 17), (lget ys28 18), (lget ys28 19), (lget ys28 20), (lget ys28 21), (lget ys28 22), (lget ys28 23), (lget ys28 24), (lget ys28 25), (lget ys28 26), (lget ys28 27), (lget ys28 28), (lget ys28 29), (lget ys28 30), (lget ys28 31), (lget ys28 32), (lget ys28 33), (lget ys28 34), (lget ys28 35), (lget ys28 36), u_, u_] ∧ ds = [] ∧ Sat H Z ((.cells cb ((bodyB lf ks vs ps i).map byteV)) :: (.cells b21 [vb]) :: (.cells b1 [(.bool lf), vk, vv, vp]) :: F) ∧ (Buf 1 vb cb (bodyB lf ks vs ps i).length) ∧ (i ≤ ks.length)) (ks.length - 0) (by omega) ⟨0, (.slc b17 0 2 2), b17, [u_, u_, u_, u_, u_, u_, u_, u_, u_, u_, u_, u_, u_, u_, u_, u_, u_, u_, u_, u_, u_, u_, u_, u_, u_, u_, u_, u_, u_, u_, u_, u_, u_, u_, u_, u_, u_], rfl, rfl, rfl, s32, (by rw [← e33]; exact (.slc _ 2)), (by omega)⟩ ?_
  rintro ms_ env ds H hms_ ⟨i, vb, cb, ys28, rfl, rfl, rfl, s34, hvb, hi⟩
  have hbl := bodyB_le lf ks vs ps hi (fun _ => hvk)
  refine wp_seq (wp_reg ?_)
  by_cases c35 : i < ks.length
  · have q36 := txt_le (ks := ks) i
    have q37 := txt_le (ks := vs) i
    refine wo_x (v := (.bool true)) (w_bin (cmp_lssT i ks.length (by omega))) (wo_nil (thn_n (wp_seq (wp_condT (wp_skip ?_)))))
    refine thn_n (wp_seq (wp_block (wp_seq (wp_reg (wo_mv (.int .i64 (.ofNat i)) ?_)))))
    obtain ⟨b38, o39, L40, z41, g42, e43, n44, k45⟩ := fl_ix hk i (strs_get (show i < ks.length by omega))
    refine wo_x (v := (.ptr b38 o39)) (k45 rfl rfl) (wo_x (v := (.str (txt ks i))) (s_zld1 s34 z41 (g42 0 _ rfl)) (wo_mv (.int .i64 (.ofNat i)) (wo_mv (.str (txt ks i)) (wo_nil (thn_n ?_)))))
    refine wp_seq (wp_reg (wo_x (v := vb) (s_ld1 s34 1 rfl) (wo_mv (.str (txt ks i)) (wo_x (v := (.int .i64 (.ofNat ((txt ks i).length)))) (w_lens (s := (txt ks i)) (n := ((txt ks i).length)) rfl rfl) (wo_x (v := (.int .u8 (.ofNat (((txt ks i).length) % 256)))) (w_cvi rfl rfl) ?_)))))
    obtain ⟨b46, H47, s48, k49⟩ := s_bsl s34 ((RL.rep 1 (.int .u8 0)).set 0 (.int .u8 (.ofNat (((txt ks i).length) % 256))))
    refine wo_x (v := (.slc b46 0 1 1)) (k49 (fill_s (v := (.int .u8 (.ofNat (((txt ks i).length) % 256)))) rfl rfl rfl fill_nil)) ?_
    have s50 := s48.pull 1
    obtain ⟨v51, b52, H53, h54, s55, k56⟩ := s_bytes (B := bodyB lf ks vs ps i) (s := [((txt ks i).length) % 256]) s50 hvb (by simp [headB, bodyB]) (src_sl s50 1 (.slc _ 0 1 1 1) (Nat.le_of_ble_eq_true rfl)) (by simp only [List.length_append, List.length_cons, List.length_nil, PtrM.B, ptrB_len, tB, headB]; omega)
    refine wo_x (v := v51) (k56 rfl rfl) (wo_mv (.str (txt ks i)) ?_)
    obtain ⟨v57, b58, H59, h60, s61, k62⟩ := s_bytes (B := (bodyB lf ks vs ps i) ++ [((txt ks i).length) % 256]) (s := txt ks i) s55 h54 (by simp [headB, bodyB]) (src_str (txt ks i)) (by simp only [List.length_append, List.length_cons, List.length_nil, PtrM.B, ptrB_len, tB, headB]; omega)
    refine wo_x (v := v57) (k62 rfl rfl) ?_
    have s63 := s61.pull 2
    obtain ⟨H64, s65, k66⟩ := s_st s63 0 v57 (Nat.le_of_ble_eq_true rfl) (hv := (sl_sc (buf_sl h60)))
    refine wo_n (k66 rfl rfl) (wo_nil (thn_n (wp_seq (wp_reg (wo_x (v := (.ptr b1 0)) (ca_fla rfl rfl) ?_)))))
    refine wo_x (v := (.bool lf)) (s_ld1 s65 3 rfl) (wo_nil (thn_n (wp_condT (hc := (congrArg AV.bool hlf)) (wp_dreg (wd_run ?_)))))
    refine wo_x (v := v57) (s_ld1 s65 0 rfl) (wo_nil (wd_run (wo_x (v := (.ptr b1 2)) (ca_fla rfl rfl) (wo_nil (wd_run ?_)))))
    refine wo_x (v := vv) (s_ld1 s65 3 rfl) (wo_nil (wd_run (wo_mv (.int .i64 (.ofNat i)) (wo_nil (wd_run ?_)))))
    obtain ⟨b67, o68, L69, z70, g71, e72, n73, k74⟩ := fl_ix hv i (strs_get (show i < vs.length by omega))
    refine wo_x (v := (.ptr b67 o68)) (k74 rfl rfl) (wo_nil (wd_run (wo_x (v := (.str (txt vs i))) (s_zld1 s65 z70 (g71 0 _ rfl)) (wo_nil (wd_run ?_)))))
    refine wo_x (v := (.int .i64 (.ofNat ((txt vs i).length)))) (w_lens (s := (txt vs i)) (n := ((txt vs i).length)) rfl rfl) (wo_nil (wd_run (wo_x (v := (.int .u8 (.ofNat (((txt vs i).length) % 256)))) (w_cvi rfl rfl) (wo_nil (wd_run ?_)))))
    obtain ⟨b75, H76, s77, k78⟩ := s_bsl s65 ((RL.rep 1 (.int .u8 0)).set 0 (.int .u8 (.ofNat (((txt vs i).length) % 256))))
    refine wo_x (v := (.slc b75 0 1 1)) (k78 (fill_s (v := (.int .u8 (.ofNat (((txt vs i).length) % 256)))) rfl rfl rfl fill_nil)) (wo_nil (wd_run (wo_x (v := (.ptr b1 2)) (ca_fla rfl rfl) (wo_nil (wd_run ?_)))))
    refine wo_x (v := vv) (s_ld1 s77 4 rfl) (wo_nil (wd_run (wo_mv (.int .i64 (.ofNat i)) (wo_nil (wd_run ?_)))))
    obtain ⟨b79, o80, L81, z82, g83, e84, n85, k86⟩ := fl_ix hv i (strs_get (show i < vs.length by omega))
    refine wo_x (v := (.ptr b79 o80)) (k86 rfl rfl) (wo_nil (wd_run (wo_x (v := (.str (txt vs i))) (s_zld1 s77 z82 (g83 0 _ rfl)) (wo_nil (wd_nil ?_)))))
    refine ws_cons ?_
    have s87 := s77.pull 2
    obtain ⟨v88, b89, H90, h91, s92, k93⟩ := s_bytes (B := ((bodyB lf ks vs ps i) ++ [((txt ks i).length) % 256]) ++ (txt ks i)) (s := [((txt vs i).length) % 256]) s87 h60 (by simp [headB, bodyB]) (src_sl s87 1 (.slc _ 0 1 1 1) (Nat.le_of_ble_eq_true rfl)) (by simp only [List.length_append, List.length_cons, List.length_nil, PtrM.B, ptrB_len, tB, headB]; omega)
    refine wo_x (v := v88) (k93 rfl rfl) (wo_nil (wd_again (v := vv) (hs := fl_same hv) (s_ld1 s92 4 rfl) (wd_again (v := (.str (txt vs i))) (hs := same_str) (s_zld1 s92 z82 (g83 0 _ rfl)) (wd_nil (ws_cons ?_)))))
    obtain ⟨v94, b95, H96, h97, s98, k99⟩ := s_bytes (B := (((bodyB lf ks vs ps i) ++ [((txt ks i).length) % 256]) ++ (txt ks i)) ++ [((txt vs i).length) % 256]) (s := txt vs i) s92 h91 (by simp [headB, bodyB]) (src_str (txt vs i)) (by simp only [List.length_append, List.length_cons, List.length_nil, PtrM.B, ptrB_len, tB, headB]; omega)
    refine wo_x (v := v94) (k99 rfl rfl) (wo_nil (wd_nil (ws_cons ?_)))
    have s100 := s98.pull 2
    obtain ⟨H101, s102, k103⟩ := s_st s100 0 v94 (Nat.le_of_ble_eq_true rfl) (hv := (sl_sc (buf_sl h97)))
    refine wo_n (k103 rfl rfl) (wo_nil (wd_nil (ws_nil (blk_n (thn_n ?_)))))
    refine wp_reg (wo_x (v := (.int .i64 (.ofNat (i + 1)))) (w_bin (add_i64 i 1 (by omega) _ _)) (wo_mv (.int .i64 (.ofNat (i + 1))) (wo_nil ?_)))
    have s104 := s102.pull 1
    have e105 : ((((bodyB lf ks vs ps i) ++ [((txt ks i).length) % 256]) ++ (txt ks i)) ++ [((txt vs i).length) % 256]) ++ (txt vs i) = bodyB lf ks vs ps (i + 1) := (by unfold bodyB; simp only [if_pos hlf, leafB_succ, tB, List.append_assoc])
    have h107 := h97
    rw [e105] at h107
    have s106 : Sat H101 Z ((.cells b95 ((bodyB lf ks vs ps (i + 1)).map byteV)) :: (.cells b21 [v94]) :: (.cells b75 [(.int .u8 (.ofNat (((txt vs i).length) % 256)))]) :: (.cells b46 [(.int .u8 (.ofNat (((txt ks i).length) % 256)))]) :: (.cells b1 [(.bool lf), vk, vv, vp]) :: F) := by rw [← e105]; exact s104
    have s108 := s106.drop 2
    have s109 := s108.drop 2
    refine lpq_n (ks.length - (i + 1)) (by omega) ⟨(i + 1), v94, b95, [(.int .i64 (.ofNat i)), (.str (txt ks i)), (.bool true), (.int .i64 (.ofNat i)), (.ptr b38 o39), (.str (txt ks i)), vb, (.str (txt ks i)), (.int .i64 (.ofNat ((txt ks i).length))), (.int .u8 (.ofNat (((txt ks i).length) % 256))), (.slc b46 0 1 1), v51, (.str (txt ks i)), v57, (.ptr b1 0), (.bool lf), v57, (.ptr b1 2), vv, (.int .i64 (.ofNat i)), (.ptr b67 o68), (.str (txt vs i)), (.int .i64 (.ofNat ((txt vs i).length))), (.int .u8 (.ofNat (((txt vs i).length) % 256))), (.slc b75 0 1 1), v88, (.ptr b1 2), vv, (.int .i64 (.ofNat i)), (.ptr b79 o80), (.str (txt vs i)), v94, (lget ys28 32), (lget ys28 33), (lget ys28 34), (lget ys28 35), (.int .i64 (.ofNat (i + 1)))], rfl, rfl, rfl, s109, h107, (by omega)⟩
  · have hik : i = ks.length := by omega
    refine wo_x (v := (.bool false)) (w_bin (cmp_lssF i ks.length (by omega))) (wo_nil (thn_n (wp_seq (wp_condF (wp_exit ?_)))))
    refine thn_e (lpq_e (blk_h (thn_n (wp_seq (wp_reg ?_)))))
    refine wo_x (v := vb) (s_ld1 s34 1 rfl) (wo_x (v := (.str (bodyB lf ks vs ps i))) (s_b2s s34 0 (buf_sl hvb) (bodyB lf ks vs ps i) (by have h := encB_byte (lf := lf) (ks := ks) (vs := vs) (ps := ps) hbk hbv; unfold encB at h; rw [hik]; exact h) (hL := take_bytes _) (ho := by simp)) (wo_mv (.str (bodyB lf ks vs ps i)) (wo_mv (.int .i64 0) (wo_nil (thn_n ?_)))))
    refine wp_ret ?_
    have s110 := s34.drop 0
    have s111 := s110.drop 0
    have s112 := s111.drop 0
    exact fin_2 (.str (bodyB lf ks vs ps i)) (.int .i64 0) ⟨congrArg (fun z => AV.tup [.str z, .int .i64 0]) (by unfold encB; rw [hik]), s112⟩
theorem encyI_ok [NeN] [BkN] [NdN] {tbl : Nat → Option FT} (T : NeT tbl) (TB : BkT tbl) (TD : NdT tbl) {lf : Bool} {ks vs : List (List Nat)} {ps : List PtrM} {vk vv vp : AV} {r : Rp AV} (hf : FormN lf ks vs ps) (hlf : lf = false) (h5 : sizeN ks vs ps ≤ 500) {N d : Nat} (hd : 9 ≤ d) {Z : Fz} {F : List Hl} {H : AH} (hs : Sat H Z (F)) (hr : RL r [.bool lf, vk, vv, vp]) (hk : Fl Z 1 vk (strs ks)) (hv : Fl Z 1 vv (strs vs)) (hp : Fl Z 3 vp (ptrs ps)) (hkl : ks.length ≤ 1099511627776) (hvl : vs.length ≤ 1099511627776) (hpl : ps.length ≤ 1099511627776) (hNk : ks.length < N) (hNv : vs.length < N) (hNp : ps.length < N) (hN3 : 3 < N) (hsz : sizeN ks vs ps ≤ 1099511627776) (hps : ∀ p ∈ ps, p.s < 18446744073709551616) (hbk : BytesOk ks) (hbv : BytesOk vs) :
    Ct (RUN tbl N d) (.fn (.fn (.func NeN.encode)) [] []) [(.agg r)] H fun v H' => v = .tup [.str (encB lf ks vs ps), .int .i64 0] ∧ Sat H' Z F := by
  obtain ⟨d, rfl⟩ : ∃ e, d = e + 9 := ⟨d - 9, by omega⟩
  have hsz2 := h5
  unfold sizeN at hsz2
  have hfl := hf.2.2 hlf
  have hkids := hfl.2.2.2
  have hpk := hfl.2.1
  refine ct_code T.encode (b := b_eencode) (env := [(.agg r), u_, u_, u_, u_, u_, u_, u_, u_, u_, u_, u_, u_, u_, u_, u_, u_, u_, u_, u_, u_, u_, u_, u_, u_, u_, u_, u_, u_, u_, u_, u_, u_, u_, u_, u_, u_, u_, u_, u_, u_, u_, u_, u_, u_, u_, u_, u_, u_, u_, u_, u_, u_, u_, u_, u_, u_, u_, u_, u_, u_, u_, u_, u_, u_, u_, u_, u_, u_, u_, u_, u_, u_]) ?_
  unfold b_eencode
  refine wp_seq (wp_reg ?_)
  obtain ⟨b1, H2, s3, k4⟩ := s_boxn hs hr
  refine wo_x (v := (.ptr b1 0)) (k4 rfl) (wo_mv (.str []) (wo_mv (.int .i64 0) (wo_nil (thn_n (wp_seq ?_)))))
  refine wp_block (wp_seq (wp_reg ?_))
  obtain ⟨r5, q6, k7⟩ := s_ldn s3 0 0 4 
  refine wo_x (v := (.agg r5)) (k7 rfl) ?_
  obtain ⟨_, H8, ⟨rfl, s9⟩, k10⟩ := form_ok (N := N) (d := d + 8) TD TB (by omega) s3 q6 hk hv hp hkl hvl hpl hNk hNv hNp hps
  refine wo_call k10 (wo_x (v := (.bool false)) (w_notT (congrArg AV.bool (dB_true hf))) (wo_mv (.bool false) (wo_nil (thn_n (wp_condF ?_)))))
  refine wp_seq (wp_reg ?_)
  obtain ⟨r11, q12, k13⟩ := s_ldn s9 0 0 4 
  refine wo_x (v := (.agg r11)) (k13 rfl) ?_
  obtain ⟨_, H14, ⟨rfl, s15⟩, k16⟩ := size_ok (N := N) (d := d + 8) TD (by omega) s9 q12 hk hv hp hkl hvl hpl hNk hNv hNp hN3 hsz
  refine wo_call k16 (wo_x (v := (.bool false)) (w_bin (cmp_gtrF (sizeN ks vs ps) 500 (by omega))) (wo_mv (.bool false) (wo_nil (thn_n (wp_condF ?_)))))
  refine wp_skip (blk_n (thn_n (wp_seq (wp_reg (wo_x (v := (.ptr b1 1)) (ca_fla rfl rfl) ?_)))))
  refine wo_x (v := vk) (s_ld1 s15 0 rfl) (wo_x (v := (.int .i64 (.ofNat ks.length))) (fl_len hk (strs_len ks) rfl) (wo_x (v := (.int .i64 (.ofNat (ks.length / 256)))) (w_bin (shr_u (a := ks.length) (b := 8) (p := 256) rfl)) (wo_x (v := (.int .u8 (.ofNat ((ks.length / 256) % 256)))) (w_cvi rfl rfl) (wo_x (v := (.ptr b1 1)) (ca_fla rfl rfl) (wo_x (v := vk) (s_ld1 s15 0 rfl) ?_)))))
  refine wo_x (v := (.int .i64 (.ofNat ks.length))) (fl_len hk (strs_len ks) rfl) (wo_x (v := (.int .u8 (.ofNat (ks.length % 256)))) (w_cvi rfl rfl) ?_)
  obtain ⟨b17, H18, s19, k20⟩ := s_bsl s15 (((RL.rep 2 (.int .u8 0)).set 0 (.int .u8 (.ofNat ((ks.length / 256) % 256)))).set 1 (.int .u8 (.ofNat (ks.length % 256))))
  refine wo_x (v := (.slc b17 0 2 2)) (k20 (fill_s (v := (.int .u8 (.ofNat ((ks.length / 256) % 256)))) rfl rfl rfl (fill_s (v := (.int .u8 (.ofNat (ks.length % 256)))) rfl rfl rfl fill_nil))) ?_
  obtain ⟨b21, H22, s23, k24⟩ := s_alloc s19 (RL.one .nils)
  refine wo_x (v := (.ptr b21 0)) (k24) ?_
  obtain ⟨H25, s26, k27⟩ := s_st s23 0 (.slc b17 0 2 2) (Nat.le_of_ble_eq_true rfl)
  refine wo_n (k27 rfl rfl) (wo_nil (thn_n (wp_seq (wp_reg (wo_x (v := (.fn (.fn (.func NeN.enc1)) [] [(.ptr b1 0), (.ptr b21 0)])) (w_lit (fun K => rfl)) ?_)))))
  refine wo_mv (.fn (.fn (.func NeN.enc1)) [] [(.ptr b1 0), (.ptr b21 0)]) (wo_nil (thn_n (wp_seq (wp_seq (wp_reg ?_)))))
  refine wo_x (v := (.ptr b1 0)) (ca_fla rfl rfl) (wo_x (v := (.bool lf)) (s_ld1 s26 2 rfl) (wo_x (v := (.bool true)) (w_notF (congrArg AV.bool (Bool.eq_false_iff.2 (by rw [hlf]; simp)))) (wo_nil (thn_n (wp_condT ?_)))))
  refine wp_reg (wo_mv (.fn (.fn (.func NeN.enc1)) [] [(.ptr b1 0), (.ptr b21 0)]) ?_)
  have s31 := s26.pull 2
  have s32 := s31.pull 1
  have s33 := s32.pull 2
  obtain ⟨_, H34, ⟨rfl, v28, b29, h30, s35⟩, k36⟩ := enc1_ok (N := N) (d := d + 8) (B := [(ks.length / 256) % 256, ks.length % 256]) T TB (by omega) s33 hp (.slc _ 2) (by simp [headB, bodyB]) (by simp only [List.length_append, List.length_cons, List.length_nil, PtrM.B, ptrB_len, tB, headB]; omega) (show 0 < ps.length by omega) (hkids _ (show 0 < ps.length by omega)) hps
  refine wo_call k36 (wo_nil (thn_n (wp_seq (wp_seq (wp_reg ?_)))))
  refine wo_x (v := (.ptr b1 1)) (ca_fla rfl rfl) (wo_x (v := vk) (s_ld1 s35 2 rfl) (wo_x (v := (.int .i64 (.ofNat ks.length))) (fl_len hk (strs_len ks) rfl) (wo_mv (.int .i64 0) (wo_nil (thn_n ?_)))))
  refine wp_block ?_
  have e39 : [(ks.length / 256) % 256, ks.length % 256] ++ (ptAt ps 0).B = bodyB lf ks vs ps 0 := (by simp [bodyB, headB, kidB, hlf])
  have s38 : Sat H34 Z (.cells b29 ((bodyB lf ks vs ps 0).map byteV) :: .cells b21 [v28] :: .cells b1 [.bool lf, vk, vv, vp] :: F) := by rw [← e39]; exact s35
  refine wp_loop (fun ms_ env ds H => ∃ (i : Nat) (vb : AV) (cb : Nat), ∃ ys37 : List AV, ms_ = ks.length - i ∧ env = [(.agg r), (.ptr b1 0), (.str []), (.int .i64 0), (.ptr b21 0), (.fn (.fn (.func NeN.enc1)) [] [(.ptr b1 0), (.ptr b21 0)]), (lget ys37 0), (lget ys37 1), (.bool false), (.agg r5), (.bool (dB (FormN lf ks vs ps))), (.bool false), (.bool false), (.agg r11), (.int .i64 (.ofNat (sizeN ks vs ps))), (.bool false), (.ptr b1 1), vk, (.int .i64 (.ofNat ks.length)), (.int .i64 (.ofNat (ks.length / 256))), (.int .u8 (.ofNat ((ks.length / 256) % 256))), (.ptr b1 1), vk, (.int .i64 (.ofNat ks.length)), (.int .u8 (.ofNat (ks.length % 256))), (.slc b17 0 2 2), (.fn (.fn (.func NeN.enc1)) [] [(.ptr b1 0), (.ptr b21 0)]), (.ptr b1 0), (.bool lf), (.bool true), (.fn (.fn (.func NeN.enc1)) [] [(.ptr b1 0), (.ptr b21 0)]), u_, (.ptr b1 1), vk, (.int .i64 (.ofNat ks.length)), (.int .i64 (.ofNat i)), (lget ys37 2), (lget ys37 3), (lget ys37 4), (lget ys37 5), (lget ys37 6), (lget ys37 7), (lget ys37 8), (lget ys37 9), (lget ys37 10), (lget ys37 11), (lget ys37 12), (lget ys37 13), (lget ys37 14), (lget ys37 15), (lget ys37 16), (lget ys37 17), (lget ys37 18), (lget ys37 19), (lget ys37 20), (lget ys37 21), (lget ys37 22), (lget ys37 23), (lget ys37 24), (lget ys37 25), (lget ys37 26), (lget ys37 27), (lget ys37 28), (lget ys37 29), (lget ys37 30), (lget ys37 31), (lget ys37 32), (lget ys37 33), (lget ys37 34), (lget ys37 35), (lget ys37 36), u_, u_] ∧ ds = [] ∧ Sat H Z ((.cells cb ((bodyB lf ks vs ps i).map byteV)) :: (.cells b21 [vb]) :: (.cells b1 [(.bool lf), vk, vv, vp]) :: F) ∧ (Buf 1 vb cb (bodyB lf ks vs ps i).length) ∧ (i ≤ ks.length)) (ks.length - 0) (by omega) ⟨0, v28, b29, [u_, u_, u_, u_, u_, u_, u_, u_, u_, u_, u_, u_, u_, u_, u_, u_, u_, u_, u_, u_, u_, u_, u_, u_, u_, u_, u_, u_, u_, u_, u_, u_, u_, u_, u_, u_, u_], rfl, rfl, rfl, s38, (by rw [← e39]; exact h30), (by omega)⟩ ?_
  rintro ms_ env ds H hms_ ⟨i, vb, cb, ys37, rfl, rfl, rfl, s40, hvb, hi⟩
  have hbl := bodyB_le lf ks vs ps hi (fun h => by rw [hlf] at h; cases h)
  refine wp_seq (wp_reg ?_)
  by_cases c41 : i < ks.length
  · have q42 := txt_le (ks := ks) i
    have q43 := txt_le (ks := vs) i
    refine wo_x (v := (.bool true)) (w_bin (cmp_lssT i ks.length (by omega))) (wo_nil (thn_n (wp_seq (wp_condT (wp_skip ?_)))))
    refine thn_n (wp_seq (wp_block (wp_seq (wp_reg (wo_mv (.int .i64 (.ofNat i)) ?_)))))
    obtain ⟨b44, o45, L46, z47, g48, e49, n50, k51⟩ := fl_ix hk i (strs_get (show i < ks.length by omega))
    refine wo_x (v := (.ptr b44 o45)) (k51 rfl rfl) (wo_x (v := (.str (txt ks i))) (s_zld1 s40 z47 (g48 0 _ rfl)) (wo_mv (.int .i64 (.ofNat i)) (wo_mv (.str (txt ks i)) (wo_nil (thn_n ?_)))))
    refine wp_seq (wp_reg (wo_x (v := vb) (s_ld1 s40 1 rfl) (wo_mv (.str (txt ks i)) (wo_x (v := (.int .i64 (.ofNat ((txt ks i).length)))) (w_lens (s := (txt ks i)) (n := ((txt ks i).length)) rfl rfl) (wo_x (v := (.int .u8 (.ofNat (((txt ks i).length) % 256)))) (w_cvi rfl rfl) ?_)))))
    obtain ⟨b52, H53, s54, k55⟩ := s_bsl s40 ((RL.rep 1 (.int .u8 0)).set 0 (.int .u8 (.ofNat (((txt ks i).length) % 256))))
    refine wo_x (v := (.slc b52 0 1 1)) (k55 (fill_s (v := (.int .u8 (.ofNat (((txt ks i).length) % 256)))) rfl rfl rfl fill_nil)) ?_
    have s56 := s54.pull 1
    obtain ⟨v57, b58, H59, h60, s61, k62⟩ := s_bytes (B := bodyB lf ks vs ps i) (s := [((txt ks i).length) % 256]) s56 hvb (by simp [headB, bodyB]) (src_sl s56 1 (.slc _ 0 1 1 1) (Nat.le_of_ble_eq_true rfl)) (by simp only [List.length_append, List.length_cons, List.length_nil, PtrM.B, ptrB_len, tB, headB]; omega)
    refine wo_x (v := v57) (k62 rfl rfl) (wo_mv (.str (txt ks i)) ?_)
    obtain ⟨v63, b64, H65, h66, s67, k68⟩ := s_bytes (B := (bodyB lf ks vs ps i) ++ [((txt ks i).length) % 256]) (s := txt ks i) s61 h60 (by simp [headB, bodyB]) (src_str (txt ks i)) (by simp only [List.length_append, List.length_cons, List.length_nil, PtrM.B, ptrB_len, tB, headB]; omega)
    refine wo_x (v := v63) (k68 rfl rfl) ?_
    have s69 := s67.pull 2
    obtain ⟨H70, s71, k72⟩ := s_st s69 0 v63 (Nat.le_of_ble_eq_true rfl) (hv := (sl_sc (buf_sl h66)))
    refine wo_n (k72 rfl rfl) (wo_nil (thn_n (wp_seq (wp_reg (wo_x (v := (.ptr b1 0)) (ca_fla rfl rfl) ?_)))))
    refine wo_x (v := (.bool lf)) (s_ld1 s71 3 rfl) (wo_nil (thn_n (wp_condF (hc := (congrArg AV.bool (Bool.eq_false_iff.2 (by rw [hlf]; simp)))) (wp_reg (wo_mv (.fn (.fn (.func NeN.enc1)) [] [(.ptr b1 0), (.ptr b21 0)]) ?_)))))
    refine wo_mv (.int .i64 (.ofNat i)) (wo_x (v := (.int .i64 (.ofNat (i + 1)))) (w_bin (add_i64 i 1 (by omega) _ _)) ?_)
    have s76 := s71.pull 3
    have s77 := s76.pull 1
    have s78 := s77.pull 2
    obtain ⟨_, H79, ⟨rfl, v73, b74, h75, s80⟩, k81⟩ := enc1_ok (N := N) (d := d + 8) (B := ((bodyB lf ks vs ps i) ++ [((txt ks i).length) % 256]) ++ (txt ks i)) T TB (by omega) s78 hp h66 (by simp [headB, bodyB]) (by simp only [List.length_append, List.length_cons, List.length_nil, PtrM.B, ptrB_len, tB, headB]; omega) (show i + 1 < ps.length by omega) (hkids _ (show i + 1 < ps.length by omega)) hps
    refine wo_call k81 (wo_nil (blk_n (thn_n (wp_reg (wo_x (v := (.int .i64 (.ofNat (i + 1)))) (w_bin (add_i64 i 1 (by omega) _ _)) ?_)))))
    refine wo_mv (.int .i64 (.ofNat (i + 1))) (wo_nil ?_)
    have e82 : (((bodyB lf ks vs ps i) ++ [((txt ks i).length) % 256]) ++ (txt ks i)) ++ (ptAt ps (i + 1)).B = bodyB lf ks vs ps (i + 1) := (by unfold bodyB; simp only [hlf, Bool.false_eq_true, if_false, kidB_succ, tB, List.append_assoc])
    have h84 := h75
    rw [e82] at h84
    have s83 : Sat H79 Z ((.cells b74 ((bodyB lf ks vs ps (i + 1)).map byteV)) :: (.cells b21 [v73]) :: (.cells b1 [(.bool lf), vk, vv, vp]) :: (.cells b52 [(.int .u8 (.ofNat (((txt ks i).length) % 256)))]) :: F) := by rw [← e82]; exact s80
    have s85 := s83.drop 3
    refine lpq_n (ks.length - (i + 1)) (by omega) ⟨(i + 1), v73, b74, [(.int .i64 (.ofNat i)), (.str (txt ks i)), (.bool true), (.int .i64 (.ofNat i)), (.ptr b44 o45), (.str (txt ks i)), vb, (.str (txt ks i)), (.int .i64 (.ofNat ((txt ks i).length))), (.int .u8 (.ofNat (((txt ks i).length) % 256))), (.slc b52 0 1 1), v57, (.str (txt ks i)), v63, (.ptr b1 0), (.bool lf), (lget ys37 16), (lget ys37 17), (lget ys37 18), (lget ys37 19), (lget ys37 20), (lget ys37 21), (lget ys37 22), (lget ys37 23), (lget ys37 24), (lget ys37 25), (lget ys37 26), (lget ys37 27), (lget ys37 28), (lget ys37 29), (lget ys37 30), (lget ys37 31), (.fn (.fn (.func NeN.enc1)) [] [(.ptr b1 0), (.ptr b21 0)]), (.int .i64 (.ofNat i)), (.int .i64 (.ofNat (i + 1))), u_, (.int .i64 (.ofNat (i + 1)))], rfl, rfl, rfl, s85, h84, (by omega)⟩
  · have hik : i = ks.length := by omega
    refine wo_x (v := (.bool false)) (w_bin (cmp_lssF i ks.length (by omega))) (wo_nil (thn_n (wp_seq (wp_condF (wp_exit ?_)))))
    refine thn_e (lpq_e (blk_h (thn_n (wp_seq (wp_reg ?_)))))
    refine wo_x (v := vb) (s_ld1 s40 1 rfl) (wo_x (v := (.str (bodyB lf ks vs ps i))) (s_b2s s40 0 (buf_sl hvb) (bodyB lf ks vs ps i) (by have h := encB_byte (lf := lf) (ks := ks) (vs := vs) (ps := ps) hbk hbv; unfold encB at h; rw [hik]; exact h) (hL := take_bytes _) (ho := by simp)) (wo_mv (.str (bodyB lf ks vs ps i)) (wo_mv (.int .i64 0) (wo_nil (thn_n ?_)))))
    refine wp_ret ?_
    have s86 := s40.drop 0
    have s87 := s86.drop 0
    have s88 := s87.drop 0
    exact fin_2 (.str (bodyB lf ks vs ps i)) (.int .i64 0) ⟨congrArg (fun z => AV.tup [.str z, .int .i64 0]) (by unfold encB; rw [hik]), s88⟩
end
end Go.Jt
