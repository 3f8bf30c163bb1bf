/-
  A pointer's bytes. PRINTED by wip/tools/mkblk.py.
-/
import Derived.Test.YtlhlgmodhblplaaJtOp
set_option autoImplicit false
set_option linter.all false
set_option maxRecDepth 10000
set_option maxHeartbeats 8000000
namespace Go.Jt
noncomputable section
variable [Gl]
class BkN where
  enc : Nat
  may : Nat
  word : Nat
  dec : Nat
  number : Nat
def b_kenc [BkN] : IR := (.seq (.reg [xo 1 (.box t0), xo 2 (.mv (.cst (.str []))), xo 3 (.mv (.cst (.int .i64 0)))]) (.seq (.seq (.reg [xo 8 (.ldn 3 t1), xo 9 (.call (.cst (.fn (.fn (.func BkN.may)) [] [])) [t8]), xo 10 (.not t9)]) (.cond t10 (.seq (.reg [xo 2 (.mv (.cst (.str []))), xo 3 (.mv (.cst (.int .i64 4)))]) .ret) .skip)) (.seq (.dreg [.run (xo 11 (.fla 0 t1)), .run (xo 12 (.ld1 t11)), .run (xo 14 (.fla 1 t1)), .run (xo 15 (.ld1 t14)), .run (xo 17 (.fla 2 t1)), .run (xo 18 (.ld1 t17)), .run (xo 19 (.bin .shr 0 t18 (.cst (.int .u64 32)))), .run (xo 20 (.cvi .i64 t19)), .run (xo 22 (.fla 2 t1)), .run (xo 23 (.ld1 t22)), .run (xo 24 (.bin .and 0 t23 (.cst (.int .u64 4294967295)))), .run (xo 25 (.cvi .i64 t24)), .run (xo 4 (.alloc (.rep 4 (.int .u8 0)))), .run (xo 5 (.alloc (.rep 4 (.int .u8 0)))), .run (xo 6 (.alloc (.rep 4 (.int .u8 0)))), .run (xo 7 (.alloc (.rep 4 (.int .u8 0))))] [(xo 13 (.call (.cst (.fn (.fn (.func BkN.word)) [] [])) [t12]), [.again (xo 15 (.ld1 t14)), .again (xo 18 (.ld1 t17)), .again (xo 19 (.bin .shr 0 t18 (.cst (.int .u64 32)))), .again (xo 23 (.ld1 t22)), .again (xo 24 (.bin .and 0 t23 (.cst (.int .u64 4294967295))))]), (xo 16 (.call (.cst (.fn (.fn (.func BkN.word)) [] [])) [t15]), [.again (xo 18 (.ld1 t17)), .again (xo 19 (.bin .shr 0 t18 (.cst (.int .u64 32)))), .again (xo 23 (.ld1 t22)), .again (xo 24 (.bin .and 0 t23 (.cst (.int .u64 4294967295))))]), (xo 21 (.call (.cst (.fn (.fn (.func BkN.word)) [] [])) [t20]), [.again (xo 23 (.ld1 t22)), .again (xo 24 (.bin .and 0 t23 (.cst (.int .u64 4294967295))))]), (xo 26 (.call (.cst (.fn (.fn (.func BkN.word)) [] [])) [t25]), []), (⟨none, .st 4 t4 t13, none⟩, []), (⟨none, .st 4 t5 t16, none⟩, []), (⟨none, .st 4 t6 t21, none⟩, []), (⟨none, .st 4 t7 t26, none⟩, [])]) (.seq (.dreg [.run (xo 27 (.sla 4 1 t4 none none none)), .run (xo 28 (.b2s t27)), .run (xo 29 (.sla 4 1 t5 none none none)), .run (xo 30 (.b2s t29)), .run (xo 31 (.bin .add 0 t28 t30)), .run (xo 32 (.sla 4 1 t6 none none none)), .run (xo 33 (.b2s t32)), .run (xo 34 (.bin .add 0 t31 t33)), .run (xo 35 (.sla 4 1 t7 none none none)), .run (xo 36 (.b2s t35)), .run (xo 37 (.bin .add 0 t34 t36)), .run (mv 2 t37), .run (xo 3 (.mv (.cst (.int .i64 0))))] []) .ret))))
def ir_kenc [BkN] : FnIR := ⟨38, [.tmp 2, .tmp 3], b_kenc⟩
def b_kmay [BkN] : IR := (.seq (.reg [xo 1 (.box t0), xo 2 (.mv (.cst (.bool false)))]) (.seq (.seq (.reg [xo 3 (.fla 0 t1), xo 4 (.ld1 t3), xo 5 (.bin .eql 0 t4 (.cst (.int .i64 0)))]) (.cond t5 (.seq (.reg [xo 6 (.ldn 3 t1), xo 7 (.build (.cat 2 (.rep 2 (.int .i64 0)) (.one (.int .u64 0))) []), xo 8 (.eqa false [0, 0, 0] t6 t7), mv 2 t8]) .ret) .skip)) (.seq (.reg [xo 9 (.fla 0 t1), xo 10 (.ld1 t9), xo 11 (.bin .gtr 0 t10 (.cst (.int .i64 0))), mv 12 t11, ⟨some 13, .fla 0 t1, some (12, true)⟩, ⟨some 14, .ld1 t13, some (12, true)⟩, ⟨some 15, .bin .lss 0 t14 (.cst (.int .i64 8192)), some (12, true)⟩, xo 16 (.pick t12 t15 (.cst (.bool false))), mv 17 t16, ⟨some 18, .fla 1 t1, some (17, true)⟩, ⟨some 19, .ld1 t18, some (17, true)⟩, ⟨some 20, .bin .geq 0 t19 (.cst (.int .i64 0)), some (17, true)⟩, xo 21 (.pick t17 t20 (.cst (.bool false))), mv 22 t21, ⟨some 23, .fla 1 t1, some (22, true)⟩, ⟨some 24, .ld1 t23, some (22, true)⟩, ⟨some 25, .bin .leq 0 t24 (.cst (.int .i64 2147483647)), some (22, true)⟩, xo 26 (.pick t22 t25 (.cst (.bool false))), mv 2 t26]) .ret)))
def ir_kmay [BkN] : FnIR := ⟨27, [.tmp 2], b_kmay⟩
def b_kword [BkN] : IR := (.seq (.reg [xo 2 (.alloc (.rep 4 (.int .u8 0)))]) (.seq (.reg [mv 3 t0, xo 4 (.bin .shr 0 t3 (.cst (.int .u64 24))), xo 5 (.cvi .u8 t4), mv 6 t0, xo 7 (.bin .shr 0 t6 (.cst (.int .u64 16))), xo 8 (.cvi .u8 t7), mv 9 t0, xo 10 (.bin .shr 0 t9 (.cst (.int .u64 8))), xo 11 (.cvi .u8 t10), mv 12 t0, xo 13 (.cvi .u8 t12), xo 14 (.build (.rep 4 (.int .u8 0)) [(0, 1, t5), (1, 1, t8), (2, 1, t11), (3, 1, t13)]), ⟨none, .st 4 t2 t14, none⟩]) .ret))
def ir_kword [BkN] : FnIR := ⟨15, [.cell 2 4 true], b_kword⟩
def b_kdec [BkN] : IR := (.seq (.reg [xo 2 (.alloc (.cat 2 (.rep 2 (.int .i64 0)) (.one (.int .u64 0)))), xo 3 (.mv (.cst (.int .i64 0)))]) (.seq (.seq (.reg [mv 6 t0, xo 7 (.len 0 t6), xo 8 (.bin .neq 0 t7 (.cst (.int .i64 16)))]) (.cond t8 (.seq (.reg [xo 9 (.build (.cat 2 (.rep 2 (.int .i64 0)) (.one (.int .u64 0))) []), ⟨none, .st 3 t2 t9, none⟩, xo 3 (.mv (.cst (.int .i64 4)))]) .ret) .skip)) (.seq (.reg [mv 10 t0, xo 11 (.s2b t10), xo 12 (.s2a 16 t11), xo 13 (.ldn 16 t12), xo 4 (.alloc (.rep 16 (.int .u8 0))), ⟨none, .st 16 t4 t13, none⟩]) (.seq (.dreg [.run (xo 14 (.sla 16 1 t4 none (some (.cst (.int .i64 4))) none)), .run (xo 15 (.s2a 4 t14)), .run (xo 16 (.ldn 4 t15)), .run (xo 18 (.sla 16 1 t4 (some (.cst (.int .i64 4))) (some (.cst (.int .i64 8))) none)), .run (xo 19 (.s2a 4 t18)), .run (xo 20 (.ldn 4 t19)), .run (xo 22 (.sla 16 1 t4 (some (.cst (.int .i64 8))) (some (.cst (.int .i64 12))) none)), .run (xo 23 (.s2a 4 t22)), .run (xo 24 (.ldn 4 t23)), .run (xo 28 (.sla 16 1 t4 (some (.cst (.int .i64 12))) none none)), .run (xo 29 (.s2a 4 t28)), .run (xo 30 (.ldn 4 t29)), .run (xo 5 (.alloc (.cat 2 (.rep 2 (.int .i64 0)) (.one (.int .u64 0)))))] [(xo 17 (.call (.cst (.fn (.fn (.func BkN.number)) [] [])) [t16]), [.again (xo 20 (.ldn 4 t19)), .again (xo 24 (.ldn 4 t23)), .again (xo 30 (.ldn 4 t29))]), (xo 21 (.call (.cst (.fn (.fn (.func BkN.number)) [] [])) [t20]), [.again (xo 24 (.ldn 4 t23)), .again (xo 30 (.ldn 4 t29))]), (xo 25 (.call (.cst (.fn (.fn (.func BkN.number)) [] [])) [t24]), [.again (xo 30 (.ldn 4 t29)), .run (xo 26 (.cvi .u64 t25)), .run (xo 27 (.bin .shl 0 t26 (.cst (.int .u64 32))))]), (xo 31 (.call (.cst (.fn (.fn (.func BkN.number)) [] [])) [t30]), [.again (xo 27 (.bin .shl 0 t26 (.cst (.int .u64 32)))), .run (xo 32 (.cvi .u64 t31)), .run (xo 33 (.bin .or 0 t27 t32)), .run (xo 34 (.build (.cat 2 (.rep 2 (.int .i64 0)) (.one (.int .u64 0))) [(0, 1, t17), (1, 1, t21), (2, 1, t33)]))]), (⟨none, .st 3 t5 t34, none⟩, [])]) (.seq (.seq (.reg [xo 35 (.ldn 3 t5), xo 36 (.call (.cst (.fn (.fn (.func BkN.may)) [] [])) [t35]), xo 37 (.not t36)]) (.cond t37 (.seq (.reg [xo 38 (.build (.cat 2 (.rep 2 (.int .i64 0)) (.one (.int .u64 0))) []), ⟨none, .st 3 t2 t38, none⟩, xo 3 (.mv (.cst (.int .i64 4)))]) .ret) .skip)) (.seq (.reg [xo 39 (.ldn 3 t5), ⟨none, .st 3 t2 t39, none⟩, xo 3 (.mv (.cst (.int .i64 0)))]) .ret))))))
def ir_kdec [BkN] : FnIR := ⟨40, [.cell 2 3 true, .tmp 3], b_kdec⟩
def b_knumber [BkN] : IR := (.seq (.reg [xo 1 (.box t0), xo 2 (.mv (.cst (.int .i64 0)))]) (.seq (.reg [xo 3 (.ixa 4 1 t1 (.cst (.int .i64 0))), xo 4 (.ld1 t3), xo 5 (.cvi .i64 t4), xo 6 (.bin .shl 0 t5 (.cst (.int .u64 24))), xo 7 (.ixa 4 1 t1 (.cst (.int .i64 1))), xo 8 (.ld1 t7), xo 9 (.cvi .i64 t8), xo 10 (.bin .shl 0 t9 (.cst (.int .u64 16))), xo 11 (.bin .or 0 t6 t10), xo 12 (.ixa 4 1 t1 (.cst (.int .i64 2))), xo 13 (.ld1 t12), xo 14 (.cvi .i64 t13), xo 15 (.bin .shl 0 t14 (.cst (.int .u64 8))), xo 16 (.bin .or 0 t11 t15), xo 17 (.ixa 4 1 t1 (.cst (.int .i64 3))), xo 18 (.ld1 t17), xo 19 (.cvi .i64 t18), xo 20 (.bin .or 0 t16 t19), mv 2 t20]) .ret))
def ir_knumber [BkN] : FnIR := ⟨21, [.tmp 2], b_knumber⟩
structure BkT [BkN] (tbl : Nat → Option FT) : Prop where
  enc : tbl BkN.enc = some (.code ir_kenc)
  may : tbl BkN.may = some (.code ir_kmay)
  word : tbl BkN.word = some (.code ir_kword)
  dec : tbl BkN.dec = some (.code ir_kdec)
  number : tbl BkN.number = some (.code ir_knumber)
/-- may a pointer be? -/
def PtrOk (a b : Int) (s : Nat) : Prop := (a = 0 ∧ b = 0 ∧ s = 0) ∨ (0 < a ∧ a < 8192 ∧ 0 ≤ b ∧ b ≤ 2147483647)
def ptrC (a b : Int) (s : Nat) : List AV := [.int .i64 a, .int .i64 b, .int .u64 (.ofNat s)]
def wordB (n : Nat) : List Nat := [n / 16777216 % 256, n / 65536 % 256, n / 256 % 256, n % 256]
def ptrB (a b s : Nat) : List Nat := wordB a ++ wordB b ++ wordB (s / 4294967296) ++ wordB (s % 4294967296)
def numB (a b c d : Nat) : Nat := a * 16777216 + b * 65536 + c * 256 + d
theorem may_ok [BkN] {tbl : Nat → Option FT} (T : BkT tbl) {a b : Int} {s : Nat} {r : Rp AV} (hr : RL r (ptrC a b s)) {N d : Nat} (hd : 1 ≤ d) {Z : Fz} {F : List Hl} {H : AH} (hs : Sat H Z (F))  :
    Ct (RUN tbl N d) (.fn (.fn (.func BkN.may)) [] []) [(.agg r)] H fun v H' => v = .bool (dB (PtrOk a b s)) ∧ Sat H' Z F := by
  obtain ⟨d, rfl⟩ : ∃ e, d = e + 1 := ⟨d - 1, by omega⟩
  refine ct_code T.may (b := b_kmay) (env := [(.agg r), u_, u_, u_, u_, u_, u_, u_, u_, u_, u_, u_, u_, u_, u_, u_, u_, u_, u_, u_, u_, u_, u_, u_, u_, u_, u_]) ?_
  unfold b_kmay
  refine wp_seq (wp_reg ?_)
  obtain ⟨b1, H2, s3, k4⟩ := s_boxn hs hr
  refine wo_x (v := (.ptr b1 0)) (k4 rfl) (wo_mv (.bool false) (wo_nil (thn_n (wp_seq (wp_seq ?_)))))
  refine wp_reg (wo_x (v := (.ptr b1 0)) (ca_fla rfl rfl) (wo_x (v := (.int .i64 a)) (s_ld1 s3 0 rfl) ?_))
  by_cases c5 : a = 0
  · refine wo_x (v := (.bool true)) (w_bin (cmp_eqlTz a 0 (by omega))) (wo_nil (thn_n (wp_condT (wp_seq (wp_reg ?_)))))
    obtain ⟨r6, q7, k8⟩ := s_ldn s3 0 0 3 
    refine wo_x (v := (.agg r6)) (k8 rfl) (wo_x (v := (.agg (.cat 2 (.rep 2 (.int .i64 0)) (.one (.int .u64 0))))) (w_build (r := (.cat 2 (.rep 2 (.int .i64 0)) (.one (.int .u64 0)))) fill_nil) (wo_x (v := (.bool (decide (a = 0) && (decide (b = 0) && decide (((s : Nat) : Int) = 0))))) (w_eqa q7 (RL.cat (RL.rep 2 (.int .i64 0)) (RL.one (.int .u64 0)) rfl) rfl rfl rfl rfl (eqS_3 a b ((s : Nat) : Int) 0 0 0) false) (wo_mv (.bool (decide (a = 0) && (decide (b = 0) && decide (((s : Nat) : Int) = 0)))) (wo_nil (thn_n ?_)))))
    refine wp_ret (thn_r ?_)
    have s9 := s3.drop 0
    exact fin_1 (.bool (decide (a = 0) && (decide (b = 0) && decide (((s : Nat) : Int) = 0)))) ⟨congrArg AV.bool (dB_eq (by unfold PtrOk; simp only [Bool.and_eq_true, decide_eq_true_eq]; omega)), s9⟩
  · refine wo_x (v := (.bool false)) (w_bin (cmp_eqlFz a 0 (by omega))) (wo_nil (thn_n (wp_condF (wp_skip (thn_n ?_)))))
    refine wp_seq (wp_reg (wo_x (v := (.ptr b1 0)) (ca_fla rfl rfl) (wo_x (v := (.int .i64 a)) (s_ld1 s3 0 rfl) ?_)))
    by_cases c10 : 0 < a
    · refine wo_x (v := (.bool true)) (w_bin (cmp_gtrTz a 0 (by omega))) (wo_mv (.bool true) (wo_yesT (wo_x (v := (.ptr b1 0)) (ca_fla rfl rfl) (wo_yesT (wo_x (v := (.int .i64 a)) (s_ld1 s3 0 rfl) ?_)))))
      by_cases c11 : a < 8192
      · refine wo_yesT (wo_x (v := (.bool true)) (w_bin (cmp_lssTz a 8192 (by omega))) (wo_x (v := (.bool true)) (w_pickT rfl rfl) (wo_mv (.bool true) (wo_yesT (wo_x (v := (.ptr b1 1)) (ca_fla rfl rfl) ?_)))))
        refine wo_yesT (wo_x (v := (.int .i64 b)) (s_ld1 s3 0 rfl) ?_)
        by_cases c12 : 0 ≤ b
        · refine wo_yesT (wo_x (v := (.bool true)) (w_bin (cmp_geqTz b 0 (by omega))) (wo_x (v := (.bool true)) (w_pickT rfl rfl) (wo_mv (.bool true) (wo_yesT (wo_x (v := (.ptr b1 1)) (ca_fla rfl rfl) ?_)))))
          refine wo_yesT (wo_x (v := (.int .i64 b)) (s_ld1 s3 0 rfl) ?_)
          by_cases c13 : b ≤ 2147483647
          · refine wo_yesT (wo_x (v := (.bool true)) (w_bin (cmp_leqTz b 2147483647 (by omega))) (wo_x (v := (.bool true)) (w_pickT rfl rfl) (wo_mv (.bool true) (wo_nil (thn_n ?_)))))
            refine wp_ret ?_
            have s14 := s3.drop 0
            exact fin_1 (.bool true) ⟨congrArg AV.bool (dB_true (by unfold PtrOk; omega)).symm, s14⟩
          · refine wo_yesT (wo_x (v := (.bool false)) (w_bin (cmp_leqFz b 2147483647 (by omega))) (wo_x (v := (.bool false)) (w_pickT rfl rfl) (wo_mv (.bool false) (wo_nil (thn_n ?_)))))
            refine wp_ret ?_
            have s15 := s3.drop 0
            exact fin_1 (.bool false) ⟨congrArg AV.bool (dB_false (by unfold PtrOk; omega)).symm, s15⟩
        · refine wo_yesT (wo_x (v := (.bool false)) (w_bin (cmp_geqFz b 0 (by omega))) (wo_x (v := (.bool false)) (w_pickT rfl rfl) (wo_mv (.bool false) (wo_noF (wo_noF ?_)))))
          refine wo_noF (wo_x (v := (.bool false)) (w_pickF rfl rfl) (wo_mv (.bool false) (wo_nil (thn_n (wp_ret ?_)))))
          have s16 := s3.drop 0
          exact fin_1 (.bool false) ⟨congrArg AV.bool (dB_false (by unfold PtrOk; omega)).symm, s16⟩
      · refine wo_yesT (wo_x (v := (.bool false)) (w_bin (cmp_lssFz a 8192 (by omega))) (wo_x (v := (.bool false)) (w_pickT rfl rfl) (wo_mv (.bool false) (wo_noF (wo_noF ?_)))))
        refine wo_noF (wo_x (v := (.bool false)) (w_pickF rfl rfl) (wo_mv (.bool false) (wo_noF (wo_noF (wo_noF ?_)))))
        refine wo_x (v := (.bool false)) (w_pickF rfl rfl) (wo_mv (.bool false) (wo_nil (thn_n (wp_ret ?_))))
        have s17 := s3.drop 0
        exact fin_1 (.bool false) ⟨congrArg AV.bool (dB_false (by unfold PtrOk; omega)).symm, s17⟩
    · refine wo_x (v := (.bool false)) (w_bin (cmp_gtrFz a 0 (by omega))) (wo_mv (.bool false) (wo_noF (wo_noF (wo_noF (wo_x (v := (.bool false)) (w_pickF rfl rfl) ?_)))))
      refine wo_mv (.bool false) (wo_noF (wo_noF (wo_noF (wo_x (v := (.bool false)) (w_pickF rfl rfl) (wo_mv (.bool false) ?_)))))
      refine wo_noF (wo_noF (wo_noF (wo_x (v := (.bool false)) (w_pickF rfl rfl) (wo_mv (.bool false) (wo_nil ?_)))))
      refine thn_n (wp_ret ?_)
      have s18 := s3.drop 0
      exact fin_1 (.bool false) ⟨congrArg AV.bool (dB_false (by unfold PtrOk; omega)).symm, s18⟩
theorem word_ok [BkN] {tbl : Nat → Option FT} (T : BkT tbl) {n : Nat} {N d : Nat} (hd : 1 ≤ d) {Z : Fz} {F : List Hl} {H : AH} (hs : Sat H Z (F))  :
    Ct (RUN tbl N d) (.fn (.fn (.func BkN.word)) [] []) [(.int .i64 (.ofNat n))] H fun v H' => ∃ r, v = .agg r ∧ RL r ((wordB n).map byteV) ∧ Sat H' Z F := by
  obtain ⟨d, rfl⟩ : ∃ e, d = e + 1 := ⟨d - 1, by omega⟩
  refine ct_code T.word (b := b_kword) (env := [(.int .i64 (.ofNat n)), u_, u_, u_, u_, u_, u_, u_, u_, u_, u_, u_, u_, u_, u_]) ?_
  unfold b_kword
  refine wp_seq (wp_reg ?_)
  obtain ⟨b1, H2, s3, k4⟩ := s_alloc hs (RL.rep 4 (.int .u8 0))
  refine wo_x (v := (.ptr b1 0)) (k4) (wo_nil (thn_n (wp_seq (wp_reg (wo_mv (.int .i64 (.ofNat n)) ?_)))))
  refine wo_x (v := (.int .i64 (.ofNat (n / 16777216)))) (w_bin (shr_u (a := n) (b := 24) (p := 16777216) rfl)) (wo_x (v := (.int .u8 (.ofNat ((n / 16777216) % 256)))) (w_cvi rfl rfl) (wo_mv (.int .i64 (.ofNat n)) (wo_x (v := (.int .i64 (.ofNat (n / 65536)))) (w_bin (shr_u (a := n) (b := 16) (p := 65536) rfl)) (wo_x (v := (.int .u8 (.ofNat ((n / 65536) % 256)))) (w_cvi rfl rfl) (wo_mv (.int .i64 (.ofNat n)) ?_)))))
  refine wo_x (v := (.int .i64 (.ofNat (n / 256)))) (w_bin (shr_u (a := n) (b := 8) (p := 256) rfl)) (wo_x (v := (.int .u8 (.ofNat ((n / 256) % 256)))) (w_cvi rfl rfl) (wo_mv (.int .i64 (.ofNat n)) (wo_x (v := (.int .u8 (.ofNat (n % 256)))) (w_cvi rfl rfl) (wo_x (v := (.agg (Rp.set (Rp.set (Rp.set (Rp.set (.rep 4 (.int .u8 0)) 0 (.int .u8 (.ofNat ((n / 16777216) % 256)))) 1 (.int .u8 (.ofNat ((n / 65536) % 256)))) 2 (.int .u8 (.ofNat ((n / 256) % 256)))) 3 (.int .u8 (.ofNat (n % 256)))))) (w_build (r := (Rp.set (Rp.set (Rp.set (Rp.set (.rep 4 (.int .u8 0)) 0 (.int .u8 (.ofNat ((n / 16777216) % 256)))) 1 (.int .u8 (.ofNat ((n / 65536) % 256)))) 2 (.int .u8 (.ofNat ((n / 256) % 256)))) 3 (.int .u8 (.ofNat (n % 256))))) (fill_s (v := (.int .u8 (.ofNat ((n / 16777216) % 256)))) rfl rfl rfl (fill_s (v := (.int .u8 (.ofNat ((n / 65536) % 256)))) rfl rfl rfl (fill_s (v := (.int .u8 (.ofNat ((n / 256) % 256)))) rfl rfl rfl (fill_s (v := (.int .u8 (.ofNat (n % 256)))) rfl rfl rfl fill_nil))))) ?_))))
  obtain ⟨H5, s6, k7⟩ := s_stn s3 (((((RL.rep 4 (.int .u8 0)).set 0 (.int .u8 (.ofNat ((n / 16777216) % 256)))).set 1 (.int .u8 (.ofNat ((n / 65536) % 256)))).set 2 (.int .u8 (.ofNat ((n / 256) % 256)))).set 3 (.int .u8 (.ofNat (n % 256)))) 0 4 rfl (Nat.le_of_ble_eq_true rfl)
  refine wo_n (k7 rfl rfl) (wo_nil (thn_n (wp_ret ?_)))
  refine fin_c  (off := 0) s6 0 fun r8 q9 => ?_
  have s10 := s6.drop 0
  exact ⟨_, rfl, q9, s10⟩
theorem mayy_ok [BkN] {tbl : Nat → Option FT} (T : BkT tbl) {a b : Int} {s : Nat} {r : Rp AV} (hok : PtrOk a b s) (hr : RL r (ptrC a b s)) {N d : Nat} (hd : 1 ≤ d) {Z : Fz} {F : List Hl} {H : AH} (hs : Sat H Z F) :
    Ct (RUN tbl N d) (.fn (.fn (.func BkN.may)) [] []) [.agg r] H fun v H' => v = .bool true ∧ Sat H' Z F := by
  have h := may_ok T (N := N) hr hd hs
  rw [dB_true hok] at h
  exact h
theorem mayn_ok [BkN] {tbl : Nat → Option FT} (T : BkT tbl) {a b : Int} {s : Nat} {r : Rp AV} (hok : ¬ PtrOk a b s) (hr : RL r (ptrC a b s)) {N d : Nat} (hd : 1 ≤ d) {Z : Fz} {F : List Hl} {H : AH} (hs : Sat H Z F) :
    Ct (RUN tbl N d) (.fn (.fn (.func BkN.may)) [] []) [.agg r] H fun v H' => v = .bool false ∧ Sat H' Z F := by
  have h := may_ok T (N := N) hr hd hs
  rw [dB_false hok] at h
  exact h
theorem encn_ok [BkN] {tbl : Nat → Option FT} (T : BkT tbl) {a b : Int} {s : Nat} {r : Rp AV} (hok : ¬ PtrOk a b s) (hr : RL r (ptrC a b s)) {N d : Nat} (hd : 2 ≤ d) {Z : Fz} {F : List Hl} {H : AH} (hs : Sat H Z (F))  :
    Ct (RUN tbl N d) (.fn (.fn (.func BkN.enc)) [] []) [(.agg r)] H fun v H' => v = .tup [.str [], .int .i64 4] ∧ Sat H' Z F := by
  obtain ⟨d, rfl⟩ : ∃ e, d = e + 2 := ⟨d - 2, by omega⟩
  refine ct_code T.enc (b := b_kenc) (env := [(.agg r), u_, u_, u_, u_, u_, u_, u_, u_, u_, u_, u_, u_, u_, u_, u_, u_, u_, u_, u_, u_, u_, u_, u_, u_, u_, u_, u_, u_, u_, u_, u_, u_, u_, u_, u_, u_, u_]) ?_
  unfold b_kenc
  refine wp_seq (wp_reg ?_)
  obtain ⟨b1, H2, s3, k4⟩ := s_boxn hs hr
  refine wo_x (v := (.ptr b1 0)) (k4 rfl) (wo_mv (.str []) (wo_mv (.int .i64 0) (wo_nil (thn_n (wp_seq ?_)))))
  refine wp_seq (wp_reg ?_)
  obtain ⟨r5, q6, k7⟩ := s_ldn s3 0 0 3 
  refine wo_x (v := (.agg r5)) (k7 rfl) ?_
  obtain ⟨_, H11, ⟨rfl, s12⟩, k13⟩ := mayn_ok (N := N) (d := d + 1) T hok q6 (by omega) s3
  refine wo_call k13 (wo_x (v := (.bool true)) (w_lit (fun K => rfl)) (wo_nil (thn_n (wp_condT (wp_seq ?_)))))
  refine wp_reg (wo_mv (.str []) (wo_mv (.int .i64 4) (wo_nil (thn_n (wp_ret ?_)))))
  refine thn_r ?_
  have s14 := s12.drop 0
  exact fin_2 (.str []) (.int .i64 4) ⟨rfl, s14⟩
theorem ency_ok [BkN] {tbl : Nat → Option FT} (T : BkT tbl) {a b s : Nat} {r : Rp AV} (hok : PtrOk (.ofNat a) (.ofNat b) s) (hr : RL r (ptrC (.ofNat a) (.ofNat b) s)) (hs64 : s < 18446744073709551616) {N d : Nat} (hd : 2 ≤ d) {Z : Fz} {F : List Hl} {H : AH} (hs : Sat H Z (F))  :
    Ct (RUN tbl N d) (.fn (.fn (.func BkN.enc)) [] []) [(.agg r)] H fun v H' => v = .tup [.str (ptrB a b s), .int .i64 0] ∧ Sat H' Z F := by
  obtain ⟨d, rfl⟩ : ∃ e, d = e + 2 := ⟨d - 2, by omega⟩
  refine ct_code T.enc (b := b_kenc) (env := [(.agg r), u_, u_, u_, u_, u_, u_, u_, u_, u_, u_, u_, u_, u_, u_, u_, u_, u_, u_, u_, u_, u_, u_, u_, u_, u_, u_, u_, u_, u_, u_, u_, u_, u_, u_, u_, u_, u_]) ?_
  unfold b_kenc
  refine wp_seq (wp_reg ?_)
  obtain ⟨b1, H2, s3, k4⟩ := s_boxn hs hr
  refine wo_x (v := (.ptr b1 0)) (k4 rfl) (wo_mv (.str []) (wo_mv (.int .i64 0) (wo_nil (thn_n (wp_seq ?_)))))
  refine wp_seq (wp_reg ?_)
  obtain ⟨r5, q6, k7⟩ := s_ldn s3 0 0 3 
  refine wo_x (v := (.agg r5)) (k7 rfl) ?_
  obtain ⟨_, H11, ⟨rfl, s12⟩, k13⟩ := mayy_ok (N := N) (d := d + 1) T hok q6 (by omega) s3
  refine wo_call k13 (wo_x (v := (.bool false)) (w_lit (fun K => rfl)) (wo_nil (thn_n (wp_condF (wp_skip ?_)))))
  refine thn_n (wp_seq (wp_dreg (wd_run (wo_x (v := (.ptr b1 0)) (ca_fla rfl rfl) (wo_nil ?_)))))
  refine wd_run (wo_x (v := (.int .i64 (.ofNat a))) (s_ld1 s12 0 rfl) (wo_nil (wd_run (wo_x (v := (.ptr b1 1)) (ca_fla rfl rfl) (wo_nil ?_)))))
  refine wd_run (wo_x (v := (.int .i64 (.ofNat b))) (s_ld1 s12 0 rfl) (wo_nil (wd_run (wo_x (v := (.ptr b1 2)) (ca_fla rfl rfl) (wo_nil ?_)))))
  refine wd_run (wo_x (v := (.int .u64 (.ofNat s))) (s_ld1 s12 0 rfl) (wo_nil (wd_run (wo_x (v := (.int .u64 (.ofNat (s / 4294967296)))) (w_bin (shr_u (a := s) (b := 32) (p := 4294967296) rfl)) (wo_nil ?_)))))
  refine wd_run (wo_x (v := (.int .i64 (.ofNat (s / 4294967296)))) (w_cvi (r := (s / 4294967296)) rfl (wrap_i64 _ (by omega))) (wo_nil (wd_run (wo_x (v := (.ptr b1 2)) (ca_fla rfl rfl) (wo_nil ?_)))))
  refine wd_run (wo_x (v := (.int .u64 (.ofNat s))) (s_ld1 s12 0 rfl) (wo_nil (wd_run (wo_x (v := (.int .u64 (.ofNat (s % 4294967296)))) (w_bin (and_u64 s (by omega))) (wo_nil ?_)))))
  refine wd_run (wo_x (v := (.int .i64 (.ofNat (s % 4294967296)))) (w_cvi (r := (s % 4294967296)) rfl (wrap_i64 _ (by omega))) (wo_nil (wd_run ?_)))
  obtain ⟨b14, H15, s16, k17⟩ := s_alloc s12 (RL.rep 4 (.int .u8 0))
  refine wo_x (v := (.ptr b14 0)) (k17) (wo_nil (wd_run ?_))
  obtain ⟨b18, H19, s20, k21⟩ := s_alloc s16 (RL.rep 4 (.int .u8 0))
  refine wo_x (v := (.ptr b18 0)) (k21) (wo_nil (wd_run ?_))
  obtain ⟨b22, H23, s24, k25⟩ := s_alloc s20 (RL.rep 4 (.int .u8 0))
  refine wo_x (v := (.ptr b22 0)) (k25) (wo_nil (wd_run ?_))
  obtain ⟨b26, H27, s28, k29⟩ := s_alloc s24 (RL.rep 4 (.int .u8 0))
  refine wo_x (v := (.ptr b26 0)) (k29) (wo_nil (wd_nil (ws_cons ?_)))
  obtain ⟨_, H32, ⟨r30, rfl, q31, s33⟩, k34⟩ := word_ok (N := N) (d := d + 1) T (n := a) (by omega) s28
  refine wo_call k34 (wo_nil (wd_again (v := (.int .i64 (.ofNat b))) (hs := same_int) (s_ld1 s33 4 rfl) (wd_again (v := (.int .u64 (.ofNat s))) (hs := same_int) (s_ld1 s33 4 rfl) (wd_again (v := (.int .u64 (.ofNat (s / 4294967296)))) (hs := same_int) (w_bin (shr_u (a := s) (b := 32) (p := 4294967296) rfl)) (wd_again (v := (.int .u64 (.ofNat s))) (hs := same_int) (s_ld1 s33 4 rfl) ?_)))))
  refine wd_again (v := (.int .u64 (.ofNat (s % 4294967296)))) (hs := same_int) (w_bin (and_u64 s (by omega))) (wd_nil (ws_cons ?_))
  obtain ⟨_, H37, ⟨r35, rfl, q36, s38⟩, k39⟩ := word_ok (N := N) (d := d + 1) T (n := b) (by omega) s33
  refine wo_call k39 (wo_nil (wd_again (v := (.int .u64 (.ofNat s))) (hs := same_int) (s_ld1 s38 4 rfl) (wd_again (v := (.int .u64 (.ofNat (s / 4294967296)))) (hs := same_int) (w_bin (shr_u (a := s) (b := 32) (p := 4294967296) rfl)) (wd_again (v := (.int .u64 (.ofNat s))) (hs := same_int) (s_ld1 s38 4 rfl) (wd_again (v := (.int .u64 (.ofNat (s % 4294967296)))) (hs := same_int) (w_bin (and_u64 s (by omega))) ?_)))))
  refine wd_nil (ws_cons ?_)
  obtain ⟨_, H42, ⟨r40, rfl, q41, s43⟩, k44⟩ := word_ok (N := N) (d := d + 1) T (n := s / 4294967296) (by omega) s38
  refine wo_call k44 (wo_nil (wd_again (v := (.int .u64 (.ofNat s))) (hs := same_int) (s_ld1 s43 4 rfl) (wd_again (v := (.int .u64 (.ofNat (s % 4294967296)))) (hs := same_int) (w_bin (and_u64 s (by omega))) (wd_nil (ws_cons ?_)))))
  obtain ⟨_, H47, ⟨r45, rfl, q46, s48⟩, k49⟩ := word_ok (N := N) (d := d + 1) T (n := s % 4294967296) (by omega) s43
  refine wo_call k49 (wo_nil (wd_nil (ws_cons ?_)))
  have s50 := s48.pull 3
  obtain ⟨H51, s52, k53⟩ := s_stn s50 q31 0 4 rfl (Nat.le_of_ble_eq_true rfl)
  refine wo_n (k53 rfl rfl) (wo_nil (wd_nil (ws_cons ?_)))
  have s54 := s52.pull 3
  obtain ⟨H55, s56, k57⟩ := s_stn s54 q36 0 4 rfl (Nat.le_of_ble_eq_true rfl)
  refine wo_n (k57 rfl rfl) (wo_nil (wd_nil (ws_cons ?_)))
  have s58 := s56.pull 3
  obtain ⟨H59, s60, k61⟩ := s_stn s58 q41 0 4 rfl (Nat.le_of_ble_eq_true rfl)
  refine wo_n (k61 rfl rfl) (wo_nil (wd_nil (ws_cons ?_)))
  have s62 := s60.pull 3
  obtain ⟨H63, s64, k65⟩ := s_stn s62 q46 0 4 rfl (Nat.le_of_ble_eq_true rfl)
  refine wo_n (k65 rfl rfl) (wo_nil (wd_nil (ws_nil (thn_n (wp_seq ?_)))))
  refine wp_dreg (wd_run (wo_x (v := (.slc b14 0 4 4)) (w_sla (lo := 0) (hi := 4) rfl (fun K => rfl) (by decide) (by decide) (by decide)) (wo_nil (wd_run (wo_x (v := (.str [a / 16777216 % 256, a / 65536 % 256, a / 256 % 256, a % 256])) (s_b2s s64 3 (.slc _ _ _ _ _) [a / 16777216 % 256, a / 65536 % 256, a / 256 % 256, a % 256] (by simp; omega)  ) ?_)))))
  refine wo_nil (wd_run (wo_x (v := (.slc b18 0 4 4)) (w_sla (lo := 0) (hi := 4) rfl (fun K => rfl) (by decide) (by decide) (by decide)) (wo_nil (wd_run (wo_x (v := (.str [b / 16777216 % 256, b / 65536 % 256, b / 256 % 256, b % 256])) (s_b2s s64 2 (.slc _ _ _ _ _) [b / 16777216 % 256, b / 65536 % 256, b / 256 % 256, b % 256] (by simp; omega)  ) ?_)))))
  refine wo_nil (wd_run (wo_x (v := (.str ([a / 16777216 % 256, a / 65536 % 256, a / 256 % 256, a % 256] ++ [b / 16777216 % 256, b / 65536 % 256, b / 256 % 256, b % 256]))) (w_bin (str_add (x := [a / 16777216 % 256, a / 65536 % 256, a / 256 % 256, a % 256]) (y := [b / 16777216 % 256, b / 65536 % 256, b / 256 % 256, b % 256]) (by simp))) (wo_nil (wd_run (wo_x (v := (.slc b22 0 4 4)) (w_sla (lo := 0) (hi := 4) rfl (fun K => rfl) (by decide) (by decide) (by decide)) ?_)))))
  refine wo_nil (wd_run (wo_x (v := (.str [(s / 4294967296) / 16777216 % 256, (s / 4294967296) / 65536 % 256, (s / 4294967296) / 256 % 256, (s / 4294967296) % 256])) (s_b2s s64 1 (.slc _ _ _ _ _) [(s / 4294967296) / 16777216 % 256, (s / 4294967296) / 65536 % 256, (s / 4294967296) / 256 % 256, (s / 4294967296) % 256] (by simp; omega)  ) (wo_nil (wd_run (wo_x (v := (.str (([a / 16777216 % 256, a / 65536 % 256, a / 256 % 256, a % 256] ++ [b / 16777216 % 256, b / 65536 % 256, b / 256 % 256, b % 256]) ++ [(s / 4294967296) / 16777216 % 256, (s / 4294967296) / 65536 % 256, (s / 4294967296) / 256 % 256, (s / 4294967296) % 256]))) (w_bin (str_add (x := ([a / 16777216 % 256, a / 65536 % 256, a / 256 % 256, a % 256] ++ [b / 16777216 % 256, b / 65536 % 256, b / 256 % 256, b % 256])) (y := [(s / 4294967296) / 16777216 % 256, (s / 4294967296) / 65536 % 256, (s / 4294967296) / 256 % 256, (s / 4294967296) % 256]) (by simp))) ?_)))))
  refine wo_nil (wd_run (wo_x (v := (.slc b26 0 4 4)) (w_sla (lo := 0) (hi := 4) rfl (fun K => rfl) (by decide) (by decide) (by decide)) (wo_nil (wd_run (wo_x (v := (.str [(s % 4294967296) / 16777216 % 256, (s % 4294967296) / 65536 % 256, (s % 4294967296) / 256 % 256, (s % 4294967296) % 256])) (s_b2s s64 0 (.slc _ _ _ _ _) [(s % 4294967296) / 16777216 % 256, (s % 4294967296) / 65536 % 256, (s % 4294967296) / 256 % 256, (s % 4294967296) % 256] (by simp; omega)  ) ?_)))))
  refine wo_nil (wd_run (wo_x (v := (.str ((([a / 16777216 % 256, a / 65536 % 256, a / 256 % 256, a % 256] ++ [b / 16777216 % 256, b / 65536 % 256, b / 256 % 256, b % 256]) ++ [(s / 4294967296) / 16777216 % 256, (s / 4294967296) / 65536 % 256, (s / 4294967296) / 256 % 256, (s / 4294967296) % 256]) ++ [(s % 4294967296) / 16777216 % 256, (s % 4294967296) / 65536 % 256, (s % 4294967296) / 256 % 256, (s % 4294967296) % 256]))) (w_bin (str_add (x := (([a / 16777216 % 256, a / 65536 % 256, a / 256 % 256, a % 256] ++ [b / 16777216 % 256, b / 65536 % 256, b / 256 % 256, b % 256]) ++ [(s / 4294967296) / 16777216 % 256, (s / 4294967296) / 65536 % 256, (s / 4294967296) / 256 % 256, (s / 4294967296) % 256])) (y := [(s % 4294967296) / 16777216 % 256, (s % 4294967296) / 65536 % 256, (s % 4294967296) / 256 % 256, (s % 4294967296) % 256]) (by simp))) (wo_nil (wd_run (wo_mv (.str ((([a / 16777216 % 256, a / 65536 % 256, a / 256 % 256, a % 256] ++ [b / 16777216 % 256, b / 65536 % 256, b / 256 % 256, b % 256]) ++ [(s / 4294967296) / 16777216 % 256, (s / 4294967296) / 65536 % 256, (s / 4294967296) / 256 % 256, (s / 4294967296) % 256]) ++ [(s % 4294967296) / 16777216 % 256, (s % 4294967296) / 65536 % 256, (s % 4294967296) / 256 % 256, (s % 4294967296) % 256])) ?_)))))
  refine wo_nil (wd_run (wo_mv (.int .i64 0) (wo_nil (wd_nil (ws_nil ?_)))))
  refine thn_n (wp_ret ?_)
  have s66 := s64.drop 0
  have s67 := s66.drop 0
  have s68 := s67.drop 0
  have s69 := s68.drop 0
  have s70 := s69.drop 0
  exact fin_2 (.str ((([a / 16777216 % 256, a / 65536 % 256, a / 256 % 256, a % 256] ++ [b / 16777216 % 256, b / 65536 % 256, b / 256 % 256, b % 256]) ++ [(s / 4294967296) / 16777216 % 256, (s / 4294967296) / 65536 % 256, (s / 4294967296) / 256 % 256, (s / 4294967296) % 256]) ++ [(s % 4294967296) / 16777216 % 256, (s % 4294967296) / 65536 % 256, (s % 4294967296) / 256 % 256, (s % 4294967296) % 256])) (.int .i64 0) ⟨rfl, s70⟩
theorem number_ok [BkN] {tbl : Nat → Option FT} (T : BkT tbl) {c0 c1 c2 c3 : Nat} {r : Rp AV} (hr : RL r [byteV c0, byteV c1, byteV c2, byteV c3]) (h0 : c0 < 256) (h1 : c1 < 256) (h2 : c2 < 256) (h3 : c3 < 256) {N d : Nat} (hd : 1 ≤ d) {Z : Fz} {F : List Hl} {H : AH} (hs : Sat H Z (F))  :
    Ct (RUN tbl N d) (.fn (.fn (.func BkN.number)) [] []) [(.agg r)] H fun v H' => v = .int .i64 (.ofNat (numB c0 c1 c2 c3)) ∧ Sat H' Z F := by
  obtain ⟨d, rfl⟩ : ∃ e, d = e + 1 := ⟨d - 1, by omega⟩
  refine ct_code T.number (b := b_knumber) (env := [(.agg r), u_, u_, u_, u_, u_, u_, u_, u_, u_, u_, u_, u_, u_, u_, u_, u_, u_, u_, u_, u_]) ?_
  unfold b_knumber
  refine wp_seq (wp_reg ?_)
  obtain ⟨b1, H2, s3, k4⟩ := s_boxn hs hr
  refine wo_x (v := (.ptr b1 0)) (k4 rfl) (wo_mv (.int .i64 0) (wo_nil (thn_n (wp_seq (wp_reg ?_)))))
  refine wo_x (v := (.ptr b1 0)) (w_ixa (o := 0) (n := 0) (r := 0) rfl rfl (by omega) (by omega)) (wo_x (v := (.int .u8 (.ofNat c0))) (s_ld1 s3 0 rfl) (wo_x (v := (.int .i64 (.ofNat c0))) (w_cvi (r := c0) rfl (wrap_i64 _ (by omega))) (wo_x (v := (.int .i64 (.ofNat (c0 * 16777216)))) (w_bin (shl_nat c0 24 (p := 16777216) rfl (wrap_i64 _ (by omega)))) (wo_x (v := (.ptr b1 1)) (w_ixa (o := 0) (n := 1) (r := 1) rfl rfl (by omega) (by omega)) (wo_x (v := (.int .u8 (.ofNat c1))) (s_ld1 s3 0 rfl) ?_)))))
  refine wo_x (v := (.int .i64 (.ofNat c1))) (w_cvi (r := c1) rfl (wrap_i64 _ (by omega))) (wo_x (v := (.int .i64 (.ofNat (c1 * 65536)))) (w_bin (shl_nat c1 16 (p := 65536) rfl (wrap_i64 _ (by omega)))) (wo_x (v := (.int .i64 (.ofNat ((c0 * 16777216) + (c1 * 65536))))) (w_bin (or_i64 (c0 * 16777216) (c1 * 65536) 24 16777216 rfl (by omega) (by omega) (by omega))) (wo_x (v := (.ptr b1 2)) (w_ixa (o := 0) (n := 2) (r := 2) rfl rfl (by omega) (by omega)) (wo_x (v := (.int .u8 (.ofNat c2))) (s_ld1 s3 0 rfl) (wo_x (v := (.int .i64 (.ofNat c2))) (w_cvi (r := c2) rfl (wrap_i64 _ (by omega))) ?_)))))
  refine wo_x (v := (.int .i64 (.ofNat (c2 * 256)))) (w_bin (shl_nat c2 8 (p := 256) rfl (wrap_i64 _ (by omega)))) (wo_x (v := (.int .i64 (.ofNat (((c0 * 16777216) + (c1 * 65536)) + (c2 * 256))))) (w_bin (or_i64 ((c0 * 16777216) + (c1 * 65536)) (c2 * 256) 16 65536 rfl (by omega) (by omega) (by omega))) (wo_x (v := (.ptr b1 3)) (w_ixa (o := 0) (n := 3) (r := 3) rfl rfl (by omega) (by omega)) (wo_x (v := (.int .u8 (.ofNat c3))) (s_ld1 s3 0 rfl) (wo_x (v := (.int .i64 (.ofNat c3))) (w_cvi (r := c3) rfl (wrap_i64 _ (by omega))) (wo_x (v := (.int .i64 (.ofNat ((((c0 * 16777216) + (c1 * 65536)) + (c2 * 256)) + c3)))) (w_bin (or_i64 (((c0 * 16777216) + (c1 * 65536)) + (c2 * 256)) c3 8 256 rfl (by omega) (by omega) (by omega))) ?_)))))
  refine wo_mv (.int .i64 (.ofNat ((((c0 * 16777216) + (c1 * 65536)) + (c2 * 256)) + c3))) (wo_nil (thn_n (wp_ret ?_)))
  have s5 := s3.drop 0
  exact fin_1 (.int .i64 (.ofNat ((((c0 * 16777216) + (c1 * 65536)) + (c2 * 256)) + c3))) ⟨rfl, s5⟩
theorem decl_ok [BkN] {tbl : Nat → Option FT} (T : BkT tbl) {s : List Nat} (hl : ¬ s.length = 16) {N d : Nat} (hd : 1 ≤ d) {Z : Fz} {F : List Hl} {H : AH} (hs : Sat H Z (F))  :
    Ct (RUN tbl N d) (.fn (.fn (.func BkN.dec)) [] []) [(.str s)] H fun v H' => ∃ r, v = .tup [.agg r, .int .i64 4] ∧ RL r (ptrC 0 0 0) ∧ Sat H' Z F := by
  obtain ⟨d, rfl⟩ : ∃ e, d = e + 1 := ⟨d - 1, by omega⟩
  refine ct_code T.dec (b := b_kdec) (env := [(.str s), u_, u_, u_, u_, u_, u_, u_, u_, u_, u_, u_, u_, u_, u_, u_, u_, u_, u_, u_, u_, u_, u_, u_, u_, u_, u_, u_, u_, u_, u_, u_, u_, u_, u_, u_, u_, u_, u_, u_]) ?_
  unfold b_kdec
  refine wp_seq (wp_reg ?_)
  obtain ⟨b1, H2, s3, k4⟩ := s_alloc hs (RL.cat (RL.rep 2 (.int .i64 0)) (RL.one (.int .u64 0)) rfl)
  refine wo_x (v := (.ptr b1 0)) (k4) (wo_mv (.int .i64 0) (wo_nil (thn_n (wp_seq (wp_seq ?_)))))
  refine wp_reg (wo_mv (.str s) (wo_x (v := (.int .i64 (.ofNat s.length))) (w_lens (s := s) (n := s.length) rfl rfl) (wo_x (v := (.bool true)) (w_bin (cmp_neqF s.length 16 (by omega))) (wo_nil (thn_n ?_)))))
  refine wp_condT (wp_seq (wp_reg (wo_x (v := (.agg (.cat 2 (.rep 2 (.int .i64 0)) (.one (.int .u64 0))))) (w_build (r := (.cat 2 (.rep 2 (.int .i64 0)) (.one (.int .u64 0)))) fill_nil) ?_)))
  obtain ⟨H5, s6, k7⟩ := s_stn s3 (RL.cat (RL.rep 2 (.int .i64 0)) (RL.one (.int .u64 0)) rfl) 0 3 rfl (Nat.le_of_ble_eq_true rfl)
  refine wo_n (k7 rfl rfl) (wo_mv (.int .i64 4) (wo_nil (thn_n (wp_ret (thn_r ?_)))))
  refine fin_ct (w := (.int .i64 4)) (off := 0) s6 0 fun r8 q9 => ?_
  have s10 := s6.drop 0
  exact ⟨_, rfl, q9, s10⟩
def decS (c0 c1 c2 c3 c4 c5 c6 c7 c8 c9 c10 c11 c12 c13 c14 c15 : Nat) : Nat := numB c8 c9 c10 c11 * 4294967296 + numB c12 c13 c14 c15
theorem numB_lt {a b c d : Nat} (h0 : a < 256) (h1 : b < 256) (h2 : c < 256) (h3 : d < 256) : numB a b c d < 4294967296 := by unfold numB; omega
theorem decy_ok [BkN] {tbl : Nat → Option FT} (T : BkT tbl) {c0 c1 c2 c3 c4 c5 c6 c7 c8 c9 c10 c11 c12 c13 c14 c15 : Nat} (h0 : c0 < 256) (h1 : c1 < 256) (h2 : c2 < 256) (h3 : c3 < 256) (h4 : c4 < 256) (h5 : c5 < 256) (h6 : c6 < 256) (h7 : c7 < 256) (h8 : c8 < 256) (h9 : c9 < 256) (h10 : c10 < 256) (h11 : c11 < 256) (h12 : c12 < 256) (h13 : c13 < 256) (h14 : c14 < 256) (h15 : c15 < 256) (hok : PtrOk (.ofNat (numB c0 c1 c2 c3)) (.ofNat (numB c4 c5 c6 c7)) (decS c0 c1 c2 c3 c4 c5 c6 c7 c8 c9 c10 c11 c12 c13 c14 c15)) {N d : Nat} (hd : 2 ≤ d) {Z : Fz} {F : List Hl} {H : AH} (hs : Sat H Z (F))  :
    Ct (RUN tbl N d) (.fn (.fn (.func BkN.dec)) [] []) [(.str [c0, c1, c2, c3, c4, c5, c6, c7, c8, c9, c10, c11, c12, c13, c14, c15])] H fun v H' => ∃ r, v = .tup [.agg r, .int .i64 0] ∧ RL r (ptrC (.ofNat (numB c0 c1 c2 c3)) (.ofNat (numB c4 c5 c6 c7)) (decS c0 c1 c2 c3 c4 c5 c6 c7 c8 c9 c10 c11 c12 c13 c14 c15)) ∧ Sat H' Z F := by
  obtain ⟨d, rfl⟩ : ∃ e, d = e + 2 := ⟨d - 2, by omega⟩
  have hn0 := numB_lt h0 h1 h2 h3
  have hn1 := numB_lt h4 h5 h6 h7
  have hn2 := numB_lt h8 h9 h10 h11
  have hn3 := numB_lt h12 h13 h14 h15
  refine ct_code T.dec (b := b_kdec) (env := [(.str [c0, c1, c2, c3, c4, c5, c6, c7, c8, c9, c10, c11, c12, c13, c14, c15]), u_, u_, u_, u_, u_, u_, u_, u_, u_, u_, u_, u_, u_, u_, u_, u_, u_, u_, u_, u_, u_, u_, u_, u_, u_, u_, u_, u_, u_, u_, u_, u_, u_, u_, u_, u_, u_, u_, u_]) ?_
  unfold b_kdec
  refine wp_seq (wp_reg ?_)
  obtain ⟨b1, H2, s3, k4⟩ := s_alloc hs (RL.cat (RL.rep 2 (.int .i64 0)) (RL.one (.int .u64 0)) rfl)
  refine wo_x (v := (.ptr b1 0)) (k4) (wo_mv (.int .i64 0) (wo_nil (thn_n (wp_seq (wp_seq ?_)))))
  refine wp_reg (wo_mv (.str [c0, c1, c2, c3, c4, c5, c6, c7, c8, c9, c10, c11, c12, c13, c14, c15]) (wo_x (v := (.int .i64 16)) (w_lens (s := [c0, c1, c2, c3, c4, c5, c6, c7, c8, c9, c10, c11, c12, c13, c14, c15]) (n := 16) rfl rfl) (wo_x (v := (.bool false)) (w_lit (fun K => rfl)) (wo_nil (thn_n ?_)))))
  refine wp_condF (wp_skip (thn_n (wp_seq (wp_reg (wo_mv (.str [c0, c1, c2, c3, c4, c5, c6, c7, c8, c9, c10, c11, c12, c13, c14, c15]) ?_)))))
  obtain ⟨b5, H6, s7, k8⟩ := x_s2b s3 [c0, c1, c2, c3, c4, c5, c6, c7, c8, c9, c10, c11, c12, c13, c14, c15]
  refine wo_x (v := (.slu b5 0 16 1)) (k8 rfl) (wo_x (v := (.ptr b5 0)) (w_s2a (n := 16) (.slu _ _ _ _)) (wo_x (v := (.agg (Rp.sub (Rp.ofL ([c0, c1, c2, c3, c4, c5, c6, c7, c8, c9, c10, c11, c12, c13, c14, c15].map byteV)) 0 16))) (x_ldn s7 0 (RL.ofL ([c0, c1, c2, c3, c4, c5, c6, c7, c8, c9, c10, c11, c12, c13, c14, c15].map byteV))) ?_))
  obtain ⟨b9, H10, s11, k12⟩ := x_alloc s7 (.rep 16 (.int .u8 0))
  refine wo_x (v := (.ptr b9 0)) (k12) ?_
  obtain ⟨H13, s14, k15⟩ := x_stn s11 0 16 rfl rfl (r := Rp.sub (Rp.ofL ([c0, c1, c2, c3, c4, c5, c6, c7, c8, c9, c10, c11, c12, c13, c14, c15].map byteV)) 0 16)
  refine wo_n (k15 rfl rfl) (wo_nil (thn_n (wp_seq (wp_dreg (wd_run ?_)))))
  refine wo_x (v := (.slc b9 0 4 16)) (w_sla (lo := 0) (hi := 4) rfl (fun K => rfl) (by decide) (by decide) (by decide)) (wo_nil (wd_run (wo_x (v := (.ptr b9 0)) (w_s2a (n := 4) (.slc _ _ _ _ _)) (wo_nil (wd_run ?_)))))
  refine wo_x (v := (.agg (Rp.sub (Rp.put (.rep 16 (.int .u8 0)) 0 16 (Rp.sub (Rp.ofL ([c0, c1, c2, c3, c4, c5, c6, c7, c8, c9, c10, c11, c12, c13, c14, c15].map byteV)) 0 16)) 0 4))) (x_ldn s14 0 (RL.put (o := 0) (n := 16) (RL.rep 16 (.int .u8 0)) ((RL.ofL ([c0, c1, c2, c3, c4, c5, c6, c7, c8, c9, c10, c11, c12, c13, c14, c15].map byteV)).sub 0 16) rfl (Nat.le_of_ble_eq_true rfl))) (wo_nil (wd_run (wo_x (v := (.slc b9 4 4 12)) (w_sla (lo := 4) (hi := 8) rfl (fun K => rfl) (by decide) (by decide) (by decide)) (wo_nil (wd_run ?_)))))
  refine wo_x (v := (.ptr b9 4)) (w_s2a (n := 4) (.slc _ _ _ _ _)) (wo_nil (wd_run (wo_x (v := (.agg (Rp.sub (Rp.put (.rep 16 (.int .u8 0)) 0 16 (Rp.sub (Rp.ofL ([c0, c1, c2, c3, c4, c5, c6, c7, c8, c9, c10, c11, c12, c13, c14, c15].map byteV)) 0 16)) 4 4))) (x_ldn s14 0 (RL.put (o := 0) (n := 16) (RL.rep 16 (.int .u8 0)) ((RL.ofL ([c0, c1, c2, c3, c4, c5, c6, c7, c8, c9, c10, c11, c12, c13, c14, c15].map byteV)).sub 0 16) rfl (Nat.le_of_ble_eq_true rfl))) (wo_nil (wd_run ?_)))))
  refine wo_x (v := (.slc b9 8 4 8)) (w_sla (lo := 8) (hi := 12) rfl (fun K => rfl) (by decide) (by decide) (by decide)) (wo_nil (wd_run (wo_x (v := (.ptr b9 8)) (w_s2a (n := 4) (.slc _ _ _ _ _)) (wo_nil (wd_run ?_)))))
  refine wo_x (v := (.agg (Rp.sub (Rp.put (.rep 16 (.int .u8 0)) 0 16 (Rp.sub (Rp.ofL ([c0, c1, c2, c3, c4, c5, c6, c7, c8, c9, c10, c11, c12, c13, c14, c15].map byteV)) 0 16)) 8 4))) (x_ldn s14 0 (RL.put (o := 0) (n := 16) (RL.rep 16 (.int .u8 0)) ((RL.ofL ([c0, c1, c2, c3, c4, c5, c6, c7, c8, c9, c10, c11, c12, c13, c14, c15].map byteV)).sub 0 16) rfl (Nat.le_of_ble_eq_true rfl))) (wo_nil (wd_run (wo_x (v := (.slc b9 12 4 4)) (w_sla (lo := 12) (hi := 16) rfl (fun K => rfl) (by decide) (by decide) (by decide)) (wo_nil (wd_run ?_)))))
  refine wo_x (v := (.ptr b9 12)) (w_s2a (n := 4) (.slc _ _ _ _ _)) (wo_nil (wd_run (wo_x (v := (.agg (Rp.sub (Rp.put (.rep 16 (.int .u8 0)) 0 16 (Rp.sub (Rp.ofL ([c0, c1, c2, c3, c4, c5, c6, c7, c8, c9, c10, c11, c12, c13, c14, c15].map byteV)) 0 16)) 12 4))) (x_ldn s14 0 (RL.put (o := 0) (n := 16) (RL.rep 16 (.int .u8 0)) ((RL.ofL ([c0, c1, c2, c3, c4, c5, c6, c7, c8, c9, c10, c11, c12, c13, c14, c15].map byteV)).sub 0 16) rfl (Nat.le_of_ble_eq_true rfl))) (wo_nil (wd_run ?_)))))
  obtain ⟨b16, H17, s18, k19⟩ := s_alloc s14 (RL.cat (RL.rep 2 (.int .i64 0)) (RL.one (.int .u64 0)) rfl)
  refine wo_x (v := (.ptr b16 0)) (k19) (wo_nil (wd_nil (ws_cons ?_)))
  obtain ⟨_, H20, ⟨rfl, s21⟩, k22⟩ := number_ok (N := N) (d := d + 1) T ((RL.put (o := 0) (n := 16) (RL.rep 16 (.int .u8 0)) ((RL.ofL ([c0, c1, c2, c3, c4, c5, c6, c7, c8, c9, c10, c11, c12, c13, c14, c15].map byteV)).sub 0 16) rfl (Nat.le_of_ble_eq_true rfl)).sub 0 4) (by omega) (by omega) (by omega) (by omega) (by omega) s18
  refine wo_call k22 (wo_nil (wd_again (v := (.agg (Rp.sub (Rp.put (.rep 16 (.int .u8 0)) 0 16 (Rp.sub (Rp.ofL ([c0, c1, c2, c3, c4, c5, c6, c7, c8, c9, c10, c11, c12, c13, c14, c15].map byteV)) 0 16)) 4 4))) (hs := (same_agg rfl)) (x_ldn s21 1 (RL.put (o := 0) (n := 16) (RL.rep 16 (.int .u8 0)) ((RL.ofL ([c0, c1, c2, c3, c4, c5, c6, c7, c8, c9, c10, c11, c12, c13, c14, c15].map byteV)).sub 0 16) rfl (Nat.le_of_ble_eq_true rfl))) (wd_again (v := (.agg (Rp.sub (Rp.put (.rep 16 (.int .u8 0)) 0 16 (Rp.sub (Rp.ofL ([c0, c1, c2, c3, c4, c5, c6, c7, c8, c9, c10, c11, c12, c13, c14, c15].map byteV)) 0 16)) 8 4))) (hs := (same_agg rfl)) (x_ldn s21 1 (RL.put (o := 0) (n := 16) (RL.rep 16 (.int .u8 0)) ((RL.ofL ([c0, c1, c2, c3, c4, c5, c6, c7, c8, c9, c10, c11, c12, c13, c14, c15].map byteV)).sub 0 16) rfl (Nat.le_of_ble_eq_true rfl))) (wd_again (v := (.agg (Rp.sub (Rp.put (.rep 16 (.int .u8 0)) 0 16 (Rp.sub (Rp.ofL ([c0, c1, c2, c3, c4, c5, c6, c7, c8, c9, c10, c11, c12, c13, c14, c15].map byteV)) 0 16)) 12 4))) (hs := (same_agg rfl)) (x_ldn s21 1 (RL.put (o := 0) (n := 16) (RL.rep 16 (.int .u8 0)) ((RL.ofL ([c0, c1, c2, c3, c4, c5, c6, c7, c8, c9, c10, c11, c12, c13, c14, c15].map byteV)).sub 0 16) rfl (Nat.le_of_ble_eq_true rfl))) (wd_nil ?_)))))
  refine ws_cons ?_
  obtain ⟨_, H23, ⟨rfl, s24⟩, k25⟩ := number_ok (N := N) (d := d + 1) T ((RL.put (o := 0) (n := 16) (RL.rep 16 (.int .u8 0)) ((RL.ofL ([c0, c1, c2, c3, c4, c5, c6, c7, c8, c9, c10, c11, c12, c13, c14, c15].map byteV)).sub 0 16) rfl (Nat.le_of_ble_eq_true rfl)).sub 4 4) (by omega) (by omega) (by omega) (by omega) (by omega) s21
  refine wo_call k25 (wo_nil (wd_again (v := (.agg (Rp.sub (Rp.put (.rep 16 (.int .u8 0)) 0 16 (Rp.sub (Rp.ofL ([c0, c1, c2, c3, c4, c5, c6, c7, c8, c9, c10, c11, c12, c13, c14, c15].map byteV)) 0 16)) 8 4))) (hs := (same_agg rfl)) (x_ldn s24 1 (RL.put (o := 0) (n := 16) (RL.rep 16 (.int .u8 0)) ((RL.ofL ([c0, c1, c2, c3, c4, c5, c6, c7, c8, c9, c10, c11, c12, c13, c14, c15].map byteV)).sub 0 16) rfl (Nat.le_of_ble_eq_true rfl))) (wd_again (v := (.agg (Rp.sub (Rp.put (.rep 16 (.int .u8 0)) 0 16 (Rp.sub (Rp.ofL ([c0, c1, c2, c3, c4, c5, c6, c7, c8, c9, c10, c11, c12, c13, c14, c15].map byteV)) 0 16)) 12 4))) (hs := (same_agg rfl)) (x_ldn s24 1 (RL.put (o := 0) (n := 16) (RL.rep 16 (.int .u8 0)) ((RL.ofL ([c0, c1, c2, c3, c4, c5, c6, c7, c8, c9, c10, c11, c12, c13, c14, c15].map byteV)).sub 0 16) rfl (Nat.le_of_ble_eq_true rfl))) (wd_nil (ws_cons ?_)))))
  obtain ⟨_, H26, ⟨rfl, s27⟩, k28⟩ := number_ok (N := N) (d := d + 1) T ((RL.put (o := 0) (n := 16) (RL.rep 16 (.int .u8 0)) ((RL.ofL ([c0, c1, c2, c3, c4, c5, c6, c7, c8, c9, c10, c11, c12, c13, c14, c15].map byteV)).sub 0 16) rfl (Nat.le_of_ble_eq_true rfl)).sub 8 4) (by omega) (by omega) (by omega) (by omega) (by omega) s24
  refine wo_call k28 (wo_nil (wd_again (v := (.agg (Rp.sub (Rp.put (.rep 16 (.int .u8 0)) 0 16 (Rp.sub (Rp.ofL ([c0, c1, c2, c3, c4, c5, c6, c7, c8, c9, c10, c11, c12, c13, c14, c15].map byteV)) 0 16)) 12 4))) (hs := (same_agg rfl)) (x_ldn s27 1 (RL.put (o := 0) (n := 16) (RL.rep 16 (.int .u8 0)) ((RL.ofL ([c0, c1, c2, c3, c4, c5, c6, c7, c8, c9, c10, c11, c12, c13, c14, c15].map byteV)).sub 0 16) rfl (Nat.le_of_ble_eq_true rfl))) (wd_run (wo_x (v := (.int .u64 (.ofNat (numB c8 c9 c10 c11)))) (w_cvi (r := (numB c8 c9 c10 c11)) rfl (congrArg Int.ofNat (Nat.mod_eq_of_lt (by omega)))) (wo_nil ?_)))))
  refine wd_run (wo_x (v := (.int .u64 (.ofNat ((numB c8 c9 c10 c11) * 4294967296)))) (w_bin (shl_nat (numB c8 c9 c10 c11) 32 (p := 4294967296) rfl (congrArg Int.ofNat (Nat.mod_eq_of_lt (by omega))))) (wo_nil (wd_nil (ws_cons ?_))))
  obtain ⟨_, H29, ⟨rfl, s30⟩, k31⟩ := number_ok (N := N) (d := d + 1) T ((RL.put (o := 0) (n := 16) (RL.rep 16 (.int .u8 0)) ((RL.ofL ([c0, c1, c2, c3, c4, c5, c6, c7, c8, c9, c10, c11, c12, c13, c14, c15].map byteV)).sub 0 16) rfl (Nat.le_of_ble_eq_true rfl)).sub 12 4) (by omega) (by omega) (by omega) (by omega) (by omega) s27
  refine wo_call k31 (wo_nil (wd_again (v := (.int .u64 (.ofNat ((numB c8 c9 c10 c11) * 4294967296)))) (hs := same_int) (w_bin (shl_nat (numB c8 c9 c10 c11) 32 (p := 4294967296) rfl (congrArg Int.ofNat (Nat.mod_eq_of_lt (by omega))))) (wd_run (wo_x (v := (.int .u64 (.ofNat (numB c12 c13 c14 c15)))) (w_cvi (r := (numB c12 c13 c14 c15)) rfl (congrArg Int.ofNat (Nat.mod_eq_of_lt (by omega)))) (wo_nil ?_)))))
  refine wd_run (wo_x (v := (.int .u64 (.ofNat (((numB c8 c9 c10 c11) * 4294967296) + (numB c12 c13 c14 c15))))) (w_bin (or_u64 ((numB c8 c9 c10 c11) * 4294967296) (numB c12 c13 c14 c15) 32 4294967296 rfl (by omega) (by omega) (by omega))) (wo_nil (wd_run (wo_x (v := (.agg (Rp.set (Rp.set (Rp.set (.cat 2 (.rep 2 (.int .i64 0)) (.one (.int .u64 0))) 0 (.int .i64 (.ofNat (numB c0 c1 c2 c3)))) 1 (.int .i64 (.ofNat (numB c4 c5 c6 c7)))) 2 (.int .u64 (.ofNat (((numB c8 c9 c10 c11) * 4294967296) + (numB c12 c13 c14 c15))))))) (w_build (r := (Rp.set (Rp.set (Rp.set (.cat 2 (.rep 2 (.int .i64 0)) (.one (.int .u64 0))) 0 (.int .i64 (.ofNat (numB c0 c1 c2 c3)))) 1 (.int .i64 (.ofNat (numB c4 c5 c6 c7)))) 2 (.int .u64 (.ofNat (((numB c8 c9 c10 c11) * 4294967296) + (numB c12 c13 c14 c15)))))) (fill_s (v := (.int .i64 (.ofNat (numB c0 c1 c2 c3)))) rfl rfl rfl (fill_s (v := (.int .i64 (.ofNat (numB c4 c5 c6 c7)))) rfl rfl rfl (fill_s (v := (.int .u64 (.ofNat (((numB c8 c9 c10 c11) * 4294967296) + (numB c12 c13 c14 c15))))) rfl rfl rfl fill_nil)))) (wo_nil ?_)))))
  refine wd_nil (ws_cons ?_)
  obtain ⟨H32, s33, k34⟩ := s_stn s30 ((((RL.cat (RL.rep 2 (.int .i64 0)) (RL.one (.int .u64 0)) rfl).set 0 (.int .i64 (.ofNat (numB c0 c1 c2 c3)))).set 1 (.int .i64 (.ofNat (numB c4 c5 c6 c7)))).set 2 (.int .u64 (.ofNat (((numB c8 c9 c10 c11) * 4294967296) + (numB c12 c13 c14 c15))))) 0 3 rfl (Nat.le_of_ble_eq_true rfl)
  refine wo_n (k34 rfl rfl) (wo_nil (wd_nil (ws_nil (thn_n (wp_seq ?_)))))
  refine wp_seq (wp_reg ?_)
  obtain ⟨r35, q36, k37⟩ := s_ldn s33 0 0 3 
  refine wo_x (v := (.agg r35)) (k37 rfl) ?_
  obtain ⟨_, H41, ⟨rfl, s42⟩, k43⟩ := mayy_ok (N := N) (d := d + 1) T hok q36 (by omega) s33
  refine wo_call k43 (wo_x (v := (.bool false)) (w_lit (fun K => rfl)) (wo_nil (thn_n (wp_condF (wp_skip ?_)))))
  refine thn_n (wp_seq (wp_reg ?_))
  obtain ⟨r44, q45, k46⟩ := s_ldn s42 0 0 3 
  refine wo_x (v := (.agg r44)) (k46 rfl) ?_
  have s47 := s42.pull 3
  obtain ⟨H48, s49, k50⟩ := s_stn s47 q45 0 3 rfl (Nat.le_of_ble_eq_true rfl)
  refine wo_n (k50 rfl rfl) (wo_mv (.int .i64 0) (wo_nil (thn_n (wp_ret ?_))))
  refine fin_ct (w := (.int .i64 0)) (off := 0) s49 0 fun r51 q52 => ?_
  have s53 := s49.drop 0
  have s54 := s53.drop 0
  have s55 := s54.drop 0
  have s56 := s55.drop 0
  exact ⟨_, rfl, q52, s56⟩
theorem decn_ok [BkN] {tbl : Nat → Option FT} (T : BkT tbl) {c0 c1 c2 c3 c4 c5 c6 c7 c8 c9 c10 c11 c12 c13 c14 c15 : Nat} (h0 : c0 < 256) (h1 : c1 < 256) (h2 : c2 < 256) (h3 : c3 < 256) (h4 : c4 < 256) (h5 : c5 < 256) (h6 : c6 < 256) (h7 : c7 < 256) (h8 : c8 < 256) (h9 : c9 < 256) (h10 : c10 < 256) (h11 : c11 < 256) (h12 : c12 < 256) (h13 : c13 < 256) (h14 : c14 < 256) (h15 : c15 < 256) (hok : ¬ PtrOk (.ofNat (numB c0 c1 c2 c3)) (.ofNat (numB c4 c5 c6 c7)) (decS c0 c1 c2 c3 c4 c5 c6 c7 c8 c9 c10 c11 c12 c13 c14 c15)) {N d : Nat} (hd : 2 ≤ d) {Z : Fz} {F : List Hl} {H : AH} (hs : Sat H Z (F))  :
    Ct (RUN tbl N d) (.fn (.fn (.func BkN.dec)) [] []) [(.str [c0, c1, c2, c3, c4, c5, c6, c7, c8, c9, c10, c11, c12, c13, c14, c15])] H fun v H' => ∃ r, v = .tup [.agg r, .int .i64 4] ∧ RL r (ptrC 0 0 0) ∧ Sat H' Z F := by
  obtain ⟨d, rfl⟩ : ∃ e, d = e + 2 := ⟨d - 2, by omega⟩
  have hn0 := numB_lt h0 h1 h2 h3
  have hn1 := numB_lt h4 h5 h6 h7
  have hn2 := numB_lt h8 h9 h10 h11
  have hn3 := numB_lt h12 h13 h14 h15
  refine ct_code T.dec (b := b_kdec) (env := [(.str [c0, c1, c2, c3, c4, c5, c6, c7, c8, c9, c10, c11, c12, c13, c14, c15]), u_, u_, u_, u_, u_, u_, u_, u_, u_, u_, u_, u_, u_, u_, u_, u_, u_, u_, u_, u_, u_, u_, u_, u_, u_, u_, u_, u_, u_, u_, u_, u_, u_, u_, u_, u_, u_, u_, u_]) ?_
  unfold b_kdec
  refine wp_seq (wp_reg ?_)
  obtain ⟨b1, H2, s3, k4⟩ := s_alloc hs (RL.cat (RL.rep 2 (.int .i64 0)) (RL.one (.int .u64 0)) rfl)
  refine wo_x (v := (.ptr b1 0)) (k4) (wo_mv (.int .i64 0) (wo_nil (thn_n (wp_seq (wp_seq ?_)))))
  refine wp_reg (wo_mv (.str [c0, c1, c2, c3, c4, c5, c6, c7, c8, c9, c10, c11, c12, c13, c14, c15]) (wo_x (v := (.int .i64 16)) (w_lens (s := [c0, c1, c2, c3, c4, c5, c6, c7, c8, c9, c10, c11, c12, c13, c14, c15]) (n := 16) rfl rfl) (wo_x (v := (.bool false)) (w_lit (fun K => rfl)) (wo_nil (thn_n ?_)))))
  refine wp_condF (wp_skip (thn_n (wp_seq (wp_reg (wo_mv (.str [c0, c1, c2, c3, c4, c5, c6, c7, c8, c9, c10, c11, c12, c13, c14, c15]) ?_)))))
  obtain ⟨b5, H6, s7, k8⟩ := x_s2b s3 [c0, c1, c2, c3, c4, c5, c6, c7, c8, c9, c10, c11, c12, c13, c14, c15]
  refine wo_x (v := (.slu b5 0 16 1)) (k8 rfl) (wo_x (v := (.ptr b5 0)) (w_s2a (n := 16) (.slu _ _ _ _)) (wo_x (v := (.agg (Rp.sub (Rp.ofL ([c0, c1, c2, c3, c4, c5, c6, c7, c8, c9, c10, c11, c12, c13, c14, c15].map byteV)) 0 16))) (x_ldn s7 0 (RL.ofL ([c0, c1, c2, c3, c4, c5, c6, c7, c8, c9, c10, c11, c12, c13, c14, c15].map byteV))) ?_))
  obtain ⟨b9, H10, s11, k12⟩ := x_alloc s7 (.rep 16 (.int .u8 0))
  refine wo_x (v := (.ptr b9 0)) (k12) ?_
  obtain ⟨H13, s14, k15⟩ := x_stn s11 0 16 rfl rfl (r := Rp.sub (Rp.ofL ([c0, c1, c2, c3, c4, c5, c6, c7, c8, c9, c10, c11, c12, c13, c14, c15].map byteV)) 0 16)
  refine wo_n (k15 rfl rfl) (wo_nil (thn_n (wp_seq (wp_dreg (wd_run ?_)))))
  refine wo_x (v := (.slc b9 0 4 16)) (w_sla (lo := 0) (hi := 4) rfl (fun K => rfl) (by decide) (by decide) (by decide)) (wo_nil (wd_run (wo_x (v := (.ptr b9 0)) (w_s2a (n := 4) (.slc _ _ _ _ _)) (wo_nil (wd_run ?_)))))
  refine wo_x (v := (.agg (Rp.sub (Rp.put (.rep 16 (.int .u8 0)) 0 16 (Rp.sub (Rp.ofL ([c0, c1, c2, c3, c4, c5, c6, c7, c8, c9, c10, c11, c12, c13, c14, c15].map byteV)) 0 16)) 0 4))) (x_ldn s14 0 (RL.put (o := 0) (n := 16) (RL.rep 16 (.int .u8 0)) ((RL.ofL ([c0, c1, c2, c3, c4, c5, c6, c7, c8, c9, c10, c11, c12, c13, c14, c15].map byteV)).sub 0 16) rfl (Nat.le_of_ble_eq_true rfl))) (wo_nil (wd_run (wo_x (v := (.slc b9 4 4 12)) (w_sla (lo := 4) (hi := 8) rfl (fun K => rfl) (by decide) (by decide) (by decide)) (wo_nil (wd_run ?_)))))
  refine wo_x (v := (.ptr b9 4)) (w_s2a (n := 4) (.slc _ _ _ _ _)) (wo_nil (wd_run (wo_x (v := (.agg (Rp.sub (Rp.put (.rep 16 (.int .u8 0)) 0 16 (Rp.sub (Rp.ofL ([c0, c1, c2, c3, c4, c5, c6, c7, c8, c9, c10, c11, c12, c13, c14, c15].map byteV)) 0 16)) 4 4))) (x_ldn s14 0 (RL.put (o := 0) (n := 16) (RL.rep 16 (.int .u8 0)) ((RL.ofL ([c0, c1, c2, c3, c4, c5, c6, c7, c8, c9, c10, c11, c12, c13, c14, c15].map byteV)).sub 0 16) rfl (Nat.le_of_ble_eq_true rfl))) (wo_nil (wd_run ?_)))))
  refine wo_x (v := (.slc b9 8 4 8)) (w_sla (lo := 8) (hi := 12) rfl (fun K => rfl) (by decide) (by decide) (by decide)) (wo_nil (wd_run (wo_x (v := (.ptr b9 8)) (w_s2a (n := 4) (.slc _ _ _ _ _)) (wo_nil (wd_run ?_)))))
  refine wo_x (v := (.agg (Rp.sub (Rp.put (.rep 16 (.int .u8 0)) 0 16 (Rp.sub (Rp.ofL ([c0, c1, c2, c3, c4, c5, c6, c7, c8, c9, c10, c11, c12, c13, c14, c15].map byteV)) 0 16)) 8 4))) (x_ldn s14 0 (RL.put (o := 0) (n := 16) (RL.rep 16 (.int .u8 0)) ((RL.ofL ([c0, c1, c2, c3, c4, c5, c6, c7, c8, c9, c10, c11, c12, c13, c14, c15].map byteV)).sub 0 16) rfl (Nat.le_of_ble_eq_true rfl))) (wo_nil (wd_run (wo_x (v := (.slc b9 12 4 4)) (w_sla (lo := 12) (hi := 16) rfl (fun K => rfl) (by decide) (by decide) (by decide)) (wo_nil (wd_run ?_)))))
  refine wo_x (v := (.ptr b9 12)) (w_s2a (n := 4) (.slc _ _ _ _ _)) (wo_nil (wd_run (wo_x (v := (.agg (Rp.sub (Rp.put (.rep 16 (.int .u8 0)) 0 16 (Rp.sub (Rp.ofL ([c0, c1, c2, c3, c4, c5, c6, c7, c8, c9, c10, c11, c12, c13, c14, c15].map byteV)) 0 16)) 12 4))) (x_ldn s14 0 (RL.put (o := 0) (n := 16) (RL.rep 16 (.int .u8 0)) ((RL.ofL ([c0, c1, c2, c3, c4, c5, c6, c7, c8, c9, c10, c11, c12, c13, c14, c15].map byteV)).sub 0 16) rfl (Nat.le_of_ble_eq_true rfl))) (wo_nil (wd_run ?_)))))
  obtain ⟨b16, H17, s18, k19⟩ := s_alloc s14 (RL.cat (RL.rep 2 (.int .i64 0)) (RL.one (.int .u64 0)) rfl)
  refine wo_x (v := (.ptr b16 0)) (k19) (wo_nil (wd_nil (ws_cons ?_)))
  obtain ⟨_, H20, ⟨rfl, s21⟩, k22⟩ := number_ok (N := N) (d := d + 1) T ((RL.put (o := 0) (n := 16) (RL.rep 16 (.int .u8 0)) ((RL.ofL ([c0, c1, c2, c3, c4, c5, c6, c7, c8, c9, c10, c11, c12, c13, c14, c15].map byteV)).sub 0 16) rfl (Nat.le_of_ble_eq_true rfl)).sub 0 4) (by omega) (by omega) (by omega) (by omega) (by omega) s18
  refine wo_call k22 (wo_nil (wd_again (v := (.agg (Rp.sub (Rp.put (.rep 16 (.int .u8 0)) 0 16 (Rp.sub (Rp.ofL ([c0, c1, c2, c3, c4, c5, c6, c7, c8, c9, c10, c11, c12, c13, c14, c15].map byteV)) 0 16)) 4 4))) (hs := (same_agg rfl)) (x_ldn s21 1 (RL.put (o := 0) (n := 16) (RL.rep 16 (.int .u8 0)) ((RL.ofL ([c0, c1, c2, c3, c4, c5, c6, c7, c8, c9, c10, c11, c12, c13, c14, c15].map byteV)).sub 0 16) rfl (Nat.le_of_ble_eq_true rfl))) (wd_again (v := (.agg (Rp.sub (Rp.put (.rep 16 (.int .u8 0)) 0 16 (Rp.sub (Rp.ofL ([c0, c1, c2, c3, c4, c5, c6, c7, c8, c9, c10, c11, c12, c13, c14, c15].map byteV)) 0 16)) 8 4))) (hs := (same_agg rfl)) (x_ldn s21 1 (RL.put (o := 0) (n := 16) (RL.rep 16 (.int .u8 0)) ((RL.ofL ([c0, c1, c2, c3, c4, c5, c6, c7, c8, c9, c10, c11, c12, c13, c14, c15].map byteV)).sub 0 16) rfl (Nat.le_of_ble_eq_true rfl))) (wd_again (v := (.agg (Rp.sub (Rp.put (.rep 16 (.int .u8 0)) 0 16 (Rp.sub (Rp.ofL ([c0, c1, c2, c3, c4, c5, c6, c7, c8, c9, c10, c11, c12, c13, c14, c15].map byteV)) 0 16)) 12 4))) (hs := (same_agg rfl)) (x_ldn s21 1 (RL.put (o := 0) (n := 16) (RL.rep 16 (.int .u8 0)) ((RL.ofL ([c0, c1, c2, c3, c4, c5, c6, c7, c8, c9, c10, c11, c12, c13, c14, c15].map byteV)).sub 0 16) rfl (Nat.le_of_ble_eq_true rfl))) (wd_nil ?_)))))
  refine ws_cons ?_
  obtain ⟨_, H23, ⟨rfl, s24⟩, k25⟩ := number_ok (N := N) (d := d + 1) T ((RL.put (o := 0) (n := 16) (RL.rep 16 (.int .u8 0)) ((RL.ofL ([c0, c1, c2, c3, c4, c5, c6, c7, c8, c9, c10, c11, c12, c13, c14, c15].map byteV)).sub 0 16) rfl (Nat.le_of_ble_eq_true rfl)).sub 4 4) (by omega) (by omega) (by omega) (by omega) (by omega) s21
  refine wo_call k25 (wo_nil (wd_again (v := (.agg (Rp.sub (Rp.put (.rep 16 (.int .u8 0)) 0 16 (Rp.sub (Rp.ofL ([c0, c1, c2, c3, c4, c5, c6, c7, c8, c9, c10, c11, c12, c13, c14, c15].map byteV)) 0 16)) 8 4))) (hs := (same_agg rfl)) (x_ldn s24 1 (RL.put (o := 0) (n := 16) (RL.rep 16 (.int .u8 0)) ((RL.ofL ([c0, c1, c2, c3, c4, c5, c6, c7, c8, c9, c10, c11, c12, c13, c14, c15].map byteV)).sub 0 16) rfl (Nat.le_of_ble_eq_true rfl))) (wd_again (v := (.agg (Rp.sub (Rp.put (.rep 16 (.int .u8 0)) 0 16 (Rp.sub (Rp.ofL ([c0, c1, c2, c3, c4, c5, c6, c7, c8, c9, c10, c11, c12, c13, c14, c15].map byteV)) 0 16)) 12 4))) (hs := (same_agg rfl)) (x_ldn s24 1 (RL.put (o := 0) (n := 16) (RL.rep 16 (.int .u8 0)) ((RL.ofL ([c0, c1, c2, c3, c4, c5, c6, c7, c8, c9, c10, c11, c12, c13, c14, c15].map byteV)).sub 0 16) rfl (Nat.le_of_ble_eq_true rfl))) (wd_nil (ws_cons ?_)))))
  obtain ⟨_, H26, ⟨rfl, s27⟩, k28⟩ := number_ok (N := N) (d := d + 1) T ((RL.put (o := 0) (n := 16) (RL.rep 16 (.int .u8 0)) ((RL.ofL ([c0, c1, c2, c3, c4, c5, c6, c7, c8, c9, c10, c11, c12, c13, c14, c15].map byteV)).sub 0 16) rfl (Nat.le_of_ble_eq_true rfl)).sub 8 4) (by omega) (by omega) (by omega) (by omega) (by omega) s24
  refine wo_call k28 (wo_nil (wd_again (v := (.agg (Rp.sub (Rp.put (.rep 16 (.int .u8 0)) 0 16 (Rp.sub (Rp.ofL ([c0, c1, c2, c3, c4, c5, c6, c7, c8, c9, c10, c11, c12, c13, c14, c15].map byteV)) 0 16)) 12 4))) (hs := (same_agg rfl)) (x_ldn s27 1 (RL.put (o := 0) (n := 16) (RL.rep 16 (.int .u8 0)) ((RL.ofL ([c0, c1, c2, c3, c4, c5, c6, c7, c8, c9, c10, c11, c12, c13, c14, c15].map byteV)).sub 0 16) rfl (Nat.le_of_ble_eq_true rfl))) (wd_run (wo_x (v := (.int .u64 (.ofNat (numB c8 c9 c10 c11)))) (w_cvi (r := (numB c8 c9 c10 c11)) rfl (congrArg Int.ofNat (Nat.mod_eq_of_lt (by omega)))) (wo_nil ?_)))))
  refine wd_run (wo_x (v := (.int .u64 (.ofNat ((numB c8 c9 c10 c11) * 4294967296)))) (w_bin (shl_nat (numB c8 c9 c10 c11) 32 (p := 4294967296) rfl (congrArg Int.ofNat (Nat.mod_eq_of_lt (by omega))))) (wo_nil (wd_nil (ws_cons ?_))))
  obtain ⟨_, H29, ⟨rfl, s30⟩, k31⟩ := number_ok (N := N) (d := d + 1) T ((RL.put (o := 0) (n := 16) (RL.rep 16 (.int .u8 0)) ((RL.ofL ([c0, c1, c2, c3, c4, c5, c6, c7, c8, c9, c10, c11, c12, c13, c14, c15].map byteV)).sub 0 16) rfl (Nat.le_of_ble_eq_true rfl)).sub 12 4) (by omega) (by omega) (by omega) (by omega) (by omega) s27
  refine wo_call k31 (wo_nil (wd_again (v := (.int .u64 (.ofNat ((numB c8 c9 c10 c11) * 4294967296)))) (hs := same_int) (w_bin (shl_nat (numB c8 c9 c10 c11) 32 (p := 4294967296) rfl (congrArg Int.ofNat (Nat.mod_eq_of_lt (by omega))))) (wd_run (wo_x (v := (.int .u64 (.ofNat (numB c12 c13 c14 c15)))) (w_cvi (r := (numB c12 c13 c14 c15)) rfl (congrArg Int.ofNat (Nat.mod_eq_of_lt (by omega)))) (wo_nil ?_)))))
  refine wd_run (wo_x (v := (.int .u64 (.ofNat (((numB c8 c9 c10 c11) * 4294967296) + (numB c12 c13 c14 c15))))) (w_bin (or_u64 ((numB c8 c9 c10 c11) * 4294967296) (numB c12 c13 c14 c15) 32 4294967296 rfl (by omega) (by omega) (by omega))) (wo_nil (wd_run (wo_x (v := (.agg (Rp.set (Rp.set (Rp.set (.cat 2 (.rep 2 (.int .i64 0)) (.one (.int .u64 0))) 0 (.int .i64 (.ofNat (numB c0 c1 c2 c3)))) 1 (.int .i64 (.ofNat (numB c4 c5 c6 c7)))) 2 (.int .u64 (.ofNat (((numB c8 c9 c10 c11) * 4294967296) + (numB c12 c13 c14 c15))))))) (w_build (r := (Rp.set (Rp.set (Rp.set (.cat 2 (.rep 2 (.int .i64 0)) (.one (.int .u64 0))) 0 (.int .i64 (.ofNat (numB c0 c1 c2 c3)))) 1 (.int .i64 (.ofNat (numB c4 c5 c6 c7)))) 2 (.int .u64 (.ofNat (((numB c8 c9 c10 c11) * 4294967296) + (numB c12 c13 c14 c15)))))) (fill_s (v := (.int .i64 (.ofNat (numB c0 c1 c2 c3)))) rfl rfl rfl (fill_s (v := (.int .i64 (.ofNat (numB c4 c5 c6 c7)))) rfl rfl rfl (fill_s (v := (.int .u64 (.ofNat (((numB c8 c9 c10 c11) * 4294967296) + (numB c12 c13 c14 c15))))) rfl rfl rfl fill_nil)))) (wo_nil ?_)))))
  refine wd_nil (ws_cons ?_)
  obtain ⟨H32, s33, k34⟩ := s_stn s30 ((((RL.cat (RL.rep 2 (.int .i64 0)) (RL.one (.int .u64 0)) rfl).set 0 (.int .i64 (.ofNat (numB c0 c1 c2 c3)))).set 1 (.int .i64 (.ofNat (numB c4 c5 c6 c7)))).set 2 (.int .u64 (.ofNat (((numB c8 c9 c10 c11) * 4294967296) + (numB c12 c13 c14 c15))))) 0 3 rfl (Nat.le_of_ble_eq_true rfl)
  refine wo_n (k34 rfl rfl) (wo_nil (wd_nil (ws_nil (thn_n (wp_seq ?_)))))
  refine wp_seq (wp_reg ?_)
  obtain ⟨r35, q36, k37⟩ := s_ldn s33 0 0 3 
  refine wo_x (v := (.agg r35)) (k37 rfl) ?_
  obtain ⟨_, H41, ⟨rfl, s42⟩, k43⟩ := mayn_ok (N := N) (d := d + 1) T hok q36 (by omega) s33
  refine wo_call k43 (wo_x (v := (.bool true)) (w_lit (fun K => rfl)) (wo_nil (thn_n (wp_condT (wp_seq ?_)))))
  refine wp_reg (wo_x (v := (.agg (.cat 2 (.rep 2 (.int .i64 0)) (.one (.int .u64 0))))) (w_build (r := (.cat 2 (.rep 2 (.int .i64 0)) (.one (.int .u64 0)))) fill_nil) ?_)
  have s44 := s42.pull 3
  obtain ⟨H45, s46, k47⟩ := s_stn s44 (RL.cat (RL.rep 2 (.int .i64 0)) (RL.one (.int .u64 0)) rfl) 0 3 rfl (Nat.le_of_ble_eq_true rfl)
  refine wo_n (k47 rfl rfl) (wo_mv (.int .i64 4) (wo_nil (thn_n (wp_ret (thn_r ?_)))))
  refine fin_ct (w := (.int .i64 4)) (off := 0) s46 0 fun r48 q49 => ?_
  have s50 := s46.drop 0
  have s51 := s50.drop 0
  have s52 := s51.drop 0
  have s53 := s52.drop 0
  exact ⟨_, rfl, q49, s53⟩
end
end Go.Jt
