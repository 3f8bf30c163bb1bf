/-
  The abstract run, step by step: one law for each piece of code and each operation, for runs over values that are not known.
-/
import Derived.Test.YtlhlgmodhblplaaJtGlob
set_option autoImplicit false
set_option linter.all false
namespace Go.Jt
noncomputable section

section
variable (cl : Cl) (N : Nat) (rd : Option Nat) (env : Env) (ds : List Nat) (H : AH) (k : Kc) (kk : Env → AH → Bool)
theorem den_skip : den cl N rd .skip env ds H k = k .normal env ds H := rfl
theorem den_reg (ops : List XOper) : den cl N rd (.reg ops) env ds H k = runOps cl ops env H fun env H => k .normal env ds H := rfl
theorem den_seq (a b : IR) : den cl N rd (.seq a b) env ds H k = den cl N rd a env ds H fun e env ds H => match e with
      | .normal => den cl N rd b env ds H k
      | e => k e env ds H := rfl
theorem den_cond (c : Od) (a b : IR) : den cl N rd (.cond c a b) env ds H k = (match ev env c with
      | .bool b' => cond b' (den cl N rd a env ds H k) (den cl N rd b env ds H k)
      | _ => false) := rfl
theorem den_block (id : Nat) (c : IR) : den cl N rd (.block id c) env ds H k = den cl N rd c env ds H fun e env ds H => match e with
      | .exit j => cond (Nat.beq j id) (k .normal env ds H) (k (.exit j) env ds H)
      | e => k e env ds H := rfl
theorem den_loop' (c : IR) : den cl N rd (.loop c) env ds H k = iter (den cl N rd c) N env ds H k := rfl
theorem den_exit (id : Nat) : den cl N rd (.exit id) env ds H k = k (.exit id) env ds H := rfl
theorem den_ret : den cl N rd .ret env ds H k = k .ret env ds H := rfl
theorem iter_succ (body : Env → List Nat → AH → Kc → Bool) (f : Nat) : iter body (f + 1) env ds H k = body env ds H fun e env ds H => match e with
    | .normal => iter body f env ds H k
    | e => k e env ds H := rfl
theorem runOps_nil : runOps cl [] env H kk = kk env H := rfl
theorem runOps_cons (o : XOper) (l : List XOper) : runOps cl (o :: l) env H kk = stepOp cl o env H fun env H => runOps cl l env H kk := rfl
theorem step_mv (d : Option Nat) (x : Od) : stepOp cl ⟨d, .mv x, none⟩ env H kk = kk (setd d (ev env x) env) H := rfl
theorem step_call (d : Option Nat) (f : Od) (as : List Od) : stepOp cl ⟨d, .call f as, none⟩ env H kk = cl (ev env f) (as.map (ev env)) H fun v H => kk (setd d v env) H := rfl
theorem step_bin (d : Option Nat) (op : BinOp) (ek : Nat) (x y : Od) : stepOp cl ⟨d, .bin op ek x y, none⟩ env H kk = bin op ek H (ev env x) (ev env y) fun v => kk (setd d v env) H := rfl
theorem step_op (d : Option Nat) (o : XOp) (h : ∀ f as, o ≠ .call f as) : stepOp cl ⟨d, o, none⟩ env H kk = xop o env H fun v H => kk (setd d v env) H := by
  show act cl o env H _ = _
  unfold act
  split
  · exact absurd rfl (h _ _)
  · rfl
theorem setd_some (d : Nat) (v : AV) : setd (some d) v env = lset env d v := rfl
theorem setd_none (v : AV) : setd none v env = env := rfl
theorem ev_tmp (t : Nat) : ev env (.tmp t) = lget env t := rfl
theorem ev_cst (v : AV) : ev env (.cst v) = v := rfl
theorem lget_zero (x : AV) (l : List AV) : lget (x :: l) 0 = x := rfl
theorem lget_succ (x : AV) (l : List AV) (i : Nat) : lget (x :: l) (i + 1) = lget l i := rfl
theorem lset_zero (x v : AV) (l : List AV) : lset (x :: l) 0 v = v :: l := rfl
theorem lset_succ (x v : AV) (l : List AV) (i : Nat) : lset (x :: l) (i + 1) v = x :: lset l i v := rfl
end

/-! ### a sum over a text's bytes -/
def fnvX (u c : Nat) : Nat := Nat.xor (u % 18446744073709551616) (c % 18446744073709551616) % 18446744073709551616
def fnvS (u c : Nat) : Nat := fnvX u c * 1099511628211 % 18446744073709551616
def fnv (s : List Nat) : Nat → (Nat → Bool) → Bool := List.rec (fun u k => k u) (fun c _ ih u k => fN (fnvS u c) fun u => ih u k) s
/-- the abstract run of the function that sums a text -/
def sumOn (args : List AV) (H : AH) (k : AV → AH → Bool) : Bool := match args with
  | [.int .u64 (.ofNat u), .str s] => cond (Nat.ble (llen s 0) 9223372036854775807) (fnv s u fun u => k (.int .u64 (Int.ofNat u)) H) false
  | _ => false
def onBody : IR := .seq (.reg [⟨some 9, .bin .lss 0 (.tmp 8) (.tmp 7), none⟩]) (.seq (.cond (.tmp 9) .skip (.exit 0)) (.seq (.block 1 (.seq (.reg [⟨some 10, .mv (.tmp 8), none⟩, ⟨some 5, .mv (.tmp 10), none⟩]) (.reg [⟨some 11, .mv (.tmp 0), none⟩, ⟨some 12, .mv (.tmp 1), none⟩, ⟨some 13, .mv (.tmp 5), none⟩, ⟨some 14, .ist (.tmp 12) (.tmp 13), none⟩, ⟨some 15, .cvi .u64 (.tmp 14), none⟩, ⟨some 16, .bin .xor 0 (.tmp 11) (.tmp 15), none⟩, ⟨some 17, .bin .mul 0 (.tmp 16) (.cst (.int .u64 1099511628211)), none⟩, ⟨some 0, .mv (.tmp 17), none⟩]))) (.reg [⟨some 18, .bin .add 0 (.tmp 8) (.cst (.int .i64 1)), none⟩, ⟨some 8, .mv (.tmp 18), none⟩])))
def onIR : FnIR := ⟨20, [.tmp 4], (.seq (.reg [⟨some 4, .mv (.cst (.int .u64 0)), none⟩]) (.seq (.seq (.reg [⟨some 6, .mv (.tmp 1), none⟩, ⟨some 7, .len 0 (.tmp 6), none⟩, ⟨some 8, .mv (.cst (.int .i64 0)), none⟩]) (.block 0 (.loop onBody))) (.seq (.reg [⟨some 19, .mv (.tmp 0), none⟩, ⟨some 4, .mv (.tmp 19), none⟩]) .ret)))⟩
theorem fnv_cons (c : Nat) (s : List Nat) (u : Nat) (k : Nat → Bool) : fnv (c :: s) u k = fnv s (fnvS u c) k := by
  show fN (fnvS u c) (fun u => fnv s u k) = _
  rw [fN_eq]
theorem fnv_det (s : List Nat) : ∀ u, ∃ v, ∀ k, fnv s u k = k v := by
  induction s with
  | nil => intro u; exact ⟨u, fun k => rfl⟩
  | cons c s ih =>
    intro u
    obtain ⟨v, hv⟩ := ih (fnvS u c)
    exact ⟨v, fun k => by rw [fnv_cons, hv]⟩
theorem on_lss (i n : Nat) (h : i < n) (H : AH) (K : AV → Bool) : bin .lss 0 H (.int .i64 (.ofNat i)) (.int .i64 (.ofNat n)) K = K (.bool true) := by
  show K (.bool (!(ile (Int.ofNat n) (Int.ofNat i)))) = _
  rw [ile_eq, decide_eq_false (by simp; omega)]
  rfl
theorem on_lss' (i n : Nat) (h : ¬ i < n) (H : AH) (K : AV → Bool) : bin .lss 0 H (.int .i64 (.ofNat i)) (.int .i64 (.ofNat n)) K = K (.bool false) := by
  show K (.bool (!(ile (Int.ofNat n) (Int.ofNat i)))) = _
  rw [ile_eq, decide_eq_true (by simp; omega)]
  rfl
theorem xop_ist (x y : Od) (s : List Nat) (i c : Nat) (hi : s[i]? = some c) (env : Env) (H : AH) (K : AV → AH → Bool) (e1 : ev env x = .str s) (e2 : ev env y = .int .i64 (.ofNat i)) : xop (.ist x y) env H K = K (.int .u8 (.ofNat c)) H := by
  simp only [xop, e1, e2, hi, fN_eq]
theorem wrap_i64 (n : Nat) (h : n ≤ 9223372036854775807) : wrapF .i64 (Int.ofNat n) = Int.ofNat n := by
  show cond (Nat.ble n 9223372036854775807) (Int.ofNat n) (IntKind.i64.wrap (Int.ofNat n)) = _
  rw [Nat.ble_eq_true_of_le h]
  rfl
theorem wrap_u64 (n : Nat) : wrapF .u64 (Int.ofNat n) = Int.ofNat (n % 18446744073709551616) := rfl
theorem add_i64 (a b : Nat) (h : a + b ≤ 9223372036854775807) (ek : Nat) (H : AH) (K : AV → Bool) : bin .add ek H (.int .i64 (.ofNat a)) (.int .i64 (.ofNat b)) K = K (.int .i64 (.ofNat (a + b))) := by
  show fI (wrapF .i64 (Int.ofNat a + Int.ofNat b)) (fun z => K (.int .i64 z)) = _
  rw [fI_eq, show Int.ofNat a + Int.ofNat b = Int.ofNat (a + b) from rfl, wrap_i64 _ h]
theorem xor_u64 (a b : Nat) (ek : Nat) (H : AH) (K : AV → Bool) : bin .xor ek H (.int .u64 (.ofNat a)) (.int .u64 (.ofNat b)) K = K (.int .u64 (.ofNat (Nat.xor (a % 18446744073709551616) (b % 18446744073709551616) % 18446744073709551616))) := by
  show fI (bits2 Nat.xor (fun _ a b => a ^^^ b) .u64 (Int.ofNat a) (Int.ofNat b)) (fun z => K (.int .u64 z)) = _
  rw [fI_eq]
  rfl
theorem mul_u64 (a b : Nat) (ek : Nat) (H : AH) (K : AV → Bool) : bin .mul ek H (.int .u64 (.ofNat a)) (.int .u64 (.ofNat b)) K = K (.int .u64 (.ofNat (a * b % 18446744073709551616))) := by
  show fI (wrapF .u64 (Int.ofNat a * Int.ofNat b)) (fun z => K (.int .u64 z)) = _
  rw [fI_eq, show Int.ofNat a * Int.ofNat b = Int.ofNat (a * b) from rfl, wrap_u64]
theorem cvi_u64 (x : Od) (q : IntKind) (c : Nat) (env : Env) (H : AH) (K : AV → AH → Bool) (e1 : ev env x = .int q (.ofNat c)) : xop (.cvi .u64 x) env H K = K (.int .u64 (.ofNat (c % 18446744073709551616))) H := by
  simp only [xop, e1]
  rw [fI_eq, wrap_u64]
section
variable (cl : Cl) (N : Nat) (rd : Option Nat)
theorem onBody_run (s : List Nat) (i u c n : Nat) (hi : s[i]? = some c) (hin : i < n) (hn : n ≤ 9223372036854775807) (x2 x3 x4 x5 x6 x9 x10 x11 x12 x13 x14 x15 x16 x17 x18 x19 : AV) (ds : List Nat) (H : AH) (k : Kc) :
    den cl N rd onBody [.int .u64 (.ofNat u), .str s, x2, x3, x4, x5, x6, .int .i64 (.ofNat n), .int .i64 (.ofNat i), x9, x10, x11, x12, x13, x14, x15, x16, x17, x18, x19] ds H k =
    k .normal [.int .u64 (.ofNat (fnvS u c)), .str s, x2, x3, x4, .int .i64 (.ofNat i), x6, .int .i64 (.ofNat n), .int .i64 (.ofNat (i + 1)), .bool true, .int .i64 (.ofNat i), .int .u64 (.ofNat u), .str s, .int .i64 (.ofNat i), .int .u8 (.ofNat c),
      .int .u64 (.ofNat (c % 18446744073709551616)), .int .u64 (.ofNat (fnvX u c)), .int .u64 (.ofNat (fnvS u c)), .int .i64 (.ofNat (i + 1)), x19] ds H := by
  unfold onBody
  simp only [den_seq, den_reg, den_cond, den_block, den_skip, runOps_cons, runOps_nil, step_bin, step_mv, ev_tmp, ev_cst, setd_some, lget_succ, lget_zero, lset_succ, lset_zero, on_lss i n hin, cond_true]
  rw [step_op _ _ _ _ _ _ (by intro f as h; cases h), xop_ist _ _ s i c hi _ _ _ rfl rfl]
  simp only [step_bin, step_mv, ev_tmp, ev_cst, setd_some, lget_succ, lget_zero, lset_succ, lset_zero]
  rw [step_op _ _ _ _ _ _ (by intro f as h; cases h), cvi_u64 _ .u8 c _ _ _ rfl]
  simp only [step_bin, step_mv, ev_tmp, ev_cst, setd_some, lget_succ, lget_zero, lset_succ, lset_zero]
  rw [show (AV.int .i64 1) = .int .i64 (.ofNat 1) from rfl, show (AV.int .u64 1099511628211) = .int .u64 (.ofNat 1099511628211) from rfl, xor_u64, mul_u64, add_i64 i 1 (by omega)]
  simp only [Nat.mod_mod, fnvS, fnvX]
def OnE (s : List Nat) (i u : Nat) (env : Env) : Prop := ∃ x2 x3 x4 x5 x6 x9 x10 x11 x12 x13 x14 x15 x16 x17 x18 x19 : AV,
  env = [.int .u64 (.ofNat u), .str s, x2, x3, x4, x5, x6, .int .i64 (.ofNat s.length), .int .i64 (.ofNat i), x9, x10, x11, x12, x13, x14, x15, x16, x17, x18, x19]
theorem on_iter (s : List Nat) (hn : s.length ≤ 9223372036854775807) (ds : List Nat) (H : AH) : ∀ (m i u : Nat) (env : Env) (f : Nat), OnE s i u env → i + m = s.length → m < f →
    ∃ env' v, (∀ K, fnv (s.drop i) u K = K v) ∧ OnE s s.length v env' ∧ ∀ k : Kc, iter (den cl N rd onBody) f env ds H k = k (.exit 0) env' ds H
  | 0, i, u, env, f + 1, ⟨x2, x3, x4, x5, x6, x9, x10, x11, x12, x13, x14, x15, x16, x17, x18, x19, he⟩, hi, _ => by
    subst he
    have hi' : i = s.length := by omega
    subst hi'
    refine ⟨_, u, fun K => by rw [List.drop_length]; rfl, ⟨x2, x3, x4, x5, x6, .bool false, x10, x11, x12, x13, x14, x15, x16, x17, x18, x19, rfl⟩, fun k => ?_⟩
    rw [iter_succ]
    unfold onBody
    simp only [den_seq, den_reg, den_cond, den_exit, runOps_cons, runOps_nil, step_bin, ev_tmp, setd_some, lget_succ, lget_zero, lset_succ, lset_zero, on_lss' s.length s.length (by omega), cond_false]
  | m + 1, i, u, env, f + 1, ⟨x2, x3, x4, x5, x6, x9, x10, x11, x12, x13, x14, x15, x16, x17, x18, x19, he⟩, hi, hf => by
    subst he
    have hlt : i < s.length := by omega
    obtain ⟨c, hc⟩ : ∃ c, s[i]? = some c := ⟨s[i], List.getElem?_eq_getElem hlt⟩
    have hd : s.drop i = c :: s.drop (i + 1) := by
      rw [List.drop_eq_getElem_cons hlt]
      congr 1
      rw [List.getElem?_eq_getElem hlt] at hc
      exact Option.some.inj hc
    obtain ⟨env', v, h1, h2, h3⟩ := on_iter s hn ds H m (i + 1) (fnvS u c) _ f ⟨x2, x3, x4, .int .i64 (.ofNat i), x6, .bool true, .int .i64 (.ofNat i), .int .u64 (.ofNat u), .str s, .int .i64 (.ofNat i), .int .u8 (.ofNat c),
      .int .u64 (.ofNat (c % 18446744073709551616)), .int .u64 (.ofNat (fnvX u c)), .int .u64 (.ofNat (fnvS u c)), .int .i64 (.ofNat (i + 1)), x19, rfl⟩ (by omega) (by omega)
    exact ⟨env', v, fun K => by rw [hd, fnv_cons]; exact h1 K, h2, fun k => by rw [iter_succ, onBody_run cl N rd s i u c s.length hc hlt hn]; exact h3 k⟩
theorem on_call {tbl : Nat → Option FT} {f : Nat} (hf : tbl f = some (.code onIR)) (s : List Nat) (u : Nat) (hs : s.length ≤ 9223372036854775807) (hN : s.length < N) (H : AH) (k : AV → AH → Bool) :
    callF tbl cl N f [.int .u64 (.ofNat u), .str s] H k = fnv s u fun v => k (.int .u64 (.ofNat v)) H := by
  unfold callF
  rw [hf]
  obtain ⟨env', v, h1, ⟨y2, y3, y4, y5, y6, y9, y10, y11, y12, y13, y14, y15, y16, y17, y18, y19, he⟩, h3⟩ := on_iter cl N none s hs [] H s.length 0 u
    [.int .u64 (.ofNat u), .str s, .tup [], .tup [], .int .u64 0, .tup [], .str s, .int .i64 (.ofNat s.length), .int .i64 0, .tup [], .tup [], .tup [], .tup [], .tup [], .tup [], .tup [], .tup [], .tup [], .tup [], .tup []] N
    ⟨.tup [], .tup [], .int .u64 0, .tup [], .str s, .tup [], .tup [], .tup [], .tup [], .tup [], .tup [], .tup [], .tup [], .tup [], .tup [], .tup [], rfl⟩ (by omega) hN
  rw [List.drop_zero] at h1
  rw [h1]
  have hlen : ∀ (env : Env) (K : AV → AH → Bool), lget env 6 = .str s → xop (.len 0 (.tmp 6)) env H K = K (.int .i64 (.ofNat s.length)) H := fun env K e1 => by
    simp only [xop, ev_tmp, e1, fN_eq, llen_eq, Nat.add_zero]
  show den cl N none onIR.body _ _ _ _ = _
  unfold onIR
  simp only [List.length_cons, List.length_nil, List.replicate, List.append, HAppend.hAppend, Append.append]
  simp only [den_seq, den_reg, den_block, den_loop', runOps_cons, runOps_nil, step_mv, ev_tmp, ev_cst, setd_some, lget_succ, lget_zero, lset_succ, lset_zero]
  rw [step_op _ _ _ _ _ _ (by intro f as h; cases h), hlen _ _ rfl]
  simp only [step_mv, ev_tmp, ev_cst, setd_some, lget_succ, lget_zero, lset_succ, lset_zero]
  rw [h3]
  subst he
  rfl
end

/-! ### functions whose abstract run is given -/
variable [Gl]
theorem sumOn_sound {P : Program} (hm : P.follows .mixedOrders = true) {f : Nat} (hc : compF P f = some (.code onIR)) : SumS P f sumOn := by
  obtain ⟨fn, b, hf, hn, hb, _, _⟩ := compF_inv hc
  refine ⟨run_enter hf hn hb, fun base ι H w args cargs k hr ha hg => ?_⟩
  unfold sumOn at hg
  split at hg
  · rename_i u s
    obtain ⟨hl, hg⟩ := cond_true_inv hg
    have hl' := Nat.le_of_ble_eq_true hl
    rw [llen_eq, Nat.add_zero] at hl'
    have htb : tblC P f = some (.code onIR) := by simp [tblC, hc]
    have hcl := RUN_sound (N := s.length + 1) (tblC_sound P) (fun cl hcl => dreg_sound hm hcl) 0
    have h := on_call (RUN (tblC P) (s.length + 1) 0) (s.length + 1) htb s u hl' (Nat.lt_succ_self _) H k
    rw [hg] at h
    unfold callF at h
    rw [htb] at h
    exact code_sound hcl (dreg_sound hm hcl) hc hr ha h
  · cases hg
/-- a function without arguments that hands back true, whatever stands in the heap, and leaves it as it was -/
def sumTrue (args : List AV) (H : AH) (k : AV → AH → Bool) : Bool := match args with
  | [] => k (.bool true) H
  | _ => false
theorem HR.beyond {P : Program} {base : Nat} {ι : Io} {H : AH} {w w' : World} (h : HR P base ι H w) (hb : Go.RowKit.Below w.heap.size w w') : HR P base ι H w' := by
  obtain ⟨_, _, _, hs, ho⟩ := hb
  refine ⟨h.fresh, h.dom, fun b L hL => Nat.lt_of_lt_of_le (h.bound b L hL) hs, h.inj, fun b o L hbo hL => ?_, Nat.le_trans h.below hs, fun g r hg => ?_⟩
  · obtain ⟨c, h1, h2⟩ := h.obj b o L hbo hL
    exact ⟨c, by rw [ho _ (h.bound b L hL)]; exact h1, h2⟩
  · obtain ⟨h1, h2⟩ := h.gl g r hg
    exact ⟨h1, by rw [ho _ (Nat.lt_of_lt_of_le h1 h.below)]; exact h2⟩
theorem sumTrue_sound {P : Program} {f : Nat} (hF : isCode P f = true) (h : ∀ w : World, GlOK w.heap.size w → Calls P f #[] w fun e w' => e = .returned (.bool true) ∧ Go.RowKit.Below w.heap.size w w') : SumS P f sumTrue := by
  obtain ⟨c, hc, _⟩ := isCode_inv hF
  obtain ⟨fn, b, hf, hn, hb, _, _⟩ := compF_inv hc
  refine ⟨run_enter hf hn hb, fun base ι H w args cargs k hr ha hg => ?_⟩
  unfold sumTrue at hg
  split at hg
  · have hz : cargs = #[] := by
      have := ha.1
      simp at this
      exact Array.eq_empty_of_size_eq_zero this.symm
    subst hz
    refine CallsIn.mono (callsIn_wide.2 (h w (fun g r hg => ⟨Nat.lt_of_lt_of_le (hr.gl g r hg).1 hr.below, (hr.gl g r hg).2⟩))) ?_
    rintro e w' ⟨rfl, hbl⟩
    refine ⟨.bool true, .bool true, H, ι, rfl, ⟨Io.le_refl _, hr.beyond hbl, fun _ _ h => ⟨h, rfl⟩, Nat.le_refl _, ?_⟩, .bool true, hg⟩
    obtain ⟨a1, a2, a3, a4, a5⟩ := hbl
    exact ⟨a1, a2, a3, by have := hr.below; omega, fun k hk => a5 k (Nat.lt_of_lt_of_le hk hr.below)⟩
  · cases hg
def ovs (l : List (Nat × FT)) : Nat → Option FT := List.rec (fun _ => none) (fun p _ ih f => Prod.rec (fun n t => @Bool.rec (fun _ => Option FT) (ih f) (some t) (Nat.beq f n)) p) l
/-- functions by their code, but for some whose run is given -/
def tblO (P : Program) (l : List (Nat × FT)) (f : Nat) : Option FT := @Option.rec _ (fun _ => Option FT) (tblC P f) (fun t => some t) (ovs l f)
inductive OvS (P : Program) : List (Nat × FT) → Prop
  | nil : OvS P []
  | clone (f : Nat) (l : List (Nat × FT)) (h : CloneOK P f) (t : OvS P l) : OvS P ((f, .clone) :: l)
  | sum (f : Nat) (g : List AV → AH → (AV → AH → Bool) → Bool) (l : List (Nat × FT)) (h : SumS P f g) (t : OvS P l) : OvS P ((f, .sum g) :: l)
  | ext (f : Nat) (g : List AV → AH → (AV → AH → Bool) → Bool) (l : List (Nat × FT)) (h : ExtS P f g) (t : OvS P l) : OvS P ((f, .ext g) :: l)
theorem tblO_sound {P : Program} {l : List (Nat × FT)} (h : OvS P l) : TblS P (tblO P l) := by
  have hin : ∀ f t, ovs l f = some t → (f, t) ∈ l := by
    intro f t
    clear h
    induction l with
    | nil => intro h; cases h
    | cons p l ih =>
      obtain ⟨n, u⟩ := p
      intro h
      have h' : @Bool.rec (fun _ => Option FT) (ovs l f) (some u) (Nat.beq f n) = some t := h
      cases hb : Nat.beq f n with
      | false => rw [hb] at h'; exact List.mem_cons_of_mem _ (ih h')
      | true => rw [hb] at h'; cases h'; rw [Nat.eq_of_beq_eq_true hb]; exact List.mem_cons_self
  intro f t hf
  unfold tblO at hf
  cases ho : ovs l f with
  | none => rw [ho] at hf; exact tblC_sound P f t hf
  | some u =>
    rw [ho] at hf
    cases hf
    have hm := hin f t ho
    clear ho hin
    induction h with
    | nil => cases hm
    | clone g l h t' ih =>
      rcases List.mem_cons.1 hm with e | hm
      · cases e; exact h
      · exact ih hm
    | sum g s l h t' ih =>
      rcases List.mem_cons.1 hm with e | hm
      · cases e; exact h
      · exact ih hm
    | ext g s l h t' ih =>
      rcases List.mem_cons.1 hm with e | hm
      · cases e; exact h
      · exact ih hm
theorem closed_lawG {P : Program} (hm : P.follows .mixedOrders = true) {l : List (Nat × FT)} (ho : OvS P l) {N f F : Nat} (hF : isCode P F = true) (hn : ovs l F = none)
    (h : RUNF (tblO P l) N (f + 1) (.fn (.fn (.func F)) [] []) [] ⟨.lf, 0⟩ (fun v _ => same1 v (.bool true)) = true) (w : World) (hg : GlOK w.heap.size w) :
    Calls P F #[] w fun e w' => e = .returned (.bool true) ∧ Go.RowKit.Below w.heap.size w w' := by
  obtain ⟨c, h1, h2⟩ := isCode_inv hF
  refine closed_law (N := N) (f := f) hm (tblO_sound ho) h1 (by unfold tblO; rw [hn]; exact h2) ?_ w hg
  rw [← RUNF_eq]
  simp only [same_true]
  exact h
section
variable {H : AH}
theorem get_new_here (H : AH) (o : AObj) : (H.new o).get H.n = some o := by rw [AH.get_new, if_pos rfl]
theorem get_new_old {o o' : AObj} {b : Nat} (h : H.get b = some o) (hn : b < H.n) : (H.new o').get b = some o := by rw [AH.get_new, if_neg (by omega)]; exact h
theorem get_set_here (H : AH) (b : Nat) (o : AObj) : (H.set b o).get b = some o := by rw [AH.get_set, if_pos rfl]
theorem get_set_other {o o' : AObj} {b c : Nat} (h : H.get c = some o) (hn : c ≠ b) : (H.set b o').get c = some o := by rw [AH.get_set, if_neg hn]; exact h
theorem sub_i64 (a b : Nat) (h : b ≤ a) (h2 : a ≤ 9223372036854775807) (K : AV → Bool) : bin .sub 0 H (.int .i64 (.ofNat a)) (.int .i64 (.ofNat b)) K = K (.int .i64 (.ofNat (a - b))) := by
  show fI (wrapF .i64 (Int.ofNat a - Int.ofNat b)) (fun z => K (.int .i64 z)) = _
  rw [fI_eq, show Int.ofNat a - Int.ofNat b = Int.ofNat (a - b) from (by show (a : Int) - (b : Int) = ((a - b : Nat) : Int); omega), wrap_i64 _ (by omega)]
end
end
end Go.Jt
