/-
  Walks for values that are not known: one law for each operation, heaps that grow, what a call does.
-/
import Derived.Test.YtlhlgmodhblplaaJtSem
set_option autoImplicit false
set_option linter.all false
namespace Go.Jt
noncomputable section
variable [Gl]

/-! ### heaps that keep what was there -/
def Ext (H H' : AH) : Prop := H.n ≤ H'.n ∧ ∀ b o, b < H.n → H.get b = some o → H'.get b = some o
theorem Ext.refl (H : AH) : Ext H H := ⟨Nat.le_refl _, fun _ _ _ h => h⟩
theorem Ext.trans {A B C : AH} (h : Ext A B) (h' : Ext B C) : Ext A C := ⟨Nat.le_trans h.1 h'.1, fun b o hb hg => h'.2 b o (Nat.lt_of_lt_of_le hb h.1) (h.2 b o hb hg)⟩
theorem Ext.new {A B : AH} (h : Ext A B) (o : AObj) : Ext A (B.new o) := ⟨Nat.le_trans h.1 (Nat.le_succ _), fun b q hb hg => by
  have := h.1
  exact get_new_old (h.2 b q hb hg) (by omega)⟩
theorem Ext.set {A B : AH} (h : Ext A B) (c : Nat) (o : AObj) (hc : A.n ≤ c) : Ext A (B.set c o) := ⟨h.1, fun b q hb hg => get_set_other (h.2 b q hb hg) (by omega)⟩
theorem Ext.kill {A B : AH} (h : Ext A B) (c : Nat) (hc : A.n ≤ c) : Ext A (B.kill c) := ⟨h.1, fun b q hb hg => by
  rw [AH.get_kill, if_neg (by omega)]
  exact h.2 b q hb hg⟩
theorem Ext.get {A B : AH} (h : Ext A B) {b : Nat} {o : AObj} (hg : A.get b = some o) (hb : b < A.n) : B.get b = some o := h.2 b o hb hg
theorem Ext.lt {A B : AH} (h : Ext A B) {b : Nat} (hb : b < A.n) : b < B.n := Nat.lt_of_lt_of_le hb h.1
theorem get_kill_other {H : AH} {o : AObj} {b c : Nat} (h : H.get c = some o) (hn : c ≠ b) : (H.kill b).get c = some o := by rw [AH.get_kill, if_neg hn]; exact h

/-! ### calls -/
def finK (fi : FnIR) (k : AV → AH → Bool) : Kc := fun e env ds H => match e with
    | .exit _ => false
    | _ => closeAll ds H fun H => rvs fi.results env H fun l => k (oneOf l) H
def Does (cl : Cl) (g : Nat) (args : List AV) (H : AH) (v : AV) (H' : AH) : Prop := ∀ k : AV → AH → Bool, cl (.fn (.fn (.func g)) [] []) args H k = k v H'
theorem Does.of {tbl : Nat → Option FT} {N f g : Nat} {fi : FnIR} {args : List AV} {H H' : AH} {v : AV} (hf : tbl g = some (.code fi))
    (h : ∀ k, den (RUN tbl N f) N none fi.body (args ++ List.replicate (fi.ntmps - args.length) (.tup [])) [] H (finK fi k) = k v H') : Does (RUN tbl N (f + 1)) g args H v H' := fun k => by
  show callF tbl (RUN tbl N f) N g ([] ++ args ++ []) H k = _
  rw [List.nil_append, List.append_nil]
  unfold callF
  rw [hf]
  exact h k
theorem Does.ofSum {tbl : Nat → Option FT} {N f g : Nat} {s : List AV → AH → (AV → AH → Bool) → Bool} {args : List AV} {H H' : AH} {v : AV} (hf : tbl g = some (.sum s)) (h : ∀ k, s args H k = k v H') : Does (RUN tbl N (f + 1)) g args H v H' := fun k => by
  show callF tbl (RUN tbl N f) N g ([] ++ args ++ []) H k = _
  rw [List.nil_append, List.append_nil]
  unfold callF
  rw [hf]
  exact h k
theorem cond_beq (j : Nat) (a b : Bool) : cond (Nat.beq j j) a b = a := by rw [Nat.beq_refl]; rfl
section
variable {cl : Cl} {env : Env} {H H' : AH}
theorem w_call {d g : Nat} {f : Od} {as : List Od} {args : List AV} {v : AV} (h : Does cl g args H v H') (hf : ev env f = .fn (.fn (.func g)) [] []) (ha : as.map (ev env) = args) (kk : Env → AH → Bool) :
    stepOp cl ⟨some d, .call f as, none⟩ env H kk = kk (lset env d v) H' := by
  rw [step_call, hf, ha]
  exact h _
theorem stepN {o : XOp} {v : AV} (hc : ∀ f as, o ≠ .call f as) (h : ∀ K : AV → AH → Bool, xop o env H K = K v H') (kk : Env → AH → Bool) : stepOp cl ⟨none, o, none⟩ env H kk = kk env H' := by
  rw [step_op _ _ _ _ _ _ hc, h]
  rfl
theorem fin_cell {t n b off : Nat} {c : Rp AV} {st ro : Bool} {fi : FnIR} (hr : fi.results = [.cell t n true]) (hb : lget env t = .ptr b off) (hg : H.get b = some (.cells c st ro)) (hl : Nat.ble (off + n) c.len = true) (k : AV → AH → Bool) :
    finK fi k .ret env [] H = k (.agg (c.sub off n)) H := by
  unfold finK
  rw [hr]
  show rvs [.cell t n true] env H (fun l => k (oneOf l) H) = _
  simp only [rvs, hb, gcell, hg, cond_true, hl, oneOf]
theorem fin_tmp {t : Nat} {v : AV} {fi : FnIR} (hr : fi.results = [.tmp t]) (hb : lget env t = v) (k : AV → AH → Bool) : finK fi k .ret env [] H = k v H := by
  unfold finK
  rw [hr]
  show rvs [.tmp t] env H (fun l => k (oneOf l) H) = _
  simp only [rvs, hb, oneOf]

section
variable {d t : Nat} {o : XOp}
theorem guard_yesF (h : lget env t = .bool false) (kk : Env → AH → Bool) : stepOp cl ⟨some d, o, some (t, false)⟩ env H kk = stepOp cl ⟨some d, o, none⟩ env H kk := by
  simp only [stepOp, wants, h, cond_true, cond_false, Bool.not_false]
theorem guard_yesT (h : lget env t = .bool true) (kk : Env → AH → Bool) : stepOp cl ⟨some d, o, some (t, true)⟩ env H kk = stepOp cl ⟨some d, o, none⟩ env H kk := by
  simp only [stepOp, wants, h, cond_true]
theorem guard_noT (h : lget env t = .bool true) (kk : Env → AH → Bool) : stepOp cl ⟨some d, o, some (t, false)⟩ env H kk = kk (lset env d (.tup [])) H := by
  simp only [stepOp, wants, h, cond_true, cond_false, setd]
theorem guard_noF (h : lget env t = .bool false) (kk : Env → AH → Bool) : stepOp cl ⟨some d, o, some (t, true)⟩ env H kk = kk (lset env d (.tup [])) H := by
  simp only [stepOp, wants, h, cond_true, cond_false, Bool.not_true, setd]
end
theorem w_pickT {c a b : Od} {v : AV} (hc : ev env c = .bool true) (ha : ev env a = v) (K : AV → AH → Bool) : xop (.pick c a b) env H K = K v H := by
  simp only [xop, hc, ha, cond_true]
theorem w_pickF {c a b : Od} {v : AV} (hc : ev env c = .bool false) (ha : ev env b = v) (K : AV → AH → Bool) : xop (.pick c a b) env H K = K v H := by
  simp only [xop, hc, ha, cond_false]
theorem eql_same {q : IntKind} {a b ek : Nat} (h : a = b) (K : AV → Bool) : bin .eql ek H (.int q (.ofNat a)) (.int q (.ofNat b)) K = K (.bool true) := by
  subst h
  show cond (Nat.beq (ikN q) (ikN q)) (K (.bool (ieq (Int.ofNat a) (Int.ofNat a)))) false = _
  rw [Nat.beq_refl, ieq_eq]
  simp

/-! ### numbers -/
theorem w_cvi {q s : IntKind} {x : Od} {c r : Nat} (hx : ev env x = .int s (.ofNat c)) (hq : wrapF q (Int.ofNat c) = Int.ofNat r) (K : AV → AH → Bool) : xop (.cvi q x) env H K = K (.int q (.ofNat r)) H := by
  simp only [xop, hx, fI_eq, hq]
theorem w_cviz {q s : IntKind} {x : Od} {z : Int} {r : Nat} (hq : wrapF q z = Int.ofNat r) (hx : ev env x = .int s z) (K : AV → AH → Bool) : xop (.cvi q x) env H K = K (.int q (.ofNat r)) H := by
  simp only [xop, hx, fI_eq, hq]
theorem wrap_u32 (z : Int) : ∃ r, r < 4294967296 ∧ wrapF .u32 z = Int.ofNat r := by
  rw [wrapF_eq]
  unfold IntKind.wrap
  simp only [IntKind.signed, IntKind.bits, Bool.false_and, Bool.false_eq_true, if_false]
  exact ⟨(z % 4294967296).toNat, by omega, by simp; omega⟩
theorem shr_u {q s : IntKind} {a b ek p : Nat} (hp : Nat.pow 2 (Nat.min b q.bits) = p) (K : AV → Bool) : bin .shr ek H (.int q (.ofNat a)) (.int s (.ofNat b)) K = K (.int q (.ofNat (a / p))) := by
  subst hp
  show fN (Nat.min b q.bits) (fun n => fN (a / Nat.pow 2 n) fun m => K (.int q (Int.ofNat m))) = _
  rw [fN_eq, fN_eq]
theorem quo_u32 {a b ek : Nat} (hb : b ≠ 0) (K : AV → Bool) : bin .quo ek H (.int .u32 (.ofNat a)) (.int .u32 (.ofNat b)) K = K (.int .u32 (.ofNat (a / b % 4294967296))) := by
  show cond (ieq (Int.ofNat b) 0) false (fI (wrapF .u32 ((Int.ofNat a).tdiv (Int.ofNat b))) fun z => K (.int .u32 z)) = _
  rw [ieq_eq, beq_eq_false_iff_ne.2 (by simp; omega), fI_eq]
  rfl
theorem rem_u32 {a b ek : Nat} (hb : b ≠ 0) (K : AV → Bool) : bin .rem ek H (.int .u32 (.ofNat a)) (.int .u32 (.ofNat b)) K = K (.int .u32 (.ofNat (a % b))) := by
  show cond (ieq (Int.ofNat b) 0) false (fI ((Int.ofNat a).tmod (Int.ofNat b)) fun z => K (.int .u32 z)) = _
  rw [ieq_eq, beq_eq_false_iff_ne.2 (by simp; omega), fI_eq]
  rfl
theorem w_bin {op : BinOp} {ek : Nat} {x y : Od} {v : AV} (h : ∀ K : AV → Bool, bin op ek H (ev env x) (ev env y) K = K v) (K : AV → AH → Bool) : xop (.bin op ek x y) env H K = K v H := h _
theorem bin_lit {op : BinOp} {ek : Nat} {a b v : AV} (h : ∀ K, bin op ek H a b K = K v) (K : AV → Bool) : bin op ek H a b K = K v := h K

theorem fnv_eq (s : List Nat) : ∀ (u : Nat) (k : Nat → Bool), fnv s u k = k (s.foldl fnvS u) := by
  induction s with
  | nil => intro u k; rfl
  | cons c s ih => intro u k; rw [fnv_cons, ih]; rfl
theorem on_does {tbl : Nat → Option FT} {N f g : Nat} (hf : tbl g = some (.sum sumOn)) {s : List Nat} {u : Nat} (hs : s.length ≤ 9223372036854775807) (H : AH) : Does (RUN tbl N (f + 1)) g [.int .u64 (.ofNat u), .str s] H (.int .u64 (.ofNat (s.foldl fnvS u))) H := Does.ofSum hf fun k => by
  show cond (Nat.ble (llen s 0) 9223372036854775807) (fnv s u fun u => k (.int .u64 (Int.ofNat u)) H) false = _
  rw [llen_eq, Nat.ble_eq_true_of_le (by simpa using hs), cond_true, fnv_eq]

/-! ### a call's end, of arguments that are not known -/
theorem open_law {P : Program} {tbl : Nat → Option FT} (hm : P.follows .mixedOrders = true) (ht : TblS P tbl) {N f F : Nat} {c : FnIR} (hc : compF P F = some (.code c)) (htF : tbl F = some (.code c)) {args : List AV} {cargs : Array Value}
    (ha : rowR (fun _ => none) args cargs) {H' : AH} (h : Does (RUN tbl N (f + 1)) F args ⟨.lf, 0⟩ (.bool true) H') (w : World) (hg : GlOK w.heap.size w) :
    Calls P F cargs w fun e w' => e = .returned (.bool true) ∧ Go.RowKit.Below w.heap.size w w' := by
  have hcl := RUN_sound (N := N) ht (fun cl hcl => dreg_sound hm hcl) f
  have h' : callF tbl (RUN tbl N f) N F ([] ++ args ++ []) ⟨.lf, 0⟩ (fun v _ => same v (.bool true)) = true := (h fun v _ => same v (.bool true)).trans rfl
  rw [List.nil_append, List.append_nil] at h'
  unfold callF at h'
  rw [htF] at h'
  have hend := code_sound (w := w) (k := fun v _ => same v (.bool true)) (N := N) hcl (dreg_sound hm hcl) hc (HR_empty P w hg) ha h'
  refine callsIn_wide.1 (CallsIn.mono hend ?_)
  intro e w' hend
  obtain ⟨cv, v, H', ι', rfl, hnx, hv, hk⟩ := hend
  have := same_eq hk
  subst this
  rw [hv.bool_inv]
  exact ⟨rfl, hnx.below⟩

/-! ### cells -/
theorem w_lit {o : XOp} {v : AV} (h : ∀ K, xop o env H K = K v H) (K : AV → AH → Bool) : xop o env H K = K v H := h K
theorem w_alloc {z : Rp AV} (K : AV → AH → Bool) : xop (.alloc z) env H K = K (.ptr H.n 0) (H.new (.cells z false false)) := by
  simp only [xop, alc, anew_eq]
theorem w_build {z r : Rp AV} {parts : List (Nat × Nat × Od)} (h : ∀ K, fillIn env z parts K = K r) (K : AV → AH → Bool) : xop (.build z parts) env H K = K (.agg r) H := by
  simp only [xop, h]
theorem w_bsl {n : Nat} {z r : Rp AV} {parts : List (Nat × Nat × Od)} (h : ∀ K, fillIn env z parts K = K r) (K : AV → AH → Bool) : xop (.bsl n z parts) env H K = K (.slc H.n 0 n n) (H.new (.cells r false false)) := by
  simp only [xop, h, alc, anew_eq]
theorem w_sta {a x : Od} {b off n : Nat} {r c : Rp AV} {st : Bool} (ha : ev env a = .ptr b off) (hx : ev env x = .agg r) (hg : H.get b = some (.cells c st false)) (h1 : Nat.beq r.len n = true) (h2 : Nat.ble (off + n) c.len = true) (K : AV → AH → Bool) :
    xop (.st n a x) env H K = K .undef (H.set b (.cells (c.put off n r) st false)) := by
  simp only [xop, ha, hx, gcell, hg, h1, h2, cond_true, cond_false]
theorem w_st1 {a x : Od} {b off : Nat} {v : AV} {c : Rp AV} {st : Bool} (ha : ev env a = .ptr b off) (hx : ev env x = v) (hv : v.sc = true) (hg : H.get b = some (.cells c st false)) (h2 : Nat.ble (off + 1) c.len = true) (K : AV → AH → Bool) :
    xop (.st 1 a x) env H K = K .undef (H.set b (.cells (c.set off v) st false)) := by
  simp only [xop, ha, gcell, hg, cond_false, hx]
  cases v <;> first | (cases hv; done) | (simp only [AV.sc, Nat.beq_refl, h2, cond_true])
theorem w_ld1 {a : Od} {b off : Nat} {v : AV} {c : Rp AV} {st ro : Bool} (ha : ev env a = .ptr b off) (hg : H.get b = some (.cells c st ro)) (hv : c.get off = some v) (K : AV → AH → Bool) : xop (.ld1 a) env H K = K v H := by
  simp only [xop, ha, gcell, hg, hv]
theorem w_ixs {x i : Od} {b o len cap n es r : Nat} {q : IntKind} (hx : ev env x = .slc b o len cap) (hi : ev env i = .int q (.ofNat n)) (h : n < len) (hr : o + n * es = r) (K : AV → AH → Bool) : xop (.ixs es x i) env H K = K (.ptr b r) H := by
  have e : Nat.ble len n = false := by
    cases hb : Nat.ble len n with
    | false => rfl
    | true => have := Nat.le_of_ble_eq_true hb; omega
  subst hr
  simp only [xop, hx, hi, e, cond_false, fN_eq]
theorem w_ixu {x i : Od} {b o len e n es r : Nat} {q : IntKind} (hx : ev env x = .slu b o len e) (hi : ev env i = .int q (.ofNat n)) (h : n < len) (hr : o + n * es = r) (K : AV → AH → Bool) : xop (.ixs es x i) env H K = K (.ptr b r) H := by
  have e : Nat.ble len n = false := by
    cases hb : Nat.ble len n with
    | false => rfl
    | true => have := Nat.le_of_ble_eq_true hb; omega
  subst hr
  simp only [xop, hx, hi, e, cond_false, fN_eq]
theorem w_lenu {x : Od} {b o n e : Nat} (hx : ev env x = .slu b o n e) (K : AV → AH → Bool) : xop (.len 1 x) env H K = K (.int .i64 (.ofNat n)) H := by
  simp only [xop, hx, srcLen]
theorem w_lens {x : Od} {s : List Nat} {n : Nat} (hx : ev env x = .str s) (hn : s.length = n) (K : AV → AH → Bool) : xop (.len 0 x) env H K = K (.int .i64 (.ofNat n)) H := by
  subst hn
  simp only [xop, hx, fN_eq, llen_eq, Nat.add_zero]
theorem w_appnil {s x : Od} {es bytes b o n c : Nat} {z a : Rp AV} {st ro : Bool} (hs : ev env s = .nils) (hx : ev env x = .slc b o n c) (hg : H.get b = some (.cells a st ro)) (hl : Nat.ble (o + n * es) a.len = true) (hn : Nat.beq n 0 = false) (hr : roomy n bytes = true) (K : AV → AH → Bool) :
    xop (.app es bytes z false s x) env H K = K (.slu H.n 0 n es) (H.new (.cells (a.sub o (n * es)) false false)) := by
  simp only [xop, hs, hx, xapp, appSrc, srcLen, srcCells, gcell, hg, hl, hn, hr, cond_true, cond_false, anew_eq]
/-- an appended row for one that is full: a block of its own -/
theorem w_appslc {s x : Od} {es bytes b o n c b' o' l' c' m : Nat} {z a a' : Rp AV} {st ro st' ro' : Bool} (hs : ev env s = .slc b' o' l' c') (hx : ev env x = .slc b o n c) (hg : H.get b = some (.cells a st ro)) (hg' : H.get b' = some (.cells a' st' ro'))
    (hl : Nat.ble (o + n * es) a.len = true) (hl' : Nat.ble (o' + l' * es) a'.len = true) (hn : Nat.beq n 0 = false) (hf : Nat.ble (l' + n) c' = false) (hr : roomy (l' + n) bytes = true) (hm : l' + n = m) (K : AV → AH → Bool) :
    xop (.app es bytes z false s x) env H K = K (.slu H.n 0 m es) (H.new (.cells ((a'.sub o' (l' * es)).app (a.sub o (n * es))) false false)) := by
  subst hm
  simp only [xop, hs, hx, xapp, appSrc, srcLen, srcCells, gcell, hg, hg', hl, hl', hn, hf, hr, cond_true, cond_false, anew_eq, fN_eq]
theorem w_appslu {s x : Od} {es bytes b o n c b' o' l' m : Nat} {z a a' : Rp AV} {st ro st' : Bool} (hs : ev env s = .slu b' o' l' es) (hx : ev env x = .slc b o n c) (hg : H.get b = some (.cells a st ro)) (hg' : H.get b' = some (.cells a' st' false))
    (hl : Nat.ble (o + n * es) a.len = true) (hl' : Nat.ble (o' + l' * es) a'.len = true) (hn : Nat.beq n 0 = false) (hf : Nat.ble (o' + (l' + n) * es) a'.len = false) (hr : roomy (l' + n) bytes = true) (hm : l' + n = m) (K : AV → AH → Bool) :
    xop (.app es bytes z false s x) env H K = K (.slu H.n 0 m es) ((H.kill b').new (.cells ((a'.sub o' (l' * es)).app (a.sub o (n * es))) st' false)) := by
  subst hm
  simp only [xop, hs, hx, xapp, appSrc, srcLen, srcCells, gcell, hg, hg', hl, hl', hn, hf, hr, cond_true, cond_false, anew_eq, fN_eq, Nat.beq_refl]
  rfl
def byteV (c : Nat) : AV := .int .u8 (.ofNat c)
theorem bytesL_map (l : List Nat) (h : ∀ c ∈ l, c ≤ 255) : ∀ K : List Nat → Bool, bytesL (l.map byteV) K = K l := by
  induction l with
  | nil => intro K; rfl
  | cons c l ih =>
    intro K
    show bytesL (byteV c :: l.map byteV) K = _
    rw [bytesL_go]
    show cond (Nat.ble c 255) (bytesL (l.map byteV) fun l => K (c :: l)) false = _
    rw [Nat.ble_eq_true_of_le (h c List.mem_cons_self), cond_true, ih (fun d hd => h d (List.mem_cons_of_mem _ hd))]
theorem w_b2su {x : Od} {b o n e : Nat} {a : Rp AV} {st ro : Bool} {l : List Nat} (hx : ev env x = .slu b o n e) (hg : H.get b = some (.cells a st ro)) (hl : Nat.ble (o + n * 1) a.len = true) (hr : (a.sub o (n * 1)).toL = l.map byteV) (hb : ∀ c ∈ l, c ≤ 255) (K : AV → AH → Bool) :
    xop (.b2s x) env H K = K (.str l) H := by
  simp only [xop, hx, srcLen, srcCells, gcell, hg, hl, cond_true, hr, bytesL_map l hb]
theorem w_b2sc {x : Od} {b o n c : Nat} {a : Rp AV} {st ro : Bool} {l : List Nat} (hx : ev env x = .slc b o n c) (hg : H.get b = some (.cells a st ro)) (hl : Nat.ble (o + n * 1) a.len = true) (hr : (a.sub o (n * 1)).toL = l.map byteV) (hb : ∀ c ∈ l, c ≤ 255) (K : AV → AH → Bool) :
    xop (.b2s x) env H K = K (.str l) H := by
  simp only [xop, hx, srcLen, srcCells, gcell, hg, hl, cond_true, hr, bytesL_map l hb]
theorem w_mks {es bytes l' c' : Nat} {z : Rp AV} {l c : Od} {q q' : IntKind} (h1 : ev env l = .int q (.ofNat l')) (h2 : ev env c = .int q' (.ofNat c')) (h : Nat.ble l' c' = true) (h3 : Nat.ble (bytes * c') 281474976710656 = true) (h4 : Nat.ble c' 9223372036854775807 = true) (K : AV → AH → Bool) :
    xop (.mks es bytes z l c) env H K = K (.slc H.n 0 l' c') (H.new (.cells (zeros c' z) false false)) := by
  simp only [xop, h1, h2, fN_eq, h, h3, h4, cond_true, alc, anew_eq]
theorem w_ist {x y : Od} {s : List Nat} {i c : Nat} {q : IntKind} (e1 : ev env x = .str s) (e2 : ev env y = .int q (.ofNat i)) (hi : s[i]? = some c) (K : AV → AH → Bool) : xop (.ist x y) env H K = K (.int .u8 (.ofNat c)) H := by
  simp only [xop, e1, e2, hi, fN_eq]
/-- looked at again: a text that is the same -/
theorem again_str {d : Nat} {o : XOp} {s : List Nat} {l : List DStep} (h : ∀ K : AV → AH → Bool, xop o env H K = K (.str s) H) (he : lget env d = .str s) (kk : Env → AH → Bool) : runD cl (.again ⟨some d, o, none⟩ :: l) env H kk = runD cl l env H kk := by
  show stepD cl (.again ⟨some d, o, none⟩) env H (fun env H => runD cl l env H kk) = _
  show xop o env H (fun v _ => cond (same v (lget env d)) (runD cl l env H kk) false) = _
  rw [h, he]
  have : same (.str s) (.str s) = true := by show seq s s = true; rw [seq_eq]; simp
  rw [this]
  rfl
theorem again_int {d : Nat} {o : XOp} {q : IntKind} {n : Nat} {l : List DStep} (h : ∀ K : AV → AH → Bool, xop o env H K = K (.int q (.ofNat n)) H) (he : lget env d = .int q (.ofNat n)) (kk : Env → AH → Bool) : runD cl (.again ⟨some d, o, none⟩ :: l) env H kk = runD cl l env H kk := by
  show stepD cl (.again ⟨some d, o, none⟩) env H (fun env H => runD cl l env H kk) = _
  show xop o env H (fun v _ => cond (same v (lget env d)) (runD cl l env H kk) false) = _
  rw [h, he]
  have : same (.int q (.ofNat n)) (.int q (.ofNat n)) = true := by
    show cond (Nat.beq (ikN q) (ikN q)) (ieq (Int.ofNat n) (Int.ofNat n)) false = true
    rw [Nat.beq_refl, ieq_eq]; simp
  rw [this]
  rfl
end
end
end Go.Jt
