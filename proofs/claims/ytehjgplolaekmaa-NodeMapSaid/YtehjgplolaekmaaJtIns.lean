/-
  The library's insertion into a row of strings, whatever room the row has: its abstract run, proved out of its code. And whether two rows overlap.
-/
import Derived.Test.YtehjgplolaekmaaJtSem
import Derived.Lib.Overlaps
set_option autoImplicit false
set_option linter.all false
namespace Go.Jt
noncomputable section
variable [Gl]

/-! ### do two rows overlap? rows of two blocks do not -/
def ovOn (args : List AV) (H : AH) (k : AV → AH → Bool) : Bool := match args with
  | [.slc x _ _ _, .slc y _ _ _] => cond (Nat.beq x y) false (gcell H x fun _ s _ => cond s false (gcell H y fun a s' _ => cond s' false (cond (Nat.ble 1 a.len) (k (.bool false) H) false)))
  | _ => false
def OvX (P : Program) (f : Nat) : Prop := ∃ fn t u e i, P.funcs[f]? = some fn ∧ (fn.name == "runtime.NumGoroutine") = false ∧ fn.body.isNone = true ∧ Extern.findNext fn = none ∧ Extern.find fn = some (Extern.SlicesOverlaps.overlaps #[t, t] #[u]) ∧
  P.underlying t = some (.slice e) ∧ P.info? e = some i
theorem ovOn_sound {P : Program} {f : Nat} (h : OvX P f) : ExtS P f ovOn := by
  obtain ⟨fn, t, u, e, i, hf, hn, hb, hx, he, hu, hi⟩ := h
  intro base ι H w args cargs k hr ha hg
  unfold ovOn at hg
  split at hg
  · rename_i x o l c y p m d
    obtain ⟨hxy, hg⟩ := cond_false_inv hg
    obtain ⟨c1, s1, r1, g1, hg⟩ := gcell_inv hg
    obtain ⟨hs1, hg⟩ := cond_false_inv hg
    obtain ⟨c2, s2, r2, g2, hg⟩ := gcell_inv hg
    obtain ⟨hs2, hg⟩ := cond_false_inv hg
    obtain ⟨hl1, hg⟩ := cond_true_inv hg
    refine ⟨fun l hl => by simp at hl, ?_⟩
    have hsz : cargs.size = 2 := ha.1.symm
    have h0 := ha.2 0
    have h1 := ha.2 1
    have hcv : cargs = #[cargs.getD 0 Go.undef, cargs.getD 1 Go.undef] := by
      apply Array.ext
      · simp [hsz]
      · intro j h1 h2
        match j, h2 with
        | 0, _ => simp [hsz]
        | 1, _ => simp [hsz]
    generalize cargs.getD 0 Go.undef = v0 at hcv h0
    generalize cargs.getD 1 Go.undef = v1 at hcv h1
    subst hcv
    have h0' : VR ι (.slc x o l c) v0 := h0
    have h1' : VR ι (.slc y p m d) v1 := h1
    cases h0' with
    | slc _ _ _ _ L hL hle =>
    cases h1' with
    | slc _ _ _ _ M hM hle' =>
    obtain ⟨k1, el1, fr1, w1, o1⟩ := hr.cells g1 hL
    obtain ⟨k2, el2, fr2, w2, o2⟩ := hr.cells g2 hM
    cases o1 with
    | cells _ _ _ _ _ _ _ _ _ _ _ _ q1 _ =>
    cases o2 with
    | cells _ _ _ _ _ _ ho2 hz2 hll2 _ _ _ q2 _ =>
    have f1 := (q1 hs1).1
    have f2 := (q2 hs2).1
    have f3 := (q1 hs1).2
    subst f1
    subst f2
    have hne : L.blk ≠ M.blk := fun e => (hr.inj _ _ _ _ _ _ g1 g2 hL hM e).elim (beq_false_of_not hxy) (fun hl => by omega)
    have a1 : ∀ off, w.frozen? ⟨L.blk, off, none⟩ = false := fun off => frozen_of w1 (by simp)
    have a2 : ∀ off, w.frozen? ⟨M.blk, off, none⟩ = false := fun off => frozen_of w2 (by simp)
    have b1 : w.shape? L.blk = some (el1, k1.size) := by simp [World.shape?, w1]
    have b2 : w.shape? M.blk = some (el2, k2.size) := by simp [World.shape?, w2]
    refine Res.pure hr (cv := .bool false) ?_ (.bool false) hg
    rw [run_callFunc_extern hf hn hb hx he]
    have hl1' := Nat.le_of_ble_eq_true hl1
    rw [Rp.len_eq c2 ho2] at hl1'
    have key := Lib.run_overlaps_apart w t u e hu i.size (fun w => run_size hi) ⟨L.blk, L.sh + o, none⟩ ⟨M.blk, M.sh + p, none⟩ l c m d hne el1 el2 k1.size k2.size b1 b2 (by omega) (a1 _) (a1 _)
    rw [key]
    rfl
  · cases hg

/-! ### single steps, of values that are not known -/
theorem updAt_updAt {α : Type} (d : D8) (f g : T α → T α) (t : T α) : T.updAt d f (T.updAt d g t) = T.updAt d (fun x => f (g x)) t := by cases d <;> cases t <;> rfl
theorem upd_upd {α : Type} (v w : Option α) : ∀ (p : Pth) (t : T α), T.updP v p (T.updP w p t) = T.updP v p t
  | .e, t => by cases t <;> rfl
  | .c d p, t => by
    show T.updAt d (T.updP v p) (T.updAt d (T.updP w p) t) = T.updAt d (T.updP v p) t
    rw [updAt_updAt]
    congr 1
    funext x
    exact upd_upd v w p x
theorem new_set (H : AH) (o o' : AObj) : (H.new o).set H.n o' = H.new o' := by
  unfold AH.new AH.set
  simp only [T.upd, upd_upd]
theorem nbeq {a b : Nat} (h : a ≠ b) : Nat.beq a b = false := by
  cases hb : Nat.beq a b with
  | false => rfl
  | true => exact absurd (Nat.eq_of_beq_eq_true hb) h
section
variable {cl : Cl} {env : Env} {H : AH}
theorem stepE {d : Nat} {o : XOp} {v : AV} {H' : AH} (hc : ∀ f as, o ≠ .call f as) (h : ∀ K : AV → AH → Bool, xop o env H K = K v H') (kk : Env → AH → Bool) : stepOp cl ⟨some d, o, none⟩ env H kk = kk (lset env d v) H' := by
  rw [step_op _ _ _ _ _ _ hc, h]
  rfl
theorem sll_lo {x lo : Od} {b o n c l : Nat} (hx : ev env x = .slc b o n c) (hl : ev env lo = .int .i64 (.ofNat l)) (h1 : l ≤ n) (h2 : n ≤ c) (h3 : l < c) (K : AV → AH → Bool) : xop (.sll 1 x (some lo) none none) env H K = K (.slc b (o + l) (n - l) (c - l)) H := by
  have e1 : Nat.beq c l = false := nbeq (by omega)
  simp only [xop, hx, cut3, isOd, hl, fN_eq, Nat.ble_eq_true_of_le h1, Nat.ble_eq_true_of_le h2, Nat.ble_eq_true_of_le (Nat.le_refl c), e1, cond_true, cond_false, Nat.mul_one]
theorem sll_hi {x hi : Od} {b o n c h : Nat} (hx : ev env x = .slc b o n c) (hh : ev env hi = .int .i64 (.ofNat h)) (h1 : h ≤ c) (K : AV → AH → Bool) : xop (.sll 1 x none (some hi) none) env H K = K (.slc b o h c) H := by
  have e2 : (cond (Nat.beq c 0) o (o + 0 * 1)) = o := by cases Nat.beq c 0 <;> simp
  simp only [xop, hx, cut3, isOd, hh, fN_eq, Nat.ble_eq_true_of_le h1, Nat.ble_eq_true_of_le (Nat.le_refl c), Nat.ble_eq_true_of_le (Nat.zero_le h), cond_true, e2, Nat.sub_zero]
theorem sll_u {x lo : Od} {b o n l : Nat} {a : Rp AV} {st ro : Bool} (hx : ev env x = .slu b o n 1) (hl : ev env lo = .int .i64 (.ofNat l)) (hb : H.get b = some (.cells a st ro)) (h1 : l ≤ n) (h2 : n ≤ a.len - o) (h3 : l < a.len - o) (K : AV → AH → Bool) :
    xop (.sll 1 x (some lo) none none) env H K = K (.slu b (o + l) (n - l) 1) H := by
  have e1 : Nat.beq (a.len - o) l = false := nbeq (by omega)
  simp only [xop, hx, Nat.beq_refl, cond_true, gcell, hb, cut3, isOd, hl, fN_eq, Nat.div_one, Nat.ble_eq_true_of_le h1, Nat.ble_eq_true_of_le h2, Nat.ble_eq_true_of_le (Nat.le_refl (a.len - o)), e1, cond_false, Nat.mul_one]
theorem len_slc {x : Od} {b o n c : Nat} (hx : ev env x = .slc b o n c) (K : AV → AH → Bool) : xop (.len 1 x) env H K = K (.int .i64 (.ofNat n)) H := by
  simp only [xop, hx, srcLen]
theorem cap_slc {x : Od} {b o n c : Nat} (hx : ev env x = .slc b o n c) (K : AV → AH → Bool) : xop (.capo x) env H K = K (.int .i64 (.ofNat c)) H := by
  simp only [xop, hx]
theorem eql_zero (m : Nat) (h : m ≠ 0) (K : AV → Bool) : bin .eql 0 H (.int .i64 (.ofNat m)) (.int .i64 0) K = K (.bool false) := by
  show K (.bool (ieq (Int.ofNat m) 0)) = _
  rw [ieq_eq, beq_eq_false_iff_ne.2 (by simp; omega)]
theorem eql_not (a b : Nat) (h : a ≠ b) (K : AV → Bool) : bin .eql 0 H (.int .i64 (.ofNat a)) (.int .i64 (.ofNat b)) K = K (.bool false) := by
  show K (.bool (ieq (Int.ofNat a) (Int.ofNat b))) = _
  rw [ieq_eq, beq_eq_false_iff_ne.2 (by simp; omega)]
theorem gtr_yes (a b : Nat) (h : b < a) (K : AV → Bool) : bin .gtr 0 H (.int .i64 (.ofNat a)) (.int .i64 (.ofNat b)) K = K (.bool true) := by
  show K (.bool (!(ile (Int.ofNat a) (Int.ofNat b)))) = _
  rw [ile_eq, decide_eq_false (by simp; omega)]
  rfl
theorem gtr_no (a b : Nat) (h : a ≤ b) (K : AV → Bool) : bin .gtr 0 H (.int .i64 (.ofNat a)) (.int .i64 (.ofNat b)) K = K (.bool false) := by
  show K (.bool (!(ile (Int.ofNat a) (Int.ofNat b)))) = _
  rw [ile_eq, decide_eq_true (by simp; omega)]
  rfl
theorem copy_to {x y : Od} {K : AV → AH → Bool} {b o c m n : Nat} {a r : Rp AV} {st : Bool} {kd : AV} (hk : kd = .slc b o n c ∨ kd = .slu b o n 1) (hx : ev env x = kd) (hs : srcLen (ev env y) = fun k => k m) (hr : ∀ K : Rp AV → Bool, srcCells H 1 (Nat.min m n) (ev env y) K = K r)
    (hb : H.get b = some (.cells a st false)) (hl : o + Nat.min m n ≤ a.len) : xop (.copy 1 x y) env H K = K (.int .i64 (.ofNat (Nat.min m n))) (H.set b (.cells (a.put o (Nat.min m n) r) st false)) := by
  rcases hk with rfl | rfl
  · simp only [xop]
    rw [hs]
    simp only [hx, srcLen, fN_eq, hr, putCells, gcell, hb, cond_false, Nat.mul_one, Nat.ble_eq_true_of_le hl, cond_true]
  · simp only [xop]
    rw [hs]
    simp only [hx, srcLen, fN_eq, hr, putCells, gcell, hb, cond_false, Nat.mul_one, Nat.ble_eq_true_of_le hl, cond_true]
theorem cells_slc {b o n c m : Nat} {a : Rp AV} {st ro : Bool} (hb : H.get b = some (.cells a st ro)) (hl : o + m ≤ a.len) (K : Rp AV → Bool) : srcCells H 1 m (.slc b o n c) K = K (a.sub o m) := by
  simp only [srcCells, gcell, hb, Nat.mul_one, Nat.ble_eq_true_of_le hl, cond_true]
theorem app_make {s x : Od} {b o n c m q : Nat} {a : Rp AV} {st ro : Bool} {v : AV} (hs : ev env s = .slc b o n c) (hx : ev env x = .int .i64 (.ofNat m)) (hm : m ≠ 0) (hc : c < n + m) (hq : n + m = q) (hr : (2 * (n + m) + 200) * 16 ≤ 140737488355328) (hb : H.get b = some (.cells a st ro)) (hl : o + n ≤ a.len) (K : AV → AH → Bool) :
    xop (.app 1 16 (.one v) true s x) env H K = K (.slu H.n 0 q 1) (H.new (.cells ((a.sub o n).app (.rep m v)) false false)) := by
  have e1 : Nat.beq m 0 = false := nbeq hm
  have e2 : Nat.ble (n + m) c = false := by
    cases hb : Nat.ble (n + m) c with
    | false => rfl
    | true => have := Nat.le_of_ble_eq_true hb; omega
  have e3 : roomy (n + m) 16 = true := Nat.ble_eq_true_of_le hr
  subst hq
  simp only [xop, hs, hx, xapp, appSrc, Nat.ble_eq_true_of_le (show m ≤ 140737488355328 by omega), Nat.ble_eq_true_of_le (show m * 16 ≤ 281474976710656 by omega), cond_true, fN_eq, zeros, e1, e2, e3, cond_false, gcell, hb, Nat.mul_one, Nat.ble_eq_true_of_le hl, anew_eq]
theorem sll_u0 {x lo : Od} {b n l : Nat} {a : Rp AV} {st ro : Bool} (hx : ev env x = .slu b 0 n 1) (hl : ev env lo = .int .i64 (.ofNat l)) (hb : H.get b = some (.cells a st ro)) (h1 : l ≤ n) (h2 : n ≤ a.len) (h3 : l < a.len) (K : AV → AH → Bool) :
    xop (.sll 1 x (some lo) none none) env H K = K (.slu b l (n - l) 1) H := by
  rw [sll_u hx hl hb h1 (by omega) (by omega), Nat.zero_add]
theorem copy_s {x y : Od} {b o c m n q : Nat} {a r : Rp AV} {st : Bool} (hx : ev env x = .slc b o n c) (hs : srcLen (ev env y) = fun k => k m) (hq : Nat.min m n = q) (hr : ∀ K : Rp AV → Bool, srcCells H 1 q (ev env y) K = K r)
    (hb : H.get b = some (.cells a st false)) (hl : o + q ≤ a.len) (K : AV → AH → Bool) : xop (.copy 1 x y) env H K = K (.int .i64 (.ofNat q)) (H.set b (.cells (a.put o q r) st false)) := by
  subst hq
  exact copy_to (Or.inl rfl) hx hs hr hb hl
theorem copy_new {H0 : AH} {x y : Od} {o m n q : Nat} {a r : Rp AV} {st : Bool} (hx : ev env x = .slu H0.n o n 1) (hs : srcLen (ev env y) = fun k => k m) (hq : Nat.min m n = q) (hr : ∀ K : Rp AV → Bool, srcCells (H0.new (.cells a st false)) 1 q (ev env y) K = K r)
    (hl : o + q ≤ a.len) (K : AV → AH → Bool) : xop (.copy 1 x y) env (H0.new (.cells a st false)) K = K (.int .i64 (.ofNat q)) (H0.new (.cells (a.put o q r) st false)) := by
  subst hq
  have h := copy_to (K := K) (b := H0.n) (o := o) (c := 0) (n := n) (Or.inr rfl) hx hs hr (get_new_here ..) hl
  rw [h, new_set]
theorem not_b {x : Od} {b : Bool} (hx : ev env x = .bool b) (K : AV → AH → Bool) : xop (.not x) env H K = K (.bool (!b)) H := by
  simp only [xop, hx]
theorem den_condT {N : Nat} {rd : Option Nat} {ds : List Nat} {k : Kc} {c : Od} {a b : IR} (h : ev env c = .bool true) : den cl N rd (.cond c a b) env ds H k = den cl N rd a env ds H k := by
  rw [den_cond, h]; rfl
theorem den_condF {N : Nat} {rd : Option Nat} {ds : List Nat} {k : Kc} {c : Od} {a b : IR} (h : ev env c = .bool false) : den cl N rd (.cond c a b) env ds H k = den cl N rd b env ds H k := by
  rw [den_cond, h]; rfl
end

def insIR (ov st : Nat) : FnIR := ⟨95, [.tmp 6], (.seq (.reg [⟨some 6, .mv (.cst .nils), none⟩]) (.seq (.reg [⟨some 10, .mv (.tmp 0), none⟩, ⟨some 11, .mv (.tmp 1), none⟩, ⟨some 12, .sll 1 (.tmp 10) (some (.tmp 11)) none none, none⟩]) (.seq (.reg [⟨some 13, .mv (.tmp 2), none⟩, ⟨some 14, .len 1 (.tmp 13), none⟩, ⟨some 7, .mv (.tmp 14), none⟩]) (.seq (.seq (.reg [⟨some 15, .mv (.tmp 7), none⟩, ⟨some 16, .bin .eql 0 (.tmp 15) (.cst (.int .i64 0)), none⟩]) (.cond (.tmp 16) (.seq (.reg [⟨some 17, .mv (.tmp 0), none⟩, ⟨some 6, .mv (.tmp 17), none⟩]) .ret) .skip)) (.seq (.reg [⟨some 18, .mv (.tmp 0), none⟩, ⟨some 19, .len 1 (.tmp 18), none⟩, ⟨some 8, .mv (.tmp 19), none⟩]) (.seq (.seq (.reg [⟨some 20, .mv (.tmp 1), none⟩, ⟨some 21, .mv (.tmp 8), none⟩, ⟨some 22, .bin .eql 0 (.tmp 20) (.tmp 21), none⟩]) (.cond (.tmp 22) (.seq (.reg [⟨some 23, .mv (.tmp 0), none⟩, ⟨some 24, .mv (.tmp 2), none⟩, ⟨some 25, .app 1 16 (.one (.str [])) false (.tmp 23) (.tmp 24), none⟩, ⟨some 6, .mv (.tmp 25), none⟩]) .ret) .skip)) (.seq (.seq (.reg [⟨some 26, .mv (.tmp 8), none⟩, ⟨some 27, .mv (.tmp 7), none⟩, ⟨some 28, .bin .add 0 (.tmp 26) (.tmp 27), none⟩, ⟨some 29, .mv (.tmp 0), none⟩, ⟨some 30, .capo (.tmp 29), none⟩, ⟨some 31, .bin .gtr 0 (.tmp 28) (.tmp 30), none⟩]) (.cond (.tmp 31) (.seq (.reg [⟨some 32, .mv (.tmp 0), none⟩, ⟨some 33, .mv (.tmp 1), none⟩, ⟨some 34, .sll 1 (.tmp 32) none (some (.tmp 33)) none, none⟩, ⟨some 35, .mv (.tmp 8), none⟩, ⟨some 36, .mv (.tmp 7), none⟩, ⟨some 37, .bin .add 0 (.tmp 35) (.tmp 36), none⟩, ⟨some 38, .mv (.tmp 1), none⟩, ⟨some 39, .bin .sub 0 (.tmp 37) (.tmp 38), none⟩, ⟨some 40, .app 1 16 (.one (.str [])) true (.tmp 34) (.tmp 39), none⟩, ⟨some 9, .mv (.tmp 40), none⟩]) (.seq (.reg [⟨some 41, .mv (.tmp 9), none⟩, ⟨some 42, .mv (.tmp 1), none⟩, ⟨some 43, .sll 1 (.tmp 41) (some (.tmp 42)) none none, none⟩, ⟨some 44, .mv (.tmp 2), none⟩, ⟨some 45, .copy 1 (.tmp 43) (.tmp 44), none⟩]) (.seq (.dreg [.run ⟨some 46, .mv (.tmp 9), none⟩, .run ⟨some 47, .mv (.tmp 1), none⟩, .run ⟨some 48, .mv (.tmp 7), none⟩, .run ⟨some 49, .bin .add 0 (.tmp 47) (.tmp 48), none⟩, .run ⟨some 50, .sll 1 (.tmp 46) (some (.tmp 49)) none none, none⟩, .run ⟨some 51, .mv (.tmp 0), none⟩, .run ⟨some 52, .mv (.tmp 1), none⟩, .run ⟨some 53, .sll 1 (.tmp 51) (some (.tmp 52)) none none, none⟩] [(⟨some 54, .copy 1 (.tmp 50) (.tmp 53), none⟩, [])]) (.seq (.reg [⟨some 55, .mv (.tmp 9), none⟩, ⟨some 6, .mv (.tmp 55), none⟩]) .ret)))) .skip)) (.seq (.reg [⟨some 56, .mv (.tmp 0), none⟩, ⟨some 57, .mv (.tmp 8), none⟩, ⟨some 58, .mv (.tmp 7), none⟩, ⟨some 59, .bin .add 0 (.tmp 57) (.tmp 58), none⟩, ⟨some 60, .sll 1 (.tmp 56) none (some (.tmp 59)) none, none⟩, ⟨some 0, .mv (.tmp 60), none⟩]) (.seq (.seq (.reg [⟨some 61, .mv (.tmp 2), none⟩, ⟨some 62, .mv (.tmp 0), none⟩, ⟨some 63, .mv (.tmp 1), none⟩, ⟨some 64, .mv (.tmp 7), none⟩, ⟨some 65, .bin .add 0 (.tmp 63) (.tmp 64), none⟩, ⟨some 66, .sll 1 (.tmp 62) (some (.tmp 65)) none none, none⟩, ⟨some 67, .call (.cst (.fn (.fn (.func ov)) [] [])) [(.tmp 61), (.tmp 66)], none⟩, ⟨some 68, .not (.tmp 67), none⟩]) (.cond (.tmp 68) (.seq (.dreg [.run ⟨some 69, .mv (.tmp 0), none⟩, .run ⟨some 70, .mv (.tmp 1), none⟩, .run ⟨some 71, .mv (.tmp 7), none⟩, .run ⟨some 72, .bin .add 0 (.tmp 70) (.tmp 71), none⟩, .run ⟨some 73, .sll 1 (.tmp 69) (some (.tmp 72)) none none, none⟩, .run ⟨some 74, .mv (.tmp 0), none⟩, .run ⟨some 75, .mv (.tmp 1), none⟩, .run ⟨some 76, .sll 1 (.tmp 74) (some (.tmp 75)) none none, none⟩] [(⟨some 77, .copy 1 (.tmp 73) (.tmp 76), none⟩, [])]) (.seq (.reg [⟨some 78, .mv (.tmp 0), none⟩, ⟨some 79, .mv (.tmp 1), none⟩, ⟨some 80, .sll 1 (.tmp 78) (some (.tmp 79)) none none, none⟩, ⟨some 81, .mv (.tmp 2), none⟩, ⟨some 82, .copy 1 (.tmp 80) (.tmp 81), none⟩]) (.seq (.reg [⟨some 83, .mv (.tmp 0), none⟩, ⟨some 6, .mv (.tmp 83), none⟩]) .ret))) .skip)) (.seq (.reg [⟨some 84, .mv (.tmp 0), none⟩, ⟨some 85, .mv (.tmp 8), none⟩, ⟨some 86, .sll 1 (.tmp 84) (some (.tmp 85)) none none, none⟩, ⟨some 87, .mv (.tmp 2), none⟩, ⟨some 88, .copy 1 (.tmp 86) (.tmp 87), none⟩]) (.seq (.reg [⟨some 89, .mv (.tmp 0), none⟩, ⟨some 90, .mv (.tmp 1), none⟩, ⟨some 91, .sll 1 (.tmp 89) (some (.tmp 90)) none none, none⟩, ⟨some 92, .mv (.tmp 7), none⟩, ⟨some 93, .call (.cst (.fn (.fn (.func st)) [] [])) [(.tmp 91), (.tmp 92)], none⟩]) (.seq (.reg [⟨some 94, .mv (.tmp 0), none⟩, ⟨some 6, .mv (.tmp 94), none⟩]) .ret))))))))))))⟩

section
variable (cl : Cl) (N : Nat) (rd : Option Nat) (env : Env) (ds : List Nat) (H : AH) (k : Kc) (kk : Env → AH → Bool)
theorem den_dreg (first : List DStep) (rest : List (XOper × List DStep)) : den cl N rd (.dreg first rest) env ds H k = runD cl first env H fun env H => runS cl rest env H fun env H => k .normal env ds H := rfl
theorem runD_nil : runD cl [] env H kk = kk env H := rfl
theorem runD_run (o : XOper) (l : List DStep) : runD cl (.run o :: l) env H kk = stepOp cl o env H fun env H => runD cl l env H kk := rfl
theorem runS_nil : runS cl [] env H kk = kk env H := rfl
theorem runS_cons (o : XOper) (s : List DStep) (l : List (XOper × List DStep)) : runS cl ((o, s) :: l) env H kk = stepOp cl o env H fun env H => runD cl s env H fun env H => runS cl l env H kk := rfl
end

theorem ins_list2 {A V : List AV} {off len m i vo : Nat} (h1 : off + (len + m) ≤ A.length) (h2 : vo + m ≤ V.length) (h3 : 1 ≤ m) (hi : i < len) :
    ((((A.take (off + (i + m)) ++ ((A.drop (off + i)).take (len - i) ++ A.drop (off + (i + m) + (len - i)))).take (off + i) ++ ((V.drop vo).take m ++ (A.take (off + (i + m)) ++ ((A.drop (off + i)).take (len - i) ++ A.drop (off + (i + m) + (len - i)))).drop (off + i + m))).drop off).take (len + m)) =
      (A.drop off).take i ++ (V.drop vo).take m ++ (A.drop (off + i)).take (len - i) := by
  apply List.ext_getElem?
  intro j
  simp only [List.getElem?_append, List.getElem?_take, List.getElem?_drop, List.length_append, List.length_take, List.length_drop]
  by_cases c1 : j < i
  · rw [if_pos (by omega), if_pos (by omega), if_pos (by omega), if_pos (by omega), if_pos (by omega), if_pos (by omega), if_pos (by omega), if_pos (by omega)]
  · by_cases c2 : j < i + m
    · rw [if_pos (by omega), if_neg (by omega), if_pos (by omega), if_pos (by omega), if_pos (by omega), if_neg (by omega), if_pos (by omega)]
      congr 1; omega
    · by_cases c3 : j < len + m
      · rw [if_pos (by omega), if_neg (by omega), if_neg (by omega), if_neg (by omega), if_pos (by omega), if_pos (by omega), if_neg (by omega), if_pos (by omega)]
        congr 1; omega
      · rw [if_neg (by omega), if_neg (by omega), if_neg (by omega)]
theorem ins_list {a1 a2 a3 : List AV} {z : AV} {i m n : Nat} (q1 : a1.length = i) (q2 : a2.length = m) (q3 : a3.length = n) :
    ((a1 ++ List.replicate (n + m) z).take i ++ (a2 ++ (a1 ++ List.replicate (n + m) z).drop (i + m))).take (i + m) ++ (a3 ++ ((a1 ++ List.replicate (n + m) z).take i ++ (a2 ++ (a1 ++ List.replicate (n + m) z).drop (i + m))).drop (i + m + n)) = a1 ++ a2 ++ a3 := by
  subst q1
  subst q2
  subst q3
  have e1 : (a1 ++ List.replicate (a3.length + a2.length) z).take a1.length = a1 := by simp
  rw [e1, ← List.append_assoc a1 a2]
  have e2 : ∀ l : List AV, ((a1 ++ a2) ++ l).take (a1.length + a2.length) = a1 ++ a2 := fun l => by
    rw [show a1.length + a2.length = (a1 ++ a2).length by simp, List.take_append_of_le_length (Nat.le_refl _), List.take_length]
  rw [e2, List.drop_eq_nil_of_le (by simp; omega), List.append_nil]

/-! ### the insertion where there is no room -/
section
variable (cl : Cl) (N : Nat)
theorem ins_away {tbl : Nat → Option FT} {f ov st : Nat} (hf : tbl f = some (.code (insIR ov st))) {b off len cap i vb vo m vc : Nat} {H : AH} {A V : Rp AV} {sa sv rv ra : Bool} (k : AV → AH → Bool)
    (hA : H.get b = some (.cells A sa ra)) (hV : H.get vb = some (.cells V sv rv)) (hbn : b < H.n) (hvn : vb < H.n) (hAo : A.ok) (hVo : V.ok)
    (hi : i < len) (hm : 1 ≤ m) (hlc : len ≤ cap) (hcap : cap < len + m) (hAl : off + cap ≤ A.toL.length) (hVl : vo + m ≤ V.toL.length) (hr : (2 * (len + m) + 200) * 16 ≤ 140737488355328) :
    ∃ R : Rp AV, R.ok ∧ R.toL = (A.toL.drop off).take i ++ (V.toL.drop vo).take m ++ (A.toL.drop (off + i)).take (len - i) ∧
    callF tbl cl N f [.slc b off len cap, .int .i64 (.ofNat i), .slc vb vo m vc] H k = k (.slu H.n 0 (len + m) 1) (H.new (.cells R false false)) := by
  have hAl' : A.len = A.toL.length := Rp.len_eq A hAo
  have hVl' : V.len = V.toL.length := Rp.len_eq V hVo
  obtain ⟨o1, e1⟩ := Rp.sub_spec A off i hAo
  obtain ⟨o2, e2⟩ := Rp.app_spec (A.sub off i) (.rep (len + m - i) (.str [])) o1 trivial
  obtain ⟨o3, e3⟩ := Rp.sub_spec V vo m hVo
  obtain ⟨o5, e5⟩ := Rp.sub_spec A (off + i) (len - i) hAo
  have l0 : ((A.sub off i).app (.rep (len + m - i) (.str []))).toL.length = len + m := by rw [e2, e1]; simp; omega
  have L0 : ((A.sub off i).app (.rep (len + m - i) (.str []))).len = len + m := by rw [Rp.len_eq _ o2, l0]
  obtain ⟨o4, e4⟩ := Rp.put_spec _ i m (V.sub vo m) o2 o3 (by rw [e3]; simp; omega) (by rw [l0]; omega)
  have l1 : (((A.sub off i).app (.rep (len + m - i) (.str []))).put i m (V.sub vo m)).toL.length = len + m := by rw [e4]; simp [e3, l0]; omega
  have L1 : (((A.sub off i).app (.rep (len + m - i) (.str []))).put i m (V.sub vo m)).len = len + m := by rw [Rp.len_eq _ o4, l1]
  obtain ⟨o6, e6⟩ := Rp.put_spec _ (i + m) (len - i) (A.sub (off + i) (len - i)) o4 o5 (by rw [e5]; simp; omega) (by rw [l1]; omega)
  refine ⟨_, o6, ?_, ?_⟩
  · rw [e6, e5, e4, e3, e2, e1, Rp.toL_rep, show len + m - i = (len - i) + m by omega]
    exact ins_list (by simp; omega) (by simp; omega) (by simp; omega)
  · unfold callF
    rw [hf]
    show den cl N none (insIR ov st).body _ _ _ _ = _
    unfold insIR
    refine (den_seq ..).trans ?_
    refine (den_reg ..).trans ?_
    refine (runOps_cons ..).trans ?_
    refine (step_mv ..).trans ?_
    refine (runOps_nil ..).trans ?_
    refine (den_seq ..).trans ?_
    refine (den_reg ..).trans ?_
    refine (runOps_cons ..).trans ?_
    refine (step_mv ..).trans ?_
    refine (runOps_cons ..).trans ?_
    refine (step_mv ..).trans ?_
    refine (runOps_cons ..).trans ?_
    refine (stepE (by intro f as h; cases h) (fun K => sll_lo (b := b) (o := off) (n := len) (c := cap) (l := i) rfl rfl (by omega) hlc (by omega) K) _).trans ?_
    refine (runOps_nil ..).trans ?_
    refine (den_seq ..).trans ?_
    refine (den_reg ..).trans ?_
    refine (runOps_cons ..).trans ?_
    refine (step_mv ..).trans ?_
    refine (runOps_cons ..).trans ?_
    refine (stepE (by intro f as h; cases h) (fun K => len_slc (b := vb) (o := vo) (n := m) (c := vc) rfl K) _).trans ?_
    refine (runOps_cons ..).trans ?_
    refine (step_mv ..).trans ?_
    refine (runOps_nil ..).trans ?_
    refine (den_seq ..).trans ?_
    refine (den_seq ..).trans ?_
    refine (den_reg ..).trans ?_
    refine (runOps_cons ..).trans ?_
    refine (step_mv ..).trans ?_
    refine (runOps_cons ..).trans ?_
    refine (step_bin ..).trans ((eql_zero m (by omega) _).trans ?_)
    refine (runOps_nil ..).trans ?_
    refine (den_condF rfl).trans ?_
    refine (den_skip ..).trans ?_
    refine (den_seq ..).trans ?_
    refine (den_reg ..).trans ?_
    refine (runOps_cons ..).trans ?_
    refine (step_mv ..).trans ?_
    refine (runOps_cons ..).trans ?_
    refine (stepE (by intro f as h; cases h) (fun K => len_slc (b := b) (o := off) (n := len) (c := cap) rfl K) _).trans ?_
    refine (runOps_cons ..).trans ?_
    refine (step_mv ..).trans ?_
    refine (runOps_nil ..).trans ?_
    refine (den_seq ..).trans ?_
    refine (den_seq ..).trans ?_
    refine (den_reg ..).trans ?_
    refine (runOps_cons ..).trans ?_
    refine (step_mv ..).trans ?_
    refine (runOps_cons ..).trans ?_
    refine (step_mv ..).trans ?_
    refine (runOps_cons ..).trans ?_
    refine (step_bin ..).trans ((eql_not i len (by omega) _).trans ?_)
    refine (runOps_nil ..).trans ?_
    refine (den_condF rfl).trans ?_
    refine (den_skip ..).trans ?_
    refine (den_seq ..).trans ?_
    refine (den_seq ..).trans ?_
    refine (den_reg ..).trans ?_
    refine (runOps_cons ..).trans ?_
    refine (step_mv ..).trans ?_
    refine (runOps_cons ..).trans ?_
    refine (step_mv ..).trans ?_
    refine (runOps_cons ..).trans ?_
    refine (step_bin ..).trans ((add_i64 len m (by omega) 0 _ _).trans ?_)
    refine (runOps_cons ..).trans ?_
    refine (step_mv ..).trans ?_
    refine (runOps_cons ..).trans ?_
    refine (stepE (by intro f as h; cases h) (fun K => cap_slc (b := b) (o := off) (n := len) (c := cap) rfl K) _).trans ?_
    refine (runOps_cons ..).trans ?_
    refine (step_bin ..).trans ((gtr_yes (len + m) cap (by omega) _).trans ?_)
    refine (runOps_nil ..).trans ?_
    refine (den_condT rfl).trans ?_
    refine (den_seq ..).trans ?_
    refine (den_reg ..).trans ?_
    refine (runOps_cons ..).trans ?_
    refine (step_mv ..).trans ?_
    refine (runOps_cons ..).trans ?_
    refine (step_mv ..).trans ?_
    refine (runOps_cons ..).trans ?_
    refine (stepE (by intro f as h; cases h) (fun K => sll_hi (b := b) (o := off) (n := len) (c := cap) (h := i) rfl rfl (by omega) K) _).trans ?_
    refine (runOps_cons ..).trans ?_
    refine (step_mv ..).trans ?_
    refine (runOps_cons ..).trans ?_
    refine (step_mv ..).trans ?_
    refine (runOps_cons ..).trans ?_
    refine (step_bin ..).trans ((add_i64 len m (by omega) 0 _ _).trans ?_)
    refine (runOps_cons ..).trans ?_
    refine (step_mv ..).trans ?_
    refine (runOps_cons ..).trans ?_
    refine (step_bin ..).trans ((sub_i64 (len + m) i (by omega) (by omega) _).trans ?_)
    refine (runOps_cons ..).trans ?_
    refine (stepE (by intro f as h; cases h) (fun K => app_make (b := b) (o := off) (n := i) (c := cap) (m := len + m - i) (q := len + m) rfl rfl (by omega) (by omega) (by omega) (by omega) hA (by omega) K) _).trans ?_
    refine (runOps_cons ..).trans ?_
    refine (step_mv ..).trans ?_
    refine (runOps_nil ..).trans ?_
    refine (den_seq ..).trans ?_
    refine (den_reg ..).trans ?_
    refine (runOps_cons ..).trans ?_
    refine (step_mv ..).trans ?_
    refine (runOps_cons ..).trans ?_
    refine (step_mv ..).trans ?_
    refine (runOps_cons ..).trans ?_
    refine (stepE (by intro f as h; cases h) (fun K => sll_u0 (b := H.n) (n := len + m) (l := i) rfl rfl (get_new_here ..) (by omega) (by rw [L0]; omega) (by rw [L0]; omega) K) _).trans ?_
    refine (runOps_cons ..).trans ?_
    refine (step_mv ..).trans ?_
    refine (runOps_cons ..).trans ?_
    refine (stepE (by intro f as h; cases h) (fun K => copy_new (o := i) (n := len + m - i) (m := m) (q := m) rfl rfl (Nat.min_eq_left (by omega)) (cells_slc (b := vb) (o := vo) (n := m) (c := vc) (get_new_old hV hvn) (by omega)) (by rw [L0]; omega) K) _).trans ?_
    refine (runOps_nil ..).trans ?_
    refine (den_seq ..).trans ?_
    refine (den_dreg ..).trans ?_
    refine (runD_run ..).trans ?_
    refine (step_mv ..).trans ?_
    refine (runD_run ..).trans ?_
    refine (step_mv ..).trans ?_
    refine (runD_run ..).trans ?_
    refine (step_mv ..).trans ?_
    refine (runD_run ..).trans ?_
    refine (step_bin ..).trans ((add_i64 i m (by omega) 0 _ _).trans ?_)
    refine (runD_run ..).trans ?_
    refine (stepE (by intro f as h; cases h) (fun K => sll_u0 (b := H.n) (n := len + m) (l := i + m) rfl rfl (get_new_here ..) (by omega) (by rw [L1]; omega) (by rw [L1]; omega) K) _).trans ?_
    refine (runD_run ..).trans ?_
    refine (step_mv ..).trans ?_
    refine (runD_run ..).trans ?_
    refine (step_mv ..).trans ?_
    refine (runD_run ..).trans ?_
    refine (stepE (by intro f as h; cases h) (fun K => sll_lo (b := b) (o := off) (n := len) (c := cap) (l := i) rfl rfl (by omega) hlc (by omega) K) _).trans ?_
    refine (runD_nil ..).trans ?_
    refine (runS_cons ..).trans ?_
    refine (stepE (by intro f as h; cases h) (fun K => copy_new (o := i + m) (n := len + m - (i + m)) (m := len - i) (q := len - i) rfl rfl (Nat.min_eq_left (by omega)) (cells_slc (b := b) (o := off + i) (n := len - i) (c := cap - i) (get_new_old hA hbn) (by omega)) (by rw [L1]; omega) K) _).trans ?_
    refine (runD_nil ..).trans ?_
    refine (runS_nil ..).trans ?_
    refine (den_seq ..).trans ?_
    refine (den_reg ..).trans ?_
    refine (runOps_cons ..).trans ?_
    refine (step_mv ..).trans ?_
    refine (runOps_cons ..).trans ?_
    refine (step_mv ..).trans ?_
    refine (runOps_nil ..).trans ?_
    refine (den_ret ..).trans ?_
    rfl

/-! ### the insertion where there is room -/
theorem ins_here {tbl : Nat → Option FT} {f ov st : Nat} (hf : tbl f = some (.code (insIR ov st))) {b off len cap i vb vo m vc : Nat} {H : AH} {A V : Rp AV} {sa sv rv : Bool} (k : AV → AH → Bool)
    (hov : ∀ (H : AH) (x y : AV) (K : AV → AH → Bool), x = .slc vb vo m vc → y = .slc b (off + (i + m)) (len + m - (i + m)) (cap - (i + m)) → H.get b = some (.cells A sa false) → H.get vb = some (.cells V sv rv) → cl (.fn (.fn (.func ov)) [] []) [x, y] H K = K (.bool false) H)
    (hA : H.get b = some (.cells A sa false)) (hV : H.get vb = some (.cells V sv rv)) (hne : vb ≠ b) (hAo : A.ok) (hVo : V.ok)
    (hi : i < len) (hm : 1 ≤ m) (hlc : len ≤ cap) (hcap : len + m ≤ cap) (hAl : off + cap ≤ A.toL.length) (hVl : vo + m ≤ V.toL.length) (hr : (2 * (len + m) + 200) * 16 ≤ 140737488355328) :
    ∃ R : Rp AV, R.ok ∧ R.toL.length = A.toL.length ∧ (R.toL.drop off).take (len + m) = (A.toL.drop off).take i ++ (V.toL.drop vo).take m ++ (A.toL.drop (off + i)).take (len - i) ∧
    ∃ H', (∀ c, H'.get c = if c = b then some (.cells R sa false) else H.get c) ∧ H'.n = H.n ∧ callF tbl cl N f [.slc b off len cap, .int .i64 (.ofNat i), .slc vb vo m vc] H k = k (.slc b off (len + m) cap) H' := by
  have hAl' : A.len = A.toL.length := Rp.len_eq A hAo
  have hVl' : V.len = V.toL.length := Rp.len_eq V hVo
  obtain ⟨o3, e3⟩ := Rp.sub_spec V vo m hVo
  obtain ⟨o5, e5⟩ := Rp.sub_spec A (off + i) (len - i) hAo
  obtain ⟨o4, e4⟩ := Rp.put_spec A (off + (i + m)) (len - i) (A.sub (off + i) (len - i)) hAo o5 (by rw [e5]; simp; omega) (by omega)
  have l1 : (A.put (off + (i + m)) (len - i) (A.sub (off + i) (len - i))).toL.length = A.toL.length := by rw [e4]; simp [e5]; omega
  have M0 : (A.put (off + (i + m)) (len - i) (A.sub (off + i) (len - i))).len = A.toL.length := by rw [Rp.len_eq _ o4, l1]
  obtain ⟨o6, e6⟩ := Rp.put_spec _ (off + i) m (V.sub vo m) o4 o3 (by rw [e3]; simp; omega) (by rw [l1]; omega)
  refine ⟨_, o6, ?_, ?_, (H.set b (.cells (A.put (off + (i + m)) (len - i) (A.sub (off + i) (len - i))) sa false)).set b (.cells ((A.put (off + (i + m)) (len - i) (A.sub (off + i) (len - i))).put (off + i) m (V.sub vo m)) sa false), fun c => ?_, rfl, ?_⟩
  · rw [e6]; simp [e3, l1]; omega
  · rw [e6, e3, e4, e5]
    exact ins_list2 (by omega) (by omega) (by omega) hi
  rotate_left 1
  · unfold callF
    rw [hf]
    show den cl N none (insIR ov st).body _ _ _ _ = _
    unfold insIR
    refine (den_seq ..).trans ?_
    refine (den_reg ..).trans ?_
    refine (runOps_cons ..).trans ?_
    refine (step_mv ..).trans ?_
    refine (runOps_nil ..).trans ?_
    refine (den_seq ..).trans ?_
    refine (den_reg ..).trans ?_
    refine (runOps_cons ..).trans ?_
    refine (step_mv ..).trans ?_
    refine (runOps_cons ..).trans ?_
    refine (step_mv ..).trans ?_
    refine (runOps_cons ..).trans ?_
    refine (stepE (by intro f as h; cases h) (fun K => sll_lo (b := b) (o := off) (n := len) (c := cap) (l := i) rfl rfl (by omega) hlc (by omega) K) _).trans ?_
    refine (runOps_nil ..).trans ?_
    refine (den_seq ..).trans ?_
    refine (den_reg ..).trans ?_
    refine (runOps_cons ..).trans ?_
    refine (step_mv ..).trans ?_
    refine (runOps_cons ..).trans ?_
    refine (stepE (by intro f as h; cases h) (fun K => len_slc (b := vb) (o := vo) (n := m) (c := vc) rfl K) _).trans ?_
    refine (runOps_cons ..).trans ?_
    refine (step_mv ..).trans ?_
    refine (runOps_nil ..).trans ?_
    refine (den_seq ..).trans ?_
    refine (den_seq ..).trans ?_
    refine (den_reg ..).trans ?_
    refine (runOps_cons ..).trans ?_
    refine (step_mv ..).trans ?_
    refine (runOps_cons ..).trans ?_
    refine (step_bin ..).trans ((eql_zero m (by omega) _).trans ?_)
    refine (runOps_nil ..).trans ?_
    refine (den_condF rfl).trans ?_
    refine (den_skip ..).trans ?_
    refine (den_seq ..).trans ?_
    refine (den_reg ..).trans ?_
    refine (runOps_cons ..).trans ?_
    refine (step_mv ..).trans ?_
    refine (runOps_cons ..).trans ?_
    refine (stepE (by intro f as h; cases h) (fun K => len_slc (b := b) (o := off) (n := len) (c := cap) rfl K) _).trans ?_
    refine (runOps_cons ..).trans ?_
    refine (step_mv ..).trans ?_
    refine (runOps_nil ..).trans ?_
    refine (den_seq ..).trans ?_
    refine (den_seq ..).trans ?_
    refine (den_reg ..).trans ?_
    refine (runOps_cons ..).trans ?_
    refine (step_mv ..).trans ?_
    refine (runOps_cons ..).trans ?_
    refine (step_mv ..).trans ?_
    refine (runOps_cons ..).trans ?_
    refine (step_bin ..).trans ((eql_not i len (by omega) _).trans ?_)
    refine (runOps_nil ..).trans ?_
    refine (den_condF rfl).trans ?_
    refine (den_skip ..).trans ?_
    refine (den_seq ..).trans ?_
    refine (den_seq ..).trans ?_
    refine (den_reg ..).trans ?_
    refine (runOps_cons ..).trans ?_
    refine (step_mv ..).trans ?_
    refine (runOps_cons ..).trans ?_
    refine (step_mv ..).trans ?_
    refine (runOps_cons ..).trans ?_
    refine (step_bin ..).trans ((add_i64 len m (by omega) 0 _ _).trans ?_)
    refine (runOps_cons ..).trans ?_
    refine (step_mv ..).trans ?_
    refine (runOps_cons ..).trans ?_
    refine (stepE (by intro f as h; cases h) (fun K => cap_slc (b := b) (o := off) (n := len) (c := cap) rfl K) _).trans ?_
    refine (runOps_cons ..).trans ?_
    refine (step_bin ..).trans ((gtr_no (len + m) cap (by omega) _).trans ?_)
    refine (runOps_nil ..).trans ?_
    refine (den_condF rfl).trans ?_
    refine (den_skip ..).trans ?_
    refine (den_seq ..).trans ?_
    refine (den_reg ..).trans ?_
    refine (runOps_cons ..).trans ?_
    refine (step_mv ..).trans ?_
    refine (runOps_cons ..).trans ?_
    refine (step_mv ..).trans ?_
    refine (runOps_cons ..).trans ?_
    refine (step_mv ..).trans ?_
    refine (runOps_cons ..).trans ?_
    refine (step_bin ..).trans ((add_i64 len m (by omega) 0 _ _).trans ?_)
    refine (runOps_cons ..).trans ?_
    refine (stepE (by intro f as h; cases h) (fun K => sll_hi (b := b) (o := off) (n := len) (c := cap) (h := len + m) rfl rfl (by omega) K) _).trans ?_
    refine (runOps_cons ..).trans ?_
    refine (step_mv ..).trans ?_
    refine (runOps_nil ..).trans ?_
    refine (den_seq ..).trans ?_
    refine (den_seq ..).trans ?_
    refine (den_reg ..).trans ?_
    refine (runOps_cons ..).trans ?_
    refine (step_mv ..).trans ?_
    refine (runOps_cons ..).trans ?_
    refine (step_mv ..).trans ?_
    refine (runOps_cons ..).trans ?_
    refine (step_mv ..).trans ?_
    refine (runOps_cons ..).trans ?_
    refine (step_mv ..).trans ?_
    refine (runOps_cons ..).trans ?_
    refine (step_bin ..).trans ((add_i64 i m (by omega) 0 _ _).trans ?_)
    refine (runOps_cons ..).trans ?_
    refine (stepE (by intro f as h; cases h) (fun K => sll_lo (b := b) (o := off) (n := len + m) (c := cap) (l := i + m) rfl rfl (by omega) (by omega) (by omega) K) _).trans ?_
    refine (runOps_cons ..).trans ?_
    refine (step_call ..).trans ((hov _ _ _ _ rfl rfl hA hV).trans ?_)
    refine (runOps_cons ..).trans ?_
    refine (stepE (by intro f as h; cases h) (fun K => not_b (b := false) rfl K) _).trans ?_
    refine (runOps_nil ..).trans ?_
    refine (den_condT rfl).trans ?_
    refine (den_seq ..).trans ?_
    refine (den_dreg ..).trans ?_
    refine (runD_run ..).trans ?_
    refine (step_mv ..).trans ?_
    refine (runD_run ..).trans ?_
    refine (step_mv ..).trans ?_
    refine (runD_run ..).trans ?_
    refine (step_mv ..).trans ?_
    refine (runD_run ..).trans ?_
    refine (step_bin ..).trans ((add_i64 i m (by omega) 0 _ _).trans ?_)
    refine (runD_run ..).trans ?_
    refine (stepE (by intro f as h; cases h) (fun K => sll_lo (b := b) (o := off) (n := len + m) (c := cap) (l := i + m) rfl rfl (by omega) (by omega) (by omega) K) _).trans ?_
    refine (runD_run ..).trans ?_
    refine (step_mv ..).trans ?_
    refine (runD_run ..).trans ?_
    refine (step_mv ..).trans ?_
    refine (runD_run ..).trans ?_
    refine (stepE (by intro f as h; cases h) (fun K => sll_lo (b := b) (o := off) (n := len + m) (c := cap) (l := i) rfl rfl (by omega) (by omega) (by omega) K) _).trans ?_
    refine (runD_nil ..).trans ?_
    refine (runS_cons ..).trans ?_
    refine (stepE (by intro f as h; cases h) (fun K => copy_s (o := off + (i + m)) (n := len + m - (i + m)) (m := len + m - i) (q := len - i) rfl rfl (show min (len + m - i) (len + m - (i + m)) = len - i by omega) (cells_slc (b := b) (o := off + i) (n := len + m - i) (c := cap - i) hA (by omega)) hA (by omega) K) _).trans ?_
    refine (runD_nil ..).trans ?_
    refine (runS_nil ..).trans ?_
    refine (den_seq ..).trans ?_
    refine (den_reg ..).trans ?_
    refine (runOps_cons ..).trans ?_
    refine (step_mv ..).trans ?_
    refine (runOps_cons ..).trans ?_
    refine (step_mv ..).trans ?_
    refine (runOps_cons ..).trans ?_
    refine (stepE (by intro f as h; cases h) (fun K => sll_lo (b := b) (o := off) (n := len + m) (c := cap) (l := i) rfl rfl (by omega) (by omega) (by omega) K) _).trans ?_
    refine (runOps_cons ..).trans ?_
    refine (step_mv ..).trans ?_
    refine (runOps_cons ..).trans ?_
    refine (stepE (by intro f as h; cases h) (fun K => copy_s (o := off + i) (n := len + m - i) (m := m) (q := m) rfl rfl (Nat.min_eq_left (by omega)) (cells_slc (b := vb) (o := vo) (n := m) (c := vc) (get_set_other hV hne) (by omega)) (get_set_here ..) (by rw [M0]; omega) K) _).trans ?_
    refine (runOps_nil ..).trans ?_
    refine (den_seq ..).trans ?_
    refine (den_reg ..).trans ?_
    refine (runOps_cons ..).trans ?_
    refine (step_mv ..).trans ?_
    refine (runOps_cons ..).trans ?_
    refine (step_mv ..).trans ?_
    refine (runOps_nil ..).trans ?_
    refine (den_ret ..).trans ?_
    rfl
  · rw [AH.get_set]
    by_cases hc : c = b
    · rw [if_pos hc, if_pos hc]
    · rw [if_neg hc, if_neg hc, AH.get_set, if_neg hc]
end

/-! ### the insertion at the end -/
section
variable (cl : Cl) (N : Nat)
theorem ins_end {tbl : Nat → Option FT} {f ov st : Nat} (hf : tbl f = some (.code (insIR ov st))) {s : AV} {n vb vo m vc : Nat} {H : AH} (k : AV → AH → Bool) (hm : 1 ≤ m)
    (hs : ∃ v, ∀ (env : Env) (K : AV → AH → Bool), lget env 10 = s → lget env 11 = .int .i64 (.ofNat n) → xop (.sll 1 (.tmp 10) (some (.tmp 11)) none none) env H K = K v H)
    (hl : ∀ (env : Env) (K : AV → AH → Bool), lget env 18 = s → xop (.len 1 (.tmp 18)) env H K = K (.int .i64 (.ofNat n)) H) :
    callF tbl cl N f [s, .int .i64 (.ofNat n), .slc vb vo m vc] H k = xapp 1 16 (.one (.str [])) false H s (.slc vb vo m vc) k := by
  obtain ⟨v12, hs⟩ := hs
  have heq : ∀ K : AV → Bool, bin .eql 0 H (.int .i64 (.ofNat n)) (.int .i64 (.ofNat n)) K = K (.bool true) := fun K => by
    show K (.bool (ieq (Int.ofNat n) (Int.ofNat n))) = _
    rw [ieq_eq, beq_self_eq_true]
  unfold callF
  rw [hf]
  show den cl N none (insIR ov st).body _ _ _ _ = _
  unfold insIR
  refine (den_seq ..).trans ?_
  refine (den_reg ..).trans ?_
  refine (runOps_cons ..).trans ?_
  refine (step_mv ..).trans ?_
  refine (runOps_nil ..).trans ?_
  refine (den_seq ..).trans ?_
  refine (den_reg ..).trans ?_
  refine (runOps_cons ..).trans ?_
  refine (step_mv ..).trans ?_
  refine (runOps_cons ..).trans ?_
  refine (step_mv ..).trans ?_
  refine (runOps_cons ..).trans ?_
  refine (stepE (by intro f as h; cases h) (fun K => (fun K => hs _ K rfl rfl) K) _).trans ?_
  refine (runOps_nil ..).trans ?_
  refine (den_seq ..).trans ?_
  refine (den_reg ..).trans ?_
  refine (runOps_cons ..).trans ?_
  refine (step_mv ..).trans ?_
  refine (runOps_cons ..).trans ?_
  refine (stepE (by intro f as h; cases h) (fun K => len_slc (b := vb) (o := vo) (n := m) (c := vc) rfl K) _).trans ?_
  refine (runOps_cons ..).trans ?_
  refine (step_mv ..).trans ?_
  refine (runOps_nil ..).trans ?_
  refine (den_seq ..).trans ?_
  refine (den_seq ..).trans ?_
  refine (den_reg ..).trans ?_
  refine (runOps_cons ..).trans ?_
  refine (step_mv ..).trans ?_
  refine (runOps_cons ..).trans ?_
  refine (step_bin ..).trans ((eql_zero m (by omega) _).trans ?_)
  refine (runOps_nil ..).trans ?_
  refine (den_condF rfl).trans ?_
  refine (den_skip ..).trans ?_
  refine (den_seq ..).trans ?_
  refine (den_reg ..).trans ?_
  refine (runOps_cons ..).trans ?_
  refine (step_mv ..).trans ?_
  refine (runOps_cons ..).trans ?_
  refine (stepE (by intro f as h; cases h) (fun K => (fun K => hl _ K rfl) K) _).trans ?_
  refine (runOps_cons ..).trans ?_
  refine (step_mv ..).trans ?_
  refine (runOps_nil ..).trans ?_
  refine (den_seq ..).trans ?_
  refine (den_seq ..).trans ?_
  refine (den_reg ..).trans ?_
  refine (runOps_cons ..).trans ?_
  refine (step_mv ..).trans ?_
  refine (runOps_cons ..).trans ?_
  refine (step_mv ..).trans ?_
  refine (runOps_cons ..).trans ?_
  refine (step_bin ..).trans ((heq _).trans ?_)
  refine (runOps_nil ..).trans ?_
  refine (den_condT rfl).trans ?_
  refine (den_seq ..).trans ?_
  refine (den_reg ..).trans ?_
  refine (runOps_cons ..).trans ?_
  refine (step_mv ..).trans ?_
  refine (runOps_cons ..).trans ?_
  refine (step_mv ..).trans ?_
  refine (runOps_cons ..).trans ?_
  refine Eq.trans (b := xapp 1 16 (.one (.str [])) false H s (.slc vb vo m vc) _) rfl ?_
  congr 1
end

/-! ### the library's insertion, given -/
def insIn (s : AV) (i : Nat) (v : AV) (H : AH) (k : AV → AH → Bool) : Bool := match s, v with
  | .slu b off len e, .slc vb vo m _ => cond (Nat.beq e 1) (cond (Nat.ble (Nat.succ i) len) (cond (Nat.ble 1 m) (gcell H b fun A sa ra => cond sa false (cond ra false (gcell H vb fun V sv _ => cond sv false (cond (Nat.beq vb b) false
      (cond (Nat.ble (off + len) A.len) (cond (Nat.ble (vo + m) V.len) (cond (Nat.ble ((2 * (len + m) + 200) * 16) 140737488355328)
        (anew (H.kill b) (.cells ((A.sub off i).app ((V.sub vo m).app (A.sub (off + i) (len - i)))) false false) fun nb H => k (.slu nb 0 (len + m) 1) H) false) false) false))))) false) false) false
  | _, _ => false
def endOf (s : AV) : Option Nat := match s with
  | .nils => some 0
  | .slc _ _ n _ => some n
  | .slu _ _ n _ => some n
  | .slz _ _ _ => some 0
  | _ => none
def insOn (args : List AV) (H : AH) (k : AV → AH → Bool) : Bool := match args with
  | [s, .int .i64 (.ofNat i), .slc vb vo m vc] => (match endOf s with
    | some n => cond (Nat.beq i n) (cond (Nat.ble 1 m) (xapp 1 16 (.one (.str [])) false H s (.slc vb vo m vc) k) false) (insIn s i (.slc vb vo m vc) H k)
    | none => false)
  | _ => false
theorem HR.weaken {P : Program} {base : Nat} {ι : Io} {H H2 : AH} {w : World} (h : HR P base ι H2 w) (hn : H.n = H2.n)
    (hs : ∀ b o, H.get b = some o → ∃ o2, H2.get b = some o2 ∧ ∀ L c, OR P base ι L o2 c → OR P base ι L o c) : HR P base ι H w := by
  refine ⟨fun b hb => h.fresh b (by omega), fun b o hb => ?_, h.bound, fun b b' o o' L L' hb hb' hL hL' e => ?_, fun b o L hb hL => ?_, h.below, h.gl⟩
  · obtain ⟨o2, g, _⟩ := hs b o hb
    rw [hn]; exact h.dom b o2 g
  · obtain ⟨o2, g, _⟩ := hs b o hb
    obtain ⟨o3, g', _⟩ := hs b' o' hb'
    exact h.inj b b' o2 o3 L L' g g' hL hL' e
  · obtain ⟨o2, g, hor⟩ := hs b o hb
    obtain ⟨c, hc, ho⟩ := h.obj b o2 L g hL
    exact ⟨c, hc, hor L c ho⟩
theorem OR.row {P : Program} {base : Nat} {ι : Io} {L : Loc} {R R' : Rp AV} {c : Obj} (h : OR P base ι L (.cells R false false) c) (ho : R'.ok) (he : R'.toL = R.toL) : OR P base ι L (.cells R' false false) c := by
  cases h with
  | cells _ _ _ c el fr ho' hz hl hc h1 hf hs hr => exact .cells R' false false c el fr ho hz (by rw [he]; exact hl) (by rw [he]; exact hc) (fun i hi _ => h1 i hi (.inl rfl)) (fun i hi _ => hf i hi (.inl rfl)) hs hr
theorem insRow {A V : Rp AV} {off i len vo m : Nat} (hA : A.ok) (hV : V.ok) :
    ((A.sub off i).app ((V.sub vo m).app (A.sub (off + i) (len - i)))).ok ∧ ((A.sub off i).app ((V.sub vo m).app (A.sub (off + i) (len - i)))).toL = (A.toL.drop off).take i ++ (V.toL.drop vo).take m ++ (A.toL.drop (off + i)).take (len - i) := by
  obtain ⟨o1, e1⟩ := Rp.sub_spec A off i hA
  obtain ⟨o2, e2⟩ := Rp.sub_spec V vo m hV
  obtain ⟨o3, e3⟩ := Rp.sub_spec A (off + i) (len - i) hA
  obtain ⟨o4, e4⟩ := Rp.app_spec _ _ o2 o3
  obtain ⟨o5, e5⟩ := Rp.app_spec _ _ o1 o4
  exact ⟨o5, by rw [e5, e4, e1, e2, e3, List.append_assoc]⟩
theorem insOn_sound {P : Program} (hmx : P.follows .mixedOrders = true) {f ov st : Nat} (hc : compF P f = some (.code (insIR ov st))) (hov : OvX P ov) : SumS P f insOn := by
  obtain ⟨fn, bd, hfn, hname, hbody, _, _⟩ := compF_inv hc
  have hne : f ≠ ov := fun e => by
    obtain ⟨fn', t, u, e', i, g1, g2, g3, _⟩ := hov
    rw [← e, hfn] at g1
    cases g1
    rw [hbody] at g3; cases g3
  have hT : TblS P (tblO P [(ov, .ext ovOn)]) := tblO_sound (.ext ov ovOn [] (ovOn_sound hov) .nil)
  have htf : tblO P [(ov, .ext ovOn)] f = some (.code (insIR ov st)) := by
    have : ovs [(ov, .ext ovOn)] f = none := by
      show @Bool.rec (fun _ => Option FT) none (some (.ext ovOn)) (Nat.beq f ov) = none
      rw [nbeq hne]
    unfold tblO
    rw [this]
    show tblC P f = _
    simp [tblC, hc]
  have hto : tblO P [(ov, .ext ovOn)] ov = some (.ext ovOn) := by
    have : ovs [(ov, .ext ovOn)] ov = some (.ext ovOn) := by
      show @Bool.rec (fun _ => Option FT) none (some (.ext ovOn)) (Nat.beq ov ov) = _
      rw [Nat.beq_refl]
    unfold tblO
    rw [this]
  have hcl := RUN_sound (N := 0) hT (fun cl hcl => dreg_sound hmx hcl) 1
  have sound : ∀ {base : Nat} {ι : Io} {H : AH} {w : World} {args : List AV} {cargs : Array Value} {k : AV → AH → Bool}, HR P base ι H w → rowR ι args cargs → callF (tblO P [(ov, .ext ovOn)]) (RUN (tblO P [(ov, .ext ovOn)]) 0 1) 0 f args H k = true → CallsIn Fence.wide 0 P f cargs w (EndR P base ι H w k) := fun hr ha h => by
    unfold callF at h
    rw [htf] at h
    exact code_sound hcl (dreg_sound hmx hcl) hc hr ha h
  refine ⟨run_enter hfn hname hbody, fun base ι H w args cargs k hr ha hg => ?_⟩
  unfold insOn at hg
  split at hg
  · rename_i s i vb vo m vc
    split at hg
    · rename_i n hend
      cases hin : Nat.beq i n with
      | true =>
        rw [hin] at hg
        obtain ⟨hm, hx⟩ := cond_true_inv hg
        have := Nat.eq_of_beq_eq_true hin
        subst this
        refine sound hr ha ?_
        have hm' := Nat.le_of_ble_eq_true hm
        have fin : (∃ v, ∀ (env : Env) (K : AV → AH → Bool), lget env 10 = s → lget env 11 = .int .i64 (.ofNat i) → xop (.sll 1 (.tmp 10) (some (.tmp 11)) none none) env H K = K v H) →
            (∀ (env : Env) (K : AV → AH → Bool), lget env 18 = s → xop (.len 1 (.tmp 18)) env H K = K (.int .i64 (.ofNat i)) H) → callF (tblO P [(ov, .ext ovOn)]) (RUN (tblO P [(ov, .ext ovOn)]) 0 1) 0 f [s, .int .i64 (.ofNat i), .slc vb vo m vc] H k = true := fun a b => by
          rw [ins_end _ 0 htf k hm' a b]; exact hx
        have hv0 := ha.2 0
        cases s <;> first | (cases hend; done) | skip
        · cases hend
          exact fin ⟨.nils, fun env K e1 e2 => by
            simp only [xop, ev_tmp, e1, cut3, isOd, e2, fN_eq, Nat.ble_eq_true_of_le (Nat.le_refl 0), cond_true]⟩ (fun env K e1 => by simp only [xop, ev_tmp, e1, srcLen])
        · rename_i b o _ c
          cases hend
          have hle : i ≤ c := by
            have hv : VR ι (.slc b o i c) (cargs.getD 0 Go.undef) := hv0
            generalize cargs.getD 0 Go.undef = c0 at hv
            cases hv
            assumption
          exact fin ⟨_, fun env K e1 e2 => by
            simp only [xop, ev_tmp, e1, cut3, isOd, e2, fN_eq, Nat.ble_eq_true_of_le (Nat.le_refl c), Nat.ble_eq_true_of_le (Nat.le_refl i), Nat.ble_eq_true_of_le hle, cond_true]
            rfl⟩ (fun env K e1 => by simp only [xop, ev_tmp, e1, srcLen])
        · rename_i b o _ e
          cases hend
          have hx' := hx
          simp only [xapp, appSrc, srcLen, srcCells] at hx'
          obtain ⟨V, sv, rv, hV, hx'⟩ := gcell_inv hx'
          obtain ⟨_, hx'⟩ := cond_true_inv hx'
          rw [nbeq (show m ≠ 0 by omega)] at hx'
          simp only [cond_false] at hx'
          obtain ⟨he, hx'⟩ := cond_true_inv hx'
          have he' := Nat.eq_of_beq_eq_true he
          subst he'
          obtain ⟨A, sa, ra, hA, hx'⟩ := gcell_inv hx'
          obtain ⟨_, hx'⟩ := cond_false_inv hx'
          have hlen : o + i ≤ A.len := by
            cases hb : Nat.ble (o + (i + m) * 1) A.len with
            | true => have := Nat.le_of_ble_eq_true hb; omega
            | false =>
              rw [hb] at hx'
              simp only [cond_false] at hx'
              obtain ⟨_, hx'⟩ := cond_true_inv hx'
              obtain ⟨hz, _⟩ := cond_true_inv hx'
              have := Nat.le_of_ble_eq_true hz
              omega
          refine fin ⟨cond (Nat.beq (A.len - o) i) (.slz b (o + i * 1) 1) (.slu b (o + i * 1) (i - i) 1), fun env K e1 e2 => ?_⟩ (fun env K e1 => by simp only [xop, ev_tmp, e1, srcLen])
          simp only [xop, ev_tmp, e1, Nat.beq_refl, cond_true, gcell, hA, cut3, isOd, e2, fN_eq, Nat.div_one, Nat.ble_eq_true_of_le (Nat.le_refl i), Nat.ble_eq_true_of_le (Nat.le_refl (A.len - o)), Nat.ble_eq_true_of_le (show i ≤ A.len - o by omega)]
          cases Nat.beq (A.len - o) i <;> rfl
        · rename_i b o e
          cases hend
          exact fin ⟨_, fun env K e1 e2 => by
            simp only [xop, ev_tmp, e1, cut3, isOd, e2, fN_eq, Nat.ble_eq_true_of_le (Nat.le_refl 0), cond_true]
            rfl⟩ (fun env K e1 => by simp only [xop, ev_tmp, e1, srcLen])
      | false =>
        rw [hin] at hg
        have hg' : insIn s i (.slc vb vo m vc) H k = true := hg
        unfold insIn at hg'
        split at hg'
        · rename_i b off len e vb' vo' m' vc' heq
          cases heq
          obtain ⟨he, hq0⟩ := cond_true_inv hg'
          have := Nat.eq_of_beq_eq_true he
          subst this
          obtain ⟨hi, hq1⟩ := cond_true_inv hq0
          have hi := Nat.le_of_ble_eq_true hi
          obtain ⟨hm, hq2⟩ := cond_true_inv hq1
          have hm := Nat.le_of_ble_eq_true hm
          obtain ⟨A, sa, ra, hA, hq3⟩ := gcell_inv hq2
          obtain ⟨hsa, hq4⟩ := cond_false_inv hq3
          subst hsa
          obtain ⟨hra, hq5⟩ := cond_false_inv hq4
          subst hra
          obtain ⟨V, sv, rv, hV, hq6⟩ := gcell_inv hq5
          obtain ⟨hsv, hq7⟩ := cond_false_inv hq6
          subst hsv
          obtain ⟨hvb, hq8⟩ := cond_false_inv hq7
          have hvb : vb ≠ b := fun e => by rw [e, Nat.beq_refl] at hvb; cases hvb
          obtain ⟨hAl, hq9⟩ := cond_true_inv hq8
          have hAl := Nat.le_of_ble_eq_true hAl
          obtain ⟨hVl, hq10⟩ := cond_true_inv hq9
          have hVl := Nat.le_of_ble_eq_true hVl
          obtain ⟨hro, hq11⟩ := cond_true_inv hq10
          have hro := Nat.le_of_ble_eq_true hro
          rw [anew_eq] at hq11
          -- the world's row, as long as it is
          have hv0 : VR ι (.slu b off len 1) (cargs.getD 0 Go.undef) := ha.2 0
          have hv2 : VR ι (.slc vb vo m vc) (cargs.getD 2 Go.undef) := ha.2 2
          generalize hc0 : cargs.getD 0 Go.undef = c0 at hv0
          cases hv0 with
          | slu _ _ _ _ cap L hL hle he0 hcap =>
          obtain ⟨cc, el, fr, hw, hor⟩ := hr.cells hA hL
          obtain ⟨LV, hLV⟩ : ∃ L, ι vb = some L := by
            generalize cargs.getD 2 Go.undef = c2 at hv2
            cases hv2
            exact ⟨_, by assumption⟩
          obtain ⟨cv, elv, frv, hwv, horv⟩ := hr.cells hV hLV
          have hVok : V.ok := by cases horv; assumption
          have horA := hor
          cases horA with
          | cells _ _ _ _ _ _ hok hz hl hcells h1 hf hs hrb =>
          have hbase : base ≤ L.blk := hrb rfl
          rw [Rp.len_eq A hok] at hAl
          rw [Rp.len_eq V hVok] at hVl
          obtain ⟨oP, eP⟩ := Rp.app_spec A (.rep (L.sz - L.sh - A.toL.length) .undef) hok trivial
          have lP : (A.app (.rep (L.sz - L.sh - A.toL.length) .undef)).toL.length = L.sz - L.sh := by rw [eP]; simp; omega
          have horP : OR P base ι L (.cells (A.app (.rep (L.sz - L.sh - A.toL.length) .undef)) false false) (.cells cc el fr) := by
            refine .cells _ false false cc el fr oP hz (by rw [lP]; omega) (fun j hj => ?_) (fun i hi _ => h1 i hi (.inl rfl)) (fun i hi _ => hf i hi (.inl rfl)) hs hrb
            rw [eP, List.getD_eq_getElem?_getD, List.getElem?_append]
            by_cases hjl : j < A.toL.length
            · rw [if_pos hjl, ← List.getD_eq_getElem?_getD]; exact hcells j hjl
            · rw [if_neg hjl, Rp.toL_rep, List.getElem?_replicate]
              split <;> exact .undef _
          have hrP : HR P base ι (H.set b (.cells (A.app (.rep (L.sz - L.sh - A.toL.length) .undef)) false false)) w := hr.upd hA hL (Up.refl w L.blk _ hw) horP hbase
          generalize hAP : A.app (.rep (L.sz - L.sh - A.toL.length) .undef) = AP at *
          have hAset := get_set_here H b (.cells AP false false)
          have hVset := get_set_other (o' := .cells AP false false) hV hvb
          have hdropA : ∀ d n, d + n ≤ A.toL.length → (AP.toL.drop d).take n = (A.toL.drop d).take n := fun d n hd => by
            rw [eP, List.drop_append_of_le_length (by omega), List.take_append_of_le_length (by simp; omega)]
          have ha' : rowR ι [.slc b off len cap, .int .i64 (.ofNat i), .slc vb vo m vc] cargs := by
            refine ⟨ha.1, fun j => ?_⟩
            match j with
            | 0 => show VR ι (.slc b off len cap) (cargs.getD 0 Go.undef); rw [hc0]; exact .slc b off len cap L hL hle
            | 1 => exact ha.2 1
            | 2 => exact ha.2 2
            | j + 3 =>
              have := ha.2 (j + 3)
              simpa using this
          obtain ⟨oR, eR⟩ := insRow (off := off) (i := i) (len := len) (vo := vo) (m := m) hok hVok
          generalize hRR : (A.sub off i).app ((V.sub vo m).app (A.sub (off + i) (len - i))) = RR at *
          have nset : (H.set b (.cells AP false false)).n = H.n := rfl
          have hbn : b < H.n := hr.dom _ _ hA
          have hvn : vb < H.n := hr.dom _ _ hV
          classical
          by_cases hroom : cap < len + m
          · obtain ⟨R, oRR, eRR, hcall⟩ := ins_away (RUN (tblO P [(ov, .ext ovOn)]) 0 1) 0 htf (b := b) (off := off) (len := len) (cap := cap) (i := i) (vb := vb) (vo := vo) (m := m) (vc := vc) (fun v H' => decide (v = .slu H.n 0 (len + m) 1 ∧ ∃ R : Rp AV, R.ok ∧ R.toL = RR.toL ∧ H' = (H.set b (.cells AP false false)).new (.cells R false false)))
              hAset hVset hbn hvn oP hVok (by omega) hm hle hroom (by rw [lP]; omega) (by omega) (by omega)
            have hend := sound hrP ha' (by
              rw [hcall]
              refine decide_eq_true ⟨rfl, R, oRR, ?_, rfl⟩
              rw [eRR, eR, hdropA _ _ (by omega), hdropA _ _ (by omega)])
            refine CallsIn.mono hend ?_
            rintro e w' ⟨cv2, v, H', ι', rfl, hnx, hv, hk⟩
            have hk := of_decide_eq_true hk
            obtain ⟨rfl, R, oRR, eRR, rfl⟩ := hk
            have sub : ∀ (c : Nat) (o : AObj), ((H.kill b).new (.cells RR false false)).get c = some o → ∃ o2, ((H.set b (.cells AP false false)).new (.cells R false false)).get c = some o2 ∧ ∀ L c', OR P base ι' L o2 c' → OR P base ι' L o c' := fun c o hco => by
              rw [AH.get_new, AH.n_kill, AH.get_kill] at hco
              rw [AH.get_new, AH.n_set, AH.get_set]
              by_cases h1 : c = H.n
              · rw [if_pos h1] at hco ⊢
                cases hco
                exact ⟨_, rfl, fun L c' h => h.row oR eRR.symm⟩
              · rw [if_neg h1] at hco ⊢
                by_cases h2 : c = b
                · rw [if_pos h2] at hco; cases hco
                · rw [if_neg h2] at hco ⊢
                  exact ⟨o, hco, fun L c' h => h⟩
            refine ⟨cv2, _, (H.kill b).new (.cells RR false false), ι', rfl, ⟨hnx.le, hnx.hr.weaken rfl sub, fun c hcn hcι => ?_, ?_, hnx.below⟩, hv, hq11⟩
            · obtain ⟨s1, s2⟩ := hnx.stay c hcn hcι
              refine ⟨s1, ?_⟩
              have hcb : c ≠ b := fun e => by rw [e, hL] at hcι; cases hcι
              rw [AH.get_new, AH.n_kill, if_neg (by omega), AH.get_kill, if_neg hcb]
            · show H.n ≤ H.n + 1
              omega
          · have hov' : ∀ (H : AH) (x y : AV) (K : AV → AH → Bool), x = .slc vb vo m vc → y = .slc b (off + (i + m)) (len + m - (i + m)) (cap - (i + m)) → H.get b = some (.cells AP false false) → H.get vb = some (.cells V false rv) →
                RUN (tblO P [(ov, .ext ovOn)]) 0 1 (.fn (.fn (.func ov)) [] []) [x, y] H K = K (.bool false) H := fun H x y K hx hy g1 g2 => by
              show callF (tblO P [(ov, .ext ovOn)]) (RUN (tblO P [(ov, .ext ovOn)]) 0 0) 0 ov ([] ++ [x, y] ++ []) H K = _
              unfold callF
              rw [hto]
              subst hx
              subst hy
              show ovOn [.slc vb vo m vc, .slc b _ _ _] H K = _
              have hl1 : Nat.ble 1 AP.len = true := Nat.ble_eq_true_of_le (by rw [Rp.len_eq AP oP, lP]; omega)
              simp only [ovOn, nbeq hvb, gcell, g1, g2, cond_false, hl1, cond_true]
            obtain ⟨R, oRR, lRR, eRR, H2, g2, n2, hcall⟩ := ins_here (RUN (tblO P [(ov, .ext ovOn)]) 0 1) 0 htf (b := b) (off := off) (len := len) (cap := cap) (i := i) (vb := vb) (vo := vo) (m := m) (vc := vc) (fun v H' => decide (v = .slc b off (len + m) cap ∧ ∃ R : Rp AV, R.ok ∧ R.toL.length = AP.toL.length ∧ (R.toL.drop off).take (len + m) = RR.toL ∧ (∀ c, H'.get c = if c = b then some (.cells R false false) else H.get c) ∧ H'.n = H.n))
              hov' hAset hVset hvb oP hVok (by omega) hm hle (by omega) (by rw [lP]; omega) (by omega) (by omega)
            have hend := sound hrP ha' (by
              rw [hcall]
              refine decide_eq_true ⟨rfl, R, oRR, lRR, ?_, fun c => ?_, n2⟩
              · rw [eRR, eR, hdropA _ _ (by omega), hdropA _ _ (by omega)]
              · rw [g2 c, AH.get_set]
                by_cases h : c = b
                · rw [if_pos h, if_pos h]
                · rw [if_neg h, if_neg h, if_neg h])
            refine CallsIn.mono hend ?_
            rintro e w' ⟨cv2, v, H', ι', rfl, hnx, hv, hk⟩
            have hk := of_decide_eq_true hk
            obtain ⟨rfl, R, oRR, lRR, eRR, gH, nH⟩ := hk
            have hL' : ι' b = some L := hnx.le _ _ hL
            have hRb : H'.get b = some (.cells R false false) := by rw [gH b, if_pos rfl]
            obtain ⟨c2, el2, fr2, hw2, hor2⟩ := hnx.hr.cells hRb hL'
            have hcv : cv2 = .slice (some ⟨L.blk, L.sh + off, none⟩) (len + m) cap := by
              cases hv with
              | slc _ _ _ _ L2 hL2 _ => rw [hL'] at hL2; cases hL2; rfl
            have hfree : ι' H'.n = none := hnx.hr.fresh _ (Nat.le_refl _)
            have hle2 := Io.ext_le ι' H'.n ⟨L.blk, L.sh + off, L.sz⟩ hfree
            have horN : OR P base (ι'.ext H'.n ⟨L.blk, L.sh + off, L.sz⟩) ⟨L.blk, L.sh + off, L.sz⟩ (.cells RR false false) (.cells c2 el2 fr2) := by
              cases hor2 with
              | cells _ _ _ _ _ _ q1 q2 q3 q4 q5 q6 q7 q8 =>
              have lR : RR.toL.length = len + m := by rw [← eRR]; simp; omega
              refine .cells RR false false c2 el2 fr2 oR q2 (by show L.sh + off + RR.toL.length ≤ L.sz; omega) (fun j hj => ?_) (fun i hi _ => q5 i hi (.inl rfl)) (fun i hi _ => q6 i hi (.inl rfl)) q7 (fun _ => hbase)
              have := (q4 (off + j) (by omega)).mono hle2
              rw [← eRR, List.getD_eq_getElem?_getD, List.getElem?_take_of_lt (by omega), List.getElem?_drop, ← List.getD_eq_getElem?_getD]
              show VR _ _ (c2.getD (L.sh + off + j) Go.undef)
              rw [Nat.add_assoc]
              exact this
            have hmv := hnx.hr.move (o' := .cells RR false false) (L' := ⟨L.blk, L.sh + off, L.sz⟩) hRb hL' rfl (Up.refl w' L.blk _ hw2) horN hbase
            have sub : ∀ (c : Nat) (o : AObj), ((H.kill b).new (.cells RR false false)).get c = some o → ∃ o2, ((H'.kill b).new (.cells RR false false)).get c = some o2 ∧ ∀ L2 c', OR P base (ι'.ext H'.n ⟨L.blk, L.sh + off, L.sz⟩) L2 o2 c' → OR P base (ι'.ext H'.n ⟨L.blk, L.sh + off, L.sz⟩) L2 o c' := fun c o hco => by
              rw [AH.get_new, AH.n_kill, AH.get_kill] at hco
              rw [AH.get_new, AH.n_kill, AH.get_kill, nH, gH c]
              by_cases h1 : c = H.n
              · rw [if_pos h1] at hco ⊢
                exact ⟨o, hco, fun L c' h => h⟩
              · rw [if_neg h1] at hco ⊢
                by_cases h2 : c = b
                · rw [if_pos h2] at hco; cases hco
                · rw [if_neg h2] at hco ⊢
                  rw [if_neg h2]
                  exact ⟨o, hco, fun L c' h => h⟩
            refine ⟨cv2, .slu H.n 0 (len + m) 1, (H.kill b).new (.cells RR false false), ι'.ext H'.n ⟨L.blk, L.sh + off, L.sz⟩, rfl, ⟨Io.le_trans hnx.le hle2, hmv.hr.weaken (by show H.n + 1 = H'.n + 1; rw [nH]) sub, fun c hcn hcι => ?_, ?_, hnx.below⟩, ?_, hq11⟩
            · obtain ⟨s1, s2⟩ := hnx.stay c hcn hcι
              have hcb : c ≠ b := fun e => by rw [e, hL] at hcι; cases hcι
              refine ⟨?_, ?_⟩
              · unfold Io.ext
                rw [if_neg (by omega)]
                exact s1
              · rw [AH.get_new, AH.n_kill, if_neg (by omega), AH.get_kill, if_neg hcb]
            · show H.n ≤ H.n + 1
              omega
            · rw [hcv, ← nH]
              exact .slu _ 0 (len + m) 1 cap ⟨L.blk, L.sh + off, L.sz⟩ (Io.ext_self _ _ _) (by omega) (by omega) (by show L.sh + off + 0 + cap * 1 = L.sz; omega)
        · cases hg'
    · cases hg
  · cases hg
theorem ovx_mk {P : Program} {f : Nat} {fn : Func} {t u e : TypeId} (h1 : P.funcs[f]? = some fn) (h2 : (fn.name == "runtime.NumGoroutine") = false) (h3 : fn.body.isNone = true) (h4 : Extern.findNext fn = none) (h5 : Extern.find fn = some (Extern.SlicesOverlaps.overlaps #[t, t] #[u]))
    (h6 : P.underlying t = some (.slice e)) (h7 : (P.info? e).isSome = true) : OvX P f := by
  obtain ⟨i, hi⟩ := Option.isSome_iff_exists.1 h7
  exact ⟨fn, t, u, e, i, h1, h2, h3, h4, h5, h6, hi⟩
end
end Go.Jt
