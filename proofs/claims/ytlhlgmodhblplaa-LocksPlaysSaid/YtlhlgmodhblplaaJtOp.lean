/-
  More operations: bits, texts and bytes, rows of numbers compared, results out of cells, blocks whose rope is known.
-/
import Derived.Test.YtlhlgmodhblplaaJtSl
set_option autoImplicit false
set_option linter.all false
namespace Go.Jt
noncomputable section
variable [Gl]
section
variable {H : AH} {ek : Nat} {q s : IntKind}
theorem and_u64 (a : Nat) (h : a < 18446744073709551616) (K : AV → Bool) : bin .and ek H (.int .u64 (.ofNat a)) (.int .u64 (.ofNat 4294967295)) K = K (.int .u64 (.ofNat (a % 4294967296))) := by
  show fI (wrapF .u64 (Int.ofNat (Nat.land (a % 18446744073709551616) (4294967295 % 18446744073709551616)))) (fun z => K (.int .u64 z)) = _
  rw [fI_eq, Nat.mod_eq_of_lt h, show (4294967295 % 18446744073709551616 : Nat) = 2 ^ 32 - 1 from rfl, show Nat.land a (2 ^ 32 - 1) = a &&& (2 ^ 32 - 1) from rfl, Nat.and_two_pow_sub_one_eq_mod]
  show K (.int .u64 (Int.ofNat (a % 4294967296 % 18446744073709551616))) = _
  rw [Nat.mod_eq_of_lt (show a % 4294967296 < 18446744073709551616 by omega)]
theorem shl_nat (a n : Nat) {p : Nat} (hp : Nat.pow 2 (Nat.min n q.bits) = p) (hw : wrapF q (Int.ofNat (a * p)) = Int.ofNat (a * p)) (K : AV → Bool) : bin .shl ek H (.int q (.ofNat a)) (.int s (.ofNat n)) K = K (.int q (.ofNat (a * p))) := by
  subst hp
  show fN (Nat.min n q.bits) (fun m => fI (wrapF q (Int.ofNat a * Int.ofNat (Nat.pow 2 m))) fun z => K (.int q z)) = _
  rw [fN_eq, fI_eq, show Int.ofNat a * Int.ofNat (Nat.pow 2 (Nat.min n q.bits)) = Int.ofNat (a * Nat.pow 2 (Nat.min n q.bits)) from rfl, hw]
theorem lor_add {x y k : Nat} (hx : x % 2 ^ k = 0) (hy : y < 2 ^ k) : x ||| y = x + y := by
  have h := Nat.shiftLeft_add_eq_or_of_lt hy (x / 2 ^ k)
  rw [Nat.shiftLeft_eq, Nat.div_mul_cancel (Nat.dvd_of_mod_eq_zero hx)] at h
  exact h.symm
theorem or_u64 (x y k p : Nat) (hp : 2 ^ k = p) (hx : x % p = 0) (hy : y < p) (h : x + y < 18446744073709551616) (K : AV → Bool) : bin .or ek H (.int .u64 (.ofNat x)) (.int .u64 (.ofNat y)) K = K (.int .u64 (.ofNat (x + y))) := by
  subst hp
  show fI (wrapF .u64 (Int.ofNat (Nat.lor (x % 18446744073709551616) (y % 18446744073709551616)))) (fun z => K (.int .u64 z)) = _
  rw [fI_eq, Nat.mod_eq_of_lt (show x < _ by omega), Nat.mod_eq_of_lt (show y < _ by omega), show Nat.lor x y = x ||| y from rfl, lor_add hx hy]
  show K (.int .u64 (Int.ofNat ((x + y) % 18446744073709551616))) = _
  rw [Nat.mod_eq_of_lt h]
theorem or_i64 (x y k p : Nat) (hp : 2 ^ k = p) (hx : x % p = 0) (hy : y < p) (h : x + y ≤ 9223372036854775807) (K : AV → Bool) : bin .or ek H (.int .i64 (.ofNat x)) (.int .i64 (.ofNat y)) K = K (.int .i64 (.ofNat (x + y))) := by
  subst hp
  show fI (wrapF .i64 (Int.ofNat (Nat.lor (x % 18446744073709551616) (y % 18446744073709551616)))) (fun z => K (.int .i64 z)) = _
  rw [fI_eq, Nat.mod_eq_of_lt (show x < _ by omega), Nat.mod_eq_of_lt (show y < _ by omega), show Nat.lor x y = x ||| y from rfl, lor_add hx hy, wrap_i64 _ h]
theorem str_add {x y : List Nat} (h : x.length + y.length ≤ 9223372036854775807) (K : AV → Bool) : bin .add ek H (.str x) (.str y) K = K (.str (x ++ y)) := by
  show cond (Nat.ble (llen x 0 + llen y 0) 9223372036854775807) (K (.str (x ++ y))) false = _
  rw [llen_eq, llen_eq, Nat.ble_eq_true_of_le (by simpa using h)]
  rfl
end
/-! ### the order of texts -/
def sle (a b : List Nat) : Bool := slt a b || seq a b
theorem str_lss {H : AH} {ek : Nat} (x y : List Nat) (K : AV → Bool) : bin .lss ek H (.str x) (.str y) K = K (.bool (slt x y)) := rfl
theorem str_leq {H : AH} {ek : Nat} (x y : List Nat) (K : AV → Bool) : bin .leq ek H (.str x) (.str y) K = K (.bool (sle x y)) := rfl
theorem str_gtr {H : AH} {ek : Nat} (x y : List Nat) (K : AV → Bool) : bin .gtr ek H (.str x) (.str y) K = K (.bool (!(sle x y))) := rfl
theorem str_geq {H : AH} {ek : Nat} (x y : List Nat) (K : AV → Bool) : bin .geq ek H (.str x) (.str y) K = K (.bool (!(slt x y))) := rfl
theorem slt_nil (b : List Nat) : slt [] b = !b.isEmpty := by cases b <;> rfl
theorem slt_cons_nil (x : Nat) (a : List Nat) : slt (x :: a) [] = false := rfl
theorem slt_cons (x y : Nat) (a b : List Nat) : slt (x :: a) (y :: b) = (decide (x < y) || (decide (x = y) && slt a b)) := by
  show cond (Nat.ble (Nat.succ x) y) true (cond (Nat.beq x y) (slt a b) false) = _
  by_cases h : x < y
  · rw [Nat.ble_eq_true_of_le h, decide_eq_true h]; rfl
  · have e : Nat.ble (Nat.succ x) y = false := by
      cases hb : Nat.ble (Nat.succ x) y with
      | false => rfl
      | true => exact absurd (Nat.le_of_ble_eq_true hb) h
    rw [e, decide_eq_false h, cond_false, Bool.false_or]
    by_cases h2 : x = y
    · subst h2; rw [Nat.beq_refl]; simp
    · have e2 : Nat.beq x y = false := by
        cases hb : Nat.beq x y with
        | false => rfl
        | true => exact absurd (Nat.eq_of_beq_eq_true hb) h2
      rw [e2, decide_eq_false h2]; rfl
theorem slt_irrefl (a : List Nat) : slt a a = false := by
  induction a with
  | nil => rfl
  | cons x a ih => rw [slt_cons, ih]; simp
theorem slt_trans {a : List Nat} : ∀ {b c : List Nat}, slt a b = true → slt b c = true → slt a c = true := by
  induction a with
  | nil =>
    intro b c h1 h2
    cases c with
    | nil => cases b <;> simp [slt_cons_nil, slt_irrefl] at h2
    | cons z c => rfl
  | cons x a ih =>
    intro b c h1 h2
    cases b with
    | nil => cases h1
    | cons y b =>
      cases c with
      | nil => cases h2
      | cons z c =>
        rw [slt_cons] at h1 h2 ⊢
        simp only [Bool.or_eq_true, Bool.and_eq_true, decide_eq_true_eq] at h1 h2 ⊢
        rcases h1 with h1 | ⟨h1, h1'⟩ <;> rcases h2 with h2 | ⟨h2, h2'⟩
        · left; omega
        · left; omega
        · left; omega
        · right; exact ⟨by omega, ih h1' h2'⟩
theorem slt_total {a : List Nat} : ∀ {b : List Nat}, slt a b = false → slt b a = false → a = b := by
  induction a with
  | nil => intro b h1 h2; cases b with
    | nil => rfl
    | cons y b => cases h1
  | cons x a ih =>
    intro b h1 h2
    cases b with
    | nil => cases h2
    | cons y b =>
      rw [slt_cons] at h1 h2
      simp only [Bool.or_eq_false_iff, Bool.and_eq_false_iff, decide_eq_false_iff_not] at h1 h2
      have e : x = y := by omega
      subst e
      rw [ih (h1.2.resolve_left (fun h => h rfl)) (h2.2.resolve_left (fun h => h rfl))]
theorem sle_iff {a b : List Nat} : sle a b = true ↔ slt a b = true ∨ a = b := by
  unfold sle
  rw [seq_eq]
  simp
theorem sle_not {a b : List Nat} : sle a b = false ↔ slt b a = true := by
  constructor
  · intro h
    cases hb : slt b a with
    | true => rfl
    | false =>
      have : sle a b = true := by
        rw [sle_iff]
        cases ha : slt a b with
        | true => left; rfl
        | false => right; exact slt_total ha hb
      rw [this] at h; cases h
  · intro h
    cases hs : sle a b with
    | false => rfl
    | true =>
      rcases sle_iff.1 hs with h2 | h2
      · have := slt_trans h h2; rw [slt_irrefl] at this; cases this
      · subst h2; rw [slt_irrefl] at h; cases h
theorem slt_asymm {a b : List Nat} (h : slt a b = true) : slt b a = false := by
  cases hb : slt b a with
  | false => rfl
  | true => have := slt_trans h hb; rw [slt_irrefl] at this; cases this

/-! ### truths of what is not computed -/
def dB (p : Prop) : Bool := @decide p (Classical.propDecidable p)
theorem dB_true {p : Prop} (h : p) : dB p = true := @decide_eq_true p (Classical.propDecidable p) h
theorem dB_false {p : Prop} (h : ¬ p) : dB p = false := @decide_eq_false p (Classical.propDecidable p) h
theorem dB_iff {p : Prop} : dB p = true ↔ p := ⟨fun h => @of_decide_eq_true p (Classical.propDecidable p) h, dB_true⟩
theorem dB_not {p : Prop} : dB p = false ↔ ¬ p := by
  constructor
  · intro h hp
    rw [dB_true hp] at h
    cases h
  · exact dB_false

theorem dB_eq {b : Bool} {p : Prop} (h : b = true ↔ p) : b = dB p := by
  cases b with
  | true => exact (dB_true (h.1 rfl)).symm
  | false => exact (dB_false (fun hp => by cases h.2 hp)).symm
/-! ### bytes and texts -/
section
variable {env : Env} {H : AH} {Z : Fz} {l : List Hl}
theorem s_s2b {t : List Nat} (hs : Sat H Z l) (s : List Nat) : ∃ b H', Sat H' Z (.cells b (s.map byteV) :: l) ∧ ∀ {env : Env} {x : Od} (hx : ev env x = .str s) (K : AV → AH → Bool), xop (.s2b x) env H K = K (.slu b 0 s.length 1) H' :=
  ⟨_, _, s_new hs (RL.ofL (s.map byteV)) true, fun {env x} hx K => by simp only [xop, hx, fN_eq, llen_eq, Nat.add_zero, alc, anew_eq]; rfl⟩
theorem s_b2s {xv : AV} {b o n : Nat} {L : List AV} {x : Od} (hs : Sat H Z l) (i : Nat) (hv : SlV xv b o n 1) (s : List Nat) (hb : ∀ c ∈ s, c ≤ 255) (hx : ev env x = xv := by rfl) (hi : l[i]? = some (.cells b L) := by rfl) (hL : (L.drop o).take n = s.map byteV := by rfl) (ho : o + n ≤ L.length := by exact Nat.le_of_ble_eq_true rfl) (K : AV → AH → Bool) :
    xop (.b2s x) env H K = K (.str s) H := by
  obtain ⟨R, st, h1, h2, h3⟩ := hs.getAt i hi
  have hr : (R.sub o (n * 1)).toL = s.map byteV := by
    have := (RL.sub ⟨h1, h2⟩ o (n * 1)).2
    rw [this, Nat.mul_one, hL]
  have hl : Nat.ble (o + n * 1) R.len = true := Nat.ble_eq_true_of_le (by rw [Rp.len_eq R h1, h2]; omega)
  cases hv with
  | slc b o n c es => exact w_b2sc hx h3 hl hr hb K
  | slu b o n es => exact w_b2su hx h3 hl hr hb K
theorem w_s2a {xv : AV} {b o n m : Nat} {x : Od} (hv : SlV xv b o m 1) (hx : ev env x = xv := by rfl) (hn : n ≤ m := by exact Nat.le_of_ble_eq_true rfl) (K : AV → AH → Bool) : xop (.s2a n x) env H K = K (.ptr b o) H := by
  have h := Nat.ble_eq_true_of_le hn
  cases hv with
  | slc b o n c es => simp only [xop, hx, h, cond_true]
  | slu b o n es => simp only [xop, hx, h, cond_true]
/-- a part of an array -/
theorem w_sla {x : Od} {b o n es lo hi : Nat} {l h : Option Od} (hx : ev env x = .ptr b o) (hc : ∀ K : Nat → Nat → Nat → Bool, cut3 env n n l h none K = K lo hi n) (h1 : lo ≤ hi) (h2 : hi ≤ n) (hlt : lo < n) (K : AV → AH → Bool) : xop (.sla n es x l h none) env H K = K (.slc b (o + lo * es) (hi - lo) (n - lo)) H := by
  have e : Nat.beq n lo = false := by
    cases hb : Nat.beq n lo with
    | false => rfl
    | true => have := Nat.eq_of_beq_eq_true hb; omega
  simp only [xop, hx, hc, fN_eq, e, cond_false]
theorem w_eqa {x y : Od} {a b : Rp AV} {A B : List AV} {sh : List Nat} {t : Bool} (ha : RL a A) (hb : RL b B) (hx : ev env x = .agg a) (hy : ev env y = .agg b) (h1 : A.length = sh.length) (h2 : B.length = sh.length) (h : ∀ k : Bool → Bool, eqS sh A B k = k t) (neg : Bool) (K : AV → AH → Bool) :
    xop (.eqa neg sh x y) env H K = K (.bool (cond neg (!t) t)) H := by
  simp only [xop, hx, hy, ha.len, hb.len, h1, h2, llen_eq, Nat.add_zero, Nat.beq_refl, cond_true, ha.2, hb.2, h]
end
theorem eqS_int {sh : List Nat} {q : IntKind} {m n : Int} {a b : List AV} (k : Bool → Bool) : eqS (0 :: sh) (.int q m :: a) (.int q n :: b) k = cond (decide (m = n)) (eqS sh a b k) (k false) := by
  show cond (Nat.beq 0 0) (cond (Nat.beq (ikN q) (ikN q)) (cond (ieq m n) (eqS sh a b k) (k false)) false) false = _
  rw [Nat.beq_refl, Nat.beq_refl, ieq_eq]
  rfl
theorem eqS_3 {q q' q'' : IntKind} (a b c a' b' c' : Int) (k : Bool → Bool) : eqS [0, 0, 0] [.int q a, .int q' b, .int q'' c] [.int q a', .int q' b', .int q'' c'] k = k (decide (a = a') && (decide (b = b') && decide (c = c'))) := by
  rw [eqS_int, eqS_int, eqS_int, show eqS [] [] [] k = k true from rfl]
  cases decide (a = a') <;> cases decide (b = b') <;> cases decide (c = c') <;> rfl

/-! ### a block whose rope is known -/
section
variable {H : AH} {Z : Fz} {l : List Hl}
theorem Sat.exact {b : Nat} {L : List AV} (h : Sat H Z (.cells b L :: l)) : ∃ R st, RL R L ∧ Sat H Z (.obj b (.cells R st false) :: l) := by
  obtain ⟨R, st, h1, h2, h3⟩ := h.getAt 0 rfl
  exact ⟨R, st, ⟨h1, h2⟩, h.upd rfl (fun _ _ => rfl) rfl h3⟩
theorem Sat.relax {b : Nat} {R : Rp AV} {st : Bool} {L : List AV} (h : Sat H Z (.obj b (.cells R st false) :: l)) (hr : RL R L) : Sat H Z (.cells b L :: l) := by
  have h3 : H.get b = some (.cells R st false) := h.getAt 0 rfl
  exact h.upd rfl (fun _ _ => rfl) rfl ⟨R, st, hr.1, hr.2, h3⟩
variable {env : Env}
theorem x_ld1 {a : Od} {b off : Nat} {R : Rp AV} {st : Bool} {L : List AV} {v : AV} (hs : Sat H Z l) (i : Nat) (hr : RL R L) (hv : L[off]? = some v) (hi : l[i]? = some (.obj b (.cells R st false)) := by rfl) (ha : ev env a = .ptr b off := by rfl) (K : AV → AH → Bool) : xop (.ld1 a) env H K = K v H := by
  have h3 : H.get b = some (.cells R st false) := hs.getAt i hi
  exact w_ld1 ha h3 (by rw [hr.get]; exact hv) K
theorem x_ldn {a : Od} {b off n : Nat} {R : Rp AV} {st : Bool} {L : List AV} (hs : Sat H Z l) (i : Nat) (hr : RL R L) (hi : l[i]? = some (.obj b (.cells R st false)) := by rfl) (ha : ev env a = .ptr b off := by rfl) (hl : off + n ≤ L.length := by exact Nat.le_of_ble_eq_true rfl) (K : AV → AH → Bool) : xop (.ldn n a) env H K = K (.agg (R.sub off n)) H := by
  have h3 : H.get b = some (.cells R st false) := hs.getAt i hi
  have hb : Nat.ble (off + n) R.len = true := Nat.ble_eq_true_of_le (by rw [hr.len]; exact hl)
  simp only [xop, ha, gcell, h3, hb, cond_true]
end

/-- ropes whose leaves are plain -/
def plainV (v : AV) : Bool := match v with | .int _ _ | .bool _ | .str _ | .nilp | .nils | .nilm | .nilf | .nili | .ptr _ _ | .slc _ _ _ _ | .slu _ _ _ _ | .slz _ _ _ | .map _ => true | _ => false
theorem plainV_same {v : AV} (h : plainV v = true) : sameS same1 v v = true := by
  cases v <;> first
    | (cases h; done)
    | rfl
    | (show cond (Nat.beq _ _) (ieq _ _) false = true; rw [Nat.beq_refl, ieq_eq]; simp; done)
    | (rename_i b; cases b <;> rfl)
    | (show seq _ _ = true; rw [seq_eq]; simp)
    | exact same_ptr
    | exact same_slc
    | exact same_slu
    | exact same_slz
    | exact Nat.beq_refl _
def leavesB (r : Rp AV) : Bool := Rp.rec true (fun x => plainV x) (fun _ x => plainV x) (fun _ _ _ a b => a && b) r
theorem sameR_self (r : Rp AV) (h : leavesB r = true) : sameR (sameS same1) r r = true := by
  induction r with
  | nil => rfl
  | one x => exact plainV_same h
  | rep n x =>
    show cond (Nat.beq n n) (sameS same1 x x) false = true
    rw [Nat.beq_refl]
    exact plainV_same h
  | cat n l r ihl ihr =>
    have h' : (leavesB l && leavesB r) = true := h
    rw [Bool.and_eq_true] at h'
    show cond (Nat.beq n n) (cond (sameR (sameS same1) l l) (sameR (sameS same1) r r) false) false = true
    rw [Nat.beq_refl, ihl h'.1, ihr h'.2]
    rfl
theorem same_agg {r : Rp AV} (h : leavesB r = true) : same (.agg r) (.agg r) = true := sameR_self r h
section
variable {H : AH} {Z : Fz} {l : List Hl}
/-- new blocks, told by their ropes -/
theorem x_new (hs : Sat H Z l) (r : Rp AV) (st : Bool) : Sat (H.new (.cells r st false)) Z (.obj H.n (.cells r st false) :: l) := hs.new rfl (get_new_here ..)
theorem x_alloc (hs : Sat H Z l) (z : Rp AV) : ∃ b H', Sat H' Z (.obj b (.cells z false false) :: l) ∧ ∀ {env : Env} (K : AV → AH → Bool), xop (.alloc z) env H K = K (.ptr b 0) H' :=
  ⟨_, _, x_new hs z false, fun {env} K => w_alloc K⟩
theorem x_s2b (hs : Sat H Z l) (s : List Nat) : ∃ b H', Sat H' Z (.obj b (.cells (Rp.ofL (s.map byteV)) true false) :: l) ∧ ∀ {env : Env} {x : Od} (hx : ev env x = .str s) (K : AV → AH → Bool), xop (.s2b x) env H K = K (.slu b 0 s.length 1) H' :=
  ⟨_, _, x_new hs (Rp.ofL (s.map byteV)) true, fun {env x} hx K => by simp only [xop, hx, fN_eq, llen_eq, Nat.add_zero, alc, anew_eq]; rfl⟩
theorem x_stn {b : Nat} {R r : Rp AV} {st : Bool} (hs : Sat H Z (.obj b (.cells R st false) :: l)) (off n : Nat) (hn : Nat.beq r.len n = true) (ho : Nat.ble (off + n) R.len = true) :
    ∃ H', Sat H' Z (.obj b (.cells (R.put off n r) st false) :: l) ∧ ∀ {env : Env} {a x : Od} (ha : ev env a = .ptr b off) (hx : ev env x = .agg r) (K : AV → AH → Bool), xop (.st n a x) env H K = K .undef H' := by
  have h3 : H.get b = some (.cells R st false) := hs.getAt 0 rfl
  exact ⟨H.set b (.cells (R.put off n r) st false), hs.upd rfl (fun c hc => get_set_ne hc) rfl (get_set_here ..), fun {env a x} ha hx K => w_sta ha hx h3 hn ho K⟩
end
/-! ### results out of cells -/
section
variable {fi : FnIR} {Q : AV → AH → Prop} {env : Env} {H : AH} {Z : Fz} {l : List Hl} {e : Ex}
theorem fin_c {b off t n : Nat} {L : List AV} (hs : Sat H Z l) (i : Nat) (h : ∀ r, RL r ((L.drop off).take n) → Q (.agg r) H) (hi : l[i]? = some (.cells b L) := by rfl) (hr : fi.results = [.cell t n true] := by rfl) (hb : lget env t = .ptr b off := by rfl) (hl : off + n ≤ L.length := by exact Nat.le_of_ble_eq_true rfl) (he : isExit e = false := by rfl) : Fin fi Q e env [] H := by
  obtain ⟨R, st, h1, h2, h3⟩ := hs.getAt i hi
  refine ⟨_, _, h _ (RL.sub ⟨h1, h2⟩ off n), fun k => ?_⟩
  rw [finK_no he, hr]
  have hb' : Nat.ble (off + n) R.len = true := Nat.ble_eq_true_of_le (by rw [Rp.len_eq R h1, h2]; exact hl)
  show rvs [.cell t n true] env H (fun l => k (oneOf l) H) = _
  simp only [rvs, hb, gcell, h3, cond_true, hb', oneOf]
theorem fin_ct {b off t n u : Nat} {L : List AV} {w : AV} (hs : Sat H Z l) (i : Nat) (h : ∀ r, RL r ((L.drop off).take n) → Q (.tup [.agg r, w]) H) (hi : l[i]? = some (.cells b L) := by rfl) (hr : fi.results = [.cell t n true, .tmp u] := by rfl) (hb : lget env t = .ptr b off := by rfl) (hl : off + n ≤ L.length := by exact Nat.le_of_ble_eq_true rfl) (hw : lget env u = w := by rfl) (he : isExit e = false := by rfl) : Fin fi Q e env [] H := by
  obtain ⟨R, st, h1, h2, h3⟩ := hs.getAt i hi
  refine ⟨_, _, h _ (RL.sub ⟨h1, h2⟩ off n), fun k => ?_⟩
  rw [finK_no he, hr]
  have hb' : Nat.ble (off + n) R.len = true := Nat.ble_eq_true_of_le (by rw [Rp.len_eq R h1, h2]; exact hl)
  show rvs [.cell t n true, .tmp u] env H (fun l => k (oneOf l) H) = _
  simp only [rvs, hb, gcell, h3, cond_true, hb', hw, oneOf]
end
end
end Go.Jt
