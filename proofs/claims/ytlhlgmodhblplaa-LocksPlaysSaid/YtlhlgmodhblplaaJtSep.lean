/-
  Walks in the form of weakest conditions, over heaps that are told block by block ('Sat'): what a piece of code does, what a call does, loops, with a rest that stays as it is.
-/
import Derived.Test.YtlhlgmodhblplaaJtWalk
set_option autoImplicit false
set_option linter.all false
namespace Go.Jt
noncomputable section
variable [Gl]

/-! ### what code does -/
abbrev Kq := Ex → Env → List Nat → AH → Prop
def Wp (cl : Cl) (N : Nat) (rd : Option Nat) (c : IR) (env : Env) (ds : List Nat) (H : AH) (Q : Kq) : Prop :=
  ∃ e env' ds' H', Q e env' ds' H' ∧ ∀ k : Kc, den cl N rd c env ds H k = k e env' ds' H'
def Wo (cl : Cl) (l : List XOper) (env : Env) (H : AH) (Q : Env → AH → Prop) : Prop :=
  ∃ env' H', Q env' H' ∧ ∀ k : Env → AH → Bool, runOps cl l env H k = k env' H'
def thn (R : Env → List Nat → AH → Prop) (Q : Kq) : Kq := fun e env ds H => match e with
  | .normal => R env ds H
  | e => Q e env ds H
def blk (id : Nat) (Q : Kq) : Kq := fun e env ds H => match e with
  | .exit j => cond (Nat.beq j id) (Q .normal env ds H) (Q (.exit j) env ds H)
  | e => Q e env ds H
def lpq (I : Nat → Env → List Nat → AH → Prop) (n : Nat) (Q : Kq) : Kq := fun e env ds H => match e with
  | .normal => ∃ m, m < n ∧ I m env ds H
  | e => Q e env ds H
section
variable {cl : Cl} {N : Nat} {rd : Option Nat} {env : Env} {ds : List Nat} {H : AH} {Q : Kq} {R : Env → List Nat → AH → Prop} {P : Env → AH → Prop} {l : List XOper}
theorem thn_n (h : R env ds H) : thn R Q .normal env ds H := h
theorem thn_e {i : Nat} (h : Q (.exit i) env ds H) : thn R Q (.exit i) env ds H := h
theorem thn_r (h : Q .ret env ds H) : thn R Q .ret env ds H := h
theorem blk_n {i : Nat} (h : Q .normal env ds H) : blk i Q .normal env ds H := h
theorem blk_h {i : Nat} (h : Q .normal env ds H) : blk i Q (.exit i) env ds H := by
  show cond (Nat.beq i i) _ _
  rw [Nat.beq_refl]; exact h
theorem blk_e {i j : Nat} (h : Q (.exit j) env ds H) (hn : Nat.beq j i = false := by rfl) : blk i Q (.exit j) env ds H := by
  show cond (Nat.beq j i) _ _
  rw [hn]; exact h
theorem blk_r {i : Nat} (h : Q .ret env ds H) : blk i Q .ret env ds H := h
theorem lpq_n {I : Nat → Env → List Nat → AH → Prop} {n : Nat} (m : Nat) (hm : m < n) (h : I m env ds H) : lpq I n Q .normal env ds H := ⟨m, hm, h⟩
theorem lpq_e {I : Nat → Env → List Nat → AH → Prop} {n i : Nat} (h : Q (.exit i) env ds H) : lpq I n Q (.exit i) env ds H := h
theorem lpq_r {I : Nat → Env → List Nat → AH → Prop} {n : Nat} (h : Q .ret env ds H) : lpq I n Q .ret env ds H := h

theorem wp_skip (h : Q .normal env ds H) : Wp cl N rd .skip env ds H Q := ⟨_, _, _, _, h, fun k => rfl⟩
theorem wp_ret (h : Q .ret env ds H) : Wp cl N rd .ret env ds H Q := ⟨_, _, _, _, h, fun k => rfl⟩
theorem wp_exit {i : Nat} (h : Q (.exit i) env ds H) : Wp cl N rd (.exit i) env ds H Q := ⟨_, _, _, _, h, fun k => rfl⟩
theorem wp_reg (h : Wo cl l env H (fun env H => Q .normal env ds H)) : Wp cl N rd (.reg l) env ds H Q := by
  obtain ⟨env', H', h1, h2⟩ := h
  exact ⟨_, _, _, _, h1, fun k => h2 _⟩
theorem wp_seq {a b : IR} (h : Wp cl N rd a env ds H (thn (fun env ds H => Wp cl N rd b env ds H Q) Q)) : Wp cl N rd (.seq a b) env ds H Q := by
  obtain ⟨e, env', ds', H', h1, h2⟩ := h
  cases e with
  | normal =>
    obtain ⟨e2, env2, ds2, H2, h3, h4⟩ := (show Wp cl N rd b env' ds' H' Q from h1)
    exact ⟨e2, env2, ds2, H2, h3, fun k => (h2 _).trans (h4 k)⟩
  | exit i => exact ⟨_, _, _, _, (show Q (.exit i) env' ds' H' from h1), fun k => h2 _⟩
  | ret => exact ⟨_, _, _, _, (show Q .ret env' ds' H' from h1), fun k => h2 _⟩
theorem wp_condT {c : Od} {a b : IR} (h : Wp cl N rd a env ds H Q) (hc : ev env c = .bool true := by rfl) : Wp cl N rd (.cond c a b) env ds H Q := by
  obtain ⟨e, env', ds', H', h1, h2⟩ := h
  exact ⟨_, _, _, _, h1, fun k => by rw [den_cond, hc]; exact h2 k⟩
theorem wp_condF {c : Od} {a b : IR} (h : Wp cl N rd b env ds H Q) (hc : ev env c = .bool false := by rfl) : Wp cl N rd (.cond c a b) env ds H Q := by
  obtain ⟨e, env', ds', H', h1, h2⟩ := h
  exact ⟨_, _, _, _, h1, fun k => by rw [den_cond, hc]; exact h2 k⟩
theorem wp_block {i : Nat} {c : IR} (h : Wp cl N rd c env ds H (blk i Q)) : Wp cl N rd (.block i c) env ds H Q := by
  obtain ⟨e, env', ds', H', h1, h2⟩ := h
  cases e with
  | normal => exact ⟨_, _, _, _, (show Q .normal env' ds' H' from h1), fun k => h2 _⟩
  | exit j =>
    have h1' : cond (Nat.beq j i) (Q .normal env' ds' H') (Q (.exit j) env' ds' H') := h1
    cases hb : Nat.beq j i with
    | true => rw [hb] at h1'; exact ⟨_, _, _, _, h1', fun k => (h2 _).trans (by show cond (Nat.beq j i) _ _ = _; rw [hb]; rfl)⟩
    | false => rw [hb] at h1'; exact ⟨_, _, _, _, h1', fun k => (h2 _).trans (by show cond (Nat.beq j i) _ _ = _; rw [hb]; rfl)⟩
  | ret => exact ⟨_, _, _, _, (show Q .ret env' ds' H' from h1), fun k => h2 _⟩
theorem wp_imp {c : IR} {Q' : Kq} (h : Wp cl N rd c env ds H Q) (hi : ∀ e env ds H, Q e env ds H → Q' e env ds H) : Wp cl N rd c env ds H Q' := by
  obtain ⟨e, env', ds', H', h1, h2⟩ := h
  exact ⟨_, _, _, _, hi _ _ _ _ h1, h2⟩
/-- a block, behind which all ways come together -/
theorem wp_blockj {i : Nat} {c : IR} (R : Env → List Nat → AH → Prop) (h : Wp cl N rd c env ds H (blk i (thn R Q))) (k : ∀ env ds H, R env ds H → Q .normal env ds H) : Wp cl N rd (.block i c) env ds H Q := by
  refine wp_imp (wp_block h) fun e env ds H h => ?_
  cases e with
  | normal => exact k _ _ _ h
  | exit i => exact h
  | ret => exact h
/-- a loop: what holds ahead of each round, with a number that falls -/
theorem wp_loop {c : IR} (I : Nat → Env → List Nat → AH → Prop) (m : Nat) (hm : m < N) (h0 : I m env ds H) (hs : ∀ n env ds H, n ≤ m → I n env ds H → Wp cl N rd c env ds H (lpq I n Q)) : Wp cl N rd (.loop c) env ds H Q := by
  have key : ∀ f n env ds H, n < f → n ≤ m → I n env ds H → ∃ e env' ds' H', Q e env' ds' H' ∧ ∀ k : Kc, iter (den cl N rd c) f env ds H k = k e env' ds' H' := by
    intro f
    induction f with
    | zero => intro n env ds H h; omega
    | succ f ih =>
      intro n env ds H hn hnm hI
      obtain ⟨e, env', ds', H', h1, h2⟩ := hs n env ds H hnm hI
      cases e with
      | normal =>
        obtain ⟨m', hm', hI'⟩ := (show ∃ m, m < n ∧ I m env' ds' H' from h1)
        obtain ⟨e2, env2, ds2, H2, h3, h4⟩ := ih m' env' ds' H' (by omega) (by omega) hI'
        exact ⟨e2, env2, ds2, H2, h3, fun k => by rw [iter_succ, h2]; exact h4 k⟩
      | exit i => exact ⟨_, _, _, _, (show Q (.exit i) env' ds' H' from h1), fun k => by rw [iter_succ, h2]⟩
      | ret => exact ⟨_, _, _, _, (show Q .ret env' ds' H' from h1), fun k => by rw [iter_succ, h2]⟩
  obtain ⟨e, env', ds', H', h1, h2⟩ := key N m env ds H hm (Nat.le_refl _) h0
  exact ⟨e, env', ds', H', h1, fun k => by rw [den_loop', h2]⟩
/-- a loop gone through round by round -/
def Wl (cl : Cl) (N : Nat) (rd : Option Nat) (c : IR) (f : Nat) (env : Env) (ds : List Nat) (H : AH) (Q : Kq) : Prop :=
  ∃ e env' ds' H', Q e env' ds' H' ∧ ∀ k : Kc, iter (den cl N rd c) f env ds H k = k e env' ds' H'
def rnd (R : Env → List Nat → AH → Prop) (Q : Kq) : Kq := thn R Q
theorem wl_start {c : IR} (h : Wl cl N rd c N env ds H Q) : Wp cl N rd (.loop c) env ds H Q := h
theorem wl_step {c : IR} {f : Nat} (hf : 0 < f) (h : Wp cl N rd c env ds H (thn (fun env ds H => Wl cl N rd c (f - 1) env ds H Q) Q)) : Wl cl N rd c f env ds H Q := by
  obtain ⟨f, rfl⟩ : ∃ g, f = g + 1 := ⟨f - 1, by omega⟩
  obtain ⟨e, env', ds', H', h1, h2⟩ := h
  cases e with
  | normal =>
    obtain ⟨e2, env2, ds2, H2, h3, h4⟩ := (show Wl cl N rd c f env' ds' H' Q from h1)
    exact ⟨e2, env2, ds2, H2, h3, fun k => by rw [iter_succ, h2]; exact h4 k⟩
  | exit i => exact ⟨_, _, _, _, (show Q (.exit i) env' ds' H' from h1), fun k => by rw [iter_succ, h2]⟩
  | ret => exact ⟨_, _, _, _, (show Q .ret env' ds' H' from h1), fun k => by rw [iter_succ, h2]⟩
theorem wp_env {c : IR} (e : Env) (h : Wp cl N rd c e ds H Q) (he : env = e := by rfl) : Wp cl N rd c env ds H Q := by rw [he]; exact h

/-! ### operations -/
def isCall (o : XOp) : Bool := match o with | .call _ _ => true | _ => false
theorem wo_nil (h : P env H) : Wo cl [] env H P := ⟨_, _, h, fun k => rfl⟩
theorem wo_env (e : Env) (h : Wo cl l e H P) (he : env = e := by rfl) : Wo cl l env H P := by rw [he]; exact h
theorem wo_mv {d : Nat} {x : Od} (v : AV) (h : Wo cl l (lset env d v) H P) (hx : ev env x = v := by rfl) : Wo cl (⟨some d, .mv x, none⟩ :: l) env H P := by
  obtain ⟨env', H', h1, h2⟩ := h
  exact ⟨_, _, h1, fun k => by rw [runOps_cons, step_mv, setd_some, hx]; exact h2 k⟩
theorem wo_x {d : Nat} {o : XOp} {v : AV} {H' : AH} (hx : ∀ K : AV → AH → Bool, xop o env H K = K v H') (h : Wo cl l (lset env d v) H' P) (hc : isCall o = false := by rfl) : Wo cl (⟨some d, o, none⟩ :: l) env H P := by
  obtain ⟨env', H2, h1, h2⟩ := h
  exact ⟨_, _, h1, fun k => by rw [runOps_cons, step_op _ _ _ _ _ _ (by intro f as e; subst e; cases hc), hx]; exact h2 k⟩
theorem wo_n {o : XOp} {v : AV} {H' : AH} (hx : ∀ K : AV → AH → Bool, xop o env H K = K v H') (h : Wo cl l env H' P) (hc : isCall o = false := by rfl) : Wo cl (⟨none, o, none⟩ :: l) env H P := by
  obtain ⟨env', H2, h1, h2⟩ := h
  exact ⟨_, _, h1, fun k => by rw [runOps_cons, step_op _ _ _ _ _ _ (by intro f as e; subst e; cases hc), hx]; exact h2 k⟩
/-- a call of a function value does this -/
def DoesV (cl : Cl) (f : AV) (args : List AV) (H : AH) (v : AV) (H' : AH) : Prop := ∀ k : AV → AH → Bool, cl f args H k = k v H'
theorem wo_call {d : Nat} {f : Od} {as : List Od} {fv v : AV} {args : List AV} {H' : AH} (hd : DoesV cl fv args H v H') (h : Wo cl l (lset env d v) H' P) (hf : ev env f = fv := by rfl) (ha : as.map (ev env) = args := by rfl) :
    Wo cl (⟨some d, .call f as, none⟩ :: l) env H P := by
  obtain ⟨env', H2, h1, h2⟩ := h
  exact ⟨_, _, h1, fun k => by rw [runOps_cons, step_call, hf, ha, hd, setd_some]; exact h2 k⟩
theorem wo_calln {f : Od} {as : List Od} {fv v : AV} {args : List AV} {H' : AH} (hd : DoesV cl fv args H v H') (h : Wo cl l env H' P) (hf : ev env f = fv := by rfl) (ha : as.map (ev env) = args := by rfl) :
    Wo cl (⟨none, .call f as, none⟩ :: l) env H P := by
  obtain ⟨env', H2, h1, h2⟩ := h
  exact ⟨_, _, h1, fun k => by rw [runOps_cons, step_call, hf, ha, hd, setd_none]; exact h2 k⟩
section
variable {d t : Nat} {o : XOp}
theorem wo_yesT (h : Wo cl (⟨some d, o, none⟩ :: l) env H P) (ht : lget env t = .bool true := by rfl) : Wo cl (⟨some d, o, some (t, true)⟩ :: l) env H P := by
  obtain ⟨env', H2, h1, h2⟩ := h
  exact ⟨_, _, h1, fun k => by rw [runOps_cons, guard_yesT ht]; exact h2 k⟩
theorem wo_yesF (h : Wo cl (⟨some d, o, none⟩ :: l) env H P) (ht : lget env t = .bool false := by rfl) : Wo cl (⟨some d, o, some (t, false)⟩ :: l) env H P := by
  obtain ⟨env', H2, h1, h2⟩ := h
  exact ⟨_, _, h1, fun k => by rw [runOps_cons, guard_yesF ht]; exact h2 k⟩
theorem wo_noT (h : Wo cl l (lset env d (.tup [])) H P) (ht : lget env t = .bool true := by rfl) : Wo cl (⟨some d, o, some (t, false)⟩ :: l) env H P := by
  obtain ⟨env', H2, h1, h2⟩ := h
  exact ⟨_, _, h1, fun k => by rw [runOps_cons, guard_noT ht]; exact h2 k⟩
theorem wo_noF (h : Wo cl l (lset env d (.tup [])) H P) (ht : lget env t = .bool false := by rfl) : Wo cl (⟨some d, o, some (t, true)⟩ :: l) env H P := by
  obtain ⟨env', H2, h1, h2⟩ := h
  exact ⟨_, _, h1, fun k => by rw [runOps_cons, guard_noF ht]; exact h2 k⟩
theorem wo_noU {b : Bool} (h : Wo cl l (lset env d (.tup [])) H P) (ht : lget env t = .tup [] := by rfl) : Wo cl (⟨some d, o, some (t, b)⟩ :: l) env H P := by
  obtain ⟨env', H2, h1, h2⟩ := h
  exact ⟨_, _, h1, fun k => by rw [runOps_cons]; simp only [stepOp, wants, ht, setd]; exact h2 k⟩
end

/-! ### regions whose order is open: the operations in their row, those looked at again alike -/
def Wd (cl : Cl) (l : List DStep) (env : Env) (H : AH) (Q : Env → AH → Prop) : Prop := ∃ env' H', Q env' H' ∧ ∀ k : Env → AH → Bool, runD cl l env H k = k env' H'
def Ws (cl : Cl) (l : List (XOper × List DStep)) (env : Env) (H : AH) (Q : Env → AH → Prop) : Prop := ∃ env' H', Q env' H' ∧ ∀ k : Env → AH → Bool, runS cl l env H k = k env' H'
theorem wp_dreg {f : List DStep} {r : List (XOper × List DStep)} (h : Wd cl f env H (fun env H => Ws cl r env H (fun env H => Q .normal env ds H))) : Wp cl N rd (.dreg f r) env ds H Q := by
  obtain ⟨env', H', ⟨env2, H2, h3, h4⟩, h2⟩ := h
  exact ⟨_, _, _, _, h3, fun k => (h2 _).trans (h4 _)⟩
theorem wd_nil (h : P env H) : Wd cl [] env H P := ⟨_, _, h, fun k => rfl⟩
theorem ws_nil (h : P env H) : Ws cl [] env H P := ⟨_, _, h, fun k => rfl⟩
theorem wd_run {o : XOper} {s : List DStep} (h : Wo cl [o] env H (fun env H => Wd cl s env H P)) : Wd cl (.run o :: s) env H P := by
  obtain ⟨env', H', ⟨env2, H2, h3, h4⟩, h2⟩ := h
  exact ⟨_, _, h3, fun k => (show runD cl (.run o :: s) env H k = runOps cl [o] env H (fun env H => runD cl s env H k) from rfl).trans ((h2 _).trans (h4 _))⟩
theorem ws_cons {o : XOper} {s : List DStep} {r : List (XOper × List DStep)} (h : Wo cl [o] env H (fun env H => Wd cl s env H (fun env H => Ws cl r env H P))) : Ws cl ((o, s) :: r) env H P := by
  obtain ⟨env', H', ⟨env2, H2, ⟨env3, H3, h5, h6⟩, h4⟩, h2⟩ := h
  exact ⟨_, _, h5, fun k => (show runS cl ((o, s) :: r) env H k = runOps cl [o] env H (fun env H => runD cl s env H fun env H => runS cl r env H k) from rfl).trans ((h2 _).trans ((h4 _).trans (h6 _)))⟩
theorem wd_again {d : Nat} {o : XOp} {s : List DStep} {v : AV} {H' : AH} (hx : ∀ K : AV → AH → Bool, xop o env H K = K v H') (h : Wd cl s env H P) (he : lget env d = v := by rfl) (hs : same v v = true := by rfl) : Wd cl (.again ⟨some d, o, none⟩ :: s) env H P := by
  obtain ⟨env', H2, h1, h2⟩ := h
  refine ⟨_, _, h1, fun k => ?_⟩
  show xop o env H (fun v _ => cond (same v (lget env d)) (runD cl s env H k) false) = _
  rw [hx, he, hs]
  exact h2 k
/-- looked at again under a guard: the guard holds, or does not -/
theorem wd_againY {d t : Nat} {w : Bool} {o : XOp} {s : List DStep} {v : AV} {H' : AH} (hx : ∀ K : AV → AH → Bool, xop o env H K = K v H') (h : Wd cl s env H P) (ht : lget env t = .bool w := by rfl) (he : lget env d = v := by rfl) (hs : same v v = true := by rfl) : Wd cl (.again ⟨some d, o, some (t, w)⟩ :: s) env H P := by
  obtain ⟨env', H2, h1, h2⟩ := h
  refine ⟨_, _, h1, fun k => ?_⟩
  have e : (cond w w (!w)) = true := by cases w <;> rfl
  show wants (some (t, w)) env (fun _ => xop o env H (fun v _ => cond (same v (lget env d)) (runD cl s env H k) false)) (fun _ => runD cl s env H k) = _
  simp only [wants, ht, e, cond_true]
  rw [hx, he, hs]
  exact h2 k
theorem wd_againN {d t : Nat} {w : Bool} {o : XOp} {s : List DStep} (h : Wd cl s env H P) (ht : lget env t = .bool (!w) := by rfl) : Wd cl (.again ⟨some d, o, some (t, w)⟩ :: s) env H P := by
  obtain ⟨env', H2, h1, h2⟩ := h
  refine ⟨_, _, h1, fun k => ?_⟩
  have e : (cond (!w) w (!w)) = false := by cases w <;> rfl
  show wants (some (t, w)) env (fun _ => xop o env H (fun v _ => cond (same v (lget env d)) (runD cl s env H k) false)) (fun _ => runD cl s env H k) = _
  simp only [wants, ht, e, cond_false]
  exact h2 k
theorem wd_againU {d t : Nat} {w : Bool} {o : XOp} {s : List DStep} (h : Wd cl s env H P) (ht : lget env t = .tup [] := by rfl) : Wd cl (.again ⟨some d, o, some (t, w)⟩ :: s) env H P := by
  obtain ⟨env', H2, h1, h2⟩ := h
  refine ⟨_, _, h1, fun k => ?_⟩
  show wants (some (t, w)) env (fun _ => xop o env H (fun v _ => cond (same v (lget env d)) (runD cl s env H k) false)) (fun _ => runD cl s env H k) = _
  simp only [wants, ht]
  exact h2 k
end
theorem same_int {q : IntKind} {n : Int} : same (.int q n) (.int q n) = true := by
  show cond (Nat.beq (ikN q) (ikN q)) (ieq n n) false = true
  rw [Nat.beq_refl, ieq_eq]; simp
theorem same_str {s : List Nat} : same (.str s) (.str s) = true := by show seq s s = true; rw [seq_eq]; simp
theorem same_bool {b : Bool} : same (.bool b) (.bool b) = true := by cases b <;> rfl
theorem same_slc {b o n c : Nat} : same (.slc b o n c) (.slc b o n c) = true := by
  show cond (Nat.beq b b) (cond (Nat.beq o o) (cond (Nat.beq n n) (Nat.beq c c) false) false) false = true
  simp only [Nat.beq_refl, cond_true]
theorem same_slu {b o n c : Nat} : same (.slu b o n c) (.slu b o n c) = true := by
  show cond (Nat.beq b b) (cond (Nat.beq o o) (cond (Nat.beq n n) (Nat.beq c c) false) false) false = true
  simp only [Nat.beq_refl, cond_true]
theorem same_slz {b o e : Nat} : same (.slz b o e) (.slz b o e) = true := by
  show cond (Nat.beq b b) (cond (Nat.beq o o) (Nat.beq e e) false) false = true
  simp only [Nat.beq_refl, cond_true]
theorem same_ptr {b o : Nat} : same (.ptr b o) (.ptr b o) = true := by
  show cond (Nat.beq b b) (Nat.beq o o) false = true
  simp only [Nat.beq_refl, cond_true]

/-! ### calls -/
def Ct (cl : Cl) (f : AV) (args : List AV) (H : AH) (Q : AV → AH → Prop) : Prop := ∃ v H', Q v H' ∧ DoesV cl f args H v H'
def fnv_ (g : Nat) : AV := .fn (.fn (.func g)) [] []
def Fin (fi : FnIR) (Q : AV → AH → Prop) : Kq := fun e env ds H => ∃ v H', Q v H' ∧ ∀ k, finK fi k e env ds H = k v H'
theorem ct_code {tbl : Nat → Option FT} {N d g : Nat} {fi : FnIR} {first cap args : List AV} {H : AH} {Q : AV → AH → Prop} (hf : tbl g = some (.code fi)) {b : IR} {env : Env}
    (h : Wp (RUN tbl N d) N none b env [] H (Fin fi Q)) (hb : fi.body = b := by rfl) (he : first ++ args ++ cap ++ List.replicate (fi.ntmps - (first ++ args ++ cap).length) (.tup []) = env := by rfl) : Ct (RUN tbl N (d + 1)) (.fn (.fn (.func g)) first cap) args H Q := by
  obtain ⟨e, env', ds', H', ⟨v, H2, h3, h4⟩, h2⟩ := h
  refine ⟨v, H2, h3, fun k => ?_⟩
  show callF tbl (RUN tbl N d) N g (first ++ args ++ cap) H k = _
  unfold callF
  rw [hf]
  show den _ _ none fi.body _ [] H (finK fi k) = _
  rw [hb, he, h2]
  exact h4 k
theorem Ct.imp {cl : Cl} {f : AV} {args : List AV} {H : AH} {Q Q' : AV → AH → Prop} (h : Ct cl f args H Q) (hi : ∀ v H, Q v H → Q' v H) : Ct cl f args H Q' := by
  obtain ⟨v, H', h1, h2⟩ := h
  exact ⟨v, H', hi _ _ h1, h2⟩
section
variable {fi : FnIR} {Q : AV → AH → Prop} {env : Env} {H : AH} {e : Ex}
def isExit (e : Ex) : Bool := match e with | .exit _ => true | _ => false
theorem finK_no (he : isExit e = false) (k : AV → AH → Bool) : finK fi k e env [] H = rvs fi.results env H fun l => k (oneOf l) H := by
  cases e <;> first | rfl | (cases he)
theorem fin_l {ts : List Nat} {vs : List AV} (hr : fi.results = ts.map .tmp) (hv : ts.map (lget env) = vs) (h : Q (oneOf vs) H) (he : isExit e = false) : Fin fi Q e env [] H := by
  refine ⟨_, _, h, fun k => ?_⟩
  rw [finK_no he, hr]
  have key : ∀ (ts : List Nat) (vs : List AV), ts.map (lget env) = vs → ∀ K : List AV → Bool, rvs (ts.map .tmp) env H K = K vs := by
    intro ts
    induction ts with
    | nil => intro vs hv K; subst hv; rfl
    | cons t ts ih =>
      intro vs hv K
      subst hv
      show rvs (ts.map .tmp) env H (fun l => K (lget env t :: l)) = _
      rw [ih _ rfl]
      rfl
  rw [key ts vs hv]
theorem fin_0 (h : Q (.tup []) H) (hr : fi.results = [] := by rfl) (he : isExit e = false := by rfl) : Fin fi Q e env [] H := fin_l (ts := []) (vs := []) hr rfl h he
theorem fin_1 {a : Nat} (v : AV) (h : Q v H) (hr : fi.results = [.tmp a] := by rfl) (hv : lget env a = v := by rfl) (he : isExit e = false := by rfl) : Fin fi Q e env [] H := fin_l (ts := [a]) (vs := [v]) hr (by rw [← hv]; rfl) h he
theorem fin_2 {a b : Nat} (v w : AV) (h : Q (.tup [v, w]) H) (hr : fi.results = [.tmp a, .tmp b] := by rfl) (hv : lget env a = v := by rfl) (hw : lget env b = w := by rfl) (he : isExit e = false := by rfl) : Fin fi Q e env [] H := fin_l (ts := [a, b]) (vs := [v, w]) hr (by rw [← hv, ← hw]; rfl) h he
theorem fin_3 {a b c : Nat} (v w x : AV) (h : Q (.tup [v, w, x]) H) (hr : fi.results = [.tmp a, .tmp b, .tmp c] := by rfl) (hv : lget env a = v := by rfl) (hw : lget env b = w := by rfl) (hx : lget env c = x := by rfl) (he : isExit e = false := by rfl) : Fin fi Q e env [] H := fin_l (ts := [a, b, c]) (vs := [v, w, x]) hr (by rw [← hv, ← hw, ← hx]; rfl) h he
end

theorem get_set_ne {H : AH} {b c : Nat} {o : AObj} (h : c ≠ b) : (H.set b o).get c = H.get c := by rw [AH.get_set, if_neg h]
/-! ### heaps, block by block -/
/-- blocks that are never written again -/
structure Fz where
  m : Nat → Option (List AV)
  a : Nat
instance : CoeFun Fz (fun _ => Nat → Option (List AV)) := ⟨Fz.m⟩
def Fz.le (Z Z' : Fz) : Prop := ∀ (b : Nat) (L : List AV), Z b = some L → Z' b = some L
theorem Fz.le_refl (Z : Fz) : Z.le Z := fun _ _ h => h
theorem Fz.le_trans {A B C : Fz} (h : A.le B) (h' : B.le C) : A.le C := fun b L e => h' b L (h b L e)
def fz0 : Fz := ⟨fun _ => none, 0⟩
inductive Hl where
  | cells (b : Nat) (L : List AV)
  | mp (b : Nat) (es : List (AV × AV × Nat)) (c : Nat)
  | obj (b : Nat) (o : AObj)
  | loc (b : Nat) (L : List AV)
def Hl.id : Hl → Nat
  | .cells b _ => b
  | .mp b _ _ => b
  | .obj b _ => b
  | .loc b _ => b
def Hl.on (H : AH) : Hl → Prop
  | .cells b L => ∃ R st, R.ok ∧ R.toL = L ∧ H.get b = some (.cells R st false)
  | .mp b es c => H.get b = some (.mp es c)
  | .obj b o => H.get b = some o
  | .loc b L => ∃ R, R.ok ∧ R.toL = L ∧ H.get b = some (.cells R false false)
structure Sat (H : AH) (Z : Fz) (l : List Hl) : Prop where
  fr : ∀ b, H.n ≤ b → H.get b = none
  nd : (l.map Hl.id).Nodup
  on : ∀ x ∈ l, x.on H
  fz : ∀ (b : Nat) (L : List AV), Z b = some L → (∃ R st ro, R.ok ∧ R.toL = L ∧ H.get b = some (.cells R st ro) ∧ (ro = true → b < Z.a)) ∧ b ∉ l.map Hl.id
  an : Z.a ≤ H.n
  lo : ∀ x ∈ l, Z.a ≤ x.id
theorem Hl.some {H : AH} {x : Hl} (h : x.on H) : ∃ o, H.get x.id = some o := by
  cases x with
  | cells b L => obtain ⟨R, st, _, _, h⟩ := h; exact ⟨_, h⟩
  | mp b es c => exact ⟨_, h⟩
  | obj b o => exact ⟨_, h⟩
  | loc b L => obtain ⟨R, _, _, h⟩ := h; exact ⟨_, h⟩
theorem Hl.congr {H H' : AH} {x : Hl} (h : x.on H) (e : H'.get x.id = H.get x.id) : x.on H' := by
  cases x with
  | cells b L => obtain ⟨R, st, h1, h2, h⟩ := h; exact ⟨R, st, h1, h2, e.trans h⟩
  | mp b es c => exact e.trans h
  | obj b o => exact e.trans h
  | loc b L => obtain ⟨R, h1, h2, h⟩ := h; exact ⟨R, h1, h2, e.trans h⟩
section
variable {H : AH} {Z : Fz} {l : List Hl}
theorem Sat.lt (h : Sat H Z l) {x : Hl} (hx : x ∈ l) : x.id < H.n := by
  obtain ⟨o, ho⟩ := Hl.some (h.on x hx)
  apply Nat.lt_of_not_le
  intro hn
  rw [h.fr _ hn] at ho
  cases ho
theorem Sat.zlt (h : Sat H Z l) {b : Nat} {L : List AV} (hb : Z b = some L) : b < H.n := by
  obtain ⟨⟨R, st, ro, _, _, h1, _⟩, _⟩ := h.fz b L hb
  apply Nat.lt_of_not_le
  intro hn
  rw [h.fr _ hn] at h1
  cases h1
theorem Sat.perm (h : Sat H Z l) {l' : List Hl} (p : l.Perm l') : Sat H Z l' :=
  ⟨h.fr, (p.map Hl.id).nodup_iff.1 h.nd, fun x hx => h.on x (p.mem_iff.2 hx), fun b L hb => ⟨(h.fz b L hb).1, fun hm => (h.fz b L hb).2 ((p.map Hl.id).mem_iff.2 hm)⟩, h.an, fun x hx => h.lo x (p.mem_iff.2 hx)⟩
theorem Sat.sub (h : Sat H Z l) {l' : List Hl} (p : l'.Sublist l) : Sat H Z l' :=
  ⟨h.fr, (p.map Hl.id).nodup h.nd, fun x hx => h.on x (p.subset hx), fun b L hb => ⟨(h.fz b L hb).1, fun hm => (h.fz b L hb).2 ((p.map Hl.id).subset hm)⟩, h.an, fun x hx => h.lo x (p.subset hx)⟩
theorem Sat.getAt (h : Sat H Z l) {x : Hl} (i : Nat) (hi : l[i]? = some x) : x.on H := h.on x (List.mem_of_getElem? hi)
theorem perm_pull {α : Type} : ∀ (l : List α) (i : Nat) (x : α), l[i]? = some x → l.Perm (x :: l.eraseIdx i)
  | [], _, _, h => by simp at h
  | y :: l, 0, x, h => by simp at h; subst h; exact List.Perm.refl _
  | y :: l, i + 1, x, h => by
    have h' : l[i]? = some x := by simpa using h
    exact ((perm_pull l i x h').cons y).trans (List.Perm.swap x y _)
/-- a block to the front -/
theorem Sat.pull (h : Sat H Z l) (i : Nat) {x : Hl} (hi : l[i]? = some x := by rfl) : Sat H Z (x :: l.eraseIdx i) := h.perm (perm_pull l i x hi)
theorem Sat.drop (h : Sat H Z l) (i : Nat) : Sat H Z (l.eraseIdx i) := h.sub (List.eraseIdx_sublist l i)
theorem Sat.swap {x y : Hl} (h : Sat H Z (x :: y :: l)) : Sat H Z (y :: x :: l) := h.perm (List.Perm.swap y x l)
theorem Sat.tail {x : Hl} (h : Sat H Z (x :: l)) : Sat H Z l := h.drop 0
/-- the first block is another one -/
theorem Sat.upd {x y : Hl} (h : Sat H Z (x :: l)) {H' : AH} (hn : H'.n = H.n) (hk : ∀ c, c ≠ x.id → H'.get c = H.get c) (hy : y.id = x.id) (ho : y.on H') : Sat H' Z (y :: l) := by
  have hnd := h.nd
  rw [List.map_cons, List.nodup_cons] at hnd
  refine ⟨fun b hb => ?_, ?_, ?_, ?_, by rw [hn]; exact h.an, fun z hz => ?_⟩
  · have := h.lt (List.mem_cons_self)
    rw [hk b (by omega)]
    exact h.fr b (by omega)
  · rw [List.map_cons, hy]; exact h.nd
  · intro z hz
    rcases List.mem_cons.1 hz with e | hz
    · subst e; exact ho
    · refine Hl.congr (h.on z (List.mem_cons_of_mem _ hz)) (hk _ ?_)
      intro e
      exact hnd.1 (e ▸ List.mem_map_of_mem hz)
  · intro b L hb
    obtain ⟨⟨R, st, ro, h1, h2, h3, h5⟩, h4⟩ := h.fz b L hb
    refine ⟨⟨R, st, ro, h1, h2, ?_, h5⟩, by rw [List.map_cons, hy]; exact h4⟩
    rw [hk b (by intro e; subst e; exact h4 (by simp))]
    exact h3
  · rcases List.mem_cons.1 hz with e | hz
    · subst e; rw [hy]; exact h.lo x List.mem_cons_self
    · exact h.lo z (List.mem_cons_of_mem _ hz)
/-- a new block -/
theorem Sat.new (h : Sat H Z l) {o : AObj} {x : Hl} (hx : x.id = H.n) (ho : x.on (H.new o)) : Sat (H.new o) Z (x :: l) := by
  refine ⟨fun b hb => ?_, ?_, ?_, ?_, Nat.le_trans h.an (Nat.le_succ _), fun z hz => ?_⟩
  · rw [AH.n_new] at hb
    rw [AH.get_new, if_neg (by omega)]
    exact h.fr b (by omega)
  · rw [List.map_cons, List.nodup_cons]
    refine ⟨?_, h.nd⟩
    intro hm
    obtain ⟨y, hy, e⟩ := List.mem_map.1 hm
    have := h.lt hy
    omega
  · intro z hz
    rcases List.mem_cons.1 hz with e | hz
    · subst e; exact ho
    · refine Hl.congr (h.on z hz) ?_
      have := h.lt hz
      rw [AH.get_new, if_neg (by omega)]
  · intro b L hb
    have hlt := h.zlt hb
    obtain ⟨⟨R, st, ro, h1, h2, h3, h5⟩, h4⟩ := h.fz b L hb
    refine ⟨⟨R, st, ro, h1, h2, by rw [AH.get_new, if_neg (by omega)]; exact h3, h5⟩, ?_⟩
    rw [List.map_cons, List.mem_cons]
    intro e
    rcases e with e | e
    · omega
    · exact h4 e
  · rcases List.mem_cons.1 hz with e | hz
    · subst e; rw [hx]; exact h.an
    · exact h.lo z hz
/-- the first block goes -/
theorem Sat.kill {x : Hl} (h : Sat H Z (x :: l)) : Sat (H.kill x.id) Z l := by
  have hnd := h.nd
  rw [List.map_cons, List.nodup_cons] at hnd
  refine ⟨fun b hb => ?_, hnd.2, ?_, ?_, h.an, fun z hz => h.lo z (List.mem_cons_of_mem _ hz)⟩
  · rw [AH.get_kill]
    split
    · rfl
    · exact h.fr b hb
  · intro z hz
    refine Hl.congr (h.on z (List.mem_cons_of_mem _ hz)) ?_
    rw [AH.get_kill, if_neg]
    intro e
    exact hnd.1 (e ▸ List.mem_map_of_mem hz)
  · intro b L hb
    obtain ⟨⟨R, st, ro, h1, h2, h3, h5⟩, h4⟩ := h.fz b L hb
    rw [List.map_cons, List.mem_cons] at h4
    refine ⟨⟨R, st, ro, h1, h2, ?_, h5⟩, fun e => h4 (.inr e)⟩
    rw [AH.get_kill, if_neg (fun e => h4 (.inl e))]
    exact h3
/-- the first block is never written again -/
def Fz.add (Z : Fz) (b : Nat) (L : List AV) : Fz := ⟨fun c => if c = b then some L else Z c, Z.a⟩
theorem Fz.add_here (Z : Fz) (b : Nat) (L : List AV) : Z.add b L b = some L := by simp [Fz.add]
theorem Sat.freeze {b : Nat} {L : List AV} (h : Sat H Z (.cells b L :: l)) : Sat H (Z.add b L) l ∧ Z.le (Z.add b L) := by
  have hnd := h.nd
  rw [List.map_cons, List.nodup_cons] at hnd
  refine ⟨⟨h.fr, hnd.2, fun x hx => h.on x (List.mem_cons_of_mem _ hx), ?_, h.an, fun x hx => h.lo x (List.mem_cons_of_mem _ hx)⟩, ?_⟩
  · intro c K hc
    replace hc : (if c = b then some L else Z c) = some K := hc
    split at hc
    · rename_i e; subst e; cases hc
      obtain ⟨R, st, h1, h2, h3⟩ := h.on _ List.mem_cons_self
      exact ⟨⟨R, st, false, h1, h2, h3, fun e => by cases e⟩, hnd.1⟩
    · obtain ⟨h1, h2⟩ := h.fz c K hc
      exact ⟨h1, fun e => h2 (by rw [List.map_cons]; exact List.mem_cons_of_mem _ e)⟩
  · intro c K hc
    show (if c = b then some L else Z c) = some K
    rw [if_neg]
    · exact hc
    · intro e
      subst e
      exact (h.fz _ _ hc).2 (by simp [Hl.id])
end

/-- a block lent: never written for a while -/
theorem Sat.lend {H : AH} {Z : Fz} {l : List Hl} {b : Nat} {L : List AV} (h : Sat H Z (.cells b L :: l)) : Sat H (Z.add b L) l ∧ Z.le (Z.add b L) ∧ ∀ (H' : AH) {l' : List Hl}, Sat H' (Z.add b L) l' → Sat H' Z (.cells b L :: l') := by
  obtain ⟨h1, h2⟩ := h.freeze
  refine ⟨h1, h2, fun H' l' h' => ?_⟩
  have hlo := h.lo _ List.mem_cons_self
  have hnd := h.nd
  rw [List.map_cons, List.nodup_cons] at hnd
  obtain ⟨⟨R, st, ro, g1, g2, g3, g4⟩, g5⟩ := h'.fz b L (Fz.add_here ..)
  have hro : ro = false := by
    cases ro with
    | false => rfl
    | true =>
      have h3 : b < Z.a := g4 rfl
      have h4 : Z.a ≤ b := hlo
      omega
  subst hro
  refine ⟨h'.fr, ?_, fun x hx => ?_, fun c K hc => ?_, h'.an, fun x hx => ?_⟩
  · rw [List.map_cons, List.nodup_cons]; exact ⟨g5, h'.nd⟩
  · rcases List.mem_cons.1 hx with e | hx
    · subst e; exact ⟨R, st, g1, g2, g3⟩
    · exact h'.on x hx
  · obtain ⟨f1, f2⟩ := h'.fz c K (h2 c K hc)
    refine ⟨f1, ?_⟩
    rw [List.map_cons, List.mem_cons]
    intro e
    rcases e with e | e
    · have e' : c = b := e
      subst e'
      exact (h.fz _ _ hc).2 (by simp [Hl.id])
    · exact f2 e
  · rcases List.mem_cons.1 hx with e | hx
    · subst e; exact hlo
    · exact h'.lo x hx

/-! ### what operations do there -/
/-- a rope with these cells -/
def RL (r : Rp AV) (L : List AV) : Prop := r.ok ∧ r.toL = L
theorem RL.len {r : Rp AV} {L : List AV} (h : RL r L) : r.len = L.length := by rw [Rp.len_eq r h.1, h.2]
theorem RL.get {r : Rp AV} {L : List AV} (h : RL r L) (i : Nat) : r.get i = L[i]? := by rw [Rp.get_eq r h.1, h.2]
theorem RL.sub {r : Rp AV} {L : List AV} (h : RL r L) (o n : Nat) : RL (r.sub o n) ((L.drop o).take n) := by
  obtain ⟨h1, h2⟩ := Rp.sub_spec r o n h.1
  exact ⟨h1, by rw [h2, h.2]⟩
theorem RL.set {r : Rp AV} {L : List AV} (h : RL r L) (i : Nat) (v : AV) : RL (r.set i v) (L.set i v) := by
  obtain ⟨h1, h2⟩ := Rp.set_spec r i v h.1
  exact ⟨h1, by rw [h2, h.2]⟩
theorem RL.app {r s : Rp AV} {L M : List AV} (h : RL r L) (h' : RL s M) : RL (r.app s) (L ++ M) := by
  obtain ⟨h1, h2⟩ := Rp.app_spec r s h.1 h'.1
  exact ⟨h1, by rw [h2, h.2, h'.2]⟩
theorem RL.put {r s : Rp AV} {L M : List AV} {o n : Nat} (h : RL r L) (h' : RL s M) (hn : M.length = n) (ho : o + n ≤ L.length) : RL (r.put o n s) (L.take o ++ (M ++ L.drop (o + n))) := by
  obtain ⟨h1, h2⟩ := Rp.put_spec r o n s h.1 h'.1 (by rw [h'.2, hn]) (by rw [h.2]; exact ho)
  exact ⟨h1, by rw [h2, h.2, h'.2]⟩
theorem RL.rep (n : Nat) (v : AV) : RL (.rep n v) (List.replicate n v) := ⟨trivial, rfl⟩
theorem RL.one (v : AV) : RL (.one v) [v] := ⟨trivial, rfl⟩
theorem RL.nil : RL .nil [] := ⟨trivial, rfl⟩
theorem RL.cat {n : Nat} {l r : Rp AV} {L M : List AV} (h : RL l L) (h' : RL r M) (hn : n = L.length) : RL (.cat n l r) (L ++ M) := ⟨⟨by rw [h.2]; exact hn, h.1, h'.1⟩, by show l.toL ++ r.toL = _; rw [h.2, h'.2]⟩
theorem RL.ofL (L : List AV) : RL (Rp.ofL L) L := Rp.ofL_spec L
section
variable {cl : Cl} {env : Env} {H : AH} {Z : Fz} {l : List Hl}
theorem s_ld1 {a : Od} {b off : Nat} {L : List AV} {v : AV} (hs : Sat H Z l) (i : Nat) (hv : L[off]? = some v) (hi : l[i]? = some (.cells b L) := by rfl) (ha : ev env a = .ptr b off := by rfl) (K : AV → AH → Bool) : xop (.ld1 a) env H K = K v H := by
  obtain ⟨R, st, h1, h2, h3⟩ := hs.getAt i hi
  exact w_ld1 ha h3 (by rw [Rp.get_eq R h1, h2]; exact hv) K
theorem s_zld1 {a : Od} {b off : Nat} {L : List AV} {v : AV} (hs : Sat H Z l) (hz : Z b = some L) (hv : L[off]? = some v) (ha : ev env a = .ptr b off := by rfl) (K : AV → AH → Bool) : xop (.ld1 a) env H K = K v H := by
  obtain ⟨⟨R, st, ro, h1, h2, h3, _⟩, _⟩ := hs.fz b L hz
  exact w_ld1 ha h3 (by rw [Rp.get_eq R h1, h2]; exact hv) K
theorem s_ldn {b : Nat} {L : List AV} (hs : Sat H Z l) (i off n : Nat) (hi : l[i]? = some (.cells b L) := by rfl) (hl : off + n ≤ L.length := by exact Nat.le_of_ble_eq_true rfl) : ∃ r, RL r ((L.drop off).take n) ∧ ∀ {env : Env} {a : Od} (ha : ev env a = .ptr b off) (K : AV → AH → Bool), xop (.ldn n a) env H K = K (.agg r) H := by
  obtain ⟨R, st, h1, h2, h3⟩ := hs.getAt i hi
  refine ⟨R.sub off n, RL.sub ⟨h1, h2⟩ off n, fun {env a} ha K => ?_⟩
  have hb : Nat.ble (off + n) R.len = true := Nat.ble_eq_true_of_le (by rw [Rp.len_eq R h1, h2]; exact hl)
  simp only [xop, ha, gcell, h3, hb, cond_true]
theorem s_zldn {b : Nat} {L : List AV} (hs : Sat H Z l) (hz : Z b = some L) (off n : Nat) (hl : off + n ≤ L.length := by exact Nat.le_of_ble_eq_true rfl) : ∃ r, RL r ((L.drop off).take n) ∧ ∀ {env : Env} {a : Od} (ha : ev env a = .ptr b off) (K : AV → AH → Bool), xop (.ldn n a) env H K = K (.agg r) H := by
  obtain ⟨⟨R, st, ro, h1, h2, h3, _⟩, _⟩ := hs.fz b L hz
  refine ⟨R.sub off n, RL.sub ⟨h1, h2⟩ off n, fun {env a} ha K => ?_⟩
  have hb : Nat.ble (off + n) R.len = true := Nat.ble_eq_true_of_le (by rw [Rp.len_eq R h1, h2]; exact hl)
  simp only [xop, ha, gcell, h3, hb, cond_true]
/-- a store to the first block -/
theorem s_st {b : Nat} {L : List AV} (hs : Sat H Z (.cells b L :: l)) (off : Nat) (v : AV) (ho : off < L.length) (hv : v.sc = true := by rfl) :
    ∃ H', Sat H' Z (.cells b (L.set off v) :: l) ∧ ∀ {env : Env} {a x : Od} (ha : ev env a = .ptr b off) (hx : ev env x = v) (K : AV → AH → Bool), xop (.st 1 a x) env H K = K .undef H' := by
  obtain ⟨R, st, h1, h2, h3⟩ := hs.getAt 0 rfl
  obtain ⟨o1, e1⟩ := Rp.set_spec R off v h1
  refine ⟨H.set b (.cells (R.set off v) st false), hs.upd rfl (fun c hc => get_set_ne hc) rfl ⟨_, st, o1, by rw [e1, h2], get_set_here ..⟩, fun {env a x} ha hx K => ?_⟩
  exact w_st1 ha hx hv h3 (Nat.ble_eq_true_of_le (by rw [Rp.len_eq R h1, h2]; omega)) K
theorem s_stn {b : Nat} {L M : List AV} {r : Rp AV} (hs : Sat H Z (.cells b L :: l)) (hr : RL r M) (off n : Nat) (hn : M.length = n) (ho : off + n ≤ L.length) :
    ∃ H', Sat H' Z (.cells b (L.take off ++ (M ++ L.drop (off + n))) :: l) ∧ ∀ {env : Env} {a x : Od} (ha : ev env a = .ptr b off) (hx : ev env x = .agg r) (K : AV → AH → Bool), xop (.st n a x) env H K = K .undef H' := by
  obtain ⟨R, st, h1, h2, h3⟩ := hs.getAt 0 rfl
  have hp := RL.put (o := off) (n := n) ⟨h1, h2⟩ hr hn ho
  refine ⟨H.set b (.cells (R.put off n r) st false), hs.upd rfl (fun c hc => get_set_ne hc) rfl ⟨_, st, hp.1, hp.2, get_set_here ..⟩, fun {env a x} ha hx K => ?_⟩
  exact w_sta ha hx h3 (by rw [hr.len, hn, Nat.beq_refl]) (Nat.ble_eq_true_of_le (by rw [Rp.len_eq R h1, h2]; exact ho)) K
/-- a new block of cells -/
theorem s_new {r : Rp AV} {L : List AV} (hs : Sat H Z l) (hr : RL r L) (st : Bool) : Sat (H.new (.cells r st false)) Z (.cells H.n L :: l) := hs.new rfl ⟨r, st, hr.1, hr.2, get_new_here ..⟩
theorem s_alloc {z : Rp AV} {L : List AV} (hs : Sat H Z l) (hz : RL z L) : ∃ b H', Sat H' Z (.cells b L :: l) ∧ ∀ {env : Env} (K : AV → AH → Bool), xop (.alloc z) env H K = K (.ptr b 0) H' :=
  ⟨_, _, s_new hs hz false, fun {env} K => w_alloc K⟩
theorem s_box (hs : Sat H Z l) (v : AV) (hv : v.sc = true := by rfl) : ∃ b H', Sat H' Z (.cells b [v] :: l) ∧ ∀ {env : Env} {x : Od} (hx : ev env x = v) (K : AV → AH → Bool), xop (.box x) env H K = K (.ptr b 0) H' :=
  ⟨_, _, s_new hs (RL.one v) false, fun {env x} hx K => by
    simp only [xop, hx]
    cases v <;> first | (cases hv; done) | (simp only [boxed, AV.sc, cond_true, alc, anew_eq])⟩
theorem s_boxn {r : Rp AV} {L : List AV} (hs : Sat H Z l) (hr : RL r L) : ∃ b H', Sat H' Z (.cells b L :: l) ∧ ∀ {env : Env} {x : Od} (hx : ev env x = .agg r) (K : AV → AH → Bool), xop (.box x) env H K = K (.ptr b 0) H' :=
  ⟨_, _, s_new hs hr false, fun {env x} hx K => by simp only [xop, hx, boxed, alc, anew_eq]⟩
end
theorem ca_fla {env : Env} {H : AH} {x : Od} {b o off r : Nat} (hx : ev env x = .ptr b o) (hr : o + off = r) (K : AV → AH → Bool) : xop (.fla off x) env H K = K (.ptr b r) H := by
  subst hr
  simp only [xop, hx, fN_eq]

/-! ### numbers, texts, rows of cells -/
section
variable {H : AH} {ek : Nat} {q : IntKind}
theorem bin_lss (x y : Int) (K : AV → Bool) : bin .lss ek H (.int q x) (.int q y) K = K (.bool (decide (x < y))) := by
  show cond (Nat.beq (ikN q) (ikN q)) (K (.bool (!(ile y x)))) false = _
  rw [Nat.beq_refl, ile_eq, cond_true]
  congr 2
  by_cases h : x < y
  · rw [decide_eq_true h, decide_eq_false (by omega)]; rfl
  · rw [decide_eq_false h, decide_eq_true (by omega)]; rfl
theorem bin_leq (x y : Int) (K : AV → Bool) : bin .leq ek H (.int q x) (.int q y) K = K (.bool (decide (x ≤ y))) := by
  show cond (Nat.beq (ikN q) (ikN q)) (K (.bool (ile x y))) false = _
  rw [Nat.beq_refl, ile_eq, cond_true]
theorem bin_gtr (x y : Int) (K : AV → Bool) : bin .gtr ek H (.int q x) (.int q y) K = K (.bool (decide (y < x))) := by
  show cond (Nat.beq (ikN q) (ikN q)) (K (.bool (!(ile x y)))) false = _
  rw [Nat.beq_refl, ile_eq, cond_true]
  congr 2
  by_cases h : y < x
  · rw [decide_eq_true h, decide_eq_false (by omega)]; rfl
  · rw [decide_eq_false h, decide_eq_true (by omega)]; rfl
theorem bin_geq (x y : Int) (K : AV → Bool) : bin .geq ek H (.int q x) (.int q y) K = K (.bool (decide (y ≤ x))) := by
  show cond (Nat.beq (ikN q) (ikN q)) (K (.bool (ile y x))) false = _
  rw [Nat.beq_refl, ile_eq, cond_true]
theorem bin_eql (x y : Int) (K : AV → Bool) : bin .eql ek H (.int q x) (.int q y) K = K (.bool (decide (x = y))) := by
  show cond (Nat.beq (ikN q) (ikN q)) (K (.bool (ieq x y))) false = _
  rw [Nat.beq_refl, ieq_eq, cond_true]
  congr 2
theorem bin_neq (x y : Int) (K : AV → Bool) : bin .neq ek H (.int q x) (.int q y) K = K (.bool (!decide (x = y))) := by
  show cond (Nat.beq (ikN q) (ikN q)) (K (.bool (!(ieq x y)))) false = _
  rw [Nat.beq_refl, ieq_eq, cond_true]
  congr 2
theorem cmp_lssTz (x y : Int) (h : x < y) (K : AV → Bool) : bin .lss ek H (.int q x) (.int q y) K = K (.bool true) := by rw [bin_lss, decide_eq_true h]
theorem cmp_lssFz (x y : Int) (h : ¬ x < y) (K : AV → Bool) : bin .lss ek H (.int q x) (.int q y) K = K (.bool false) := by rw [bin_lss, decide_eq_false h]
theorem cmp_leqTz (x y : Int) (h : x ≤ y) (K : AV → Bool) : bin .leq ek H (.int q x) (.int q y) K = K (.bool true) := by rw [bin_leq, decide_eq_true h]
theorem cmp_leqFz (x y : Int) (h : ¬ x ≤ y) (K : AV → Bool) : bin .leq ek H (.int q x) (.int q y) K = K (.bool false) := by rw [bin_leq, decide_eq_false h]
theorem cmp_gtrTz (x y : Int) (h : y < x) (K : AV → Bool) : bin .gtr ek H (.int q x) (.int q y) K = K (.bool true) := by rw [bin_gtr, decide_eq_true h]
theorem cmp_gtrFz (x y : Int) (h : ¬ y < x) (K : AV → Bool) : bin .gtr ek H (.int q x) (.int q y) K = K (.bool false) := by rw [bin_gtr, decide_eq_false h]
theorem cmp_geqTz (x y : Int) (h : y ≤ x) (K : AV → Bool) : bin .geq ek H (.int q x) (.int q y) K = K (.bool true) := by rw [bin_geq, decide_eq_true h]
theorem cmp_geqFz (x y : Int) (h : ¬ y ≤ x) (K : AV → Bool) : bin .geq ek H (.int q x) (.int q y) K = K (.bool false) := by rw [bin_geq, decide_eq_false h]
theorem cmp_eqlTz (x y : Int) (h : x = y) (K : AV → Bool) : bin .eql ek H (.int q x) (.int q y) K = K (.bool true) := by rw [bin_eql, decide_eq_true h]
theorem cmp_eqlFz (x y : Int) (h : ¬ x = y) (K : AV → Bool) : bin .eql ek H (.int q x) (.int q y) K = K (.bool false) := by rw [bin_eql, decide_eq_false h]
theorem cmp_neqTz (x y : Int) (h : x = y) (K : AV → Bool) : bin .neq ek H (.int q x) (.int q y) K = K (.bool false) := by rw [bin_neq, decide_eq_true h]; rfl
theorem cmp_neqFz (x y : Int) (h : ¬ x = y) (K : AV → Bool) : bin .neq ek H (.int q x) (.int q y) K = K (.bool true) := by rw [bin_neq, decide_eq_false h]; rfl
theorem cmp_lssT (a b : Nat) (h : a < b) (K : AV → Bool) : bin .lss ek H (.int q (.ofNat a)) (.int q (.ofNat b)) K = K (.bool true) := cmp_lssTz _ _ (by simp; omega) K
theorem cmp_lssF (a b : Nat) (h : ¬ a < b) (K : AV → Bool) : bin .lss ek H (.int q (.ofNat a)) (.int q (.ofNat b)) K = K (.bool false) := cmp_lssFz _ _ (by simp; omega) K
theorem cmp_leqT (a b : Nat) (h : a ≤ b) (K : AV → Bool) : bin .leq ek H (.int q (.ofNat a)) (.int q (.ofNat b)) K = K (.bool true) := cmp_leqTz _ _ (by simp; omega) K
theorem cmp_leqF (a b : Nat) (h : ¬ a ≤ b) (K : AV → Bool) : bin .leq ek H (.int q (.ofNat a)) (.int q (.ofNat b)) K = K (.bool false) := cmp_leqFz _ _ (by simp; omega) K
theorem cmp_gtrT (a b : Nat) (h : b < a) (K : AV → Bool) : bin .gtr ek H (.int q (.ofNat a)) (.int q (.ofNat b)) K = K (.bool true) := cmp_gtrTz _ _ (by simp; omega) K
theorem cmp_gtrF (a b : Nat) (h : ¬ b < a) (K : AV → Bool) : bin .gtr ek H (.int q (.ofNat a)) (.int q (.ofNat b)) K = K (.bool false) := cmp_gtrFz _ _ (by simp; omega) K
theorem cmp_geqT (a b : Nat) (h : b ≤ a) (K : AV → Bool) : bin .geq ek H (.int q (.ofNat a)) (.int q (.ofNat b)) K = K (.bool true) := cmp_geqTz _ _ (by simp; omega) K
theorem cmp_geqF (a b : Nat) (h : ¬ b ≤ a) (K : AV → Bool) : bin .geq ek H (.int q (.ofNat a)) (.int q (.ofNat b)) K = K (.bool false) := cmp_geqFz _ _ (by simp; omega) K
theorem cmp_eqlT (a b : Nat) (h : a = b) (K : AV → Bool) : bin .eql ek H (.int q (.ofNat a)) (.int q (.ofNat b)) K = K (.bool true) := cmp_eqlTz _ _ (by rw [h]) K
theorem cmp_eqlF (a b : Nat) (h : ¬ a = b) (K : AV → Bool) : bin .eql ek H (.int q (.ofNat a)) (.int q (.ofNat b)) K = K (.bool false) := cmp_eqlFz _ _ (fun e => h (Int.ofNat.inj e)) K
theorem cmp_neqT (a b : Nat) (h : a = b) (K : AV → Bool) : bin .neq ek H (.int q (.ofNat a)) (.int q (.ofNat b)) K = K (.bool false) := cmp_neqTz _ _ (by rw [h]) K
theorem cmp_neqF (a b : Nat) (h : ¬ a = b) (K : AV → Bool) : bin .neq ek H (.int q (.ofNat a)) (.int q (.ofNat b)) K = K (.bool true) := cmp_neqFz _ _ (fun e => h (Int.ofNat.inj e)) K
theorem wrap_i64z (z : Int) (h : -9223372036854775808 ≤ z ∧ z ≤ 9223372036854775807) : wrapF .i64 z = z := by rw [wrapF_eq]; exact IntWalk.i64_in _ (by omega)
theorem add_z (x y : Int) (h : -9223372036854775808 ≤ x + y ∧ x + y ≤ 9223372036854775807) (K : AV → Bool) : bin .add ek H (.int .i64 x) (.int .i64 y) K = K (.int .i64 (x + y)) := by
  show fI (wrapF .i64 (x + y)) (fun z => K (.int .i64 z)) = _
  rw [fI_eq, wrap_i64z _ h]
theorem sub_z (x y : Int) (h : -9223372036854775808 ≤ x - y ∧ x - y ≤ 9223372036854775807) (K : AV → Bool) : bin .sub ek H (.int .i64 x) (.int .i64 y) K = K (.int .i64 (x - y)) := by
  show fI (wrapF .i64 (x - y)) (fun z => K (.int .i64 z)) = _
  rw [fI_eq, wrap_i64z _ h]
theorem sub_nat (a b : Nat) (h : b ≤ a) (h' : a ≤ 9223372036854775807) (K : AV → Bool) : bin .sub ek H (.int .i64 (.ofNat a)) (.int .i64 (.ofNat b)) K = K (.int .i64 (.ofNat (a - b))) := by
  rw [sub_z _ _ (by simp; omega), show (Int.ofNat a - Int.ofNat b) = Int.ofNat (a - b) by simp; omega]
theorem mul_nat (a b : Nat) (h : a * b ≤ 9223372036854775807) (K : AV → Bool) : bin .mul ek H (.int .i64 (.ofNat a)) (.int .i64 (.ofNat b)) K = K (.int .i64 (.ofNat (a * b))) := by
  show fI (wrapF .i64 (Int.ofNat a * Int.ofNat b)) (fun z => K (.int .i64 z)) = _
  rw [fI_eq, show Int.ofNat a * Int.ofNat b = Int.ofNat (a * b) from rfl, wrap_i64 _ h]
theorem rem_nat (a b : Nat) (h : 0 < b) (K : AV → Bool) : bin .rem ek H (.int q (.ofNat a)) (.int q (.ofNat b)) K = K (.int q (.ofNat (a % b))) := by
  show cond (Nat.beq (ikN q) (ikN q)) (cond (ieq (Int.ofNat b) 0) false (fI ((Int.ofNat a).tmod (Int.ofNat b)) fun z => K (.int q z))) false = _
  rw [Nat.beq_refl, cond_true, ieq_eq, beq_eq_false_iff_ne.2 (by simp; omega), fI_eq]
  rfl
theorem boolS (b : Bool) (K : AV → Bool) : bin .neq 1 H (.bool b) (.bool b) K = K (.bool false) := by cases b <;> rfl
theorem boolE (b : Bool) (K : AV → Bool) : bin .eql 1 H (.bool b) (.bool b) K = K (.bool true) := by cases b <;> rfl
theorem wrap_u64z (z : Int) : ∃ r, wrapF .u64 z = Int.ofNat r ∧ r < 18446744073709551616 := by
  rw [wrapF_eq]
  unfold IntKind.wrap
  simp only [IntKind.signed, IntKind.bits, Bool.false_and, Bool.false_eq_true, if_false]
  exact ⟨(z % 18446744073709551616).toNat, by simp; omega, by omega⟩
theorem str_eqlT {s t : List Nat} (h : s = t) (K : AV → Bool) : bin .eql ek H (.str s) (.str t) K = K (.bool true) := by
  show K (.bool (seq s t)) = _
  rw [seq_eq, h, beq_self_eq_true]
theorem str_eqlF {s t : List Nat} (h : ¬ s = t) (K : AV → Bool) : bin .eql ek H (.str s) (.str t) K = K (.bool false) := by
  show K (.bool (seq s t)) = _
  rw [seq_eq, beq_eq_false_iff_ne.2 h]
theorem str_neqT {s t : List Nat} (h : s = t) (K : AV → Bool) : bin .neq ek H (.str s) (.str t) K = K (.bool false) := by
  show K (.bool (!(seq s t))) = _
  rw [seq_eq, h, beq_self_eq_true]; rfl
theorem str_neqF {s t : List Nat} (h : ¬ s = t) (K : AV → Bool) : bin .neq ek H (.str s) (.str t) K = K (.bool true) := by
  show K (.bool (!(seq s t))) = _
  rw [seq_eq, beq_eq_false_iff_ne.2 h]; rfl
end
section
variable {env : Env} {H : AH}
theorem w_notT {x : Od} (hx : ev env x = .bool true) (K : AV → AH → Bool) : xop (.not x) env H K = K (.bool false) H := by simp only [xop, hx, Bool.not_true]
theorem w_notF {x : Od} (hx : ev env x = .bool false) (K : AV → AH → Bool) : xop (.not x) env H K = K (.bool true) H := by simp only [xop, hx, Bool.not_false]
theorem w_ixa {x i : Od} {b o len n es r : Nat} {q : IntKind} (hx : ev env x = .ptr b o) (hi : ev env i = .int q (.ofNat n)) (h : n < len) (hr : o + n * es = r) (K : AV → AH → Bool) : xop (.ixa len es x i) env H K = K (.ptr b r) H := by
  have e : Nat.ble len n = false := by
    cases hb : Nat.ble len n with
    | false => rfl
    | true => have := Nat.le_of_ble_eq_true hb; omega
  subst hr
  simp only [xop, hx, hi, e, cond_false, fN_eq]
theorem w_fld1 {x : Od} {r : Rp AV} {L : List AV} {off n : Nat} {v : AV} (hr : RL r L) (hx : ev env x = .agg r) (hv : L[off]? = some v) (K : AV → AH → Bool) : xop (.fld off n false x) env H K = K v H := by
  simp only [xop, hx, cond_false, hr.get, hv]
theorem w_fldn {x : Od} {r : Rp AV} {L : List AV} {off n : Nat} (hr : RL r L) (hx : ev env x = .agg r) (hl : off + n ≤ L.length) (K : AV → AH → Bool) : xop (.fld off n true x) env H K = K (.agg (r.sub off n)) H := by
  simp only [xop, hx, cond_true, Nat.ble_eq_true_of_le (show off + n ≤ r.len by rw [hr.len]; exact hl)]
end

/-! ### ranges over functions -/
theorem wp_rfn {cl : Cl} {N : Nat} {env : Env} {ds : List Nat} {H : AH} {Z : Fz} {l : List Hl} {Q : Kq} {f : Od} {ps : List Nat} {asg body : IR} {fv : AV} (hs : Sat H Z l) (hf : ev env f = fv) (hi : isFn fv = true)
    (h : ∀ dd y H2, Sat H2 Z (.obj y (.lp ⟨.ready, none, env, ps, asg, body, dd⟩) :: .obj dd (.dfd true) :: l) →
      Ct cl fv [.fn (.yld y) [] []] H2 fun _ H' => ∃ (r : ALoop) (l' : List Hl) (Z' : Fz), Sat H' Z' (.obj y (.lp r) :: l') ∧ (match r.state with | .busy => False | _ => True) ∧ ∀ H'', Sat H'' Z' (.obj y (.lp { r with state := .exhausted }) :: l') → Q (match r.pending with | none => .normal | some e => e) env (dd :: ds) H'') :
    Wp cl N none (.rfn f ps asg body) env ds H Q := by
  have s1 : Sat (H.new (.dfd true)) Z (.obj H.n (.dfd true) :: l) := hs.new rfl (get_new_here ..)
  have s2 : Sat ((H.new (.dfd true)).new (.lp ⟨.ready, none, env, ps, asg, body, H.n⟩)) Z (.obj (H.new (.dfd true)).n (.lp ⟨.ready, none, env, ps, asg, body, H.n⟩) :: .obj H.n (.dfd true) :: l) := s1.new rfl (get_new_here ..)
  obtain ⟨v, H', ⟨r, l', Z', h1, h2, h3⟩, h4⟩ := h _ _ _ s2
  have hg : H'.get (H.new (.dfd true)).n = some (.lp r) := h1.getAt 0 rfl
  have s3 : Sat (H'.set (H.new (.dfd true)).n (.lp { r with state := .exhausted })) Z' (.obj (H.new (.dfd true)).n (.lp { r with state := .exhausted }) :: l') := h1.upd rfl (fun c hc => get_set_ne hc) rfl (get_set_here ..)
  refine ⟨_, _, _, _, h3 _ s3, fun k => ?_⟩
  show anew H (.dfd true) (fun d H => anew H (.lp ⟨.ready, none, env, ps, asg, body, d⟩) fun l H => cond (isFn (ev env f)) (cl (ev env f) [.fn (.yld l) [] []] H fun _ H => match H.get l with
            | some (.lp r) => match r.state with
              | .busy => false
              | _ => (match r.pending with
                | none => k .normal env (d :: ds) (H.set l (.lp { r with state := .exhausted }))
                | some e => k e env (d :: ds) (H.set l (.lp { r with state := .exhausted })))
            | _ => false) false) = _
  rw [anew_eq, anew_eq, hf, hi, cond_true, h4]
  simp only [hg]
  revert h2
  cases r.state <;> cases r.pending <;> intro h2 <;> first | rfl | exact h2.elim
/-- a round of a range over a function -/
theorem ct_yld {tbl : Nat → Option FT} {N d y : Nat} {args : List AV} {H : AH} {Z : Fz} {l : List Hl} {r : ALoop} {Q : AV → AH → Prop} (hs : Sat H Z (.obj y (.lp r) :: l)) (hr : r.state = .ready) (ha : args.length = r.params.length)
    (h : ∀ H1, Sat H1 Z (.obj y (.lp { r with state := .busy }) :: l) → ∃ env1 ds1, (∀ k : Kc, den (RUN tbl N d) N (some y) r.asg (setAll r.params args r.tmps) [] H k = k .normal env1 ds1 H) ∧
      Wp (RUN tbl N d) N (some y) r.body env1 ds1 H1 fun e env ds H2 => ∃ l2 Z2, Sat H2 Z2 (.obj y (.lp { r with state := .busy }) :: l2) ∧
        ∀ H3, (match e with
          | .normal => Sat H3 Z2 (.obj y (.lp { r with state := .ready, pending := none }) :: l2) → Q (.bool true) H3
          | e => Sat H3 Z2 (.obj y (.lp { r with state := .done, pending := some e }) :: l2) → Q (.bool false) H3)) :
    Ct (RUN tbl N (d + 1)) (.fn (.yld y) [] []) args H Q := by
  have hg : H.get y = some (.lp r) := hs.getAt 0 rfl
  have s1 : Sat (H.set y (.lp { r with state := .busy })) Z (.obj y (.lp { r with state := .busy }) :: l) := hs.upd rfl (fun c hc => get_set_ne hc) rfl (get_set_here ..)
  obtain ⟨env1, ds1, h1, e, env', ds', H2, ⟨l2, Z2, h3, h4⟩, h2⟩ := h _ s1
  have hg2 : H2.get y = some (.lp { r with state := .busy }) := h3.getAt 0 rfl
  have run : ∀ k : AV → AH → Bool, RUN tbl N (d + 1) (.fn (.yld y) [] []) args H k = (match e with
      | .normal => k (.bool true) (H2.set y (.lp { r with state := .ready, pending := none }))
      | e => k (.bool false) (H2.set y (.lp { r with state := .done, pending := some e }))) := by
    intro k
    show roundV (RUN tbl N d) N y args H k = _
    unfold roundV
    simp only [hg]
    rw [ha, Nat.beq_refl, cond_true, h1]
    simp only [hg, hr]
    rw [h2]
    simp only [hg2]
    cases e <;> rfl
  cases e with
  | normal =>
    have s3 : Sat (H2.set y (.lp { r with state := .ready, pending := none })) Z2 (.obj y (.lp { r with state := .ready, pending := none }) :: l2) := h3.upd rfl (fun c hc => get_set_ne hc) rfl (get_set_here ..)
    exact ⟨_, _, h4 _ s3, run⟩
  | exit i =>
    have s3 : Sat (H2.set y (.lp { r with state := .done, pending := some (.exit i) })) Z2 (.obj y (.lp { r with state := .done, pending := some (.exit i) }) :: l2) := h3.upd rfl (fun c hc => get_set_ne hc) rfl (get_set_here ..)
    exact ⟨_, _, h4 _ s3, run⟩
  | ret =>
    have s3 : Sat (H2.set y (.lp { r with state := .done, pending := some .ret })) Z2 (.obj y (.lp { r with state := .done, pending := some .ret }) :: l2) := h3.upd rfl (fun c hc => get_set_ne hc) rfl (get_set_here ..)
    exact ⟨_, _, h4 _ s3, run⟩
/-- what is left of a range at a function's end -/
theorem fin_d {fi : FnIR} {Q : AV → AH → Prop} {env : Env} {ds : List Nat} {H : AH} {Z : Fz} {l : List Hl} {e : Ex} {dd : Nat} (hs : Sat H Z (.obj dd (.dfd true) :: l)) (he : isExit e = false) (h : ∀ H', Sat H' Z (.obj dd (.dfd false) :: l) → Fin fi Q e env ds H') : Fin fi Q e env (dd :: ds) H := by
  have hg : H.get dd = some (.dfd true) := hs.getAt 0 rfl
  have s1 : Sat (H.set dd (.dfd false)) Z (.obj dd (.dfd false) :: l) := hs.upd rfl (fun c hc => get_set_ne hc) rfl (get_set_here ..)
  obtain ⟨v, H', h1, h2⟩ := h _ s1
  refine ⟨v, H', h1, fun k => ?_⟩
  refine Eq.trans ?_ (h2 k)
  cases e with
  | exit i => cases he
  | normal =>
    show closeAll (dd :: ds) H _ = _
    simp only [closeAll, hg]
    rfl
  | ret =>
    show closeAll (dd :: ds) H _ = _
    simp only [closeAll, hg]
    rfl
abbrev t0 : Od := .tmp 0
abbrev t1 : Od := .tmp 1
abbrev t2 : Od := .tmp 2
abbrev t3 : Od := .tmp 3
abbrev t4 : Od := .tmp 4
abbrev t5 : Od := .tmp 5
abbrev t6 : Od := .tmp 6
abbrev t7 : Od := .tmp 7
abbrev t8 : Od := .tmp 8
abbrev t9 : Od := .tmp 9
abbrev t10 : Od := .tmp 10
abbrev t11 : Od := .tmp 11
abbrev t12 : Od := .tmp 12
abbrev t13 : Od := .tmp 13
abbrev t14 : Od := .tmp 14
abbrev t15 : Od := .tmp 15
abbrev t16 : Od := .tmp 16
abbrev t17 : Od := .tmp 17
abbrev t18 : Od := .tmp 18
abbrev t19 : Od := .tmp 19
abbrev t20 : Od := .tmp 20
abbrev t21 : Od := .tmp 21
abbrev t22 : Od := .tmp 22
abbrev t23 : Od := .tmp 23
abbrev t24 : Od := .tmp 24
abbrev t25 : Od := .tmp 25
abbrev t26 : Od := .tmp 26
abbrev t27 : Od := .tmp 27
abbrev t28 : Od := .tmp 28
abbrev t29 : Od := .tmp 29
abbrev t30 : Od := .tmp 30
abbrev t31 : Od := .tmp 31
abbrev t32 : Od := .tmp 32
abbrev t33 : Od := .tmp 33
abbrev t34 : Od := .tmp 34
abbrev t35 : Od := .tmp 35
abbrev t36 : Od := .tmp 36
abbrev t37 : Od := .tmp 37
abbrev t38 : Od := .tmp 38
abbrev t39 : Od := .tmp 39
abbrev t40 : Od := .tmp 40
abbrev t41 : Od := .tmp 41
abbrev t42 : Od := .tmp 42
abbrev t43 : Od := .tmp 43
abbrev t44 : Od := .tmp 44
abbrev t45 : Od := .tmp 45
abbrev t46 : Od := .tmp 46
abbrev t47 : Od := .tmp 47
abbrev t48 : Od := .tmp 48
abbrev t49 : Od := .tmp 49
abbrev t50 : Od := .tmp 50
abbrev t51 : Od := .tmp 51
abbrev t52 : Od := .tmp 52
abbrev t53 : Od := .tmp 53
abbrev t54 : Od := .tmp 54
abbrev t55 : Od := .tmp 55
abbrev t56 : Od := .tmp 56
abbrev t57 : Od := .tmp 57
abbrev t58 : Od := .tmp 58
abbrev t59 : Od := .tmp 59
abbrev t60 : Od := .tmp 60
abbrev t61 : Od := .tmp 61
abbrev t62 : Od := .tmp 62
abbrev t63 : Od := .tmp 63
abbrev t64 : Od := .tmp 64
abbrev t65 : Od := .tmp 65
abbrev t66 : Od := .tmp 66
abbrev t67 : Od := .tmp 67
abbrev t68 : Od := .tmp 68
abbrev t69 : Od := .tmp 69
abbrev t70 : Od := .tmp 70
abbrev t71 : Od := .tmp 71
abbrev t72 : Od := .tmp 72
abbrev t73 : Od := .tmp 73
abbrev t74 : Od := .tmp 74
abbrev t75 : Od := .tmp 75
abbrev t76 : Od := .tmp 76
abbrev t77 : Od := .tmp 77
abbrev t78 : Od := .tmp 78
abbrev t79 : Od := .tmp 79
abbrev t80 : Od := .tmp 80
abbrev t81 : Od := .tmp 81
abbrev t82 : Od := .tmp 82
abbrev t83 : Od := .tmp 83
abbrev t84 : Od := .tmp 84
abbrev t85 : Od := .tmp 85
abbrev t86 : Od := .tmp 86
abbrev t87 : Od := .tmp 87
abbrev t88 : Od := .tmp 88
abbrev t89 : Od := .tmp 89
abbrev t90 : Od := .tmp 90
abbrev t91 : Od := .tmp 91
abbrev t92 : Od := .tmp 92
abbrev t93 : Od := .tmp 93
abbrev t94 : Od := .tmp 94
abbrev t95 : Od := .tmp 95
abbrev t96 : Od := .tmp 96
abbrev t97 : Od := .tmp 97
abbrev t98 : Od := .tmp 98
abbrev t99 : Od := .tmp 99
abbrev t100 : Od := .tmp 100
abbrev t101 : Od := .tmp 101
abbrev t102 : Od := .tmp 102
abbrev t103 : Od := .tmp 103
abbrev t104 : Od := .tmp 104
abbrev t105 : Od := .tmp 105
abbrev t106 : Od := .tmp 106
abbrev t107 : Od := .tmp 107
abbrev t108 : Od := .tmp 108
abbrev t109 : Od := .tmp 109
abbrev t110 : Od := .tmp 110
abbrev t111 : Od := .tmp 111
abbrev t112 : Od := .tmp 112
abbrev t113 : Od := .tmp 113
abbrev t114 : Od := .tmp 114
abbrev t115 : Od := .tmp 115
abbrev t116 : Od := .tmp 116
abbrev t117 : Od := .tmp 117
abbrev t118 : Od := .tmp 118
abbrev t119 : Od := .tmp 119
abbrev t120 : Od := .tmp 120
abbrev t121 : Od := .tmp 121
abbrev t122 : Od := .tmp 122
abbrev t123 : Od := .tmp 123
abbrev t124 : Od := .tmp 124
abbrev t125 : Od := .tmp 125
abbrev t126 : Od := .tmp 126
abbrev t127 : Od := .tmp 127
abbrev t128 : Od := .tmp 128
abbrev t129 : Od := .tmp 129
abbrev t130 : Od := .tmp 130
abbrev t131 : Od := .tmp 131
abbrev t132 : Od := .tmp 132
abbrev t133 : Od := .tmp 133
abbrev t134 : Od := .tmp 134
abbrev t135 : Od := .tmp 135
abbrev t136 : Od := .tmp 136
abbrev t137 : Od := .tmp 137
abbrev t138 : Od := .tmp 138
abbrev t139 : Od := .tmp 139
abbrev t140 : Od := .tmp 140
abbrev t141 : Od := .tmp 141
abbrev t142 : Od := .tmp 142
abbrev t143 : Od := .tmp 143
abbrev t144 : Od := .tmp 144
abbrev t145 : Od := .tmp 145
abbrev t146 : Od := .tmp 146
abbrev t147 : Od := .tmp 147
abbrev t148 : Od := .tmp 148
abbrev t149 : Od := .tmp 149
abbrev t150 : Od := .tmp 150
abbrev t151 : Od := .tmp 151
abbrev t152 : Od := .tmp 152
abbrev t153 : Od := .tmp 153
abbrev t154 : Od := .tmp 154
abbrev t155 : Od := .tmp 155
abbrev t156 : Od := .tmp 156
abbrev t157 : Od := .tmp 157
abbrev t158 : Od := .tmp 158
abbrev t159 : Od := .tmp 159
abbrev t160 : Od := .tmp 160
abbrev t161 : Od := .tmp 161
abbrev t162 : Od := .tmp 162
abbrev t163 : Od := .tmp 163
abbrev t164 : Od := .tmp 164
abbrev t165 : Od := .tmp 165
abbrev t166 : Od := .tmp 166
abbrev t167 : Od := .tmp 167
abbrev t168 : Od := .tmp 168
abbrev t169 : Od := .tmp 169
abbrev t170 : Od := .tmp 170
abbrev t171 : Od := .tmp 171
abbrev t172 : Od := .tmp 172
abbrev t173 : Od := .tmp 173
abbrev t174 : Od := .tmp 174
abbrev t175 : Od := .tmp 175
abbrev t176 : Od := .tmp 176
abbrev t177 : Od := .tmp 177
abbrev t178 : Od := .tmp 178
abbrev t179 : Od := .tmp 179
abbrev t180 : Od := .tmp 180
abbrev t181 : Od := .tmp 181
abbrev t182 : Od := .tmp 182
abbrev t183 : Od := .tmp 183
abbrev t184 : Od := .tmp 184
abbrev t185 : Od := .tmp 185
abbrev t186 : Od := .tmp 186
abbrev t187 : Od := .tmp 187
abbrev t188 : Od := .tmp 188
abbrev t189 : Od := .tmp 189
abbrev t190 : Od := .tmp 190
abbrev t191 : Od := .tmp 191
abbrev t192 : Od := .tmp 192
abbrev t193 : Od := .tmp 193
abbrev t194 : Od := .tmp 194
abbrev t195 : Od := .tmp 195
abbrev t196 : Od := .tmp 196
abbrev t197 : Od := .tmp 197
abbrev t198 : Od := .tmp 198
abbrev t199 : Od := .tmp 199
abbrev t200 : Od := .tmp 200
abbrev t201 : Od := .tmp 201
abbrev t202 : Od := .tmp 202
abbrev t203 : Od := .tmp 203
abbrev t204 : Od := .tmp 204
abbrev t205 : Od := .tmp 205
abbrev t206 : Od := .tmp 206
abbrev t207 : Od := .tmp 207
abbrev t208 : Od := .tmp 208
abbrev t209 : Od := .tmp 209
abbrev t210 : Od := .tmp 210
abbrev t211 : Od := .tmp 211
abbrev t212 : Od := .tmp 212
abbrev t213 : Od := .tmp 213
abbrev t214 : Od := .tmp 214
abbrev t215 : Od := .tmp 215
abbrev t216 : Od := .tmp 216
abbrev t217 : Od := .tmp 217
abbrev t218 : Od := .tmp 218
abbrev t219 : Od := .tmp 219
abbrev t220 : Od := .tmp 220
abbrev t221 : Od := .tmp 221
abbrev t222 : Od := .tmp 222
abbrev t223 : Od := .tmp 223
abbrev t224 : Od := .tmp 224
abbrev t225 : Od := .tmp 225
abbrev t226 : Od := .tmp 226
abbrev t227 : Od := .tmp 227
abbrev t228 : Od := .tmp 228
abbrev t229 : Od := .tmp 229
abbrev t230 : Od := .tmp 230
abbrev t231 : Od := .tmp 231
abbrev t232 : Od := .tmp 232
abbrev t233 : Od := .tmp 233
abbrev t234 : Od := .tmp 234
abbrev t235 : Od := .tmp 235
abbrev t236 : Od := .tmp 236
abbrev t237 : Od := .tmp 237
abbrev t238 : Od := .tmp 238
abbrev t239 : Od := .tmp 239
abbrev t240 : Od := .tmp 240
abbrev t241 : Od := .tmp 241
abbrev t242 : Od := .tmp 242
abbrev t243 : Od := .tmp 243
abbrev t244 : Od := .tmp 244
abbrev t245 : Od := .tmp 245
abbrev t246 : Od := .tmp 246
abbrev t247 : Od := .tmp 247
abbrev t248 : Od := .tmp 248
abbrev t249 : Od := .tmp 249
abbrev u_ : AV := .tup []
abbrev mv (d : Nat) (x : Od) : XOper := ⟨some d, .mv x, none⟩
abbrev xo (d : Nat) (o : XOp) : XOper := ⟨some d, o, none⟩
end
end Go.Jt
