/-
  The abstract run is true to the model's walk: code.
-/
import Derived.Test.YtlhlgmodhblplaaJtRun1
import Derived.RangeFuncNested
set_option autoImplicit false
set_option linter.all false
namespace Go.Jt
open Go.RowKit (Below)
variable [Gl]

theorem exists_least {p : Nat → Prop} : (∃ n, p n) → ∃ n, p n ∧ ∀ m, p m → n ≤ m := by
  intro ⟨n, hn⟩
  induction n using Nat.strongRecOn with
  | _ n ih =>
    by_cases h : ∃ m, m < n ∧ p m
    · obtain ⟨m, hm, hp⟩ := h
      exact ih m hm hp
    · refine ⟨n, hn, fun m hp => ?_⟩
      rcases Nat.lt_or_ge m n with h' | h'
      · exact absurd ⟨m, h', hp⟩ h
      · exact h'
open Classical in
noncomputable def least (p : Nat → Prop) : Nat := if h : ∃ n, p n then (exists_least h).choose else 0
theorem least_spec {p : Nat → Prop} {n : Nat} (h : p n) : p (least p) ∧ least p ≤ n := by
  have hx : ∃ n, p n := ⟨n, h⟩
  unfold least
  rw [dif_pos hx]
  have := (exists_least hx).choose_spec
  exact ⟨this.1, this.2 n h⟩

def rdR (ι : Io) (rd ro : Option Nat) : Prop := match rd, ro with
  | none, none => True
  | some l, some b => ∃ L, ι l = some L ∧ L.blk = b
  | _, _ => False
theorem rdR.mono {ι ι' : Io} (hle : ι.le ι') {rd ro : Option Nat} (h : rdR ι rd ro) : rdR ι' rd ro := by
  unfold rdR at *
  split at h
  · trivial
  · obtain ⟨L, h1, h2⟩ := h
    exact ⟨L, hle _ _ h1, h2⟩
  · exact h.elim
inductive defR (ι : Io) : List Nat → List Deferred → Prop
  | nil : defR ι [] []
  | cons (d : Nat) (ds : List Nat) (x : List Deferred) (L : Loc) (h : ι d = some L) (t : defR ι ds x) : defR ι (d :: ds) ({ target := .collected L.blk, args := #[] } :: x)
theorem defR.mono {ι ι' : Io} (hle : ι.le ι') {ds : List Nat} {x : List Deferred} (h : defR ι ds x) : defR ι' ds x := by
  induction h with
  | nil => exact .nil
  | cons d ds x L h t ih => exact .cons d ds x L (hle _ _ h) ih
def exitR : Ex → Exit → Prop
  | .normal, .normal => True
  | .exit i, .exit j => i = j
  | .ret, .ret => True
  | _, _ => False

section
variable {P : Program} {base : Nat} {cl : Cl} {ro : Option Nat}

/-- regions whose order is open, run in one order, are true to the model's walk in whichever -/
def DregS (P : Program) (cl : Cl) : Prop := ∀ (ops : Array Oper) (first : List DStep) (rest : List (XOper × List DStep)) (base : Nat) (ι : Io) (H : AH) (w : World) (env : Env) (a : Act) (ro : Option Nat) (id : Nat) (Q : Exit → Act → World → Prop) (kk : Env → AH → Bool),
  compD P ops = .dreg first rest → HR P base ι H w → rowR ι env a.tmps → runD cl first env H (fun env H => runS cl rest env H kk) = true →
  (∀ env' H' ι' a' w', Nx P base ι H w ι' H' w' → rowR ι' env' a'.tmps → a'.defers = a.defers → kk env' H' = true → Q .normal a' w') → (Code.region id ops true).wpIn (FW ro) 0 P Q a w

theorem HR.loopAt {ι : Io} {H : AH} {w : World} (h : HR P base ι H w) {b : Nat} {r : ALoop} {L : Loc} (hb : H.get b = some (.lp r)) (hi : ι b = some L) :
    ∃ c, w.heap[L.blk]? = some (.loop c) ∧ lstR r.state c.state ∧ pendR r.pending c.pending ∧ rowR ι r.tmps c.tmps ∧ r.params = c.params.toList ∧ r.asg = compC P c.assign ∧ r.body = compC P c.body ∧ (∃ Ld, ι r.defers = some Ld ∧ c.defers = Ld.blk) ∧ base ≤ L.blk := by
  obtain ⟨c, hc, ho⟩ := h.obj b _ L hb hi
  cases ho with
  | lp _ c h1 h2 h3 h4 h5 h6 Ld h7 h8 hbase => exact ⟨c, hc, h1, h2, h3, h4, h5, h6, ⟨Ld, h7, h8⟩, hbase⟩
theorem putObj_up {w : World} {b : Nat} {o o' : Obj} (h : w.heap[b]? = some o) : Up w (w.putObj b o') b o' := up_setObj b o o' h
theorem OR_lp {ι : Io} {L : Loc} {r : ALoop} {c : Loop} (h1 : lstR r.state c.state) (h2 : pendR r.pending c.pending) (h3 : rowR ι r.tmps c.tmps) (h4 : r.params = c.params.toList) (h5 : r.asg = compC P c.assign) (h6 : r.body = compC P c.body)
    (h7 : ∃ Ld, ι r.defers = some Ld ∧ c.defers = Ld.blk) (hb : base ≤ L.blk) : OR P base ι L (.lp r) (.loop c) := by
  obtain ⟨Ld, h8, h9⟩ := h7
  exact .lp r c h1 h2 h3 h4 h5 h6 Ld h8 h9 hb

/-- what is asked behind a piece of code -/
def PostOf (P : Program) (base : Nat) (ι : Io) (H : AH) (w : World) (k : Kc) (Q : Exit → Act → World → Prop) : Prop :=
  ∀ e env' ds' H' ι' a' w' ce, Nx P base ι H w ι' H' w' → rowR ι' env' a'.tmps → defR ι' ds' a'.defers → exitR e ce → k e env' ds' H' = true → Q ce a' w'

/-- the end of a range over a function -/
theorem endLoop_sound {ι ι' : Io} {H H' : AH} {w w' : World} {l b : Nat} {L : Loc} {env : Env} {ds' : List Nat} {a : Act} {k : Kc} {Q : Exit → Act → World → Prop} (hnx : Nx P base ι H w ι' H' w') (hL : ι' l = some L) (hb : L.blk = b) (he : rowR ι' env a.tmps) (hd : defR ι' ds' a.defers)
    (hk : (match H'.get l with
      | some (.lp r) => match r.state with
        | .busy => false
        | _ => (match r.pending with
          | none => k .normal env ds' (H'.set l (.lp { r with state := .exhausted }))
          | some e => k e env ds' (H'.set l (.lp { r with state := .exhausted })))
      | _ => false) = true) (hp : PostOf P base ι H w k Q) : ∃ jump w₄, (Instr.endLoop b).run P w' = .ok jump w₄ ∧ (match jump with
       | none => Q .normal a w₄
       | some c => c.wpIn (FW ro) 0 P Q a w₄) := by
  subst hb
  split at hk
  · rename_i r hg
    obtain ⟨c, hc, h1, h2, h3, h4, h5, h6, h7, hbase⟩ := hnx.hr.loopAt hg hL
    have hne : c.state ≠ .busy := fun e => by
      rw [e] at h1
      cases hs : r.state <;> rw [hs] at h1 hk <;> first | (exact h1.elim) | (cases hk)
    have hk' : (match r.pending with
          | none => k .normal env ds' (H'.set l (.lp { r with state := .exhausted }))
          | some e => k e env ds' (H'.set l (.lp { r with state := .exhausted }))) = true := by
      cases hs : r.state <;> rw [hs] at hk <;> first | (cases hk; done) | exact hk
    have hnx2 := hnx.hr.updNx hg hL (putObj_up (o' := .loop { c with state := .exhausted }) hc) (OR_lp (r := { r with state := .exhausted }) trivial h2 h3 h4 h5 h6 h7 hbase) hbase
    refine ⟨c.pending, _, run_endLoop hc hne, ?_⟩
    have hnx3 := hnx.trans hnx2
    cases hpd : r.pending with
    | none =>
      rw [hpd] at hk' h2 hnx3
      cases hcp : c.pending with
      | none => rw [hcp] at hnx3; exact hp .normal env ds' _ _ a _ .normal hnx3 he hd trivial hk'
      | some cc => rw [hcp] at h2; exact h2.elim
    | some e =>
      rw [hpd] at hk' h2 hnx3
      cases hcp : c.pending with
      | none => rw [hcp] at h2; exact h2.elim
      | some cc =>
        rw [hcp] at h2 hnx3
        cases e with
        | normal => exact h2.elim
        | exit id =>
          cases cc <;> try (exact h2.elim)
          rename_i id'
          have : id = id' := h2
          subst this
          exact wpIn_exit (hp (.exit id) env ds' _ _ a _ (.exit id) hnx3 he hd rfl hk')
        | ret =>
          cases cc <;> try (exact h2.elim)
          exact wpIn_ret (hp .ret env ds' _ _ a _ .ret hnx3 he hd trivial hk')
  · cases hk

theorem isFn_inv {v : AV} {k : Bool} (h : cond (isFn v) k false = true) : (∃ g x y, v = .fn (.fn (.func g)) x y) ∧ k = true := by
  obtain ⟨h1, h2⟩ := cond_true_inv h
  unfold isFn at h1
  split at h1
  · exact ⟨⟨_, _, _, rfl⟩, h2⟩
  · cases h1
theorem row_yld {ι : Io} {l : Nat} {L : Loc} (h : ι l = some L) : rowR ι [.fn (.yld l) [] []] #[.func (.yield L.blk) #[] #[]] := by
  refine ⟨rfl, fun i => ?_⟩
  match i with
  | 0 => exact .fn _ _ _ _ _ _ (.yld l L h) rfl (fun i => by simp only [List.getD_nil]; exact .undef _) rfl (fun i => by simp only [List.getD_nil]; exact .undef _)
  | i + 1 =>
    have e1 : [AV.fn (.yld l) [] []].getD (i + 1) .undef = .undef := by simp
    rw [e1]; exact .undef _

/-- the call of a range over a function, its record laid -/
theorem rfn_call {ι : Io} {H : AH} {w : World} {l : Nat} {L : Loc} {env : Env} {a : Act} {f : Operand} {K : AV → AH → Bool} (hcl : ClS P cl) (hr : HR P base ι H w) (hL : ι l = some L) (he : rowR ι env a.tmps) (hfn : ∃ g x y, ev env (od f) = .fn (.fn (.func g)) x y)
    (h : cl (ev env (od f)) [.fn (.yld l) [] []] H K = true) : ∃ d w1 g args w2, (resolve a.eval (rangeCall f L.blk) 0).run P w = .ok d w1 ∧ (invoke d.target d.args).run P w1 = .ok (.enter g args) w2 ∧ CallsIn Fence.wide 0 P g args w2 (EndR P base ι H w K) := by
  have h2 := hcl base ι H w _ _ K _ _ hr (ev_sound he f) (row_yld hL) h
  have hv := ev_sound he f
  obtain ⟨g, x, y, e⟩ := hfn
  rcases h2 with ⟨g', args, w1, hrun, hc⟩ | ⟨hno, _⟩
  · rw [e] at hv
    generalize hfv : a.eval f = fv at hv hrun
    cases hv with
    | fn _ f' _ _ first' cap' hf =>
      have hres : (resolve a.eval (rangeCall f L.blk) 0).run P w = .ok { target := .fn f' cap', args := first' ++ #[.func (.yield L.blk) #[] #[]] } w := by
        have hc2 : ∀ v, a.eval (.const v) = v := fun _ => rfl
        simp [resolve, rangeCall, hfv, Deferred.ofValue, hc2]
      refine ⟨_, w, g', args, w1, hres, ?_, hc⟩
      simpa [Deferred.ofValue] using hrun
  · exact absurd ⟨⟨g, x, y, e⟩, ⟨l, rfl⟩⟩ hno
end
end Go.Jt
