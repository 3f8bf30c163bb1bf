/-
  The abstract run is true to the model's walk: one operation, calls of function values, regions whose order is fixed.
-/
import Derived.Test.YtlhlgmodhblplaaJtOpsB
import Derived.RangeFuncNested
import Derived.Laws.Externs
import Derived.Laws.NewFold
set_option autoImplicit false
set_option linter.all false
namespace Go.Jt
open Go.RowKit (Below)
variable [Gl]

/-- the fence that lets all in; in a round of a loop, or in none -/
def FW (ro : Option Nat) : Fence := { Fence.wide with round := ro }
theorem FW_fn (ro : Option Nat) (f : FuncId) : (FW ro).fn f := trivial
theorem FW_room (ro : Option Nat) (n : Nat) : (FW ro).room n := fun _ h => by simp [FW, Fence.wide] at h
theorem FW_depth (ro : Option Nat) (n : Nat) : (FW ro).depth.isSome = true → 1 ≤ n := fun h => by simp [FW, Fence.wide] at h
theorem FW_round (ro : Option Nat) : (FW ro).round = ro := rfl
theorem FW_none : FW none = Fence.wide := rfl
theorem FW_calls {ro : Option Nat} {n : Nat} {P : Program} {f : FuncId} {args : Array Value} {w : World} {R : Ending → World → Prop} (h : CallsIn Fence.wide n P f args w R) : CallsIn (FW ro) n P f args w R := h
theorem FW_rounds {ro : Option Nat} {n : Nat} {P : Program} {l : Nat} {f : FuncId} {tmps : Array Value} {x y : Code} {w : World} {R : Ending → World → Prop} (h : RoundIn Fence.wide n P l f tmps x y w R) : RoundIn (FW ro) n P l f tmps x y w R := h

section
variable {P : Program} {base : Nat} {ι : Io} {H : AH} {w : World} {k : AV → AH → Bool} {env : Env} {a : Act} {cl : Cl} {ro : Option Nat}

/-- what is asked of a call's ending -/
def EndR (P : Program) (base : Nat) (ι : Io) (H : AH) (w : World) (k : AV → AH → Bool) : Ending → World → Prop := fun e w' =>
  ∃ cv v H' ι', e = .returned cv ∧ Nx P base ι H w ι' H' w' ∧ VR ι' v cv ∧ k v H' = true
/-- what a call comes to; 'only': it enters a function -/
def UP (P : Program) (base : Nat) (ι : Io) (H : AH) (w : World) (k : AV → AH → Bool) (only : Prop) (r : Result Next) : Prop :=
  (∃ f args w1, r = .ok (.enter f args) w1 ∧ CallsIn Fence.wide 0 P f args w1 (EndR P base ι H w k)) ∨
  (¬ only ∧ (Res P base ι H w k r ∨ ∃ l f tmps x y w1, r = .ok (.round l f tmps x y) w1 ∧ RoundIn Fence.wide 0 P l f tmps x y w1 (EndR P base ι H w k)))
def onlyF (v : AV) (args : List AV) : Prop := (∃ g first cap, v = .fn (.fn (.func g)) first cap) ∧ ∃ l, args = [.fn (.yld l) [] []]
/-- the abstract calls are true to the model's -/
def ClS (P : Program) (cl : Cl) : Prop := ∀ (base : Nat) (ι : Io) (H : AH) (w : World) (v : AV) (args : List AV) (k : AV → AH → Bool) (cv : Value) (cargs : Array Value),
  HR P base ι H w → VR ι v cv → rowR ι args cargs → cl v args H k = true → UP P base ι H w k (onlyF v args) ((do let d ← Deferred.ofValue cv cargs; invoke d.target d.args).run P w)

theorem upon_UP {o : Oper} {only : Prop} {next : Act → World → Prop} {Q : Exit → Act → World → Prop} {r : Result Next} (h : UP P base ι H w k only r)
    (hk : ∀ v H' ι' cv w', Nx P base ι H w ι' H' w' → VR ι' v cv → k v H' = true → next (a.put o.dst cv) w') : o.uponIn (FW ro) 0 P a next Q r := by
  have back : ∀ e w', EndR P base ι H w k e w' → (match e, w' with
    | .returned v, w'' => next (a.put o.dst v) w''
    | .panicked chain, w'' => Q (.panic chain) a w''
    | .outgrown, _ => LetsOut Q) := fun e w' hh => by
    obtain ⟨cv, v, H', ι', rfl, hnx, hv, hkk⟩ := hh
    exact hk v H' ι' cv w' hnx hv hkk
  rcases h with ⟨f, args, w1, rfl, hc⟩ | ⟨_, ⟨v, H', ι', nx, w', rfl, hnx, hv, hkk⟩ | ⟨l, f, tmps, x, y, w1, rfl, hc⟩⟩
  · rw [Oper.uponIn_enter]
    exact ⟨FW_depth ro 0, (FW_calls hc).mono back⟩
  · cases nx <;> first | (exact hv.elim) | skip
    · exact hk v H' ι' _ w' hnx hv hkk
    · exact hk v H' ι' _ w' hnx hv hkk
  · rw [Oper.uponIn_round]
    exact ⟨FW_depth ro 0, (FW_rounds hc).mono back⟩

theorem rowR_put {dst : Option Tmp} {v : AV} {cv : Value} (he : rowR ι env a.tmps) (hv : VR ι v cv) : rowR ι (setd dst v env) (a.put dst cv).tmps := by
  cases dst with
  | none => exact he
  | some d =>
    show rowR ι (lset env d v) (a.tmps.setIfInBounds d cv)
    rw [lset_eq]
    refine ⟨by simp [he.1], fun i => ?_⟩
    rw [List.getD_eq_getElem?_getD, List.getElem?_set, Array.getD_eq_getD_getElem?, Array.getElem?_setIfInBounds]
    have h2 := he.2 i
    rw [List.getD_eq_getElem?_getD, Array.getD_eq_getD_getElem?] at h2
    by_cases hd : d = i
    · subst hd
      by_cases hl : d < env.length
      · have hl' : d < a.tmps.size := by rw [← he.1]; exact hl
        simp [hl, hl']
        exact hv
      · have hl' : ¬ d < a.tmps.size := by rw [← he.1]; exact hl
        simp [hl, hl']
        exact .undef _
    · simp only [if_neg hd]
      exact h2
theorem put_defers (dst : Option Tmp) (v : Value) : (a.put dst v).defers = a.defers := by cases dst <;> rfl

theorem readG_call {b : Bool} {n : Nat} {r : Option (Rp AV)} {f : Od} {as : List Od} : readG b n r ≠ .call f as := by
  intro h
  unfold readG at h
  split at h
  · revert h
    simp only [Bool.cond_eq_ite]
    (repeat' split) <;> (intro h; cases h)
  · cases h
theorem compOp_call {o : Oper} {f : Od} {as : List Od} (h : compOp P o = .call f as) : ∃ c g, o.op = .call c ∧ c.callee = .value g ∧ f = od g ∧ as = c.args.toList.map od := by
  unfold compOp at h
  split at h <;> try (cases h; done)
  all_goals try (repeat' split at h) <;> try first | (exact absurd h readG_call) | (cases h; done)
  all_goals first
    | (exact absurd h readG_call)
    | (exfalso; revert h; simp only [Bool.cond_eq_ite]; (repeat' split) <;> (intro h; cases h); done)
    | skip
  rename_i c g hc
  cases h
  exact ⟨_, _, by assumption, by assumption, rfl, rfl⟩

theorem compOp_defer {o : Oper} {c : Call} (h : o.op = .defer c) : compOp P o = .bad := by unfold compOp; rw [h]
theorem act_sound (hcl : ClS P cl) {o : Oper} {next : Act → World → Prop} {Q : Exit → Act → World → Prop} (hr : HR P base ι H w) (he : rowR ι env a.tmps) (hx : act cl (compOp P o) env H k = true)
    (hk : ∀ v H' ι' cv w', Nx P base ι H w ι' H' w' → VR ι' v cv → k v H' = true → next (a.put o.dst cv) w') : o.wpIn (FW ro) 0 P a w next Q := by
  refine ⟨fun f _ => FW_fn ro f, ?_⟩
  have hd : ∀ c, o.op ≠ .defer c := fun c h => by rw [compOp_defer h] at hx; cases hx
  rw [Oper.semAt_eq _ _ _ hd]
  by_cases hc : ∃ f as, compOp P o = .call f as
  · obtain ⟨f, as, hc⟩ := hc
    rw [hc] at hx
    obtain ⟨c, g, ho, hcal, rfl, rfl⟩ := compOp_call hc
    have h1 := rowR_map he c.args.toList
    have e1 : (c.args.toList.map a.eval).toArray = c.args.map a.eval := by rw [← Array.toList_map, Array.toArray_toList]
    rw [e1] at h1
    have h2 := hcl base ι H w _ _ k _ _ hr (ev_sound he g) h1 hx
    have h3 : execOp a.eval o = (do let d ← Deferred.ofValue (a.eval g) (c.args.map a.eval); invoke d.target d.args) := by
      simp only [execOp, ho, resolve, hcal]
    rw [h3]
    exact upon_UP h2 hk
  · have hx' : xop (compOp P o) env H k = true := by
      unfold act at hx
      split at hx
      · exact absurd ⟨_, _, by assumption⟩ hc
      · exact hx
    exact upon_UP (only := False) (Or.inr ⟨id, Or.inl (sound_op o hr he hx')⟩) hk

theorem wants_sound {ops : Array Oper} {o : Oper} {g : Option (Nat × Bool)} {yes no : Unit → Bool} (hg : compG ops o = some g) (he : rowR ι env a.tmps) (h : wants g env yes no = true) :
    (Region.wanted o (yielded ops a.tmps) = true ∧ yes () = true) ∨ (Region.wanted o (yielded ops a.tmps) = false ∧ no () = true) := by
  unfold compG at hg
  split at hg
  · rename_i ho
    cases hg
    exact Or.inl ⟨by simp [Region.wanted, ho], h⟩
  · rename_i j wt ho
    split at hg
    · rename_i t ht
      cases hg
      simp only [wants] at h
      have hv := he.2 t
      rw [← lget_eq] at hv
      split at h
      · rename_i b hb
        rw [hb] at hv
        have hv' := hv.bool_inv
        have hin : a.tmps[t]? = some (.bool b) := by
          rw [Array.getD_eq_getD_getElem?] at hv'
          cases ht' : a.tmps[t]? with
          | none => rw [ht'] at hv'; cases hv'
          | some x => rw [ht'] at hv'; simp at hv'; rw [hv']
        have hy : yielded ops a.tmps j = some b := by simp [yielded, ht, hin]
        cases b <;> cases wt
        · exact Or.inl ⟨by simp [Region.wanted, ho, hy], h⟩
        · exact Or.inr ⟨by simp [Region.wanted, ho, hy], h⟩
        · exact Or.inr ⟨by simp [Region.wanted, ho, hy], h⟩
        · exact Or.inl ⟨by simp [Region.wanted, ho, hy], h⟩
      · rename_i hb
        rw [hb] at hv
        refine Or.inr ⟨?_, h⟩
        have hn : yielded ops a.tmps j = none := by
          unfold yielded
          rw [ht]
          simp only [Option.bind_some]
          cases ht' : a.tmps[t]? with
          | none => rfl
          | some x =>
            rw [Array.getD_eq_getD_getElem?, ht'] at hv
            simp at hv
            cases hv
            rfl
        simp [Region.wanted, ho, hn]
      · cases h
    · cases hg
theorem compO_inv {ops : Array Oper} {o : Oper} {x : XOper} (h : compO P ops o = some x) : ∃ g, compG ops o = some g ∧ x = ⟨o.dst, compOp P o, g⟩ := by
  unfold compO at h
  split at h
  · cases h; exact ⟨_, by assumption, rfl⟩
  · cases h
theorem VR_skip (ι : Io) : VR ι (.tup []) Go.undef := .tup _ _ rfl (fun i => by simp only [List.getD_nil]; exact .undef _)

theorem stepOp_sound (hcl : ClS P cl) {ops : Array Oper} {i : Nat} {o : Oper} {x : XOper} {K : Act → World → Prop} {Q : Exit → Act → World → Prop} {kk : Env → AH → Bool} (hc : compO P ops o = some x) (hi : ops[i]? = some o)
    (hr : HR P base ι H w) (he : rowR ι env a.tmps) (hx : stepOp cl x env H kk = true)
    (hk : ∀ env' H' ι' a' w', Nx P base ι H w ι' H' w' → rowR ι' env' a'.tmps → a'.defers = a.defers → kk env' H' = true → K a' w') : wpOpIn (FW ro) 0 P ops Q i K a w := by
  obtain ⟨g, hg, rfl⟩ := compO_inv hc
  unfold wpOpIn
  simp only [hi]
  rcases wants_sound hg he hx with ⟨h1, h2⟩ | ⟨h1, h2⟩
  · rw [if_pos h1]
    exact act_sound hcl hr he h2 (fun v H' ι' cv w' hnx hv hkk => hk _ H' ι' _ w' hnx (rowR_put (he.mono hnx.le) hv) (put_defers _ _) hkk)
  · rw [if_neg (by rw [h1]; exact Bool.false_ne_true)]
    exact ⟨fun f _ => FW_fn ro f, hk _ H ι _ w (Nx.refl hr) (rowR_put he (VR_skip ι)) (put_defers _ _) h2⟩

theorem runOps_sound (hcl : ClS P cl) {ops : Array Oper} {Q : Exit → Act → World → Prop} {kk : Env → AH → Bool} : ∀ (l : List Oper) (s : Nat) (xs : List XOper) (ι : Io) (H : AH) (w : World) (env : Env) (a : Act), compL P ops l = some xs → (∀ j, j < l.length → ops[s + j]? = l[j]?) →
    HR P base ι H w → rowR ι env a.tmps → runOps cl xs env H kk = true →
    (∀ env' H' ι' a' w', Nx P base ι H w ι' H' w' → rowR ι' env' a'.tmps → a'.defers = a.defers → kk env' H' = true → Q .normal a' w') → wpOpsIn (FW ro) 0 P ops Q (List.range' s l.length) a w
  | [], s, xs, ι, H, w, env, a, hc, hl, hr, he, hx, hk => by
    cases hc
    exact hk env H ι a w (Nx.refl hr) he rfl hx
  | o :: l, s, xs, ι, H, w, env, a, hc, hl, hr, he, hx, hk => by
    unfold compL at hc
    split at hc
    · rename_i x r h1 h2
      cases hc
      rw [List.length_cons, List.range'_succ, wpOpsIn_cons]
      refine stepOp_sound hcl h1 (by have := hl 0 (by simp); simpa using this) hr he (show stepOp cl x env H (fun env H => runOps cl r env H kk) = true from hx) (fun env' H' ι' a' w' hnx he' hd hkk => ?_)
      refine runOps_sound hcl l (s + 1) r ι' H' w' env' a' h2 (fun j hj => ?_) hnx.hr he' hkk (fun env2 H2 ι2 a2 w2 hnx2 he2 hd2 hk2 => hk env2 H2 ι2 a2 w2 (hnx.trans hnx2) he2 (hd2.trans hd) hk2)
      have := hl (j + 1) (by simpa using hj)
      rw [show s + 1 + j = s + (j + 1) by omega]
      simpa using this
    · cases hc
end
end Go.Jt
set_option autoImplicit false
set_option linter.all false
namespace Go.Jt
open Go.RowKit (Below)
variable [Gl]

theorem exists_least {p : Nat → Prop} : (∃ n, p n) → ∃ n, p n ∧ ∀ m, p m → n ≤ m := by
  intro ⟨n, hn⟩
  induction n using Nat.strongRecOn with
  | _ n ih =>
    by_cases h : ∃ m, m < n ∧ p m
    · obtain ⟨m, hm, hp⟩ := h
      exact ih m hm hp
    · refine ⟨n, hn, fun m hp => ?_⟩
      rcases Nat.lt_or_ge m n with h' | h'
      · exact absurd ⟨m, h', hp⟩ h
      · exact h'
open Classical in
noncomputable def least (p : Nat → Prop) : Nat := if h : ∃ n, p n then (exists_least h).choose else 0
theorem least_spec {p : Nat → Prop} {n : Nat} (h : p n) : p (least p) ∧ least p ≤ n := by
  have hx : ∃ n, p n := ⟨n, h⟩
  unfold least
  rw [dif_pos hx]
  have := (exists_least hx).choose_spec
  exact ⟨this.1, this.2 n h⟩

def rdR (ι : Io) (rd ro : Option Nat) : Prop := match rd, ro with
  | none, none => True
  | some l, some b => ∃ L, ι l = some L ∧ L.blk = b
  | _, _ => False
theorem rdR.mono {ι ι' : Io} (hle : ι.le ι') {rd ro : Option Nat} (h : rdR ι rd ro) : rdR ι' rd ro := by
  unfold rdR at *
  split at h
  · trivial
  · obtain ⟨L, h1, h2⟩ := h
    exact ⟨L, hle _ _ h1, h2⟩
  · exact h.elim
inductive defR (ι : Io) : List Nat → List Deferred → Prop
  | nil : defR ι [] []
  | cons (d : Nat) (ds : List Nat) (x : List Deferred) (L : Loc) (h : ι d = some L) (t : defR ι ds x) : defR ι (d :: ds) ({ target := .collected L.blk, args := #[] } :: x)
theorem defR.mono {ι ι' : Io} (hle : ι.le ι') {ds : List Nat} {x : List Deferred} (h : defR ι ds x) : defR ι' ds x := by
  induction h with
  | nil => exact .nil
  | cons d ds x L h t ih => exact .cons d ds x L (hle _ _ h) ih
def exitR : Ex → Exit → Prop
  | .normal, .normal => True
  | .exit i, .exit j => i = j
  | .ret, .ret => True
  | _, _ => False

section
variable {P : Program} {base : Nat} {cl : Cl} {ro : Option Nat}

/-- regions whose order is open, run in one order, are true to the model's walk in whichever -/
def DregS (P : Program) (cl : Cl) : Prop := ∀ (ops : Array Oper) (first : List DStep) (rest : List (XOper × List DStep)) (base : Nat) (ι : Io) (H : AH) (w : World) (env : Env) (a : Act) (ro : Option Nat) (id : Nat) (Q : Exit → Act → World → Prop) (kk : Env → AH → Bool),
  compD P ops = .dreg first rest → HR P base ι H w → rowR ι env a.tmps → runD cl first env H (fun env H => runS cl rest env H kk) = true →
  (∀ env' H' ι' a' w', Nx P base ι H w ι' H' w' → rowR ι' env' a'.tmps → a'.defers = a.defers → kk env' H' = true → Q .normal a' w') → (Code.region id ops true).wpIn (FW ro) 0 P Q a w

theorem HR.loopAt {ι : Io} {H : AH} {w : World} (h : HR P base ι H w) {b : Nat} {r : ALoop} {L : Loc} (hb : H.get b = some (.lp r)) (hi : ι b = some L) :
    ∃ c, w.heap[L.blk]? = some (.loop c) ∧ lstR r.state c.state ∧ pendR r.pending c.pending ∧ rowR ι r.tmps c.tmps ∧ r.params = c.params.toList ∧ r.asg = compC P c.assign ∧ r.body = compC P c.body ∧ (∃ Ld, ι r.defers = some Ld ∧ c.defers = Ld.blk) ∧ base ≤ L.blk := by
  obtain ⟨c, hc, ho⟩ := h.obj b _ L hb hi
  cases ho with
  | lp _ c h1 h2 h3 h4 h5 h6 Ld h7 h8 hbase => exact ⟨c, hc, h1, h2, h3, h4, h5, h6, ⟨Ld, h7, h8⟩, hbase⟩
theorem putObj_up {w : World} {b : Nat} {o o' : Obj} (h : w.heap[b]? = some o) : Up w (w.putObj b o') b o' := up_setObj b o o' h
theorem OR_lp {ι : Io} {L : Loc} {r : ALoop} {c : Loop} (h1 : lstR r.state c.state) (h2 : pendR r.pending c.pending) (h3 : rowR ι r.tmps c.tmps) (h4 : r.params = c.params.toList) (h5 : r.asg = compC P c.assign) (h6 : r.body = compC P c.body)
    (h7 : ∃ Ld, ι r.defers = some Ld ∧ c.defers = Ld.blk) (hb : base ≤ L.blk) : OR P base ι L (.lp r) (.loop c) := by
  obtain ⟨Ld, h8, h9⟩ := h7
  exact .lp r c h1 h2 h3 h4 h5 h6 Ld h8 h9 hb

/-- what is asked behind a piece of code -/
def PostOf (P : Program) (base : Nat) (ι : Io) (H : AH) (w : World) (k : Kc) (Q : Exit → Act → World → Prop) : Prop :=
  ∀ e env' ds' H' ι' a' w' ce, Nx P base ι H w ι' H' w' → rowR ι' env' a'.tmps → defR ι' ds' a'.defers → exitR e ce → k e env' ds' H' = true → Q ce a' w'

/-- the end of a range over a function -/
theorem endLoop_sound {ι ι' : Io} {H H' : AH} {w w' : World} {l b : Nat} {L : Loc} {env : Env} {ds' : List Nat} {a : Act} {k : Kc} {Q : Exit → Act → World → Prop} (hnx : Nx P base ι H w ι' H' w') (hL : ι' l = some L) (hb : L.blk = b) (he : rowR ι' env a.tmps) (hd : defR ι' ds' a.defers)
    (hk : (match H'.get l with
      | some (.lp r) => match r.state with
        | .busy => false
        | _ => (match r.pending with
          | none => k .normal env ds' (H'.set l (.lp { r with state := .exhausted }))
          | some e => k e env ds' (H'.set l (.lp { r with state := .exhausted })))
      | _ => false) = true) (hp : PostOf P base ι H w k Q) : ∃ jump w₄, (Instr.endLoop b).run P w' = .ok jump w₄ ∧ (match jump with
       | none => Q .normal a w₄
       | some c => c.wpIn (FW ro) 0 P Q a w₄) := by
  subst hb
  split at hk
  · rename_i r hg
    obtain ⟨c, hc, h1, h2, h3, h4, h5, h6, h7, hbase⟩ := hnx.hr.loopAt hg hL
    have hne : c.state ≠ .busy := fun e => by
      rw [e] at h1
      cases hs : r.state <;> rw [hs] at h1 hk <;> first | (exact h1.elim) | (cases hk)
    have hk' : (match r.pending with
          | none => k .normal env ds' (H'.set l (.lp { r with state := .exhausted }))
          | some e => k e env ds' (H'.set l (.lp { r with state := .exhausted }))) = true := by
      cases hs : r.state <;> rw [hs] at hk <;> first | (cases hk; done) | exact hk
    have hnx2 := hnx.hr.updNx hg hL (putObj_up (o' := .loop { c with state := .exhausted }) hc) (OR_lp (r := { r with state := .exhausted }) trivial h2 h3 h4 h5 h6 h7 hbase) hbase
    refine ⟨c.pending, _, run_endLoop hc hne, ?_⟩
    have hnx3 := hnx.trans hnx2
    cases hpd : r.pending with
    | none =>
      rw [hpd] at hk' h2 hnx3
      cases hcp : c.pending with
      | none => rw [hcp] at hnx3; exact hp .normal env ds' _ _ a _ .normal hnx3 he hd trivial hk'
      | some cc => rw [hcp] at h2; exact h2.elim
    | some e =>
      rw [hpd] at hk' h2 hnx3
      cases hcp : c.pending with
      | none => rw [hcp] at h2; exact h2.elim
      | some cc =>
        rw [hcp] at h2 hnx3
        cases e with
        | normal => exact h2.elim
        | exit id =>
          cases cc <;> try (exact h2.elim)
          rename_i id'
          have : id = id' := h2
          subst this
          exact wpIn_exit (hp (.exit id) env ds' _ _ a _ (.exit id) hnx3 he hd rfl hk')
        | ret =>
          cases cc <;> try (exact h2.elim)
          exact wpIn_ret (hp .ret env ds' _ _ a _ .ret hnx3 he hd trivial hk')
  · cases hk

theorem isFn_inv {v : AV} {k : Bool} (h : cond (isFn v) k false = true) : (∃ g x y, v = .fn (.fn (.func g)) x y) ∧ k = true := by
  obtain ⟨h1, h2⟩ := cond_true_inv h
  unfold isFn at h1
  split at h1
  · exact ⟨⟨_, _, _, rfl⟩, h2⟩
  · cases h1
theorem row_yld {ι : Io} {l : Nat} {L : Loc} (h : ι l = some L) : rowR ι [.fn (.yld l) [] []] #[.func (.yield L.blk) #[] #[]] := by
  refine ⟨rfl, fun i => ?_⟩
  match i with
  | 0 => exact .fn _ _ _ _ _ _ (.yld l L h) rfl (fun i => by simp only [List.getD_nil]; exact .undef _) rfl (fun i => by simp only [List.getD_nil]; exact .undef _)
  | i + 1 =>
    have e1 : [AV.fn (.yld l) [] []].getD (i + 1) .undef = .undef := by simp
    rw [e1]; exact .undef _

/-- the call of a range over a function, its record laid -/
theorem rfn_call {ι : Io} {H : AH} {w : World} {l : Nat} {L : Loc} {env : Env} {a : Act} {f : Operand} {K : AV → AH → Bool} (hcl : ClS P cl) (hr : HR P base ι H w) (hL : ι l = some L) (he : rowR ι env a.tmps) (hfn : ∃ g x y, ev env (od f) = .fn (.fn (.func g)) x y)
    (h : cl (ev env (od f)) [.fn (.yld l) [] []] H K = true) : ∃ d w1 g args w2, (resolve a.eval (rangeCall f L.blk) 0).run P w = .ok d w1 ∧ (invoke d.target d.args).run P w1 = .ok (.enter g args) w2 ∧ CallsIn Fence.wide 0 P g args w2 (EndR P base ι H w K) := by
  have h2 := hcl base ι H w _ _ K _ _ hr (ev_sound he f) (row_yld hL) h
  have hv := ev_sound he f
  obtain ⟨g, x, y, e⟩ := hfn
  rcases h2 with ⟨g', args, w1, hrun, hc⟩ | ⟨hno, _⟩
  · rw [e] at hv
    generalize hfv : a.eval f = fv at hv hrun
    cases hv with
    | fn _ f' _ _ first' cap' hf =>
      have hres : (resolve a.eval (rangeCall f L.blk) 0).run P w = .ok { target := .fn f' cap', args := first' ++ #[.func (.yield L.blk) #[] #[]] } w := by
        have hc2 : ∀ v, a.eval (.const v) = v := fun _ => rfl
        simp [resolve, rangeCall, hfv, Deferred.ofValue, hc2]
      refine ⟨_, w, g', args, w1, hres, ?_, hc⟩
      simpa [Deferred.ofValue] using hrun
  · exact absurd ⟨⟨g, x, y, e⟩, ⟨l, rfl⟩⟩ hno
end
end Go.Jt
set_option autoImplicit false
set_option linter.all false
namespace Go.Jt
open Go.RowKit (Below)
variable [Gl]

section
variable {P : Program} {base : Nat} {cl : Cl}

theorem PostOf.trans {ι ι' : Io} {H H' : AH} {w w' : World} {k : Kc} {Q : Exit → Act → World → Prop} (hnx : Nx P base ι H w ι' H' w') (hp : PostOf P base ι H w k Q) : PostOf P base ι' H' w' k Q :=
  fun e env' ds' H2 ι2 a' w2 ce hnx2 he hd hx hk => hp e env' ds' H2 ι2 a' w2 ce (hnx.trans hnx2) he hd hx hk

/-- what is to be shown of a piece of code -/
def DenS (P : Program) (base : Nat) (cl : Cl) (N : Nat) (c : Code) : Prop := ∀ (rd ro : Option Nat) (ι : Io) (H : AH) (w : World) (env : Env) (ds : List Nat) (a : Act) (k : Kc) (Q : Exit → Act → World → Prop),
  rdR ι rd ro → HR P base ι H w → rowR ι env a.tmps → defR ι ds a.defers → den cl N rd (compC P c) env ds H k = true → PostOf P base ι H w k Q → c.wpIn (FW ro) 0 P Q a w

theorem den_loop {N : Nat} {c : Code} (ih : DenS P base cl N c) : DenS P base cl N (.loop c) := by
  intro rd ro ι H w env ds a k Q hrd hr he hd hx hp
  let dc := den cl N rd (compC P c)
  have hx' : iter dc N env ds H k = true := hx
  let J : Act → World → Nat → Prop := fun a' w' f => ∃ env' ds' H' ι', Nx P base ι H w ι' H' w' ∧ rowR ι' env' a'.tmps ∧ defR ι' ds' a'.defers ∧ iter dc f env' ds' H' k = true
  refine wpIn_loop (fun a' w' => ∃ f, J a' w' f) (fun a' w' => least (J a' w')) ⟨N, env, ds, H, ι, Nx.refl hr, he, hd, hx'⟩ ?_
  intro a₁ w₁ ⟨f, hJ⟩
  obtain ⟨h1, _⟩ := least_spec hJ
  generalize least (J a₁ w₁) = f0 at h1
  obtain ⟨env', ds', H', ι', hnx, he', hd', hit⟩ := h1
  cases f0 with
  | zero => cases hit
  | succ f0 =>
    have hit' : dc env' ds' H' (fun e env ds H => match e with
      | .normal => iter dc f0 env ds H k
      | e => k e env ds H) = true := hit
    refine ih rd ro ι' H' w₁ env' ds' a₁ _ _ (hrd.mono hnx.le) hnx.hr he' hd' hit' ?_
    intro e env2 ds2 H2 ι2 a2 w2 ce hnx2 he2 hd2 hx2 hk2
    cases e with
    | normal =>
      cases ce <;> first | (exact hx2.elim) | skip
      have hJ2 : J a2 w2 f0 := ⟨env2, ds2, H2, ι2, hnx.trans hnx2, he2, hd2, hk2⟩
      exact ⟨⟨f0, hJ2⟩, by have := (least_spec hJ2).2; omega⟩
    | exit id =>
      cases ce <;> first | (exact hx2.elim) | skip
      exact hp (.exit id) env2 ds2 H2 ι2 a2 w2 _ (hnx.trans hnx2) he2 hd2 hx2 hk2
    | ret =>
      cases ce <;> first | (exact hx2.elim) | skip
      exact hp .ret env2 ds2 H2 ι2 a2 w2 _ (hnx.trans hnx2) he2 hd2 hx2 hk2

theorem den_rfn {N : Nat} {f : Operand} {ps : Array Tmp} {asg body : Code} (hcl : ClS P cl) : DenS P base cl N (.rangeFunc f ps asg body) := by
  intro rd ro ι H w env ds a k Q hrd hr he hd hx hp
  cases rd with
  | none =>
    cases ro with
    | some b => exact hrd.elim
    | none =>
    have hx1 : anew H (.dfd true) (fun d H => anew H (.lp ⟨.ready, none, env, ps.toList, compC P asg, compC P body, d⟩) fun l H =>
          cond (isFn (ev env (od f))) (cl (ev env (od f)) [.fn (.yld l) [] []] H fun _ H => match H.get l with
            | some (.lp r) => match r.state with
              | .busy => false
              | _ => (match r.pending with
                | none => k .normal env (d :: ds) (H.set l (.lp { r with state := .exhausted }))
                | some e => k e env (d :: ds) (H.set l (.lp { r with state := .exhausted })))
            | _ => false) false) = true := hx
    rw [anew_eq, anew_eq] at hx1
    obtain ⟨hfn, hx2⟩ := isFn_inv hx1
    refine wpIn_rangeFunc fun fn _ => ?_
    have n1 := hr.newNx (o := .dfd true) (w' := w.alloc (.deferred (some []))) (c := .deferred (some [])) 0 rfl rfl rfl rfl (.dfd hr.below)
    have hsz : (w.alloc (.deferred (some []))).heap.size = w.heap.size + 1 := by simp
    let c0 : Loop := { state := .ready, pending := none, fn := fn, tmps := a.tmps, params := ps, assign := asg, body := body, defers := w.heap.size }
    let L2 : Loc := ⟨(w.alloc (.deferred (some []))).heap.size, 0, 0⟩
    have hι1 := n1.hr.fresh (H.new (.dfd true)).n (Nat.le_refl _)
    have hle2 := Io.ext_le _ (H.new (.dfd true)).n L2 hι1
    have n2 := n1.hr.newNx (o := .lp ⟨.ready, none, env, ps.toList, compC P asg, compC P body, H.n⟩) (w' := (w.alloc (.deferred (some []))).alloc (.loop c0)) (c := .loop c0) 0 rfl rfl rfl rfl
      (OR_lp (r := ⟨.ready, none, env, ps.toList, compC P asg, compC P body, H.n⟩) (c := c0) trivial trivial (he.mono (Io.le_trans n1.le hle2)) rfl rfl rfl ⟨⟨w.heap.size, 0, 0⟩, hle2 _ _ (Io.ext_self _ _ _), rfl⟩ n1.hr.below)
    have n12 := n1.trans n2
    have hl2 : (ι.ext H.n ⟨w.heap.size, 0, 0⟩).ext (H.new (.dfd true)).n L2 (H.new (.dfd true)).n = some L2 := Io.ext_self _ _ _
    obtain ⟨d, w1', g, args, w2, hres, hinv, hcall⟩ := rfn_call hcl n12.hr hl2 (he.mono n12.le) hfn hx2
    have hblk : L2.blk = w.heap.size + 1 := hsz
    rw [hblk] at hres
    refine ⟨w.heap.size + 1, _, _, d, w1', g, args, w2, run_enterLoop_outer fn a.tmps ps asg body, hres, fun f' _ => FW_fn none f', hinv, FW_depth none 0, ?_⟩
    refine CallsIn.mono (FW_calls hcall) ?_
    intro e w' hend
    obtain ⟨cv, v, H', ι', rfl, hnx, hv, hk⟩ := hend
    exact endLoop_sound (n12.trans hnx) (hnx.le _ _ hl2) hblk (he.mono (n12.trans hnx).le) (.cons H.n ds a.defers ⟨w.heap.size, 0, 0⟩ (hnx.le _ _ (hle2 _ _ (Io.ext_self _ _ _))) (hd.mono (n12.trans hnx).le)) hk hp
  | some l0 =>
    cases ro with
    | none => exact hrd.elim
    | some b =>
    obtain ⟨L0, hL0, hb0⟩ := hrd
    have hx1 : (match H.get l0 with
        | some (.lp r0) => anew H (.lp ⟨.ready, none, env, ps.toList, compC P asg, compC P body, r0.defers⟩) fun l H =>
          cond (isFn (ev env (od f))) (cl (ev env (od f)) [.fn (.yld l) [] []] H fun _ H => match H.get l with
            | some (.lp r) => match r.state with
              | .busy => false
              | _ => (match r.pending with
                | none => k .normal env ds (H.set l (.lp { r with state := .exhausted }))
                | some e => k e env ds (H.set l (.lp { r with state := .exhausted })))
            | _ => false) false
        | _ => false) = true := hx
    split at hx1
    · rename_i r0 hg0
      obtain ⟨c1, hc1, _, _, _, _, _, _, hdef, _⟩ := hr.loopAt hg0 hL0
      rw [hb0] at hc1
      obtain ⟨Ld, hLd, hcd⟩ := hdef
      rw [anew_eq] at hx1
      obtain ⟨hfn, hx2⟩ := isFn_inv hx1
      refine wpIn_rangeFunc fun fn _ => ?_
      let c0 : Loop := { state := .ready, pending := none, fn := fn, tmps := a.tmps, params := ps, assign := asg, body := body, defers := c1.defers }
      let L2 : Loc := ⟨w.heap.size, 0, 0⟩
      have hle2 := ext_le_new hr L2
      have n12 := hr.newNx (o := .lp ⟨.ready, none, env, ps.toList, compC P asg, compC P body, r0.defers⟩) (w' := w.alloc (.loop c0)) (c := .loop c0) 0 rfl rfl rfl rfl
        (OR_lp (r := ⟨.ready, none, env, ps.toList, compC P asg, compC P body, r0.defers⟩) (c := c0) trivial trivial (he.mono hle2) rfl rfl rfl ⟨Ld, hle2 _ _ hLd, hcd⟩ hr.below)
      have hl2 : ι.ext H.n L2 H.n = some L2 := Io.ext_self _ _ _
      obtain ⟨d, w1', g, args, w2, hres, hinv, hcall⟩ := rfn_call hcl n12.hr hl2 (he.mono n12.le) hfn hx2
      refine ⟨w.heap.size, [], _, d, w1', g, args, w2, run_enterLoop_inner hc1 fn a.tmps ps asg body, hres, fun f' _ => FW_fn (some b) f', hinv, FW_depth (some b) 0, ?_⟩
      refine CallsIn.mono (FW_calls hcall) ?_
      intro e w' hend
      obtain ⟨cv, v, H', ι', rfl, hnx, hv, hk⟩ := hend
      exact endLoop_sound (n12.trans hnx) (hnx.le _ _ hl2) rfl (he.mono (n12.trans hnx).le) (hd.mono (n12.trans hnx).le) hk hp
    · cases hx1

theorem compD_not {ops : Array Oper} {x : IR} (h1 : ∀ f r, x ≠ .dreg f r) (h2 : x ≠ .bad) : compD P ops ≠ x := by
  unfold compD
  split
  · exact fun e => h2 e.symm
  · rename_i X _
    cases okX ops X (Region.before ops).toList (effs X (Region.before ops).toList)
    · exact fun e => h2 e.symm
    · exact fun e => h1 _ _ e.symm
theorem den_sound {N : Nat} (hcl : ClS P cl) (hdr : DregS P cl) (c : Code) : DenS P base cl N c := by
  induction c with
  | skip => intro rd ro ι H w env ds a k Q hrd hr he hd hx hp; exact wpIn_skip (hp .normal env ds H ι a w .normal (Nx.refl hr) he hd trivial hx)
  | exit id => intro rd ro ι H w env ds a k Q hrd hr he hd hx hp; exact wpIn_exit (hp (.exit id) env ds H ι a w (.exit id) (Nx.refl hr) he hd rfl hx)
  | ret => intro rd ro ι H w env ds a k Q hrd hr he hd hx hp; exact wpIn_ret (hp .ret env ds H ι a w .ret (Nx.refl hr) he hd trivial hx)
  | seq x y ihx ihy =>
    intro rd ro ι H w env ds a k Q hrd hr he hd hx hp
    refine wpIn_seq (ihx rd ro ι H w env ds a _ _ hrd hr he hd hx ?_)
    intro e env2 ds2 H2 ι2 a2 w2 ce hnx2 he2 hd2 hx2 hk2
    cases e with
    | normal =>
      cases ce <;> first | (exact hx2.elim) | skip
      exact ihy rd ro ι2 H2 w2 env2 ds2 a2 k Q (hrd.mono hnx2.le) hnx2.hr he2 hd2 hk2 (hp.trans hnx2)
    | exit id =>
      cases ce <;> first | (exact hx2.elim) | skip
      exact hp (.exit id) env2 ds2 H2 ι2 a2 w2 _ hnx2 he2 hd2 hx2 hk2
    | ret =>
      cases ce <;> first | (exact hx2.elim) | skip
      exact hp .ret env2 ds2 H2 ι2 a2 w2 _ hnx2 he2 hd2 hx2 hk2
  | cond c x y ihx ihy =>
    intro rd ro ι H w env ds a k Q hrd hr he hd hx hp
    have hx' : (match ev env (od c) with
      | .bool b => Bool.rec (den cl N rd (compC P y) env ds H k) (den cl N rd (compC P x) env ds H k) b
      | _ => false) = true := by
      have h0 : (match ev env (od c) with
      | .bool b => _root_.cond b (den cl N rd (compC P x) env ds H k) (den cl N rd (compC P y) env ds H k)
      | _ => false) = true := hx
      split at h0
      · rename_i b hb
        cases b <;> exact h0
      · cases h0
    have hv := ev_sound he c
    split at hx'
    · rename_i b hb
      rw [hb] at hv
      have hv' := hv.bool_inv
      cases b with
      | true => exact wpIn_cond_true hv' (ihx rd ro ι H w env ds a k Q hrd hr he hd hx' hp)
      | false => exact wpIn_cond_false hv' (ihy rd ro ι H w env ds a k Q hrd hr he hd hx' hp)
    · cases hx'
  | block id c ih =>
    intro rd ro ι H w env ds a k Q hrd hr he hd hx hp
    refine wpIn_block (ih rd ro ι H w env ds a _ _ hrd hr he hd hx ?_)
    intro e env2 ds2 H2 ι2 a2 w2 ce hnx2 he2 hd2 hx2 hk2
    cases e with
    | normal =>
      cases ce <;> first | (exact hx2.elim) | skip
      exact hp .normal env2 ds2 H2 ι2 a2 w2 _ hnx2 he2 hd2 hx2 hk2
    | exit j =>
      cases ce <;> first | (exact hx2.elim) | skip
      rename_i j'
      have hjj : j = j' := hx2
      subst hjj
      have hk3 : _root_.cond (Nat.beq j id) (k .normal env2 ds2 H2) (k (.exit j) env2 ds2 H2) = true := hk2
      show if j = id then Q .normal a2 w2 else Q (.exit j) a2 w2
      split
      · rename_i e
        subst e
        rw [Nat.beq_refl] at hk3
        exact hp .normal env2 ds2 H2 ι2 a2 w2 .normal hnx2 he2 hd2 trivial hk3
      · rename_i e
        have : Nat.beq j id = false := by
          cases hb : Nat.beq j id with
          | true => exact absurd (Nat.eq_of_beq_eq_true hb) e
          | false => rfl
        rw [this] at hk3
        exact hp (.exit j) env2 ds2 H2 ι2 a2 w2 (.exit j) hnx2 he2 hd2 rfl hk3
    | ret =>
      cases ce <;> first | (exact hx2.elim) | skip
      exact hp .ret env2 ds2 H2 ι2 a2 w2 _ hnx2 he2 hd2 hx2 hk2
  | loop c ih => exact den_loop ih
  | rangeFunc f ps asg body _ _ => exact den_rfn hcl
  | region id ops draw =>
    intro rd ro ι H w env ds a k Q hrd hr he hd hx hp
    cases draw with
    | false =>
      cases hc : compL P ops ops.toList with
      | none =>
        have : compC P (.region id ops false) = .bad := by simp [compC, hc]
        rw [this] at hx; cases hx
      | some l =>
        have : compC P (.region id ops false) = .reg l := by simp [compC, hc]
        rw [this] at hx
        have hx' : runOps cl l env H (fun env H => k .normal env ds H) = true := hx
        refine wpIn_region ?_
        have h0 := runOps_sound (ro := ro) (Q := Q) (base := base) hcl ops.toList 0 l ι H w env a hc (fun j hj => by simp) hr he hx'
          (fun env' H' ι' a' w' hnx he' hd' hk => hp .normal env' ds H' ι' a' w' .normal hnx he' (by rw [hd']; exact hd.mono hnx.le) trivial hk)
        rw [List.range_eq_range']
        simpa using h0
    | true =>
      have hcomp : compC P (.region id ops true) = compD P ops := by simp [compC]
      rw [hcomp] at hx
      cases hc : compD P ops with
      | dreg first rest =>
        rw [hc] at hx
        have hx' : runD cl first env H (fun env H => runS cl rest env H fun env H => k .normal env ds H) = true := hx
        exact hdr ops first rest base ι H w env a ro id Q (fun env H => k .normal env ds H) hc hr he hx'
          (fun env' H' ι' a' w' hnx he' hd' hk => hp .normal env' ds H' ι' a' w' .normal hnx he' (by rw [hd']; exact hd.mono hnx.le) trivial hk)
      | bad => rw [hc] at hx; cases hx
      | skip => exact absurd hc (compD_not (fun _ _ => by intro h; cases h) (by intro h; cases h))
      | reg _ => exact absurd hc (compD_not (fun _ _ => by intro h; cases h) (by intro h; cases h))
      | seq _ _ => exact absurd hc (compD_not (fun _ _ => by intro h; cases h) (by intro h; cases h))
      | cond _ _ _ => exact absurd hc (compD_not (fun _ _ => by intro h; cases h) (by intro h; cases h))
      | block _ _ => exact absurd hc (compD_not (fun _ _ => by intro h; cases h) (by intro h; cases h))
      | loop _ => exact absurd hc (compD_not (fun _ _ => by intro h; cases h) (by intro h; cases h))
      | exit _ => exact absurd hc (compD_not (fun _ _ => by intro h; cases h) (by intro h; cases h))
      | ret => exact absurd hc (compD_not (fun _ _ => by intro h; cases h) (by intro h; cases h))
      | rfn _ _ _ _ => exact absurd hc (compD_not (fun _ _ => by intro h; cases h) (by intro h; cases h))
  | scope c _ => intro rd ro ι H w env ds a k Q hrd hr he hd hx hp; cases hx
  | label l => intro rd ro ι H w env ds a k Q hrd hr he hd hx hp; cases hx
  | goto l => intro rd ro ι H w env ds a k Q hrd hr he hd hx hp; cases hx
  | refuse s => intro rd ro ι H w env ds a k Q hrd hr he hd hx hp; cases hx
end
end Go.Jt
set_option autoImplicit false
set_option linter.all false
namespace Go.Jt
open Go.RowKit (Below)
variable [Gl]

section
variable {P : Program} {base : Nat} {cl : Cl}

/-- a row of the library that the model gives: a map's copy -/
def CloneOK (P : Program) (f : Nat) : Prop := ∃ fn, P.funcs[f]? = some fn ∧ (fn.name == "runtime.NumGoroutine") = false ∧ fn.body.isNone = true ∧ Extern.findNext fn = none ∧ Extern.find fn = some Extern.MapsClone.clone
/-- an abstract run that is given for a function, and true to it -/
def SumS (P : Program) (f : Nat) (g : List AV → AH → (AV → AH → Bool) → Bool) : Prop := (∀ (args : Array Value) (w : World), (callFunc f args).run P w = .ok (.enter f args) w) ∧
  ∀ (base : Nat) (ι : Io) (H : AH) (w : World) (args : List AV) (cargs : Array Value) (k : AV → AH → Bool), HR P base ι H w → rowR ι args cargs → g args H k = true → CallsIn Fence.wide 0 P f cargs w (EndR P base ι H w k)
/-- an abstract run that is given for a row of the library, and true to it -/
def ExtS (P : Program) (f : Nat) (g : List AV → AH → (AV → AH → Bool) → Bool) : Prop :=
  ∀ (base : Nat) (ι : Io) (H : AH) (w : World) (args : List AV) (cargs : Array Value) (k : AV → AH → Bool), HR P base ι H w → rowR ι args cargs → g args H k = true →
    (∀ l, AV.fn (.yld l) [] [] ∉ args) ∧ Res P base ι H w k ((callFunc f cargs).run P w)
/-- a table of functions that is true to the program -/
def TblS (P : Program) (tbl : Nat → Option FT) : Prop := ∀ f t, tbl f = some t → match t with
  | .code c => compF P f = some (.code c)
  | .clone => CloneOK P f
  | .sum g => SumS P f g
  | .ext g => ExtS P f g

/-! ### results -/
def resOne (tmps : Array Value) (r : ResultVar) : Sem Value := match r with
  | .tmp t => pure (tmps.getD t undef)
  | .cell a t => do loadVar t (← asAddr (tmps.getD a undef))
theorem rvs_sound {ι : Io} {H : AH} {w : World} {env : Env} {tmps : Array Value} (hr : HR P base ι H w) (he : rowR ι env tmps) : ∀ (rs : List ResultVar) (K : List AV → Bool), rs.all (okR P) = true → rvs (rs.map (compR P)) env H K = true →
    ∃ (l : List AV) (vs : List Value), K l = true ∧ l.length = vs.length ∧ (∀ i, VR ι (l.getD i .undef) (vs.getD i Go.undef)) ∧ (rs.mapM (resOne tmps)).run P w = .ok vs w
  | [], K, _, h => ⟨[], [], h, rfl, fun i => by simp only [List.getD_nil]; exact .undef _, rfl⟩
  | .tmp t :: rs, K, hok, h => by
    have h' : rvs (rs.map (compR P)) env H (fun l => K (lget env t :: l)) = true := h
    simp only [List.all_cons, Bool.and_eq_true] at hok
    obtain ⟨l, vs, h1, h2, h3, h4⟩ := rvs_sound hr he rs _ hok.2 h'
    refine ⟨lget env t :: l, tmps.getD t undef :: vs, h1, by simp [h2], fun i => ?_, ?_⟩
    · cases i with
      | zero => rw [lget_eq]; exact he.2 t
      | succ i => exact h3 i
    · rw [List.mapM_cons]
      simp only [resOne, Sem.run_bind, Sem.run_pure, Result.andThen_ok, h4]
  | .cell x t :: rs, K, hok, h => by
    simp only [List.all_cons, Bool.and_eq_true, okR, Option.isSome_iff_exists] at hok
    obtain ⟨⟨⟨d, hd⟩, ⟨i, hi⟩⟩, hok⟩ := hok
    have h' : (match lget env x with
      | .ptr b off => gcell H b fun c _ _ => _root_.cond (isAggT P t) (_root_.cond (Nat.ble (off + sizeT P t) c.len) (rvs (rs.map (compR P)) env H fun l => K (.agg (c.sub off (sizeT P t)) :: l)) false) (match c.get off with
        | some v => rvs (rs.map (compR P)) env H fun l => K (v :: l)
        | none => false)
      | _ => false) = true := h
    have hv := he.2 x
    rw [← lget_eq] at hv
    split at h'
    · rename_i b off e
      rw [e] at hv
      obtain ⟨L, hL, hpv⟩ := hv.ptr_inv
      obtain ⟨c, st, ro, hb, h2⟩ := gcell_inv h'
      obtain ⟨cc, el, fr, hw, hor⟩ := hr.cells hb hL
      cases hor with
      | cells _ _ _ _ _ _ hok' hz hl hc h1 hf hs hro =>
      have hsz : sizeT P t = i.size := by simp [sizeT, hi]
      cases hag : isAggT P t with
      | true =>
        rw [hag, hsz] at h2
        obtain ⟨hn, h3⟩ := cond_true_inv h2
        have hn' := Nat.le_of_ble_eq_true hn
        rw [Rp.len_eq c hok'] at hn'
        obtain ⟨l, vs, g1, g2, g3, g4⟩ := rvs_sound hr he rs _ hok h3
        refine ⟨_ :: l, .agg (cc.extract (L.sh + off) (L.sh + off + i.size)) :: vs, g1, by simp [g2], fun j => ?_, ?_⟩
        · cases j with
          | zero => exact (cellsR_sub hok' (by omega) hc h1 hn').agg
          | succ j => exact g3 j
        · rw [List.mapM_cons]
          have hld : (loadVar t ⟨L.blk, L.sh + off, none⟩).run P w = .ok (.agg (cc.extract (L.sh + off) (L.sh + off + i.size))) w := by
            simp only [loadVar, Sem.run_bind, run_isAgg hd, hag, Result.andThen_ok, if_true, run_size hi]
            rw [run_loadCells hw _ (by omega)]
            rfl
          simp only [resOne, hpv, asAddr, Sem.run_bind, Sem.run_pure, Result.andThen_ok, hld, g4]
      | false =>
        rw [hag] at h2
        simp only [cond_false] at h2
        rw [Rp.get_eq c hok'] at h2
        split at h2
        · rename_i v hv'
          have hi' : off < c.toL.length := (List.getElem?_eq_some_iff.1 hv').1
          have h3 := hc off hi'
          rw [List.getD_eq_getElem?_getD, hv'] at h3
          obtain ⟨l, vs, g1, g2, g3, g4⟩ := rvs_sound hr he rs _ hok h2
          refine ⟨v :: l, cc.getD (L.sh + off) Go.undef :: vs, g1, by simp [g2], fun j => ?_, ?_⟩
          · cases j with
            | zero => exact h3
            | succ j => exact g3 j
          · rw [List.mapM_cons]
            have hld : (loadVar t ⟨L.blk, L.sh + off, none⟩).run P w = .ok (cc.getD (L.sh + off) Go.undef) w := by
              simp only [loadVar, Sem.run_bind, run_isAgg hd, hag, Result.andThen_ok, Bool.false_eq_true, if_false]
              exact run_load1 hw (by omega)
            simp only [resOne, hpv, asAddr, Sem.run_bind, Sem.run_pure, Result.andThen_ok, hld, g4]
        · cases h2
    · cases h'
theorem results_sound {ι : Io} {H : AH} {w : World} {env : Env} {fn : Func} {tmps : Array Value} {K : List AV → Bool} (hr : HR P base ι H w) (he : rowR ι env tmps) (hok : fn.results.toList.all (okR P) = true) (h : rvs (fn.results.toList.map (compR P)) env H K = true) :
    ∃ l v, K l = true ∧ (results fn tmps).run P w = .ok v w ∧ VR ι (oneOf l) v := by
  obtain ⟨l, vs, h1, h2, h3, h4⟩ := rvs_sound hr he _ _ hok h
  have hrun : (results fn tmps).run P w = .ok (if h : vs.toArray.size = 1 then vs.toArray[0] else .tuple vs.toArray) w := by
    have e : results fn tmps = (do let vs ← fn.results.mapM (resOne tmps); pure (if h : vs.size = 1 then vs[0] else .tuple vs)) := rfl
    rw [e, Array.mapM_eq_mapM_toList]
    simp only [bind_map_left, Sem.run_bind]
    rw [h4]
    rfl
  refine ⟨l, _, h1, hrun, ?_⟩
  match l, vs, h2, h3 with
  | [v], [cv], _, h3 => exact h3 0
  | [], [], _, h3 => exact .tup _ _ rfl (fun i => by simp only [List.getD_nil]; exact .undef _)
  | x :: y :: l, x' :: y' :: vs, h2, h3 =>
    rw [dif_neg (by simp)]
    exact .tup _ _ (by simpa using h2) (fun i => by simpa using h3 i)

/-! ### the blocks for deferred calls -/
theorem close_sound {fn : Func} {tmps : Array Value} {R : Ending → World → Prop} : ∀ (ds : List Nat) (x : List Deferred) (ι : Io) (H : AH) (w : World) (K : AH → Bool), defR ι ds x → HR P base ι H w → closeAll ds H K = true →
    (∀ H' w', Nx P base ι H w ι H' w' → K H' = true → ∃ v, (results fn tmps).run P w' = .ok v w' ∧ R (.returned v) w') → LeavesInM Fence.wide 0 P fn tmps R x .returning w := by
  intro ds x ι H w K hd
  induction hd generalizing H w with
  | nil => intro hr h hk; exact hk H w (Nx.refl hr) h
  | cons d ds x L hL t ih =>
    intro hr h hk
    have h' : (match H.get d with
      | some (.dfd true) => closeAll ds (H.set d (.dfd false)) K
      | _ => false) = true := h
    split at h'
    · rename_i hg
      obtain ⟨c, hc, ho⟩ := hr.obj d _ L hg hL
      cases ho with
      | dfd hb =>
        refine ⟨(by intro e; cases e), Or.inl ⟨L.blk, _, rfl, run_takeDeferred hc, ?_⟩⟩
        have hnx := hr.updNx hg hL (putObj_up (o' := .deferred none) hc) (.dfd0 hb _ (fun c e f hh => by cases hh)) hb
        exact ih _ _ hnx.hr h' (fun H' w' hnx' hK => hk H' w' (hnx.trans hnx') hK)
    · cases h'

/-! ### a call -/
theorem rowR_enter {ι : Io} {args : List AV} {cargs : Array Value} (h : rowR ι args cargs) (n : Nat) : rowR ι (args ++ List.replicate (n - args.length) (.tup [])) (cargs ++ Array.replicate (n - cargs.size) undef) := by
  refine ⟨by simp [h.1], fun i => ?_⟩
  rw [List.getD_eq_getElem?_getD, Array.getD_eq_getD_getElem?]
  by_cases hi : i < args.length
  · rw [List.getElem?_append_left hi, Array.getElem?_append_left (by rw [← h.1]; exact hi), ← List.getD_eq_getElem?_getD, ← Array.getD_eq_getD_getElem?]
    exact h.2 i
  · rw [List.getElem?_append_right (by omega), Array.getElem?_append_right (by rw [← h.1]; omega), h.1]
    by_cases hj : i - cargs.size < n - cargs.size
    · rw [List.getElem?_replicate, if_pos hj, Array.getElem?_replicate, if_pos hj]
      exact VR_skip ι
    · rw [List.getElem?_replicate, if_neg hj]
      exact .undef _
theorem compF_inv {f : Nat} {c : FnIR} (h : compF P f = some (.code c)) : ∃ fn b, P.funcs[f]? = some fn ∧ (fn.name == "runtime.NumGoroutine") = false ∧ fn.body = some b ∧ fn.results.toList.all (okR P) = true ∧ c = ⟨fn.ntmps, fn.results.toList.map (compR P), compC P b⟩ := by
  unfold compF at h
  split at h
  · cases h
  · rename_i fn hf
    obtain ⟨hn, h⟩ : (fn.name == "runtime.NumGoroutine") = false ∧ _ := by
      cases hb : (fn.name == "runtime.NumGoroutine") with
      | true => rw [hb] at h; cases h
      | false => rw [hb] at h; exact ⟨rfl, h⟩
    simp only [cond_false] at h
    split at h
    · rename_i b hb
      cases hok : fn.results.toList.all (okR P) with
      | false => rw [hok] at h; cases h
      | true => rw [hok] at h; cases h; exact ⟨fn, b, hf, hn, hb, hok, rfl⟩
    · cases hc : (fn.name == "maps.clone") with
      | true => rw [hc] at h; cases h
      | false => rw [hc] at h; cases h
theorem run_enter {f : Nat} {fn : Func} {b : Code} (hf : P.funcs[f]? = some fn) (hn : (fn.name == "runtime.NumGoroutine") = false) (hb : fn.body = some b) (args : Array Value) (w : World) : (callFunc f args).run P w = .ok (.enter f args) w := by
  have hn' : ¬ (fn.name = "runtime.NumGoroutine") := fun e => by rw [e] at hn; simp at hn
  simp [callFunc, hf, hn', hb]
theorem code_sound {N f : Nat} {c : FnIR} {ι : Io} {H : AH} {w : World} {args : List AV} {cargs : Array Value} {k : AV → AH → Bool} (hcl : ClS P cl) (hdr : DregS P cl) (hc : compF P f = some (.code c)) (hr : HR P base ι H w) (ha : rowR ι args cargs)
    (h : den cl N none c.body (args ++ List.replicate (c.ntmps - args.length) (.tup [])) [] H (fun e env ds H => match e with
      | .exit _ => false
      | _ => closeAll ds H fun H => rvs c.results env H fun l => k (oneOf l) H) = true) : CallsIn Fence.wide 0 P f cargs w (EndR P base ι H w k) := by
  obtain ⟨fn, b, hf, hn, hb, hok, rfl⟩ := compF_inv hc
  refine callsIn_of_wp_marks hf hb (FW_fn none f) ?_
  refine den_sound hcl hdr b none none ι H w _ [] { tmps := cargs ++ Array.replicate (fn.ntmps - cargs.size) undef, defers := [] } _ _ trivial hr (rowR_enter ha _) .nil h ?_
  intro e env' ds' H' ι' a' w' ce hnx he hd hx hk
  have fin : closeAll ds' H' (fun H => rvs (fn.results.toList.map (compR P)) env' H fun l => k (oneOf l) H) = true → LeavesInM Fence.wide 0 P fn a'.tmps (EndR P base ι H w k) a'.defers .returning w' := fun hk => by
    refine close_sound ds' a'.defers ι' H' w' _ hd hnx.hr hk (fun H2 w2 hnx2 hk2 => ?_)
    obtain ⟨l, v, g1, g2, g3⟩ := results_sound (tmps := a'.tmps) hnx2.hr he hok hk2
    exact ⟨v, g2, v, oneOf l, H2, ι', rfl, hnx.trans hnx2, g3, g1⟩
  cases e with
  | normal => cases ce <;> first | (exact hx.elim) | exact fin hk
  | ret => cases ce <;> first | (exact hx.elim) | exact fin hk
  | exit id => cases hk

theorem row3 {ι : Io} {x y z : List AV} {x' y' z' : Array Value} (hx : rowR ι x x') (hy : rowR ι y y') (hz : rowR ι z z') : rowR ι (x ++ y ++ z) (x' ++ y' ++ z') := by
  have two : ∀ {x y : List AV} {x' y' : Array Value}, rowR ι x x' → rowR ι y y' → rowR ι (x ++ y) (x' ++ y') := fun {x y x' y'} hx hy => by
    refine ⟨by simp [hx.1, hy.1], fun i => ?_⟩
    rw [List.getD_eq_getElem?_getD, Array.getD_eq_getD_getElem?]
    by_cases hi : i < x.length
    · rw [List.getElem?_append_left hi, Array.getElem?_append_left (by rw [← hx.1]; exact hi), ← List.getD_eq_getElem?_getD, ← Array.getD_eq_getD_getElem?]
      exact hx.2 i
    · rw [List.getElem?_append_right (by omega), Array.getElem?_append_right (by rw [← hx.1]; omega), hx.1, ← List.getD_eq_getElem?_getD, ← Array.getD_eq_getD_getElem?]
      exact hy.2 _
  exact two (two hx hy) hz
end
end Go.Jt
set_option autoImplicit false
set_option linter.all false
namespace Go.Jt
open Go.RowKit (Below)
variable [Gl]

section
variable {P : Program} {base : Nat} {cl : Cl}

theorem run_clone {w : World} {r : Nat} {es : Array MapEntry} {clock : Nat} (t : TypeId) (hb : w.heap[r]? = some (.map es clock)) :
    (Extern.MapsClone.clone #[.iface t (.map (some r))]).run P w = .ok (.iface t (.map (some w.heap.size))) (w.alloc (.map es clock)) := by
  have e : Extern.MapsClone.clone #[.iface t (.map (some r))] = (getObj r >>= fun o => match o with
      | .map entries clock => (newObj (.map entries clock) >>= fun n => pure (.iface t (.map (some n))))
      | _ => stuck "maps.clone: a map expected") := rfl
  rw [e]
  simp [run_getMap hb]
theorem callF_sound {tbl : Nat → Option FT} {N f : Nat} {ι : Io} {H : AH} {w : World} {v : AV} {args0 first cap : List AV} {cargs : Array Value} {k : AV → AH → Bool} (ht : TblS P tbl) (hcl : ClS P cl) (hdr : DregS P cl) (hr : HR P base ι H w) (ha : rowR ι (first ++ args0 ++ cap) cargs)
    (h : callF tbl cl N f (first ++ args0 ++ cap) H k = true) : UP P base ι H w k (onlyF v args0) ((callFunc f cargs).run P w) := by
  unfold callF at h
  split at h
  · rename_i c hc
    have hc' := ht f _ hc
    obtain ⟨fn, b, hf, hn, hb, _⟩ := compF_inv hc'
    exact Or.inl ⟨f, cargs, w, run_enter hf hn hb cargs w, code_sound hcl hdr hc' hr ha h⟩
  · rename_i hc
    obtain ⟨fn, hf, hn, hb, hx, he⟩ := ht f _ hc
    split at h
    · rename_i t r hargs
      obtain ⟨es, ck, hg, h2⟩ := gmap_inv h
      rw [anew_eq] at h2
      rw [hargs] at ha
      have hsz : cargs.size = 1 := ha.1.symm
      have h0 := ha.2 0
      have hcv : cargs = #[cargs.getD 0 Go.undef] := by
        apply Array.ext
        · simp [hsz]
        · intro i h1 h2'
          have : i = 0 := by omega
          subst this
          simp [hsz]
      generalize cargs.getD 0 Go.undef = cv at hcv h0
      subst hcv
      have h0' : VR ι (.ifc t (.map r)) cv := h0
      cases h0' with
      | ifc _ _ v' hv' =>
      cases hv' with
      | map _ L hL =>
      obtain ⟨ents, hw, hl, hent, hbase⟩ := hr.mapAt hg hL
      refine Or.inr ⟨?_, Or.inl ⟨_, _, _, .value (.iface t (.map (some w.heap.size))), w.alloc (.map ents ck), ?_, hr.newNx 0 rfl rfl rfl rfl (.mp _ _ _ (by simpa using hl) (fun j x e h1 h2 => ?_) hr.below), ?_, h2⟩⟩
      · rintro ⟨_, l, hl⟩
        subst hl
        have hlen := congrArg List.length hargs
        have hmem : AV.fn (.yld l) [] [] ∈ first ++ [AV.fn (.yld l) [] []] ++ cap := by simp
        rw [hargs] at hmem
        simp at hmem
      · rw [run_callFunc_extern hf hn hb hx he, run_clone t hw]
        rfl
      · have := hent j x e h1 (by rw [Array.getElem?_toList]; exact h2)
        have hle := ext_le_new hr ⟨w.heap.size, 0, 0⟩
        exact ⟨this.1.mono hle, this.2.1.mono hle, this.2.2⟩
      · exact .ifc _ _ _ (.map _ _ (Io.ext_self _ _ _))
    · cases h
  · rename_i g hc
    obtain ⟨hen, hs⟩ := ht f _ hc
    exact Or.inl ⟨f, cargs, w, hen cargs w, hs base ι H w _ _ k hr ha h⟩
  · rename_i g hc
    obtain ⟨hno, hres⟩ := ht f _ hc base ι H w _ _ k hr ha h
    refine Or.inr ⟨?_, Or.inl hres⟩
    rintro ⟨_, l, hl⟩
    subst hl
    exact hno l (by simp)
  · cases h

theorem setAll_row {ι : Io} : ∀ (ps : List Nat) (args : List AV) (cs : List Value) (env : Env) (tmps : Array Value), rowR ι env tmps → args.length = cs.length → (∀ i, VR ι (args.getD i .undef) (cs.getD i Go.undef)) → ps.length = args.length →
    rowR ι (setAll ps args env) ((ps.zip cs).foldl (fun tmps (t, a) => tmps.setIfInBounds t a) tmps)
  | [], [], [], env, tmps, h, _, _, _ => h
  | p :: ps, x :: args, c :: cs, env, tmps, h, hl, hv, hp => by
    have h1 := rowR_put (a := ⟨tmps, []⟩) (dst := some p) h (hv 0)
    exact setAll_row ps args cs _ _ h1 (by simpa using hl) (fun i => hv (i + 1)) (by simpa using hp)
  | [], _ :: _, _, _, _, _, _, _, hp => by cases hp
  | _ :: _, [], _, _, _, _, _, _, hp => by cases hp
  | [], [], _ :: _, _, _, _, hl, _, _ => by cases hl
  | _ :: _, _ :: _, [], _, _, _, hl, _, _ => by cases hl

theorem round_sound {N l : Nat} {ι : Io} {H : AH} {w : World} {v : AV} {args : List AV} {cargs : Array Value} {k : AV → AH → Bool} {L : Loc} (hno : ¬ onlyF v args) (hcl : ClS P cl) (hdr : DregS P cl) (hr : HR P base ι H w) (hL : ι l = some L) (ha : rowR ι args cargs)
    (h : roundV cl N l args H k = true) : UP P base ι H w k (onlyF v args) ((Instr.yield L.blk cargs).run P w) := by
  unfold roundV at h
  split at h
  · rename_i r0 hg
    obtain ⟨c, hc, h1, h2, h3, h4, h5, h6, h7, hbase⟩ := hr.loopAt hg hL
    obtain ⟨hlen, hx⟩ := cond_true_inv h
    have hlen' := Nat.eq_of_beq_eq_true hlen
    have hsz : cargs.size = c.params.size := by rw [← ha.1, hlen', h4]; simp
    refine Or.inr ⟨hno, Or.inr ⟨L.blk, c.fn, _, c.assign, c.body, w, run_yield hc hsz, ?_⟩⟩
    refine roundIn_of_wpIn (FW_fn none c.fn) ?_
    have hrow : rowR ι (setAll r0.params args r0.tmps) ((c.params.zip cargs).foldl (fun tmps (t, a) => tmps.setIfInBounds t a) c.tmps) := by
      have := setAll_row r0.params args cargs.toList r0.tmps c.tmps h3 (by rw [ha.1]; simp) (fun i => by
        have := ha.2 i
        rw [Array.getD_eq_getD_getElem?, ← Array.getElem?_toList, ← List.getD_eq_getElem?_getD] at this
        exact this) hlen'.symm
      rw [← Array.foldl_toList, Array.toList_zip, ← h4]
      exact this
    rw [h5] at hx
    refine den_sound hcl hdr c.assign (some l) (some L.blk) ι H w _ [] { tmps := _, defers := [] } _ _ ⟨L, hL, rfl⟩ hr hrow .nil hx ?_
    intro e env2 ds2 H2 ι2 a2 w2 ce hnx2 he2 hd2 hx2 hk2
    cases e with
    | exit id => cases hk2
    | ret => cases hk2
    | normal =>
    cases ce <;> first | (exact hx2.elim) | skip
    have hk3 : (match H2.get l with
        | some (.lp r) => match r.state with
          | .ready => den cl N (some l) r0.body env2 ds2 (H2.set l (.lp { r with state := .busy })) fun e env ds H => (match H.get l with
            | some (.lp r) => match e with
              | .normal => k (.bool true) (H.set l (.lp { r with state := .ready, pending := none }))
              | e => k (.bool false) (H.set l (.lp { r with state := .done, pending := some e }))
            | _ => false)
          | _ => false
        | _ => false) = true := hk2
    split at hk3
    · rename_i r2 hg2
      have hL2 := hnx2.le _ _ hL
      obtain ⟨c2, hc2, j1, j2, j3, j4, j5, j6, j7, _⟩ := hnx2.hr.loopAt hg2 hL2
      split at hk3
      · rename_i hst
        rw [hst] at j1
        have hcs : c2.state = .ready := by
          cases hs : c2.state <;> rw [hs] at j1 <;> first | rfl | exact j1.elim
        have hnx3 := hnx2.hr.updNx hg2 hL2 (putObj_up (o' := .loop { c2 with state := .busy }) hc2) (OR_lp (r := { r2 with state := .busy }) trivial j2 j3 j4 j5 j6 j7 hbase) hbase
        refine ⟨_, run_beginRound hc2 hcs, ?_⟩
        rw [h6] at hk3
        refine den_sound hcl hdr c.body (some l) (some L.blk) ι2 _ _ _ ds2 a2 _ _ ⟨L, hL2, rfl⟩ hnx3.hr he2 hd2 hk3 ?_
        intro e env4 ds4 H4 ι4 a4 w4 ce4 hnx4 he4 hd4 hx4 hk4
        have hL4 := hnx4.le _ _ hL2
        have hnx234 := (hnx2.trans hnx3).trans hnx4
        dsimp only at hk4
        split at hk4
        · rename_i r4 hg4
          obtain ⟨c4, hc4, q1, q2, q3, q4, q5, q6, q7, _⟩ := hnx4.hr.loopAt hg4 hL4
          cases e with
          | normal =>
            cases ce4 <;> first | (exact hx4.elim) | skip
            have hnx5 := hnx4.hr.updNx hg4 hL4 (putObj_up (o' := .loop { c4 with state := .ready, pending := none }) hc4) (OR_lp (r := { r4 with state := .ready, pending := none }) trivial trivial q3 q4 q5 q6 q7 hbase) hbase
            exact ⟨.bool true, _, run_endRound none hc4, .bool true, .bool true, _, ι4, rfl, hnx234.trans hnx5, .bool true, hk4⟩
          | exit id =>
            cases ce4 <;> first | (exact hx4.elim) | skip
            rename_i id'
            have hnx5 := hnx4.hr.updNx hg4 hL4 (putObj_up (o' := .loop { c4 with state := .done, pending := some (.exit id') }) hc4) (OR_lp (r := { r4 with state := .done, pending := some (.exit id) }) trivial hx4 q3 q4 q5 q6 q7 hbase) hbase
            exact ⟨.bool false, _, run_endRound (some (.exit id')) hc4, .bool false, .bool false, _, ι4, rfl, hnx234.trans hnx5, .bool false, hk4⟩
          | ret =>
            cases ce4 <;> first | (exact hx4.elim) | skip
            have hnx5 := hnx4.hr.updNx hg4 hL4 (putObj_up (o' := .loop { c4 with state := .done, pending := some .ret }) hc4) (OR_lp (r := { r4 with state := .done, pending := some .ret }) trivial trivial q3 q4 q5 q6 q7 hbase) hbase
            exact ⟨.bool false, _, run_endRound (some .ret) hc4, .bool false, .bool false, _, ι4, rfl, hnx234.trans hnx5, .bool false, hk4⟩
        · cases hk4
      · cases hk3
    · cases hk3
  · cases h

noncomputable def callV (tbl : Nat → Option FT) (cl : Cl) (N : Nat) (v : AV) (args : List AV) (H : AH) (k : AV → AH → Bool) : Bool := match v with
  | .fn (.fn (.func g)) first cap => callF tbl cl N g (first ++ args ++ cap) H k
  | .fn (.yld l) [] _ => roundV cl N l args H k
  | _ => false
/-- THE ABSTRACT CALLS ARE TRUE TO THE MODEL's -/
theorem RUN_sound {tbl : Nat → Option FT} {N : Nat} (ht : TblS P tbl) (hdr : ∀ cl, ClS P cl → DregS P cl) : ∀ f, ClS P (RUN tbl N f)
  | 0 => fun base ι H w v args k cv cargs hr hv ha h => by cases h
  | f + 1 => fun base ι H w v args k cv cargs hr hv ha h => by
    have ih := RUN_sound (N := N) ht hdr f
    have h' : callV tbl (RUN tbl N f) N v args H k = true := h
    clear h
    unfold callV at h'
    split at h'
    · rename_i g first cap
      cases hv with
      | fn _ f' _ _ first' cap' hf h1 h2 h3 h4 =>
        cases hf
        have hrow := row3 (x := first) (x' := first') ⟨h1, h2⟩ ha (z := cap) (z' := cap') ⟨h3, h4⟩
        have := callF_sound (v := .fn (.fn (.func g)) first cap) (args0 := args) ht ih (hdr _ ih) hr hrow h'
        simpa [Deferred.ofValue, invoke] using this
    · rename_i l cap
      cases hv with
      | fn _ f' _ _ first' cap' hf h1 h2 h3 h4 =>
        cases hf with
        | yld _ L hL =>
        have hf0 : first' = #[] := Array.eq_empty_of_size_eq_zero h1.symm
        subst hf0
        have := round_sound (v := .fn (.yld l) [] cap) (k := k) (fun ho => by obtain ⟨⟨g, x, y, e⟩, _⟩ := ho; cases e) ih (hdr _ ih) hr hL ha h'
        simpa [Deferred.ofValue, invoke] using this
    · cases h'
end
end Go.Jt
