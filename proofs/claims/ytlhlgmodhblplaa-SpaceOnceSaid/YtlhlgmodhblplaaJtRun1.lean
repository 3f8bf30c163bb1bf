/-
  The abstract run is true to the model's walk: one operation, calls of function values, regions whose order is fixed.
-/
import Derived.Test.YtlhlgmodhblplaaJtOps12
set_option autoImplicit false
set_option linter.all false
namespace Go.Jt
open Go.RowKit (Below)
variable [Gl]

/-- the fence that lets all in; in a round of a loop, or in none -/
def FW (ro : Option Nat) : Fence := { Fence.wide with round := ro }
theorem FW_fn (ro : Option Nat) (f : FuncId) : (FW ro).fn f := trivial
theorem FW_room (ro : Option Nat) (n : Nat) : (FW ro).room n := fun _ h => by simp [FW, Fence.wide] at h
theorem FW_depth (ro : Option Nat) (n : Nat) : (FW ro).depth.isSome = true → 1 ≤ n := fun h => by simp [FW, Fence.wide] at h
theorem FW_round (ro : Option Nat) : (FW ro).round = ro := rfl
theorem FW_none : FW none = Fence.wide := rfl
theorem FW_calls {ro : Option Nat} {n : Nat} {P : Program} {f : FuncId} {args : Array Value} {w : World} {R : Ending → World → Prop} (h : CallsIn Fence.wide n P f args w R) : CallsIn (FW ro) n P f args w R := h
theorem FW_rounds {ro : Option Nat} {n : Nat} {P : Program} {l : Nat} {f : FuncId} {tmps : Array Value} {x y : Code} {w : World} {R : Ending → World → Prop} (h : RoundIn Fence.wide n P l f tmps x y w R) : RoundIn (FW ro) n P l f tmps x y w R := h

section
variable {P : Program} {base : Nat} {ι : Io} {H : AH} {w : World} {k : AV → AH → Bool} {env : Env} {a : Act} {cl : Cl} {ro : Option Nat}

/-- what is asked of a call's ending -/
def EndR (P : Program) (base : Nat) (ι : Io) (H : AH) (w : World) (k : AV → AH → Bool) : Ending → World → Prop := fun e w' =>
  ∃ cv v H' ι', e = .returned cv ∧ Nx P base ι H w ι' H' w' ∧ VR ι' v cv ∧ k v H' = true
/-- what a call comes to; 'only': it enters a function -/
def UP (P : Program) (base : Nat) (ι : Io) (H : AH) (w : World) (k : AV → AH → Bool) (only : Prop) (r : Result Next) : Prop :=
  (∃ f args w1, r = .ok (.enter f args) w1 ∧ CallsIn Fence.wide 0 P f args w1 (EndR P base ι H w k)) ∨
  (¬ only ∧ (Res P base ι H w k r ∨ ∃ l f tmps x y w1, r = .ok (.round l f tmps x y) w1 ∧ RoundIn Fence.wide 0 P l f tmps x y w1 (EndR P base ι H w k)))
def onlyF (v : AV) (args : List AV) : Prop := (∃ g first cap, v = .fn (.fn (.func g)) first cap) ∧ ∃ l, args = [.fn (.yld l) [] []]
/-- the abstract calls are true to the model's -/
def ClS (P : Program) (cl : Cl) : Prop := ∀ (base : Nat) (ι : Io) (H : AH) (w : World) (v : AV) (args : List AV) (k : AV → AH → Bool) (cv : Value) (cargs : Array Value),
  HR P base ι H w → VR ι v cv → rowR ι args cargs → cl v args H k = true → UP P base ι H w k (onlyF v args) ((do let d ← Deferred.ofValue cv cargs; invoke d.target d.args).run P w)

theorem upon_UP {o : Oper} {only : Prop} {next : Act → World → Prop} {Q : Exit → Act → World → Prop} {r : Result Next} (h : UP P base ι H w k only r)
    (hk : ∀ v H' ι' cv w', Nx P base ι H w ι' H' w' → VR ι' v cv → k v H' = true → next (a.put o.dst cv) w') : o.uponIn (FW ro) 0 P a next Q r := by
  have back : ∀ e w', EndR P base ι H w k e w' → (match e, w' with
    | .returned v, w'' => next (a.put o.dst v) w''
    | .panicked chain, w'' => Q (.panic chain) a w''
    | .outgrown, _ => LetsOut Q) := fun e w' hh => by
    obtain ⟨cv, v, H', ι', rfl, hnx, hv, hkk⟩ := hh
    exact hk v H' ι' cv w' hnx hv hkk
  rcases h with ⟨f, args, w1, rfl, hc⟩ | ⟨_, ⟨v, H', ι', nx, w', rfl, hnx, hv, hkk⟩ | ⟨l, f, tmps, x, y, w1, rfl, hc⟩⟩
  · rw [Oper.uponIn_enter]
    exact ⟨FW_depth ro 0, (FW_calls hc).mono back⟩
  · cases nx <;> first | (exact hv.elim) | skip
    · exact hk v H' ι' _ w' hnx hv hkk
    · exact hk v H' ι' _ w' hnx hv hkk
  · rw [Oper.uponIn_round]
    exact ⟨FW_depth ro 0, (FW_rounds hc).mono back⟩

theorem rowR_put {dst : Option Tmp} {v : AV} {cv : Value} (he : rowR ι env a.tmps) (hv : VR ι v cv) : rowR ι (setd dst v env) (a.put dst cv).tmps := by
  cases dst with
  | none => exact he
  | some d =>
    show rowR ι (lset env d v) (a.tmps.setIfInBounds d cv)
    rw [lset_eq]
    refine ⟨by simp [he.1], fun i => ?_⟩
    rw [List.getD_eq_getElem?_getD, List.getElem?_set, Array.getD_eq_getD_getElem?, Array.getElem?_setIfInBounds]
    have h2 := he.2 i
    rw [List.getD_eq_getElem?_getD, Array.getD_eq_getD_getElem?] at h2
    by_cases hd : d = i
    · subst hd
      by_cases hl : d < env.length
      · have hl' : d < a.tmps.size := by rw [← he.1]; exact hl
        simp [hl, hl']
        exact hv
      · have hl' : ¬ d < a.tmps.size := by rw [← he.1]; exact hl
        simp [hl, hl']
        exact .undef _
    · simp only [if_neg hd]
      exact h2
theorem put_defers (dst : Option Tmp) (v : Value) : (a.put dst v).defers = a.defers := by cases dst <;> rfl

theorem readG_call {b : Bool} {n : Nat} {r : Option (Rp AV)} {f : Od} {as : List Od} : readG b n r ≠ .call f as := by
  intro h
  unfold readG at h
  split at h
  · revert h
    simp only [Bool.cond_eq_ite]
    (repeat' split) <;> (intro h; cases h)
  · cases h
theorem compOp_call {o : Oper} {f : Od} {as : List Od} (h : compOp P o = .call f as) : ∃ c g, o.op = .call c ∧ c.callee = .value g ∧ f = od g ∧ as = c.args.toList.map od := by
  unfold compOp at h
  split at h <;> try (cases h; done)
  all_goals try (repeat' split at h) <;> try first | (exact absurd h readG_call) | (cases h; done)
  all_goals first
    | (exact absurd h readG_call)
    | (exfalso; revert h; simp only [Bool.cond_eq_ite]; (repeat' split) <;> (intro h; cases h); done)
    | skip
  rename_i c g hc
  cases h
  exact ⟨_, _, by assumption, by assumption, rfl, rfl⟩

theorem compOp_defer {o : Oper} {c : Call} (h : o.op = .defer c) : compOp P o = .bad := by unfold compOp; rw [h]
theorem act_sound (hcl : ClS P cl) {o : Oper} {next : Act → World → Prop} {Q : Exit → Act → World → Prop} (hr : HR P base ι H w) (he : rowR ι env a.tmps) (hx : act cl (compOp P o) env H k = true)
    (hk : ∀ v H' ι' cv w', Nx P base ι H w ι' H' w' → VR ι' v cv → k v H' = true → next (a.put o.dst cv) w') : o.wpIn (FW ro) 0 P a w next Q := by
  refine ⟨fun f _ => FW_fn ro f, ?_⟩
  have hd : ∀ c, o.op ≠ .defer c := fun c h => by rw [compOp_defer h] at hx; cases hx
  rw [Oper.semAt_eq _ _ _ hd]
  by_cases hc : ∃ f as, compOp P o = .call f as
  · obtain ⟨f, as, hc⟩ := hc
    rw [hc] at hx
    obtain ⟨c, g, ho, hcal, rfl, rfl⟩ := compOp_call hc
    have h1 := rowR_map he c.args.toList
    have e1 : (c.args.toList.map a.eval).toArray = c.args.map a.eval := by rw [← Array.toList_map, Array.toArray_toList]
    rw [e1] at h1
    have h2 := hcl base ι H w _ _ k _ _ hr (ev_sound he g) h1 hx
    have h3 : execOp a.eval o = (do let d ← Deferred.ofValue (a.eval g) (c.args.map a.eval); invoke d.target d.args) := by
      simp only [execOp, ho, resolve, hcal]
    rw [h3]
    exact upon_UP h2 hk
  · have hx' : xop (compOp P o) env H k = true := by
      unfold act at hx
      split at hx
      · exact absurd ⟨_, _, by assumption⟩ hc
      · exact hx
    exact upon_UP (only := False) (Or.inr ⟨id, Or.inl (sound_op o hr he hx')⟩) hk

theorem wants_sound {ops : Array Oper} {o : Oper} {g : Option (Nat × Bool)} {yes no : Unit → Bool} (hg : compG ops o = some g) (he : rowR ι env a.tmps) (h : wants g env yes no = true) :
    (Region.wanted o (yielded ops a.tmps) = true ∧ yes () = true) ∨ (Region.wanted o (yielded ops a.tmps) = false ∧ no () = true) := by
  unfold compG at hg
  split at hg
  · rename_i ho
    cases hg
    exact Or.inl ⟨by simp [Region.wanted, ho], h⟩
  · rename_i j wt ho
    split at hg
    · rename_i t ht
      cases hg
      simp only [wants] at h
      have hv := he.2 t
      rw [← lget_eq] at hv
      split at h
      · rename_i b hb
        rw [hb] at hv
        have hv' := hv.bool_inv
        have hin : a.tmps[t]? = some (.bool b) := by
          rw [Array.getD_eq_getD_getElem?] at hv'
          cases ht' : a.tmps[t]? with
          | none => rw [ht'] at hv'; cases hv'
          | some x => rw [ht'] at hv'; simp at hv'; rw [hv']
        have hy : yielded ops a.tmps j = some b := by simp [yielded, ht, hin]
        cases b <;> cases wt
        · exact Or.inl ⟨by simp [Region.wanted, ho, hy], h⟩
        · exact Or.inr ⟨by simp [Region.wanted, ho, hy], h⟩
        · exact Or.inr ⟨by simp [Region.wanted, ho, hy], h⟩
        · exact Or.inl ⟨by simp [Region.wanted, ho, hy], h⟩
      · rename_i hb
        rw [hb] at hv
        refine Or.inr ⟨?_, h⟩
        have hn : yielded ops a.tmps j = none := by
          unfold yielded
          rw [ht]
          simp only [Option.bind_some]
          cases ht' : a.tmps[t]? with
          | none => rfl
          | some x =>
            rw [Array.getD_eq_getD_getElem?, ht'] at hv
            simp at hv
            cases hv
            rfl
        simp [Region.wanted, ho, hn]
      · cases h
    · cases hg
theorem compO_inv {ops : Array Oper} {o : Oper} {x : XOper} (h : compO P ops o = some x) : ∃ g, compG ops o = some g ∧ x = ⟨o.dst, compOp P o, g⟩ := by
  unfold compO at h
  split at h
  · cases h; exact ⟨_, by assumption, rfl⟩
  · cases h
theorem VR_skip (ι : Io) : VR ι (.tup []) Go.undef := .tup _ _ rfl (fun i => by simp only [List.getD_nil]; exact .undef _)

theorem stepOp_sound (hcl : ClS P cl) {ops : Array Oper} {i : Nat} {o : Oper} {x : XOper} {K : Act → World → Prop} {Q : Exit → Act → World → Prop} {kk : Env → AH → Bool} (hc : compO P ops o = some x) (hi : ops[i]? = some o)
    (hr : HR P base ι H w) (he : rowR ι env a.tmps) (hx : stepOp cl x env H kk = true)
    (hk : ∀ env' H' ι' a' w', Nx P base ι H w ι' H' w' → rowR ι' env' a'.tmps → a'.defers = a.defers → kk env' H' = true → K a' w') : wpOpIn (FW ro) 0 P ops Q i K a w := by
  obtain ⟨g, hg, rfl⟩ := compO_inv hc
  unfold wpOpIn
  simp only [hi]
  rcases wants_sound hg he hx with ⟨h1, h2⟩ | ⟨h1, h2⟩
  · rw [if_pos h1]
    exact act_sound hcl hr he h2 (fun v H' ι' cv w' hnx hv hkk => hk _ H' ι' _ w' hnx (rowR_put (he.mono hnx.le) hv) (put_defers _ _) hkk)
  · rw [if_neg (by rw [h1]; exact Bool.false_ne_true)]
    exact ⟨fun f _ => FW_fn ro f, hk _ H ι _ w (Nx.refl hr) (rowR_put he (VR_skip ι)) (put_defers _ _) h2⟩

theorem runOps_sound (hcl : ClS P cl) {ops : Array Oper} {Q : Exit → Act → World → Prop} {kk : Env → AH → Bool} : ∀ (l : List Oper) (s : Nat) (xs : List XOper) (ι : Io) (H : AH) (w : World) (env : Env) (a : Act), compL P ops l = some xs → (∀ j, j < l.length → ops[s + j]? = l[j]?) →
    HR P base ι H w → rowR ι env a.tmps → runOps cl xs env H kk = true →
    (∀ env' H' ι' a' w', Nx P base ι H w ι' H' w' → rowR ι' env' a'.tmps → a'.defers = a.defers → kk env' H' = true → Q .normal a' w') → wpOpsIn (FW ro) 0 P ops Q (List.range' s l.length) a w
  | [], s, xs, ι, H, w, env, a, hc, hl, hr, he, hx, hk => by
    cases hc
    exact hk env H ι a w (Nx.refl hr) he rfl hx
  | o :: l, s, xs, ι, H, w, env, a, hc, hl, hr, he, hx, hk => by
    unfold compL at hc
    split at hc
    · rename_i x r h1 h2
      cases hc
      rw [List.length_cons, List.range'_succ, wpOpsIn_cons]
      refine stepOp_sound hcl h1 (by have := hl 0 (by simp); simpa using this) hr he (show stepOp cl x env H (fun env H => runOps cl r env H kk) = true from hx) (fun env' H' ι' a' w' hnx he' hd hkk => ?_)
      refine runOps_sound hcl l (s + 1) r ι' H' w' env' a' h2 (fun j hj => ?_) hnx.hr he' hkk (fun env2 H2 ι2 a2 w2 hnx2 he2 hd2 hk2 => hk env2 H2 ι2 a2 w2 (hnx.trans hnx2) he2 (hd2.trans hd) hk2)
      have := hl (j + 1) (by simpa using hj)
      rw [show s + 1 + j = s + (j + 1) by omega]
      simpa using this
    · cases hc
end
end Go.Jt
