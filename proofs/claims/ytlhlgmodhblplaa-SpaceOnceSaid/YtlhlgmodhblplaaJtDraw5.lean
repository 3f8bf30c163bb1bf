/-
  Certificates: what an operation that was run ahead in the abstract tells, it tells still.
-/
import Derived.Test.YtlhlgmodhblplaaJtDraw4
set_option autoImplicit false
set_option linter.all false
namespace Go.Jt
open Go.RowKit (Below)
variable [Gl]

noncomputable def wantsB (g : Option (Nat × Bool)) (env : Env) : Option Bool := match g with
  | none => some true
  | some (t, w) => match lget env t with
    | .bool b => some (cond b w (!w))
    | .tup [] => some false
    | _ => none
theorem wants_eq (g : Option (Nat × Bool)) (env : Env) (yes no : Unit → Bool) : wants g env yes no = (match wantsB g env with
    | some true => yes ()
    | some false => no ()
    | none => false) := by
  unfold wants wantsB
  cases g with
  | none => rfl
  | some p =>
    obtain ⟨t, w⟩ := p
    simp only
    generalize lget env t = v
    cases v <;> first
      | rfl
      | (rename_i b; cases b <;> cases w <;> rfl)
      | (rename_i l; cases l <;> rfl)
theorem wantsB_loc {x : XOper} {env env' : Env} (h : agr (looks x) env env') : wantsB x.guard env = wantsB x.guard env' := by
  cases hg : x.guard with
  | none => rfl
  | some p =>
    obtain ⟨t, w⟩ := p
    have : lget env t = lget env' t := h t (by simp [looks, hg])
    simp only [wantsB, this]
theorem looks_op {x : XOper} {env env' : Env} (h : agr (looks x) env env') : agr (readsX x.op) env env' := h.left
theorem act_loc {cl : Cl} {o : XOp} {env env' : Env} (h : agr (readsX o) env env') (H : AH) (k : AV → AH → Bool) : act cl o env H k = act cl o env' H k := by
  by_cases hc : ∃ f as, o = .call f as
  · obtain ⟨f, as, rfl⟩ := hc
    show cl (ev env f) (as.map (ev env)) H k = cl (ev env' f) (as.map (ev env')) H k
    rw [ev_loc (o := f) h.left, evs_loc (l := as) h.right]
  · have e : ∀ env, act cl o env H k = xop o env H k := fun env => by
      unfold act
      split
      · exact absurd ⟨_, _, rfl⟩ hc
      · rfl
    rw [e, e]
    exact xop_loc h H k
theorem act_xop {cl : Cl} {o : XOp} (h : kindX o ≠ 3) (env : Env) (H : AH) (k : AV → AH → Bool) : act cl o env H k = xop o env H k := by
  unfold act
  split
  · exact absurd rfl h
  · rfl

/-- what is known of an operation that was run ahead: 'n0': the first block that is the region's own; 'p': the block that it laid -/
def Cert (n0 p : Nat) (x : XOper) (env : Env) (H : AH) (ι : Io) : Prop := ∃ v, (∀ d, x.dst = some d → d < env.length → lget env d = v) ∧
  ((wantsB x.guard env = some false ∧ v = .tup []) ∨ (wantsB x.guard env = some true ∧
    ((kindX x.op ≤ 1 ∧ ∀ k', xop x.op env H k' = k' v H) ∨
     (kindX x.op = 2 ∧ ∃ ob f, Alc x.op env ob f ∧ v = f p ∧ n0 ≤ p ∧ p < H.n ∧ H.get p = some ob ∧ ι p = none))))

theorem Cert.env {n0 p : Nat} {x : XOper} {env env' : Env} {H : AH} {ι : Io} (h : Cert n0 p x env H ι) (hl : env'.length = env.length) (h1 : agr (looks x) env env') (h2 : ∀ d, x.dst = some d → lget env' d = lget env d) : Cert n0 p x env' H ι := by
  obtain ⟨v, hv, hc⟩ := h
  refine ⟨v, fun d hd hlt => by rw [h2 d hd]; exact hv d hd (by omega), ?_⟩
  rcases hc with ⟨g1, g2⟩ | ⟨g1, g2⟩
  · exact Or.inl ⟨by rw [← wantsB_loc h1]; exact g1, g2⟩
  · refine Or.inr ⟨by rw [← wantsB_loc h1]; exact g1, ?_⟩
    rcases g2 with ⟨k1, k2⟩ | ⟨k1, ob, f, k2, k3⟩
    · exact Or.inl ⟨k1, fun k' => by rw [← xop_loc (looks_op h1)]; exact k2 k'⟩
    · exact Or.inr ⟨k1, ob, f, fun H k => by rw [← xop_loc (looks_op h1)]; exact k2 H k, k3⟩
theorem read_same {o : XOp} {env : Env} {H H' : AH} {v : AV} (hk : kindX o ≤ 1) (h : ∀ k', xop o env H k' = k' v H) (hs : kindX o = 0 ∨ H.sub H') : ∀ k', xop o env H' k' = k' v H' := by
  obtain ⟨v', _, h2⟩ := xop_read (k := fun _ _ => true) hk (h _)
  classical
  have e := h2 H (fun x _ => decide (x = v)) (Or.inr (AH.sub_refl H))
  rw [h] at e
  have : v' = v := by simpa using e.symm
  subst this
  exact fun k' => h2 H' k' hs
/-- some blocks more -/
theorem Cert.heap {n0 p : Nat} {x : XOper} {env : Env} {H H' : AH} {ι : Io} (h : Cert n0 p x env H ι) (hs : H.sub H') (hn : H.n ≤ H'.n) : Cert n0 p x env H' ι := by
  obtain ⟨v, hv, hc⟩ := h
  refine ⟨v, hv, ?_⟩
  rcases hc with hc | ⟨g1, g2⟩
  · exact Or.inl hc
  · refine Or.inr ⟨g1, ?_⟩
    rcases g2 with ⟨k1, k2⟩ | ⟨k1, ob, f, k2, k3, k4, k5, k6, k7⟩
    · exact Or.inl ⟨k1, read_same k1 k2 (Or.inr hs)⟩
    · exact Or.inr ⟨k1, ob, f, k2, k3, k4, by omega, hs _ _ k6, k7⟩
/-- behind a step, told of what does not read, or was looked at again -/
theorem Cert.step {P : Program} {base n0 p : Nat} {x : XOper} {env : Env} {H H' : AH} {ι ι' : Io} {w w' : World} (h : Cert n0 p x env H ι) (hnx : Nx P base ι H w ι' H' w')
    (hre : kindX x.op = 1 → wantsB x.guard env = some true → ∃ d v, x.dst = some d ∧ v = lget env d ∧ ∀ k', xop x.op env H' k' = k' v H') : Cert n0 p x env H' ι' := by
  obtain ⟨v, hv, hc⟩ := h
  rcases hc with hc | ⟨g1, g2⟩
  · exact ⟨v, hv, Or.inl hc⟩
  · rcases g2 with ⟨k1, k2⟩ | ⟨k1, ob, f, k2, k3, k4, k5, k6, k7⟩
    · by_cases h1 : kindX x.op = 1
      · obtain ⟨d, v', hd, hv', hx⟩ := hre h1 g1
        exact ⟨v', fun d' hd' _ => by rw [hd] at hd'; cases hd'; exact hv'.symm, Or.inr ⟨g1, Or.inl ⟨k1, hx⟩⟩⟩
      · exact ⟨v, hv, Or.inr ⟨g1, Or.inl ⟨k1, read_same k1 k2 (Or.inl (by omega))⟩⟩⟩
    · obtain ⟨s1, s2⟩ := hnx.stay p k5 k7
      exact ⟨v, hv, Or.inr ⟨g1, Or.inr ⟨k1, ob, f, k2, k3, k4, by have := hnx.n; omega, s2.trans k6, s1⟩⟩⟩
theorem Cert.io {n0 p : Nat} {x : XOper} {env : Env} {H : AH} {ι ι' : Io} (h : Cert n0 p x env H ι) (hi : kindX x.op = 2 → wantsB x.guard env = some true → ι p = none → ι' p = none) : Cert n0 p x env H ι' := by
  obtain ⟨v, hv, hc⟩ := h
  refine ⟨v, hv, ?_⟩
  rcases hc with hc | ⟨g1, g2⟩
  · exact Or.inl hc
  · refine Or.inr ⟨g1, ?_⟩
    rcases g2 with g2 | ⟨k1, ob, f, k2, k3, k4, k5, k6, k7⟩
    · exact Or.inl g2
    · exact Or.inr ⟨k1, ob, f, k2, k3, k4, k5, k6, hi k1 g1 k7⟩

/-! ### a segment, run in the abstract -/
theorem run_agains {cl : Cl} {X : List XOper} {env : Env} {H : AH} : ∀ (js : List Nat) (rest : List DStep) (K : Env → AH → Bool), (∀ i ∈ js, kindX (opAt X i).op = 1) → runD cl ((js.map fun i => DStep.again (opAt X i)) ++ rest) env H K = true →
    runD cl rest env H K = true ∧ ∀ i ∈ js, wantsB (opAt X i).guard env = some true → kindX (opAt X i).op = 1 → ∃ d v, (opAt X i).dst = some d ∧ v = lget env d ∧ ∀ k', xop (opAt X i).op env H k' = k' v H
  | [], rest, K, _, h => ⟨h, fun i hi => by cases hi⟩
  | j :: js, rest, K, hjs, h => by
    have h' : wants (opAt X j).guard env (fun _ => match (opAt X j).dst with
      | some d => xop (opAt X j).op env H fun v _ => cond (same v (lget env d)) (runD cl ((js.map fun i => DStep.again (opAt X i)) ++ rest) env H K) false
      | none => false) (fun _ => runD cl ((js.map fun i => DStep.again (opAt X i)) ++ rest) env H K) = true := h
    rw [wants_eq] at h'
    split at h'
    · rename_i hw
      split at h'
      · rename_i d hd
        have hk : kindX (opAt X j).op ≤ 1 := by rw [hjs j (by simp)]; omega
        · obtain ⟨v, h1, h2⟩ := xop_read hk h'
          obtain ⟨h3, h4⟩ := cond_true_inv h1
          have hv := same_eq h3
          obtain ⟨g1, g2⟩ := run_agains js rest K (fun i hi => hjs i (List.mem_cons_of_mem _ hi)) h4
          refine ⟨g1, fun i hi hw' hk' => ?_⟩
          rcases List.mem_cons.1 hi with rfl | hi
          · exact ⟨d, v, hd, hv, fun k' => h2 H k' (Or.inr (AH.sub_refl H))⟩
          · exact g2 i hi hw' hk'
      · cases h'
    · rename_i hw
      obtain ⟨g1, g2⟩ := run_agains js rest K (fun i hi => hjs i (List.mem_cons_of_mem _ hi)) h'
      refine ⟨g1, fun i hi hw' hk' => ?_⟩
      rcases List.mem_cons.1 hi with rfl | hi
      · rw [hw] at hw'; cases hw'
      · exact g2 i hi hw' hk'
    · cases h'
end Go.Jt
