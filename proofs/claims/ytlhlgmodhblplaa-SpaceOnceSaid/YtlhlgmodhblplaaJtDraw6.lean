/-
  A region whose order is open: the steps between two effects, run in the abstract.
-/
import Derived.Test.YtlhlgmodhblplaaJtDraw5
set_option autoImplicit false
set_option linter.all false
namespace Go.Jt
open Go.RowKit (Below)
variable [Gl]

theorem xop_alloc {o : XOp} {env : Env} {H : AH} {k : AV → AH → Bool} (hk : kindX o = 2) (h : xop o env H k = true) : ∃ ob f, Alc o env ob f := by
  cases o <;> first | (exfalso; revert hk; simp [kindX]; done) | skip
  case alloc z => exact ⟨.cells z false false, fun b => .ptr b 0, fun H k => alc_alc _ _ H k⟩
  case box x =>
    obtain ⟨ob, f, e, hk'⟩ := alc_inv (show alc (boxed (ev env x)) H k = true from h)
    exact ⟨ob, f, fun H k => by show alc (boxed (ev env x)) H k = _; rw [e, alc_alc]⟩
  case mkm => exact ⟨.mp [] 0, fun b => .map b, fun H k => alc_alc _ _ H k⟩
  case rng x =>
    simp only [xop] at h
    split at h
    · rename_i l e
      exact ⟨.sit l 0, fun b => .ptr b 0, fun H k => by simp only [xop, e]; exact alc_alc _ _ H k⟩
    · cases h
  case s2b x =>
    simp only [xop] at h
    split at h
    · rename_i l e
      exact ⟨.cells (Rp.ofL (l.map fun c => .int .u8 (Int.ofNat c))) true false, fun b => .slu b 0 (llen l 0) 1, fun H k => by simp only [xop, e, fN_eq]; exact alc_alc _ _ H k⟩
    · cases h
  case mks es bytes z l c =>
    simp only [xop] at h
    split at h
    · rename_i q m q' n e1 e2
      rw [fN_eq, fN_eq] at h
      obtain ⟨h1, h2⟩ := cond_true_inv h
      obtain ⟨h3, h4⟩ := cond_true_inv h2
      obtain ⟨h5, h6⟩ := cond_true_inv h4
      exact ⟨.cells (zeros n z) false false, fun b => .slc b 0 m n, fun H k => by simp only [xop, e1, e2, fN_eq, h1, h3, h5, cond_true]; exact alc_alc _ _ H k⟩
    · cases h
  case bsl n z l =>
    simp only [xop] at h
    obtain ⟨r, h1, e⟩ := fillIn_det l z h
    exact ⟨.cells r false false, fun b => .slc b 0 n n, fun H k => by simp only [xop]; rw [e]; exact alc_alc _ _ H k⟩

section
variable {P : Program} {base : Nat} {ops : Array Oper} {X : List XOper} {b E : List Nat} {cl : Cl}

theorem Nx.idle {ι : Io} {H : AH} {w : World} (h : HR P base ι H w) (o : AObj) : Nx P base ι H w ι (H.new o) w :=
  ⟨Io.le_refl _, h.idle o, fun x hx hn => ⟨hn, by rw [AH.get_new, if_neg (by omega)]⟩, by rw [AH.n_new]; omega, Below.refl _ _⟩
theorem sub_new {ι : Io} {H : AH} {w : World} (h : HR P base ι H w) (o : AObj) : H.sub (H.new o) := fun x ox hx => by
  have := h.dom x ox hx
  rw [AH.get_new, if_neg (by omega)]; exact hx
theorem setd_len (d : Option Nat) (v : AV) (env : Env) : (setd d v env).length = env.length := by
  cases d with
  | none => rfl
  | some d => show (lset env d v).length = _; rw [lset_eq]; simp
theorem setd_other {d : Option Nat} {v : AV} {env : Env} {t : Nat} (h : d ≠ some t) : lget (setd d v env) t = lget env t := by
  cases d with
  | none => rfl
  | some d =>
    show lget (lset env d v) t = _
    have hne : d ≠ t := fun e => h (by rw [e])
    rw [lset_eq, lget_eq, lget_eq, List.getD_eq_getElem?_getD, List.getElem?_set, if_neg hne, List.getD_eq_getElem?_getD]
theorem setd_here {d : Nat} {v : AV} {env : Env} (h : d < env.length) : lget (setd (some d) v env) d = v := by
  show lget (lset env d v) d = _
  rw [lset_eq, lget_eq, List.getD_eq_getElem?_getD, List.getElem?_set, if_pos rfl, if_pos h]; rfl
theorem Cert.pend_lt {n0 p : Nat} {x : XOper} {env : Env} {H : AH} {ι : Io} (h : Cert n0 p x env H ι) (hk : kindX x.op = 2) (hw : wantsB x.guard env = some true) : p < H.n := by
  obtain ⟨v, _, ⟨g1, _⟩ | ⟨_, ⟨k1, _⟩ | ⟨_, ob, f, _, _, _, k5, _⟩⟩⟩ := h
  · rw [hw] at g1; cases g1
  · omega
  · exact k5

/-- the blocks laid ahead are unlike -/
def Unlike (X : List XOper) (A : Nat → Prop) (env : Env) (pend : Nat → Nat) : Prop := ∀ i i', A i → A i' → kindX (opAt X i).op = 2 → kindX (opAt X i').op = 2 → wantsB (opAt X i).guard env = some true → wantsB (opAt X i').guard env = some true → pend i = pend i' → i = i'

theorem run_runs (hO : Okd P ops X b E) (k n0 : Nat) : ∀ (js : List Nat) (A : Nat → Prop) (env : Env) (H : AH) (ι : Io) (w : World) (K : Env → AH → Bool) (pend : Nat → Nat), js.Pairwise (· < ·) →
    (∀ j ∈ js, j < ops.size ∧ j ∉ E ∧ lo b E j = k) → (∀ i, A i → i < ops.size ∧ i ∉ E ∧ (lo b E i < k ∨ (lo b E i = k ∧ ∀ j ∈ js, i < j))) →
    HR P base ι H w → n0 ≤ H.n → (∀ i, A i → Cert n0 (pend i) (opAt X i) env H ι) → Unlike X A env pend → runD cl (js.map fun i => DStep.run (opAt X i)) env H K = true →
    ∃ env' H' pend', K env' H' = true ∧ Nx P base ι H w ι H' w ∧ env'.length = env.length ∧ (∀ i, A i ∨ i ∈ js → Cert n0 (pend' i) (opAt X i) env' H' ι) ∧ Unlike X (fun i => A i ∨ i ∈ js) env' pend' ∧
      ∀ t, (∀ j ∈ js, (opAt X j).dst ≠ some t) → lget env' t = lget env t
  | [], A, env, H, ι, w, K, pend, _, _, _, hr, _, hc, hu, h => ⟨env, H, pend, h, Nx.refl hr, rfl, fun i hi => hc i (hi.resolve_right (by simp)), fun i i' h1 h2 => hu i i' (h1.resolve_right (by simp)) (h2.resolve_right (by simp)), fun _ _ => rfl⟩
  | j :: js, A, env, H, ι, w, K, pend, hs, hj, hA, hr, hn0, hc, hu, h => by
    obtain ⟨hs1, hs2⟩ := List.pairwise_cons.1 hs
    obtain ⟨hjn, hj3, hjk⟩ := hj j (by simp)
    -- place of j in the abstract run, and of those that were run ahead
    have hplace : ∀ i, i < ops.size → i ∉ E → keyX b E i = 2 * lo b E i := fun i hi h3 => by
      unfold keyX
      rw [placeE_none E 0 h3]
    have quiet : ∀ i, A i ∨ i = j → ∀ d, (opAt X j).dst = some d → d ∉ looks (opAt X i) := fun i hi d hd hl => by
      have hin : i < ops.size := by
        rcases hi with hi | hi
        · exact (hA i hi).1
        · rw [hi]; exact hjn
      obtain ⟨hne, hlk⟩ := hO.look j d hjn hd i hin hl
      have hah : ahead b E j i = true := hlk.elim (fun h => h.2) (fun h => absurd h.2 hj3)
      rcases hi with hi | hi
      · obtain ⟨_, hi3, hik⟩ := hA i hi
        unfold ahead at hah
        rw [hplace j hjn hj3, hplace i hin hi3, hjk] at hah
        simp only [Bool.or_eq_true, Bool.and_eq_true] at hah
        rcases hah with hah | ⟨hah1, hah2⟩
        · have h1 : 2 * k < 2 * lo b E i := Nat.le_of_ble_eq_true hah
          rcases hik with hik | ⟨hik, _⟩ <;> omega
        · have h1 := Nat.eq_of_beq_eq_true hah1
          have h2 : j < i := Nat.le_of_ble_eq_true hah2
          rcases hik with hik | ⟨_, hik⟩
          · omega
          · have := hik j (by simp); omega
      · exact hne hi
    have apart : ∀ i, A i → ∀ d, (opAt X i).dst = some d → (opAt X j).dst ≠ some d := fun i hi d hd => by
      obtain ⟨hin, _, hik⟩ := hA i hi
      refine hO.one i d hin hd j hjn (fun e => ?_)
      subst e
      rcases hik with hik | ⟨_, hik⟩
      · omega
      · have := hik j (by simp); omega
    have agj : ∀ v i, A i ∨ i = j → agr (looks (opAt X i)) env (setd (opAt X j).dst v env) := fun v i hi t ht => (setd_other (fun hd => quiet i hi t hd ht)).symm
    -- on with the rest
    have next : ∀ (v : AV) (H' : AH) (p : Nat), Nx P base ι H w ι H' w → H.sub H' → Cert n0 p (opAt X j) (setd (opAt X j).dst v env) H' ι → (kindX (opAt X j).op = 2 → wantsB (opAt X j).guard env = some true → p = H.n) →
        runD cl (js.map fun i => DStep.run (opAt X i)) (setd (opAt X j).dst v env) H' K = true → ∃ env' H' pend', K env' H' = true ∧ Nx P base ι H w ι H' w ∧ env'.length = env.length ∧ (∀ i, A i ∨ i ∈ j :: js → Cert n0 (pend' i) (opAt X i) env' H' ι) ∧ Unlike X (fun i => A i ∨ i ∈ j :: js) env' pend' ∧
          ∀ t, (∀ i ∈ j :: js, (opAt X i).dst ≠ some t) → lget env' t = lget env t := fun v H' p hnx hsub hcj hp hK => by
      have notA : ¬ A j := fun hAj => by
        rcases (hA j hAj).2.2 with h1 | ⟨_, h1⟩
        · omega
        · have := h1 j (by simp); omega
      obtain ⟨env2, H2, pend2, r1, r2, r3, r4, r5, r6⟩ := run_runs hO k n0 js (fun i => A i ∨ i = j) (setd (opAt X j).dst v env) H' ι w K (fun i => if i = j then p else pend i) hs2 (fun i hi => hj i (List.mem_cons_of_mem _ hi)) (fun i hi => by
          rcases hi with hi | hi
          · obtain ⟨a1, a2, a3⟩ := hA i hi
            refine ⟨a1, a2, ?_⟩
            rcases a3 with a3 | ⟨a3, a4⟩
            · exact Or.inl a3
            · exact Or.inr ⟨a3, fun j' hj' => a4 j' (List.mem_cons_of_mem _ hj')⟩
          · subst hi
            exact ⟨hjn, hj3, Or.inr ⟨hjk, fun j' hj' => hs1 j' hj'⟩⟩) hnx.hr (by have := hnx.n; omega) (fun i hi => by
          by_cases hij : i = j
          · subst hij; simp only [if_true]; exact hcj
          · simp only [if_neg hij]
            have hAi := hi.resolve_right hij
            exact ((hc i hAi).heap hsub hnx.n).env (setd_len _ _ _) (agj v i hi) (fun d hd => setd_other (apart i hAi d hd))) (fun i i' hi hi' k1 k2 w1 w2 hpp => by
          have u1 : ∀ i, A i ∨ i = j → wantsB (opAt X i).guard (setd (opAt X j).dst v env) = wantsB (opAt X i).guard env := fun i hi => (wantsB_loc (agj v i hi)).symm
          rw [u1 i hi] at w1
          rw [u1 i' hi'] at w2
          dsimp only at hpp
          by_cases hij : i = j
          · by_cases hij' : i' = j
            · rw [hij, hij']
            · exfalso
              have hAi' := hi'.resolve_right hij'
              rw [if_pos hij, if_neg hij'] at hpp
              have := (hc i' hAi').pend_lt k2 w2
              rw [hij] at k1 w1
              have := hp k1 w1
              omega
          · by_cases hij' : i' = j
            · exfalso
              have hAi := hi.resolve_right hij
              rw [if_neg hij, if_pos hij'] at hpp
              have := (hc i hAi).pend_lt k1 w1
              rw [hij'] at k2 w2
              have := hp k2 w2
              omega
            · rw [if_neg hij, if_neg hij'] at hpp
              exact hu i i' (hi.resolve_right hij) (hi'.resolve_right hij') k1 k2 w1 w2 hpp) hK
      refine ⟨env2, H2, pend2, r1, hnx.trans r2, r3.trans (setd_len _ _ _), fun i hi => r4 i ?_, fun i i' h1 h2 => r5 i i' ?_ ?_, fun t ht => ?_⟩
      · rcases hi with hi | hi
        · exact Or.inl (Or.inl hi)
        · rcases List.mem_cons.1 hi with hi | hi
          · exact Or.inl (Or.inr hi)
          · exact Or.inr hi
      · rcases h1 with hi | hi
        · exact Or.inl (Or.inl hi)
        · rcases List.mem_cons.1 hi with hi | hi
          · exact Or.inl (Or.inr hi)
          · exact Or.inr hi
      · rcases h2 with hi | hi
        · exact Or.inl (Or.inl hi)
        · rcases List.mem_cons.1 hi with hi | hi
          · exact Or.inl (Or.inr hi)
          · exact Or.inr hi
      · rw [r6 t (fun i hi => ht i (List.mem_cons_of_mem _ hi))]
        exact setd_other (ht j (by simp))
    have h' : wants (opAt X j).guard env (fun _ => act cl (opAt X j).op env H fun v H => runD cl (js.map fun i => DStep.run (opAt X i)) (setd (opAt X j).dst v env) H K)
      (fun _ => runD cl (js.map fun i => DStep.run (opAt X i)) (setd (opAt X j).dst (.tup []) env) H K) = true := h
    rw [wants_eq] at h'
    have here : ∀ v d, (opAt X j).dst = some d → d < (setd (opAt X j).dst v env).length → lget (setd (opAt X j).dst v env) d = v := fun v d hd hl => by
      rw [setd_len] at hl
      rw [hd]; exact setd_here hl
    split at h'
    · rename_i hw
      rw [act_xop (hO.notE j hjn hj3)] at h'
      have hw' : ∀ v, wantsB (opAt X j).guard (setd (opAt X j).dst v env) = some true := fun v => by rw [← wantsB_loc (agj v j (Or.inr rfl))]; exact hw
      by_cases hk1 : kindX (opAt X j).op ≤ 1
      · obtain ⟨v, h1, h2⟩ := xop_read hk1 h'
        exact next v H 0 (Nx.refl hr) (AH.sub_refl H) ⟨v, here v, Or.inr ⟨hw' v, Or.inl ⟨hk1, fun k' => by rw [← xop_loc (looks_op (agj v j (Or.inr rfl)))]; exact h2 H k' (Or.inr (AH.sub_refl H))⟩⟩⟩ (fun h2 => by omega) h1
      · have hk2 : kindX (opAt X j).op = 2 := by
          have : kindX (opAt X j).op ≤ 3 := by unfold kindX; split <;> omega
          have := hO.notE j hjn hj3
          omega
        obtain ⟨ob, f, hal⟩ := xop_alloc hk2 h'
        rw [hal] at h'
        refine next (f H.n) (H.new ob) H.n (Nx.idle hr ob) (sub_new hr ob) ⟨f H.n, here _, Or.inr ⟨hw' _, Or.inr ⟨hk2, ob, f, fun H k => by rw [← xop_loc (looks_op (agj _ j (Or.inr rfl)))]; exact hal H k, rfl, hn0, by rw [AH.n_new]; omega, by rw [AH.get_new, if_pos rfl], hr.fresh _ (Nat.le_refl _)⟩⟩⟩ (fun _ _ => rfl) h'
    · rename_i hw
      exact next (.tup []) H 0 (Nx.refl hr) (AH.sub_refl H) ⟨.tup [], here _, Or.inl ⟨by rw [← wantsB_loc (agj _ j (Or.inr rfl))]; exact hw, rfl⟩⟩ (fun _ hw2 => by rw [hw] at hw2; cases hw2) h'
    · cases h'
end
end Go.Jt
