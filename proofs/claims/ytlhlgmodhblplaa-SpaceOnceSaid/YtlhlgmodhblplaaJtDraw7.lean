/-
  A region whose order is open, run in one order, is true to the model's walk in whichever.
-/
import Derived.Test.YtlhlgmodhblplaaJtDraw6
import Derived.OrdersIn
set_option autoImplicit false
set_option linter.all false
namespace Go.Jt
open Go.RowKit (Below)
variable [Gl]

section
variable {P : Program} {base : Nat} {ops : Array Oper} {X : List XOper} {b E : List Nat} {cl : Cl} {ro : Option Nat}

/-- 'listed': what the model has done; 'k': so many effects of these; env, H: the abstract run just ahead of effect k -/
structure Inv (P : Program) (base : Nat) (ops : Array Oper) (X : List XOper) (b E : List Nat) (cl : Cl) (kk : Env → AH → Bool) (ι0 : Io) (H0 : AH) (w0 : World) (ds0 : List Deferred) (listed : Array Bool) (k : Nat) (env : Env) (H : AH) (ι : Io) (a : Act) (w : World) (pend : Nat → Nat) : Prop where
  size : listed.size = ops.size
  nx : Nx P base ι0 H0 w0 ι H w
  df : a.defers = ds0
  clo : ∀ i j, listed.getD i false = true → j < ops.size → pre b j i = true → listed.getD j false = true
  eff : ∀ (m e : Nat), E[m]? = some e → (listed.getD e false = true ↔ m < k)
  tm : ∃ envc, rowR ι envc a.tmps ∧ envc.length = env.length ∧ ∀ t, (∀ j, j < ops.size → listed.getD j false = false → j ∉ E → (opAt X j).dst ≠ some t) → lget envc t = lget env t
  cert : ∀ i, (i < ops.size ∧ listed.getD i false = false ∧ i ∉ E ∧ lo b E i ≤ k) → Cert H0.n (pend i) (opAt X i) env H ι
  unl : Unlike X (fun i => i < ops.size ∧ listed.getD i false = false ∧ i ∉ E ∧ lo b E i ≤ k) env pend
  go : runS cl (restOf X b E (E.drop k) k) env H kk = true
  kle : k ≤ E.length

theorem getD_set_self {l : Array Bool} {i : Nat} (h : i < l.size) (d : Bool) : (l.setIfInBounds i true).getD i d = true := by simp [Array.getD, h]
theorem getD_set_not {l : Array Bool} {i j : Nat} (h : i ≠ j) (d : Bool) : (l.setIfInBounds i true).getD j d = l.getD j d := by
  rw [Array.getD_eq_getD_getElem?, Array.getD_eq_getD_getElem?, Array.getElem?_setIfInBounds, if_neg h]
theorem filter_less {p q : Nat → Bool} : ∀ (l : List Nat), (∀ x, q x = true → p x = true) → (∃ x ∈ l, p x = true ∧ q x = false) → (l.filter q).length < (l.filter p).length
  | [], _, h => by obtain ⟨x, hx, _⟩ := h; cases hx
  | y :: l, hq, h => by
    have le : ∀ l : List Nat, (l.filter q).length ≤ (l.filter p).length := fun l => by
      induction l with
      | nil => simp
      | cons z l ih =>
        rw [List.filter_cons, List.filter_cons]
        cases h1 : q z with
        | true => rw [hq z h1]; simpa using ih
        | false => cases p z <;> simp <;> omega
    obtain ⟨x, hx, h1, h2⟩ := h
    rw [List.filter_cons, List.filter_cons]
    rcases List.mem_cons.1 hx with rfl | hx
    · rw [h1, h2]
      have := le l
      simp; omega
    · have := filter_less l hq ⟨x, hx, h1, h2⟩
      cases h3 : q y with
      | true => rw [hq y h3]; simpa using this
      | false => cases p y <;> simp <;> omega
def open_ (ops : Array Oper) (listed : Array Bool) : Nat := ((List.range ops.size).filter fun i => !(listed.getD i false)).length

variable {kk : Env → AH → Bool} {ι0 : Io} {H0 : AH} {w0 : World} {ds0 : List Deferred}

/-- what may come next has all behind it that comes ahead of it -/
theorem ready_clo (hO : Okd P ops X b E) {listed : Array Bool} {k : Nat} {env : Env} {H : AH} {ι : Io} {a : Act} {w : World} {pend : Nat → Nat} (hI : Inv P base ops X b E cl kk ι0 H0 w0 ds0 listed k env H ι a w pend) {i : Nat} (hi : i ∈ Region.ready .any ops listed) :
    i < ops.size ∧ listed.getD i false = false ∧ (∃ o, ops[i]? = some o) ∧ ∀ j, j < ops.size → pre b j i = true → listed.getD j false = true := by
  obtain ⟨h1, o, ho, h2⟩ := mem_ready.1 hi
  have hin : i < ops.size := (Array.getElem?_eq_some_iff.1 ho).1
  refine ⟨hin, ?_, ⟨o, ho⟩, fun j hj hp => ?_⟩
  · have hs : i < listed.size := by rw [hI.size]; exact hin
    simp only [Array.getD, hs, dif_pos] at h1 ⊢
    exact h1
  · obtain ⟨e, he, hb, hor⟩ := hO.edge i o ho j hj hp
    have h3 := h2 e he hb
    rcases hor with hor | hor
    · rw [← hor]; exact h3
    · exact hI.clo _ j h3 hj hor
theorem agr_of (hO : Okd P ops X b E) {listed : Array Bool} {env envc : Env} {i : Nat} (hin : i < ops.size) (hpre : ∀ j, j < ops.size → pre b j i = true → listed.getD j false = true)
    (h : ∀ t, (∀ j, j < ops.size → listed.getD j false = false → j ∉ E → (opAt X j).dst ≠ some t) → lget envc t = lget env t) : agr (looks (opAt X i)) envc env := fun t ht => h t (fun j hj hl hnE hd => by
  have := hpre j hj ((hO.look j t hj hd i hin ht).2.elim (fun h => h.1) (fun h => absurd h.2 hnE))
  rw [hl] at this; cases this)
theorem lo_le (hO : Okd P ops X b E) {listed : Array Bool} {k i : Nat} (hpre : ∀ j, j < ops.size → pre b j i = true → listed.getD j false = true) (heff : ∀ (m e : Nat), E[m]? = some e → (listed.getD e false = true ↔ m < k)) : lo b E i ≤ k :=
  filter_bound E k (fun m e hm hp => (heff m e hm).1 (hpre e (hO.inE e (List.mem_of_getElem? hm)) hp))

/-- one that is no effect is done -/
theorem inv_step (hO : Okd P ops X b E) {listed : Array Bool} {k : Nat} {env : Env} {H : AH} {ι : Io} {a : Act} {w : World} {pend : Nat → Nat} (hI : Inv P base ops X b E cl kk ι0 H0 w0 ds0 listed k env H ι a w pend) {i : Nat} (hin : i < ops.size) (hl : listed.getD i false = false)
    (hpre : ∀ j, j < ops.size → pre b j i = true → listed.getD j false = true) (h3 : i ∉ E) {v : AV} (hv : ∀ d, (opAt X i).dst = some d → d < env.length → lget env d = v) {ι' : Io} {w' : World} {cv : Value} (hnx : Nx P base ι0 H0 w0 ι' H w') (hle : ι.le ι') (hvr : VR ι' v cv)
    (hpend : ∀ i', i' < ops.size → listed.getD i' false = false → kindX (opAt X i').op = 2 → wantsB (opAt X i').guard env = some true → i' ≠ i → i' ∉ E → lo b E i' ≤ k → ι (pend i') = none → ι' (pend i') = none) :
    Inv P base ops X b E cl kk ι0 H0 w0 ds0 (listed.setIfInBounds i true) k env H ι' (a.put (opAt X i).dst cv) w' pend := by
  have hs : i < listed.size := by rw [hI.size]; exact hin
  have un : ∀ i', (listed.setIfInBounds i true).getD i' false = false → i' ≠ i ∧ listed.getD i' false = false := fun i' h => by
    by_cases e : i = i'
    · subst e; rw [getD_set_self hs] at h; cases h
    · rw [getD_set_not e] at h; exact ⟨fun e' => e e'.symm, h⟩
  have ls : ∀ i', listed.getD i' false = true → (listed.setIfInBounds i true).getD i' false = true := fun i' h => by
    by_cases e : i = i'
    · subst e; exact getD_set_self hs _
    · rw [getD_set_not e]; exact h
  obtain ⟨envc, t1, t2, t3⟩ := hI.tm
  refine ⟨by simp [hI.size], hnx, (put_defers _ _).trans hI.df, fun i' j h1 h2 h4 => ?_, fun m e hm => ?_, ⟨setd (opAt X i).dst v envc, rowR_put (t1.mono hle) hvr, by rw [setd_len]; exact t2, fun t ht => ?_⟩, fun i' hi' => ?_, fun i1 i2 g1 g2 => ?_, hI.go, hI.kle⟩
  · by_cases e : i = i'
    · subst e; exact ls j (hpre j h2 h4)
    · rw [getD_set_not e] at h1
      exact ls j (hI.clo i' j h1 h2 h4)
  · have hne : i ≠ e := fun e' => by
      subst e'
      exact h3 (List.mem_of_getElem? hm)
    rw [getD_set_not hne]
    exact hI.eff m e hm
  · by_cases hd : (opAt X i).dst = some t
    · rw [hd]
      by_cases hlt : t < env.length
      · rw [setd_here (by rw [t2]; exact hlt), hv t hd hlt]
      · show lget (lset envc t v) t = _
        have e1 : ¬ t < (lset envc t v).length := by rw [lset_eq]; simp; omega
        rw [lget_eq, lget_eq, getD_over _ _ (by omega), getD_over _ _ (by omega)]
    · rw [setd_other hd]
      refine t3 t (fun j hj hlj hnE => ?_)
      by_cases e : i = j
      · subst e; exact hd
      · exact ht j hj (by rw [getD_set_not e]; exact hlj) hnE
  · obtain ⟨c1, c2, c3, c4⟩ := hi'
    obtain ⟨n1, n2⟩ := un i' c2
    exact (hI.cert i' ⟨c1, n2, c3, c4⟩).io (fun q1 q2 q3 => hpend i' c1 n2 q1 q2 n1 c3 c4 q3)
  · exact hI.unl i1 i2 ⟨g1.1, (un i1 g1.2.1).2, g1.2.2⟩ ⟨g2.1, (un i2 g2.2.1).2, g2.2.2⟩

theorem wp_step (hO : Okd P ops X b E) {listed : Array Bool} {k : Nat} {env : Env} {H : AH} {ι : Io} {a : Act} {w : World} {pend : Nat → Nat} (hI : Inv P base ops X b E cl kk ι0 H0 w0 ds0 listed k env H ι a w pend) {i : Nat} (hi : i ∈ Region.ready .any ops listed) (h3 : i ∉ E)
    {K : Act → World → Prop} {Q : Exit → Act → World → Prop} (hcl : ClS P cl) (hK : ∀ ι' a' w' pend', Inv P base ops X b E cl kk ι0 H0 w0 ds0 (listed.setIfInBounds i true) k env H ι' a' w' pend' → K a' w') : wpOpIn (FW ro) 0 P ops Q i K a w := by
  obtain ⟨hin, hl, ⟨o, ho⟩, hpre⟩ := ready_clo hO hI hi
  have hlo := lo_le hO hpre hI.eff
  obtain ⟨v, hv, hc⟩ := hI.cert i ⟨hin, hl, h3, hlo⟩
  obtain ⟨envc, t1, t2, t3⟩ := hI.tm
  have hag := agr_of hO hin hpre t3
  have hcomp := hO.at_ i o ho
  obtain ⟨g, hg, hx⟩ := compO_inv hcomp
  have hop : (opAt X i).op = compOp P o := by rw [hx]
  have hdst : (opAt X i).dst = o.dst := by rw [hx]
  have hgd : (opAt X i).guard = g := by rw [hx]
  unfold wpOpIn
  simp only [ho]
  have hw : ∀ yes no : Unit → Bool, wants g envc yes no = wants g env yes no := fun yes no => by
    rw [wants_eq, wants_eq, ← hgd, wantsB_loc hag]
  rcases hc with ⟨c1, c2⟩ | ⟨c1, c2⟩
  · have h4 : wants g envc (fun _ => false) (fun _ => true) = true := by rw [hw, wants_eq, ← hgd, c1]
    rcases wants_sound hg t1 h4 with ⟨_, h5⟩ | ⟨h5, _⟩
    · cases h5
    · rw [if_neg (by rw [h5]; exact Bool.false_ne_true)]
      refine ⟨fun f _ => FW_fn ro f, ?_⟩
      rw [← hdst]
      refine hK ι _ w pend (inv_step hO hI hin hl hpre h3 hv hI.nx (Io.le_refl _) (by rw [c2]; exact VR_skip ι) (fun _ _ _ _ _ _ _ _ h => h))
  · have h4 : wants g envc (fun _ => true) (fun _ => false) = true := by rw [hw, wants_eq, ← hgd, c1]
    rcases wants_sound hg t1 h4 with ⟨h5, _⟩ | ⟨_, h5⟩
    · rw [if_pos h5]
      rcases c2 with ⟨k1, k2⟩ | ⟨k1, ob, f, k2, k3, k4, k5, k6, k7⟩
      · classical
        have h6 : act cl (compOp P o) envc H (fun v' H' => decide (v' = v ∧ H' = H)) = true := by
          rw [← hop, act_xop (hO.notE i hin h3), xop_loc (looks_op hag), k2]
          simp
        refine act_sound hcl hI.nx.hr t1 h6 (fun v' H' ι' cv w' hnx hvr hk => ?_)
        simp at hk
        obtain ⟨rfl, rfl⟩ := hk
        rw [← hdst]
        refine hK ι' _ w' pend (inv_step hO hI hin hl hpre h3 hv (hI.nx.trans hnx) hnx.le hvr (fun i' q1 q2 q3 q4 q5 qE q6 q7 => ?_))
        exact (hnx.stay _ ((hI.cert i' ⟨q1, q2, qE, q6⟩).pend_lt q3 q4) q7).1
      · have hk2 : kindX (compOp P o) = 2 := by rw [← hop]; exact k1
        have h6 : xop (compOp P o) envc H (fun _ _ => true) = true := by
          rw [← hop, xop_loc (looks_op hag), k2]
        obtain ⟨ob', f', al, cv, c, sz, w', hrun, hheap, e1, e2, e3, hor, hvr⟩ := laid_op o hk2 hI.nx.hr.below t1 h6
        have hsame := Alc.same (o := (opAt X i).op) (env := env) k2 (fun H k => by rw [← xop_loc (looks_op hag), hop]; exact al H k)
        obtain ⟨rfl, rfl⟩ := hsame
        refine ⟨fun f _ => FW_fn ro f, ?_⟩
        have hd : ∀ c, o.op ≠ .defer c := fun c h => by rw [compOp_defer h] at hk2; cases hk2
        rw [Oper.semAt_eq _ _ _ hd, hrun, Oper.uponIn_value, ← hdst]
        have hle := Io.ext_le ι (pend i) ⟨w.heap.size, 0, sz⟩ k7
        have hhr := hI.nx.hr.lay (sz := sz) k6 k7 hheap (hor _ hle)
        have hnx : Nx P base ι0 H0 w0 (ι.ext (pend i) ⟨w.heap.size, 0, sz⟩) H w' := by
          refine ⟨Io.le_trans hI.nx.le hle, hhr, fun x hx hn => ?_, hI.nx.n, hI.nx.below.trans (below_push hheap e1 e2 e3 hI.nx.hr.below)⟩
          obtain ⟨s1, s2⟩ := hI.nx.stay x hx hn
          refine ⟨?_, s2⟩
          unfold Io.ext
          rw [if_neg (by omega)]
          exact s1
        refine hK _ _ w' pend (inv_step hO hI hin hl hpre h3 hv hnx hle (by rw [k3]; exact hvr _ _ (Io.ext_self _ _ _)) (fun i' q1 q2 q3 q4 q5 qE q6 q7 => ?_))
        unfold Io.ext
        rw [if_neg (fun e => q5 (hI.unl i' i ⟨q1, q2, qE, q6⟩ ⟨hin, hl, h3, hlo⟩ q3 k1 q4 c1 e))]
        exact q7
    · cases h5
end
end Go.Jt
