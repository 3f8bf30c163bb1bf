/-
  A region whose order is open: effects, the beginning, the end.
-/
import Derived.Test.YtlhlgmodhblplaaJtDraw7
set_option autoImplicit false
set_option linter.all false
namespace Go.Jt
open Go.RowKit (Below)
variable [Gl]

section
variable {P : Program} {base : Nat} {ops : Array Oper} {X : List XOper} {b E : List Nat} {cl : Cl} {ro : Option Nat}
variable {kk : Env → AH → Bool} {ι0 : Io} {H0 : AH} {w0 : World} {ds0 : List Deferred}

/-- the steps up to the next effect are run in the abstract -/
theorem mem_runL (hO : Okd P ops X b E) (k j : Nat) : j ∈ runL X b E k ↔ j < ops.size ∧ j ∉ E ∧ lo b E j = k := by
  unfold runL
  rw [List.mem_filter, List.mem_range, hO.len]
  simp only [Bool.and_eq_true, Bool.not_eq_true', List.contains_eq_mem, decide_eq_false_iff_not]
  constructor
  · rintro ⟨h1, h2, h3⟩
    exact ⟨h1, h2, Nat.eq_of_beq_eq_true h3⟩
  · rintro ⟨h1, h2, h3⟩
    exact ⟨h1, h2, by rw [h3]; exact Nat.beq_refl k⟩
theorem seg_inv (hO : Okd P ops X b E) {listed : Array Bool} {k : Nat} {env : Env} {H : AH} {ι : Io} {a : Act} {w : World} {pend : Nat → Nat} (size : listed.size = ops.size) (nx : Nx P base ι0 H0 w0 ι H w) (df : a.defers = ds0)
    (clo : ∀ i j, listed.getD i false = true → j < ops.size → pre b j i = true → listed.getD j false = true) (eff : ∀ (m e : Nat), E[m]? = some e → (listed.getD e false = true ↔ m < k))
    (tm : ∃ envc, rowR ι envc a.tmps ∧ envc.length = env.length ∧ ∀ t, (∀ j, j < ops.size → listed.getD j false = false → j ∉ E → (opAt X j).dst ≠ some t) → lget envc t = lget env t)
    (cert : ∀ i, (i < ops.size ∧ listed.getD i false = false ∧ i ∉ E ∧ lo b E i < k) → Cert H0.n (pend i) (opAt X i) env H ι)
    (unl : Unlike X (fun i => i < ops.size ∧ listed.getD i false = false ∧ i ∉ E ∧ lo b E i < k) env pend) (kle : k ≤ E.length) (un : ∀ j, j ∈ runL X b E k → listed.getD j false = false)
    (run : runD cl ((runL X b E k).map fun i => DStep.run (opAt X i)) env H (fun env H => runS cl (restOf X b E (E.drop k) k) env H kk) = true) :
    ∃ env' H' pend', Inv P base ops X b E cl kk ι0 H0 w0 ds0 listed k env' H' ι a w pend' := by
  obtain ⟨env2, H2, pend2, r1, r2, r3, r4, r5, r6⟩ := run_runs hO k H0.n (runL X b E k) (fun i => i < ops.size ∧ listed.getD i false = false ∧ i ∉ E ∧ lo b E i < k) env H ι w _ pend
    (List.Pairwise.filter _ List.pairwise_lt_range) (fun j hj => (mem_runL hO k j).1 hj) (fun i hi => ⟨hi.1, hi.2.2.1, Or.inl hi.2.2.2⟩) nx.hr nx.n cert unl run
  have split : ∀ i, (i < ops.size ∧ listed.getD i false = false ∧ i ∉ E ∧ lo b E i ≤ k) → ((i < ops.size ∧ listed.getD i false = false ∧ i ∉ E ∧ lo b E i < k) ∨ i ∈ runL X b E k) := fun i ⟨h1, h2, h3, h4⟩ => by
    by_cases h5 : lo b E i < k
    · exact Or.inl ⟨h1, h2, h3, h5⟩
    · exact Or.inr ((mem_runL hO k i).2 ⟨h1, h3, by omega⟩)
  obtain ⟨envc, t1, t2, t3⟩ := tm
  exact ⟨env2, H2, pend2, size, nx.trans r2, df, clo, eff, ⟨envc, t1, by rw [t2, r3], fun t ht => (t3 t ht).trans (r6 t (fun j hj => ht j ((mem_runL hO k j).1 hj).1 (un j hj) ((mem_runL hO k j).1 hj).2.1)).symm⟩,
    fun i hi => r4 i (split i hi), fun i i' h1 h2 => r5 i i' (split i h1) (split i' h2), r1, kle⟩

/-- an effect is done -/
theorem eff_inv (hO : Okd P ops X b E) {listed : Array Bool} {k : Nat} {env : Env} {H : AH} {ι : Io} {a : Act} {w : World} {pend : Nat → Nat} (hI : Inv P base ops X b E cl kk ι0 H0 w0 ds0 listed k env H ι a w pend) {i : Nat} (hin : i < ops.size) (hl : listed.getD i false = false)
    (hpre : ∀ j, j < ops.size → pre b j i = true → listed.getD j false = true) (hE : E[k]? = some i) {v : AV} {H' : AH} {ι' : Io} {w' : World} {cv : Value} (hnx : Nx P base ι H w ι' H' w') (hvr : VR ι' v cv)
    (hrun : runD cl (seg X b E (k + 1)) (setd (opAt X i).dst v env) H' (fun env H => runS cl (restOf X b E (E.drop (k + 1)) (k + 1)) env H kk) = true) :
    ∃ env' H2 pend', Inv P base ops X b E cl kk ι0 H0 w0 ds0 (listed.setIfInBounds i true) (k + 1) env' H2 ι' (a.put (opAt X i).dst cv) w' pend' := by
  have hs : i < listed.size := by rw [hI.size]; exact hin
  have hk3 : i ∈ E := List.mem_of_getElem? hE
  have hkl : k < E.length := (List.getElem?_eq_some_iff.1 hE).1
  have un : ∀ i', (listed.setIfInBounds i true).getD i' false = false → i' ≠ i ∧ listed.getD i' false = false := fun i' h => by
    by_cases e : i = i'
    · subst e; rw [getD_set_self hs] at h; cases h
    · rw [getD_set_not e] at h; exact ⟨fun e' => e e'.symm, h⟩
  have ls : ∀ i', listed.getD i' false = true → (listed.setIfInBounds i true).getD i' false = true := fun i' h => by
    by_cases e : i = i'
    · subst e; exact getD_set_self hs _
    · rw [getD_set_not e]; exact h
  have clo' : ∀ i1 j, (listed.setIfInBounds i true).getD i1 false = true → j < ops.size → pre b j i1 = true → (listed.setIfInBounds i true).getD j false = true := fun i1 j h1 h2 h4 => by
    by_cases e : i = i1
    · subst e; exact ls j (hpre j h2 h4)
    · rw [getD_set_not e] at h1
      exact ls j (hI.clo i1 j h1 h2 h4)
  have eff' : ∀ (m e : Nat), E[m]? = some e → ((listed.setIfInBounds i true).getD e false = true ↔ m < k + 1) := fun m e hm => by
    by_cases he : i = e
    · subst he
      have hmk : m = k := (List.getElem?_inj (List.getElem?_eq_some_iff.1 hm).1 hO.nodup).1 (hm.trans hE.symm)
      subst hmk
      exact ⟨fun _ => by omega, fun _ => getD_set_self hs _⟩
    · rw [getD_set_not he, hI.eff m e hm]
      have hmk : m ≠ k := fun h => by subst h; rw [hE] at hm; cases hm; exact he rfl
      omega
  -- those that are open still, and what the effect writes
  have keyi : keyX b E i = 2 * k + 1 := by
    unfold keyX
    rw [placeE_some E 0 k hO.nodup hE, Nat.zero_add]
  have keyo : ∀ j, j < ops.size → j ∉ E → keyX b E j = 2 * lo b E j := fun j hj h3 => by
    unfold keyX
    rw [placeE_none E 0 h3]
  have quiet : ∀ j, j < ops.size → listed.getD j false = false → j ∉ E → lo b E j ≤ k → ∀ d, (opAt X i).dst = some d → d ∉ looks (opAt X j) := fun j hj hlj h3 hlo d hd hlk => by
    obtain ⟨_, hor⟩ := hO.look i d hin hd j hj hlk
    have hah : ahead b E i j = true := hor.elim (fun h => h.2) (fun h => by
      have := hpre j hj h.1
      rw [hlj] at this; cases this)
    unfold ahead at hah
    rw [keyi, keyo j hj h3] at hah
    simp only [Bool.or_eq_true, Bool.and_eq_true] at hah
    rcases hah with hah | ⟨hah, _⟩
    · have : 2 * k + 1 < 2 * lo b E j := Nat.le_of_ble_eq_true hah
      omega
    · have := Nat.eq_of_beq_eq_true hah
      omega
  have hseg : runD cl (((againL X b E (k + 1)).map fun i => DStep.again (opAt X i)) ++ ((runL X b E (k + 1)).map fun i => DStep.run (opAt X i))) (setd (opAt X i).dst v env) H' (fun env H => runS cl (restOf X b E (E.drop (k + 1)) (k + 1)) env H kk) = true := hrun
  obtain ⟨hruns, hre⟩ := run_agains _ _ _ (fun j hj => by
    unfold againL at hj
    rw [List.mem_filter] at hj
    simp only [Bool.and_eq_true] at hj
    exact Nat.eq_of_beq_eq_true hj.2.1.1) hseg
  have agi : ∀ j, j < ops.size → listed.getD j false = false → j ∉ E → lo b E j ≤ k → agr (looks (opAt X j)) env (setd (opAt X i).dst v env) := fun j hj hlj h3 hlo t ht => (setd_other (fun hd => quiet j hj hlj h3 hlo t hd ht)).symm
  have dsti : ∀ j, j < ops.size → j ≠ i → ∀ d, (opAt X j).dst = some d → (opAt X i).dst ≠ some d := fun j hj hne d hd => hO.one j d hj hd i hin (fun e => hne e.symm)
  obtain ⟨envc, t1, t2, t3⟩ := hI.tm
  refine seg_inv hO (pend := pend) (by simp [hI.size]) (hI.nx.trans hnx) ((put_defers _ _).trans hI.df) clo' eff' ⟨setd (opAt X i).dst v envc, rowR_put (t1.mono hnx.le) hvr, by rw [setd_len, setd_len]; exact t2, fun t ht => ?_⟩ (fun j hj => ?_) (fun i1 i2 g1 g2 k1 k2 w1 w2 hpp => ?_) (by omega) (fun j hj => ?_) hruns
  · by_cases hd : (opAt X i).dst = some t
    · rw [hd]
      by_cases hlt : t < env.length
      · rw [setd_here (by rw [t2]; exact hlt), setd_here hlt]
      · show lget (lset envc t v) t = lget (lset env t v) t
        rw [lget_eq, lget_eq, getD_over _ _ (by rw [lset_eq]; simp; omega), getD_over _ _ (by rw [lset_eq]; simp; omega)]
    · rw [setd_other hd, setd_other hd]
      refine t3 t (fun j hj hlj hnE => ?_)
      by_cases e : i = j
      · subst e; exact hd
      · exact ht j hj (by rw [getD_set_not e]; exact hlj) hnE
  · obtain ⟨c1, c2, c3, c4⟩ := hj
    obtain ⟨n1, n2⟩ := un j c2
    have hlo : lo b E j ≤ k := by omega
    have c0 := (hI.cert j ⟨c1, n2, c3, hlo⟩).env (setd_len _ _ _) (agi j c1 n2 c3 hlo) (fun d hd => setd_other (dsti j c1 n1 d hd))
    refine c0.step hnx (fun h1 hw => hre j ?_ hw h1)
    unfold againL
    rw [List.mem_filter, List.mem_range, hO.len]
    simp only [Bool.and_eq_true]
    refine ⟨c1, ⟨by rw [h1]; rfl, Nat.ble_eq_true_of_le (by omega)⟩, Nat.ble_eq_true_of_le ?_⟩
    refine filter_least E (k + 1) (by omega) (fun m e hm hmk => ?_)
    cases hp : pre b j e with
    | false => rfl
    | true =>
      exfalso
      have := clo' e j ((eff' m e hm).2 hmk) c1 hp
      rw [c2] at this; cases this
  · have hlo1 : lo b E i1 ≤ k := by have := g1.2.2.2; omega
    have hlo2 : lo b E i2 ≤ k := by have := g2.2.2.2; omega
    rw [← wantsB_loc (agi i1 g1.1 (un i1 g1.2.1).2 g1.2.2.1 hlo1)] at w1
    rw [← wantsB_loc (agi i2 g2.1 (un i2 g2.2.1).2 g2.2.2.1 hlo2)] at w2
    exact hI.unl i1 i2 ⟨g1.1, (un i1 g1.2.1).2, g1.2.2.1, hlo1⟩ ⟨g2.1, (un i2 g2.2.1).2, g2.2.2.1, hlo2⟩ k1 k2 w1 w2 hpp
  · obtain ⟨m1, m2, m3⟩ := (mem_runL hO (k + 1) j).1 hj
    have hne : i ≠ j := fun e => by subst e; exact m2 hk3
    rw [getD_set_not hne]
    cases hb : listed.getD j false with
    | false => rfl
    | true =>
      exfalso
      have := lo_le hO (fun j' h4 h5 => hI.clo j j' hb h4 h5) hI.eff
      omega

theorem wants_loc {x : XOper} {env env' : Env} (h : agr (looks x) env env') (yes no : Unit → Bool) : wants x.guard env yes no = wants x.guard env' yes no := by
  rw [wants_eq, wants_eq, wantsB_loc h]
theorem wp_eff (hO : Okd P ops X b E) {listed : Array Bool} {k : Nat} {env : Env} {H : AH} {ι : Io} {a : Act} {w : World} {pend : Nat → Nat} (hI : Inv P base ops X b E cl kk ι0 H0 w0 ds0 listed k env H ι a w pend) {i : Nat} (hi : i ∈ Region.ready .any ops listed) (h3 : i ∈ E)
    {K : Act → World → Prop} {Q : Exit → Act → World → Prop} (hcl : ClS P cl) (hK : ∀ env' H' ι' a' w' pend', Inv P base ops X b E cl kk ι0 H0 w0 ds0 (listed.setIfInBounds i true) (k + 1) env' H' ι' a' w' pend' → K a' w') : wpOpIn (FW ro) 0 P ops Q i K a w := by
  obtain ⟨hin, hl, ⟨o, ho⟩, hpre⟩ := ready_clo hO hI hi
  obtain ⟨envc, t1, t2, t3⟩ := hI.tm
  have hag := agr_of hO hin hpre t3
  -- it is the next one
  have hmem := h3
  obtain ⟨m, hm⟩ := List.getElem?_of_mem hmem
  have hmk : m = k := by
    have h1 : ¬ m < k := fun h => by
      have := (hI.eff m i hm).2 h
      rw [hl] at this; cases this
    by_cases h2 : k < m
    · exfalso
      have hkl : k < E.length := by have := (List.getElem?_eq_some_iff.1 hm).1; omega
      have hke : E[k]? = some E[k] := List.getElem?_eq_getElem hkl
      have hp := hO.row k m _ i h2 hke hm
      have := (hI.eff k _ hke).1 (hpre _ (hO.inE _ (List.mem_of_getElem? hke)) hp)
      omega
    · omega
  subst hmk
  have hml : m < E.length := (List.getElem?_eq_some_iff.1 hm).1
  have hdrop : E.drop m = i :: E.drop (m + 1) := by
    rw [List.drop_eq_getElem_cons hml]
    congr 1
    have := List.getElem?_eq_getElem hml
    rw [hm] at this
    exact (Option.some.inj this).symm
  have hgo := hI.go
  rw [hdrop] at hgo
  have hgo' : wants (opAt X i).guard env (fun _ => act cl (opAt X i).op env H fun v H => runD cl (seg X b E (m + 1)) (setd (opAt X i).dst v env) H (fun env H => runS cl (restOf X b E (E.drop (m + 1)) (m + 1)) env H kk))
      (fun _ => runD cl (seg X b E (m + 1)) (setd (opAt X i).dst (.tup []) env) H (fun env H => runS cl (restOf X b E (E.drop (m + 1)) (m + 1)) env H kk)) = true := hgo
  rw [← wants_loc hag, ← act_loc (looks_op hag)] at hgo'
  have hcomp := hO.at_ i o ho
  obtain ⟨g, hg, hx⟩ := compO_inv hcomp
  have hop : (opAt X i).op = compOp P o := by rw [hx]
  have hdst : (opAt X i).dst = o.dst := by rw [hx]
  have hgd : (opAt X i).guard = g := by rw [hx]
  rw [hgd] at hgo'
  unfold wpOpIn
  simp only [ho]
  rcases wants_sound hg t1 hgo' with ⟨h5, h6⟩ | ⟨h5, h6⟩
  · rw [if_pos h5]
    rw [hop] at h6
    refine act_sound hcl hI.nx.hr t1 h6 (fun v H' ι' cv w' hnx hvr hk => ?_)
    obtain ⟨env', H2, pend', hI'⟩ := eff_inv hO hI hin hl hpre hm hnx hvr hk
    rw [← hdst]
    exact hK env' H2 ι' _ w' pend' hI'
  · rw [if_neg (by rw [h5]; exact Bool.false_ne_true)]
    refine ⟨fun f _ => FW_fn ro f, ?_⟩
    obtain ⟨env', H2, pend', hI'⟩ := eff_inv hO hI hin hl hpre hm (Nx.refl hI.nx.hr) (VR_skip ι) h6
    rw [← hdst]
    exact hK env' H2 ι _ w pend' hI'

/-- behind all -/
theorem wp_end (hO : Okd P ops X b E) {listed : Array Bool} {k : Nat} {env : Env} {H : AH} {ι : Io} {a : Act} {w : World} {pend : Nat → Nat} (hI : Inv P base ops X b E cl kk ι0 H0 w0 ds0 listed k env H ι a w pend) (hr : Region.ready .any ops listed = []) :
    rowR ι env a.tmps ∧ kk env H = true ∧ Nx P base ι0 H0 w0 ι H w ∧ a.defers = ds0 := by
  have all : ∀ i, i < ops.size → listed.getD i false = true := by
    intro i
    induction i using Nat.strongRecOn with
    | _ i ih =>
      intro hi
      cases hb : listed.getD i false with
      | true => rfl
      | false =>
        exfalso
        have hs : i < listed.size := by rw [hI.size]; exact hi
        have ho : ops[i]? = some ops[i] := Array.getElem?_eq_getElem hi
        have hmem : i ∈ Region.ready .any ops listed := mem_ready.2 ⟨by
          simp only [Array.getD, hs, dif_pos] at hb ⊢
          exact hb, ops[i], ho, fun e he hbd => ih e.on (hO.lt i _ ho e he hbd) (by have := hO.lt i _ ho e he hbd; omega)⟩
        rw [hr] at hmem
        cases hmem
  have hk : k = E.length := by
    have := hI.kle
    by_cases h : k < E.length
    · exfalso
      have hke : E[k]? = some E[k] := List.getElem?_eq_getElem h
      have := (hI.eff k _ hke).1 (all _ (hO.inE _ (List.mem_of_getElem? hke)))
      omega
    · omega
  obtain ⟨envc, t1, t2, t3⟩ := hI.tm
  have hgo := hI.go
  rw [hk, List.drop_length] at hgo
  refine ⟨⟨t2.symm.trans t1.1, fun t => ?_⟩, hgo, hI.nx, hI.df⟩
  have := t1.2 t
  rw [← lget_eq, t3 t (fun j hj hl _ => by rw [all j hj] at hl; cases hl), lget_eq] at this
  exact this

theorem wp_any (hO : Okd P ops X b E) (hcl : ClS P cl) {Q : Exit → Act → World → Prop} (hQ : ∀ env' H' ι' a' w', Nx P base ι0 H0 w0 ι' H' w' → rowR ι' env' a'.tmps → a'.defers = ds0 → kk env' H' = true → Q .normal a' w') :
    ∀ (fuel : Nat) (listed : Array Bool) (k : Nat) (env : Env) (H : AH) (ι : Io) (a : Act) (w : World) (pend : Nat → Nat), Inv P base ops X b E cl kk ι0 H0 w0 ds0 listed k env H ι a w pend → open_ ops listed ≤ fuel → wpAnyIn (FW ro) 0 P .any ops Q fuel listed a w
  | 0, listed, k, env, H, ι, a, w, pend, hI, hf => by
    have hr : Region.ready .any ops listed = [] := by
      cases hr : Region.ready .any ops listed with
      | nil => rfl
      | cons i l =>
        exfalso
        obtain ⟨h1, h2, _, _⟩ := ready_clo hO hI (i := i) (by rw [hr]; simp)
        unfold open_ at hf
        have hm : i ∈ (List.range ops.size).filter fun i => !(listed.getD i false) := by
          rw [List.mem_filter, List.mem_range]
          exact ⟨h1, by rw [h2]; rfl⟩
        have := List.length_pos_of_mem hm
        omega
    obtain ⟨h1, h2, h3, h4⟩ := wp_end hO hI hr
    exact ⟨hr, hQ env H ι a w h3 h1 h4 h2⟩
  | fuel + 1, listed, k, env, H, ι, a, w, pend, hI, hf => by
    refine ⟨fun hr => ?_, fun i hi => ?_⟩
    · obtain ⟨h1, h2, h3, h4⟩ := wp_end hO hI hr
      exact hQ env H ι a w h3 h1 h4 h2
    · obtain ⟨hin, hl, _, _⟩ := ready_clo hO hI hi
      have hs : i < listed.size := by rw [hI.size]; exact hin
      have hless : open_ ops (listed.setIfInBounds i true) ≤ fuel := by
        have : open_ ops (listed.setIfInBounds i true) < open_ ops listed := by
          refine filter_less _ (fun x hx => ?_) ⟨i, List.mem_range.2 hin, by rw [hl]; rfl, by rw [getD_set_self hs]; rfl⟩
          by_cases e : i = x
          · subst e; rw [hl]; rfl
          · rw [getD_set_not e] at hx; exact hx
        omega
      by_cases h3 : i ∈ E
      · exact wp_eff hO hI hi h3 hcl (fun env' H' ι' a' w' pend' hI' => wp_any hO hcl hQ fuel _ _ env' H' ι' a' w' pend' hI' hless)
      · exact wp_step hO hI hi h3 hcl (fun ι' a' w' pend' hI' => wp_any hO hcl hQ fuel _ _ env H ι' a' w' pend' hI' hless)

theorem compD_inv {first : List DStep} {rest : List (XOper × List DStep)} (h : compD P ops = .dreg first rest) : ∃ X, compL P ops ops.toList = some X ∧ okX ops X (Region.before ops).toList (effs X (Region.before ops).toList) = true ∧ first = seg X (Region.before ops).toList (effs X (Region.before ops).toList) 0 ∧ rest = restOf X (Region.before ops).toList (effs X (Region.before ops).toList) (effs X (Region.before ops).toList) 0 := by
  unfold compD at h
  split at h
  · cases h
  · rename_i X hX
    cases hk : okX ops X (Region.before ops).toList (effs X (Region.before ops).toList) with
    | false => rw [hk] at h; cases h
    | true =>
      rw [hk] at h
      cases h
      exact ⟨X, hX, hk, rfl, rfl⟩
/-- REGIONS WHOSE ORDER IS OPEN -/
theorem dreg_sound (hm : P.follows .mixedOrders = true) (hcl : ClS P cl) : DregS P cl := by
  intro ops first rest base ι H w env a ro id Q kk hcd hr he hx hk
  obtain ⟨X, hc, hok, rfl, rfl⟩ := compD_inv hcd
  have hO := okd hc hok
  generalize (Region.before ops).toList = b at *
  generalize effs X b = E at *
  let w0 : World := { w with drawn := w.drawn + 1 }
  have hr0 : HR P base ι H w0 := hr.heap rfl
  refine wpIn_region_any hm ?_
  have hseg : runD cl (((againL X b E 0).map fun i => DStep.again (opAt X i)) ++ ((runL X b E 0).map fun i => DStep.run (opAt X i))) env H (fun env H => runS cl (restOf X b E E 0) env H kk) = true := hx
  obtain ⟨hruns, _⟩ := run_agains _ _ _ (fun j hj => by
    unfold againL at hj
    rw [List.mem_filter] at hj
    simp only [Bool.and_eq_true] at hj
    exact Nat.eq_of_beq_eq_true hj.2.1.1) hseg
  have none0 : ∀ i, (Array.replicate ops.size false).getD i false = false := fun i => by
    rw [Array.getD_eq_getD_getElem?, Array.getElem?_replicate]
    split <;> rfl
  obtain ⟨env', H', pend', hI⟩ := seg_inv (kk := kk) (P := P) (base := base) (cl := cl) hO (listed := Array.replicate ops.size false) (k := 0) (env := env) (H := H) (ι := ι) (a := a) (w := w0) (pend := fun _ => 0) (ι0 := ι) (H0 := H) (w0 := w0) (ds0 := a.defers) (by simp) (Nx.refl hr0) rfl
    (fun i j h => by rw [none0] at h; cases h) (fun m e hme => ⟨fun h => (by rw [none0] at h; cases h), fun h => (by omega)⟩) ⟨env, he, rfl, fun _ _ => rfl⟩ (fun i hi => by omega) (fun i i' h1 => by omega) (by omega) (fun j _ => none0 j) hruns
  refine wp_any hO hcl (fun env2 H2 ι2 a2 w2 hnx he2 hd2 hk2 => hk env2 H2 ι2 a2 w2 ?_ he2 hd2 hk2) ops.size _ 0 env' H' ι a w0 pend' hI ?_
  · exact ⟨hnx.le, hnx.hr, hnx.stay, hnx.n, Below.trans (b := w0) ⟨rfl, rfl, rfl, Nat.le_refl _, fun _ _ => rfl⟩ hnx.below⟩
  · unfold open_
    refine Nat.le_trans (List.length_filter_le _ _) (by simp)
end
end Go.Jt
