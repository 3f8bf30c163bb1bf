/-
  The abstract run is true to the model's walk: code, by its shape.
-/
import Derived.Test.YtlhlgmodhblplaaJtRun2
set_option autoImplicit false
set_option linter.all false
namespace Go.Jt
open Go.RowKit (Below)
variable [Gl]

section
variable {P : Program} {base : Nat} {cl : Cl}

theorem PostOf.trans {ι ι' : Io} {H H' : AH} {w w' : World} {k : Kc} {Q : Exit → Act → World → Prop} (hnx : Nx P base ι H w ι' H' w') (hp : PostOf P base ι H w k Q) : PostOf P base ι' H' w' k Q :=
  fun e env' ds' H2 ι2 a' w2 ce hnx2 he hd hx hk => hp e env' ds' H2 ι2 a' w2 ce (hnx.trans hnx2) he hd hx hk

/-- what is to be shown of a piece of code -/
def DenS (P : Program) (base : Nat) (cl : Cl) (N : Nat) (c : Code) : Prop := ∀ (rd ro : Option Nat) (ι : Io) (H : AH) (w : World) (env : Env) (ds : List Nat) (a : Act) (k : Kc) (Q : Exit → Act → World → Prop),
  rdR ι rd ro → HR P base ι H w → rowR ι env a.tmps → defR ι ds a.defers → den cl N rd (compC P c) env ds H k = true → PostOf P base ι H w k Q → c.wpIn (FW ro) 0 P Q a w

theorem den_loop {N : Nat} {c : Code} (ih : DenS P base cl N c) : DenS P base cl N (.loop c) := by
  intro rd ro ι H w env ds a k Q hrd hr he hd hx hp
  let dc := den cl N rd (compC P c)
  have hx' : iter dc N env ds H k = true := hx
  let J : Act → World → Nat → Prop := fun a' w' f => ∃ env' ds' H' ι', Nx P base ι H w ι' H' w' ∧ rowR ι' env' a'.tmps ∧ defR ι' ds' a'.defers ∧ iter dc f env' ds' H' k = true
  refine wpIn_loop (fun a' w' => ∃ f, J a' w' f) (fun a' w' => least (J a' w')) ⟨N, env, ds, H, ι, Nx.refl hr, he, hd, hx'⟩ ?_
  intro a₁ w₁ ⟨f, hJ⟩
  obtain ⟨h1, _⟩ := least_spec hJ
  generalize least (J a₁ w₁) = f0 at h1
  obtain ⟨env', ds', H', ι', hnx, he', hd', hit⟩ := h1
  cases f0 with
  | zero => cases hit
  | succ f0 =>
    have hit' : dc env' ds' H' (fun e env ds H => match e with
      | .normal => iter dc f0 env ds H k
      | e => k e env ds H) = true := hit
    refine ih rd ro ι' H' w₁ env' ds' a₁ _ _ (hrd.mono hnx.le) hnx.hr he' hd' hit' ?_
    intro e env2 ds2 H2 ι2 a2 w2 ce hnx2 he2 hd2 hx2 hk2
    cases e with
    | normal =>
      cases ce <;> first | (exact hx2.elim) | skip
      have hJ2 : J a2 w2 f0 := ⟨env2, ds2, H2, ι2, hnx.trans hnx2, he2, hd2, hk2⟩
      exact ⟨⟨f0, hJ2⟩, by have := (least_spec hJ2).2; omega⟩
    | exit id =>
      cases ce <;> first | (exact hx2.elim) | skip
      exact hp (.exit id) env2 ds2 H2 ι2 a2 w2 _ (hnx.trans hnx2) he2 hd2 hx2 hk2
    | ret =>
      cases ce <;> first | (exact hx2.elim) | skip
      exact hp .ret env2 ds2 H2 ι2 a2 w2 _ (hnx.trans hnx2) he2 hd2 hx2 hk2

theorem den_rfn {N : Nat} {f : Operand} {ps : Array Tmp} {asg body : Code} (hcl : ClS P cl) : DenS P base cl N (.rangeFunc f ps asg body) := by
  intro rd ro ι H w env ds a k Q hrd hr he hd hx hp
  cases rd with
  | none =>
    cases ro with
    | some b => exact hrd.elim
    | none =>
    have hx1 : anew H (.dfd true) (fun d H => anew H (.lp ⟨.ready, none, env, ps.toList, compC P asg, compC P body, d⟩) fun l H =>
          cond (isFn (ev env (od f))) (cl (ev env (od f)) [.fn (.yld l) [] []] H fun _ H => match H.get l with
            | some (.lp r) => match r.state with
              | .busy => false
              | _ => (match r.pending with
                | none => k .normal env (d :: ds) (H.set l (.lp { r with state := .exhausted }))
                | some e => k e env (d :: ds) (H.set l (.lp { r with state := .exhausted })))
            | _ => false) false) = true := hx
    rw [anew_eq, anew_eq] at hx1
    obtain ⟨hfn, hx2⟩ := isFn_inv hx1
    refine wpIn_rangeFunc fun fn _ => ?_
    have n1 := hr.newNx (o := .dfd true) (w' := w.alloc (.deferred (some []))) (c := .deferred (some [])) 0 rfl rfl rfl rfl (.dfd hr.below)
    have hsz : (w.alloc (.deferred (some []))).heap.size = w.heap.size + 1 := by simp
    let c0 : Loop := { state := .ready, pending := none, fn := fn, tmps := a.tmps, params := ps, assign := asg, body := body, defers := w.heap.size }
    let L2 : Loc := ⟨(w.alloc (.deferred (some []))).heap.size, 0, 0⟩
    have hι1 := n1.hr.fresh (H.new (.dfd true)).n (Nat.le_refl _)
    have hle2 := Io.ext_le _ (H.new (.dfd true)).n L2 hι1
    have n2 := n1.hr.newNx (o := .lp ⟨.ready, none, env, ps.toList, compC P asg, compC P body, H.n⟩) (w' := (w.alloc (.deferred (some []))).alloc (.loop c0)) (c := .loop c0) 0 rfl rfl rfl rfl
      (OR_lp (r := ⟨.ready, none, env, ps.toList, compC P asg, compC P body, H.n⟩) (c := c0) trivial trivial (he.mono (Io.le_trans n1.le hle2)) rfl rfl rfl ⟨⟨w.heap.size, 0, 0⟩, hle2 _ _ (Io.ext_self _ _ _), rfl⟩ n1.hr.below)
    have n12 := n1.trans n2
    have hl2 : (ι.ext H.n ⟨w.heap.size, 0, 0⟩).ext (H.new (.dfd true)).n L2 (H.new (.dfd true)).n = some L2 := Io.ext_self _ _ _
    obtain ⟨d, w1', g, args, w2, hres, hinv, hcall⟩ := rfn_call hcl n12.hr hl2 (he.mono n12.le) hfn hx2
    have hblk : L2.blk = w.heap.size + 1 := hsz
    rw [hblk] at hres
    refine ⟨w.heap.size + 1, _, _, d, w1', g, args, w2, run_enterLoop_outer fn a.tmps ps asg body, hres, fun f' _ => FW_fn none f', hinv, FW_depth none 0, ?_⟩
    refine CallsIn.mono (FW_calls hcall) ?_
    intro e w' hend
    obtain ⟨cv, v, H', ι', rfl, hnx, hv, hk⟩ := hend
    exact endLoop_sound (n12.trans hnx) (hnx.le _ _ hl2) hblk (he.mono (n12.trans hnx).le) (.cons H.n ds a.defers ⟨w.heap.size, 0, 0⟩ (hnx.le _ _ (hle2 _ _ (Io.ext_self _ _ _))) (hd.mono (n12.trans hnx).le)) hk hp
  | some l0 =>
    cases ro with
    | none => exact hrd.elim
    | some b =>
    obtain ⟨L0, hL0, hb0⟩ := hrd
    have hx1 : (match H.get l0 with
        | some (.lp r0) => anew H (.lp ⟨.ready, none, env, ps.toList, compC P asg, compC P body, r0.defers⟩) fun l H =>
          cond (isFn (ev env (od f))) (cl (ev env (od f)) [.fn (.yld l) [] []] H fun _ H => match H.get l with
            | some (.lp r) => match r.state with
              | .busy => false
              | _ => (match r.pending with
                | none => k .normal env ds (H.set l (.lp { r with state := .exhausted }))
                | some e => k e env ds (H.set l (.lp { r with state := .exhausted })))
            | _ => false) false
        | _ => false) = true := hx
    split at hx1
    · rename_i r0 hg0
      obtain ⟨c1, hc1, _, _, _, _, _, _, hdef, _⟩ := hr.loopAt hg0 hL0
      rw [hb0] at hc1
      obtain ⟨Ld, hLd, hcd⟩ := hdef
      rw [anew_eq] at hx1
      obtain ⟨hfn, hx2⟩ := isFn_inv hx1
      refine wpIn_rangeFunc fun fn _ => ?_
      let c0 : Loop := { state := .ready, pending := none, fn := fn, tmps := a.tmps, params := ps, assign := asg, body := body, defers := c1.defers }
      let L2 : Loc := ⟨w.heap.size, 0, 0⟩
      have hle2 := ext_le_new hr L2
      have n12 := hr.newNx (o := .lp ⟨.ready, none, env, ps.toList, compC P asg, compC P body, r0.defers⟩) (w' := w.alloc (.loop c0)) (c := .loop c0) 0 rfl rfl rfl rfl
        (OR_lp (r := ⟨.ready, none, env, ps.toList, compC P asg, compC P body, r0.defers⟩) (c := c0) trivial trivial (he.mono hle2) rfl rfl rfl ⟨Ld, hle2 _ _ hLd, hcd⟩ hr.below)
      have hl2 : ι.ext H.n L2 H.n = some L2 := Io.ext_self _ _ _
      obtain ⟨d, w1', g, args, w2, hres, hinv, hcall⟩ := rfn_call hcl n12.hr hl2 (he.mono n12.le) hfn hx2
      refine ⟨w.heap.size, [], _, d, w1', g, args, w2, run_enterLoop_inner hc1 fn a.tmps ps asg body, hres, fun f' _ => FW_fn (some b) f', hinv, FW_depth (some b) 0, ?_⟩
      refine CallsIn.mono (FW_calls hcall) ?_
      intro e w' hend
      obtain ⟨cv, v, H', ι', rfl, hnx, hv, hk⟩ := hend
      exact endLoop_sound (n12.trans hnx) (hnx.le _ _ hl2) rfl (he.mono (n12.trans hnx).le) (hd.mono (n12.trans hnx).le) hk hp
    · cases hx1

theorem compD_not {ops : Array Oper} {x : IR} (h1 : ∀ f r, x ≠ .dreg f r) (h2 : x ≠ .bad) : compD P ops ≠ x := by
  unfold compD
  split
  · exact fun e => h2 e.symm
  · rename_i X _
    cases okX ops X (Region.before ops).toList (effs X (Region.before ops).toList)
    · exact fun e => h2 e.symm
    · exact fun e => h1 _ _ e.symm
theorem den_sound {N : Nat} (hcl : ClS P cl) (hdr : DregS P cl) (c : Code) : DenS P base cl N c := by
  induction c with
  | skip => intro rd ro ι H w env ds a k Q hrd hr he hd hx hp; exact wpIn_skip (hp .normal env ds H ι a w .normal (Nx.refl hr) he hd trivial hx)
  | exit id => intro rd ro ι H w env ds a k Q hrd hr he hd hx hp; exact wpIn_exit (hp (.exit id) env ds H ι a w (.exit id) (Nx.refl hr) he hd rfl hx)
  | ret => intro rd ro ι H w env ds a k Q hrd hr he hd hx hp; exact wpIn_ret (hp .ret env ds H ι a w .ret (Nx.refl hr) he hd trivial hx)
  | seq x y ihx ihy =>
    intro rd ro ι H w env ds a k Q hrd hr he hd hx hp
    refine wpIn_seq (ihx rd ro ι H w env ds a _ _ hrd hr he hd hx ?_)
    intro e env2 ds2 H2 ι2 a2 w2 ce hnx2 he2 hd2 hx2 hk2
    cases e with
    | normal =>
      cases ce <;> first | (exact hx2.elim) | skip
      exact ihy rd ro ι2 H2 w2 env2 ds2 a2 k Q (hrd.mono hnx2.le) hnx2.hr he2 hd2 hk2 (hp.trans hnx2)
    | exit id =>
      cases ce <;> first | (exact hx2.elim) | skip
      exact hp (.exit id) env2 ds2 H2 ι2 a2 w2 _ hnx2 he2 hd2 hx2 hk2
    | ret =>
      cases ce <;> first | (exact hx2.elim) | skip
      exact hp .ret env2 ds2 H2 ι2 a2 w2 _ hnx2 he2 hd2 hx2 hk2
  | cond c x y ihx ihy =>
    intro rd ro ι H w env ds a k Q hrd hr he hd hx hp
    have hx' : (match ev env (od c) with
      | .bool b => Bool.rec (den cl N rd (compC P y) env ds H k) (den cl N rd (compC P x) env ds H k) b
      | _ => false) = true := by
      have h0 : (match ev env (od c) with
      | .bool b => _root_.cond b (den cl N rd (compC P x) env ds H k) (den cl N rd (compC P y) env ds H k)
      | _ => false) = true := hx
      split at h0
      · rename_i b hb
        cases b <;> exact h0
      · cases h0
    have hv := ev_sound he c
    split at hx'
    · rename_i b hb
      rw [hb] at hv
      have hv' := hv.bool_inv
      cases b with
      | true => exact wpIn_cond_true hv' (ihx rd ro ι H w env ds a k Q hrd hr he hd hx' hp)
      | false => exact wpIn_cond_false hv' (ihy rd ro ι H w env ds a k Q hrd hr he hd hx' hp)
    · cases hx'
  | block id c ih =>
    intro rd ro ι H w env ds a k Q hrd hr he hd hx hp
    refine wpIn_block (ih rd ro ι H w env ds a _ _ hrd hr he hd hx ?_)
    intro e env2 ds2 H2 ι2 a2 w2 ce hnx2 he2 hd2 hx2 hk2
    cases e with
    | normal =>
      cases ce <;> first | (exact hx2.elim) | skip
      exact hp .normal env2 ds2 H2 ι2 a2 w2 _ hnx2 he2 hd2 hx2 hk2
    | exit j =>
      cases ce <;> first | (exact hx2.elim) | skip
      rename_i j'
      have hjj : j = j' := hx2
      subst hjj
      have hk3 : _root_.cond (Nat.beq j id) (k .normal env2 ds2 H2) (k (.exit j) env2 ds2 H2) = true := hk2
      show if j = id then Q .normal a2 w2 else Q (.exit j) a2 w2
      split
      · rename_i e
        subst e
        rw [Nat.beq_refl] at hk3
        exact hp .normal env2 ds2 H2 ι2 a2 w2 .normal hnx2 he2 hd2 trivial hk3
      · rename_i e
        have : Nat.beq j id = false := by
          cases hb : Nat.beq j id with
          | true => exact absurd (Nat.eq_of_beq_eq_true hb) e
          | false => rfl
        rw [this] at hk3
        exact hp (.exit j) env2 ds2 H2 ι2 a2 w2 (.exit j) hnx2 he2 hd2 rfl hk3
    | ret =>
      cases ce <;> first | (exact hx2.elim) | skip
      exact hp .ret env2 ds2 H2 ι2 a2 w2 _ hnx2 he2 hd2 hx2 hk2
  | loop c ih => exact den_loop ih
  | rangeFunc f ps asg body _ _ => exact den_rfn hcl
  | region id ops draw =>
    intro rd ro ι H w env ds a k Q hrd hr he hd hx hp
    cases draw with
    | false =>
      cases hc : compL P ops ops.toList with
      | none =>
        have : compC P (.region id ops false) = .bad := by simp [compC, hc]
        rw [this] at hx; cases hx
      | some l =>
        have : compC P (.region id ops false) = .reg l := by simp [compC, hc]
        rw [this] at hx
        have hx' : runOps cl l env H (fun env H => k .normal env ds H) = true := hx
        refine wpIn_region ?_
        have h0 := runOps_sound (ro := ro) (Q := Q) (base := base) hcl ops.toList 0 l ι H w env a hc (fun j hj => by simp) hr he hx'
          (fun env' H' ι' a' w' hnx he' hd' hk => hp .normal env' ds H' ι' a' w' .normal hnx he' (by rw [hd']; exact hd.mono hnx.le) trivial hk)
        rw [List.range_eq_range']
        simpa using h0
    | true =>
      have hcomp : compC P (.region id ops true) = compD P ops := by simp [compC]
      rw [hcomp] at hx
      cases hc : compD P ops with
      | dreg first rest =>
        rw [hc] at hx
        have hx' : runD cl first env H (fun env H => runS cl rest env H fun env H => k .normal env ds H) = true := hx
        exact hdr ops first rest base ι H w env a ro id Q (fun env H => k .normal env ds H) hc hr he hx'
          (fun env' H' ι' a' w' hnx he' hd' hk => hp .normal env' ds H' ι' a' w' .normal hnx he' (by rw [hd']; exact hd.mono hnx.le) trivial hk)
      | bad => rw [hc] at hx; cases hx
      | skip => exact absurd hc (compD_not (fun _ _ => by intro h; cases h) (by intro h; cases h))
      | reg _ => exact absurd hc (compD_not (fun _ _ => by intro h; cases h) (by intro h; cases h))
      | seq _ _ => exact absurd hc (compD_not (fun _ _ => by intro h; cases h) (by intro h; cases h))
      | cond _ _ _ => exact absurd hc (compD_not (fun _ _ => by intro h; cases h) (by intro h; cases h))
      | block _ _ => exact absurd hc (compD_not (fun _ _ => by intro h; cases h) (by intro h; cases h))
      | loop _ => exact absurd hc (compD_not (fun _ _ => by intro h; cases h) (by intro h; cases h))
      | exit _ => exact absurd hc (compD_not (fun _ _ => by intro h; cases h) (by intro h; cases h))
      | ret => exact absurd hc (compD_not (fun _ _ => by intro h; cases h) (by intro h; cases h))
      | rfn _ _ _ _ => exact absurd hc (compD_not (fun _ _ => by intro h; cases h) (by intro h; cases h))
  | scope c _ => intro rd ro ι H w env ds a k Q hrd hr he hd hx hp; cases hx
  | label l => intro rd ro ι H w env ds a k Q hrd hr he hd hx hp; cases hx
  | goto l => intro rd ro ι H w env ds a k Q hrd hr he hd hx hp; cases hx
  | refuse s => intro rd ro ι H w env ds a k Q hrd hr he hd hx hp; cases hx
end
end Go.Jt
