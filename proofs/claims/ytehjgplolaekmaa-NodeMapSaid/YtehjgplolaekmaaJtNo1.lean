/-
  JtNo1: a node with arrays of its own; its bounds; may, Size, Encode of it.
-/
import Derived.Test.YtehjgplolaekmaaJtNb
import Derived.Test.YtehjgplolaekmaaJtNe
set_option autoImplicit false
set_option linter.all false
set_option maxRecDepth 10000
set_option maxHeartbeats 4000000
namespace Go.Jt
noncomputable section
variable [Gl]
theorem encB_len {lf : Bool} {ks vs : List (List Nat)} {ps : List PtrM} (h : FormN lf ks vs ps) : (encB lf ks vs ps).length = sizeN ks vs ps := by
  obtain ⟨_, h1, h2⟩ := h
  unfold encB bodyB sizeN
  cases lf with
  | true =>
    obtain ⟨e1, e2, _⟩ := h1 rfl
    rw [if_pos rfl, List.length_append, headB_len, leafB_len ks vs (Nat.le_refl _) (by omega), e1, e2]
    omega
  | false =>
    obtain ⟨_, e1, e2, _⟩ := h2 rfl
    have : vs = [] := List.eq_nil_of_length_eq_zero e2
    subst this
    rw [if_neg (by decide), List.length_append, List.length_append, headB_len, kidB_len ks ps (Nat.le_refl _), e1]
    have h3 : (ptAt ps 0).B.length = 16 := ptrB_len _ _ _
    rw [h3]
    simp [sumL]
    omega
section
variable {H : AH} {Z : Fz} {F : List Hl} {lf : Bool} {ks vs : List (List Nat)} {ps : List PtrM} {vk vv vp : AV} {hk hv hp : List Hl} {r : Rp AV}
theorem x_boxn {l : List Hl} (hs : Sat H Z l) (r : Rp AV) : ∃ b H', Sat H' Z (.obj b (.cells r false false) :: l) ∧ ∀ {env : Env} {x : Od} (hx : ev env x = .agg r) (K : AV → AH → Bool), xop (.box x) env H K = K (.ptr b 0) H' :=
  ⟨_, _, x_new hs r false, fun {env x} hx K => by simp only [xop, hx, boxed, alc, anew_eq]⟩
/-- a node with arrays of its own -/
structure OwnN (lf : Bool) (ks vs : List (List Nat)) (ps : List PtrM) (vk vv vp : AV) (hk hv hp : List Hl) : Prop where
  k : Own 1 vk ks.length (txC ks) hk
  v : Own 1 vv vs.length (txC vs) hv
  p : Own 3 vp ps.length (ptC ps) hp
theorem own_lend3 (hs : Sat H Z (hp ++ (hv ++ (hk ++ F)))) (o : OwnN lf ks vs ps vk vv vp hk hv hp) :
    ∃ Z' : Fz, Z.le Z' ∧ Sat H Z' F ∧ Fl Z' 1 vk (strs ks) ∧ Fl Z' 1 vv (strs vs) ∧ Fl Z' 3 vp (ptrs ps) ∧ ∀ (H' : AH) {F' : List Hl}, Sat H' Z' F' → Sat H' Z (hp ++ (hv ++ (hk ++ F'))) := by
  obtain ⟨Z1, l1, s1, f1, g1⟩ := own_lend (xs := ptrs ps) ptrs_three hs o.p (ptrs_len ps)
  obtain ⟨Z2, l2, s2, f2, g2⟩ := own_lend (xs := strs vs) strs_one s1 o.v (strs_len vs)
  obtain ⟨Z3, l3, s3, f3, g3⟩ := own_lend (xs := strs ks) strs_one s2 o.k (strs_len ks)
  exact ⟨Z3, fun b L h => l3 b L (l2 b L (l1 b L h)), s3, f3, f2.mono l3, (f1.mono l2).mono l3, fun H' _ h => g1 _ (g2 _ (g3 _ h))⟩
end
section
variable [BkN] [NdN] {tbl : Nat → Option FT} {lf : Bool} {ks vs : List (List Nat)} {ps : List PtrM} {vk vv vp : AV} {hk hv hp : List Hl} {r : Rp AV} {N d : Nat} {Z : Fz} {F : List Hl} {H : AH}
/-- bounds that all of node's functions ask -/
structure SmallN (N : Nat) (ks vs : List (List Nat)) (ps : List PtrM) : Prop where
  k : ks.length ≤ 1099511627776
  v : vs.length ≤ 1099511627776
  p : ps.length ≤ 1099511627776
  k' : ks.length < N
  v' : vs.length < N
  p' : ps.length < N
  n : 3 < N
  s : sizeN ks vs ps ≤ 1099511627776
  q : ∀ p ∈ ps, p.s < 18446744073709551616
theorem sumL_b {ks : List (List Nat)} (h : ∀ i, i < ks.length → (txt ks i).length ≤ 1000) (j : Nat) (hj : j ≤ ks.length) : sumL ks j ≤ 1001 * j := by
  induction j with
  | zero => rw [sumL_zero]; omega
  | succ j ih => rw [sumL_succ (by omega)]; have := ih (by omega); have := h j (by omega); omega
theorem NL.small (h : NL ks vs ps) (hN : 70000 ≤ N) (hq : ∀ p ∈ ps, p.s < 18446744073709551616) : SmallN N ks vs ps := by
  obtain ⟨h1, h2, h3, h4, h5⟩ := h
  have a1 := sumL_b h4 ks.length (Nat.le_refl _)
  have a2 := sumL_b h5 vs.length (Nat.le_refl _)
  exact ⟨by omega, by omega, by omega, by omega, by omega, by omega, by omega, by unfold sizeN; omega, hq⟩
theorem may_own (T : NdT tbl) (TB : BkT tbl) (hd : 8 ≤ d) (hs : Sat H Z (hp ++ (hv ++ (hk ++ F)))) (hr : RL r [.bool lf, vk, vv, vp]) (o : OwnN lf ks vs ps vk vv vp hk hv hp) (m : SmallN N ks vs ps) :
    Ct (RUN tbl N d) (.fn (.fn (.func NdN.may)) [] []) [(.agg r)] H fun v H' => v = .bool (dB (FormN lf ks vs ps ∧ sizeN ks vs ps ≤ 500)) ∧ Sat H' Z (hp ++ (hv ++ (hk ++ F))) := by
  obtain ⟨Z', l, s, f1, f2, f3, g⟩ := own_lend3 hs o
  exact (may_ok2 T TB hd s hr f1 f2 f3 m.k m.v m.p m.k' m.v' m.p' m.n m.s m.q).imp fun v H' ⟨e, s⟩ => ⟨e, g _ s⟩
theorem size_own (T : NdT tbl) (hd : 1 ≤ d) (hs : Sat H Z (hp ++ (hv ++ (hk ++ F)))) (hr : RL r [.bool lf, vk, vv, vp]) (o : OwnN lf ks vs ps vk vv vp hk hv hp) (m : SmallN N ks vs ps) :
    Ct (RUN tbl N d) (.fn (.fn (.func NdN.size)) [] []) [(.agg r)] H fun v H' => v = .int .i64 (.ofNat (sizeN ks vs ps)) ∧ Sat H' Z (hp ++ (hv ++ (hk ++ F))) := by
  obtain ⟨Z', l, s, f1, f2, f3, g⟩ := own_lend3 hs o
  exact (size_ok T hd s hr f1 f2 f3 m.k m.v m.p m.k' m.v' m.p' m.n m.s).imp fun v H' ⟨e, s⟩ => ⟨e, g _ s⟩
theorem encY_own [NeN] (T : NeT tbl) (TB : BkT tbl) (TD : NdT tbl) (hf : FormN lf ks vs ps ∧ sizeN ks vs ps ≤ 500) (hbk : BytesOk ks) (hbv : BytesOk vs) (hd : 9 ≤ d) (hs : Sat H Z (hp ++ (hv ++ (hk ++ F)))) (hr : RL r [.bool lf, vk, vv, vp]) (o : OwnN lf ks vs ps vk vv vp hk hv hp) (m : SmallN N ks vs ps) :
    Ct (RUN tbl N d) (.fn (.fn (.func NeN.encode)) [] []) [(.agg r)] H fun v H' => v = .tup [.str (encB lf ks vs ps), .int .i64 0] ∧ Sat H' Z (hp ++ (hv ++ (hk ++ F))) := by
  obtain ⟨Z', l, s, f1, f2, f3, g⟩ := own_lend3 hs o
  cases lf with
  | true => exact (encyL_ok T TB TD hf.1 rfl hf.2 hd s hr f1 f2 f3 m.k m.v m.p m.k' m.v' m.p' m.n m.s m.q hbk hbv).imp fun v H' ⟨e, s⟩ => ⟨e, g _ s⟩
  | false => exact (encyI_ok T TB TD hf.1 rfl hf.2 hd s hr f1 f2 f3 m.k m.v m.p m.k' m.v' m.p' m.n m.s m.q hbk hbv).imp fun v H' ⟨e, s⟩ => ⟨e, g _ s⟩
theorem encN_own [NeN] (T : NeT tbl) (TB : BkT tbl) (TD : NdT tbl) (hf : ¬ (FormN lf ks vs ps ∧ sizeN ks vs ps ≤ 500)) (hd : 9 ≤ d) (hs : Sat H Z (hp ++ (hv ++ (hk ++ F)))) (hr : RL r [.bool lf, vk, vv, vp]) (o : OwnN lf ks vs ps vk vv vp hk hv hp) (m : SmallN N ks vs ps) :
    Ct (RUN tbl N d) (.fn (.fn (.func NeN.encode)) [] []) [(.agg r)] H fun v H' => ∃ e : Nat, v = .tup [.str [], .int .i64 (.ofNat e)] ∧ 0 < e ∧ Sat H' Z (hp ++ (hv ++ (hk ++ F))) := by
  obtain ⟨Z', l, s, f1, f2, f3, g⟩ := own_lend3 hs o
  by_cases h : FormN lf ks vs ps
  · exact (encl_ok T TB TD h (Nat.lt_of_not_le fun h5 => hf ⟨h, h5⟩) hd s hr f1 f2 f3 m.k m.v m.p m.k' m.v' m.p' m.n m.s m.q).imp fun v H' ⟨e, s⟩ => ⟨40, e, by decide, g _ s⟩
  · exact (encf_ok T TB TD h hd s hr f1 f2 f3 m.k m.v m.p m.k' m.v' m.p' m.n m.s m.q).imp fun v H' ⟨e, s⟩ => ⟨4, e, by decide, g _ s⟩
end
end
end Go.Jt
