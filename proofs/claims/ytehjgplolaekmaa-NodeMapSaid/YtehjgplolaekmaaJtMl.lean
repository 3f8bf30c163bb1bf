/-
  Get, Put and Del of a leaf with rows of its own, beside a map that holds the same.
-/
import Derived.Test.YtehjgplolaekmaaJtPw
set_option autoImplicit false
set_option linter.all false
set_option maxRecDepth 10000
set_option maxHeartbeats 4000000
namespace Go.Jt
noncomputable section
variable [Gl]
theorem bool_neq {H : AH} {a b A B : Bool} (ha : a = A) (hb : b = B) (K : AV → Bool) : bin .neq 1 H (.bool a) (.bool b) K = K (.bool (A != B)) := by
  rw [ha, hb]
  cases A <;> cases B <;> rfl
theorem bool_eql {H : AH} {a b A B : Bool} (ha : a = A) (hb : b = B) (K : AV → Bool) : bin .eql 1 H (.bool a) (.bool b) K = K (.bool (A == B)) := by
  rw [ha, hb]
  cases A <;> cases B <;> rfl
def getV (E : List ME) (k : List Nat) : List Nat := ((lookE E k).map (·.2)).getD []
def isV (E : List ME) (k : List Nat) : Bool := (lookE E k).isSome
def putE (E : List ME) (k v : List Nat) (c : Nat) : List ME := match lookE E k with
  | some (j, _) => E.modify j fun e => (k, v, e.2.2)
  | none => E ++ [(k, v, c)]
def putC (E : List ME) (k : List Nat) (c : Nat) : Nat := match lookE E k with
  | some _ => c
  | none => c + 1
def delE (E : List ME) (k : List Nat) : List ME := match lookE E k with
  | some (j, _) => E.eraseIdx j
  | none => E
section
variable {H : AH} {Z : Fz} {l : List Hl} {env : Env} {E : List ME} {b c : Nat} {k v : List Nat} {m key x : Od}
theorem s_lkpU (hs : Sat H Z l) (i : Nat) (hi : l[i]? = some (.mp b (mpE E) c) := by rfl) (hm : ev env m = .map b := by rfl) (hk : ev env key = .str k := by rfl) (K : AV → AH → Bool) : xop (.lkp (.agg (.one (.str []))) true 1 m key) env H K = K (.tup [.agg (.one (.str (getV E k))), .bool (isV E k)]) H := by
  cases h : lookE E k with
  | none =>
    have := s_lkpN (H := H) hs i h (.agg (.one (.str []))) hi hm hk K
    rw [this]
    simp only [getV, isV, h, Option.map_none, Option.getD_none, Option.isSome_none]
  | some p =>
    obtain ⟨j, w⟩ := p
    have := s_lkpY (H := H) hs i h (.agg (.one (.str []))) hi hm hk K
    rw [this]
    simp only [getV, isV, h, Option.map_some, Option.getD_some, Option.isSome_some]
theorem s_lkp1U (hs : Sat H Z l) (i : Nat) (hi : l[i]? = some (.mp b (mpE E) c) := by rfl) (hm : ev env m = .map b := by rfl) (hk : ev env key = .str k := by rfl) (K : AV → AH → Bool) : xop (.lkp (.agg (.one (.str []))) false 1 m key) env H K = K (.agg (.one (.str (getV E k)))) H := by
  cases h : lookE E k with
  | none =>
    have h3 : H.get b = some (.mp (mpE E) c) := hs.getAt i hi
    simp only [xop, hm, hk, isKey, Nat.beq_refl, cond_true, cond_false, gmap, h3, mf_look, h, mfR, getV, Option.map_none, Option.getD_none]
  | some p =>
    obtain ⟨j, w⟩ := p
    have := s_lkp1 (H := H) hs i h (.agg (.one (.str []))) hi hm hk K
    rw [this]
    simp only [getV, h, Option.map_some, Option.getD_some]
theorem s_mupU (hs : Sat H Z (.mp b (mpE E) c :: l)) (k v : List Nat) :
    ∃ H', Sat H' Z (.mp b (mpE (putE E k v c)) (putC E k c) :: l) ∧ ∀ {env : Env} {m key x : Od}, ev env m = .map b → ev env key = .str k → ev env x = .agg (.one (.str v)) → ∀ K : AV → AH → Bool, xop (.mup 1 m key x) env H K = K .undef H' := by
  cases h : lookE E k with
  | none =>
    have := s_mupN hs h v
    simpa only [putE, putC, h] using this
  | some p =>
    obtain ⟨j, w⟩ := p
    have := s_mupY hs h v
    simpa only [putE, putC, h] using this
theorem s_delU (hs : Sat H Z (.mp b (mpE E) c :: l)) (hv : isV E k = true) :
    ∃ H', Sat H' Z (.mp b (mpE (delE E k)) c :: l) ∧ ∀ {env : Env} {m key : Od}, ev env m = .map b → ev env key = .str k → ∀ K : AV → AH → Bool, xop (.del 1 m key) env H K = K (.tup []) H' := by
  cases h : lookE E k with
  | none => rw [isV, h] at hv; cases hv
  | some p =>
    obtain ⟨j, w⟩ := p
    have := s_delY hs h
    simpa only [delE, h] using this
end
theorem NMap.get_at {ks vs : List (List Nat)} {E : List ME} {i : Nat} (h : NMap ks vs E) (hi : i < ks.length) : getV E (txt ks i) = txt vs i := by
  obtain ⟨j, hj⟩ := h.there hi rfl
  simp only [getV, hj, Option.map_some, Option.getD_some]
theorem NMap.up {ks vs : List (List Nat)} {E : List ME} {i : Nat} (h : NMap ks vs E) (hi : i < ks.length) (h0 : 0 < i) : ¬ sle (txt ks i) (txt ks (i - 1)) = true := fun h2 => by
  have h1 := (h.form.1 i hi).2 h0
  rw [sle_not.2 h1] at h2
  cases h2
section
variable [PtN] [HvN] [NdN] [BkN] {tbl : Nat → Option FT} {ks vs : List (List Nat)} {vk vv : AV} {hk hv : List Hl} {r : Rp AV} {N d c : Nat} {Z : Fz} {F : List Hl} {H : AH} {E : List ME} {s t : List Nat}
theorem small_leaf {N : Nat} {ks vs : List (List Nat)} (hF : FormN true ks vs []) (hk : ks.length ≤ 150) (hN : 70000 ≤ N) : SmallN N ks vs [] := by
  obtain ⟨f1, f2, _⟩ := hF
  obtain ⟨_, e, f3⟩ := f2 rfl
  have a1 := sumL_b (fun i hi => Nat.le_trans (f1 i hi).1.2 (by omega)) ks.length (Nat.le_refl _)
  have a2 := sumL_b (fun i hi => Nat.le_trans (f3 i hi) (by omega)) vs.length (Nat.le_refl _)
  exact ⟨by omega, by omega, by simp, by omega, by omega, by simp; omega, by omega, by unfold sizeN; simp only [List.length_nil]; omega, fun p hp => (List.not_mem_nil hp).elim⟩
theorem leaf_lend (hs : Sat H Z (hv ++ (hk ++ F))) (ok : Own 1 vk ks.length (txC ks) hk) (ov : Own 1 vv vs.length (txC vs) hv) :
    ∃ Z' : Fz, Z.le Z' ∧ Sat H Z' F ∧ Fl Z' 1 vk (strs ks) ∧ Fl Z' 1 vv (strs vs) ∧ Fl Z' 3 .nils (ptrs []) ∧ ∀ (H' : AH) {F' : List Hl}, Sat H' Z' F' → Sat H' Z (hv ++ (hk ++ F')) :=
  own_lend3 (hp := []) (lf := true) (ps := []) hs ⟨ok, ov, .nil⟩
theorem getU_own (T : PtT tbl) (hd : 2 ≤ d) (hs : Sat H Z (hv ++ (hk ++ F))) (hr : RL r [.bool true, vk, vv, .nils]) (ok : Own 1 vk ks.length (txC ks) hk) (ov : Own 1 vv vs.length (txC vs) hv) (m : SmallN N ks vs []) (hI : NMap ks vs E) :
    Ct (RUN tbl N d) (.fn (.fn (.func PtN.get)) [] []) [(.agg r), (.str s)] H fun v H' => v = .tup [.str (getV E s), .bool (isV E s)] ∧ Sat H' Z (hv ++ (hk ++ F)) := by
  obtain ⟨Z', l, s1, f1, f2, f3, g⟩ := leaf_lend hs ok ov
  have hvk := (form_iff.1 hI.form).2.2.1
  by_cases hx : ∃ i, i < ks.length ∧ txt ks i = s
  · obtain ⟨i, hi, he, hno⟩ := first_ix hx
    obtain ⟨j, hj⟩ := hI.there hi he
    refine (getY_ok T hd s1 hr f1 f2 f3 m.k m.v m.p m.k' hi he hno hvk).imp fun v H' ⟨e, s⟩ => ⟨?_, g _ s⟩
    rw [e]
    simp only [getV, isV, hj, Option.map_some, Option.getD_some, Option.isSome_some]
  · have hno : ∀ j, j < ks.length → ¬ txt ks j = s := fun j hj e => hx ⟨j, hj, e⟩
    have hj := hI.away hno
    refine (getN_ok T hd s1 hr f1 f2 f3 m.k m.v m.p m.k' hno).imp fun v H' ⟨e, s⟩ => ⟨?_, g _ s⟩
    rw [e]
    simp only [getV, isV, hj, Option.map_none, Option.getD_none, Option.isSome_none]
theorem putX_own (T : PtT tbl) (TB : BkT tbl) (TD : NdT tbl) (hd : 10 ≤ d) (hs : Sat H Z (hv ++ (hk ++ F))) (hr : RL r [.bool true, vk, vv, .nils]) (ok : Own 1 vk ks.length (txC ks) hk) (ov : Own 1 vv vs.length (txC vs) hv) (m : SmallN N ks vs []) (hI : NMap ks vs E) (hx : ¬ KeyOk s ∨ 200 < t.length) :
    Ct (RUN tbl N d) (.fn (.fn (.func PtN.put)) [] []) [(.agg r), (.str s), (.str t)] H fun v H' => ∃ q, v = .tup [.agg q, .int .i64 1] ∧ RL q [.bool false, .nils, .nils, .nils] ∧ Sat H' Z (hv ++ (hk ++ F)) := by
  obtain ⟨Z', l, s1, f1, f2, f3, g⟩ := leaf_lend hs ok ov
  by_cases hko : KeyOk s
  · exact (putV_ok T TB TD hd s1 hr f1 f2 f3 m hI.form hko (hx.resolve_left fun h => h hko)).imp fun v H' ⟨q, e, hq, s⟩ => ⟨q, e, hq, g _ s⟩
  · exact (putK_ok T TB TD hd s1 hr f1 f2 f3 m hI.form hko).imp fun v H' ⟨q, e, hq, s⟩ => ⟨q, e, hq, g _ s⟩
theorem putU_own (T : PtT tbl) (TB : BkT tbl) (TD : NdT tbl) (TH : HvT tbl) (hIns : tbl PtN.ins = some (.sum insOn)) (hd : 10 ≤ d) (hs : Sat H Z (hv ++ (hk ++ F))) (hr : RL r [.bool true, vk, vv, .nils]) (ok : Own 1 vk ks.length (txC ks) hk) (ov : Own 1 vv vs.length (txC vs) hv) (m : SmallN N ks vs []) (hI : NMap ks vs E) (hko : KeyOk s) (ht : t.length ≤ 200) (hsm : ks.length ≤ 1000000) :
    Ct (RUN tbl N d) (.fn (.fn (.func PtN.put)) [] []) [(.agg r), (.str s), (.str t)] H fun v H' => ∃ ks' vs' q wk wv hk' hv', v = .tup [.agg q, .int .i64 0] ∧ RL q [.bool true, wk, wv, .nils] ∧ Own 1 wk ks'.length (txC ks') hk' ∧ Own 1 wv vs'.length (txC vs') hv' ∧ NMap ks' vs' (putE E s t c) ∧ ks'.length ≤ ks.length + 1 ∧ Sat H' Z (hv ++ (hk ++ (hv' ++ (hk' ++ F)))) := by
  obtain ⟨Z', l, s1, f1, f2, f3, g⟩ := leaf_lend hs ok ov
  have hvk := (form_iff.1 hI.form).2.2.1
  by_cases hx : ∃ i, i < ks.length ∧ txt ks i = s
  · obtain ⟨i, hi, he⟩ := hx
    obtain ⟨j, hj⟩ := hI.there hi he
    refine (putE_ok T TB TD TH hd s1 hr f1 f2 f3 m hI.form hko ht hi he).imp fun v H' ⟨q, wk, wv, hk', hv', e, hq, o1, o2, s⟩ => ⟨ks, vs.set i t, q, wk, wv, hk', hv', e, hq, o1, by rw [List.length_set]; exact o2, ?_, by omega, g _ s⟩
    have := hI.put hi he ht hj
    simpa only [putE, hj] using this
  · have hno : ∀ j, j < ks.length → ¬ txt ks j = s := fun j hj e => hx ⟨j, hj, e⟩
    have hj := hI.away hno
    refine (putI_ok T TB TD TH hIns hd s1 hr f1 f2 f3 m hI.form hko ht hno hsm).imp fun v H' ⟨i, q, wk, wv, hk', hv', h1, h2, h3, e, hq, o1, o2, sx⟩ => ⟨ks.take i ++ s :: ks.drop i, vs.take i ++ t :: vs.drop i, q, wk, wv, hk', hv', e, hq, ?_, ?_, ?_, ?_, g _ sx⟩
    · have e : (ks.take i ++ s :: ks.drop i).length = ks.length + 1 := by simp; omega
      rw [e]; exact o1
    · have e : (vs.take i ++ t :: vs.drop i).length = vs.length + 1 := by simp; omega
      rw [e]; exact o2
    · have := hI.ins (c := c) hko ht h1 h2 h3 hno hj
      simpa only [putE, hj] using this
    · simp; omega
theorem delN_own (T : PtT tbl) (TB : BkT tbl) (TD : NdT tbl) (hd : 10 ≤ d) (hs : Sat H Z (hv ++ (hk ++ F))) (hr : RL r [.bool true, vk, vv, .nils]) (ok : Own 1 vk ks.length (txC ks) hk) (ov : Own 1 vv vs.length (txC vs) hv) (m : SmallN N ks vs []) (hI : NMap ks vs E) (hx : ¬ isV E s = true) :
    Ct (RUN tbl N d) (.fn (.fn (.func PtN.del)) [] []) [(.agg r), (.str s)] H fun v H' => ∃ q, v = .tup [.agg q, .int .i64 5] ∧ RL q [.bool false, .nils, .nils, .nils] ∧ Sat H' Z (hv ++ (hk ++ F)) := by
  obtain ⟨Z', l, s1, f1, f2, f3, g⟩ := leaf_lend hs ok ov
  have hno : ∀ j, j < ks.length → ¬ txt ks j = s := fun j hj e => hx (by obtain ⟨q, hq⟩ := hI.there hj e; rw [isV, hq]; rfl)
  exact (delN_ok T TB TD hd s1 hr f1 f2 f3 m hI.form hno).imp fun v H' ⟨q, e, hq, s⟩ => ⟨q, e, hq, g _ s⟩
theorem delY_own (T : PtT tbl) (TB : BkT tbl) (TD : NdT tbl) (TH : HvT tbl) (hd : 10 ≤ d) (hs : Sat H Z (hv ++ (hk ++ F))) (hr : RL r [.bool true, vk, vv, .nils]) (ok : Own 1 vk ks.length (txC ks) hk) (ov : Own 1 vv vs.length (txC vs) hv) (m : SmallN N ks vs []) (hI : NMap ks vs E) (hx : isV E s = true) (hsm : ks.length ≤ 1000000) (hN : 4 < N) :
    Ct (RUN tbl N d) (.fn (.fn (.func PtN.del)) [] []) [(.agg r), (.str s)] H fun v H' => ∃ ks' vs' q wk wv hk' hv', v = .tup [.agg q, .int .i64 0] ∧ RL q [.bool true, wk, wv, .nils] ∧ Own 1 wk ks'.length (txC ks') hk' ∧ Own 1 wv vs'.length (txC vs') hv' ∧ NMap ks' vs' (delE E s) ∧ ks'.length ≤ ks.length + 1 ∧ Sat H' Z (hv ++ (hk ++ (hv' ++ (hk' ++ F)))) := by
  obtain ⟨Z', l, s1, f1, f2, f3, g⟩ := leaf_lend hs ok ov
  have hvk := (form_iff.1 hI.form).2.2.1
  have hex : ∃ i, i < ks.length ∧ txt ks i = s := Classical.byContradiction fun h => by
    have := hI.away fun j hj e => h ⟨j, hj, e⟩
    rw [isV, this] at hx
    cases hx
  obtain ⟨i, hi, he, hno⟩ := first_ix hex
  obtain ⟨j, hj⟩ := hI.there hi he
  refine (delY_ok T TB TD TH hd s1 hr f1 f2 f3 m hI.form hi he hno hsm hN).imp fun v H' ⟨q, wk, wv, hk', hv', e, hq, o1, o2, s⟩ => ⟨_, _, q, wk, wv, hk', hv', e, hq, o1, o2, ?_, by simp; omega, g _ s⟩
  have := hI.del hi he hj
  simpa only [delE, hj] using this
end
end
end Go.Jt
