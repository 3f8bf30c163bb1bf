/-
  A region whose order is open: what was checked of it, told in words; certificates of operations that were run ahead.
-/
import Derived.Test.YtlhlgmodhblplaaJtDraw3
set_option autoImplicit false
set_option linter.all false
namespace Go.Jt
open Go.RowKit (Below)
variable [Gl]

/-! ### what was checked -/
structure Okd (P : Program) (ops : Array Oper) (X : List XOper) (b E : List Nat) : Prop where
  len : X.length = ops.size
  at_ : ∀ i o, ops[i]? = some o → compO P ops o = some (opAt X i)
  lt : ∀ i o, ops[i]? = some o → ∀ e ∈ o.after, Region.binds .any e = true → e.on < i
  edge : ∀ i o, ops[i]? = some o → ∀ j, j < ops.size → pre b j i = true → ∃ e ∈ o.after, Region.binds .any e = true ∧ (e.on = j ∨ pre b j e.on = true)
  one : ∀ j d, j < ops.size → (opAt X j).dst = some d → ∀ i, i < ops.size → i ≠ j → (opAt X i).dst ≠ some d
  look : ∀ j d, j < ops.size → (opAt X j).dst = some d → ∀ i, i < ops.size → d ∈ looks (opAt X i) → i ≠ j ∧ ((pre b j i = true ∧ ahead b E j i = true) ∨ (pre b i j = true ∧ j ∈ E))
  row : ∀ (m m' e e' : Nat), m < m' → E[m]? = some e → E[m']? = some e' → pre b e e' = true
  inE : ∀ i, i ∈ E → i < ops.size
  notE : ∀ i, i < ops.size → i ∉ E → kindX (opAt X i).op ≠ 3
  nodup : E.Nodup
theorem compL_len {P : Program} {ops : Array Oper} : ∀ (l : List Oper) (X : List XOper), compL P ops l = some X → X.length = l.length ∧ ∀ i o, l[i]? = some o → compO P ops o = some (opAt X i)
  | [], X, h => by cases h; exact ⟨rfl, fun i o h => by simp at h⟩
  | o :: l, X, h => by
    unfold compL at h
    split at h
    · rename_i x r h1 h2
      cases h
      obtain ⟨g1, g2⟩ := compL_len l r h2
      refine ⟨by simp [g1], fun i o' h' => ?_⟩
      cases i with
      | zero => simp at h'; subst h'; exact h1
      | succ i => exact g2 i o' (by simpa using h')
    · cases h
theorem okF_spec {b : List Nat} : ∀ (E : List Nat), okF b E = true → ∀ (m m' e e' : Nat), m < m' → E[m]? = some e → E[m']? = some e' → pre b e e' = true
  | [], _, m, m', e, e', _, h, _ => by simp at h
  | x :: E, h, m, m', e, e', hm, h1, h2 => by
    simp only [okF, Bool.and_eq_true, List.all_eq_true] at h
    cases m' with
    | zero => omega
    | succ m' =>
      have h2' : E[m']? = some e' := by simpa using h2
      cases m with
      | zero =>
        have : x = e := by simpa using h1
        subst this
        exact h.1 e' (List.mem_of_getElem? h2')
      | succ m => exact okF_spec E h.2 m m' e e' (by omega) (by simpa using h1) h2'
theorem opAt_some {X : List XOper} {i : Nat} {o : XOper} (h : X[i]? = some o) : opAt X i = o := by simp [opAt, h]
theorem opAt_lt {X : List XOper} {i : Nat} (h : i < X.length) : X[i]? = some (opAt X i) := by simp [opAt, h]
theorem okd {P : Program} {ops : Array Oper} {X : List XOper} (hc : compL P ops ops.toList = some X) (h : okX ops X (Region.before ops).toList (effs X (Region.before ops).toList) = true) : Okd P ops X (Region.before ops).toList (effs X (Region.before ops).toList) := by
  obtain ⟨hl, hat⟩ := compL_len _ _ hc
  have hl' : X.length = ops.size := by simpa using hl
  simp only [okX, Bool.and_eq_true] at h
  obtain ⟨⟨h1, h2⟩, h3⟩ := h
  generalize (Region.before ops).toList = b at *
  simp only [okE, List.all_eq_true, List.mem_range] at h1
  simp only [okW, List.all_eq_true, List.mem_range] at h2
  have hE : ∀ i o, ops[i]? = some o → (∀ e ∈ o.after, Region.binds .any e = true → e.on < i) ∧ ∀ j, j < ops.size → pre b j i = true → ∃ e ∈ o.after, Region.binds .any e = true ∧ (e.on = j ∨ pre b j e.on = true) := fun i o ho => by
    have h0 := h1 i (Array.getElem?_eq_some_iff.1 ho).1
    rw [ho] at h0
    simp only [Bool.and_eq_true, List.all_eq_true, List.mem_range] at h0
    refine ⟨fun e he hb => ?_, fun j hj hp => ?_⟩
    · have := h0.1 e (by simpa using he)
      rw [hb] at this
      simp at this
      exact this
    · have := h0.2 j hj
      rw [hp] at this
      simp only [Bool.not_true, Bool.false_or, List.any_eq_true, Bool.and_eq_true, Bool.or_eq_true] at this
      obtain ⟨e, he, hb, hor⟩ := this
      refine ⟨e, by simpa using he, hb, ?_⟩
      rcases hor with hor | hor
      · exact Or.inl (Nat.eq_of_beq_eq_true hor)
      · exact Or.inr hor
  have hW : ∀ j d, j < ops.size → (opAt X j).dst = some d → ∀ i, i < ops.size → (i ≠ j → (opAt X i).dst ≠ some d) ∧ (d ∈ looks (opAt X i) → i ≠ j ∧ ((pre b j i = true ∧ ahead b (effs X b) j i = true) ∨ (pre b i j = true ∧ j ∈ effs X b))) := fun j d hj hd i hi => by
    have h0 := h2 j (by omega)
    rw [opAt_lt (by omega : j < X.length)] at h0
    simp only [hd, List.all_eq_true, List.mem_range] at h0
    have h4 := h0 i (by omega)
    rw [opAt_lt (by omega : i < X.length)] at h4
    simp only [Bool.and_eq_true, Bool.or_eq_true, Bool.not_eq_true', List.contains_eq_mem, decide_eq_true_eq, decide_eq_false_iff_not] at h4
    refine ⟨fun hne he => ?_, fun hlk => ?_⟩
    · rcases h4.1 with h5 | h5
      · exact hne (Nat.eq_of_beq_eq_true h5)
      · rw [he] at h5
        simp at h5
    · rcases h4.2 with (h5 | h5) | h5
      · exact absurd hlk h5
      · refine ⟨fun e => ?_, Or.inl ⟨h5.1.2, h5.2⟩⟩
        subst e
        have := h5.1.1
        rw [Nat.beq_refl] at this
        cases this
      · refine ⟨fun e => ?_, Or.inr ⟨h5.1.2, h5.2⟩⟩
        subst e
        have := h5.1.1
        rw [Nat.beq_refl] at this
        cases this
  refine ⟨hl', fun i o ho => hat i o (by simpa using ho), fun i o ho => (hE i o ho).1, fun i o ho => (hE i o ho).2, fun j d hj hd i hi hne => (hW j d hj hd i hi).1 hne, fun j d hj hd i hi hlk => (hW j d hj hd i hi).2 hlk, okF_spec _ h3, fun i hi => ?_, fun i hi hn h3 => ?_, ?_⟩
  · simp only [effs, List.mem_filter, List.mem_range] at hi
    omega
  · refine hn ?_
    simp only [effs, List.mem_filter, List.mem_range]
    have g1' : i < X.length := by omega
    refine ⟨g1', ?_⟩
    rw [opAt_lt g1']
    simp only [h3]
    rfl
  · exact List.Pairwise.filter _ List.nodup_range

/-! ### places -/
theorem placeE_none {i : Nat} : ∀ (E : List Nat) (m : Nat), i ∉ E → placeE i E m = none
  | [], _, _ => rfl
  | e :: l, m, h => by
    have h1 : Nat.beq e i = false := by
      cases hb : Nat.beq e i with
      | true => exact absurd (Nat.eq_of_beq_eq_true hb) (fun e' => h (by simp [e']))
      | false => rfl
    simp only [placeE, h1, cond_false]
    exact placeE_none l _ (fun h' => h (List.mem_cons_of_mem _ h'))
theorem placeE_some {i : Nat} : ∀ (E : List Nat) (m n : Nat), E.Nodup → E[n]? = some i → placeE i E m = some (m + n)
  | [], _, _, _, h => by simp at h
  | e :: l, m, n, hn, h => by
    cases n with
    | zero =>
      have : e = i := by simpa using h
      subst this
      simp [placeE]
    | succ n =>
      have h' : l[n]? = some i := by simpa using h
      have hne : e ≠ i := fun e' => by
        subst e'
        exact (List.nodup_cons.1 hn).1 (List.mem_of_getElem? h')
      have h1 : Nat.beq e i = false := by
        cases hb : Nat.beq e i with
        | true => exact absurd (Nat.eq_of_beq_eq_true hb) hne
        | false => rfl
      simp only [placeE, h1, cond_false]
      rw [placeE_some l (m + 1) n (List.nodup_cons.1 hn).2 h']
      congr 1; omega
theorem filter_bound {p : Nat → Bool} : ∀ (E : List Nat) (k : Nat), (∀ m e, E[m]? = some e → p e = true → m < k) → (E.filter p).length ≤ k
  | [], k, _ => by simp
  | e :: l, k, h => by
    cases k with
    | zero =>
      have h1 : p e = false := by
        cases hb : p e with
        | true => exact absurd (h 0 e rfl hb) (by omega)
        | false => rfl
      rw [List.filter_cons_of_neg (by simp [h1])]
      exact filter_bound l 0 (fun m e' h2 h3 => by have := h (m + 1) e' (by simpa using h2) h3; omega)
    | succ k =>
      have := filter_bound l k (fun m e' h2 h3 => by have := h (m + 1) e' (by simpa using h2) h3; omega)
      rw [List.filter_cons]
      split <;> simp <;> omega
theorem filter_least {p : Nat → Bool} : ∀ (E : List Nat) (k : Nat), k ≤ E.length → (∀ m e, E[m]? = some e → m < k → p e = true) → k ≤ (E.filter p).length
  | [], k, hk, _ => by simpa using hk
  | e :: l, k, hk, h => by
    cases k with
    | zero => omega
    | succ k =>
      have h1 := h 0 e rfl (by omega)
      rw [List.filter_cons_of_pos h1]
      have := filter_least l k (by simpa using hk) (fun m e' h2 h3 => h (m + 1) e' (by simpa using h2) (by omega))
      simp; omega
end Go.Jt
