/-
  Plain law of a node's halves: windows of its rows, their forms and sizes.
-/
import Derived.Test.YtehjgplolaekmaaJtHv
set_option autoImplicit false
set_option linter.all false
namespace Go.Jt
noncomputable section
variable [Gl]
section
variable {α : Type} {l : List α} {i j : Nat}
theorem win_len (hij : i ≤ j) (hj : j ≤ l.length) : (win l i j).length = j - i := by simp [win]; omega
theorem win_le : (win l i j).length ≤ l.length := by simp [win]; omega
theorem win_get (hj : j ≤ l.length) {q : Nat} (hq : q < j - i) : (win l i j)[q]? = l[i + q]? := by
  unfold win
  rw [List.getElem?_take_of_lt hq, List.getElem?_drop]
theorem win_split (l : List α) (i : Nat) (hi : i ≤ l.length) : win l 0 i ++ win l i l.length = l := by
  unfold win
  rw [List.drop_zero, Nat.sub_zero, List.take_of_length_le (l := l.drop i) (by simp)]
  exact List.take_append_drop i l
theorem win_three (l : List α) (i j : Nat) (hij : i ≤ j) (hj : j ≤ l.length) : l = win l 0 i ++ (win l i j ++ win l j l.length) := by
  have h1 := (win_split l i (by omega)).symm
  have h2 : win l i l.length = win l i j ++ win l j l.length := by
    unfold win
    have e : l.drop j = (l.drop i).drop (j - i) := by rw [List.drop_drop]; congr 1; omega
    rw [List.take_of_length_le (l := l.drop i) (by simp), List.take_of_length_le (l := l.drop j) (by simp), e, List.take_append_drop]
  rw [← h2]
  exact h1
theorem win_mem {x : α} (h : x ∈ win l i j) : x ∈ l := List.mem_of_mem_drop (List.mem_of_mem_take h)
end
section
variable {lf : Bool} {ks vs : List (List Nat)} {ps : List PtrM} {i j k N : Nat}
theorem txt_win (hj : j ≤ ks.length) {q : Nat} (hq : q < j - i) : txt (win ks i j) q = txt ks (i + q) := by
  unfold txt
  rw [List.getD_eq_getElem?_getD, List.getD_eq_getElem?_getD, win_get hj hq]
theorem ptAt_win (hj : j ≤ ps.length) {q : Nat} (hq : q < j - i) : ptAt (win ps i j) q = ptAt ps (i + q) := by
  unfold ptAt
  rw [List.getD_eq_getElem?_getD, List.getD_eq_getElem?_getD, win_get hj hq]
theorem win_mid (hk : k < ks.length) : win ks 0 k ++ ([txt ks k] ++ win ks (k + 1) ks.length) = ks := by
  have h := win_three ks k (k + 1) (by omega) (by omega)
  have e : win ks k (k + 1) = [txt ks k] := by
    unfold win txt
    rw [Nat.add_sub_cancel_left, List.drop_eq_getElem_cons hk, List.getD_eq_getElem?_getD, List.getElem?_eq_getElem hk]
    rfl
  rw [e] at h
  exact h.symm
theorem keys_win (h : KeysOk ks) (hj : j ≤ ks.length) : KeysOk (win ks i j) := by
  intro q hq
  have hq' : q < j - i := by
    by_cases hij : i ≤ j
    · rwa [win_len hij hj] at hq
    · simp [win] at hq; omega
  have h1 := h (i + q) (by omega)
  rw [txt_win hj hq']
  refine ⟨h1.1, fun h0 => ?_⟩
  rw [txt_win hj (by omega)]
  have := h1.2 (by omega)
  rwa [show i + q - 1 = i + (q - 1) by omega] at this
theorem form_winL (h : FormN true ks vs ps) (hij : i ≤ j) (hj : j ≤ ks.length) : FormN true (win ks i j) (win vs i j) [] := by
  obtain ⟨h1, h2, _⟩ := h
  obtain ⟨e1, e2, e3⟩ := h2 rfl
  refine ⟨keys_win h1 hj, fun _ => ⟨rfl, by rw [win_len hij (by omega), win_len hij hj], fun q hq => ?_⟩, fun h => by cases h⟩
  rw [win_len hij (by omega)] at hq
  rw [txt_win (by omega) hq]
  exact e3 _ (by omega)
theorem form_winI (h : FormN false ks vs ps) (hij : i < j) (hj : j ≤ ks.length) : FormN false (win ks i j) [] (win ps i (j + 1)) := by
  obtain ⟨h1, _, h2⟩ := h
  obtain ⟨e0, e1, e2, e3⟩ := h2 rfl
  refine ⟨keys_win h1 hj, fun h => (by cases h), fun _ => ⟨by rw [win_len (by omega) hj]; omega, by rw [win_len (by omega) hj, win_len (by omega) (by omega)]; omega, rfl, fun q hq => ?_⟩⟩
  rw [win_len (by omega) (by omega)] at hq
  rw [ptAt_win (by omega) hq]
  exact e3 _ (by omega)
/-- all bytes of texts, with their lengths -/
theorem tot_app (a b : List (List Nat)) : sumL (a ++ b) (a ++ b).length = sumL a a.length + sumL b b.length := by
  unfold sumL
  rw [List.take_of_length_le (Nat.le_refl _), List.take_of_length_le (Nat.le_refl _), List.take_of_length_le (Nat.le_refl _), List.map_append, List.sum_append]
theorem tot_ge (a : List (List Nat)) : a.length ≤ sumL a a.length := sumL_ge a a.length (Nat.le_refl _)
theorem tot_win (hij : i ≤ j) (hj : j ≤ ks.length) : sumL (win ks 0 i) (win ks 0 i).length + (sumL (win ks i j) (win ks i j).length + sumL (win ks j ks.length) (win ks j ks.length).length) = sumL ks ks.length := by
  have h := win_three ks i j hij hj
  have h2 : sumL ks ks.length = sumL (win ks 0 i ++ (win ks i j ++ win ks j ks.length)) (win ks 0 i ++ (win ks i j ++ win ks j ks.length)).length := by rw [← h]
  rw [h2, tot_app, tot_app]
theorem tot_win_le (l : List (List Nat)) (i j : Nat) : sumL (win l i j) (win l i j).length ≤ sumL l l.length := by
  by_cases hij : i ≤ j
  · by_cases hj : j ≤ l.length
    · have := tot_win hij hj; omega
    · by_cases hi : i ≤ l.length
      · have h : win l i j = win l i l.length := by
          unfold win
          rw [List.take_of_length_le (by simp; omega), List.take_of_length_le (by simp)]
        rw [h]
        have := tot_win (ks := l) hi (Nat.le_refl _); omega
      · have h : win l i j = [] := by unfold win; rw [List.drop_of_length_le (by omega)]; simp
        rw [h]
        simp [sumL]
  · have h : win l i j = [] := by unfold win; rw [show j - i = 0 by omega]; simp
    rw [h]
    simp [sumL]
theorem size_winL (vs : List (List Nat)) (i j : Nat) : sizeN (win ks i j) (win vs i j) [] ≤ sizeN ks vs ps := by
  unfold sizeN
  have h1 := tot_win_le ks i j
  have h2 := tot_win_le vs i j
  simp only [List.length_nil]
  omega
theorem size_winI (i j i' j' : Nat) : sizeN (win ks i j) [] (win ps i' j') ≤ sizeN ks vs ps := by
  unfold sizeN
  have h1 := tot_win_le ks i j
  have h2 : (win ps i' j').length ≤ ps.length := win_le
  simp only [List.length_nil, sumL_zero]
  omega
theorem SmallN.winL (m : SmallN N ks vs ps) (i j : Nat) : SmallN N (win ks i j) (win vs i j) [] := by
  have h1 : (win ks i j).length ≤ ks.length := win_le
  have h2 : (win vs i j).length ≤ vs.length := win_le
  have := m.k; have := m.v; have := m.p; have := m.k'; have := m.v'; have := m.p'; have := m.s; have := m.n
  exact ⟨by omega, by omega, Nat.zero_le _, by omega, by omega, by simp; omega, m.n, Nat.le_trans (size_winL vs i j) m.s, fun p hp => (List.not_mem_nil hp).elim⟩
theorem SmallN.winI (m : SmallN N ks vs ps) (i j i' j' : Nat) : SmallN N (win ks i j) [] (win ps i' j') := by
  have h1 : (win ks i j).length ≤ ks.length := win_le
  have h2 : (win ps i' j').length ≤ ps.length := win_le
  have := m.k; have := m.v; have := m.p; have := m.k'; have := m.v'; have := m.p'; have := m.s; have := m.n
  exact ⟨by omega, Nat.zero_le _, by omega, by omega, by simp; omega, by omega, m.n, Nat.le_trans (size_winI i j i' j') m.s, fun p hp => m.q p (win_mem hp)⟩
/-- both halves are smaller -/
theorem halves_L (h : FormN true ks vs ps) (h1 : 1 ≤ k) (h2 : k < ks.length) : sizeN (win ks 0 k) (win vs 0 k) [] < sizeN ks vs ps ∧ sizeN (win ks k ks.length) (win vs k vs.length) [] < sizeN ks vs ps := by
  obtain ⟨e1, e2, _⟩ := h.2.1 rfl
  have a := tot_win (ks := ks) (i := k) (j := ks.length) (by omega) (Nat.le_refl _)
  have b := tot_win (ks := vs) (i := k) (j := vs.length) (by omega) (Nat.le_refl _)
  have c1 := tot_ge (win ks 0 k)
  have c2 := tot_ge (win ks k ks.length)
  rw [win_len (by omega) (by omega)] at c1
  rw [win_len (by omega) (by omega)] at c2
  rw [win_len (by omega) (by omega)] at a
  unfold sizeN
  rw [win_len (l := ks) (i := 0) (by omega) (by omega), win_len (l := ks) (i := k) (by omega) (by omega)] at *
  simp only [List.length_nil]
  omega
theorem halves_I (h : FormN false ks vs ps) (h1 : 1 ≤ k) (h2 : k + 1 < ks.length) : sizeN (win ks 0 k) [] (win ps 0 (k + 1)) < sizeN ks vs ps ∧ sizeN (win ks (k + 1) ks.length) [] (win ps (k + 1) ps.length) < sizeN ks vs ps := by
  obtain ⟨e0, e1, e2, _⟩ := h.2.2 rfl
  have a1 := tot_win_le ks 0 k
  have a2 := tot_win_le ks (k + 1) ks.length
  unfold sizeN
  rw [win_len (l := ps) (i := 0) (by omega) (by omega), win_len (l := ps) (i := k + 1) (by omega) (by omega)]
  simp only [List.length_nil, sumL_zero]
  omega
theorem slt_irr (s : List Nat) : slt s s = false := by
  induction s with
  | nil => rfl
  | cons x s ih =>
    show cond (Nat.ble (Nat.succ x) x) true (cond (Nat.beq x x) (slt s s) false) = false
    have h1 : Nat.ble (Nat.succ x) x = false := by
      cases h : Nat.ble (Nat.succ x) x with
      | false => rfl
      | true => have := Nat.le_of_ble_eq_true h; omega
    rw [h1, Nat.beq_refl, ih]
    rfl
theorem slt_asym (s t : List Nat) : slt s t = true → slt t s = false := by
  induction s generalizing t with
  | nil =>
    intro h
    cases t with
    | nil => cases h
    | cons y t => rfl
  | cons x s ih =>
    intro h
    cases t with
    | nil => cases h
    | cons y t =>
      have h' : cond (Nat.ble (Nat.succ x) y) true (cond (Nat.beq x y) (slt s t) false) = true := h
      show cond (Nat.ble (Nat.succ y) x) true (cond (Nat.beq y x) (slt t s) false) = false
      by_cases hxy : x = y
      · subst hxy
        have h1 : Nat.ble (Nat.succ x) x = false := by
          cases h : Nat.ble (Nat.succ x) x with
          | false => rfl
          | true => have := Nat.le_of_ble_eq_true h; omega
        rw [h1, Nat.beq_refl] at h' ⊢
        exact ih t h'
      · have h2 : Nat.beq x y = false := by
          cases h : Nat.beq x y with
          | false => rfl
          | true => exact absurd (Nat.eq_of_beq_eq_true h) hxy
        have h3 : Nat.beq y x = false := by
          cases h : Nat.beq y x with
          | false => rfl
          | true => exact absurd (Nat.eq_of_beq_eq_true h).symm hxy
        rw [h2] at h'
        rw [h3]
        have h4 : Nat.ble (Nat.succ x) y = true := by
          cases h : Nat.ble (Nat.succ x) y with
          | true => rfl
          | false => rw [h] at h'; cases h'
        have := Nat.le_of_ble_eq_true h4
        have h5 : Nat.ble (Nat.succ y) x = false := by
          cases h : Nat.ble (Nat.succ y) x with
          | false => rfl
          | true => have := Nat.le_of_ble_eq_true h; omega
        rw [h5]
        rfl
/-- the separator stands between the halves -/
theorem sep_ok (h : KeysOk ks) (hk : k < ks.length) : KeyOk (txt ks k) := (h k hk).1
theorem sep_left (h : KeysOk ks) (h1 : 1 ≤ k) (hk : k < ks.length) : slt (txt (win ks 0 k) ((win ks 0 k).length - 1)) (txt ks k) = true := by
  rw [win_len (by omega) (by omega), txt_win (by omega) (by omega), show 0 + (k - 0 - 1) = k - 1 by omega]
  exact (h k hk).2 (by omega)
theorem sep_rightL (hk : k < ks.length) : txt (win ks k ks.length) 0 = txt ks k := by
  rw [txt_win (by omega) (by omega), Nat.add_zero]
theorem sep_rightI (h : KeysOk ks) (hk : k + 1 < ks.length) : slt (txt ks k) (txt (win ks (k + 1) ks.length) 0) = true := by
  rw [txt_win (by omega) (by omega)]
  exact (h (k + 1) hk).2 (by omega)
end
end
end Go.Jt
