/-
  What SpaceOnce counts and remembers, by the states.
-/
import Derived.Test.YtlhlgmodhblplaaJtSpc
import Derived.Test.YtlhlgmodhblplaaJtSl
set_option autoImplicit false
set_option linter.all false
namespace Go.Jt
noncomputable section
variable [Gl]
def tkB (f : Nat → Nat) (i : Nat) : Bool := f i == 1 || f i == 3
def wtB (f : Nat → Nat) (i : Nat) : Bool := f i == 2
def kpB (f : Nat → Nat) (i : Nat) : Bool := f i == 1 || f i == 2
section
variable {f : Nat → Nat} {i x : Nat}
theorem tkB_of (h : f i = x) : tkB f i = (x == 1 || x == 3) := by unfold tkB; rw [h]
theorem wtB_of (h : f i = x) : wtB f i = (x == 2) := by unfold wtB; rw [h]
theorem kpB_of (h : f i = x) : kpB f i = (x == 1 || x == 2) := by unfold kpB; rw [h]
end
section
variable {f : Nat → Nat} {n x bl : Nat}
theorem tk_put {y : Bool} (h : (x == 1 || x == 3) = y) : (rowB bl fun j => if j = n then y else tkB f j) = rowB bl (tkB (fup f n x)) := rowB_congr fun j _ => by
  simp only [tkB, fup]
  split
  · exact h.symm
  · rfl
theorem wt_put {y : Bool} (h : (x == 2) = y) : (rowB bl fun j => if j = n then y else wtB f j) = rowB bl (wtB (fup f n x)) := rowB_congr fun j _ => by
  simp only [wtB, fup]
  split
  · exact h.symm
  · rfl
theorem kp_put {y : Bool} (h : (x == 1 || x == 2) = y) : (rowB bl fun j => if j = n then y else kpB f j) = rowB bl (kpB (fup f n x)) := rowB_congr fun j _ => by
  simp only [kpB, fup]
  split
  · exact h.symm
  · rfl
theorem wt_same (h : wtB f n = (x == 2)) : rowB bl (wtB f) = rowB bl (wtB (fup f n x)) := rowB_congr fun j _ => by
  simp only [wtB, fup] at h ⊢
  split
  · rename_i e; subst e; exact h
  · rfl
theorem kp_same (h : kpB f n = (x == 1 || x == 2)) : rowB bl (kpB f) = rowB bl (kpB (fup f n x)) := rowB_congr fun j _ => by
  simp only [kpB, fup] at h ⊢
  split
  · rename_i e; subst e; exact h
  · rfl
end
def settF (f : Nat → Nat) (bl : Nat) : Nat → Nat := turnF (turnF f 2 0 bl) 3 1 bl
def backF (f : Nat → Nat) (bl : Nat) : Nat → Nat := turnF (turnF f 3 0 bl) 2 1 bl
section
variable {f : Nat → Nat} {bl : Nat}
theorem settF_at {j : Nat} (h : j < bl) : settF f bl j = if f j = 2 then 0 else if f j = 3 then 1 else f j := by
  simp only [settF, turnF, h, true_and]
  by_cases h1 : f j = 2
  · simp [h1]
  · simp [h1]
theorem backF_at {j : Nat} (h : j < bl) : backF f bl j = if f j = 3 then 0 else if f j = 2 then 1 else f j := by
  simp only [backF, turnF, h, true_and]
  by_cases h1 : f j = 3
  · simp [h1]
  · simp [h1]
theorem sett_tk (h4 : ∀ n, f n < 4) : rowB bl (tkB f) = rowB bl (tkB (settF f bl)) := rowB_congr fun j hj => by
  have := h4 j
  simp only [tkB, settF_at hj]
  by_cases h2 : f j = 2
  · simp [h2]
  · by_cases h3 : f j = 3
    · simp [h3]
    · simp [h2, h3]
theorem sett_kp (h4 : ∀ n, f n < 4) : rowB bl (tkB f) = rowB bl (kpB (settF f bl)) := rowB_congr fun j hj => by
  have := h4 j
  simp only [tkB, kpB, settF_at hj]
  by_cases h2 : f j = 2
  · simp [h2]
  · by_cases h3 : f j = 3
    · simp [h3]
    · simp [h2, h3, beq_eq_false_iff_ne.2 h2, beq_eq_false_iff_ne.2 h3]
theorem sett_wt (h4 : ∀ n, f n < 4) : List.replicate bl (AV.bool false) = rowB bl (wtB (settF f bl)) := (rowB_rep bl false).trans (rowB_congr fun j hj => by
  have := h4 j
  simp only [wtB, settF_at hj]
  by_cases h2 : f j = 2
  · simp [h2]
  · by_cases h3 : f j = 3
    · simp [h3]
    · simp [h2, h3])
theorem back_kp (h4 : ∀ n, f n < 4) : rowB bl (kpB f) = rowB bl (kpB (backF f bl)) := rowB_congr fun j hj => by
  have := h4 j
  simp only [kpB, backF_at hj]
  by_cases h2 : f j = 2
  · simp [h2]
  · by_cases h3 : f j = 3
    · simp [h3]
    · simp [h2, h3]
theorem back_tk (h4 : ∀ n, f n < 4) : rowB bl (kpB f) = rowB bl (tkB (backF f bl)) := rowB_congr fun j hj => by
  have := h4 j
  simp only [tkB, kpB, backF_at hj]
  by_cases h2 : f j = 2
  · simp [h2]
  · by_cases h3 : f j = 3
    · simp [h3]
    · simp [h2, h3, beq_eq_false_iff_ne.2 h2, beq_eq_false_iff_ne.2 h3]
theorem back_wt (h4 : ∀ n, f n < 4) : List.replicate bl (AV.bool false) = rowB bl (wtB (backF f bl)) := (rowB_rep bl false).trans (rowB_congr fun j hj => by
  have := h4 j
  simp only [wtB, backF_at hj]
  by_cases h2 : f j = 2
  · simp [h2]
  · by_cases h3 : f j = 3
    · simp [h3]
    · simp [h2, h3])
theorem settF_lt (h4 : ∀ n, f n < 4) : ∀ n, settF f bl n < 4 := turnF_lt (turnF_lt h4 (by omega)) (by omega)
theorem backF_lt (h4 : ∀ n, f n < 4) : ∀ n, backF f bl n < 4 := turnF_lt (turnF_lt h4 (by omega)) (by omega)
theorem settF_one {j : Nat} (h : f j = 1) : settF f bl j = 1 := by simp [settF, turnF, h]
theorem backF_one {j : Nat} (h : f j = 1) : backF f bl j = 1 := by simp [backF, turnF, h]
theorem fup_lt {n t : Nat} (h4 : ∀ n, f n < 4) (ht : t < 4) : ∀ i, fup f n t i < 4 := by
  intro i
  unfold fup
  split
  · exact ht
  · exact h4 i
theorem fup_one {n t j : Nat} (h : f j = 1) (hn : j < 2) (h2 : 2 ≤ n) : fup f n t j = 1 := by unfold fup; rw [if_neg (by omega)]; exact h
theorem two_le {m : Nat} (h0 : f 0 = 1) (h1 : f 1 = 1) (hm : f m = 0) : 2 ≤ m := by
  apply Nat.le_of_not_lt
  intro h
  have : m = 0 ∨ m = 1 := by omega
  rcases this with e | e <;> subst e <;> omega
end
def cB (n : Nat) (p : Nat → Bool) : Nat := (List.range n).countP p
theorem cB_succ (n : Nat) (p : Nat → Bool) : cB (n + 1) p = cB n p + (if p n = true then 1 else 0) := by
  unfold cB
  rw [List.range_succ, List.countP_append]
  simp [List.countP_cons]
theorem cB_le (n : Nat) (p : Nat → Bool) : cB n p ≤ n := by
  have := List.countP_le_length (p := p) (l := List.range n)
  simpa [cB] using this
theorem cB_wt (f : Nat → Nat) (bl : Nat) : cB bl (wtB f) = cnt bl f 2 := by
  unfold cB cnt wtB
  apply List.countP_congr
  intro i _
  simp
theorem cB_all {f : Nat → Nat} (h4 : ∀ n, f n < 4) : ∀ bl, cnt bl f 0 + cB bl (tkB f) + cB bl (wtB f) = bl
  | 0 => rfl
  | n + 1 => by
    have ih := cB_all h4 n
    have := h4 n
    rw [cnt_succ, cB_succ, cB_succ]
    simp only [tkB, wtB, Bool.or_eq_true, beq_iff_eq]
    split <;> split <;> split <;> omega
/-- a new Space's states -/
def newF : Nat → Nat := fup (fup (fun _ => 0) 0 1) 1 1
theorem newF_lt : ∀ n, newF n < 4 := fup_lt (fup_lt (fun _ => by omega) (by omega)) (by omega)
theorem cnt_zeros (bl x : Nat) : cnt bl (fun _ => 0) x = if x = 0 then bl else 0 := by
  unfold cnt
  by_cases h : x = 0
  · subst h; simp [List.countP_eq_length_filter, List.filter_eq_self.2]
  · simp [List.countP_eq_length_filter, show ¬ 0 = x from fun e => h e.symm, h]
theorem new_spK {bl : Nat} (h : 64 ≤ bl) : spL newF bl 1 (fup (fup (fun _ => 0) 0 (bl - 2)) 1 2) = spK newF bl 1 := by
  unfold spK spL
  rw [rowN_congr (q := .i64) (n := 4) (g := cnt bl newF)]
  intro x hx
  have h1 := cnt_fup (f := fun _ => 0) (n := 0) 1 x bl (by omega)
  have h2 := cnt_fup (f := fup (fun _ => 0) 0 1) (n := 1) 1 x bl (by omega)
  rw [cnt_zeros] at h1
  simp only [fup] at h1 h2 ⊢
  simp only [newF, fup]
  simp at h1 h2 ⊢
  have hx' : x = 0 ∨ x = 1 ∨ x = 2 ∨ x = 3 := by omega
  rcases hx' with e | e | e | e <;> subst e <;> simp at h1 h2 ⊢ <;> omega
theorem rowN_rep (q : IntKind) (n x : Nat) : List.replicate n (AV.int q (.ofNat x)) = rowN q n fun _ => x := by
  unfold rowN
  rw [List.map_const', List.length_range]
theorem new_RL (bl : Nat) : RL (((Rp.cat 8192 (.rep 8192 (.int .u8 0)) (.rep 6 (.int .i64 0))).set 8192 (.int .i64 (.ofNat bl))).set 8193 (.int .i64 1)) (spL (fun _ => 0) bl 1 (fun _ => 0)) := by
  have h0 : RL (Rp.cat 8192 (.rep 8192 (.int .u8 0)) (.rep 6 (.int .i64 0))) (spL (fun _ => 0) 0 0 (fun _ => 0)) := by
    have := RL.cat (n := 8192) (RL.rep 8192 (.int .u8 (.ofNat 0))) (RL.rep 6 (.int .i64 (.ofNat 0))) (List.length_replicate ..).symm
    rw [rowN_rep .u8] at this
    exact this
  have h1 := (h0.set 8192 (.int .i64 (.ofNat bl))).set 8193 (.int .i64 (.ofNat 1))
  have e : ((spL (fun _ => 0) 0 0 (fun _ => 0)).set 8192 (.int .i64 (.ofNat bl))) = spL (fun _ => 0) bl 0 (fun _ => 0) := by
    unfold spL
    rw [List.set_append_right _ _ (by rw [rowN_len]; omega), rowN_len]
    rfl
  rw [e, spL_sla] at h1
  exact h1
end
end Go.Jt
