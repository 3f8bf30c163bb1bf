/-
  A Space's counts are the numbers of its states.
-/
import Derived.Test.YtlhlgmodhblplaaJtSpace
set_option autoImplicit false
set_option linter.all false
namespace Go.Jt
noncomputable section
variable [Gl]
def cnt (bl : Nat) (f : Nat → Nat) (x : Nat) : Nat := (List.range bl).countP fun i => decide (f i = x)
theorem cnt_le (bl : Nat) (f : Nat → Nat) (x : Nat) : cnt bl f x ≤ bl := by
  have := List.countP_le_length (p := fun i => decide (f i = x)) (l := List.range bl)
  simpa [cnt] using this
theorem cnt_succ (n : Nat) (f : Nat → Nat) (x : Nat) : cnt (n + 1) f x = cnt n f x + (if f n = x then 1 else 0) := by
  unfold cnt
  rw [List.range_succ, List.countP_append]
  simp [List.countP_cons]
theorem cnt_congr {n : Nat} {f g : Nat → Nat} (x : Nat) (h : ∀ i, i < n → f i = g i) : cnt n f x = cnt n g x := by
  unfold cnt
  apply List.countP_congr
  intro i hi
  rw [h i (by simpa using hi)]
theorem cnt_pos {bl n : Nat} {f : Nat → Nat} (h : n < bl) : 1 ≤ cnt bl f (f n) := by
  unfold cnt
  apply List.countP_pos_iff.2
  exact ⟨n, by simpa using h, by simp⟩
theorem cnt_zero {bl x : Nat} {f : Nat → Nat} (h : cnt bl f x = 0) : ∀ n, n < bl → f n ≠ x := by
  intro n hn e
  subst e
  have := cnt_pos (f := f) hn
  omega
theorem cnt_some {bl x : Nat} {f : Nat → Nat} (h : ¬ cnt bl f x = 0) : ∃ n, n < bl ∧ f n = x := by
  have : 0 < cnt bl f x := by omega
  unfold cnt at this
  obtain ⟨n, h1, h2⟩ := List.countP_pos_iff.1 this
  exact ⟨n, by simpa using h1, by simpa using h2⟩
theorem cnt_fup {f : Nat → Nat} {n : Nat} (t x : Nat) : ∀ bl : Nat, n < bl → cnt bl (fup f n t) x + (if f n = x then 1 else 0) = cnt bl f x + (if t = x then 1 else 0)
  | 0, h => by omega
  | m + 1, h => by
    rw [cnt_succ, cnt_succ]
    by_cases e : n = m
    · subst e
      rw [cnt_congr (f := fup f n t) (g := f) x (fun i hi => by simp [fup, show i ≠ n by omega])]
      simp only [fup, if_true]
      omega
    · have := cnt_fup (f := f) (n := n) t x m (by omega)
      simp only [fup, show m ≠ n from fun h => e h.symm, if_false]
      omega
def spK (f : Nat → Nat) (bl la : Nat) : List AV := spL f bl la (cnt bl f)
theorem spK_sla {f : Nat → Nat} {bl la v : Nat} : (spK f bl la).set 8193 (.int .i64 (.ofNat v)) = spK f bl v := spL_sla
theorem spK_len (f : Nat → Nat) (bl la : Nat) : (spK f bl la).length = 8198 := spL_len ..
theorem rowN_congr {q : IntKind} {n : Nat} {f g : Nat → Nat} (h : ∀ i, i < n → f i = g i) : rowN q n f = rowN q n g := by
  unfold rowN
  apply List.map_congr_left
  intro i hi
  rw [h i (by simpa using hi)]
theorem spK_put {f : Nat → Nat} {bl la n t : Nat} (hn : n < bl) : spL (fup f n t) bl la (fup (fup (cnt bl f) (f n) (cnt bl f (f n) - 1)) t (fup (cnt bl f) (f n) (cnt bl f (f n) - 1) t + 1)) = spK (fup f n t) bl la := by
  unfold spK spL
  rw [rowN_congr (q := .i64) (n := 4) (g := cnt bl (fup f n t))]
  intro x hx
  have h := cnt_fup (f := f) (n := n) t x bl hn
  have h1 := cnt_pos (f := f) hn
  have h2 := cnt_fup (f := f) (n := n) t t bl hn
  simp only [fup] at h h2 ⊢
  split
  · subst_vars
    split
    · rename_i e; simp only [if_pos e.symm, if_true] at h2 ⊢; rw [← e] at h1 ⊢; omega
    · rename_i e; rw [if_neg (fun h => e h.symm)] at h2; simp only [if_true] at h2; omega
  · rename_i e
    rw [if_neg (show ¬ t = x from fun h => e h.symm)] at h
    split
    · rename_i e'; rw [if_pos e'.symm] at h; rw [← e'] at h1 ⊢; omega
    · rename_i e'; rw [if_neg (fun h => e' h.symm)] at h; omega
/-- how far it is to 'm', going up and around -/
def dist (bl m n : Nat) : Nat := if n < m then m - n else m + bl - n
theorem dist_step {bl m n : Nat} (hn : n < bl) (hm : m < bl) (h : (n + 1) % bl ≠ m) : dist bl m ((n + 1) % bl) < dist bl m n := by
  unfold dist
  by_cases e : n + 1 < bl
  · rw [Nat.mod_eq_of_lt e] at h ⊢
    split <;> split <;> omega
  · have : n + 1 = bl := by omega
    rw [this, Nat.mod_self] at h ⊢
    split <;> split <;> omega
theorem dist_le {bl m n : Nat} (hm : m < bl) : dist bl m n ≤ 2 * bl := by
  unfold dist; split <;> omega
def turnF (f : Nat → Nat) (x t i : Nat) : Nat → Nat := fun j => if j < i ∧ f j = x then t else f j
theorem turnF_zero (f : Nat → Nat) (x t : Nat) : turnF f x t 0 = f := by funext j; simp [turnF]
theorem turnF_here {f : Nat → Nat} {x t i : Nat} : turnF f x t i i = f i := by simp [turnF]
theorem turnF_yes {f : Nat → Nat} {x t i : Nat} (h : f i = x) : fup (turnF f x t i) i t = turnF f x t (i + 1) := by
  funext j
  simp only [turnF, fup]
  by_cases e : j = i
  · subst e; simp [h]
  · rw [if_neg e]
    by_cases h1 : j < i
    · simp [h1, show j < i + 1 by omega]
    · simp [h1, show ¬ j < i + 1 by omega]
theorem turnF_no {f : Nat → Nat} {x t i : Nat} (h : ¬ f i = x) : turnF f x t i = turnF f x t (i + 1) := by
  funext j
  simp only [turnF]
  by_cases e : j = i
  · subst e; simp [h]
  · by_cases h1 : j < i
    · simp [h1, show j < i + 1 by omega]
    · simp [h1, show ¬ j < i + 1 by omega]
theorem turnF_lt {f : Nat → Nat} {x t i : Nat} (h : ∀ n, f n < 4) (ht : t < 4) : ∀ n, turnF f x t i n < 4 := by
  intro n; unfold turnF; split
  · exact ht
  · exact h n
end
end Go.Jt
