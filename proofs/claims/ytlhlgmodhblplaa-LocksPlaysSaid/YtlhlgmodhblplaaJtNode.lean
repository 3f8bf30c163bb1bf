/-
  Nodes of a tree as data: their keys, values and kids; what may be; rows of texts and of pointers as slices' elements.
-/
import Derived.Test.YtlhlgmodhblplaaJtBlk
set_option autoImplicit false
set_option linter.all false
namespace Go.Jt
noncomputable section
variable [Gl]
structure PtrM where
  a : Int
  b : Int
  s : Nat
def PtrM.C (p : PtrM) : List AV := ptrC p.a p.b p.s
def strs (ks : List (List Nat)) : List (List AV) := ks.map fun s => [.str s]
def ptrs (ps : List PtrM) : List (List AV) := ps.map PtrM.C
def txt (ks : List (List Nat)) (i : Nat) : List Nat := ks.getD i []
def ptAt (ps : List PtrM) (i : Nat) : PtrM := ps.getD i ⟨0, 0, 0⟩
theorem txt_get {ks : List (List Nat)} {i : Nat} (h : i < ks.length) : ks[i]? = some (txt ks i) := by simp [txt, h]
theorem ptAt_get {ps : List PtrM} {i : Nat} (h : i < ps.length) : ps[i]? = some (ptAt ps i) := by simp [ptAt, h]
theorem strs_get {ks : List (List Nat)} {i : Nat} (h : i < ks.length) : (strs ks)[i]? = some [.str (txt ks i)] := by simp [strs, txt_get h]
theorem strs_len (ks : List (List Nat)) : (strs ks).length = ks.length := by simp [strs]
theorem ptrs_get {ps : List PtrM} {i : Nat} (h : i < ps.length) : (ptrs ps)[i]? = some (ptrC (ptAt ps i).a (ptAt ps i).b (ptAt ps i).s) := by simp [ptrs, ptAt_get h, PtrM.C]
theorem ptrs_len (ps : List PtrM) : (ptrs ps).length = ps.length := by simp [ptrs]
theorem txt_mem {ks : List (List Nat)} {i : Nat} (h : i < ks.length) : txt ks i ∈ ks := List.mem_of_getElem? (txt_get h)
theorem mem_txt {ks : List (List Nat)} {s : List Nat} (h : s ∈ ks) : ∃ i, i < ks.length ∧ txt ks i = s := by
  obtain ⟨i, hi, e⟩ := List.getElem_of_mem h
  exact ⟨i, hi, by simp [txt, hi, e]⟩
theorem ptAt_mem {ps : List PtrM} {i : Nat} (h : i < ps.length) : ptAt ps i ∈ ps := List.mem_of_getElem? (ptAt_get h)
theorem mem_ptAt {ps : List PtrM} {s : PtrM} (h : s ∈ ps) : ∃ i, i < ps.length ∧ ptAt ps i = s := by
  obtain ⟨i, hi, e⟩ := List.getElem_of_mem h
  exact ⟨i, hi, by simp [ptAt, hi, e]⟩

def KeyOk (s : List Nat) : Prop := s ≠ [] ∧ s.length ≤ 40
def KeysOk (ks : List (List Nat)) : Prop := ∀ i, i < ks.length → KeyOk (txt ks i) ∧ (0 < i → slt (txt ks (i - 1)) (txt ks i) = true)
def KidOk (p : PtrM) : Prop := PtrOk p.a p.b p.s ∧ p.a ≠ 0
def FormN (lf : Bool) (ks vs : List (List Nat)) (ps : List PtrM) : Prop :=
  KeysOk ks ∧ (lf = true → ps.length = 0 ∧ vs.length = ks.length ∧ ∀ i, i < vs.length → (txt vs i).length ≤ 200) ∧
    (lf = false → 0 < ks.length ∧ ps.length = ks.length + 1 ∧ vs.length = 0 ∧ ∀ i, i < ps.length → KidOk (ptAt ps i))
/-- what a loop found -/
def Found (n : Nat) (p : Nat → Bool) (z : Int) : Prop := (∃ i : Nat, z = .ofNat i ∧ i < n ∧ p i = true ∧ ∀ j, j < i → p j = false) ∨ (z = -1 ∧ ∀ i, i < n → p i = false)
theorem Found.geq {n : Nat} {p : Nat → Bool} {z : Int} (h : Found n p z) (hz : 0 ≤ z) : ∃ i, i < n ∧ p i = true := by
  rcases h with ⟨i, rfl, h1, h2, _⟩ | ⟨rfl, _⟩
  · exact ⟨i, h1, h2⟩
  · omega
theorem Found.lt {n : Nat} {p : Nat → Bool} {z : Int} (h : Found n p z) (hz : ¬ 0 ≤ z) : ¬ ∃ i, i < n ∧ p i = true := by
  rcases h with ⟨i, rfl, h1, h2, _⟩ | ⟨rfl, h1⟩
  · exact absurd (Int.natCast_nonneg i) hz
  · rintro ⟨i, h2, h3⟩
    rw [h1 i h2] at h3
    cases h3
def sumL (ks : List (List Nat)) (i : Nat) : Nat := ((ks.take i).map fun s => 1 + s.length).sum
theorem sumL_succ {ks : List (List Nat)} {i : Nat} (h : i < ks.length) : sumL ks (i + 1) = sumL ks i + (1 + (txt ks i).length) := by
  unfold sumL
  rw [List.take_succ, txt_get h]
  simp
theorem sumL_le {ks : List (List Nat)} {i : Nat} (h : i ≤ ks.length) : sumL ks i ≤ sumL ks ks.length := by
  have : ∀ k, sumL ks (i + k) ≤ sumL ks ks.length → sumL ks i ≤ sumL ks ks.length := by
    intro k
    induction k with
    | zero => exact id
    | succ k ih =>
      intro hk
      refine ih (Nat.le_trans ?_ hk)
      by_cases hl : i + k < ks.length
      · rw [← Nat.add_assoc, sumL_succ hl]; omega
      · unfold sumL
        rw [List.take_of_length_le (by omega), List.take_of_length_le (by omega)]
        exact Nat.le_refl _
  exact this (ks.length - i) (by rw [show i + (ks.length - i) = ks.length by omega]; exact Nat.le_refl _)
theorem sumL_ge (ks : List (List Nat)) : ∀ i, i ≤ ks.length → i ≤ sumL ks i
  | 0, _ => Nat.zero_le _
  | i + 1, h => by have := sumL_ge ks i (by omega); rw [sumL_succ (by omega)]; omega
def sizeN (ks vs : List (List Nat)) (ps : List PtrM) : Nat := 2 + 16 * ps.length + sumL ks ks.length + sumL vs vs.length
end
end Go.Jt
