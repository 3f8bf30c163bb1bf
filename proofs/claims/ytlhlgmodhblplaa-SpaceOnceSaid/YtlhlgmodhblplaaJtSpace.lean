/-
  The store's free blocks (space.Space) as cells: states, number of blocks, last, counts.
-/
import Derived.Test.YtlhlgmodhblplaaJtSep
set_option autoImplicit false
set_option linter.all false
namespace Go.Jt
noncomputable section
variable [Gl]

def fup (f : Nat → Nat) (i v : Nat) : Nat → Nat := fun j => if j = i then v else f j
def rowN (q : IntKind) (n : Nat) (f : Nat → Nat) : List AV := (List.range n).map fun i => .int q (.ofNat (f i))
theorem rowN_len (q : IntKind) (n : Nat) (f : Nat → Nat) : (rowN q n f).length = n := by simp [rowN]
theorem rowN_get {q : IntKind} {n i : Nat} (f : Nat → Nat) (h : i < n) : (rowN q n f)[i]? = some (.int q (.ofNat (f i))) := by simp [rowN, h]
theorem rowN_set {q : IntKind} {n i v : Nat} (f : Nat → Nat) : (rowN q n f).set i (.int q (.ofNat v)) = rowN q n (fup f i v) := by
  apply List.ext_getElem?
  intro j
  rw [List.getElem?_set]
  by_cases hj : j < n
  · rw [rowN_get _ hj, rowN_len]
    by_cases e : i = j
    · subst e; rw [rowN_get _ hj]; simp [fup, hj]
    · simp only [e, if_false]
      rw [rowN_get _ hj]
      simp [fup, show j ≠ i from fun h => e h.symm]
  · have e1 : (rowN q n (fup f i v))[j]? = none := List.getElem?_eq_none (by rw [rowN_len]; omega)
    have e2 : (rowN q n f)[j]? = none := List.getElem?_eq_none (by rw [rowN_len]; omega)
    rw [e1, rowN_len]
    by_cases e : i = j
    · subst e; simp [hj]
    · simp [e, e2]
/-- a Space's cells -/
def spL (f : Nat → Nat) (bl la : Nat) (c : Nat → Nat) : List AV := rowN .u8 8192 f ++ ([.int .i64 (.ofNat bl), .int .i64 (.ofNat la)] ++ rowN .i64 4 c)
theorem spL_len (f : Nat → Nat) (bl la : Nat) (c : Nat → Nat) : (spL f bl la c).length = 8198 := by simp [spL, rowN_len]
theorem spL_of {f : Nat → Nat} {bl la : Nat} {c : Nat → Nat} {i : Nat} (h : i < 8192) : (spL f bl la c)[i]? = some (.int .u8 (.ofNat (f i))) := by
  unfold spL
  rw [List.getElem?_append_left (by rw [rowN_len]; exact h), rowN_get _ h]
theorem spL_bl {f : Nat → Nat} {bl la : Nat} {c : Nat → Nat} : (spL f bl la c)[8192]? = some (.int .i64 (.ofNat bl)) := by
  unfold spL
  rw [List.getElem?_append_right (by rw [rowN_len]; omega), rowN_len]
  rfl
theorem spL_la {f : Nat → Nat} {bl la : Nat} {c : Nat → Nat} : (spL f bl la c)[8193]? = some (.int .i64 (.ofNat la)) := by
  unfold spL
  rw [List.getElem?_append_right (by rw [rowN_len]; omega), rowN_len]
  rfl
theorem spL_ct {f : Nat → Nat} {bl la : Nat} {c : Nat → Nat} {x : Nat} (h : x < 4) : (spL f bl la c)[8194 + x]? = some (.int .i64 (.ofNat (c x))) := by
  unfold spL
  rw [List.getElem?_append_right (by rw [rowN_len]; omega), rowN_len, List.getElem?_append_right (by simp; omega)]
  rw [show 8194 + x - 8192 - [AV.int .i64 (.ofNat bl), AV.int .i64 (.ofNat la)].length = x by simp; omega, rowN_get _ h]
theorem spL_sof {f : Nat → Nat} {bl la : Nat} {c : Nat → Nat} {i v : Nat} (h : i < 8192) : (spL f bl la c).set i (.int .u8 (.ofNat v)) = spL (fup f i v) bl la c := by
  unfold spL
  rw [List.set_append_left _ _ (by rw [rowN_len]; exact h), rowN_set]
theorem spL_sct {f : Nat → Nat} {bl la : Nat} {c : Nat → Nat} {x v : Nat} (h : x < 4) : (spL f bl la c).set (8194 + x) (.int .i64 (.ofNat v)) = spL f bl la (fup c x v) := by
  unfold spL
  rw [List.set_append_right _ _ (by rw [rowN_len]; omega), rowN_len, List.set_append_right _ _ (by simp; omega)]
  rw [show 8194 + x - 8192 - [AV.int .i64 (.ofNat bl), AV.int .i64 (.ofNat la)].length = x by simp; omega, rowN_set]
theorem spL_sct0 {f : Nat → Nat} {bl la : Nat} {c : Nat → Nat} {v : Nat} : (spL f bl la c).set 8194 (.int .i64 (.ofNat v)) = spL f bl la (fup c 0 v) := spL_sct (x := 0) (by omega)
theorem spL_sct1 {f : Nat → Nat} {bl la : Nat} {c : Nat → Nat} {v : Nat} : (spL f bl la c).set 8195 (.int .i64 (.ofNat v)) = spL f bl la (fup c 1 v) := spL_sct (x := 1) (by omega)
theorem spL_sct2 {f : Nat → Nat} {bl la : Nat} {c : Nat → Nat} {v : Nat} : (spL f bl la c).set 8196 (.int .i64 (.ofNat v)) = spL f bl la (fup c 2 v) := spL_sct (x := 2) (by omega)
theorem spL_sct3 {f : Nat → Nat} {bl la : Nat} {c : Nat → Nat} {v : Nat} : (spL f bl la c).set 8197 (.int .i64 (.ofNat v)) = spL f bl la (fup c 3 v) := spL_sct (x := 3) (by omega)
theorem spL_sla {f : Nat → Nat} {bl la : Nat} {c : Nat → Nat} {v : Nat} : (spL f bl la c).set 8193 (.int .i64 (.ofNat v)) = spL f bl v c := by
  unfold spL
  rw [List.set_append_right _ _ (by rw [rowN_len]; omega), rowN_len]
  rfl
end
end Go.Jt
