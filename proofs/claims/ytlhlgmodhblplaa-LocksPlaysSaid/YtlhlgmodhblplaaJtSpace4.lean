/-
  SpaceOnce's second argument, as two rows of numbers.
-/
import Derived.Test.YtlhlgmodhblplaaJtArg
set_option autoImplicit false
set_option linter.all false
namespace Go.Jt
noncomputable section
variable [Gl]
theorem sl_rows {Z : Fz} {es : Nat} {G : Nat → Kn} {v : AV} (h : (Kn.sl es G).p Z v) : ∃ (n : Nat) (F : Nat → List AV), Fl Z es v ((List.range n).map F) ∧ ∀ i, i < n → (F i).length = es ∧ ∀ j, j < es → ∃ a, (F i)[j]? = some a ∧ (G j).p Z a := by
  obtain ⟨xs, h1, h2, _⟩ := h
  have e : xs = (List.range xs.length).map fun i => xs.getD i [] := by
    apply List.ext_getElem?
    intro i
    by_cases hi : i < xs.length
    · simp [hi]
    · rw [List.getElem?_eq_none (by omega), List.getElem?_eq_none (by simp; omega)]
  refine ⟨xs.length, fun i => xs.getD i [], by rw [← e]; exact h1, fun i hi => ?_⟩
  have : xs.getD i [] = xs[i] := by simp [hi]
  show (xs.getD i []).length = es ∧ ∀ j, j < es → ∃ a, (xs.getD i [])[j]? = some a ∧ (G j).p Z a
  rw [this]
  exact h2 _ (List.getElem_mem hi)
def opG (j : Nat) : Kn := if j = 0 then .int .u8 else .int .i64
theorem op_rows {Z : Fz} {v : AV} (h : (Kn.sl 2 opG).p Z v) : ∃ (n : Nat) (kd : Nat → Nat) (nn : Nat → Int), Fl Z 2 v ((List.range n).map fun i => [AV.int .u8 (.ofNat (kd i)), .int .i64 (nn i)]) := by
  obtain ⟨n, F, h1, h2⟩ := sl_rows h
  have key : ∀ i, ∃ y : Nat × Int, i < n → F i = [AV.int .u8 (.ofNat y.1), .int .i64 y.2] := by
    intro i
    by_cases hi : i < n
    · obtain ⟨hl, hf⟩ := h2 i hi
      obtain ⟨a, ha, z, rfl, hz, _⟩ := hf 0 (by omega)
      obtain ⟨b, hb, y, rfl, _⟩ := hf 1 (by omega)
      refine ⟨(z.toNat, y), fun _ => ?_⟩
      have hz0 : 0 ≤ z := by simpa [IntKind.min, IntKind.signed] using hz
      match hF : F i, hl with
      | [p, q], _ =>
        rw [hF] at ha hb
        simp at ha hb
        rw [ha, hb]
        simp
        omega
    · exact ⟨(0, 0), fun h => absurd h hi⟩
  obtain ⟨f, hf⟩ := Classical.axiomOfChoice key
  refine ⟨n, fun i => (f i).1, fun i => (f i).2, ?_⟩
  have : (List.range n).map F = (List.range n).map fun i => [AV.int .u8 (.ofNat (f i).1), .int .i64 (f i).2] := by
    apply List.map_congr_left
    intro i hi
    exact hf i (by simpa using hi)
  rw [← this]
  exact h1
end
end Go.Jt
