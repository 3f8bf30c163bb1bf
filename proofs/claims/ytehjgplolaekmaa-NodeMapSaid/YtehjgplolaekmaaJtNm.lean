/-
  NodeMap's argument, as three rows.
-/
import Derived.Test.YtehjgplolaekmaaJtSpace4
set_option autoImplicit false
set_option linter.all false
namespace Go.Jt
noncomputable section
variable [Gl]
def actG (j : Nat) : Kn := if j = 0 then .int .u8 else .str
theorem act_rows {Z : Fz} {v : AV} (h : (Kn.sl 3 actG).p Z v) : ∃ (n : Nat) (kd : Nat → Nat) (kk tt : Nat → List Nat), Fl Z 3 v ((List.range n).map fun i => [AV.int .u8 (.ofNat (kd i)), .str (kk i), .str (tt i)]) := by
  obtain ⟨n, F, h1, h2⟩ := sl_rows h
  have key : ∀ i, ∃ y : Nat × List Nat × List Nat, i < n → F i = [AV.int .u8 (.ofNat y.1), .str y.2.1, .str y.2.2] := by
    intro i
    by_cases hi : i < n
    · obtain ⟨hl, hf⟩ := h2 i hi
      obtain ⟨a, ha, z, rfl, hz, _⟩ := hf 0 (by omega)
      obtain ⟨b, hb, y, rfl, _⟩ := hf 1 (by omega)
      obtain ⟨c, hc, x, rfl, _⟩ := hf 2 (by omega)
      refine ⟨(z.toNat, y, x), fun _ => ?_⟩
      have hz0 : 0 ≤ z := by simpa [IntKind.min, IntKind.signed] using hz
      match hF : F i, hl with
      | [p, q, r], _ =>
        rw [hF] at ha hb hc
        simp at ha hb hc
        rw [ha, hb, hc]
        simp
        omega
    · exact ⟨(0, [], []), fun h => absurd h hi⟩
  obtain ⟨f, hf⟩ := Classical.axiomOfChoice key
  refine ⟨n, fun i => (f i).1, fun i => (f i).2.1, fun i => (f i).2.2, ?_⟩
  have : (List.range n).map F = (List.range n).map fun i => [AV.int .u8 (.ofNat (f i).1), .str (f i).2.1, .str (f i).2.2] := by
    apply List.map_congr_left
    intro i hi
    exact hf i (by simpa using hi)
  rw [← this]
  exact h1
end
end Go.Jt
