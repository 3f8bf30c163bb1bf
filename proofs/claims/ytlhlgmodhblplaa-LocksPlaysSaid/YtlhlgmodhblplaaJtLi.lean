/-
  LocksFair's argument: three rows, the third one of rows of wants.
-/
import Derived.Test.YtlhlgmodhblplaaJtSpace4
import Derived.Test.YtlhlgmodhblplaaJtLr
set_option autoImplicit false
set_option linter.all false
namespace Go.Jt
noncomputable section
variable [Gl]
def wantG (j : Nat) : Kn := if j = 0 then .int .i64 else .bool
def stepG (j : Nat) : Kn := if j = 0 then .int .u8 else if j = 1 then .int .i64 else .sl 2 wantG
theorem sl_wants {Z : Fz} {v : AV} (h : (Kn.sl 2 wantG).p Z v) : ∃ ws, Fl Z 2 v (wrow ws) := by
  obtain ⟨xs, h1, h2, _⟩ := h
  have key : ∀ xs : List (List AV), (∀ x ∈ xs, x.length = 2 ∧ ∀ j, j < 2 → ∃ a, x[j]? = some a ∧ (wantG j).p Z a) → ∃ ws, xs = wrow ws := by
    intro xs
    induction xs with
    | nil => intro _; exact ⟨[], rfl⟩
    | cons x xs ih =>
      intro h
      obtain ⟨ws, e⟩ := ih fun y hy => h y (List.mem_cons_of_mem _ hy)
      obtain ⟨hl, hx⟩ := h x List.mem_cons_self
      obtain ⟨a, ha, z, rfl, _⟩ := hx 0 (by omega)
      obtain ⟨b, hb, o, rfl⟩ := hx 1 (by omega)
      match x, hl with
      | [p, q], _ =>
        simp at ha hb
        subst ha hb
        exact ⟨(z, o) :: ws, by rw [e]; rfl⟩
  obtain ⟨ws, rfl⟩ := key xs h2
  exact ⟨ws, h1⟩
theorem step_rows {Z : Fz} {v : AV} (h : (Kn.sl 3 stepG).p Z v) : ∃ (n : Nat) (kd : Nat → Nat) (tk : Nat → Int) (lv : Nat → AV) (lw : Nat → List Wt), Fl Z 3 v ((List.range n).map fun i => [AV.int .u8 (.ofNat (kd i)), .int .i64 (tk i), lv i]) ∧ ∀ i, i < n → Fl Z 2 (lv i) (wrow (lw i)) := by
  obtain ⟨n, F, h1, h2⟩ := sl_rows h
  have key : ∀ i, ∃ y : Nat × Int × AV × List Wt, i < n → F i = [AV.int .u8 (.ofNat y.1), .int .i64 y.2.1, y.2.2.1] ∧ Fl Z 2 y.2.2.1 (wrow y.2.2.2) := by
    intro i
    by_cases hi : i < n
    · obtain ⟨hl, hf⟩ := h2 i hi
      obtain ⟨a, ha, z, rfl, hz, _⟩ := hf 0 (by omega)
      obtain ⟨b, hb, y, rfl, _⟩ := hf 1 (by omega)
      obtain ⟨c, hc, hw⟩ := hf 2 (by omega)
      obtain ⟨ws, hw⟩ := sl_wants hw
      refine ⟨(z.toNat, y, c, ws), fun _ => ⟨?_, hw⟩⟩
      have hz0 : 0 ≤ z := by simpa [IntKind.min, IntKind.signed] using hz
      match hF : F i, hl with
      | [p, q, r], _ =>
        rw [hF] at ha hb hc
        simp at ha hb hc
        rw [ha, hb, hc]
        simp
        omega
    · exact ⟨(0, 0, .nils, []), fun h => absurd h hi⟩
  obtain ⟨f, hf⟩ := Classical.axiomOfChoice key
  refine ⟨n, fun i => (f i).1, fun i => (f i).2.1, fun i => (f i).2.2.1, fun i => (f i).2.2.2, ?_, fun i hi => (hf i hi).2⟩
  have : (List.range n).map F = (List.range n).map fun i => [AV.int .u8 (.ofNat (f i).1), .int .i64 (f i).2.1, (f i).2.2.1] := by
    apply List.map_congr_left
    intro i hi
    exact (hf i (by simpa using hi)).1
  rw [← this]
  exact h1
end
end Go.Jt
