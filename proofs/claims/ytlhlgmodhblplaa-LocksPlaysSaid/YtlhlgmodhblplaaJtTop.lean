/-
  A call without arguments whose abstract run ends in true: the model's call hands back true, and leaves all as it was.
-/
import Derived.Test.YtlhlgmodhblplaaJtDrawA
set_option autoImplicit false
set_option linter.all false
namespace Go.Jt
open Go.RowKit (Below)
noncomputable section
variable [Gl]

/-- the functions of a program, by their code -/
def tblC (P : Program) (f : Nat) : Option FT := match compF P f with
  | some (.code c) => some (.code c)
  | _ => none
theorem tblC_sound (P : Program) : TblS P (tblC P) := fun f t h => by
  unfold tblC at h
  split at h
  · rename_i c hc; cases h; exact hc
  · cases h
/-- and with the library's copy of a map -/
def tblM (P : Program) (cid f : Nat) : Option FT := cond (Nat.beq f cid) (some .clone) (tblC P f)
theorem tblM_sound {P : Program} {cid : Nat} (h : CloneOK P cid) : TblS P (tblM P cid) := fun f t hf => by
  unfold tblM at hf
  cases hb : Nat.beq f cid with
  | true =>
    rw [hb] at hf
    cases hf
    rw [Nat.eq_of_beq_eq_true hb]
    exact h
  | false => rw [hb] at hf; exact tblC_sound P f t hf
theorem HR_empty (P : Program) (w : World) (hg : GlOK w.heap.size w) : HR P w.heap.size (fun _ => none) ⟨.lf, 0⟩ w :=
  have nb : ∀ b, (⟨.lf, 0⟩ : AH).get b = none := fun b => T.get_lf b
  ⟨fun _ _ => rfl, fun b o h => (by rw [nb] at h; cases h), fun b L h => (by cases h), fun b b' o o' L L' h => (by rw [nb] at h; cases h), fun b o L h => (by rw [nb] at h; cases h), Nat.le_refl _, hg⟩
theorem closed_law {P : Program} {tbl : Nat → Option FT} (hm : P.follows .mixedOrders = true) (ht : TblS P tbl) {N f F : Nat} {c : FnIR} (hc : compF P F = some (.code c)) (htF : tbl F = some (.code c))
    (h : RUN tbl N (f + 1) (.fn (.fn (.func F)) [] []) [] ⟨.lf, 0⟩ (fun v _ => same v (.bool true)) = true) (w : World) (hg : GlOK w.heap.size w) :
    Calls P F #[] w fun e w' => e = .returned (.bool true) ∧ Below w.heap.size w w' := by
  have hcl := RUN_sound (N := N) ht (fun cl hcl => dreg_sound hm hcl) f
  have h' : callF tbl (RUN tbl N f) N F ([] ++ [] ++ []) ⟨.lf, 0⟩ (fun v _ => same v (.bool true)) = true := h
  unfold callF at h'
  rw [htF] at h'
  have hend := code_sound (w := w) (cargs := #[]) (args := []) (k := fun v _ => same v (.bool true)) (N := N) hcl (dreg_sound hm hcl) hc (HR_empty P w hg) ⟨rfl, fun i => .undef _⟩ h'
  refine callsIn_wide.1 (CallsIn.mono hend ?_)
  intro e w' hend
  obtain ⟨cv, v, H', ι', rfl, hnx, hv, hk⟩ := hend
  have := same_eq hk
  subst this
  rw [hv.bool_inv]
  exact ⟨rfl, hnx.below⟩
def isCode (P : Program) (F : Nat) : Bool := match compF P F with
  | some (.code _) => true
  | _ => false
theorem isCode_inv {P : Program} {F : Nat} (h : isCode P F = true) : ∃ c, compF P F = some (.code c) ∧ tblC P F = some (.code c) := by
  unfold isCode at h
  split at h
  · rename_i c hc
    exact ⟨c, hc, by simp [tblC, hc]⟩
  · cases h
theorem closed_lawC {P : Program} (hm : P.follows .mixedOrders = true) {N f F : Nat} (hF : isCode P F = true)
    (h : RUN (tblC P) N (f + 1) (.fn (.fn (.func F)) [] []) [] ⟨.lf, 0⟩ (fun v _ => same v (.bool true)) = true) (w : World) (hg : GlOK w.heap.size w) :
    Calls P F #[] w fun e w' => e = .returned (.bool true) ∧ Below w.heap.size w w' := by
  obtain ⟨c, h1, h2⟩ := isCode_inv hF
  exact closed_law hm (tblC_sound P) h1 h2 h w hg
theorem closed_lawM {P : Program} (hm : P.follows .mixedOrders = true) {N f F cid : Nat} (hcl : CloneOK P cid) (hF : isCode P F = true) (hne : Nat.beq F cid = false)
    (h : RUN (tblM P cid) N (f + 1) (.fn (.fn (.func F)) [] []) [] ⟨.lf, 0⟩ (fun v _ => same v (.bool true)) = true) (w : World) (hg : GlOK w.heap.size w) :
    Calls P F #[] w fun e w' => e = .returned (.bool true) ∧ Below w.heap.size w w' := by
  obtain ⟨c, h1, h2⟩ := isCode_inv hF
  exact closed_law hm (tblM_sound hcl) h1 (by unfold tblM; rw [hne]; exact h2) h w hg
end
end Go.Jt
