/-
  The document's row of tasks.
-/
import Derived.Test.YtlhlgmodhblplaaJtLh
set_option autoImplicit false
set_option linter.all false
set_option maxHeartbeats 2000000
namespace Go.Jt
noncomputable section
variable [Gl]
structure Dk where
  n : Int
  v : AV
  ws : List Wt
def Dk.C (x : Dk) : List AV := [.int .i64 x.n, x.v]
def ddr (D : List Dk) : List (List AV) := D.map Dk.C
def dC (D : List Dk) : List AV := (ddr D).flatten
def dkAt (D : List Dk) (k : Nat) : Dk := D.getD k ⟨0, .nils, []⟩
theorem ddr_len (D : List Dk) : (ddr D).length = D.length := by simp [ddr]
theorem ddr_two {D : List Dk} : ∀ x ∈ ddr D, x.length = 2 := by
  intro x hx
  obtain ⟨w, _, rfl⟩ := List.mem_map.1 hx
  rfl
theorem dkAt_get {D : List Dk} {k : Nat} (h : k < D.length) : D[k]? = some (dkAt D k) := by simp [dkAt, h]
theorem ddr_get {D : List Dk} {k : Nat} (h : k < D.length) : (ddr D)[k]? = some [.int .i64 (dkAt D k).n, (dkAt D k).v] := by simp [ddr, dkAt_get h, Dk.C]
theorem dC_app (a b : List Dk) : dC (a ++ b) = dC a ++ dC b := by simp [dC, ddr]
theorem dkAt_left {D x : List Dk} {j : Nat} (h : j < D.length) : dkAt (D ++ x) j = dkAt D j := by
  unfold dkAt
  rw [List.getD_eq_getElem?_getD, List.getD_eq_getElem?_getD, List.getElem?_append_left h]
theorem dkAt_last (D : List Dk) (x : Dk) : dkAt (D ++ [x]) D.length = x := by simp [dkAt]
theorem dkAt_cut {D : List Dk} {i : Nat} (hi : i < D.length) (q : Nat) : dkAt (D.take i ++ D.drop (i + 1)) q = if q < i then dkAt D q else dkAt D (q + 1) := by
  unfold dkAt
  rw [List.getD_eq_getElem?_getD, List.getElem?_append]
  have hl : (D.take i).length = i := by simp; omega
  rw [hl]
  by_cases h : q < i
  · rw [if_pos h, if_pos h, List.getElem?_take_of_lt h, List.getD_eq_getElem?_getD]
  · rw [if_neg h, if_neg h, List.getElem?_drop, show i + 1 + (q - i) = q + 1 by omega, List.getD_eq_getElem?_getD]
def DOk (Z : Fz) (D : List Dk) : Prop := ∀ k, k < D.length → Fl Z 2 (dkAt D k).v (wrow (dkAt D k).ws) ∧ (dkAt D k).ws.length ≤ 50
theorem DOk.mono {Z Z' : Fz} {D : List Dk} (h : DOk Z D) (hl : Z.le Z') : DOk Z' D := fun k hk => ⟨(h k hk).1.mono hl, (h k hk).2⟩
theorem DOk.nil (Z : Fz) : DOk Z [] := fun k hk => by simp at hk
theorem DOk.snoc {Z : Fz} {D : List Dk} {x : Dk} (h : DOk Z D) (hf : Fl Z 2 x.v (wrow x.ws)) (hl : x.ws.length ≤ 50) : DOk Z (D ++ [x]) := by
  intro k hk
  by_cases h1 : k < D.length
  · rw [dkAt_left h1]; exact h k h1
  · have : k = D.length := by simp at hk; omega
    subst this
    rw [dkAt_last]
    exact ⟨hf, hl⟩
theorem DOk.cut {Z : Fz} {D : List Dk} {i : Nat} (h : DOk Z D) (hi : i < D.length) : DOk Z (D.take i ++ D.drop (i + 1)) := by
  intro k hk
  have : (D.take i ++ D.drop (i + 1)).length = D.length - 1 := by simp; omega
  rw [dkAt_cut hi]
  split <;> exact h _ (by omega)
/-- nobody ahead clashes -/
def FreeD (D : List Dk) (i : Nat) : Prop := ∀ j, j < i → ¬ CC (dkAt D j).ws (dkAt D i).ws
/-- the program's row and the document's -/
structure Mt (R : List Tk) (D : List Dk) : Prop where
  len : D.length = R.length
  n : ∀ k, k < R.length → (dkAt D k).n = (tkAt R k).n
  ws : ∀ k, k < R.length → (dkAt D k).ws = (tkAt R k).ws
theorem Mt.free {R : List Tk} {D : List Dk} (h : Mt R D) {i : Nat} (hi : i < R.length) : FreeD D i ↔ FreeT R i := by
  unfold FreeD FreeT
  exact ⟨fun hh j hj => by have := hh j hj; rwa [h.ws j (by omega), h.ws i hi] at this, fun hh j hj => by rw [h.ws j (by omega), h.ws i hi]; exact hh j hj⟩
theorem Mt.nil : Mt [] [] := ⟨rfl, fun k hk => by simp at hk, fun k hk => by simp at hk⟩
theorem Mt.ask {R : List Tk} {D : List Dk} (h : Mt R D) {b : Nat} {n : Int} {v v' : AV} {ws : List Wt} {o : Bool} : Mt (R ++ [⟨b, n, v, ws, o⟩]) (D ++ [⟨n, v', ws⟩]) := by
  have hl := h.len
  have key : ∀ k, k < (R ++ [(⟨b, n, v, ws, o⟩ : Tk)]).length → k < R.length ∨ k = R.length := fun k hk => by simp at hk; omega
  refine ⟨by simp [hl], fun k hk => ?_, fun k hk => ?_⟩
  · rcases key k hk with h1 | h1
    · rw [tkAt_left h1, dkAt_left (by omega)]; exact h.n k h1
    · subst h1; rw [tkAt_last, ← hl, dkAt_last]
  · rcases key k hk with h1 | h1
    · rw [tkAt_left h1, dkAt_left (by omega)]; exact h.ws k h1
    · subst h1; rw [tkAt_last, ← hl, dkAt_last]
theorem Mt.cut {R : List Tk} {D : List Dk} (h : Mt R D) {i : Nat} (hi : i < R.length) : Mt (R.take i ++ R.drop (i + 1)) (D.take i ++ D.drop (i + 1)) := by
  have hl := h.len
  refine ⟨by rw [cut_len hi]; simp; omega, fun k hk => ?_, fun k hk => ?_⟩ <;> rw [cut_len hi] at hk <;> rw [tkAt_cut hi, dkAt_cut (by omega)] <;> split
  · exact h.n _ (by omega)
  · exact h.n _ (by omega)
  · exact h.ws _ (by omega)
  · exact h.ws _ (by omega)
theorem Mt.prom {R : List Tk} {D : List Dk} (h : Mt R D) {j : Nat} (hj : j ≤ R.length) : Mt (prom R j) D := by
  refine ⟨by rw [prom_len]; exact h.len, fun k hk => ?_, fun k hk => ?_⟩ <;> rw [prom_len] at hk
  · rw [(prom_at R j hj k).2.1]; exact h.n k hk
  · rw [(prom_at R j hj k).2.2.2.1]; exact h.ws k hk
theorem txD_take {D : List Dk} {j : Nat} (h : j < D.length) : (D.take (j + 1)).map (fun x => AV.int .i64 x.n) = (D.take j).map (fun x => AV.int .i64 x.n) ++ [.int .i64 (dkAt D j).n] := by
  rw [List.take_succ, dkAt_get h]
  simp
theorem Mt.nums {R : List Tk} {D : List Dk} (h : Mt R D) : (D.map fun x => x.n) = R.map fun x => x.n := by
  apply List.ext_getElem?
  intro k
  by_cases hk : k < R.length
  · rw [List.getElem?_map, List.getElem?_map, dkAt_get (by rw [h.len]; exact hk), tkAt_get hk]
    show some (dkAt D k).n = some (tkAt R k).n
    rw [h.n k hk]
  · rw [List.getElem?_eq_none (by simp; have := h.len; omega), List.getElem?_eq_none (by simp; omega)]
end
end Go.Jt
