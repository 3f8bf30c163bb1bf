/-
  The document's table, its row in memory of its own.
-/
import Derived.Test.YtlhlgmodhblplaaJtDs
set_option autoImplicit false
set_option linter.all false
set_option maxHeartbeats 2000000
namespace Go.Jt
noncomputable section
variable [Gl]
section
variable [LpN] [LfN] [LkN] {tbl : Nat → Option FT} {x i : Nat} {D : List Dk} {rv : AV} {rl : List Hl} {n : Int} {N d : Nat} {Z : Fz} {F : List Hl} {H : AH}
theorem d_lend (hs : Sat H Z (rl ++ F)) (ho : Own 2 rv D.length (dC D) rl) : ∃ Z' : Fz, Z.le Z' ∧ Sat H Z' F ∧ Fl Z' 2 rv (ddr D) ∧ ∀ (H' : AH) {F' : List Hl}, Sat H' Z' F' → Sat H' Z (rl ++ F') :=
  own_lend (xs := ddr D) ddr_two hs ho (ddr_len D)
theorem datY_own (T : LpT tbl) (hd : 1 ≤ d) (hs : Sat H Z (rl ++ F)) (ho : Own 2 rv D.length (dC D) rl) (hx : Hl.cells x [rv] ∈ F) (hD : DOk Z D) (hl : D.length ≤ 1000) (hN : 2000 < N) (hi : i < D.length) (he : (dkAt D i).n = n) (hno : ∀ j, j < i → ¬ (dkAt D j).n = n) :
    Ct (RUN tbl N d) (.fn (.fn (.func LpN.dat)) [] []) [.ptr x 0, .int .i64 n] H fun v H' => v = .int .i64 (.ofNat i) ∧ Sat H' Z (rl ++ F) := by
  obtain ⟨Z', l, s, f, g⟩ := d_lend hs ho
  exact (datY_ok T hd s hx f (hD.mono l) hl hN hi he hno).imp fun v H' ⟨e, s⟩ => ⟨e, g _ s⟩
theorem datN_own (T : LpT tbl) (hd : 1 ≤ d) (hs : Sat H Z (rl ++ F)) (ho : Own 2 rv D.length (dC D) rl) (hx : Hl.cells x [rv] ∈ F) (hD : DOk Z D) (hl : D.length ≤ 1000) (hN : 2000 < N) (hno : ∀ j, j < D.length → ¬ (dkAt D j).n = n) :
    Ct (RUN tbl N d) (.fn (.fn (.func LpN.dat)) [] []) [.ptr x 0, .int .i64 n] H fun v H' => v = .int .i64 (-1) ∧ Sat H' Z (rl ++ F) := by
  obtain ⟨Z', l, s, f, g⟩ := d_lend hs ho
  exact (datN_ok T hd s hx f (hD.mono l) hl hN hno).imp fun v H' ⟨e, s⟩ => ⟨e, g _ s⟩
theorem dmay_own (T : LpT tbl) (TK : LkT tbl) (TL : LfT tbl) (hd : 2 ≤ d) (hs : Sat H Z (rl ++ F)) (ho : Own 2 rv D.length (dC D) rl) (hx : Hl.cells x [rv] ∈ F) (hD : DOk Z D) (hl : D.length ≤ 1000) (hN : 2000 < N) (hi : i < D.length) :
    Ct (RUN tbl N d) (.fn (.fn (.func LpN.dmay)) [] []) [.ptr x 0, .int .i64 (.ofNat i)] H fun v H' => v = .bool (dB (FreeD D i)) ∧ Sat H' Z (rl ++ F) := by
  obtain ⟨Z', l, s, f, g⟩ := d_lend hs ho
  exact (dmay_ok T TK TL hd s hx f (hD.mono l) hl hN hi).imp fun v H' ⟨e, s⟩ => ⟨e, g _ s⟩
theorem dhasY_own (T : LpT tbl) (TK : LkT tbl) (TL : LfT tbl) (hd : 4 ≤ d) (hs : Sat H Z (rl ++ F)) (ho : Own 2 rv D.length (dC D) rl) (hx : Hl.cells x [rv] ∈ F) (hD : DOk Z D) (hl : D.length ≤ 1000) (hN : 2000 < N) (hi : i < D.length) (he : (dkAt D i).n = n) (hno : ∀ j, j < i → ¬ (dkAt D j).n = n) :
    Ct (RUN tbl N d) (.fn (.fn (.func LpN.dhas)) [] []) [.ptr x 0, .int .i64 n] H fun v H' => v = .bool (dB (FreeD D i)) ∧ Sat H' Z (rl ++ F) := by
  obtain ⟨Z', l, s, f, g⟩ := d_lend hs ho
  exact (dhasY_ok T TK TL hd s hx f (hD.mono l) hl hN hi he hno).imp fun v H' ⟨e, s⟩ => ⟨e, g _ s⟩
theorem dhasN_own (T : LpT tbl) (TK : LkT tbl) (TL : LfT tbl) (hd : 4 ≤ d) (hs : Sat H Z (rl ++ F)) (ho : Own 2 rv D.length (dC D) rl) (hx : Hl.cells x [rv] ∈ F) (hD : DOk Z D) (hl : D.length ≤ 1000) (hN : 2000 < N) (hno : ∀ j, j < D.length → ¬ (dkAt D j).n = n) :
    Ct (RUN tbl N d) (.fn (.fn (.func LpN.dhas)) [] []) [.ptr x 0, .int .i64 n] H fun v H' => v = .bool false ∧ Sat H' Z (rl ++ F) := by
  obtain ⟨Z', l, s, f, g⟩ := d_lend hs ho
  exact (dhasN_ok T TK TL hd s hx f (hD.mono l) hl hN hno).imp fun v H' ⟨e, s⟩ => ⟨e, g _ s⟩
theorem drow_own (T : LpT tbl) (hd : 1 ≤ d) (hs : Sat H Z (rl ++ F)) (ho : Own 2 rv D.length (dC D) rl) (hx : Hl.cells x [rv] ∈ F) (hD : DOk Z D) (hl : D.length ≤ 1000) (hN : 2000 < N) :
    Ct (RUN tbl N d) (.fn (.fn (.func LpN.drow)) [] []) [.ptr x 0] H fun v H' => ∃ ol, Own 1 v D.length (D.map fun x => .int .i64 x.n) ol ∧ Sat H' Z (rl ++ (ol ++ F)) := by
  obtain ⟨Z', l, s, f, g⟩ := d_lend hs ho
  exact (drow_ok T hd s hx f (hD.mono l) hl hN).imp fun v H' ⟨ol, e, s⟩ => ⟨ol, e, g _ s⟩
end
theorem own_dsnoc {D : List Dk} {x : Dk} {v : AV} {hl : List Hl} (h : Own 2 v (D.length + 1) (dC D ++ x.C) hl) : Own 2 v (D ++ [x]).length (dC (D ++ [x])) hl := by
  rw [dC_app, List.length_append]
  have e : dC [x] = x.C := by simp [dC, ddr]
  rw [e]
  exact h
theorem own_dcut {D : List Dk} {j : Nat} {v : AV} {hl : List Hl} (h : Own 2 v ((win (ddr D) 0 j).length + (win (ddr D) (j + 1) (ddr D).length).length) ((win (ddr D) 0 j).flatten ++ (win (ddr D) (j + 1) (ddr D).length).flatten) hl) : Own 2 v (D.take j ++ D.drop (j + 1)).length (dC (D.take j ++ D.drop (j + 1))) hl := by
  have e1 : win (ddr D) 0 j = ddr (D.take j) := by simp [win, ddr, List.map_take]
  have e2 : win (ddr D) (j + 1) (ddr D).length = ddr (D.drop (j + 1)) := by
    unfold win
    rw [List.take_of_length_le (by simp)]
    simp [ddr, List.map_drop]
  rw [e1, e2, ddr_len, ddr_len] at h
  rw [dC_app, List.length_append]
  exact h
theorem win4_le (D : List Dk) (i j : Nat) : (win (ddr D) i j).length ≤ D.length := by
  have := win_le (l := ddr D) (i := i) (j := j)
  rwa [ddr_len] at this
/-- those that have their wants by it, as the document tells it -/
theorem outs_zero {R : List Tk} {i : Nat} (hi : i < R.length) (hf : ∀ k, k < R.length → ((tkAt R k).has = true ↔ FreeT R k)) : outs (R.take i ++ R.drop (i + 1)) i = [] := by
  have key : ∀ j, j ≤ i → outs (R.take i ++ R.drop (i + 1)) j = [] := by
    intro j
    induction j with
    | zero => intro _; rfl
    | succ j ih =>
      intro hj
      unfold outs
      rw [if_neg, ih (by omega)]
      rintro ⟨h1, h2⟩
      have e : ∀ q, q < i → tkAt (R.take i ++ R.drop (i + 1)) q = tkAt R q := fun q hq => by rw [tkAt_cut hi, if_pos hq]
      rw [e j (by omega)] at h1
      have : FreeT R j := fun q hq => by
        have := h2 q hq
        rwa [e q (by omega), e j (by omega)] at this
      rw [(hf j (by omega)).2 this] at h1
      cases h1
  exact key i (Nat.le_refl _)
theorem gets_iff {R : List Tk} {D : List Dk} {i k : Nat} (hm : Mt R D) (hi : i < R.length) (hf : ∀ k, k < R.length → ((tkAt R k).has = true ↔ FreeT R k)) (hk : i ≤ k) (hk2 : k + 1 < R.length) : gets (R.take i ++ R.drop (i + 1)) k ↔ ¬ FreeD D (k + 1) ∧ FreeD (D.take i ++ D.drop (i + 1)) k := by
  rw [hm.free hk2, (hm.cut hi).free (by rw [cut_len hi]; omega)]
  unfold gets
  rw [tkAt_cut hi, if_neg (by omega), ← hf (k + 1) hk2]
  cases (tkAt R (k + 1)).has <;> simp
theorem outs_step {C : List Tk} {k : Nat} (h : gets C k) : outs C (k + 1) = outs C k ++ [(tkAt C k).n] := by
  conv => lhs; unfold outs
  rw [if_pos h]
theorem outs_stay {C : List Tk} {k : Nat} (h : ¬ gets C k) : outs C (k + 1) = outs C k := by
  conv => lhs; unfold outs
  rw [if_neg h]
def hadL (D : List Dk) (k : Nat) : List AV := (List.range k).map fun q => AV.bool (dB (FreeD D q))
theorem hadL_step (D : List Dk) (k : Nat) : hadL D (k + 1) = hadL D k ++ [.bool (dB (FreeD D k))] := by
  simp [hadL, List.range_succ]
theorem hadL_get {D : List Dk} {k q : Nat} (h : q < k) : (hadL D k)[q * 1]? = some (.bool (dB (FreeD D q))) := by simp [hadL, h]
theorem dC_get {D : List Dk} {k : Nat} (hk : k < D.length) : (dC D)[k * 2 + 0]? = some (.int .i64 (dkAt D k).n) := by
  have key : ∀ (D : List Dk) (k : Nat), k < D.length → (dC D)[k * 2]? = some (.int .i64 (dkAt D k).n) := by
    intro D
    induction D with
    | nil => intro k h; simp at h
    | cons x D ih =>
      intro k h
      have e : dC (x :: D) = .int .i64 x.n :: x.v :: dC D := by simp [dC, ddr, Dk.C]
      rw [e]
      cases k with
      | zero => rfl
      | succ k =>
        rw [show (k + 1) * 2 = k * 2 + 1 + 1 by omega, List.getElem?_cons_succ, List.getElem?_cons_succ, ih k (by simpa using h)]
        simp [dkAt]
  exact key D k hk
end
end Go.Jt
