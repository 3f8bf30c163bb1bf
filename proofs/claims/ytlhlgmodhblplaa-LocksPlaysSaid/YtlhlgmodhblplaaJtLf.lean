/-
  Plain law of LocksFair: the row that the law keeps beside the table.
-/
import Derived.Test.YtlhlgmodhblplaaJtLd
set_option autoImplicit false
set_option linter.all false
set_option maxHeartbeats 2000000
namespace Go.Jt
noncomputable section
variable [Gl]
/-- one that the law knows to stand -/
structure Sd where
  n : Int
  v : AV
  ws : List Wt
  has : Bool
def Sd.C (x : Sd) : List AV := [.int .i64 x.n, x.v, .bool x.has]
def sdr (S : List Sd) : List (List AV) := S.map Sd.C
def sdC (S : List Sd) : List AV := (sdr S).flatten
def sdAt (S : List Sd) (k : Nat) : Sd := S.getD k ⟨0, .nils, [], false⟩
theorem sdr_len (S : List Sd) : (sdr S).length = S.length := by simp [sdr]
theorem sdr_three {S : List Sd} : ∀ x ∈ sdr S, x.length = 3 := by
  intro x hx
  obtain ⟨w, _, rfl⟩ := List.mem_map.1 hx
  rfl
theorem sdAt_get {S : List Sd} {k : Nat} (h : k < S.length) : S[k]? = some (sdAt S k) := by simp [sdAt, h]
theorem sd_split {S : List Sd} {k : Nat} (h : k < S.length) : S = S.take k ++ sdAt S k :: S.drop (k + 1) := by
  have e : sdAt S k = S[k] := by simp [sdAt, h]
  rw [e, ← List.drop_eq_getElem_cons h, List.take_append_drop]
theorem sdAt_left {S x : List Sd} {j : Nat} (h : j < S.length) : sdAt (S ++ x) j = sdAt S j := by
  unfold sdAt
  rw [List.getD_eq_getElem?_getD, List.getD_eq_getElem?_getD, List.getElem?_append_left h]
theorem sdAt_last (S : List Sd) (x : Sd) : sdAt (S ++ [x]) S.length = x := by simp [sdAt]
theorem sdAt_cut {S : List Sd} {i : Nat} (hi : i < S.length) (q : Nat) : sdAt (S.take i ++ S.drop (i + 1)) q = if q < i then sdAt S q else sdAt S (q + 1) := by
  unfold sdAt
  rw [List.getD_eq_getElem?_getD, List.getElem?_append]
  have hl : (S.take i).length = i := by simp; omega
  rw [hl]
  by_cases h : q < i
  · rw [if_pos h, if_pos h, List.getElem?_take_of_lt h, List.getD_eq_getElem?_getD]
  · rw [if_neg h, if_neg h, List.getElem?_drop, show i + 1 + (q - i) = q + 1 by omega, List.getD_eq_getElem?_getD]
theorem sdC_app (a b : List Sd) : sdC (a ++ b) = sdC a ++ sdC b := by simp [sdC, sdr]
theorem sdC_len (S : List Sd) : (sdC S).length = S.length * 3 := by
  induction S with
  | nil => rfl
  | cons x S ih => show (x.C ++ sdC S).length = _; rw [List.length_append, ih]; simp [Sd.C]; omega
theorem sdC_get {S : List Sd} {k : Nat} (hk : k < S.length) (c : Nat) (hc : c < 3) : (sdC S)[k * 3 + c]? = ((sdAt S k).C)[c]? := by
  have e := sd_split hk
  have e2 : sdC S = sdC (S.take k) ++ ((sdAt S k).C ++ sdC (S.drop (k + 1))) := by
    have : sdC S = sdC (S.take k ++ sdAt S k :: S.drop (k + 1)) := by rw [← e]
    rw [this, sdC_app]
    rfl
  rw [e2, List.getElem?_append_right (by rw [sdC_len]; simp; omega), sdC_len]
  have hl : (S.take k).length = k := by simp; omega
  rw [hl, show k * 3 + c - k * 3 = c by omega, List.getElem?_append_left (by simp [Sd.C]; omega)]
def setSd (S : List Sd) (k : Nat) (b : Bool) : List Sd := S.set k { sdAt S k with has := b }
theorem setSd_at {S : List Sd} {k : Nat} (hk : k < S.length) (b : Bool) (q : Nat) : sdAt (setSd S k b) q = if q = k then { sdAt S k with has := b } else sdAt S q := by
  unfold setSd
  by_cases h : q = k
  · subst h
    rw [if_pos rfl]
    conv => lhs; unfold sdAt
    rw [List.getD_eq_getElem?_getD, List.getElem?_set_self hk]
    rfl
  · rw [if_neg h]
    unfold sdAt
    rw [List.getD_eq_getElem?_getD, List.getElem?_set_ne (fun e => h e.symm), List.getD_eq_getElem?_getD]
theorem setSd_len (S : List Sd) (k : Nat) (b : Bool) : (setSd S k b).length = S.length := by simp [setSd]
theorem sdC_set {S : List Sd} {k : Nat} (hk : k < S.length) (b : Bool) : sdC (setSd S k b) = (sdC S).set (k * 3 + 2) (.bool b) := by
  apply List.ext_getElem?
  intro q
  by_cases hq : q < S.length * 3
  · have hd : q / 3 < S.length := Nat.div_lt_of_lt_mul (by rw [Nat.mul_comm]; exact hq)
    have hm : q % 3 < 3 := Nat.mod_lt _ (by decide)
    have e : q = q / 3 * 3 + q % 3 := by omega
    have h1 := sdC_get (S := setSd S k b) (k := q / 3) (by rw [setSd_len]; exact hd) (q % 3) hm
    have h2 := sdC_get (S := S) (k := q / 3) hd (q % 3) hm
    rw [← e] at h1 h2
    rw [h1, setSd_at hk]
    by_cases hqk : q / 3 = k
    · rw [if_pos hqk]
      by_cases hc : q % 3 = 2
      · have hq2 : q = k * 3 + 2 := by omega
        rw [hq2, List.getElem?_set_self (by rw [sdC_len]; omega), show (k * 3 + 2) % 3 = 2 by omega]
        rfl
      · rw [List.getElem?_set_ne (by omega), h2, hqk]
        have : q % 3 = 0 ∨ q % 3 = 1 := by omega
        rcases this with h | h <;> rw [h] <;> rfl
    · rw [if_neg hqk, List.getElem?_set_ne (by omega), h2]
  · rw [List.getElem?_eq_none (by rw [sdC_len, setSd_len]; omega), List.getElem?_eq_none (by simp [sdC_len]; omega)]
/-- the table and the law's row -/
structure Fair (R : List Tk) (S : List Sd) : Prop where
  len : S.length = R.length
  n : ∀ k, k < R.length → (sdAt S k).n = (tkAt R k).n
  ws : ∀ k, k < R.length → (sdAt S k).ws = (tkAt R k).ws
  fr : ∀ k, k < R.length → ((tkAt R k).has = true ↔ FreeT R k)
  dis : ∀ j k, j < R.length → k < R.length → j ≠ k → ¬ (tkAt R j).n = (tkAt R k).n
  up : ∀ k, k < R.length → (sdAt S k).has = true → (tkAt R k).has = true
/-- and that the law knows who has its wants -/
def Known (R : List Tk) (S : List Sd) : Prop := ∀ k, k < R.length → (sdAt S k).has = (tkAt R k).has
section
variable {R : List Tk} {S : List Sd}
theorem Fair.nil : Fair [] [] := ⟨rfl, fun k h => by simp at h, fun k h => by simp at h, fun k h => by simp at h, fun j k h => by simp at h, fun k h => by simp at h⟩
theorem freeT_left {x : List Tk} {k : Nat} (hk : k < R.length) : FreeT (R ++ x) k ↔ FreeT R k := by
  unfold FreeT
  exact ⟨fun h j hj => by have := h j hj; rwa [tkAt_left (by omega), tkAt_left hk] at this, fun h j hj => by rw [tkAt_left (by omega), tkAt_left hk]; exact h j hj⟩
theorem Fair.ask (h : Fair R S) {b : Nat} {n : Int} {v l : AV} {ws : List Wt} (hn : ∀ j, j < R.length → ¬ (tkAt R j).n = n) : Fair (R ++ [⟨b, n, v, ws, dB (FreeW R ws)⟩]) (S ++ [⟨n, l, ws, dB (FreeW R ws)⟩]) := by
  have hl := h.len
  have key : ∀ k, k < (R ++ [(⟨b, n, v, ws, dB (FreeW R ws)⟩ : Tk)]).length → k < R.length ∨ k = R.length := fun k hk => by simp at hk; omega
  refine ⟨by simp [hl], fun k hk => ?_, fun k hk => ?_, fun k hk => ?_, fun j k hj hk hjk => ?_, fun k hk => ?_⟩
  · rcases key k hk with h1 | h1
    · rw [tkAt_left h1, sdAt_left (by omega)]; exact h.n k h1
    · subst h1; rw [tkAt_last, ← hl, sdAt_last]
  · rcases key k hk with h1 | h1
    · rw [tkAt_left h1, sdAt_left (by omega)]; exact h.ws k h1
    · subst h1; rw [tkAt_last, ← hl, sdAt_last]
  · rcases key k hk with h1 | h1
    · rw [tkAt_left h1, freeT_left h1]; exact h.fr k h1
    · subst h1
      rw [freeT_last, tkAt_last]
      exact dB_iff
  · rcases key j hj with h1 | h1 <;> rcases key k hk with h2 | h2
    · rw [tkAt_left h1, tkAt_left h2]; exact h.dis j k h1 h2 hjk
    · subst h2; rw [tkAt_left h1, tkAt_last]; exact hn j h1
    · subst h1; rw [tkAt_left h2, tkAt_last]; exact fun e => hn k h2 e.symm
    · omega
  · rcases key k hk with h1 | h1
    · rw [tkAt_left h1, sdAt_left (by omega)]; exact h.up k h1
    · subst h1; rw [tkAt_last, ← hl, sdAt_last]; exact id
theorem known_ask (h : Fair R S) (hk : Known R S) {b : Nat} {n : Int} {v l : AV} {ws : List Wt} {o : Bool} : Known (R ++ [⟨b, n, v, ws, o⟩]) (S ++ [⟨n, l, ws, o⟩]) := by
  intro k hkl
  have hl := h.len
  by_cases h1 : k < R.length
  · rw [tkAt_left h1, sdAt_left (by omega)]; exact hk k h1
  · have : k = R.length := by simp at hkl; omega
    subst this
    rw [tkAt_last, ← hl, sdAt_last]
theorem free_cut {i q : Nat} (hi : i < R.length) : FreeT R (if q < i then q else q + 1) → FreeT (R.take i ++ R.drop (i + 1)) q := by
  intro h j hj
  rw [tkAt_cut hi, tkAt_cut hi]
  have := h (if j < i then j else j + 1) (by split <;> split <;> omega)
  have e1 : (if j < i then tkAt R j else tkAt R (j + 1)) = tkAt R (if j < i then j else j + 1) := by split <;> rfl
  have e2 : (if q < i then tkAt R q else tkAt R (q + 1)) = tkAt R (if q < i then q else q + 1) := by split <;> rfl
  rw [e1, e2]
  exact this
theorem Fair.drop (h : Fair R S) (hk : Known R S) {i : Nat} (hi : i < R.length) : Fair (prom (R.take i ++ R.drop (i + 1)) (R.take i ++ R.drop (i + 1)).length) (S.take i ++ S.drop (i + 1)) := by
  have hl := h.len
  have hc := cut_len hi
  generalize hR : R.take i ++ R.drop (i + 1) = C at *
  have cut : ∀ q, tkAt C q = tkAt R (if q < i then q else q + 1) := fun q => by rw [← hR, tkAt_cut hi]; split <;> rfl
  have scut : ∀ q, sdAt (S.take i ++ S.drop (i + 1)) q = sdAt S (if q < i then q else q + 1) := fun q => by rw [sdAt_cut (by omega)]; split <;> rfl
  have hlt : ∀ q, q < C.length → (if q < i then q else q + 1) < R.length := fun q hq => by split <;> omega
  have pl := prom_len C C.length
  refine ⟨by rw [pl, hc]; simp; omega, fun k hk => ?_, fun k hk => ?_, fun k hk => ?_, fun j k hj hk hjk => ?_, fun k hk' hs => ?_⟩
  · rw [pl] at hk
    rw [scut, (prom_at C C.length (Nat.le_refl _) k).2.1, cut]
    exact h.n _ (hlt k hk)
  · rw [pl] at hk
    rw [scut, (prom_at C C.length (Nat.le_refl _) k).2.2.2.1, cut]
    exact h.ws _ (hlt k hk)
  · rw [pl] at hk
    rw [prom_free (Nat.le_refl _), (prom_at C C.length (Nat.le_refl _) k).2.2.2.2]
    constructor
    · rintro (h1 | h1)
      · rw [cut] at h1
        rw [← hR]
        exact free_cut hi ((h.fr _ (hlt k hk)).1 h1)
      · exact h1.2
    · exact fun h1 => .inr ⟨hk, h1⟩
  · rw [pl] at hj hk
    rw [(prom_at C C.length (Nat.le_refl _) j).2.1, (prom_at C C.length (Nat.le_refl _) k).2.1, cut, cut]
    exact h.dis _ _ (hlt j hj) (hlt k hk) (by split <;> split <;> omega)
  · rw [pl] at hk'
    rw [scut, hk _ (hlt k hk')] at hs
    rw [(prom_at C C.length (Nat.le_refl _) k).2.2.2.2, cut]
    exact .inl hs
/-- who has its wants that the law did not know -/
def newL : List Tk → List Sd → List Int
  | x :: xs, y :: ys => if x.has = true ∧ y.has = false then x.n :: newL xs ys else newL xs ys
  | _, _ => []
theorem newL_step {k : Nat} (hR : k < R.length) (hS : k < S.length) : newL (R.drop k) (S.drop k) = if (tkAt R k).has = true ∧ (sdAt S k).has = false then (tkAt R k).n :: newL (R.drop (k + 1)) (S.drop (k + 1)) else newL (R.drop (k + 1)) (S.drop (k + 1)) := by
  have e1 : tkAt R k = R[k] := by simp [tkAt, hR]
  have e2 : sdAt S k = S[k] := by simp [sdAt, hS]
  rw [e1, e2]
  conv => lhs; rw [List.drop_eq_getElem_cons hR, List.drop_eq_getElem_cons hS]
  rfl
theorem newL_known (hl : S.length = R.length) (hk : Known R S) : newL R S = [] := by
  have key : ∀ m k, R.length - k = m → newL (R.drop k) (S.drop k) = [] := by
    intro m
    induction m with
    | zero => intro k h; rw [List.drop_of_length_le (by omega), List.drop_of_length_le (by omega)]; rfl
    | succ m ih =>
      intro k h
      rw [newL_step (by omega) (by omega), if_neg, ih (k + 1) (by omega)]
      rw [hk k (by omega)]
      intro ⟨a, b⟩
      rw [a] at b
      cases b
  have := key R.length 0 (by omega)
  simpa using this
theorem outs_new {C : List Tk} (hl : S.length = C.length) (hk : Known C S) : outs C C.length = newL (prom C C.length) S := by
  have key : ∀ j, j ≤ C.length → outs C j ++ newL ((prom C C.length).drop j) (S.drop j) = newL (prom C C.length) S := by
    intro j
    induction j with
    | zero => intro _; rfl
    | succ j ih =>
      intro hj
      have ih := ih (by omega)
      have pl := prom_len C C.length
      rw [newL_step (by omega) (by omega)] at ih
      have hp := (prom_at C C.length (Nat.le_refl _) j)
      have hkj := hk j (by omega)
      unfold outs
      by_cases hg : gets C j
      · rw [if_pos hg]
        rw [if_pos ⟨hp.2.2.2.2.2 (.inr ⟨by omega, hg.2⟩), by rw [hkj]; exact hg.1⟩, hp.2.1] at ih
        rw [List.append_assoc]
        exact ih
      · rw [if_neg hg]
        rw [if_neg] at ih
        · exact ih
        · rintro ⟨h1, h2⟩
          rw [hkj] at h2
          rcases hp.2.2.2.2.1 h1 with h3 | h3
          · rw [h3] at h2; cases h2
          · exact hg ⟨h2, h3.2⟩
  have := key C.length (Nat.le_refl _)
  rw [List.drop_of_length_le (by rw [prom_len]; exact Nat.le_refl _)] at this
  rw [← this]
  simp [newL]
/-- the law's row, its first k looked at -/
def mixS (R : List Tk) (S : List Sd) : Nat → List Sd
  | 0 => S
  | k + 1 => setSd (mixS R S k) k (tkAt R k).has
theorem mixS_len (R : List Tk) (S : List Sd) (k : Nat) : (mixS R S k).length = S.length := by
  induction k with
  | zero => rfl
  | succ k ih => unfold mixS; rw [setSd_len, ih]
theorem mixS_at (R : List Tk) (S : List Sd) {k : Nat} (hk : k ≤ S.length) (q : Nat) : (sdAt (mixS R S k) q).n = (sdAt S q).n ∧ (sdAt (mixS R S k) q).v = (sdAt S q).v ∧ (sdAt (mixS R S k) q).ws = (sdAt S q).ws ∧ (sdAt (mixS R S k) q).has = if q < k then (tkAt R q).has else (sdAt S q).has := by
  induction k with
  | zero => exact ⟨rfl, rfl, rfl, by rw [if_neg (by omega)]; rfl⟩
  | succ k ih =>
    obtain ⟨h1, h2, h3, h4⟩ := ih (by omega)
    unfold mixS
    rw [setSd_at (by rw [mixS_len]; omega)]
    by_cases h : q = k
    · subst h
      rw [if_pos rfl]
      exact ⟨h1, h2, h3, by rw [if_pos (by omega)]⟩
    · rw [if_neg h]
      refine ⟨h1, h2, h3, ?_⟩
      rw [h4]
      by_cases h5 : q < k
      · rw [if_pos h5, if_pos (by omega)]
      · rw [if_neg h5, if_neg (by omega)]
theorem Fair.mix (h : Fair R S) : Fair R (mixS R S R.length) ∧ Known R (mixS R S R.length) := by
  have hm := fun q => mixS_at R S (k := R.length) (by rw [h.len]; exact Nat.le_refl _) q
  refine ⟨⟨by rw [mixS_len]; exact h.len, fun k hk => by rw [(hm k).1]; exact h.n k hk, fun k hk => by rw [(hm k).2.2.1]; exact h.ws k hk, h.fr, h.dis, fun k hk => by rw [(hm k).2.2.2, if_pos hk]; exact id⟩, fun k hk => by rw [(hm k).2.2.2, if_pos hk]⟩
end
end
end Go.Jt
