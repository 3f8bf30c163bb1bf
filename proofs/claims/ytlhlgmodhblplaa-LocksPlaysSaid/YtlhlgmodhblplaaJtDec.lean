/-
  A node read out of bytes.
-/
import Derived.Test.YtlhlgmodhblplaaJtNe
set_option autoImplicit false
set_option linter.all false
namespace Go.Jt
noncomputable section
variable [Gl]
def tkS (n : Nat) (s : List Nat) : List Nat := if n ≤ s.length then s.take n else []
def rsS (n : Nat) (s : List Nat) : List Nat := if n ≤ s.length then s.drop n else s
def bdS (n : Nat) (s : List Nat) (b : Bool) : Bool := if n ≤ s.length then b else true
def txV : List Nat → List Nat
  | [] => []
  | c :: r => tkS c r
def txS : List Nat → List Nat
  | [] => []
  | c :: r => rsS c r
def txB (b : Bool) : List Nat → Bool
  | [] => true
  | c :: r => bdS c r b
/-- a pointer read out of bytes -/
def rdP (t : List Nat) : PtrM := ⟨.ofNat (numB (t.getD 0 0) (t.getD 1 0) (t.getD 2 0) (t.getD 3 0)), .ofNat (numB (t.getD 4 0) (t.getD 5 0) (t.getD 6 0) (t.getD 7 0)),
  decS (t.getD 0 0) (t.getD 1 0) (t.getD 2 0) (t.getD 3 0) (t.getD 4 0) (t.getD 5 0) (t.getD 6 0) (t.getD 7 0) (t.getD 8 0) (t.getD 9 0) (t.getD 10 0) (t.getD 11 0) (t.getD 12 0) (t.getD 13 0) (t.getD 14 0) (t.getD 15 0)⟩
def PtrBytes (t : List Nat) : Prop := t.length = 16 ∧ PtrOk (rdP t).a (rdP t).b (rdP t).s
def decP (t : List Nat) : PtrM := @ite _ (PtrBytes t) (Classical.propDecidable _) (rdP t) ⟨0, 0, 0⟩
theorem decP_yes {t : List Nat} (h : PtrBytes t) : decP t = rdP t := @if_pos _ (Classical.propDecidable _) h _ _ _
theorem decP_no {t : List Nat} (h : ¬ PtrBytes t) : decP t = ⟨0, 0, 0⟩ := @if_neg _ (Classical.propDecidable _) h _ _ _
def kdV (s : List Nat) : PtrM := decP (tkS 16 s)
def kdB (s : List Nat) (b : Bool) : Bool := bdS 16 s b || dB (¬ PtrBytes (tkS 16 s))
theorem numB_lt' {a b c d : Nat} (h0 : a ≤ 255) (h1 : b ≤ 255) (h2 : c ≤ 255) (h3 : d ≤ 255) : numB a b c d < 4294967296 := by unfold numB; omega
theorem list16 {t : List Nat} (h : t.length = 16) : ∃ c0 c1 c2 c3 c4 c5 c6 c7 c8 c9 c10 c11 c12 c13 c14 c15, t = [c0, c1, c2, c3, c4, c5, c6, c7, c8, c9, c10, c11, c12, c13, c14, c15] := by
  match t, h with
  | [c0, c1, c2, c3, c4, c5, c6, c7, c8, c9, c10, c11, c12, c13, c14, c15], _ => exact ⟨_, _, _, _, _, _, _, _, _, _, _, _, _, _, _, _, rfl⟩
/-- block.Decode -/
theorem dec_ok [BkN] {tbl : Nat → Option FT} (T : BkT tbl) {t : List Nat} (ht : ∀ c ∈ t, c ≤ 255) {N d : Nat} (hd : 2 ≤ d) {Z : Fz} {F : List Hl} {H : AH} (hs : Sat H Z F) :
    Ct (RUN tbl N d) (.fn (.fn (.func BkN.dec)) [] []) [.str t] H fun v H' => ∃ r e, v = .tup [.agg r, .int .i64 e] ∧ RL r (ptrC (decP t).a (decP t).b (decP t).s) ∧ ((PtrBytes t ∧ e = 0) ∨ (¬ PtrBytes t ∧ e = 4)) ∧ Sat H' Z F := by
  by_cases hl : t.length = 16
  · obtain ⟨c0, c1, c2, c3, c4, c5, c6, c7, c8, c9, c10, c11, c12, c13, c14, c15, rfl⟩ := list16 hl
    simp only [List.mem_cons, List.not_mem_nil, or_false, forall_eq_or_imp, forall_eq] at ht
    by_cases hp : PtrOk (.ofNat (numB c0 c1 c2 c3)) (.ofNat (numB c4 c5 c6 c7)) (decS c0 c1 c2 c3 c4 c5 c6 c7 c8 c9 c10 c11 c12 c13 c14 c15)
    · have hb : PtrBytes [c0, c1, c2, c3, c4, c5, c6, c7, c8, c9, c10, c11, c12, c13, c14, c15] := ⟨rfl, hp⟩
      refine (decy_ok T (N := N) (by omega) (by omega) (by omega) (by omega) (by omega) (by omega) (by omega) (by omega) (by omega) (by omega) (by omega) (by omega) (by omega) (by omega) (by omega) (by omega) hp hd hs).imp fun v H' ⟨r, e, h1, h2⟩ => ⟨r, 0, e, ?_, .inl ⟨hb, rfl⟩, h2⟩
      rw [decP_yes hb]
      exact h1
    · have hb : ¬ PtrBytes [c0, c1, c2, c3, c4, c5, c6, c7, c8, c9, c10, c11, c12, c13, c14, c15] := fun h => hp h.2
      refine (decn_ok T (N := N) (by omega) (by omega) (by omega) (by omega) (by omega) (by omega) (by omega) (by omega) (by omega) (by omega) (by omega) (by omega) (by omega) (by omega) (by omega) (by omega) hp hd hs).imp fun v H' ⟨r, e, h1, h2⟩ => ⟨r, 4, e, ?_, .inr ⟨hb, rfl⟩, h2⟩
      rw [decP_no hb]
      exact h1
  · have hb : ¬ PtrBytes t := fun h => hl h.1
    refine (decl_ok T (N := N) hl (by omega) hs).imp fun v H' ⟨r, e, h1, h2⟩ => ⟨r, 4, e, ?_, .inr ⟨hb, rfl⟩, h2⟩
    rw [decP_no hb]
    exact h1
theorem sls_hi {env : Env} {H : AH} {x h : Od} {s : List Nat} {n : Nat} {q : IntKind} (hx : ev env x = .str s) (hh : ev env h = .int q (.ofNat n)) (hn : n ≤ s.length) (K : AV → AH → Bool) : xop (.sls x none (some h)) env H K = K (.str (s.take n)) H := by
  have e1 : Nat.ble n s.length = true := Nat.ble_eq_true_of_le hn
  have e2 : Nat.ble s.length s.length = true := Nat.ble_eq_true_of_le (Nat.le_refl _)
  have e3 : Nat.ble 0 n = true := Nat.ble_eq_true_of_le (Nat.zero_le _)
  simp only [xop, hx, fN_eq, llen_eq, Nat.add_zero, cut3, isOd, hh, e1, e2, e3, cond_true, List.drop_zero, Nat.sub_zero]
theorem sls_lo {env : Env} {H : AH} {x h : Od} {s : List Nat} {n : Nat} {q : IntKind} (hx : ev env x = .str s) (hh : ev env h = .int q (.ofNat n)) (hn : n ≤ s.length) (K : AV → AH → Bool) : xop (.sls x (some h) none) env H K = K (.str (s.drop n)) H := by
  have e1 : Nat.ble n s.length = true := Nat.ble_eq_true_of_le hn
  have e2 : Nat.ble s.length s.length = true := Nat.ble_eq_true_of_le (Nat.le_refl _)
  simp only [xop, hx, fN_eq, llen_eq, Nat.add_zero, cut3, isOd, hh, e1, e2, cond_true]
  rw [List.take_of_length_le (by simp)]
theorem tkS_byte {n : Nat} {s : List Nat} (h : ∀ c ∈ s, c ≤ 255) : ∀ c ∈ tkS n s, c ≤ 255 := by
  unfold tkS
  split
  · exact fun c hc => h c (List.mem_of_mem_take hc)
  · intro c hc; simp at hc
theorem rsS_byte {n : Nat} {s : List Nat} (h : ∀ c ∈ s, c ≤ 255) : ∀ c ∈ rsS n s, c ≤ 255 := by
  unfold rsS
  split
  · exact fun c hc => h c (List.mem_of_mem_drop hc)
  · exact h
theorem txS_byte {s : List Nat} (h : ∀ c ∈ s, c ≤ 255) : ∀ c ∈ txS s, c ≤ 255 := by
  cases s with
  | nil => exact h
  | cons c r => exact rsS_byte fun x hx => h x (List.mem_cons_of_mem _ hx)
theorem rsS_len (n : Nat) (s : List Nat) : (rsS n s).length ≤ s.length := by
  unfold rsS
  split
  · simp
  · exact Nat.le_refl _
end
end Go.Jt
