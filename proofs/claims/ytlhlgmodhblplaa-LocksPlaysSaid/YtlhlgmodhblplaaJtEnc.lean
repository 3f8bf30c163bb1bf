/-
  A node's bytes.
-/
import Derived.Test.YtlhlgmodhblplaaJtNd
import Derived.Test.YtlhlgmodhblplaaJtOwn
set_option autoImplicit false
set_option linter.all false
namespace Go.Jt
noncomputable section
variable [Gl]
def PtrM.B (p : PtrM) : List Nat := ptrB p.a.toNat p.b.toNat p.s
def tB (s : List Nat) : List Nat := [s.length % 256] ++ s
def leafB (ks vs : List (List Nat)) (i : Nat) : List Nat := (List.range i).flatMap fun j => tB (txt ks j) ++ tB (txt vs j)
def kidB (ks : List (List Nat)) (ps : List PtrM) (i : Nat) : List Nat := (List.range i).flatMap fun j => tB (txt ks j) ++ (ptAt ps (j + 1)).B
theorem leafB_succ (ks vs : List (List Nat)) (i : Nat) : leafB ks vs (i + 1) = leafB ks vs i ++ (tB (txt ks i) ++ tB (txt vs i)) := by
  unfold leafB; rw [List.range_succ, List.flatMap_append]; simp
theorem kidB_succ (ks : List (List Nat)) (ps : List PtrM) (i : Nat) : kidB ks ps (i + 1) = kidB ks ps i ++ (tB (txt ks i) ++ (ptAt ps (i + 1)).B) := by
  unfold kidB; rw [List.range_succ, List.flatMap_append]; simp
def headB (n : Nat) : List Nat := [n / 256 % 256, n % 256]
def bodyB (lf : Bool) (ks vs : List (List Nat)) (ps : List PtrM) (i : Nat) : List Nat := headB ks.length ++ (if lf = true then leafB ks vs i else (ptAt ps 0).B ++ kidB ks ps i)
/-- a node's bytes -/
def encB (lf : Bool) (ks vs : List (List Nat)) (ps : List PtrM) : List Nat := bodyB lf ks vs ps ks.length
theorem ptrB_len (a b s : Nat) : (ptrB a b s).length = 16 := by simp [ptrB, wordB]
theorem tB_len (s : List Nat) : (tB s).length = 1 + s.length := by simp [tB]; omega
theorem leafB_len (ks vs : List (List Nat)) {i : Nat} (hi : i ≤ ks.length) (hv : i ≤ vs.length) : (leafB ks vs i).length = sumL ks i + sumL vs i := by
  induction i with
  | zero => simp [leafB, sumL]
  | succ i ih =>
    rw [leafB_succ, List.length_append, ih (by omega) (by omega), sumL_succ (by omega), sumL_succ (by omega), List.length_append, tB_len, tB_len]
    omega
theorem kidB_len (ks : List (List Nat)) (ps : List PtrM) {i : Nat} (hi : i ≤ ks.length) : (kidB ks ps i).length = sumL ks i + 16 * i := by
  induction i with
  | zero => simp [kidB, sumL]
  | succ i ih =>
    rw [kidB_succ, List.length_append, ih (by omega), sumL_succ (by omega), List.length_append, tB_len, PtrM.B, ptrB_len]
    omega
theorem take_bytes (B : List Nat) : (List.drop 0 (B.map byteV)).take B.length = B.map byteV := by rw [List.drop_zero, List.take_of_length_le (by simp)]
theorem headB_len (n : Nat) : (headB n).length = 2 := rfl
theorem bytes_le {s : List Nat} (h : ∀ c ∈ s, c ≤ 255) : ∀ c ∈ s, c ≤ 255 := h
theorem bodyB_pos (lf : Bool) (ks vs : List (List Nat)) (ps : List PtrM) (i : Nat) : 0 < (bodyB lf ks vs ps i).length := by simp [bodyB, headB]
theorem ptrB_byte (a b s : Nat) : ∀ c ∈ ptrB a b s, c ≤ 255 := by
  intro c hc
  simp only [ptrB, wordB, List.mem_append, List.mem_cons, List.not_mem_nil, or_false] at hc
  omega
theorem tB_byte {s : List Nat} (h : ∀ c ∈ s, c ≤ 255) : ∀ c ∈ tB s, c ≤ 255 := by
  intro c hc
  simp only [tB, List.mem_append, List.mem_cons, List.not_mem_nil, or_false] at hc
  rcases hc with rfl | hc
  · omega
  · exact h c hc
def BytesOk (ks : List (List Nat)) : Prop := ∀ s ∈ ks, ∀ c ∈ s, c ≤ 255
theorem txt_byte {ks : List (List Nat)} (h : BytesOk ks) (i : Nat) : ∀ c ∈ txt ks i, c ≤ 255 := by
  by_cases hi : i < ks.length
  · exact h _ (txt_mem hi)
  · intro c hc
    have : txt ks i = [] := by simp [txt, List.getD_eq_getElem?_getD, List.getElem?_eq_none (Nat.le_of_not_lt hi)]
    rw [this] at hc; simp at hc
theorem encB_byte {lf : Bool} {ks vs : List (List Nat)} {ps : List PtrM} (hk : BytesOk ks) (hv : BytesOk vs) : ∀ c ∈ encB lf ks vs ps, c ≤ 255 := by
  intro c hc
  simp only [encB, bodyB, headB, List.mem_append, List.mem_cons, List.not_mem_nil, or_false] at hc
  rcases hc with hc | hc
  · omega
  · split at hc
    · obtain ⟨j, _, hc⟩ := List.mem_flatMap.1 hc
      rcases List.mem_append.1 hc with hc | hc
      · exact tB_byte (txt_byte hk j) c hc
      · exact tB_byte (txt_byte hv j) c hc
    · rcases List.mem_append.1 hc with hc | hc
      · exact ptrB_byte _ _ _ c hc
      · obtain ⟨j, _, hc⟩ := List.mem_flatMap.1 hc
        rcases List.mem_append.1 hc with hc | hc
        · exact tB_byte (txt_byte hk j) c hc
        · exact ptrB_byte _ _ _ c hc
theorem encI_ok [BkN] {tbl : Nat → Option FT} (T : BkT tbl) {a b : Int} {s : Nat} {r : Rp AV} (h : PtrOk a b s) (hr : RL r (ptrC a b s)) (hs64 : s < 18446744073709551616) {N d : Nat} (hd : 2 ≤ d) {Z : Fz} {F : List Hl} {H : AH} (hs : Sat H Z F) :
    Ct (RUN tbl N d) (.fn (.fn (.func BkN.enc)) [] []) [.agg r] H fun v H' => v = .tup [.str (ptrB a.toNat b.toNat s), .int .i64 0] ∧ Sat H' Z F := by
  have hab : 0 ≤ a ∧ 0 ≤ b := by unfold PtrOk at h; omega
  have ha : a = .ofNat a.toNat := by simp; omega
  have hb : b = .ofNat b.toNat := by simp; omega
  rw [ha, hb] at h hr
  exact ency_ok T (N := N) h hr hs64 hd hs
end
end Go.Jt
