/-
  JtBig: what Decode reads is bounded.
-/
import Derived.Test.YtehjgplolaekmaaJtBack
set_option autoImplicit false
set_option linter.all false
namespace Go.Jt
variable [Gl]
theorem txV_le {s : List Nat} (h : ∀ c ∈ s, c ≤ 255) : (txV s).length ≤ 255 := by
  cases s with
  | nil => simp [txV]
  | cons c r =>
    have := h c (by simp)
    show (tkS c r).length ≤ 255
    unfold tkS
    split
    · rw [List.length_take]; omega
    · simp
theorem sumL_bound {ks : List (List Nat)} (h : ∀ k ∈ ks, k.length ≤ 255) : sumL ks ks.length ≤ 256 * ks.length := by
  unfold sumL
  rw [List.take_length]
  induction ks with
  | nil => simp
  | cons k ks ih =>
    have h1 := h k (by simp)
    have h2 := ih fun k hk => h k (by simp [hk])
    simp only [List.map_cons, List.sum_cons, List.length_cons]
    omega
theorem diter_bound {lf : Bool} {st : DS} {m : Nat} (hb : ∀ c ∈ st.s, c ≤ 255) (hk : ∀ k ∈ st.ks, k.length ≤ 255) (hv : ∀ k ∈ st.vs, k.length ≤ 255) (h1 : st.ks.length ≤ m) (h2 : st.vs.length ≤ m) (h3 : st.ps.length ≤ m) (j : Nat) :
    (∀ c ∈ (diter lf j st).s, c ≤ 255) ∧ (∀ k ∈ (diter lf j st).ks, k.length ≤ 255) ∧ (∀ k ∈ (diter lf j st).vs, k.length ≤ 255) ∧ (diter lf j st).ks.length ≤ m + j ∧ (diter lf j st).vs.length ≤ m + j ∧ (diter lf j st).ps.length ≤ m + j := by
  induction j with
  | zero => exact ⟨hb, hk, hv, h1, h2, h3⟩
  | succ j ih =>
    obtain ⟨i1, i2, i3, i4, i5, i6⟩ := ih
    show (∀ c ∈ (dstep lf (diter lf j st)).s, c ≤ 255) ∧ (∀ k ∈ (dstep lf (diter lf j st)).ks, k.length ≤ 255) ∧ (∀ k ∈ (dstep lf (diter lf j st)).vs, k.length ≤ 255) ∧ (dstep lf (diter lf j st)).ks.length ≤ m + (j + 1) ∧ (dstep lf (diter lf j st)).vs.length ≤ m + (j + 1) ∧ (dstep lf (diter lf j st)).ps.length ≤ m + (j + 1)
    generalize diter lf j st = D at *
    unfold dstep
    split
    · exact ⟨i1, i2, i3, by omega, by omega, by omega⟩
    · split
      · exact ⟨txS_byte (txS_byte i1), fun k hk => by
          rcases List.mem_append.1 hk with h | h
          · exact i2 k h
          · rw [List.mem_singleton.1 h]; exact txV_le i1, fun k hk => by
          rcases List.mem_append.1 hk with h | h
          · exact i3 k h
          · rw [List.mem_singleton.1 h]; exact txV_le (txS_byte i1), by simp; omega, by simp; omega, (show D.ps.length ≤ m + (j + 1) by omega)⟩
      · exact ⟨rsS_byte (txS_byte i1), fun k hk => by
          rcases List.mem_append.1 hk with h | h
          · exact i2 k h
          · rw [List.mem_singleton.1 h]; exact txV_le i1, i3, by simp; omega, (show D.vs.length ≤ m + (j + 1) by omega), by simp; omega⟩
theorem dall_big {lf : Bool} {s : List Nat} (hb : ∀ c ∈ s, c ≤ 255) : sizeN (dall lf s).ks (dall lf s).vs (dall lf s).ps ≤ 1099511627776 ∧ (dall lf s).ks.length ≤ 65536 ∧ (dall lf s).vs.length ≤ 65536 ∧ (dall lf s).ps.length ≤ 65536 := by
  have c0 := getD_byte hb 0
  have c1 := getD_byte hb 1
  have hr : ∀ c ∈ s.drop 2, c ≤ 255 := fun c hc => hb c (List.mem_of_mem_drop hc)
  have key : ∀ st : DS, st = dst0 lf (s.drop 2) → (∀ c ∈ st.s, c ≤ 255) ∧ st.ks = [] ∧ st.vs = [] ∧ st.ps.length ≤ 1 := by
    rintro st rfl
    unfold dst0
    split
    · exact ⟨hr, rfl, rfl, by simp⟩
    · exact ⟨rsS_byte hr, rfl, rfl, by simp⟩
  obtain ⟨k1, k2, k3, k4⟩ := key _ rfl
  obtain ⟨i1, i2, i3, i4, i5, i6⟩ := diter_bound (lf := lf) (m := 1) k1 (by rw [k2]; simp) (by rw [k3]; simp) (by rw [k2]; simp) (by rw [k3]; simp) k4 (s.getD 0 0 * 256 + s.getD 1 0)
  have e : dall lf s = diter lf (s.getD 0 0 * 256 + s.getD 1 0) (dst0 lf (s.drop 2)) := rfl
  rw [← e] at i1 i2 i3 i4 i5 i6
  have a1 := sumL_bound i2
  have a2 := sumL_bound i3
  unfold sizeN
  omega
theorem txV_byte' {s : List Nat} (h : ∀ c ∈ s, c ≤ 255) : ∀ c ∈ txV s, c ≤ 255 := by
  cases s with
  | nil => intro c hc; simp [txV] at hc
  | cons c r =>
    show ∀ x ∈ tkS c r, x ≤ 255
    unfold tkS
    split
    · exact fun x hx => h x (List.mem_cons_of_mem _ (List.mem_of_mem_take hx))
    · intro x hx; simp at hx
theorem diter_bytes {lf : Bool} {st : DS} (hb : ∀ c ∈ st.s, c ≤ 255) (hk : BytesOk st.ks) (hv : BytesOk st.vs) (hp : ∀ p ∈ st.ps, p.s < 18446744073709551616) (j : Nat) :
    (∀ c ∈ (diter lf j st).s, c ≤ 255) ∧ BytesOk (diter lf j st).ks ∧ BytesOk (diter lf j st).vs ∧ ∀ p ∈ (diter lf j st).ps, p.s < 18446744073709551616 := by
  induction j with
  | zero => exact ⟨hb, hk, hv, hp⟩
  | succ j ih =>
    obtain ⟨i1, i2, i3, i4⟩ := ih
    show (∀ c ∈ (dstep lf (diter lf j st)).s, c ≤ 255) ∧ BytesOk (dstep lf (diter lf j st)).ks ∧ BytesOk (dstep lf (diter lf j st)).vs ∧ ∀ p ∈ (dstep lf (diter lf j st)).ps, p.s < 18446744073709551616
    generalize diter lf j st = D at *
    have snoc : ∀ {ks : List (List Nat)} {k : List Nat}, BytesOk ks → (∀ c ∈ k, c ≤ 255) → BytesOk (ks ++ [k]) := fun h1 h2 x hx => by
      rcases List.mem_append.1 hx with h | h
      · exact h1 x h
      · rw [List.mem_singleton.1 h]; exact h2
    unfold dstep
    split
    · exact ⟨i1, i2, i3, i4⟩
    · split
      · exact ⟨txS_byte (txS_byte i1), snoc i2 (txV_byte' i1), snoc i3 (txV_byte' (txS_byte i1)), i4⟩
      · exact ⟨rsS_byte (txS_byte i1), snoc i2 (txV_byte' i1), i3, all_snoc i4 (kdV_lt (txS_byte i1))⟩
theorem dall_bytes {lf : Bool} {s : List Nat} (hb : ∀ c ∈ s, c ≤ 255) : BytesOk (dall lf s).ks ∧ BytesOk (dall lf s).vs ∧ ∀ p ∈ (dall lf s).ps, p.s < 18446744073709551616 := by
  have hr : ∀ c ∈ s.drop 2, c ≤ 255 := fun c hc => hb c (List.mem_of_mem_drop hc)
  have key : ∀ st : DS, st = dst0 lf (s.drop 2) → (∀ c ∈ st.s, c ≤ 255) ∧ BytesOk st.ks ∧ BytesOk st.vs ∧ ∀ p ∈ st.ps, p.s < 18446744073709551616 := by
    rintro st rfl
    unfold dst0
    split
    · exact ⟨hr, by intro x hx; simp at hx, by intro x hx; simp at hx, by simp⟩
    · exact ⟨rsS_byte hr, by intro x hx; simp at hx, by intro x hx; simp at hx, fun p hp => by rw [List.mem_singleton.1 hp]; exact kdV_lt hr⟩
  obtain ⟨k1, k2, k3, k4⟩ := key _ rfl
  exact (diter_bytes (lf := lf) k1 k2 k3 k4 (s.getD 0 0 * 256 + s.getD 1 0)).2
theorem tB_byte2 {s : List Nat} (h : ∀ c ∈ s, c ≤ 255) : ∀ c ∈ tB s, c ≤ 255 := by
  intro c hc
  rcases List.mem_append.1 hc with h1 | h1
  · rw [List.mem_singleton.1 h1]; omega
  · exact h c h1
theorem ptrB_byte2 (p : PtrM) : ∀ c ∈ p.B, c ≤ 255 := by
  intro c hc
  simp only [PtrM.B, ptrB, wordB, List.mem_append, List.mem_cons, List.not_mem_nil, or_false] at hc
  omega
theorem encB_bytes {lf : Bool} {ks vs : List (List Nat)} {ps : List PtrM} (hk : BytesOk ks) (hv : BytesOk vs) : ∀ c ∈ encB lf ks vs ps, c ≤ 255 := by
  intro c hc
  unfold encB bodyB headB at hc
  rcases List.mem_append.1 hc with h | h
  · simp only [List.mem_cons, List.not_mem_nil, or_false] at h; omega
  · split at h
    · obtain ⟨j, _, h⟩ := List.mem_flatMap.1 h
      rcases List.mem_append.1 h with h | h
      · exact tB_byte2 (txt_byte hk j) c h
      · exact tB_byte2 (txt_byte hv j) c h
    · rcases List.mem_append.1 h with h | h
      · exact ptrB_byte2 _ c h
      · obtain ⟨j, _, h⟩ := List.mem_flatMap.1 h
        rcases List.mem_append.1 h with h | h
        · exact tB_byte2 (txt_byte hk j) c h
        · exact ptrB_byte2 _ c h
theorem decK {lf : Bool} {s : List Nat} (hb : ∀ c ∈ s, c ≤ 255) : BytesOk (dall lf s).ks := (dall_bytes hb).1
theorem decV {lf : Bool} {s : List Nat} (hb : ∀ c ∈ s, c ≤ 255) : BytesOk (dall lf s).vs := (dall_bytes hb).2.1
theorem decQ {lf : Bool} {s : List Nat} (hb : ∀ c ∈ s, c ≤ 255) : ∀ p ∈ (dall lf s).ps, p.s < 18446744073709551616 := (dall_bytes hb).2.2
end Go.Jt
