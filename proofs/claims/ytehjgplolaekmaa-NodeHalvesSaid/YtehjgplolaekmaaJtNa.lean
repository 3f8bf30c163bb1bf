/-
  A node as an argument: a struct of a truth value and three rows.
-/
import Derived.Test.YtehjgplolaekmaaJtArg
import Derived.Test.YtehjgplolaekmaaJtNo1
set_option autoImplicit false
set_option linter.all false
namespace Go.Jt
noncomputable section
variable [Gl]
theorem sl_strs {Z : Fz} {v : AV} (h : (Kn.sl 1 (fun _ => .str)).p Z v) : ∃ ks, Fl Z 1 v (strs ks) ∧ BytesOk ks ∧ ks.length ≤ 9223372036854775807 := by
  obtain ⟨xs, h1, h2, h3⟩ := h
  have key : ∀ xs : List (List AV), (∀ x ∈ xs, x.length = 1 ∧ ∀ j, j < 1 → ∃ a, x[j]? = some a ∧ (Kn.str).p Z a) → ∃ ks, xs = strs ks ∧ BytesOk ks := by
    intro xs
    induction xs with
    | nil => intro _; exact ⟨[], rfl, fun s hs => (List.not_mem_nil hs).elim⟩
    | cons x xs ih =>
      intro h
      obtain ⟨ks, e, hb⟩ := ih fun y hy => h y (List.mem_cons_of_mem _ hy)
      obtain ⟨hl, hx⟩ := h x List.mem_cons_self
      obtain ⟨a, ha, s, rfl, _, hs⟩ := hx 0 (by omega)
      match x, hl with
      | [y], _ =>
        simp at ha
        subst ha
        exact ⟨s :: ks, by rw [e]; rfl, fun t ht => by
          rcases List.mem_cons.1 ht with rfl | ht
          · exact hs
          · exact hb t ht⟩
  obtain ⟨ks, rfl, hb⟩ := key xs h2
  exact ⟨ks, h1, hb, by rw [strs_len] at h3; exact h3⟩
def ptG (j : Nat) : Kn := if j = 2 then .int .u64 else .int .i64
theorem sl_ptrs {Z : Fz} {v : AV} (h : (Kn.sl 3 ptG).p Z v) : ∃ ps, Fl Z 3 v (ptrs ps) ∧ (∀ p ∈ ps, p.s < 18446744073709551616) ∧ ps.length ≤ 9223372036854775807 := by
  obtain ⟨xs, h1, h2, h3⟩ := h
  have key : ∀ xs : List (List AV), (∀ x ∈ xs, x.length = 3 ∧ ∀ j, j < 3 → ∃ a, x[j]? = some a ∧ (ptG j).p Z a) → ∃ ps, xs = ptrs ps ∧ ∀ p ∈ ps, p.s < 18446744073709551616 := by
    intro xs
    induction xs with
    | nil => intro _; exact ⟨[], rfl, fun s hs => (List.not_mem_nil hs).elim⟩
    | cons x xs ih =>
      intro h
      obtain ⟨ps, e, hb⟩ := ih fun y hy => h y (List.mem_cons_of_mem _ hy)
      obtain ⟨hl, hx⟩ := h x List.mem_cons_self
      obtain ⟨a, ha, i, rfl, _⟩ := hx 0 (by omega)
      obtain ⟨b, hb', j, rfl, _⟩ := hx 1 (by omega)
      obtain ⟨c, hc, k, rfl, hk1, hk2⟩ := hx 2 (by omega)
      match x, hl with
      | [p, q, r], _ =>
        simp at ha hb' hc
        subst ha hb' hc
        have k0 : 0 ≤ k := by simpa [IntKind.min, IntKind.signed] using hk1
        have k1 : k ≤ 18446744073709551615 := by simpa [IntKind.max, IntKind.signed, IntKind.bits] using hk2
        refine ⟨⟨i, j, k.toNat⟩ :: ps, ?_, fun p hp => ?_⟩
        · rw [e]
          show _ = PtrM.C ⟨i, j, k.toNat⟩ :: ptrs ps
          simp [PtrM.C, ptrC]
          omega
        · rcases List.mem_cons.1 hp with rfl | hp
          · show k.toNat < _
            omega
          · exact hb p hp
  obtain ⟨ps, rfl, hb⟩ := key xs h2
  exact ⟨ps, h1, hb, by rw [ptrs_len] at h3; exact h3⟩
def nodeG (j : Nat) : Kn := if j = 0 then .bool else if j = 3 then .sl 3 ptG else .sl 1 (fun _ => .str)
theorem fl_plain {Z : Fz} {es : Nat} {v : AV} {xs : List (List AV)} (h : Fl Z es v xs) : plainV v = true := by cases h <;> rfl
theorem node_open {Z : Fz} {l : List AV} (hl : l.length = 4) (h : ∀ q, q < 4 → ∃ b, l[q]? = some b ∧ (nodeG q).p Z b) :
    ∃ lf ks vs ps vk vv vp, RL (Rp.ofL l) [.bool lf, vk, vv, vp] ∧ Fl Z 1 vk (strs ks) ∧ Fl Z 1 vv (strs vs) ∧ Fl Z 3 vp (ptrs ps) ∧ ks.length ≤ 9223372036854775807 ∧ vs.length ≤ 9223372036854775807 ∧ ps.length ≤ 9223372036854775807 ∧
      same (.agg (Rp.sub (Rp.ofL l) 0 4)) (.agg (Rp.sub (Rp.ofL l) 0 4)) = true ∧ (∀ p ∈ ps, p.s < 18446744073709551616) ∧ BytesOk ks ∧ BytesOk vs := by
  obtain ⟨a, ha, lf, rfl⟩ := h 0 (by omega)
  obtain ⟨b, hb, h1⟩ := h 1 (by omega)
  obtain ⟨c, hc, h2⟩ := h 2 (by omega)
  obtain ⟨e, he, h3⟩ := h 3 (by omega)
  obtain ⟨ks, f1, b1, n1⟩ := sl_strs h1
  obtain ⟨vs, f2, b2, n2⟩ := sl_strs h2
  obtain ⟨ps, f3, b3, n3⟩ := sl_ptrs h3
  match l, hl with
  | [p, q, r, s], _ =>
    simp at ha hb hc he
    subst ha hb hc he
    refine ⟨lf, ks, vs, ps, q, r, s, RL.ofL _, f1, f2, f3, n1, n2, n3, ?_, b3, b1, b2⟩
    have p1 := fl_plain f1
    have p2 := fl_plain f2
    have p3 := fl_plain f3
    apply same_agg
    show ((plainV (.bool lf) && plainV q) && (plainV r && plainV s)) = true
    rw [p1, p2, p3]
    rfl
end
end Go.Jt
