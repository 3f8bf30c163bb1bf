/-
  Decode's loop: rows of texts and pointers of one's own that grow by one; the steps.
-/
import Derived.Test.YtlhlgmodhblplaaJtNr
set_option autoImplicit false
set_option linter.all false
namespace Go.Jt
noncomputable section
variable [Gl]
theorem strs_one {ks : List (List Nat)} : ∀ x ∈ strs ks, x.length = 1 := by
  intro x hx
  obtain ⟨s, _, rfl⟩ := List.mem_map.1 hx
  rfl
theorem ptrs_three {ps : List PtrM} : ∀ x ∈ ptrs ps, x.length = 3 := by
  intro x hx
  obtain ⟨s, _, rfl⟩ := List.mem_map.1 hx
  rfl
theorem Sat.dropP {H : AH} {Z : Fz} {hl l : List Hl} (h : Sat H Z (hl ++ l)) : Sat H Z l := h.sub (List.sublist_append_right hl l)
def txC (ks : List (List Nat)) : List AV := (strs ks).flatten
def ptC (ps : List PtrM) : List AV := (ptrs ps).flatten
theorem txC_snoc (ks : List (List Nat)) (k : List Nat) : txC (ks ++ [k]) = txC ks ++ [.str k] := by simp [txC, strs]
theorem ptC_snoc (ps : List PtrM) (p : PtrM) : ptC (ps ++ [p]) = ptC ps ++ p.C := by simp [ptC, ptrs]
theorem Sat.rot3 {H : AH} {Z : Fz} {p A q F : List Hl} (h : Sat H Z (q ++ (p ++ (A ++ F)))) : Sat H Z (A ++ (p ++ (q ++ F))) := h.perm (by
  rw [← List.append_assoc, ← List.append_assoc, ← List.append_assoc A, ← List.append_assoc]
  refine List.Perm.append_right F ?_
  rw [List.append_assoc A]
  exact List.perm_append_comm.trans (List.Perm.append_left A List.perm_append_comm))
section
variable {H : AH} {Z : Fz} {l : List Hl}
theorem s_ownS {v xv : AV} {ks : List (List Nat)} {k : List Nat} {hl : List Hl} (hs : Sat H Z (hl ++ l)) (ho : Own 1 v ks.length (txC ks) hl) (hx : Src H 1 xv 1 [.str k]) (hr : ks.length ≤ 1000000000000) :
    ∃ v' hl' H', Own 1 v' (ks ++ [k]).length (txC (ks ++ [k])) hl' ∧ Sat H' Z (hl' ++ l) ∧ ∀ {env : Env} {z : Rp AV} {s x : Od} (h1 : ev env s = v) (h2 : ev env x = xv) (K : AV → AH → Bool), xop (.app 1 16 z false s x) env H K = K v' H' := by
  obtain ⟨v', hl', H', h1, h2, h3⟩ := s_own hs ho hx (bytes := 16) (by omega) (by omega)
  exact ⟨v', hl', H', by rw [txC_snoc, List.length_append]; exact h1, h2, h3⟩
theorem s_ownP {v xv : AV} {ps : List PtrM} {p : PtrM} {hl : List Hl} (hs : Sat H Z (hl ++ l)) (ho : Own 3 v ps.length (ptC ps) hl) (hx : Src H 3 xv 1 p.C) (hr : ps.length ≤ 1000000000000) :
    ∃ v' hl' H', Own 3 v' (ps ++ [p]).length (ptC (ps ++ [p])) hl' ∧ Sat H' Z (hl' ++ l) ∧ ∀ {env : Env} {z : Rp AV} {s x : Od} (h1 : ev env s = v) (h2 : ev env x = xv) (K : AV → AH → Bool), xop (.app 3 24 z false s x) env H K = K v' H' := by
  obtain ⟨v', hl', H', h1, h2, h3⟩ := s_own hs ho hx (bytes := 24) (by omega) (by omega)
  exact ⟨v', hl', H', by rw [ptC_snoc, List.length_append]; exact h1, h2, h3⟩
end
/-- what Decode's loop has: what is left, whether it is bad, what was read -/
structure DS where
  s : List Nat
  b : Bool
  ks : List (List Nat)
  vs : List (List Nat)
  ps : List PtrM
def dstep (lf : Bool) (st : DS) : DS :=
  if st.b = true then st else
  if lf = true then ⟨txS (txS st.s), txB (txB st.b st.s) (txS st.s), st.ks ++ [txV st.s], st.vs ++ [txV (txS st.s)], st.ps⟩
  else ⟨rsS 16 (txS st.s), kdB (txS st.s) (txB st.b st.s), st.ks ++ [txV st.s], st.vs, st.ps ++ [kdV (txS st.s)]⟩
def diter (lf : Bool) : Nat → DS → DS
  | 0, st => st
  | n + 1, st => dstep lf (diter lf n st)
theorem diter_bad {lf : Bool} {st : DS} {j n : Nat} (h : j ≤ n) (hb : (diter lf j st).b = true) : diter lf n st = diter lf j st := by
  induction n with
  | zero => have : j = 0 := by omega
            subst this; rfl
  | succ n ih =>
    by_cases e : j = n + 1
    · subst e; rfl
    · have := ih (by omega)
      show dstep lf (diter lf n st) = _
      rw [this]
      unfold dstep
      rw [if_pos hb]
def dst0 (lf : Bool) (s : List Nat) : DS := if lf = true then ⟨s, false, [], [], []⟩ else ⟨rsS 16 s, kdB s false, [], [], [kdV s]⟩
/-- what Decode reads, of a text of two bytes and more -/
def dall (lf : Bool) (s : List Nat) : DS := diter lf (s.getD 0 0 * 256 + s.getD 1 0) (dst0 lf (s.drop 2))
def DecOk (lf : Bool) (s : List Nat) : Prop := 2 ≤ s.length ∧ (dall lf s).b = false ∧ (dall lf s).s = [] ∧ FormN lf (dall lf s).ks (dall lf s).vs (dall lf s).ps ∧ sizeN (dall lf s).ks (dall lf s).vs (dall lf s).ps ≤ 500
theorem getD_byte {t : List Nat} (h : ∀ c ∈ t, c ≤ 255) (i : Nat) : t.getD i 0 ≤ 255 := by
  by_cases hi : i < t.length
  · rw [List.getD_eq_getElem?_getD, List.getElem?_eq_getElem hi]
    exact h _ (List.getElem_mem hi)
  · rw [List.getD_eq_getElem?_getD, List.getElem?_eq_none (by omega)]
    exact Nat.zero_le _
theorem kdV_lt {s : List Nat} (h : ∀ c ∈ s, c ≤ 255) : (kdV s).s < 18446744073709551616 := by
  have hb := fun i => getD_byte (tkS_byte (n := 16) h) i
  unfold kdV
  by_cases hp : PtrBytes (tkS 16 s)
  · rw [decP_yes hp]
    have h1 := numB_lt' (hb 8) (hb 9) (hb 10) (hb 11)
    have h2 := numB_lt' (hb 12) (hb 13) (hb 14) (hb 15)
    simp only [rdP, decS]
    omega
  · rw [decP_no hp]; decide
theorem all_snoc {ps : List PtrM} {p : PtrM} (h : ∀ q ∈ ps, q.s < 18446744073709551616) (hp : p.s < 18446744073709551616) : ∀ q ∈ ps ++ [p], q.s < 18446744073709551616 := by
  intro q hq
  rcases List.mem_append.1 hq with hq | hq
  · exact h q hq
  · have : q = p := by simpa using hq
    rw [this]; exact hp
end
end Go.Jt
