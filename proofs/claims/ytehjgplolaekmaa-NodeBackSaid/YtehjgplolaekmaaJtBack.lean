/-
  Decode of Encode is the node, Encode of Decode the bytes: plain.
-/
import Derived.Test.YtehjgplolaekmaaJtDec2
set_option autoImplicit false
set_option linter.all false
set_option maxRecDepth 20000
namespace Go.Jt
noncomputable section
variable [Gl]
theorem tB_read {k X : List Nat} (h : k.length ≤ 255) : txV (tB k ++ X) = k ∧ txS (tB k ++ X) = X ∧ ∀ b, txB b (tB k ++ X) = b := by
  have e : tB k ++ X = k.length :: (k ++ X) := by
    unfold tB
    rw [Nat.mod_eq_of_lt (by omega)]
    rfl
  rw [e]
  have hl : k.length ≤ (k ++ X).length := by simp
  refine ⟨?_, ?_, fun b => ?_⟩
  · simp only [txV, tkS, if_pos hl]; simp
  · simp only [txS, rsS, if_pos hl]; simp
  · simp only [txB, bdS, if_pos hl]
theorem word_num {n : Nat} (h : n < 4294967296) : numB (n / 16777216 % 256) (n / 65536 % 256) (n / 256 % 256) (n % 256) = n := by unfold numB; omega
theorem num_word {a b c d : Nat} (ha : a ≤ 255) (hb : b ≤ 255) (hc : c ≤ 255) (hd : d ≤ 255) : wordB (numB a b c d) = [a, b, c, d] := by
  unfold wordB numB
  refine congr (congrArg _ ?_) (congr (congrArg _ ?_) (congr (congrArg _ ?_) (congr (congrArg _ ?_) rfl))) <;> omega
theorem rdP_list (c0 c1 c2 c3 c4 c5 c6 c7 c8 c9 c10 c11 c12 c13 c14 c15 : Nat) : rdP [c0, c1, c2, c3, c4, c5, c6, c7, c8, c9, c10, c11, c12, c13, c14, c15] = ⟨.ofNat (numB c0 c1 c2 c3), .ofNat (numB c4 c5 c6 c7), decS c0 c1 c2 c3 c4 c5 c6 c7 c8 c9 c10 c11 c12 c13 c14 c15⟩ := rfl
theorem word4 (n : Nat) : ∃ a b c d, wordB n = [a, b, c, d] ∧ a = n / 16777216 % 256 ∧ b = n / 65536 % 256 ∧ c = n / 256 % 256 ∧ d = n % 256 := ⟨_, _, _, _, rfl, rfl, rfl, rfl, rfl⟩
theorem ptrM_list (a b : Int) (s : Nat) : PtrM.B ⟨a, b, s⟩ = [a.toNat / 16777216 % 256, a.toNat / 65536 % 256, a.toNat / 256 % 256, a.toNat % 256, b.toNat / 16777216 % 256, b.toNat / 65536 % 256, b.toNat / 256 % 256, b.toNat % 256,
    s / 4294967296 / 16777216 % 256, s / 4294967296 / 65536 % 256, s / 4294967296 / 256 % 256, s / 4294967296 % 256, s % 4294967296 / 16777216 % 256, s % 4294967296 / 65536 % 256, s % 4294967296 / 256 % 256, s % 4294967296 % 256] := by
  simp only [PtrM.B, ptrB, wordB, List.cons_append, List.nil_append]
theorem kid_read {p : PtrM} {X : List Nat} (h : PtrOk p.a p.b p.s) (hs : p.s < 18446744073709551616) : kdV (p.B ++ X) = p ∧ rsS 16 (p.B ++ X) = X ∧ ∀ b, kdB (p.B ++ X) b = b := by
  obtain ⟨a, b, s⟩ := p
  have hab : 0 ≤ a ∧ a < 8192 ∧ 0 ≤ b ∧ b ≤ 2147483647 := by
    simp only [PtrOk] at h
    omega
  have hl : (PtrM.B ⟨a, b, s⟩).length = 16 := ptrB_len _ _ _
  have h16 : 16 ≤ (PtrM.B ⟨a, b, s⟩ ++ X).length := by rw [List.length_append, hl]; omega
  have ht : tkS 16 (PtrM.B ⟨a, b, s⟩ ++ X) = PtrM.B ⟨a, b, s⟩ := by
    unfold tkS
    rw [if_pos h16, List.take_append_of_le_length (by omega), List.take_of_length_le (by omega)]
  have hr : rdP (PtrM.B ⟨a, b, s⟩) = ⟨a, b, s⟩ := by
    have hs' : s < 18446744073709551616 := hs
    have e1 := word_num (n := a.toNat) (by omega)
    have e2 := word_num (n := b.toNat) (by omega)
    have e3 := word_num (n := s / 4294967296) (by omega)
    have e4 := word_num (n := s % 4294967296) (by omega)
    rw [ptrM_list, rdP_list]
    unfold decS
    rw [e1, e2, e3, e4]
    have f1 : Int.ofNat a.toNat = a := by simp; omega
    have f2 : Int.ofNat b.toNat = b := by simp; omega
    have f3 : s / 4294967296 * 4294967296 + s % 4294967296 = s := by omega
    rw [f1, f2, f3]
  have hp : PtrBytes (PtrM.B ⟨a, b, s⟩) := ⟨hl, by rw [hr]; exact h⟩
  refine ⟨?_, ?_, fun c => ?_⟩
  · unfold kdV; rw [ht, decP_yes hp, hr]
  · unfold rsS; rw [if_pos h16, List.drop_append_of_le_length (by omega), List.drop_of_length_le (by omega), List.nil_append]
  · unfold kdB bdS
    rw [if_pos h16, ht, dB_false (fun hn => hn hp), Bool.or_false]
theorem txt_take {ks : List (List Nat)} {j : Nat} (h : j < ks.length) : ks.take (j + 1) = ks.take j ++ [txt ks j] := by
  rw [List.take_succ, txt_get h]; rfl
theorem ptAt_take {ps : List PtrM} {j : Nat} (h : j < ps.length) : ps.take (j + 1) = ps.take j ++ [ptAt ps j] := by
  rw [List.take_succ, ptAt_get h]; rfl
def leafR (ks vs : List (List Nat)) (j : Nat) : List Nat := (List.range (ks.length - j)).flatMap fun i => tB (txt ks (j + i)) ++ tB (txt vs (j + i))
theorem leafR_step {ks vs : List (List Nat)} {j : Nat} (h : j < ks.length) : leafR ks vs j = tB (txt ks j) ++ (tB (txt vs j) ++ leafR ks vs (j + 1)) := by
  unfold leafR
  obtain ⟨m, hm⟩ : ∃ m, ks.length - j = m + 1 := ⟨ks.length - j - 1, by omega⟩
  rw [hm, List.range_succ_eq_map, List.flatMap_cons, List.flatMap_map, show ks.length - (j + 1) = m by omega, List.append_assoc]
  simp only [Nat.add_zero, Nat.succ_eq_add_one]
  congr 2
  refine congrArg (fun f => List.flatMap f (List.range m)) ?_
  funext i
  rw [show j + (i + 1) = j + 1 + i by omega]
def kidR (ks : List (List Nat)) (ps : List PtrM) (j : Nat) : List Nat := (List.range (ks.length - j)).flatMap fun i => tB (txt ks (j + i)) ++ (ptAt ps (j + i + 1)).B
theorem kidR_step {ks : List (List Nat)} {ps : List PtrM} {j : Nat} (h : j < ks.length) : kidR ks ps j = tB (txt ks j) ++ ((ptAt ps (j + 1)).B ++ kidR ks ps (j + 1)) := by
  unfold kidR
  obtain ⟨m, hm⟩ : ∃ m, ks.length - j = m + 1 := ⟨ks.length - j - 1, by omega⟩
  rw [hm, List.range_succ_eq_map, List.flatMap_cons, List.flatMap_map, show ks.length - (j + 1) = m by omega, List.append_assoc]
  simp only [Nat.add_zero, Nat.succ_eq_add_one]
  congr 2
  refine congrArg (fun f => List.flatMap f (List.range m)) ?_
  funext i
  rw [show j + (i + 1) = j + 1 + i by omega]
theorem dec_enc_leaf {ks vs : List (List Nat)} (hk : ∀ i, i < ks.length → (txt ks i).length ≤ 255) (hv : ∀ i, i < ks.length → (txt vs i).length ≤ 255) (hl : vs.length = ks.length) : ∀ j, j ≤ ks.length → diter true j ⟨leafR ks vs 0, false, [], [], []⟩ = ⟨leafR ks vs j, false, ks.take j, vs.take j, []⟩
  | 0, _ => by simp [diter]
  | j + 1, h => by
    show dstep true (diter true j _) = _
    rw [dec_enc_leaf hk hv hl j (by omega), leafR_step (by omega)]
    obtain ⟨a1, a2, a3⟩ := tB_read (X := tB (txt vs j) ++ leafR ks vs (j + 1)) (hk j (by omega))
    obtain ⟨b1, b2, b3⟩ := tB_read (X := leafR ks vs (j + 1)) (hv j (by omega))
    unfold dstep
    rw [if_neg (by simp), if_pos rfl]
    simp only [a1, a2, a3, b1, b2, b3]
    rw [txt_take (by omega), txt_take (by omega)]
theorem dec_enc_inner {ks : List (List Nat)} {ps : List PtrM} (hk : ∀ i, i < ks.length → (txt ks i).length ≤ 255) (hp : ∀ i, i < ps.length → PtrOk (ptAt ps i).a (ptAt ps i).b (ptAt ps i).s ∧ (ptAt ps i).s < 18446744073709551616) (hl : ps.length = ks.length + 1) : ∀ j, j ≤ ks.length → diter false j ⟨kidR ks ps 0, false, [], [], [ptAt ps 0]⟩ = ⟨kidR ks ps j, false, ks.take j, [], ps.take (j + 1)⟩
  | 0, _ => by rw [ptAt_take (by omega)]; simp [diter]
  | j + 1, h => by
    show dstep false (diter false j _) = _
    rw [dec_enc_inner hk hp hl j (by omega), kidR_step (by omega)]
    obtain ⟨a1, a2, a3⟩ := tB_read (X := (ptAt ps (j + 1)).B ++ kidR ks ps (j + 1)) (hk j (by omega))
    obtain ⟨b1, b2, b3⟩ := kid_read (X := kidR ks ps (j + 1)) (hp (j + 1) (by omega)).1 (hp (j + 1) (by omega)).2
    unfold dstep
    rw [if_neg (by simp), if_neg (by simp)]
    simp only [a1, a2, a3, b1, b2, b3]
    rw [txt_take (by omega), show ps.take (j + 1 + 1) = ps.take (j + 1) ++ [ptAt ps (j + 1)] from ptAt_take (by omega)]
theorem keys_le {ks : List (List Nat)} (h : KeysOk ks) : ∀ i, i < ks.length → (txt ks i).length ≤ 255 := fun i hi => by have := (h i hi).1.2; omega
theorem sumL_ge (ks : List (List Nat)) : ∀ i, i ≤ ks.length → i ≤ sumL ks i
  | 0, _ => Nat.zero_le _
  | i + 1, h => by have := sumL_ge ks i (by omega); rw [sumL_succ (by omega)]; omega
/-- Decode of Encode -/
theorem dec_enc {lf : Bool} {ks vs : List (List Nat)} {ps : List PtrM} (hf : FormN lf ks vs ps) (h5 : sizeN ks vs ps ≤ 500) (hps : ∀ p ∈ ps, p.s < 18446744073709551616) : 2 ≤ (encB lf ks vs ps).length ∧ dall lf (encB lf ks vs ps) = ⟨[], false, ks, vs, ps⟩ := by
  have hkl : ks.length ≤ 500 := by have := sumL_ge ks ks.length (Nat.le_refl _); unfold sizeN at h5; omega
  have hcnt : ks.length / 256 % 256 * 256 + ks.length % 256 = ks.length := by omega
  have hk := keys_le hf.1
  unfold encB bodyB dall headB
  refine ⟨by simp, ?_⟩
  show diter lf (ks.length / 256 % 256 * 256 + ks.length % 256) (dst0 lf (if lf = true then leafB ks vs ks.length else (ptAt ps 0).B ++ kidB ks ps ks.length)) = _
  rw [hcnt]
  cases lf with
  | true =>
    obtain ⟨h1, h2, h3⟩ := hf.2.1 rfl
    have hp0 : ps = [] := List.eq_nil_of_length_eq_zero h1
    subst hp0
    have e : leafB ks vs ks.length = leafR ks vs 0 := by unfold leafB leafR; simp
    rw [if_pos rfl, e]
    show diter true ks.length ⟨leafR ks vs 0, false, [], [], []⟩ = _
    rw [dec_enc_leaf hk (fun i hi => by have := h3 i (by omega); omega) h2 _ (Nat.le_refl _), List.take_of_length_le (Nat.le_refl _), List.take_of_length_le (by omega)]
    congr 1
    unfold leafR; simp
  | false =>
    obtain ⟨h0, h1, h2, h3⟩ := hf.2.2 rfl
    have hv0 : vs = [] := List.eq_nil_of_length_eq_zero h2
    subst hv0
    have e : kidB ks ps ks.length = kidR ks ps 0 := by unfold kidB kidR; simp
    have hpk : ∀ i, i < ps.length → PtrOk (ptAt ps i).a (ptAt ps i).b (ptAt ps i).s ∧ (ptAt ps i).s < 18446744073709551616 := fun i hi => ⟨(h3 i hi).1, hps _ (ptAt_mem hi)⟩
    obtain ⟨b1, b2, b3⟩ := kid_read (X := kidR ks ps 0) (hpk 0 (by omega)).1 (hpk 0 (by omega)).2
    rw [if_neg (by simp), e]
    show diter false ks.length ⟨rsS 16 ((ptAt ps 0).B ++ kidR ks ps 0), kdB ((ptAt ps 0).B ++ kidR ks ps 0) false, [], [], [kdV ((ptAt ps 0).B ++ kidR ks ps 0)]⟩ = _
    rw [b1, b2, b3, dec_enc_inner hk hpk h1 _ (Nat.le_refl _), List.take_of_length_le (Nat.le_refl _), List.take_of_length_le (by omega)]
    congr 1
    unfold kidR; simp
/-! ### Encode of Decode -/
theorem txt_snoc {ks : List (List Nat)} {k : List Nat} {i : Nat} (h : i < ks.length) : txt (ks ++ [k]) i = txt ks i := by
  simp only [txt, List.getD_eq_getElem?_getD, List.getElem?_append_left h]
theorem txt_last {ks : List (List Nat)} {k : List Nat} {j : Nat} (h : ks.length = j) : txt (ks ++ [k]) j = k := by
  subst h
  simp [txt, List.getD_eq_getElem?_getD]
theorem ptAt_snoc {ps : List PtrM} {p : PtrM} {i : Nat} (h : i < ps.length) : ptAt (ps ++ [p]) i = ptAt ps i := by
  simp only [ptAt, List.getD_eq_getElem?_getD, List.getElem?_append_left h]
theorem ptAt_last {ps : List PtrM} {p : PtrM} {j : Nat} (h : ps.length = j) : ptAt (ps ++ [p]) j = p := by
  subst h
  simp [ptAt, List.getD_eq_getElem?_getD]
theorem flatMap_congr' {n : Nat} {f g : Nat → List Nat} (h : ∀ i, i < n → f i = g i) : (List.range n).flatMap f = (List.range n).flatMap g := by
  induction n with
  | zero => rfl
  | succ n ih => rw [List.range_succ, List.flatMap_append, List.flatMap_append, ih (fun i hi => h i (by omega))]; simp [h n (by omega)]
theorem leafB_snoc {ks vs : List (List Nat)} {k v : List Nat} {j : Nat} (h1 : ks.length = j) (h2 : vs.length = j) : leafB (ks ++ [k]) (vs ++ [v]) (j + 1) = leafB ks vs j ++ (tB k ++ tB v) := by
  rw [leafB_succ, txt_last h1, txt_last h2]
  congr 1
  exact flatMap_congr' fun i hi => by rw [txt_snoc (by omega), txt_snoc (by omega)]
theorem kidB_snoc {ks : List (List Nat)} {ps : List PtrM} {k : List Nat} {p : PtrM} {j : Nat} (h1 : ks.length = j) (h2 : ps.length = j + 1) : kidB (ks ++ [k]) (ps ++ [p]) (j + 1) = kidB ks ps j ++ (tB k ++ p.B) := by
  rw [kidB_succ, txt_last h1, ptAt_last h2]
  congr 1
  exact flatMap_congr' fun i hi => by rw [txt_snoc (by omega), ptAt_snoc (by omega)]
theorem tx_back {s : List Nat} (hb : ∀ c ∈ s, c ≤ 255) (h : txB false s = false) : s = tB (txV s) ++ txS s ∧ (txV s).length ≤ 255 := by
  cases s with
  | nil => cases h
  | cons c r =>
    have hc := hb c List.mem_cons_self
    have hl : c ≤ r.length := by
      apply Classical.byContradiction
      intro hn
      simp only [txB, bdS, if_neg hn] at h
      cases h
    simp only [txV, txS, tkS, rsS, if_pos hl]
    have e : (r.take c).length = c := by simp; omega
    refine ⟨?_, by omega⟩
    unfold tB
    rw [e, Nat.mod_eq_of_lt (by omega)]
    simp
theorem txB_false {b : Bool} {s : List Nat} (h : txB b s = false) : b = false ∨ s = [] ∧ False := by
  cases s with
  | nil => cases h
  | cons c r =>
    simp only [txB, bdS] at h
    split at h
    · exact .inl h
    · cases h
theorem kd_back {s : List Nat} {b : Bool} (hb : ∀ c ∈ s, c ≤ 255) (h : kdB s b = false) : s = (kdV s).B ++ rsS 16 s ∧ b = false := by
  unfold kdB at h
  rw [Bool.or_eq_false_iff] at h
  obtain ⟨h1, h2⟩ := h
  have hp : PtrBytes (tkS 16 s) := Classical.byContradiction fun hn => (dB_not.1 h2) hn
  have hl : 16 ≤ s.length := by
    apply Classical.byContradiction
    intro hn
    simp only [bdS, if_neg hn] at h1
    cases h1
  have hbd : b = false := by simpa only [bdS, if_pos hl] using h1
  refine ⟨?_, hbd⟩
  unfold kdV
  rw [decP_yes hp]
  have hB := tkS_byte (n := 16) hb
  obtain ⟨c0, c1, c2, c3, c4, c5, c6, c7, c8, c9, c10, c11, c12, c13, c14, c15, e⟩ := list16 hp.1
  rw [e] at hB hp ⊢
  simp only [List.mem_cons, List.not_mem_nil, or_false, forall_eq_or_imp, forall_eq] at hB
  obtain ⟨g0, g1, g2, g3, g4, g5, g6, g7, g8, g9, g10, g11, g12, g13, g14, g15⟩ := hB
  have hr : (rdP [c0, c1, c2, c3, c4, c5, c6, c7, c8, c9, c10, c11, c12, c13, c14, c15]).B = [c0, c1, c2, c3, c4, c5, c6, c7, c8, c9, c10, c11, c12, c13, c14, c15] := by
    rw [rdP_list]
    have n2 := numB_lt' g8 g9 g10 g11
    have n3 := numB_lt' g12 g13 g14 g15
    show wordB (numB c0 c1 c2 c3) ++ wordB (numB c4 c5 c6 c7) ++ wordB (decS c0 c1 c2 c3 c4 c5 c6 c7 c8 c9 c10 c11 c12 c13 c14 c15 / 4294967296) ++ wordB (decS c0 c1 c2 c3 c4 c5 c6 c7 c8 c9 c10 c11 c12 c13 c14 c15 % 4294967296) = _
    have d1 : decS c0 c1 c2 c3 c4 c5 c6 c7 c8 c9 c10 c11 c12 c13 c14 c15 / 4294967296 = numB c8 c9 c10 c11 := by unfold decS; omega
    have d2 : decS c0 c1 c2 c3 c4 c5 c6 c7 c8 c9 c10 c11 c12 c13 c14 c15 % 4294967296 = numB c12 c13 c14 c15 := by unfold decS; omega
    rw [d1, d2, num_word g0 g1 g2 g3, num_word g4 g5 g6 g7, num_word g8 g9 g10 g11, num_word g12 g13 g14 g15]
    rfl
  rw [hr, ← e]
  unfold tkS rsS
  rw [if_pos hl, if_pos hl, List.take_append_drop]
theorem enc_dec_leaf {r : List Nat} (hb : ∀ c ∈ r, c ≤ 255) : ∀ j, (diter true j (dst0 true r)).b = false →
    (diter true j (dst0 true r)).ks.length = j ∧ (diter true j (dst0 true r)).vs.length = j ∧ (diter true j (dst0 true r)).ps = [] ∧ (∀ c ∈ (diter true j (dst0 true r)).s, c ≤ 255) ∧ leafB (diter true j (dst0 true r)).ks (diter true j (dst0 true r)).vs j ++ (diter true j (dst0 true r)).s = r
  | 0, _ => ⟨rfl, rfl, rfl, hb, by simp [diter, dst0, leafB]⟩
  | j + 1, h => by
    have hd : diter true (j + 1) (dst0 true r) = dstep true (diter true j (dst0 true r)) := rfl
    have hpb : (diter true j (dst0 true r)).b = false := by
      cases hc : (diter true j (dst0 true r)).b with
      | false => rfl
      | true =>
        rw [hd] at h
        unfold dstep at h
        rw [if_pos hc, hc] at h
        cases h
    obtain ⟨i1, i2, i3, i4, i5⟩ := enc_dec_leaf hb j hpb
    rw [hd] at h ⊢
    generalize diter true j (dst0 true r) = D at *
    unfold dstep at h ⊢
    rw [if_neg (by rw [hpb]; simp), if_pos rfl] at h ⊢
    simp only at h ⊢
    rw [hpb] at h
    have b4 := txS_byte i4
    have h1 : txB false D.s = false := by
      rcases txB_false h with h1 | ⟨_, h1⟩
      · exact h1
      · exact h1.elim
    rw [h1] at h
    obtain ⟨e1, _⟩ := tx_back i4 h1
    obtain ⟨e2, _⟩ := tx_back b4 h
    refine ⟨by simp [i1], by simp [i2], i3, txS_byte b4, ?_⟩
    rw [leafB_snoc i1 i2, List.append_assoc, List.append_assoc, ← e2, ← e1]
    exact i5
theorem enc_dec_inner {r : List Nat} (hb : ∀ c ∈ r, c ≤ 255) : ∀ j, (diter false j (dst0 false r)).b = false →
    (diter false j (dst0 false r)).ks.length = j ∧ (diter false j (dst0 false r)).vs = [] ∧ (diter false j (dst0 false r)).ps.length = j + 1 ∧ (∀ c ∈ (diter false j (dst0 false r)).s, c ≤ 255) ∧ (ptAt (diter false j (dst0 false r)).ps 0).B ++ kidB (diter false j (dst0 false r)).ks (diter false j (dst0 false r)).ps j ++ (diter false j (dst0 false r)).s = r
  | 0, h => by
    have h' : kdB r false = false := h
    obtain ⟨e, _⟩ := kd_back hb h'
    refine ⟨rfl, rfl, rfl, rsS_byte hb, ?_⟩
    show (ptAt [kdV r] 0).B ++ kidB [] [kdV r] 0 ++ rsS 16 r = r
    rw [show ptAt [kdV r] 0 = kdV r from rfl, show kidB [] [kdV r] 0 = [] from rfl, List.append_nil]
    exact e.symm
  | j + 1, h => by
    have hd : diter false (j + 1) (dst0 false r) = dstep false (diter false j (dst0 false r)) := rfl
    have hpb : (diter false j (dst0 false r)).b = false := by
      cases hc : (diter false j (dst0 false r)).b with
      | false => rfl
      | true =>
        rw [hd] at h
        unfold dstep at h
        rw [if_pos hc, hc] at h
        cases h
    obtain ⟨i1, i2, i3, i4, i5⟩ := enc_dec_inner hb j hpb
    rw [hd] at h ⊢
    generalize diter false j (dst0 false r) = D at *
    unfold dstep at h ⊢
    rw [if_neg (by rw [hpb]; simp), if_neg (by simp)] at h ⊢
    simp only at h ⊢
    rw [hpb] at h
    have b4 := txS_byte i4
    obtain ⟨e2, h1⟩ := kd_back b4 h
    obtain ⟨e1, _⟩ := tx_back i4 h1
    refine ⟨by simp [i1], i2, by simp [i3], rsS_byte b4, ?_⟩
    rw [kidB_snoc i1 i3, ptAt_snoc (by omega)]
    simp only [List.append_assoc] at i5 ⊢
    rw [← e2, ← e1]
    exact i5
/-- Encode of Decode -/
theorem enc_dec {lf : Bool} {s : List Nat} (hb : ∀ c ∈ s, c ≤ 255) (h : DecOk lf s) : encB lf (dall lf s).ks (dall lf s).vs (dall lf s).ps = s := by
  obtain ⟨h1, h2, h3, h4, h5⟩ := h
  match s, h1 with
  | c0 :: c1 :: r, _ =>
    have b0 := hb c0 (by simp)
    have b1 := hb c1 (by simp)
    have hr : ∀ c ∈ r, c ≤ 255 := fun c hc => hb c (by simp [hc])
    have hcnt : (c0 * 256 + c1) / 256 % 256 = c0 ∧ (c0 * 256 + c1) % 256 = c1 := by omega
    have hD : dall lf (c0 :: c1 :: r) = diter lf (c0 * 256 + c1) (dst0 lf r) := rfl
    rw [hD] at h2 h3 ⊢
    cases lf with
    | true =>
      obtain ⟨i1, i2, i3, i4, i5⟩ := enc_dec_leaf hr _ h2
      unfold encB bodyB headB
      rw [i1, hcnt.1, hcnt.2, if_pos rfl]
      rw [h3, List.append_nil] at i5
      rw [i5]
      rfl
    | false =>
      obtain ⟨i1, i2, i3, i4, i5⟩ := enc_dec_inner hr _ h2
      unfold encB bodyB headB
      rw [i1, hcnt.1, hcnt.2, if_neg (by simp)]
      rw [h3, List.append_nil] at i5
      rw [i5]
      rfl
end
end Go.Jt
