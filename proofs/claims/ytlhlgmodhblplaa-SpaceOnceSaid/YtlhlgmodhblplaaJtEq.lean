/-
  '==' of structs whose cells are numbers, strings and bools: the abstract comparison, cell by cell, is true to the model's.
-/
import Derived.Test.YtlhlgmodhblplaaJtOps9
import Derived.Laws.StructEq
import Derived.ChangeKeysEq
set_option autoImplicit false
set_option linter.all false
namespace Go.Jt
open Go.RowKit (Below)
noncomputable section
variable [Gl]

section
variable {P : Program} {ι : Io} {w : World}

theorem eqS_nil (a b : List AV) (k : Bool → Bool) : eqS [] a b k = k true := rfl
theorem eqS_cons (c : Nat) (sh : List Nat) (a b : List AV) (k : Bool → Bool) : eqS (c :: sh) a b k = (match a, b with
    | x :: a, y :: b => (match x, y with
      | .int q m, .int r n => cond (Nat.beq c 0) (cond (Nat.beq (ikN q) (ikN r)) (cond (ieq m n) (eqS sh a b k) (k false)) false) false
      | .str m, .str n => cond (Nat.beq c 1) (cond (seq m n) (eqS sh a b k) (k false)) false
      | .bool m, .bool n => cond (Nat.beq c 2) (cond (cond m n (!n)) (eqS sh a b k) (k false)) false
      | _, _ => false)
    | _, _ => false) := rfl
theorem eqS_app : ∀ (s1 s2 : List Nat) (a b : List AV) (k : Bool → Bool), eqS (s1 ++ s2) a b k = eqS s1 a b (fun t => cond t (eqS s2 (a.drop s1.length) (b.drop s1.length) k) (k false))
  | [], s2, a, b, k => rfl
  | c :: s1, s2, a, b, k => by
    rw [List.cons_append, eqS_cons, eqS_cons]
    cases a with
    | nil => rfl
    | cons x a =>
      cases b with
      | nil => rfl
      | cons y b =>
        simp only [List.length_cons, List.drop_succ_cons]
        cases x <;> cases y <;> first | rfl | (simp only [eqS_app s1 s2 a b k, cond_false])
/-- parts of two rows, by their type's shape -/
def partsR (ι : Io) (l : List AV) (c : Array Value) (off n : Nat) : Prop := off + n ≤ c.size ∧ ∀ i, i < n → VR ι (l.getD i .undef) (c.getD (off + i) Go.undef)
theorem run_part1 {t : TypeId} {u : TypeDesc} {c : Array Value} {off : Nat} (hu : P.underlying t = some u) (hag : isAggT P t = false) (h : off < c.size) : (part t c off).run P w = .ok (c.getD off Go.undef) w := by
  simp only [part, Sem.run_bind, run_isAgg hu, hag, Result.andThen_ok, Bool.false_eq_true, if_false]
  rw [getD_in c off h]
  rfl
theorem eqS_one {c : Nat} {la lb : List AV} {K : Bool → Bool} (h : eqS [c] la lb K = true) :
    (∃ q m n la' lb', c = 0 ∧ la = .int q m :: la' ∧ lb = .int q n :: lb' ∧ K (ieq m n) = true) ∨ (∃ m n la' lb', c = 1 ∧ la = .str m :: la' ∧ lb = .str n :: lb' ∧ K (seq m n) = true) ∨
    (∃ m n la' lb', c = 2 ∧ la = .bool m :: la' ∧ lb = .bool n :: lb' ∧ K (cond m n (!n)) = true) := by
  rw [eqS_cons] at h
  split at h
  · split at h
    · rename_i q m r n
      obtain ⟨h1, h2⟩ := cond_true_inv h
      obtain ⟨h3, h4⟩ := cond_true_inv h2
      have hq := ikN_inj h3
      subst hq
      refine Or.inl ⟨_, m, n, _, _, Nat.eq_of_beq_eq_true h1, rfl, rfl, ?_⟩
      cases hb : ieq m n <;> rw [hb] at h4 <;> exact h4
    · rename_i m n
      obtain ⟨h1, h4⟩ := cond_true_inv h
      refine Or.inr (Or.inl ⟨m, n, _, _, Nat.eq_of_beq_eq_true h1, rfl, rfl, ?_⟩)
      cases hb : seq m n <;> rw [hb] at h4 <;> exact h4
    · rename_i m n
      obtain ⟨h1, h4⟩ := cond_true_inv h
      refine Or.inr (Or.inr ⟨m, n, _, _, Nat.eq_of_beq_eq_true h1, rfl, rfl, ?_⟩)
      cases hb : cond m n (!n) <;> rw [hb] at h4 <;> exact h4
    · cases h
  · cases h
theorem partsR.one {x : AV} {l : List AV} {c : Array Value} {off : Nat} (h : partsR ι (x :: l) c off 1) : off < c.size ∧ VR ι x (c.getD off Go.undef) := ⟨by have := h.1; omega, h.2 0 (by omega)⟩
theorem fields_sound (w : World) {d D : Nat} (ih : ∀ (t : TypeId) (sh : List Nat), shapeT P d t = some sh → ∀ (off : Nat) (A B : Array Value) (la lb : List AV) (K : Bool → Bool), partsR ι la A off sh.length → partsR ι lb B off sh.length → eqS sh la lb K = true →
    ∃ v1 v2 r, (part t A off).run P w = .ok v1 w ∧ (part t B off).run P w = .ok v2 w ∧ (Op.equalIn D t v1 v2).run P w = .ok r w ∧ K r = true) :
    ∀ (fs : List Field) (o : Nat) (s : List Nat) (xs ys : Array Value) (la lb : List AV) (K : Bool → Bool), shapeFs (shapeT P d) fs o = some s → partsR ι la xs o s.length → partsR ι lb ys o s.length → eqS s la lb K = true →
    ∃ r, (Op.eqFields D xs ys fs).run P w = .ok r w ∧ K r = true
  | [], o, s, xs, ys, la, lb, K, h, _, _, hx => by cases h; exact ⟨true, rfl, hx⟩
  | f :: fs, o, s, xs, ys, la, lb, K, h, hA, hB, hx => by
    unfold shapeFs at h
    cases hn : (f.name == "_") with
    | true => rw [hn] at h; cases h
    | false =>
    rw [hn] at h
    cases ho : Nat.beq f.offset o with
    | false => rw [ho] at h; cases h
    | true =>
    rw [ho] at h
    have hoff := Nat.eq_of_beq_eq_true ho
    simp only [cond_true, cond_false] at h
    split at h
    · rename_i s1 h1
      split at h
      · rename_i s2 h2
        cases h
        rw [eqS_app] at hx
        rw [List.length_append] at hA hB
        obtain ⟨v1, v2, r, p1, p2, p3, p4⟩ := ih f.type s1 h1 o xs ys la lb _ ⟨by have := hA.1; omega, fun i hi => hA.2 i (by omega)⟩ ⟨by have := hB.1; omega, fun i hi => hB.2 i (by omega)⟩ hx
        have hne : f.name ≠ "_" := fun e => by rw [e] at hn; simp at hn
        have drop : ∀ {l : List AV} {c : Array Value}, partsR ι l c o (s1.length + s2.length) → partsR ι (l.drop s1.length) c (o + s1.length) s2.length := fun {l c} hp => ⟨by have := hp.1; omega, fun i hi => by
          have := hp.2 (s1.length + i) (by omega)
          rw [List.getD_eq_getElem?_getD] at this
          rw [List.getD_eq_getElem?_getD, List.getElem?_drop, Nat.add_assoc]
          exact this⟩
        cases r with
        | false =>
          refine ⟨false, ?_, p4⟩
          simp only [Op.eqFields, if_pos hne, Sem.run_bind, hoff, p1, p2, p3, Result.andThen_ok, Bool.not_false, if_true, Sem.run_pure]
        | true =>
          obtain ⟨r2, q1, q2⟩ := fields_sound w ih fs (o + s1.length) s2 xs ys _ _ K h2 (drop hA) (drop hB) p4
          refine ⟨r2, ?_, q2⟩
          simp only [Op.eqFields, if_pos hne, Sem.run_bind, hoff, p1, p2, p3, Result.andThen_ok, Bool.not_true, Bool.false_eq_true, if_false]
          exact q1
      · cases h
    · cases h
theorem timesN_len (n : Nat) (s : List Nat) : (timesN n s).length = n * s.length := by
  induction n with
  | zero => show ([] : List Nat).length = _; simp
  | succ n ih =>
    show (s ++ timesN n s).length = _
    rw [List.length_append, ih, Nat.succ_mul, Nat.add_comm]
theorem items_sound (w : World) {D : Nat} {e : TypeId} {s : List Nat} {xs ys : Array Value} (ih : ∀ (off : Nat) (la lb : List AV) (K : Bool → Bool), partsR ι la xs off s.length → partsR ι lb ys off s.length → eqS s la lb K = true →
    ∃ v1 v2 r, (part e xs off).run P w = .ok v1 w ∧ (part e ys off).run P w = .ok v2 w ∧ (Op.equalIn D e v1 v2).run P w = .ok r w ∧ K r = true) :
    ∀ (m j : Nat) (la lb : List AV) (K : Bool → Bool), partsR ι la xs (j * s.length) (m * s.length) → partsR ι lb ys (j * s.length) (m * s.length) → eqS (timesN m s) la lb K = true →
    ∃ r, (Op.eqItems D e s.length xs ys (List.range' j m)).run P w = .ok r w ∧ K r = true
  | 0, j, la, lb, K, _, _, hx => ⟨true, rfl, hx⟩
  | m + 1, j, la, lb, K, hA, hB, hx => by
    have hx' : eqS (s ++ timesN m s) la lb K = true := hx
    rw [eqS_app] at hx'
    rw [Nat.succ_mul] at hA hB
    obtain ⟨v1, v2, r, p1, p2, p3, p4⟩ := ih (j * s.length) la lb _ ⟨by have := hA.1; omega, fun i hi => hA.2 i (by omega)⟩ ⟨by have := hB.1; omega, fun i hi => hB.2 i (by omega)⟩ hx'
    have drop : ∀ {l : List AV} {c : Array Value}, partsR ι l c (j * s.length) (m * s.length + s.length) → partsR ι (l.drop s.length) c ((j + 1) * s.length) (m * s.length) := fun {l c} hp => ⟨by have := hp.1; rw [Nat.succ_mul]; omega, fun i hi => by
      have := hp.2 (s.length + i) (by omega)
      rw [List.getD_eq_getElem?_getD] at this
      rw [List.getD_eq_getElem?_getD, List.getElem?_drop, Nat.succ_mul, Nat.add_assoc]
      exact this⟩
    rw [List.range'_succ]
    cases r with
    | false =>
      refine ⟨false, ?_, p4⟩
      simp only [Op.eqItems, Sem.run_bind, p1, p2, p3, Result.andThen_ok, Bool.not_false, if_true, Sem.run_pure]
    | true =>
      obtain ⟨r2, q1, q2⟩ := items_sound w ih m (j + 1) _ _ K (drop hA) (drop hB) p4
      refine ⟨r2, ?_, q2⟩
      simp only [Op.eqItems, Sem.run_bind, p1, p2, p3, Result.andThen_ok, Bool.not_true, Bool.false_eq_true, if_false]
      exact q1
theorem eqIn_sound (w : World) : ∀ (d : Nat) (t : TypeId) (sh : List Nat), shapeT P d t = some sh → ∀ (D : Nat), d ≤ D → ∀ (off : Nat) (A B : Array Value) (la lb : List AV) (K : Bool → Bool), partsR ι la A off sh.length → partsR ι lb B off sh.length → eqS sh la lb K = true →
    ∃ v1 v2 r, (part t A off).run P w = .ok v1 w ∧ (part t B off).run P w = .ok v2 w ∧ (Op.equalIn D t v1 v2).run P w = .ok r w ∧ K r = true
  | 0, t, sh, h, _, _, _, _, _, _, _, _, _, _, _ => by cases h
  | d + 1, t, sh, h, 0, hD, _, _, _, _, _, _, _, _, _ => by omega
  | d + 1, t, sh, h, D + 1, hD, off, A, B, la, lb, K, hA, hB, hx => by
    unfold shapeT at h
    split at h
    · rename_i hu
      cases h
      have hag : isAggT P t = false := by simp [isAggT, hu]
      rcases eqS_one hx with ⟨_, _, _, _, _, hc, _⟩ | ⟨_, _, _, _, hc, _⟩ | ⟨m, n, la', lb', _, rfl, rfl, hk⟩
      · cases hc
      · cases hc
      obtain ⟨a1, a2⟩ := hA.one
      obtain ⟨b1, b2⟩ := hB.one
      have e1 := a2.bool_inv
      have e2 := b2.bool_inv
      refine ⟨_, _, (m == n), run_part1 hu hag a1, run_part1 hu hag b1, ?_, ?_⟩
      · rw [e1, e2]; exact run_equalIn_bool' w D t m n hu
      · cases m <;> cases n <;> exact hk
    · rename_i k hu
      cases h
      have hag : isAggT P t = false := by simp [isAggT, hu]
      rcases eqS_one hx with ⟨q, m, n, la', lb', _, rfl, rfl, hk⟩ | ⟨_, _, _, _, hc, _⟩ | ⟨_, _, _, _, hc, _⟩
      · obtain ⟨a1, a2⟩ := hA.one
        obtain ⟨b1, b2⟩ := hB.one
        have e1 := a2.int_inv
        have e2 := b2.int_inv
        refine ⟨_, _, (m == n), run_part1 hu hag a1, run_part1 hu hag b1, ?_, ?_⟩
        · rw [e1, e2]; exact run_equalIn_int w D t q k m n hu
        · rw [ieq_eq] at hk; exact hk
      · cases hc
      · cases hc
    · rename_i hu
      cases h
      have hag : isAggT P t = false := by simp [isAggT, hu]
      rcases eqS_one hx with ⟨_, _, _, _, _, hc, _⟩ | ⟨m, n, la', lb', _, rfl, rfl, hk⟩ | ⟨_, _, _, _, hc, _⟩
      · cases hc
      · obtain ⟨a1, a2⟩ := hA.one
        obtain ⟨b1, b2⟩ := hB.one
        obtain ⟨s1, e1, rfl⟩ := a2.str_inv
        obtain ⟨s2, e2, rfl⟩ := b2.str_inv
        refine ⟨_, _, (s1.toList == s2.toList), run_part1 hu hag a1, run_part1 hu hag b1, ?_, ?_⟩
        · rw [e1, e2]; exact run_equalIn_string w D t s1 s2 hu
        · rw [bytesOf_eq] at hk; exact hk
      · cases hc
    · rename_i fs hu
      cases hst : P.stoodInHeld t with
      | true => rw [hst] at h; cases h
      | false =>
      rw [hst] at h
      simp only [cond_false] at h
      split at h
      · rename_i s i hs hi
        cases hl : Nat.beq s.length i.size with
        | false => rw [hl] at h; cases h
        | true =>
        rw [hl] at h
        cases h
        have hsz := Nat.eq_of_beq_eq_true hl
        have hag : isAggT P t = true := by simp [isAggT, hu]
        have hfo : P.fieldsOf t = fs := by simp [Program.fieldsOf, hu]
        have rp : ∀ c : Array Value, (part t c off).run P w = .ok (.agg (c.extract off (off + i.size))) w := fun c => by
          simp only [part, Sem.run_bind, run_isAgg hu, hag, Result.andThen_ok, if_true, run_size hi]
          rfl
        have ex : ∀ {l : List AV} {c : Array Value}, partsR ι l c off sh.length → partsR ι l (c.extract off (off + i.size)) 0 sh.length := fun {l c} hp => by
          have h1 := hp.1
          have hsz2 : (c.extract off (off + i.size)).size = i.size := by simp; omega
          refine ⟨by omega, fun j hj => ?_⟩
          have h2 := hp.2 j hj
          have g : (c.extract off (off + i.size)).getD (0 + j) Go.undef = c.getD (off + j) Go.undef := by
            have a1 : 0 + j < (c.extract off (off + i.size)).size := by omega
            have a2 : off + j < c.size := by omega
            simp only [Array.getD_eq_getD_getElem?, Array.getElem?_eq_getElem a1, Array.getElem?_eq_getElem a2, Array.getElem_extract, Option.getD_some]
            congr 1; omega
          rw [g]; exact h2
        obtain ⟨r, q1, q2⟩ := fields_sound w (D := D) (fun t' sh' h' off' A' B' la' lb' K' => eqIn_sound w d t' sh' h' D (by omega) off' A' B' la' lb' K') fs.toList 0 sh _ _ la lb K hs (ex hA) (ex hB) hx
        refine ⟨_, _, r, rp A, rp B, ?_, q2⟩
        rw [run_equalIn_struct w D t _ _ (by rw [hfo]; exact hu) hst, hfo]
        exact q1
      · cases h
    · rename_i n e hu
      split at h
      · rename_i s j i hs hj hi
        cases hl1 : Nat.beq s.length j.size with
        | false => rw [hl1] at h; cases h
        | true =>
        rw [hl1] at h
        cases hl : Nat.beq (n * s.length) i.size with
        | false => rw [hl] at h; cases h
        | true =>
        rw [hl] at h
        cases h
        rw [timesN_len] at hA hB
        have hsz := Nat.eq_of_beq_eq_true hl
        have hsz1 := Nat.eq_of_beq_eq_true hl1
        have hag : isAggT P t = true := by simp [isAggT, hu]
        have rp : ∀ c : Array Value, (part t c off).run P w = .ok (.agg (c.extract off (off + i.size))) w := fun c => by
          simp only [part, Sem.run_bind, run_isAgg hu, hag, Result.andThen_ok, if_true, run_size hi]
          rfl
        have ex : ∀ {l : List AV} {c : Array Value}, partsR ι l c off (n * s.length) → partsR ι l (c.extract off (off + i.size)) (0 * s.length) (n * s.length) := fun {l c} hp => by
          have h1 := hp.1
          have hsz2 : (c.extract off (off + i.size)).size = i.size := by simp; omega
          rw [Nat.zero_mul]
          refine ⟨by omega, fun j hj => ?_⟩
          have h2 := hp.2 j hj
          have g : (c.extract off (off + i.size)).getD (0 + j) Go.undef = c.getD (off + j) Go.undef := by
            have a1 : 0 + j < (c.extract off (off + i.size)).size := by omega
            have a2 : off + j < c.size := by omega
            simp only [Array.getD_eq_getD_getElem?, Array.getElem?_eq_getElem a1, Array.getElem?_eq_getElem a2, Array.getElem_extract, Option.getD_some]
            congr 1; omega
          rw [g]; exact h2
        obtain ⟨r, q1, q2⟩ := items_sound w (D := D) (e := e) (s := s) (xs := A.extract off (off + i.size)) (ys := B.extract off (off + i.size)) (fun off' la' lb' K' => eqIn_sound w d e s hs D (by omega) off' _ _ la' lb' K') n 0 la lb K (ex hA) (ex hB) hx
        refine ⟨_, _, r, rp A, rp B, ?_, q2⟩
        have hce : P.cellsOf e = s.length := by rw [hsz1]; simp [Program.cellsOf, hj]
        rw [run_equalIn_array w D _ _ hu hj, hce, List.range_eq_range']
        exact q1
      · cases h
    · cases h
theorem sound_eqa {base : Nat} {H : AH} {k : AV → AH → Bool} {env : Env} {a : Act} (o : Oper) (op : BinOp) (t u : TypeId) (x y : Operand) (sh : List Nat) (ho : o.op = .binOp op t x y u) (hop : isEq op = true) (hag : isAggT P t = true) (hsh : shapeT P 20 t = some sh) (hg : P.eqGuardType P.depth t = false)
    (hr : HR P base ι H w) (he : rowR ι env a.tmps) (hx : xop (.eqa (isNeq op) sh (od x) (od y)) env H k = true) : Res P base ι H w k ((execOp a.eval o).run P w) := by
  simp only [xop] at hx
  have hv := ev_sound he x
  have hw := ev_sound he y
  generalize hxv : a.eval x = xv at hv
  generalize hyv : a.eval y = yv at hw
  split at hx
  · rename_i ra rb e1 e2
    rw [e1] at hv
    rw [e2] at hw
    obtain ⟨xs, rfl, hxs⟩ := hv.agg_inv
    obtain ⟨ys, rfl, hys⟩ := hw.agg_inv
    obtain ⟨h1, h2⟩ := cond_true_inv hx
    obtain ⟨h3, h4⟩ := cond_true_inv h2
    have h1' := Nat.eq_of_beq_eq_true h1
    have h3' := Nat.eq_of_beq_eq_true h3
    rw [llen_eq, Nat.add_zero, Rp.len_eq ra hxs.1, hxs.2.1] at h1'
    rw [llen_eq, Nat.add_zero, Rp.len_eq rb hys.1, hys.2.1] at h3'
    obtain ⟨v1, v2, r, p1, p2, p3, p4⟩ := eqIn_sound w 20 t sh hsh 10000 (by omega) 0 xs ys ra.toL rb.toL _ ⟨by omega, fun i hi => by rw [Nat.zero_add]; exact hxs.2.2.1 i⟩ ⟨by omega, fun i hi => by rw [Nat.zero_add]; exact hys.2.2.1 i⟩ h4
    have whole : ∃ i, P.info? t = some i ∧ i.size = sh.length ∧ ∃ d, P.underlying t = some d := by
      rw [show (20 : Nat) = 19 + 1 from rfl] at hsh
      unfold shapeT at hsh
      split at hsh
      · rename_i hu; simp [isAggT, hu] at hag
      · rename_i hu; simp [isAggT, hu] at hag
      · rename_i hu; simp [isAggT, hu] at hag
      · rename_i fs hu
        cases hst : P.stoodInHeld t with
        | true => rw [hst] at hsh; cases hsh
        | false =>
        rw [hst] at hsh
        simp only [cond_false] at hsh
        split at hsh
        · rename_i s i hs hi
          cases hl : Nat.beq s.length i.size with
          | false => rw [hl] at hsh; cases hsh
          | true =>
          rw [hl] at hsh
          cases hsh
          exact ⟨i, hi, (Nat.eq_of_beq_eq_true hl).symm, _, hu⟩
        · cases hsh
      · rename_i n e hu
        split at hsh
        · rename_i s j i hs hj hi
          cases hl1 : Nat.beq s.length j.size with
          | false => rw [hl1] at hsh; cases hsh
          | true =>
          rw [hl1] at hsh
          cases hl : Nat.beq (n * s.length) i.size with
          | false => rw [hl] at hsh; cases hsh
          | true =>
          rw [hl] at hsh
          cases hsh
          exact ⟨i, hi, by rw [timesN_len]; exact (Nat.eq_of_beq_eq_true hl).symm, _, hu⟩
        · cases hsh
      · cases hsh
    obtain ⟨i, hi, hsz, d, hu⟩ := whole
    have rp : ∀ c : Array Value, c.size = sh.length → (part t c 0).run P w = .ok (.agg c) w := fun c hc => by
      simp only [part, Sem.run_bind, run_isAgg hu, hag, Result.andThen_ok, if_true, run_size hi, Sem.run_pure, Nat.zero_add]
      rw [hsz, ← hc, Array.extract_size]
    rw [rp xs h1'] at p1
    rw [rp ys h3'] at p2
    cases p1
    cases p2
    have hq := run_eqGuard_agg (P := P) w op t x y xs ys hg
    cases op <;> first | (cases hop; done) | skip
    · refine Res.pure hr (cv := .bool r) ?_ (.bool r) p4
      simp only [execOp, ho, hxv, hyv, Sem.run_bind, hq, Result.andThen_ok, run_eql_struct, p3]
      rfl
    · refine Res.pure hr (cv := .bool (!r)) ?_ (.bool (!r)) p4
      simp only [execOp, ho, hxv, hyv, Sem.run_bind, hq, Result.andThen_ok, run_neq_struct, p3]
      rfl
  · cases hx
end
end
end Go.Jt
