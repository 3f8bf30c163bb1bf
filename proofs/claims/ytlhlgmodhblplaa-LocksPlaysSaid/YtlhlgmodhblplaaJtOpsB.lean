/-
  '==' of structs whose cells are numbers, strings and bools: the abstract comparison, cell by cell, is true to the model's.
-/
import Derived.Test.YtlhlgmodhblplaaJtOpsA
import Derived.Laws.StructEq
import Derived.ChangeKeysEq
import Derived.MapKept
import Derived.Lib.SlicesS
set_option autoImplicit false
set_option linter.all false
namespace Go.Jt
open Go.RowKit (Below)
noncomputable section
variable [Gl]

section
variable {P : Program} {ι : Io} {w : World}

theorem eqS_nil (a b : List AV) (k : Bool → Bool) : eqS [] a b k = k true := rfl
theorem eqS_cons (c : Nat) (sh : List Nat) (a b : List AV) (k : Bool → Bool) : eqS (c :: sh) a b k = (match a, b with
    | x :: a, y :: b => (match x, y with
      | .int q m, .int r n => cond (Nat.beq c 0) (cond (Nat.beq (ikN q) (ikN r)) (cond (ieq m n) (eqS sh a b k) (k false)) false) false
      | .str m, .str n => cond (Nat.beq c 1) (cond (seq m n) (eqS sh a b k) (k false)) false
      | .bool m, .bool n => cond (Nat.beq c 2) (cond (cond m n (!n)) (eqS sh a b k) (k false)) false
      | _, _ => false)
    | _, _ => false) := rfl
theorem eqS_app : ∀ (s1 s2 : List Nat) (a b : List AV) (k : Bool → Bool), eqS (s1 ++ s2) a b k = eqS s1 a b (fun t => cond t (eqS s2 (a.drop s1.length) (b.drop s1.length) k) (k false))
  | [], s2, a, b, k => rfl
  | c :: s1, s2, a, b, k => by
    rw [List.cons_append, eqS_cons, eqS_cons]
    cases a with
    | nil => rfl
    | cons x a =>
      cases b with
      | nil => rfl
      | cons y b =>
        simp only [List.length_cons, List.drop_succ_cons]
        cases x <;> cases y <;> first | rfl | (simp only [eqS_app s1 s2 a b k, cond_false])
/-- parts of two rows, by their type's shape -/
def partsR (ι : Io) (l : List AV) (c : Array Value) (off n : Nat) : Prop := off + n ≤ c.size ∧ ∀ i, i < n → VR ι (l.getD i .undef) (c.getD (off + i) Go.undef)
theorem run_part1 {t : TypeId} {u : TypeDesc} {c : Array Value} {off : Nat} (hu : P.underlying t = some u) (hag : isAggT P t = false) (h : off < c.size) : (part t c off).run P w = .ok (c.getD off Go.undef) w := by
  simp only [part, Sem.run_bind, run_isAgg hu, hag, Result.andThen_ok, Bool.false_eq_true, if_false]
  rw [getD_in c off h]
  rfl
theorem eqS_one {c : Nat} {la lb : List AV} {K : Bool → Bool} (h : eqS [c] la lb K = true) :
    (∃ q m n la' lb', c = 0 ∧ la = .int q m :: la' ∧ lb = .int q n :: lb' ∧ K (ieq m n) = true) ∨ (∃ m n la' lb', c = 1 ∧ la = .str m :: la' ∧ lb = .str n :: lb' ∧ K (seq m n) = true) ∨
    (∃ m n la' lb', c = 2 ∧ la = .bool m :: la' ∧ lb = .bool n :: lb' ∧ K (cond m n (!n)) = true) := by
  rw [eqS_cons] at h
  split at h
  · split at h
    · rename_i q m r n
      obtain ⟨h1, h2⟩ := cond_true_inv h
      obtain ⟨h3, h4⟩ := cond_true_inv h2
      have hq := ikN_inj h3
      subst hq
      refine Or.inl ⟨_, m, n, _, _, Nat.eq_of_beq_eq_true h1, rfl, rfl, ?_⟩
      cases hb : ieq m n <;> rw [hb] at h4 <;> exact h4
    · rename_i m n
      obtain ⟨h1, h4⟩ := cond_true_inv h
      refine Or.inr (Or.inl ⟨m, n, _, _, Nat.eq_of_beq_eq_true h1, rfl, rfl, ?_⟩)
      cases hb : seq m n <;> rw [hb] at h4 <;> exact h4
    · rename_i m n
      obtain ⟨h1, h4⟩ := cond_true_inv h
      refine Or.inr (Or.inr ⟨m, n, _, _, Nat.eq_of_beq_eq_true h1, rfl, rfl, ?_⟩)
      cases hb : cond m n (!n) <;> rw [hb] at h4 <;> exact h4
    · cases h
  · cases h
theorem partsR.one {x : AV} {l : List AV} {c : Array Value} {off : Nat} (h : partsR ι (x :: l) c off 1) : off < c.size ∧ VR ι x (c.getD off Go.undef) := ⟨by have := h.1; omega, h.2 0 (by omega)⟩
theorem fields_sound (w : World) {d D : Nat} (ih : ∀ (t : TypeId) (sh : List Nat), shapeT P d t = some sh → ∀ (off : Nat) (A B : Array Value) (la lb : List AV) (K : Bool → Bool), partsR ι la A off sh.length → partsR ι lb B off sh.length → eqS sh la lb K = true →
    ∃ v1 v2 r, (part t A off).run P w = .ok v1 w ∧ (part t B off).run P w = .ok v2 w ∧ (Op.equalIn D t v1 v2).run P w = .ok r w ∧ K r = true) :
    ∀ (fs : List Field) (o : Nat) (s : List Nat) (xs ys : Array Value) (la lb : List AV) (K : Bool → Bool), shapeFs (shapeT P d) fs o = some s → partsR ι la xs o s.length → partsR ι lb ys o s.length → eqS s la lb K = true →
    ∃ r, (Op.eqFields D xs ys fs).run P w = .ok r w ∧ K r = true
  | [], o, s, xs, ys, la, lb, K, h, _, _, hx => by cases h; exact ⟨true, rfl, hx⟩
  | f :: fs, o, s, xs, ys, la, lb, K, h, hA, hB, hx => by
    unfold shapeFs at h
    cases hn : (f.name == "_") with
    | true => rw [hn] at h; cases h
    | false =>
    rw [hn] at h
    cases ho : Nat.beq f.offset o with
    | false => rw [ho] at h; cases h
    | true =>
    rw [ho] at h
    have hoff := Nat.eq_of_beq_eq_true ho
    simp only [cond_true, cond_false] at h
    split at h
    · rename_i s1 h1
      split at h
      · rename_i s2 h2
        cases h
        rw [eqS_app] at hx
        rw [List.length_append] at hA hB
        obtain ⟨v1, v2, r, p1, p2, p3, p4⟩ := ih f.type s1 h1 o xs ys la lb _ ⟨by have := hA.1; omega, fun i hi => hA.2 i (by omega)⟩ ⟨by have := hB.1; omega, fun i hi => hB.2 i (by omega)⟩ hx
        have hne : f.name ≠ "_" := fun e => by rw [e] at hn; simp at hn
        have drop : ∀ {l : List AV} {c : Array Value}, partsR ι l c o (s1.length + s2.length) → partsR ι (l.drop s1.length) c (o + s1.length) s2.length := fun {l c} hp => ⟨by have := hp.1; omega, fun i hi => by
          have := hp.2 (s1.length + i) (by omega)
          rw [List.getD_eq_getElem?_getD] at this
          rw [List.getD_eq_getElem?_getD, List.getElem?_drop, Nat.add_assoc]
          exact this⟩
        cases r with
        | false =>
          refine ⟨false, ?_, p4⟩
          simp only [Op.eqFields, if_pos hne, Sem.run_bind, hoff, p1, p2, p3, Result.andThen_ok, Bool.not_false, if_true, Sem.run_pure]
        | true =>
          obtain ⟨r2, q1, q2⟩ := fields_sound w ih fs (o + s1.length) s2 xs ys _ _ K h2 (drop hA) (drop hB) p4
          refine ⟨r2, ?_, q2⟩
          simp only [Op.eqFields, if_pos hne, Sem.run_bind, hoff, p1, p2, p3, Result.andThen_ok, Bool.not_true, Bool.false_eq_true, if_false]
          exact q1
      · cases h
    · cases h
theorem timesN_len (n : Nat) (s : List Nat) : (timesN n s).length = n * s.length := by
  induction n with
  | zero => show ([] : List Nat).length = _; simp
  | succ n ih =>
    show (s ++ timesN n s).length = _
    rw [List.length_append, ih, Nat.succ_mul, Nat.add_comm]
theorem items_sound (w : World) {D : Nat} {e : TypeId} {s : List Nat} {xs ys : Array Value} (ih : ∀ (off : Nat) (la lb : List AV) (K : Bool → Bool), partsR ι la xs off s.length → partsR ι lb ys off s.length → eqS s la lb K = true →
    ∃ v1 v2 r, (part e xs off).run P w = .ok v1 w ∧ (part e ys off).run P w = .ok v2 w ∧ (Op.equalIn D e v1 v2).run P w = .ok r w ∧ K r = true) :
    ∀ (m j : Nat) (la lb : List AV) (K : Bool → Bool), partsR ι la xs (j * s.length) (m * s.length) → partsR ι lb ys (j * s.length) (m * s.length) → eqS (timesN m s) la lb K = true →
    ∃ r, (Op.eqItems D e s.length xs ys (List.range' j m)).run P w = .ok r w ∧ K r = true
  | 0, j, la, lb, K, _, _, hx => ⟨true, rfl, hx⟩
  | m + 1, j, la, lb, K, hA, hB, hx => by
    have hx' : eqS (s ++ timesN m s) la lb K = true := hx
    rw [eqS_app] at hx'
    rw [Nat.succ_mul] at hA hB
    obtain ⟨v1, v2, r, p1, p2, p3, p4⟩ := ih (j * s.length) la lb _ ⟨by have := hA.1; omega, fun i hi => hA.2 i (by omega)⟩ ⟨by have := hB.1; omega, fun i hi => hB.2 i (by omega)⟩ hx'
    have drop : ∀ {l : List AV} {c : Array Value}, partsR ι l c (j * s.length) (m * s.length + s.length) → partsR ι (l.drop s.length) c ((j + 1) * s.length) (m * s.length) := fun {l c} hp => ⟨by have := hp.1; rw [Nat.succ_mul]; omega, fun i hi => by
      have := hp.2 (s.length + i) (by omega)
      rw [List.getD_eq_getElem?_getD] at this
      rw [List.getD_eq_getElem?_getD, List.getElem?_drop, Nat.succ_mul, Nat.add_assoc]
      exact this⟩
    rw [List.range'_succ]
    cases r with
    | false =>
      refine ⟨false, ?_, p4⟩
      simp only [Op.eqItems, Sem.run_bind, p1, p2, p3, Result.andThen_ok, Bool.not_false, if_true, Sem.run_pure]
    | true =>
      obtain ⟨r2, q1, q2⟩ := items_sound w ih m (j + 1) _ _ K (drop hA) (drop hB) p4
      refine ⟨r2, ?_, q2⟩
      simp only [Op.eqItems, Sem.run_bind, p1, p2, p3, Result.andThen_ok, Bool.not_true, Bool.false_eq_true, if_false]
      exact q1
theorem eqIn_sound (w : World) : ∀ (d : Nat) (t : TypeId) (sh : List Nat), shapeT P d t = some sh → ∀ (D : Nat), d ≤ D → ∀ (off : Nat) (A B : Array Value) (la lb : List AV) (K : Bool → Bool), partsR ι la A off sh.length → partsR ι lb B off sh.length → eqS sh la lb K = true →
    ∃ v1 v2 r, (part t A off).run P w = .ok v1 w ∧ (part t B off).run P w = .ok v2 w ∧ (Op.equalIn D t v1 v2).run P w = .ok r w ∧ K r = true
  | 0, t, sh, h, _, _, _, _, _, _, _, _, _, _, _ => by cases h
  | d + 1, t, sh, h, 0, hD, _, _, _, _, _, _, _, _, _ => by omega
  | d + 1, t, sh, h, D + 1, hD, off, A, B, la, lb, K, hA, hB, hx => by
    unfold shapeT at h
    split at h
    · rename_i hu
      cases h
      have hag : isAggT P t = false := by simp [isAggT, hu]
      rcases eqS_one hx with ⟨_, _, _, _, _, hc, _⟩ | ⟨_, _, _, _, hc, _⟩ | ⟨m, n, la', lb', _, rfl, rfl, hk⟩
      · cases hc
      · cases hc
      obtain ⟨a1, a2⟩ := hA.one
      obtain ⟨b1, b2⟩ := hB.one
      have e1 := a2.bool_inv
      have e2 := b2.bool_inv
      refine ⟨_, _, (m == n), run_part1 hu hag a1, run_part1 hu hag b1, ?_, ?_⟩
      · rw [e1, e2]; exact run_equalIn_bool' w D t m n hu
      · cases m <;> cases n <;> exact hk
    · rename_i k hu
      cases h
      have hag : isAggT P t = false := by simp [isAggT, hu]
      rcases eqS_one hx with ⟨q, m, n, la', lb', _, rfl, rfl, hk⟩ | ⟨_, _, _, _, hc, _⟩ | ⟨_, _, _, _, hc, _⟩
      · obtain ⟨a1, a2⟩ := hA.one
        obtain ⟨b1, b2⟩ := hB.one
        have e1 := a2.int_inv
        have e2 := b2.int_inv
        refine ⟨_, _, (m == n), run_part1 hu hag a1, run_part1 hu hag b1, ?_, ?_⟩
        · rw [e1, e2]; exact run_equalIn_int w D t q k m n hu
        · rw [ieq_eq] at hk; exact hk
      · cases hc
      · cases hc
    · rename_i hu
      cases h
      have hag : isAggT P t = false := by simp [isAggT, hu]
      rcases eqS_one hx with ⟨_, _, _, _, _, hc, _⟩ | ⟨m, n, la', lb', _, rfl, rfl, hk⟩ | ⟨_, _, _, _, hc, _⟩
      · cases hc
      · obtain ⟨a1, a2⟩ := hA.one
        obtain ⟨b1, b2⟩ := hB.one
        obtain ⟨s1, e1, rfl⟩ := a2.str_inv
        obtain ⟨s2, e2, rfl⟩ := b2.str_inv
        refine ⟨_, _, (s1.toList == s2.toList), run_part1 hu hag a1, run_part1 hu hag b1, ?_, ?_⟩
        · rw [e1, e2]; exact run_equalIn_string w D t s1 s2 hu
        · rw [bytesOf_eq] at hk; exact hk
      · cases hc
    · rename_i fs hu
      cases hst : P.stoodInHeld t with
      | true => rw [hst] at h; cases h
      | false =>
      rw [hst] at h
      simp only [cond_false] at h
      split at h
      · rename_i s i hs hi
        cases hl : Nat.beq s.length i.size with
        | false => rw [hl] at h; cases h
        | true =>
        rw [hl] at h
        cases h
        have hsz := Nat.eq_of_beq_eq_true hl
        have hag : isAggT P t = true := by simp [isAggT, hu]
        have hfo : P.fieldsOf t = fs := by simp [Program.fieldsOf, hu]
        have rp : ∀ c : Array Value, (part t c off).run P w = .ok (.agg (c.extract off (off + i.size))) w := fun c => by
          simp only [part, Sem.run_bind, run_isAgg hu, hag, Result.andThen_ok, if_true, run_size hi]
          rfl
        have ex : ∀ {l : List AV} {c : Array Value}, partsR ι l c off sh.length → partsR ι l (c.extract off (off + i.size)) 0 sh.length := fun {l c} hp => by
          have h1 := hp.1
          have hsz2 : (c.extract off (off + i.size)).size = i.size := by simp; omega
          refine ⟨by omega, fun j hj => ?_⟩
          have h2 := hp.2 j hj
          have g : (c.extract off (off + i.size)).getD (0 + j) Go.undef = c.getD (off + j) Go.undef := by
            have a1 : 0 + j < (c.extract off (off + i.size)).size := by omega
            have a2 : off + j < c.size := by omega
            simp only [Array.getD_eq_getD_getElem?, Array.getElem?_eq_getElem a1, Array.getElem?_eq_getElem a2, Array.getElem_extract, Option.getD_some]
            congr 1; omega
          rw [g]; exact h2
        obtain ⟨r, q1, q2⟩ := fields_sound w (D := D) (fun t' sh' h' off' A' B' la' lb' K' => eqIn_sound w d t' sh' h' D (by omega) off' A' B' la' lb' K') fs.toList 0 sh _ _ la lb K hs (ex hA) (ex hB) hx
        refine ⟨_, _, r, rp A, rp B, ?_, q2⟩
        rw [run_equalIn_struct w D t _ _ (by rw [hfo]; exact hu) hst, hfo]
        exact q1
      · cases h
    · rename_i n e hu
      split at h
      · rename_i s j i hs hj hi
        cases hl1 : Nat.beq s.length j.size with
        | false => rw [hl1] at h; cases h
        | true =>
        rw [hl1] at h
        cases hl : Nat.beq (n * s.length) i.size with
        | false => rw [hl] at h; cases h
        | true =>
        rw [hl] at h
        cases h
        rw [timesN_len] at hA hB
        have hsz := Nat.eq_of_beq_eq_true hl
        have hsz1 := Nat.eq_of_beq_eq_true hl1
        have hag : isAggT P t = true := by simp [isAggT, hu]
        have rp : ∀ c : Array Value, (part t c off).run P w = .ok (.agg (c.extract off (off + i.size))) w := fun c => by
          simp only [part, Sem.run_bind, run_isAgg hu, hag, Result.andThen_ok, if_true, run_size hi]
          rfl
        have ex : ∀ {l : List AV} {c : Array Value}, partsR ι l c off (n * s.length) → partsR ι l (c.extract off (off + i.size)) (0 * s.length) (n * s.length) := fun {l c} hp => by
          have h1 := hp.1
          have hsz2 : (c.extract off (off + i.size)).size = i.size := by simp; omega
          rw [Nat.zero_mul]
          refine ⟨by omega, fun j hj => ?_⟩
          have h2 := hp.2 j hj
          have g : (c.extract off (off + i.size)).getD (0 + j) Go.undef = c.getD (off + j) Go.undef := by
            have a1 : 0 + j < (c.extract off (off + i.size)).size := by omega
            have a2 : off + j < c.size := by omega
            simp only [Array.getD_eq_getD_getElem?, Array.getElem?_eq_getElem a1, Array.getElem?_eq_getElem a2, Array.getElem_extract, Option.getD_some]
            congr 1; omega
          rw [g]; exact h2
        obtain ⟨r, q1, q2⟩ := items_sound w (D := D) (e := e) (s := s) (xs := A.extract off (off + i.size)) (ys := B.extract off (off + i.size)) (fun off' la' lb' K' => eqIn_sound w d e s hs D (by omega) off' _ _ la' lb' K') n 0 la lb K (ex hA) (ex hB) hx
        refine ⟨_, _, r, rp A, rp B, ?_, q2⟩
        have hce : P.cellsOf e = s.length := by rw [hsz1]; simp [Program.cellsOf, hj]
        rw [run_equalIn_array w D _ _ hu hj, hce, List.range_eq_range']
        exact q1
      · cases h
    · cases h
theorem sound_eqa {base : Nat} {H : AH} {k : AV → AH → Bool} {env : Env} {a : Act} (o : Oper) (op : BinOp) (t u : TypeId) (x y : Operand) (sh : List Nat) (ho : o.op = .binOp op t x y u) (hop : isEq op = true) (hag : isAggT P t = true) (hsh : shapeT P 20 t = some sh) (hg : P.eqGuardType P.depth t = false)
    (hr : HR P base ι H w) (he : rowR ι env a.tmps) (hx : xop (.eqa (isNeq op) sh (od x) (od y)) env H k = true) : Res P base ι H w k ((execOp a.eval o).run P w) := by
  simp only [xop] at hx
  have hv := ev_sound he x
  have hw := ev_sound he y
  generalize hxv : a.eval x = xv at hv
  generalize hyv : a.eval y = yv at hw
  split at hx
  · rename_i ra rb e1 e2
    rw [e1] at hv
    rw [e2] at hw
    obtain ⟨xs, rfl, hxs⟩ := hv.agg_inv
    obtain ⟨ys, rfl, hys⟩ := hw.agg_inv
    obtain ⟨h1, h2⟩ := cond_true_inv hx
    obtain ⟨h3, h4⟩ := cond_true_inv h2
    have h1' := Nat.eq_of_beq_eq_true h1
    have h3' := Nat.eq_of_beq_eq_true h3
    rw [llen_eq, Nat.add_zero, Rp.len_eq ra hxs.1, hxs.2.1] at h1'
    rw [llen_eq, Nat.add_zero, Rp.len_eq rb hys.1, hys.2.1] at h3'
    obtain ⟨v1, v2, r, p1, p2, p3, p4⟩ := eqIn_sound w 20 t sh hsh 10000 (by omega) 0 xs ys ra.toL rb.toL _ ⟨by omega, fun i hi => by rw [Nat.zero_add]; exact hxs.2.2.1 i⟩ ⟨by omega, fun i hi => by rw [Nat.zero_add]; exact hys.2.2.1 i⟩ h4
    have whole : ∃ i, P.info? t = some i ∧ i.size = sh.length ∧ ∃ d, P.underlying t = some d := by
      rw [show (20 : Nat) = 19 + 1 from rfl] at hsh
      unfold shapeT at hsh
      split at hsh
      · rename_i hu; simp [isAggT, hu] at hag
      · rename_i hu; simp [isAggT, hu] at hag
      · rename_i hu; simp [isAggT, hu] at hag
      · rename_i fs hu
        cases hst : P.stoodInHeld t with
        | true => rw [hst] at hsh; cases hsh
        | false =>
        rw [hst] at hsh
        simp only [cond_false] at hsh
        split at hsh
        · rename_i s i hs hi
          cases hl : Nat.beq s.length i.size with
          | false => rw [hl] at hsh; cases hsh
          | true =>
          rw [hl] at hsh
          cases hsh
          exact ⟨i, hi, (Nat.eq_of_beq_eq_true hl).symm, _, hu⟩
        · cases hsh
      · rename_i n e hu
        split at hsh
        · rename_i s j i hs hj hi
          cases hl1 : Nat.beq s.length j.size with
          | false => rw [hl1] at hsh; cases hsh
          | true =>
          rw [hl1] at hsh
          cases hl : Nat.beq (n * s.length) i.size with
          | false => rw [hl] at hsh; cases hsh
          | true =>
          rw [hl] at hsh
          cases hsh
          exact ⟨i, hi, by rw [timesN_len]; exact (Nat.eq_of_beq_eq_true hl).symm, _, hu⟩
        · cases hsh
      · cases hsh
    obtain ⟨i, hi, hsz, d, hu⟩ := whole
    have rp : ∀ c : Array Value, c.size = sh.length → (part t c 0).run P w = .ok (.agg c) w := fun c hc => by
      simp only [part, Sem.run_bind, run_isAgg hu, hag, Result.andThen_ok, if_true, run_size hi, Sem.run_pure, Nat.zero_add]
      rw [hsz, ← hc, Array.extract_size]
    rw [rp xs h1'] at p1
    rw [rp ys h3'] at p2
    cases p1
    cases p2
    have hq := run_eqGuard_agg (P := P) w op t x y xs ys hg
    cases op <;> first | (cases hop; done) | skip
    · refine Res.pure hr (cv := .bool r) ?_ (.bool r) p4
      simp only [execOp, ho, hxv, hyv, Sem.run_bind, hq, Result.andThen_ok, run_eql_struct, p3]
      rfl
    · refine Res.pure hr (cv := .bool (!r)) ?_ (.bool (!r)) p4
      simp only [execOp, ho, hxv, hyv, Sem.run_bind, hq, Result.andThen_ok, run_neq_struct, p3]
      rfl
  · cases hx
end
end
end Go.Jt
set_option autoImplicit false
set_option linter.all false
namespace Go.Jt
open Go.RowKit (Below)
variable [Gl]

section
variable {P : Program} {base : Nat} {ι : Io} {H : AH} {w : World} {k : AV → AH → Bool} {env : Env} {a : Act}

/-! ### maps -/
def KeyD (P : Program) (t : TypeId) (kk : Nat) (d : TypeDesc) : Prop := (kk = 0 ∧ ∃ q, d = .int q) ∨ (kk = 1 ∧ d = .string) ∨ (∃ fs sh i, d = .struct fs ∧ flatFs P fs.toList 0 = some sh ∧ shapeT P 20 t = some sh ∧ P.info? t = some i ∧ i.size = sh.length ∧ shOf kk = sh ∧ 2 ≤ kk)
theorem keyT_inv {t : TypeId} {kk : Nat} (h : keyT P t = some kk) : ∃ d, P.underlying t = some d ∧ KeyD P t kk d := by
  unfold keyT at h
  split at h
  · rename_i q hq; cases h; exact ⟨_, hq, Or.inl ⟨rfl, q, rfl⟩⟩
  · rename_i hq; cases h; exact ⟨_, hq, Or.inr (Or.inl ⟨rfl, rfl⟩)⟩
  · rename_i fs hq
    split at h
    · rename_i s s' i h1 h2 h3
      cases e1 : seq s s' with
      | false => rw [e1] at h; cases h
      | true =>
        rw [e1] at h
        simp only [cond_true] at h
        cases e2 : seq (shOf (2 + encSh s)) s with
        | false => rw [e2] at h; cases h
        | true =>
          rw [e2] at h
          simp only [cond_true] at h
          cases e3 : Nat.beq i.size s.length with
          | false => rw [e3] at h; cases h
          | true =>
            rw [e3] at h
            cases h
            rw [seq_eq, beq_iff_eq] at e1 e2
            subst e1
            exact ⟨_, hq, Or.inr (Or.inr ⟨fs, s, i, rfl, h1, h2, h3, Nat.eq_of_beq_eq_true e3, e2, by omega⟩)⟩
    · cases h
  · cases h
theorem hasSh_len : ∀ (sh : List Nat) (a : List AV), hasSh sh a = true → a.length = sh.length
  | [], [], _ => rfl
  | [], _ :: _, h => by cases h
  | c :: sh, [], h => by cases h
  | c :: sh, x :: a, h => by
    cases x <;> first | (cases h; done) | skip
    all_goals
      have h' := (cond_true_inv (show cond (Nat.beq c _) (hasSh sh a) false = true from h)).2
      simp [hasSh_len sh a h']
theorem flat_check (w : World) (em : Bool) {sz n : Nat} {cs : Array Value} : ∀ (fs : List Field) (off : Nat) (sh : List Nat), flatFs P fs off = some sh → off + sh.length ≤ cs.size →
    (forIn fs PUnit.unit fun f _ => (if f.name ≠ "_" then (do let v ← part f.type cs f.offset; Instr.checkKey em (n + 1) f.type v; pure (ForInStep.yield PUnit.unit)) else pure (ForInStep.yield PUnit.unit) : Sem (ForInStep PUnit))).run P w = .ok PUnit.unit w
  | [], off, sh, _, _ => by simp
  | f :: fs, off, sh, h, hl => by
    unfold flatFs at h
    cases hn : (f.name == "_") with
    | true => rw [hn] at h; cases h
    | false =>
    rw [hn] at h
    cases ho : Nat.beq f.offset off with
    | false => rw [ho] at h; cases h
    | true =>
    rw [ho] at h
    simp only [cond_true, cond_false] at h
    have hoff := Nat.eq_of_beq_eq_true ho
    have hne : f.name ≠ "_" := fun e => by rw [e] at hn; simp at hn
    split at h
    all_goals first
      | (cases h; done)
      | (rename_i r hu hr
         cases h
         simp only [List.length_cons] at hl
         have hag : isAggT P f.type = false := by simp [isAggT, hu]
         have hp : (part f.type cs f.offset).run P w = .ok (cs.getD off Go.undef) w := by
           simp only [part, Sem.run_bind, run_isAgg hu, hag, Result.andThen_ok, Bool.false_eq_true, if_false, hoff]
           rw [getD_in cs off (by omega)]
           rfl
         have hck : (Instr.checkKey em (n + 1) f.type (cs.getD off Go.undef)).run P w = .ok () w := by
           unfold Instr.checkKey
           simp only [Sem.run_bind, run_und hu, Result.andThen_ok]
           simp
         have ih := flat_check w em (sz := sz) (n := n) (cs := cs) fs (off + 1) r hr (by omega)
         rw [List.forIn_cons]
         simp only [if_pos hne, Sem.run_bind, hp, hck, Result.andThen_ok, Sem.run_pure]
         exact ih)
theorem run_check {t : TypeId} {kk : Nat} {key : AV} {kv : Value} (h : keyT P t = some kk) (hk : isKey kk key = true) (hv : VR ι key kv) (em : Bool) : (Instr.checkKey em 10000 t kv).run P w = .ok () w := by
  obtain ⟨d, hd, hd'⟩ := keyT_inv h
  rw [show (10000 : Nat) = 9998 + 1 + 1 from rfl]
  unfold Instr.checkKey
  simp only [Sem.run_bind, run_und hd, Result.andThen_ok]
  rcases hd' with ⟨_, q, rfl⟩ | ⟨_, rfl⟩ | ⟨fs, sh, i, rfl, hf, hs, hi, hsz, hsh, h2⟩
  · simp
  · simp
  · cases hv <;> first | (exfalso; revert hk; unfold isKey; intro hk; first | (cases hk; done) | (have := Nat.eq_of_beq_eq_true hk; omega)) | skip
    rename_i r cs hro hrl hrv hr1
    have hk' := (cond_true_inv (show cond (Nat.ble 2 kk) (hasSh (shOf kk) r.toL) false = true from hk)).2
    have hlen := hasSh_len _ _ hk'
    rw [hsh] at hlen
    simp only [← Array.forIn_toList, Sem.run_bind]
    rw [flat_check w em (sz := 0) (n := 9998) (cs := cs) fs.toList 0 sh hf (by omega)]
    rfl
/-- two keys of such cells: all alike, or seen to be unlike -/
theorem eqL_inv : ∀ (sh : List Nat) (a b : List AV) {yes no : Unit → Bool}, hasSh sh a = true → eqL a b yes no = true →
    (a = b ∧ yes () = true ∧ eqS sh a b (fun t => t) = true) ∨ (no () = true ∧ eqS sh a b (fun t => !t) = true)
  | [], [], [], yes, no, _, h => Or.inl ⟨rfl, h, rfl⟩
  | [], [], _ :: _, yes, no, _, h => by cases h
  | [], _ :: _, _, yes, no, hs, h => by cases hs
  | c :: sh, [], b, yes, no, hs, h => by cases hs
  | c :: sh, x :: a, [], yes, no, hs, h => by cases x <;> cases h
  | c :: sh, x :: a, y :: b, yes, no, hs, h => by
    have ih := @eqL_inv sh a b yes no
    cases x <;> cases y <;> first | (cases h; done) | skip
    · rename_i q m r n
      obtain ⟨hc, hs'⟩ := cond_true_inv (show cond (Nat.beq c 0) (hasSh sh a) false = true from hs)
      obtain ⟨c1, h1⟩ := cond_true_inv (show cond (Nat.beq (ikN q) (ikN r)) (cond (ieq m n) (eqL a b yes no) (no ())) false = true from h)
      have go : ∀ k, eqS (c :: sh) (.int q m :: a) (.int r n :: b) k = cond (ieq m n) (eqS sh a b k) (k false) := fun k => by
        rw [eqS_cons]; simp only [hc, c1, cond_true]
      cases hb : ieq m n with
      | true =>
        rw [hb] at h1
        rw [ieq_eq, beq_iff_eq] at hb
        subst hb
        have := ikN_inj c1
        subst this
        rcases ih hs' h1 with ⟨g1, g2, g3⟩ | ⟨g1, g2⟩
        · exact Or.inl ⟨by rw [g1], g2, by rw [go, ieq_eq]; simpa using g3⟩
        · exact Or.inr ⟨g1, by rw [go, ieq_eq]; simpa using g2⟩
      | false => rw [hb] at h1; exact Or.inr ⟨h1, by rw [go, hb]; rfl⟩
    · rename_i m n
      obtain ⟨hc, hs'⟩ := cond_true_inv (show cond (Nat.beq c 2) (hasSh sh a) false = true from hs)
      have h1 : cond (cond m n (!n)) (eqL a b yes no) (no ()) = true := h
      have go : ∀ k, eqS (c :: sh) (.bool m :: a) (.bool n :: b) k = cond (cond m n (!n)) (eqS sh a b k) (k false) := fun k => by
        rw [eqS_cons]; simp only [hc, cond_true]
      cases hb : cond m n (!n) with
      | true =>
        rw [hb] at h1
        have hmn : m = n := by cases m <;> cases n <;> first | rfl | (cases hb)
        rcases ih hs' h1 with ⟨g1, g2, g3⟩ | ⟨g1, g2⟩
        · exact Or.inl ⟨by rw [g1, hmn], g2, by rw [go, hb]; exact g3⟩
        · exact Or.inr ⟨g1, by rw [go, hb]; exact g2⟩
      | false => rw [hb] at h1; exact Or.inr ⟨h1, by rw [go, hb]; rfl⟩
    · rename_i m n
      obtain ⟨hc, hs'⟩ := cond_true_inv (show cond (Nat.beq c 1) (hasSh sh a) false = true from hs)
      have h1 : cond (seq m n) (eqL a b yes no) (no ()) = true := h
      have go : ∀ k, eqS (c :: sh) (.str m :: a) (.str n :: b) k = cond (seq m n) (eqS sh a b k) (k false) := fun k => by
        rw [eqS_cons]; simp only [hc, cond_true]
      cases hb : seq m n with
      | true =>
        rw [hb] at h1
        have hmn : m = n := by rw [seq_eq, beq_iff_eq] at hb; exact hb
        rcases ih hs' h1 with ⟨g1, g2, g3⟩ | ⟨g1, g2⟩
        · exact Or.inl ⟨by rw [g1, hmn], g2, by rw [go, hb]; exact g3⟩
        · exact Or.inr ⟨g1, by rw [go, hb]; exact g2⟩
      | false => rw [hb] at h1; exact Or.inr ⟨h1, by rw [go, hb]; rfl⟩
/-- cells of a key: the value is known to the last bit -/
theorem hasSh_at : ∀ (sh : List Nat) (a : List AV) (i : Nat), hasSh sh a = true → i < a.length → (∃ q n, a.getD i .undef = .int q n) ∨ (∃ s, a.getD i .undef = .str s) ∨ (∃ b, a.getD i .undef = .bool b)
  | [], [], i, _, h => by simp at h
  | [], _ :: _, _, h, _ => by cases h
  | c :: sh, [], _, h, _ => by cases h
  | c :: sh, x :: a, i, h, hi => by
    cases i with
    | zero => cases x <;> first | (cases h; done) | skip
              · exact Or.inl ⟨_, _, rfl⟩
              · exact Or.inr (Or.inr ⟨_, rfl⟩)
              · exact Or.inr (Or.inl ⟨_, rfl⟩)
    | succ i =>
      have h' : hasSh sh a = true := by cases x <;> first | (cases h; done) | exact (cond_true_inv (show cond (Nat.beq c _) (hasSh sh a) false = true from h)).2
      exact hasSh_at sh a i h' (by simpa using hi)
theorem key_same {sh : List Nat} {r r2 : Rp AV} {xs ys : Array Value} (hs : hasSh sh r.toL = true) (he : r.toL = r2.toL) (hx : VR ι (.agg r) (.agg xs)) (hy : VR ι (.agg r2) (.agg ys)) : xs = ys := by
  cases hx with
  | agg _ _ ho hl h h1 =>
  cases hy with
  | agg _ _ ho' hl' h' h1' =>
  apply Array.ext
  · rw [← hl, ← hl', he]
  · intro i hi hi'
    have g1 := h i
    have g2 := h' i
    rw [← he] at g2
    have e1 : xs.getD i Go.undef = xs[i] := by simp [Array.getD_eq_getD_getElem?, hi]
    have e2 : ys.getD i Go.undef = ys[i] := by simp [Array.getD_eq_getD_getElem?, hi']
    rw [e1] at g1
    rw [e2] at g2
    rcases hasSh_at sh r.toL i hs (by omega) with ⟨q, n, e⟩ | ⟨s, e⟩ | ⟨b, e⟩
    · rw [e] at g1 g2; rw [g1.int_inv, g2.int_inv]
    · rw [e] at g1 g2
      obtain ⟨s1, z1, k1⟩ := g1.str_inv
      obtain ⟨s2, z2, k2⟩ := g2.str_inv
      rw [z1, z2]
      have h2 := bytesOf_eq s1 s2
      rw [← k1, ← k2, seq_eq, beq_self_eq_true] at h2
      rw [(Lib.bytes_beq_iff s1 s2).1 h2.symm]
    · rw [e] at g1 g2; rw [g1.bool_inv, g2.bool_inv]
theorem key_bits {sh : List Nat} {r : Rp AV} {xs : Array Value} (hs : hasSh sh r.toL = true) (hx : VR ι (.agg r) (.agg xs)) : Instr.sameBits 10000 (.agg xs) (.agg xs) = true := by
  cases hx with
  | agg _ _ ho hl h h1 =>
  show Instr.sameBits (9999 + 1) (.agg xs) (.agg xs) = true
  simp only [Instr.sameBits, beq_self_eq_true, Bool.true_and, List.all_eq_true]
  intro p hp
  obtain ⟨i, hi, rfl⟩ := List.mem_iff_getElem.1 hp
  simp only [List.getElem_zip, Array.getElem_toList]
  have hi' : i < xs.size := by simpa using hi
  have g1 := h i
  have e1 : xs.getD i Go.undef = xs[i] := by simp [Array.getD_eq_getD_getElem?, hi']
  rw [e1] at g1
  rcases hasSh_at sh r.toL i hs (by omega) with ⟨q, n, e⟩ | ⟨s, e⟩ | ⟨b, e⟩
  · rw [e] at g1; rw [g1.int_inv]; simp [Instr.sameBits]
  · rw [e] at g1
    obtain ⟨s1, z1, k1⟩ := g1.str_inv
    rw [z1]; simp [Instr.sameBits, MapKept.bytes_beq]
  · rw [e] at g1; rw [g1.bool_inv]; simp [Instr.sameBits]
theorem keyEq_inv {key e : AV} {kv ev' : Value} {kk : Nat} {d : TypeDesc} {yes no : Unit → Bool} (hd : (kk = 0 ∧ ∃ q, d = .int q) ∨ (kk = 1 ∧ d = .string)) (hk : isKey kk key = true) (hv : VR ι key kv) (he : VR ι e ev')
    (h : keyEq key e yes no = true) : (Instr.sameNow d kv ev' = some true ∧ ev' = kv ∧ yes () = true) ∨ (Instr.sameNow d kv ev' = some false ∧ no () = true) := by
  unfold keyEq at h
  split at h
  · rename_i q m r n
    cases hv
    cases he
    obtain ⟨h1, h'⟩ := cond_true_inv h
    have := ikN_inj h1
    subst this
    have hkk : kk = 0 := Nat.eq_of_beq_eq_true hk
    rcases hd with ⟨_, q', rfl⟩ | ⟨h', _⟩
    · cases hmn : ieq m n with
      | true =>
        rw [hmn] at h'
        rw [ieq_eq, beq_iff_eq] at hmn
        subst hmn
        exact Or.inl ⟨by simp [Instr.sameNow], rfl, h'⟩
      | false =>
        rw [hmn] at h'
        rw [ieq_eq, beq_eq_false_iff_ne] at hmn
        exact Or.inr ⟨by simp [Instr.sameNow, hmn], h'⟩
    · omega
  · rename_i m n
    obtain ⟨s1, rfl, rfl⟩ := hv.str_inv
    obtain ⟨s2, rfl, rfl⟩ := he.str_inv
    have hkk : kk = 1 := Nat.eq_of_beq_eq_true hk
    rcases hd with ⟨h', _⟩ | ⟨_, rfl⟩
    · omega
    · have h2 := bytesOf_eq s1 s2
      cases hs : seq (bytesOf s1) (bytesOf s2) with
      | true =>
        rw [hs] at h h2
        have h4 : s1 = s2 := (Lib.bytes_beq_iff s1 s2).1 h2.symm
        subst h4
        exact Or.inl ⟨by simp [Instr.sameNow, MapKept.bytes_beq], rfl, h⟩
      | false =>
        rw [hs] at h h2
        have h4 : ¬ ((s1 == s2) = true) := fun e => by
          have e' := (MapKept.bytes_beq s1 s2).1 e
          subst e'
          rw [(Lib.bytes_beq_iff s1 s1).2 rfl] at h2
          cases h2
        refine Or.inr ⟨?_, h⟩
        simp [Instr.sameNow, h4]
  · rename_i x y
    have h2 := Nat.le_of_ble_eq_true (cond_true_inv (show cond (Nat.ble 2 kk) (hasSh (shOf kk) x.toL) false = true from hk)).1
    rcases hd with ⟨h', _⟩ | ⟨h', _⟩ <;> omega
  · cases h
theorem mfind_sound {key : AV} {kv : Value} {kk : Nat} {d : TypeDesc} (hd : (kk = 0 ∧ ∃ q, d = .int q) ∨ (kk = 1 ∧ d = .string)) (hk : isKey kk key = true) (hv : VR ι key kv) {yes : Nat → AV → Bool} {no : Unit → Bool} :
    ∀ (es : List (AV × AV × Nat)) (cs : List MapEntry) (i : Nat), es.length = cs.length → (∀ (j : Nat) (x : AV × AV × Nat) (e : MapEntry), es[j]? = some x → cs[j]? = some e → entR ι x e) → mfind key es yes no i = true →
    (∃ j x e, es[j]? = some x ∧ cs[j]? = some e ∧ Instr.findNow d kv cs i = some (some (i + j, e.val)) ∧ e.key = kv ∧ VR ι x.2.1 e.val ∧ yes (i + j) x.2.1 = true) ∨ (Instr.findNow d kv cs i = some none ∧ no () = true)
  | [], cs, i, hl, _, h => by
    cases cs with
    | nil => exact Or.inr ⟨rfl, h⟩
    | cons c cs => cases hl
  | x :: es, [], i, hl, _, h => by cases hl
  | x :: es, e :: cs, i, hl, he, h => by
    have h0 := he 0 x e rfl rfl
    rcases keyEq_inv hd hk hv h0.1 (show keyEq key x.1 (fun _ => yes i x.2.1) (fun _ => mfind key es yes no (Nat.succ i)) = true from h) with ⟨h1, h2, h3⟩ | ⟨h1, h3⟩
    · exact Or.inl ⟨0, x, e, rfl, rfl, by simp [Instr.findNow, h1], h2, h0.2.1, h3⟩
    · rcases mfind_sound hd hk hv es cs (Nat.succ i) (by simpa using hl) (fun j y f h4 h5 => he (j + 1) y f (by simpa using h4) (by simpa using h5)) h3 with ⟨j, y, f, g1, g2, g3, g4, g5, g6⟩ | ⟨g1, g2⟩
      · refine Or.inl ⟨j + 1, y, f, by simpa using g1, by simpa using g2, ?_, g4, g5, ?_⟩
        · simp only [Instr.findNow, h1]
          rw [show i + (j + 1) = i.succ + j by omega]
          exact g3
        · rw [show i + (j + 1) = i.succ + j by omega]; exact g6
      · exact Or.inr ⟨by simpa [Instr.findNow, h1] using g1, g2⟩
theorem run_find {t : TypeId} {d : TypeDesc} {kv : Value} {cs : List MapEntry} {r : Option (Nat × Value)} (hd : P.underlying t = some d) (h : Instr.findNow d kv cs 0 = some r) : (Instr.findKey t kv cs).run P w = .ok r w := by
  simp [Instr.findKey, run_und hd, h]
/-- the keys of structs are asked for one by one -/
theorem mask_sound {t : TypeId} {r : Rp AV} {xs : Array Value} {kk : Nat} {fs : Array Field} {sh : List Nat} {i : TypeInfo} (hd : P.underlying t = some (.struct fs)) (hsh : shapeT P 20 t = some sh) (hi : P.info? t = some i) (hsz : i.size = sh.length) (hs : hasSh sh r.toL = true) (hv : VR ι (.agg r) (.agg xs)) {yes : Nat → AV → Bool} {no : Unit → Bool} :
    ∀ (es : List (AV × AV × Nat)) (cs : List MapEntry) (i : Nat), es.length = cs.length → (∀ (j : Nat) (x : AV × AV × Nat) (e : MapEntry), es[j]? = some x → cs[j]? = some e → entR ι x e) → mfind (.agg r) es yes no i = true →
    (∃ j x e, es[j]? = some x ∧ cs[j]? = some e ∧ (Instr.findAsking t (.agg xs) cs i).run P w = .ok (some (i + j, e.val)) w ∧ e.key = .agg xs ∧ VR ι x.2.1 e.val ∧ yes (i + j) x.2.1 = true) ∨ ((Instr.findAsking t (.agg xs) cs i).run P w = .ok none w ∧ no () = true)
  | [], cs, i, hl, _, h => by
    cases cs with
    | nil => exact Or.inr ⟨by simp [Instr.findAsking], h⟩
    | cons c cs => cases hl
  | x :: es, [], i, hl, _, h => by cases hl
  | x :: es, e :: cs, ix, hl, he, h => by
    have h0 := he 0 x e rfl rfl
    have h' : keyEq (.agg r) x.1 (fun _ => yes ix x.2.1) (fun _ => mfind (.agg r) es yes no (Nat.succ ix)) = true := h
    have hxk := h0.1
    unfold keyEq at h'
    split at h' <;> first | (rename_i heq; cases heq; done) | (cases h'; done) | skip
    all_goals try (rename_i e1 e2; cases e1; done)
    rename_i r' r2 e1 e2
    cases e1
    rw [e2] at hxk
    obtain ⟨ys, hys, hyr⟩ := hxk.agg_inv
    obtain ⟨hlen, hq⟩ := cond_true_inv h'
    have hlen' := Nat.eq_of_beq_eq_true hlen
    have hvr := hv
    cases hvr with
    | agg _ _ ho hl2 hvv h1 =>
    rw [Rp.len_eq r ho, Rp.len_eq r2 hyr.1] at hlen'
    have hrl := hasSh_len _ _ hs
    have hag : isAggT P t = true := by simp [isAggT, hd]
    have rp : ∀ c : Array Value, c.size = sh.length → (part t c 0).run P w = .ok (.agg c) w := fun c hc => by
      simp only [part, Sem.run_bind, run_isAgg hd, hag, Result.andThen_ok, if_true, run_size hi, Sem.run_pure, Nat.zero_add]
      rw [hsz, ← hc, Array.extract_size]
    have eqr : ∀ K : Bool → Bool, eqS sh r.toL r2.toL K = true → ∃ b, (Op.equal t (.agg xs) (.agg ys)).run P w = .ok b w ∧ K b = true := fun K hK => by
      obtain ⟨v1, v2, b, p1, p2, p3, p4⟩ := eqIn_sound w 20 t sh hsh 10000 (by omega) 0 xs ys r.toL r2.toL K ⟨by omega, fun i hi => by rw [Nat.zero_add]; exact hvv i⟩ ⟨by have := hyr.2.1; omega, fun i hi => by rw [Nat.zero_add]; exact hyr.2.2.1 i⟩ hK
      rw [rp xs (by omega)] at p1
      rw [rp ys (by have := hyr.2.1; omega)] at p2
      cases p1
      cases p2
      exact ⟨b, p3, p4⟩
    rcases eqL_inv sh _ _ hs hq with ⟨g1, g2, g3⟩ | ⟨g2, g3⟩
    · obtain ⟨b, p1, p2⟩ := eqr _ g3
      have hb : b = true := p2
      subst hb
      have hsame : xs = ys := key_same hs g1 hv (by rw [← hys]; exact hxk)
      refine Or.inl ⟨0, x, e, rfl, rfl, ?_, by rw [hys, hsame], h0.2.1, g2⟩
      simp only [Instr.findAsking, hys, Sem.run_bind, p1, Result.andThen_ok, if_true, Sem.run_pure, Nat.add_zero]
    · obtain ⟨b, p1, p2⟩ := eqr _ g3
      have hb : b = false := by simpa using p2
      subst hb
      have step : (Instr.findAsking t (.agg xs) (e :: cs) ix).run P w = (Instr.findAsking t (.agg xs) cs (ix + 1)).run P w := by
        simp only [Instr.findAsking, hys, Sem.run_bind, p1, Result.andThen_ok, Bool.false_eq_true, if_false]
      rcases mask_sound (kk := kk) (i := i) hd hsh hi hsz hs hv es cs (Nat.succ ix) (by simpa using hl) (fun j y f h4 h5 => he (j + 1) y f (by simpa using h4) (by simpa using h5)) g2 with ⟨j, y, f, k1, k2, k3, k4, k5, k6⟩ | ⟨k1, k2⟩
      · refine Or.inl ⟨j + 1, y, f, by simpa using k1, by simpa using k2, ?_, k4, k5, ?_⟩
        · rw [step, show ix + (j + 1) = ix.succ + j by omega]; exact k3
        · rw [show ix + (j + 1) = ix.succ + j by omega]; exact k6
      · exact Or.inr ⟨by rw [step]; exact k1, k2⟩
theorem find_sound {t : TypeId} {key : AV} {kv : Value} {kk : Nat} (h : keyT P t = some kk) (hk : isKey kk key = true) (hv : VR ι key kv) {yes : Nat → AV → Bool} {no : Unit → Bool} (es : List (AV × AV × Nat)) (cs : List MapEntry) (hl : es.length = cs.length)
    (he : ∀ (j : Nat) (x : AV × AV × Nat) (e : MapEntry), es[j]? = some x → cs[j]? = some e → entR ι x e) (hx : mfind key es yes no 0 = true) :
    (∃ j x e, es[j]? = some x ∧ cs[j]? = some e ∧ (Instr.findKey t kv cs).run P w = .ok (some (j, e.val)) w ∧ e.key = kv ∧ VR ι x.2.1 e.val ∧ yes j x.2.1 = true) ∨ ((Instr.findKey t kv cs).run P w = .ok none w ∧ no () = true) := by
  obtain ⟨d, hd, hd'⟩ := keyT_inv h
  have plain : ((kk = 0 ∧ ∃ q, d = .int q) ∨ (kk = 1 ∧ d = .string)) → (∃ j x e, es[j]? = some x ∧ cs[j]? = some e ∧ (Instr.findKey t kv cs).run P w = .ok (some (j, e.val)) w ∧ e.key = kv ∧ VR ι x.2.1 e.val ∧ yes j x.2.1 = true) ∨ ((Instr.findKey t kv cs).run P w = .ok none w ∧ no () = true) := fun hd' => by
    rcases mfind_sound hd' hk hv es cs 0 hl he hx with ⟨j, x, e, g1, g2, g3, g4, g5, g6⟩ | ⟨g1, g2⟩
    · rw [Nat.zero_add] at g3 g6
      exact Or.inl ⟨j, x, e, g1, g2, run_find hd g3, g4, g5, g6⟩
    · exact Or.inr ⟨run_find hd g1, g2⟩
  rcases hd' with hd' | hd' | ⟨fs, sh, i, rfl, hf, hs, hi, hsz, hsh, h2⟩
  · exact plain (Or.inl hd')
  · exact plain (Or.inr hd')
  · cases hv <;> first | (exfalso; revert hk; unfold isKey; intro hk; first | (cases hk; done) | (have := Nat.eq_of_beq_eq_true hk; omega)) | skip
    rename_i r xs hro hrl hrv hr1
    have hk' := (cond_true_inv (show cond (Nat.ble 2 kk) (hasSh (shOf kk) r.toL) false = true from hk)).2
    rw [hsh] at hk'
    cases cs with
    | nil =>
      cases es with
      | nil => exact Or.inr ⟨by simp [Instr.findKey, run_und hd, Instr.findNow], hx⟩
      | cons _ _ => cases hl
    | cons c cs =>
      have hn : Instr.findNow (.struct fs) (.agg xs) (c :: cs) 0 = none := by simp [Instr.findNow, Instr.sameNow]
      have e1 : (Instr.findKey t (.agg xs) (c :: cs)).run P w = (Instr.findAsking t (.agg xs) (c :: cs) 0).run P w := by simp [Instr.findKey, run_und hd, hn]
      rw [e1]
      rcases mask_sound (w := w) (kk := kk) hd hs hi hsz hk' (.agg r xs hro hrl hrv hr1) es (c :: cs) 0 hl he hx with ⟨j, x, e, g1, g2, g3, g4, g5, g6⟩ | ⟨g1, g2⟩
      · rw [Nat.zero_add] at g3 g6
        exact Or.inl ⟨j, x, e, g1, g2, g3, g4, g5, g6⟩
      · exact Or.inr ⟨g1, g2⟩
theorem key_stays {t : TypeId} {key : AV} {kv : Value} {kk : Nat} (h : keyT P t = some kk) (hk : isKey kk key = true) (hv : VR ι key kv) : (Instr.keyThatStays kv kv).run P w = .ok kv w := by
  have hsb : Instr.sameBits 10000 kv kv = true := by
    cases hv with
    | int k n => simp [Instr.sameBits]
    | str s => simp [Instr.sameBits, MapKept.bytes_beq]
    | agg r xs ho hl hvv h1 => exact key_bits (cond_true_inv (show cond (Nat.ble 2 kk) (hasSh (shOf kk) r.toL) false = true from hk)).2 (.agg r xs ho hl hvv h1)
    | _ => cases hk
  simp [Instr.keyThatStays, hsb]
theorem run_getMap {r : Nat} {es : Array MapEntry} {ck : Nat} (hb : w.heap[r]? = some (.map es ck)) : (getObj r).run P w = .ok (.map es ck) w := by
  simp [getObj, Sem.run, hb]
theorem run_setMap {r : Nat} {es : Array MapEntry} {ck : Nat} (o : Obj) (hb : w.heap[r]? = some (.map es ck)) : (setObj r o).run P w = .ok () { w with heap := w.heap.setIfInBounds r o } := by
  simp [setObj, Sem.run, hb]
/-- a map's block -/
theorem HR.mapAt (h : HR P base ι H w) {b : Nat} {es : List (AV × AV × Nat)} {ck : Nat} {L : Loc} (hb : H.get b = some (.mp es ck)) (hi : ι b = some L) :
    ∃ ents, w.heap[L.blk]? = some (.map ents ck) ∧ es.length = ents.toList.length ∧ (∀ (j : Nat) (x : AV × AV × Nat) (e : MapEntry), es[j]? = some x → ents.toList[j]? = some e → entR ι x e) ∧ base ≤ L.blk := by
  obtain ⟨c, hc, ho⟩ := h.obj b _ L hb hi
  cases ho with
  | mp _ _ ents hl he hbase => exact ⟨ents, hc, by simpa using hl, fun j x e h1 h2 => he j x e h1 (by rw [Array.getElem?_toList] at h2; exact h2), hbase⟩
theorem sound_lkp (o : Oper) (t kt e : TypeId) (m key : Operand) (z : AV) (kk : Nat) (ok : Bool) (ho : o.op = .lookup t m key ok) (ht : P.underlying t = some (.map kt e)) (hkt : keyT P kt = some kk) (hz : zeroAV P e = some z) (hr : HR P base ι H w) (he : rowR ι env a.tmps)
    (hx : xop (.lkp z ok kk (od m) (od key)) env H k = true) : Res P base ι H w k ((execOp a.eval o).run P w) := by
  simp only [xop] at hx
  have hm := ev_sound he m
  have hk := ev_sound he key
  generalize hmv : a.eval m = mv at hm
  generalize hkv : a.eval key = kv at hk
  generalize ev env (od m) = mx at hm hx
  generalize ev env (od key) = kx at hk hx
  obtain ⟨hik, hx⟩ := cond_true_inv hx
  obtain ⟨d, hd, hd'⟩ := keyT_inv hkt
  unfold zeroAV at hz
  cases hi : P.info? e with
  | none => rw [hi] at hz; cases hz
  | some i =>
  rw [hi] at hz
  simp only [Option.bind_some] at hz
  cases hzv : i.zero with
  | none => rw [hzv] at hz; cases hz
  | some zv =>
  rw [hzv] at hz
  cases hz
  have hzr := VR_ofV ι zv
  have htup : ∀ {x : AV} {xv : Value} (b : Bool), VR ι x xv → VR ι (cond ok (.tup [x, .bool b]) x) (if ok then .tuple #[xv, .bool b] else xv) := fun {x xv} b h => by
    cases ok
    · exact h
    · exact .tup _ _ rfl (fun i => match i with
        | 0 => h
        | 1 => .bool _
        | i + 2 => by
          have e1 : [x, AV.bool b].getD (i + 2) .undef = .undef := by simp
          rw [e1]; exact .undef _)
  split at hx
  · cases hm
    refine Res.pure hr (cv := if ok then .tuple #[zv, .bool false] else zv) ?_ (htup _ hzr) hx
    have hf : (Instr.findKey kt kv []).run P w = .ok none w := run_find hd rfl
    have hc := run_check (w := w) hkt hik hk true
    simp [execOp, ho, hmv, hkv, Instr.lookup, run_und ht, hc, hf, run_zero hi hzv]
  · rename_i r
    obtain ⟨es, ck, hb, hx⟩ := gmap_inv hx
    cases hm with
    | map _ L hL =>
    obtain ⟨ents, hw, hl, hent, _⟩ := hr.mapAt hb hL
    have hc := fun em => run_check (w := w) hkt hik hk em
    rcases find_sound (w := w) hkt hik hk es ents.toList hl hent hx with ⟨j, x, f, g1, g2, g3, g4, g5, g6⟩ | ⟨g3, g6⟩
    · refine Res.pure hr (cv := if ok then .tuple #[f.val, .bool true] else f.val) ?_ (htup _ g5) g6
      simp [execOp, ho, hmv, hkv, Instr.lookup, run_und ht, hc, g3, run_getMap hw]
    · refine Res.pure hr (cv := if ok then .tuple #[zv, .bool false] else zv) ?_ (htup _ hzr) g6
      simp [execOp, ho, hmv, hkv, Instr.lookup, run_und ht, hc, g3, run_getMap hw, run_zero hi hzv]
  · cases hx
theorem sound_mup (o : Oper) (t kt e : TypeId) (m key x : Operand) (kk : Nat) (ho : o.op = .mapUpdate t m key x) (ht : P.underlying t = some (.map kt e)) (hkt : keyT P kt = some kk) (hr : HR P base ι H w) (he : rowR ι env a.tmps)
    (hx : xop (.mup kk (od m) (od key) (od x)) env H k = true) : Res P base ι H w k ((execOp a.eval o).run P w) := by
  simp only [xop] at hx
  have hm := ev_sound he m
  have hk := ev_sound he key
  have hv := ev_sound he x
  generalize hmv : a.eval m = mv at hm
  generalize hkv : a.eval key = kv at hk
  generalize hxv : a.eval x = xv at hv
  generalize ev env (od m) = mx at hm hx
  generalize ev env (od key) = kx at hk hx
  generalize ev env (od x) = vx at hv hx
  obtain ⟨hik, hx⟩ := cond_true_inv hx
  obtain ⟨d, hd, hd'⟩ := keyT_inv hkt
  split at hx
  · rename_i r
    obtain ⟨es, ck, hb, hx⟩ := gmap_inv hx
    cases hm with
    | map _ L hL =>
    obtain ⟨ents, hw, hl, hent, hbase⟩ := hr.mapAt hb hL
    have hc := fun em => run_check (w := w) hkt hik hk em
    have hl' : es.length = ents.size := by simpa using hl
    rcases find_sound (w := w) hkt hik hk es ents.toList hl hent hx with ⟨j, y, f, g1, g2, g3, g4, g5, g6⟩ | ⟨g3, g6⟩
    · have g2' : ents[j]? = some f := by rw [Array.getElem?_toList] at g2; exact g2
      have hstay := key_stays (w := w) hkt hik hk
      have hrun : (execOp a.eval o).run P w = .ok .skip { w with heap := w.heap.setIfInBounds L.blk (.map (ents.modify j fun e => { e with key := kv, val := xv }) ck) } := by
        simp [execOp, ho, hmv, hkv, hxv, Instr.mapUpdate, run_und ht, hc, g3, run_getMap hw, g2', g4, hstay, run_setMap _ hw]
      refine ⟨.undef, _, ι, _, _, hrun, hr.updNx hb hL (up_setObj _ _ _ hw) (.mp _ _ _ (by simp [hl']) (fun l u v h1 h2 => ?_) hbase) hbase, .undef _, g6⟩
      rw [List.getElem?_modify] at h1
      rw [Array.getElem?_modify] at h2
      by_cases hjl : j = l
      · subst hjl
        rw [g1] at h1
        rw [if_pos rfl, g2'] at h2
        simp at h1 h2
        subst h1
        subst h2
        have := hent j y f g1 g2
        exact ⟨hk, hv, this.2.2⟩
      · rw [if_neg hjl] at h2
        simp [hjl] at h1
        exact hent l u v h1 (by rw [Array.getElem?_toList]; exact h2)
    · have hrun : (execOp a.eval o).run P w = .ok .skip { w with heap := w.heap.setIfInBounds L.blk (.map (ents.push { key := kv, val := xv, born := ck }) (ck + 1)) } := by
        simp [execOp, ho, hmv, hkv, hxv, Instr.mapUpdate, run_und ht, hc, g3, run_getMap hw, run_setMap _ hw]
      refine ⟨.undef, _, ι, _, _, hrun, hr.updNx hb hL (up_setObj _ _ _ hw) (.mp _ _ _ (by simp [hl']) (fun l u v h1 h2 => ?_) hbase) hbase, .undef _, g6⟩
      rw [Array.getElem?_push] at h2
      by_cases hll : l = ents.size
      · subst hll
        rw [if_pos rfl] at h2
        rw [List.getElem?_append_right (by omega)] at h1
        simp [hl'] at h1
        cases h2
        subst h1
        exact ⟨hk, hv, rfl⟩
      · rw [if_neg hll] at h2
        have hlt : l < ents.size := (Array.getElem?_eq_some_iff.1 h2).1
        rw [List.getElem?_append_left (by omega)] at h1
        exact hent l u v h1 (by rw [Array.getElem?_toList]; exact h2)
  · cases hx
theorem sound_del (o : Oper) (c : Call) (t kt e : TypeId) (ts : List TypeId) (m key : Operand) (kk : Nat) (ho : o.op = .call c) (hc : c.callee = .builtin .delete) (hat : c.argTypes.toList = t :: ts) (ha : c.args = #[m, key])
    (ht : P.underlying t = some (.map kt e)) (hkt : keyT P kt = some kk) (hr : HR P base ι H w) (he : rowR ι env a.tmps)
    (hx : xop (.del kk (od m) (od key)) env H k = true) : Res P base ι H w k ((execOp a.eval o).run P w) := by
  simp only [xop] at hx
  refine ResV.builtin ho hc (f := Builtin.delete_) (fun _ _ _ _ => rfl) ?_
  rw [ha]
  have hm := ev_sound he m
  have hk := ev_sound he key
  simp only [List.map_toArray, List.map_cons, List.map_nil]
  generalize a.eval m = mv at hm
  generalize a.eval key = kv at hk
  generalize ev env (od m) = mx at hm hx
  generalize ev env (od key) = kx at hk hx
  obtain ⟨hik, hx⟩ := cond_true_inv hx
  obtain ⟨d, hd, hd'⟩ := keyT_inv hkt
  have h0 : c.argTypes[0]? = some t := by rw [← Array.getElem?_toList, hat]; rfl
  have htup : VR ι (.tup []) (.tuple #[]) := .tup _ _ rfl (fun i => by simp only [List.getD_nil]; exact .undef _)
  have hck := fun em => run_check (w := w) hkt hik hk em
  split at hx
  · cases hm
    exact ResV.pure hr (by simp [Builtin.delete_, h0, run_und ht, hck]) htup hx
  · rename_i r
    obtain ⟨es, ck, hb, hx⟩ := gmap_inv hx
    cases hm with
    | map _ L hL =>
    obtain ⟨ents, hw, hl, hent, hbase⟩ := hr.mapAt hb hL
    have hl' : es.length = ents.size := by simpa using hl
    rcases find_sound (w := w) hkt hik hk es ents.toList hl hent hx with ⟨j, y, f, g1, g2, g3, g4, g5, g6⟩ | ⟨g3, g6⟩
    · have hj : j < ents.size := by
        rw [Array.getElem?_toList] at g2
        exact (Array.getElem?_eq_some_iff.1 g2).1
      refine ⟨.tup [], _, ι, .tuple #[], { w with heap := w.heap.setIfInBounds L.blk (.map (ents.eraseIdxIfInBounds j) ck) }, by simp [Builtin.delete_, h0, run_und ht, hck, run_getMap hw, g3, run_setMap _ hw],
        hr.updNx hb hL (up_setObj _ _ _ hw) (.mp _ _ _ ?_ (fun l u v h1 h2 => ?_) hbase) hbase, htup, g6⟩
      · rw [← Array.length_toList, Array.toList_eraseIdxIfInBounds, List.length_eraseIdx, List.length_eraseIdx, hl]
      · rw [← Array.getElem?_toList, Array.toList_eraseIdxIfInBounds] at h2
        rw [List.getElem?_eraseIdx] at h1 h2
        split at h1
        · rename_i hlt
          rw [if_pos hlt] at h2
          exact hent l u v h1 h2
        · rename_i hlt
          rw [if_neg hlt] at h2
          exact hent _ u v h1 h2
    · refine ⟨.tup [], H, ι, .tuple #[], { w with heap := w.heap.setIfInBounds L.blk (.map ents ck) }, by simp [Builtin.delete_, h0, run_und ht, hck, run_getMap hw, g3, run_setMap _ hw], ?_, htup, g6⟩
      have hself : w.heap.setIfInBounds L.blk (.map ents ck) = w.heap := by
        apply Array.ext_getElem?
        intro j
        rw [Array.getElem?_setIfInBounds]
        by_cases hj : L.blk = j
        · subst hj
          rw [if_pos rfl, hw]
          split
          · rfl
          · rename_i h; exact absurd (Array.getElem?_eq_some_iff.1 hw).1 h
        · rw [if_neg hj]
      rw [hself]
      exact Nx.refl hr
  · cases hx
theorem sound_clrm (o : Oper) (c : Call) (t kt e : TypeId) (m : Operand) (ho : o.op = .call c) (hc : c.callee = .builtin .clear) (hat : c.argTypes = #[t]) (ha : c.args = #[m])
    (ht : P.underlying t = some (.map kt e)) (hr : HR P base ι H w) (he : rowR ι env a.tmps) (hx : xop (.clrm (od m)) env H k = true) : Res P base ι H w k ((execOp a.eval o).run P w) := by
  simp only [xop] at hx
  refine ResV.builtin ho hc (f := Builtin.clear_) (fun _ _ _ _ => rfl) ?_
  rw [hat, ha]
  have hm := ev_sound he m
  simp only [List.map_toArray, List.map_cons, List.map_nil]
  generalize a.eval m = mv at hm
  generalize ev env (od m) = mx at hm hx
  have htup : VR ι (.tup []) (.tuple #[]) := .tup _ _ rfl (fun i => by simp only [List.getD_nil]; exact .undef _)
  split at hx
  · cases hm
    exact ResV.pure hr (by simp [Builtin.clear_, run_und ht]) htup hx
  · rename_i r
    obtain ⟨es, ck, hb, hx⟩ := gmap_inv hx
    cases hm with
    | map _ L hL =>
    obtain ⟨ents, hw, hl, hent, hbase⟩ := hr.mapAt hb hL
    exact ⟨.tup [], _, ι, .tuple #[], { w with heap := w.heap.setIfInBounds L.blk (.map #[] ck) }, by simp [Builtin.clear_, run_und ht, run_getMap hw, run_setMap _ hw],
        hr.updNx hb hL (up_setObj _ _ _ hw) (.mp _ _ _ rfl (fun l u v h1 h2 => by simp at h1) hbase) hbase, htup, hx⟩
  · cases hx
end
end Go.Jt
set_option autoImplicit false
set_option linter.all false
namespace Go.Jt
open Go.RowKit (Below)
variable [Gl]

section
variable {P : Program} {base : Nat} {ι : Io} {H : AH} {w : World} {k : AV → AH → Bool} {env : Env} {a : Act}

theorem run_str2bytes (s d e : TypeId) (x : ByteArray) (u : TypeDesc) (hs : P.underlying s = some u) (hd : P.underlying d = some (.slice e)) (hee : P.underlying e = some (.int .u8)) :
    (convert s d (.string x)).run P w = .ok (.slice (some ⟨w.heap.size, 0, none⟩) x.size (grownCap w x.size 0 e)) (Lib.bytesWorld w e x) := Lib.run_convert_string_bytes w s d e x hs hd hee
theorem bytesWorld_push (e : TypeId) (x : ByteArray) : (Lib.bytesWorld w e x).heap = w.heap.push (.cells (Lib.bytesCells w e x) e ((Lib.bytesCells w e x).size, (Lib.bytesCells w e x).size + 1)) := by
  apply Array.ext_getElem?
  intro j
  rw [Array.getElem?_push]
  by_cases hj : j = w.heap.size
  · subst hj
    rw [if_pos rfl, Lib.bytesWorld_at_new]
  · rw [if_neg hj]
    rcases Nat.lt_or_ge j w.heap.size with h | h
    · exact Lib.bytesWorld_at_old w e x j h
    · rw [Array.getElem?_eq_none (by rw [Lib.bytesWorld_size]; omega), Array.getElem?_eq_none h]
theorem grownCap_ge (n : Nat) (e : TypeId) : n ≤ grownCap w n 0 e := by
  unfold grownCap
  simp [Question.cut]
theorem sound_s2b (o : Oper) (s d e : TypeId) (x : Operand) (u : TypeDesc) (ho : o.op = .convert s d x) (hs : P.underlying s = some u) (hd : P.underlying d = some (.slice e)) (hee : P.underlying e = some (.int .u8)) (hr : HR P base ι H w) (he : rowR ι env a.tmps)
    (hx : xop (.s2b (od x)) env H k = true) : Res P base ι H w k ((execOp a.eval o).run P w) := by
  simp only [xop] at hx
  have hv := ev_sound he x
  generalize hxv : a.eval x = xv at hv
  generalize ev env (od x) = vx at hv hx
  split at hx
  · rename_i l
    obtain ⟨b, rfl, rfl⟩ := hv.str_inv
    rw [fN_eq, llen_eq, bytesOf_len] at hx
    obtain ⟨ob, f, e1, hk⟩ := alc_inv hx
    cases e1
    have hrow := cellsR_str ι b b.size
    have htk : (bytesOf b).take b.size = bytesOf b := List.take_of_length_le (by rw [bytesOf_len]; omega)
    rw [htk] at hrow
    have hex : b.extract 0 b.size = b := by
      apply ByteArray.ext
      apply Array.toList_inj.1
      rw [Lib.extract_data]
      simp only [Nat.sub_zero, List.drop_zero]
      exact List.take_of_length_le (by rw [Array.length_toList]; exact Nat.le_refl _)
    rw [hex] at hrow
    have hcells : Lib.bytesCells w e b = (b.data.map fun b => Value.int .u8 b.toNat) ++ Array.replicate (grownCap w b.size 0 e - b.size) (.int .u8 0) := rfl
    have hge := grownCap_ge (w := w) b.size e
    have hsz : (Lib.bytesCells w e b).size = grownCap w b.size 0 e * 1 := by
      rw [hcells, Array.size_append, Array.size_map, Array.size_replicate]
      have : b.data.size = b.size := rfl
      omega
    refine ⟨_, _, _, .value (.slice (some ⟨w.heap.size, 0, none⟩) b.size (grownCap w b.size 0 e)), Lib.bytesWorld w e b, by simp [execOp, ho, hxv, run_str2bytes s d e b u hs hd hee], hr.newNx (grownCap w b.size 0 e * 1) (bytesWorld_push e b) rfl rfl rfl ?_, ?_, hk⟩
    · have hle := ext_le_new hr ⟨w.heap.size, 0, grownCap w b.size 0 e * 1⟩
      have hr2 := hrow.mono hle
      refine .cells _ true false _ e _ hr2.1 hsz ?_ (fun i hi => ?_) (fun i hi _ => ?_) (fun o ho _ => by simp only; omega) (fun h => by cases h) (fun _ => hr.below)
      · simp only [hr2.2.1, Array.size_map]
        have : b.data.size = b.size := rfl
        omega
      · rw [hr2.2.1] at hi
        simp only [Nat.zero_add]
        rw [hcells, Array.getD_eq_getD_getElem?, Array.getElem?_append_left hi, ← Array.getD_eq_getD_getElem?]
        exact hr2.2.2.1 i
      · rw [hcells] at hi ⊢
        by_cases hi' : i < (b.data.map fun b => Value.int .u8 b.toNat).size
        · rw [Array.getD_eq_getD_getElem?, Array.getElem?_append_left hi', ← Array.getD_eq_getD_getElem?]
          exact hr2.2.2.2 i hi'
        · rw [Array.getD_eq_getD_getElem?, Array.getElem?_append_right (by omega)]
          rw [Array.size_append] at hi
          rw [Array.getElem?_eq_getElem (by omega)]
          simp [Value.oneCell']
    · show VR _ (.slu H.n 0 (b.size + 0) 1) _
      rw [Nat.add_zero]
      exact .slu _ 0 _ 1 _ ⟨w.heap.size, 0, grownCap w b.size 0 e * 1⟩ (Io.ext_self _ _ _) hge (by omega) (by simp only; omega)
  · cases hx

theorem sound_len (o : Oper) (c : Call) (t : TypeId) (x : Operand) (lk : Nat) (ud : TypeDesc) (ho : o.op = .call c) (hc : c.callee = .builtin .len) (hat : c.argTypes = #[t]) (ha : c.args = #[x])
    (ht : P.underlying t = some ud) (hlk : (lk = 0 ∧ ud = .string) ∨ (lk = 1 ∧ ∃ e, ud = .slice e) ∨ (lk = 2 ∧ ∃ q e, ud = .map q e)) (hr : HR P base ι H w) (he : rowR ι env a.tmps) (hx : xop (.len lk (od x)) env H k = true) : Res P base ι H w k ((execOp a.eval o).run P w) := by
  simp only [xop] at hx
  refine ResV.builtin ho hc (f := Builtin.len_) (fun _ _ _ _ => rfl) ?_
  rw [hat, ha]
  have hv := ev_sound he x
  simp only [List.map_toArray, List.map_cons, List.map_nil]
  generalize a.eval x = xv at hv
  generalize ev env (od x) = vx at hv hx
  rcases hlk with ⟨rfl, rfl⟩ | ⟨rfl, e, rfl⟩ | ⟨rfl, q, e, rfl⟩
  · simp only at hx
    split at hx
    · obtain ⟨b, rfl, rfl⟩ := hv.str_inv
      rw [fN_eq, llen_eq, bytesOf_len] at hx
      exact ResV.pure hr (cv := .int .i64 (Int.ofNat b.size)) (by simp [Builtin.len_, run_und ht, goInt]) (.int _ _) hx
    · cases hx
  · simp only at hx
    split at hx
    · cases hx
    · rename_i hns
      obtain ⟨n, h1, hn⟩ := srcLen_sound (P := P) hv hx
      refine ResV.pure hr (cv := .int .i64 (Int.ofNat n)) ?_ (.int _ _) h1
      have hn := hn w
      cases xv <;> simp [Builtin.lenOf] at hn
      · cases hv with
        | undef => cases hx
        | str s => exact (hns _ rfl).elim
      · subst hn
        simp [Builtin.len_, run_und ht, goInt]
  · simp only at hx
    split at hx
    · rename_i r
      obtain ⟨es, ck, hb, hx⟩ := gmap_inv hx
      cases hv with
      | map _ L hL =>
      obtain ⟨ents, hw, hl, hent, hbase⟩ := hr.mapAt hb hL
      rw [fN_eq, llen_eq] at hx
      have hl' : es.length = ents.size := by simpa using hl
      exact ResV.pure hr (cv := .int .i64 (Int.ofNat (es.length + 0))) (by simp [Builtin.len_, run_und ht, goInt, run_getMap hw, hl']) (.int _ _) hx
    · cases hv
      exact ResV.pure hr (cv := .int .i64 0) (by simp [Builtin.len_, run_und ht, goInt]) (.int _ _) hx
    · cases hx
theorem sound_capo (o : Oper) (c : Call) (t e : TypeId) (x : Operand) (ho : o.op = .call c) (hc : c.callee = .builtin .cap) (hat : c.argTypes = #[t]) (ha : c.args = #[x])
    (ht : P.underlying t = some (.slice e)) (hr : HR P base ι H w) (he : rowR ι env a.tmps) (hx : xop (.capo (od x)) env H k = true) : Res P base ι H w k ((execOp a.eval o).run P w) := by
  simp only [xop] at hx
  refine ResV.builtin ho hc (f := Builtin.cap_) (fun _ _ _ _ => rfl) ?_
  rw [hat, ha]
  have hv := ev_sound he x
  simp only [List.map_toArray, List.map_cons, List.map_nil]
  generalize a.eval x = xv at hv
  generalize ev env (od x) = vx at hv hx
  split at hx
  · cases hv
    exact ResV.pure hr (cv := .int .i64 0) (by simp [Builtin.cap_, run_und ht, goInt]) (.int _ _) hx
  · rename_i b off len cap
    cases hv
    exact ResV.pure hr (cv := .int .i64 (Int.ofNat cap)) (by simp [Builtin.cap_, run_und ht, goInt]) (.int _ _) hx
  · cases hx
theorem sound_mx (o : Oper) (c : Call) (x y : Operand) (ho : o.op = .call c) (hc : c.callee = .builtin .max) (ha : c.args = #[x, y])
    (hr : HR P base ι H w) (he : rowR ι env a.tmps) (hx : xop (.mx (od x) (od y)) env H k = true) : Res P base ι H w k ((execOp a.eval o).run P w) := by
  simp only [xop] at hx
  refine ResV.builtin ho hc (f := Builtin.max_) (fun _ _ _ _ => rfl) ?_
  rw [ha]
  have hv := ev_sound he x
  have hu := ev_sound he y
  simp only [List.map_toArray, List.map_cons, List.map_nil]
  generalize a.eval x = xv at hv
  generalize ev env (od x) = vx at hv hx
  generalize a.eval y = yv at hu
  generalize ev env (od y) = vy at hu hx
  split at hx
  · rename_i q n r m
    cases hv
    cases hu
    refine ResV.pure hr (cv := .int q (if m > n then m else n)) (by simp [Builtin.max_, Builtin.max2]) ?_ hx
    rw [ile_eq]
    by_cases h : m ≤ n
    · have : ¬ (m > n) := by omega
      rw [if_neg this]
      simp [h]
      exact .int _ _
    · have : m > n := by omega
      rw [if_pos this]
      simp [h]
      exact .int _ _
  · cases hx
theorem sound_mn (o : Oper) (c : Call) (x y : Operand) (ho : o.op = .call c) (hc : c.callee = .builtin .min) (ha : c.args = #[x, y])
    (hr : HR P base ι H w) (he : rowR ι env a.tmps) (hx : xop (.mn (od x) (od y)) env H k = true) : Res P base ι H w k ((execOp a.eval o).run P w) := by
  simp only [xop] at hx
  refine ResV.builtin ho hc (f := Builtin.min_) (fun _ _ _ _ => rfl) ?_
  rw [ha]
  have hv := ev_sound he x
  have hu := ev_sound he y
  simp only [List.map_toArray, List.map_cons, List.map_nil]
  generalize a.eval x = xv at hv
  generalize ev env (od x) = vx at hv hx
  generalize a.eval y = yv at hu
  generalize ev env (od y) = vy at hu hx
  split at hx
  · rename_i q n r m
    cases hv
    cases hu
    refine ResV.pure hr (cv := .int q (if m < n then m else n)) (by simp [Builtin.min_, Builtin.min2]) ?_ hx
    rw [ile_eq]
    by_cases h : n ≤ m
    · have : ¬ (m < n) := by omega
      rw [if_neg this]
      simp [h]
      exact .int _ _
    · have : m < n := by omega
      rw [if_pos this]
      simp [h]
      exact .int _ _
  · cases hx
theorem sound_xorn (o : Oper) (t : TypeId) (x : Operand) (ho : o.op = .unOp .xor t x) (hr : HR P base ι H w) (he : rowR ι env a.tmps) (hx : xop (.xorn (od x)) env H k = true) :
    Res P base ι H w k ((execOp a.eval o).run P w) := by
  simp only [xop] at hx
  have hv := ev_sound he x
  generalize hxv : a.eval x = xv at hv
  generalize ev env (od x) = vx at hv hx
  split at hx
  · rename_i q n
    cases hv
    rw [fI_eq, bits2_eq Nat.xor (fun _ a b => a ^^^ b) (fun q x y => BitVec.toNat_xor x y)] at hx
    refine Res.pure hr (cv := _) ?_ (.int _ _) hx
    simp [execOp, ho, hxv, Op.unary, Op.intBits]
  · cases hx
end
end Go.Jt
set_option autoImplicit false
set_option linter.all false
namespace Go.Jt
open Go.RowKit (Below)
variable [Gl]

section
variable {P : Program} {base : Nat} {ι : Io} {H : AH} {w : World} {k : AV → AH → Bool} {env : Env} {a : Act}

theorem xbad {p : Prop} (h : xop .bad env H k = true) : p := by cases h
theorem arr1 {α : Type} {c : Array α} {x : α} (h : c.toList = [x]) : c = #[x] := by rw [← Array.toArray_toList (xs := c), h]
theorem arr2 {α : Type} {c : Array α} {x y : α} (h : c.toList = [x, y]) : c = #[x, y] := by rw [← Array.toArray_toList (xs := c), h]
theorem beq_ff {a b : Nat} (h : ¬ (Nat.beq a b = true)) : a ≠ b := fun e => h (by subst e; exact Nat.beq_refl a)
theorem beq_tt {a b : Nat} (h : Nat.beq a b = true) : a = b := Nat.eq_of_beq_eq_true h

theorem sound_builtin (o : Oper) (c : Call) (b : Builtin) (ho : o.op = .call c) (hc : c.callee = .builtin b) (hr : HR P base ι H w) (he : rowR ι env a.tmps) (hx : xop (compOp P o) env H k = true) : Res P base ι H w k ((execOp a.eval o).run P w) := by
  cases b
  case len =>
    simp only [compOp, ho, hc] at hx
    split at hx
    · rename_i t x h1 h2
      split at hx
      · rename_i hu; exact sound_len o c t x 0 _ ho hc (arr1 h1) (arr1 h2) hu (Or.inl ⟨rfl, rfl⟩) hr he hx
      · rename_i hu; exact sound_len o c t x 1 _ ho hc (arr1 h1) (arr1 h2) hu (Or.inr (Or.inl ⟨rfl, _, rfl⟩)) hr he hx
      · rename_i hu; exact sound_len o c t x 2 _ ho hc (arr1 h1) (arr1 h2) hu (Or.inr (Or.inr ⟨rfl, _, _, rfl⟩)) hr he hx
      · exact xbad hx
    · exact xbad hx
  case cap =>
    simp only [compOp, ho, hc] at hx
    split at hx
    · rename_i t x h1 h2
      split at hx
      · rename_i hu; exact sound_capo o c t _ x ho hc (arr1 h1) (arr1 h2) hu hr he hx
      · exact xbad hx
    · exact xbad hx
  case append =>
    simp only [compOp, ho, hc] at hx
    split at hx
    · rename_i t u s x h1 h2
      split at hx
      · rename_i e ud hu1 hu2
        split at hx
        · rename_i z i hz hi
          simp only [Bool.cond_eq_ite] at hx
          split at hx
          · rename_i hl
            split at hx
            · exact xbad hx
            · rename_i hl0
              split at hx
              · exact xbad hx
              · rename_i hby
                exact sound_app o c t u e s x z i ud ho hc (arr2 h1) (arr2 h2) hu1 hu2 hz hi (beq_tt hl) (beq_ff hl0) (beq_ff hby) hr he hx
          · exact xbad hx
        · exact xbad hx
      · exact xbad hx
    · exact xbad hx
  case copy =>
    simp only [compOp, ho, hc] at hx
    split at hx
    · rename_i t ts d s h1 h2
      split at hx
      · rename_i e hu
        split at hx
        · rename_i i hi
          exact sound_copy o c t ts e d s i ho hc h1 (arr2 h2) hu hi hr he hx
        · exact xbad hx
      · exact xbad hx
    · exact xbad hx
  case delete =>
    simp only [compOp, ho, hc] at hx
    split at hx
    · rename_i t ts m key h1 h2
      split at hx
      · rename_i kt e hu
        split at hx
        · rename_i kk hkk
          exact sound_del o c t kt _ ts m key kk ho hc h1 (arr2 h2) hu hkk hr he hx
        · exact xbad hx
      · exact xbad hx
    · exact xbad hx
  case clear =>
    simp only [compOp, ho, hc] at hx
    split at hx
    · rename_i t m h1 h2
      split at hx
      · rename_i kt e hu
        exact sound_clrm o c t _ _ m ho hc (arr1 h1) (arr1 h2) hu hr he hx
      · rename_i e hu
        split at hx
        · rename_i z i hz hi
          simp only [Bool.cond_eq_ite] at hx
          split at hx
          · rename_i hl
            split at hx
            · exact xbad hx
            · rename_i hl0
              exact sound_clrs o c t e m z i ho hc (arr1 h1) (arr1 h2) hu hz hi (beq_tt hl) (beq_ff hl0) hr he hx
          · exact xbad hx
        · exact xbad hx
      · exact xbad hx
    · exact xbad hx
  case max =>
    simp only [compOp, ho, hc] at hx
    split at hx
    · rename_i x y h2
      exact sound_mx o c x y ho hc (arr2 h2) hr he hx
    · exact xbad hx
  case min =>
    simp only [compOp, ho, hc] at hx
    split at hx
    · rename_i x y h2
      exact sound_mn o c x y ho hc (arr2 h2) hr he hx
    · exact xbad hx
  all_goals (simp only [compOp, ho, hc] at hx; exact xbad hx)

theorem sound_op (o : Oper) (hr : HR P base ι H w) (he : rowR ι env a.tmps) (hx : xop (compOp P o) env H k = true) : Res P base ι H w k ((execOp a.eval o).run P w) := by
  cases ho : o.op
  case move x => simp only [compOp, ho] at hx; exact sound_move o x (Or.inl ho) hr he hx
  case assign x => simp only [compOp, ho] at hx; exact sound_move o x (Or.inr ho) hr he hx
  case pick c x y => simp only [compOp, ho] at hx; exact sound_pick o c x y ho hr he hx
  case alloc t =>
    simp only [compOp, ho] at hx
    split at hx
    · rename_i z hz; exact sound_alloc o t z ho hz hr hx
    · exact xbad hx
  case box t x => simp only [compOp, ho] at hx; exact sound_box o t x ho hr he hx
  case build t ps => exact sound_build o t ps ho hr he hx
  case buildSlice t n ps => exact sound_bsl o t n ps ho hr he hx
  case load t x =>
    simp only [compOp, ho] at hx
    split at hx
    · rename_i d i hd hi
      split at hx
      · rename_i g
        exact sound_ldg o t g d i ho hd hi hr he hx
      · cases hag : isAggT P t with
        | true => rw [hag] at hx; exact sound_ldn o t x d i ho hd hi hag hr he hx
        | false => rw [hag] at hx; exact sound_ld1 o t x d ho hd hag hr he hx
    · exact xbad hx
  case store t x y =>
    simp only [compOp, ho] at hx
    split at hx
    · rename_i i hi; exact sound_st o t x y i ho hi hr he hx
    · exact xbad hx
  case nilCheck x => simp only [compOp, ho] at hx; exact sound_nck o x ho hr he hx
  case binOp op t x y u =>
    simp only [compOp, ho] at hx
    cases hag : (isEq op && isAggT P t) with
    | true =>
      rw [hag] at hx
      simp only [Bool.and_eq_true] at hag
      simp only [cond_true] at hx
      split at hx
      · rename_i sh hsh
        cases hg : P.eqGuardType P.depth t with
        | true => rw [hg] at hx; exact xbad hx
        | false => rw [hg] at hx; simp only [cond_false] at hx; exact sound_eqa o op t u x y sh ho hag.1 hag.2 hsh hg hr he hx
      · exact xbad hx
    | false => rw [hag] at hx; exact sound_bin o op t u x y ho hr he hx
  case unOp op t x =>
    cases op
    case not => simp only [compOp, ho] at hx; exact sound_not o t x ho hr he hx
    case neg => simp only [compOp, ho] at hx; exact sound_neg o t x ho hr he hx
    case xor => simp only [compOp, ho] at hx; exact sound_xorn o t x ho hr he hx
    all_goals (simp only [compOp, ho] at hx; exact xbad hx)
  case convert s d x =>
    simp only [compOp, ho] at hx
    split at hx
    · rename_i u q hs hd; exact sound_cvi o s d x q ho u hs hd hr he hx
    · rename_i hs hd; exact sound_cvs o s d x ho hs hd hr he hx
    · rename_i e hs hd
      split at hx
      · rename_i hee; exact sound_s2b o s d e x _ ho hs hd hee hr he hx
      · exact xbad hx
    · rename_i e hs hd
      split at hx
      · rename_i hee; exact sound_b2s o s d e x ho hs hd hee hr he hx
      · exact xbad hx
    · exact xbad hx
  case sliceToArrayPointer d x =>
    simp only [compOp, ho] at hx
    split at hx
    · rename_i n e hd; exact sound_s2a o d x n e ho hd hr he hx
    · exact xbad hx
  case makeInterface t x =>
    simp only [compOp, ho] at hx
    split at hx
    · exact xbad hx
    · rename_i u hu hni; exact sound_mki o t x ho u hni hu hr he hx
    · exact xbad hx
  case typeAssert x xT t ok =>
    simp only [compOp, ho] at hx
    cases ok with
    | true => exact xbad hx
    | false =>
    simp only [cond_false] at hx
    split at hx
    · exact xbad hx
    · rename_i u hu hni; exact sound_tas o t xT x ho u hni hu hr he hx
    · exact xbad hx
  case makeFunc f x y =>
    simp only [compOp, ho] at hx
    cases hf : isYield f with
    | true => rw [hf] at hx; exact xbad hx
    | false => rw [hf] at hx; exact sound_mkf o f x y ho hf hr he hx
  case makeMap t r =>
    cases r with
    | none => simp only [compOp, ho] at hx; exact sound_mkm o t ho hr hx
    | some r => simp only [compOp, ho] at hx; exact xbad hx
  case makeSlice t l c =>
    simp only [compOp, ho] at hx
    split at hx
    · rename_i e hu
      split at hx
      · rename_i z i hz hi
        simp only [Bool.cond_eq_ite] at hx
        split at hx
        · rename_i hl
          split at hx
          · exact xbad hx
          · rename_i hl0
            exact sound_mks o t e l c z i ho hu hz hi (beq_tt hl) (beq_ff hl0) hr he hx
        · exact xbad hx
      · exact xbad hx
    · exact xbad hx
  case slice t x lo hi mx =>
    simp only [compOp, ho] at hx
    split at hx
    · rename_i hu
      split at hx
      · exact sound_sls o t x lo hi ho hu hr he hx
      · exact xbad hx
    · rename_i e hu
      split at hx
      · rename_i i hi'
        simp only [Bool.cond_eq_ite] at hx
        split at hx
        · exact xbad hx
        · rename_i hz; exact sound_sll o t x lo hi mx e i ho hu hi' (beq_ff hz) hr he hx
      · exact xbad hx
    · rename_i n e hu
      split at hx
      · rename_i i hi'
        exact sound_sla o t x lo hi mx n e i ho hu hi' hr he hx
      · exact xbad hx
    · exact xbad hx
  case fieldAddr s x f =>
    simp only [compOp, ho] at hx
    split at hx
    · rename_i fs hu
      split at hx
      · rename_i fl hf
        split at hx
        · rename_i i hi
          simp only [Bool.cond_eq_ite] at hx
          split at hx
          · exact xbad hx
          · rename_i hz; exact sound_fla o s x f fs fl i ho hu hf hi (beq_ff hz) hr he hx
        · exact xbad hx
      · exact xbad hx
    · exact xbad hx
  case field t x f =>
    simp only [compOp, ho] at hx
    split at hx
    · rename_i fs hu
      split at hx
      · rename_i fl hf
        split at hx
        · rename_i i d hi hd
          exact sound_fld o t x f fs fl i d ho hu hf hi hd hr he hx
        · exact xbad hx
      · exact xbad hx
    · exact xbad hx
  case indexAddr t x y =>
    simp only [compOp, ho] at hx
    split at hx
    · rename_i n e hu
      split at hx
      · rename_i i hi; exact sound_ixa o t x y n e i ho hu hi hr he hx
      · exact xbad hx
    · rename_i e hu
      split at hx
      · rename_i i hi; exact sound_ixs o t x y e i ho hu hi hr he hx
      · exact xbad hx
    · exact xbad hx
  case index t x y =>
    simp only [compOp, ho] at hx
    split at hx
    · rename_i n e hu
      split at hx
      · rename_i i d hi hd; exact sound_iag o t x y n e i d ho hu hi hd hr he hx
      · exact xbad hx
    · rename_i hu; exact sound_ist o t x y ho hu hr he hx
    · exact xbad hx
  case lookup t m key ok =>
    simp only [compOp, ho] at hx
    split at hx
    · rename_i kt e hu
      split at hx
      · rename_i kk z hkk hz; exact sound_lkp o t kt e m key z kk ok ho hu hkk hz hr he hx
      · exact xbad hx
    · exact xbad hx
  case mapUpdate t m key x =>
    simp only [compOp, ho] at hx
    split at hx
    · rename_i kt e hu
      split at hx
      · rename_i kk hkk; exact sound_mup o t kt _ m key x kk ho hu hkk hr he hx
      · exact xbad hx
    · exact xbad hx
  case extract x i => simp only [compOp, ho] at hx; exact sound_ext o x i ho hr he hx
  case range t x =>
    simp only [compOp, ho] at hx
    split at hx
    · rename_i hu; exact sound_rng o t x ho hu hr he hx
    · exact xbad hx
  case call c =>
    cases hc : c.callee with
    | value f => simp only [compOp, ho, hc] at hx; cases hx
    | invoke r n => simp only [compOp, ho, hc] at hx; exact xbad hx
    | builtin b => exact sound_builtin o c b ho hc hr he hx
  all_goals (simp only [compOp, ho] at hx; exact xbad hx)
end
end Go.Jt
