/-
  The abstract run of an operation is true to the model's: numbers, strings, comparisons.
-/
import Derived.Test.YtlhlgmodhblplaaJtOps1
import Derived.Lib.Strings
import Derived.Laws.Strings
import Derived.Laws.StructEq
import Derived.LaidEql
set_option autoImplicit false
set_option linter.all false
namespace Go.Jt
open Go.RowKit (Below)
variable [Gl]

theorem mask_eq (q : IntKind) : mask q = 2 ^ q.bits := by cases q <;> rfl
theorem bits2_eq (f : Nat → Nat → Nat) (g : (q : IntKind) → BitVec q.bits → BitVec q.bits → BitVec q.bits)
    (hfg : ∀ (q : IntKind) (x y : BitVec q.bits), (g q x y).toNat = f x.toNat y.toNat) (q : IntKind) (x y : Int) :
    bits2 f g q x y = q.wrap (g q (BitVec.ofInt q.bits x) (BitVec.ofInt q.bits y)).toNat := by
  cases x with
  | negSucc a => rfl
  | ofNat a =>
    cases y with
    | negSucc b => rfl
    | ofNat b =>
      show wrapF q (Int.ofNat (f (a % mask q) (b % mask q))) = _
      rw [wrapF_eq, hfg, BitVec.toNat_ofInt, BitVec.toNat_ofInt, mask_eq]
      congr 1
theorem beq_false_of_not {a b : Nat} (h : Nat.beq a b = false) : a ≠ b := fun e => by subst e; simp at h

section
variable {P : Program} {w : World}
/-- arithmetic and comparison of two integers of one kind -/
theorem ibin_sound {op : BinOp} {q : IntKind} {x y : Int} {k : AV → Bool} (h : ibin op q x y k = true) (t : TypeId) (ι : Io) :
    ∃ v cv, (binOp op t (.int q x) (.int q y)).run P w = .ok cv w ∧ VR ι v cv ∧ k v = true := by
  cases op <;> simp only [ibin, fI_eq, wrapF_eq] at h <;> try (cases h; done)
  case add => exact ⟨_, _, by simp [binOp, Op.intArith], .int _ _, h⟩
  case sub => exact ⟨_, _, by simp [binOp, Op.intArith], .int _ _, h⟩
  case mul => exact ⟨_, _, by simp [binOp, Op.intArith], .int _ _, h⟩
  case quo =>
    rw [ieq_eq] at h
    by_cases hy : y = 0
    · subst hy; cases h
    · have : (y == 0) = false := by simpa using hy
      rw [this] at h
      exact ⟨_, _, by simp [binOp, Op.intDiv, hy], .int _ _, h⟩
  case rem =>
    rw [ieq_eq] at h
    by_cases hy : y = 0
    · subst hy; cases h
    · have : (y == 0) = false := by simpa using hy
      rw [this] at h
      exact ⟨_, _, by simp [binOp, Op.intDiv, hy], .int _ _, h⟩
  case and =>
    rw [bits2_eq Nat.land (fun _ a b => a &&& b) (fun q x y => BitVec.toNat_and x y)] at h
    exact ⟨_, _, by simp [binOp, Op.intBits], .int _ _, h⟩
  case or =>
    rw [bits2_eq Nat.lor (fun _ a b => a ||| b) (fun q x y => BitVec.toNat_or x y)] at h
    exact ⟨_, _, by simp [binOp, Op.intBits], .int _ _, h⟩
  case xor =>
    rw [bits2_eq Nat.xor (fun _ a b => a ^^^ b) (fun q x y => BitVec.toNat_xor x y)] at h
    exact ⟨_, _, by simp [binOp, Op.intBits], .int _ _, h⟩
  case eql => rw [ieq_eq] at h; exact ⟨.bool (x == y), .bool (x == y), by simp [binOp, Op.intCmp], .bool _, h⟩
  case neq => rw [ieq_eq] at h; exact ⟨.bool (x != y), .bool (x != y), by simp [binOp, Op.intCmp], .bool _, h⟩
  case lss =>
    rw [ile_eq] at h
    have e : (!decide (y ≤ x)) = decide (x < y) := by rw [Bool.eq_iff_iff]; simp
    exact ⟨.bool (decide (x < y)), .bool (decide (x < y)), by simp [binOp, Op.intCmp], .bool _, by rw [← e]; exact h⟩
  case leq =>
    rw [ile_eq] at h
    exact ⟨.bool (decide (x ≤ y)), .bool (decide (x ≤ y)), by simp [binOp, Op.intCmp], .bool _, h⟩
  case gtr =>
    rw [ile_eq] at h
    have e : (!decide (x ≤ y)) = decide (x > y) := by rw [Bool.eq_iff_iff]; simp
    exact ⟨.bool (decide (x > y)), .bool (decide (x > y)), by simp [binOp, Op.intCmp], .bool _, by rw [← e]; exact h⟩
  case geq =>
    rw [ile_eq] at h
    exact ⟨.bool (decide (x ≥ y)), .bool (decide (x ≥ y)), by simp [binOp, Op.intCmp], .bool _, h⟩
theorem ishift_sound {left : Bool} {q r : IntKind} {x y : Int} {k : AV → Bool} (h : ishift left q x y k = true) (t : TypeId) (ι : Io) :
    ∃ v cv, (binOp (if left then .shl else .shr) t (.int q x) (.int r y)).run P w = .ok cv w ∧ VR ι v cv ∧ k v = true := by
  cases y with
  | negSucc b => cases h
  | ofNat b =>
    have h' : fN (Nat.min b q.bits) (fun n => cond left (fI (wrapF q (x * Int.ofNat (Nat.pow 2 n))) fun z => k (.int q z))
      (Int.rec (fun a => fN (a / Nat.pow 2 n) fun m => k (.int q (Int.ofNat m))) (fun _ => fI (x.fdiv (2 ^ n)) fun z => k (.int q z)) x)) = true := h
    rw [fN_eq] at h'
    simp only [fI_eq, wrapF_eq, fN_eq] at h'
    have hb : ¬ ((Int.ofNat b) < 0) := by simp
    have hm : min (Int.ofNat b).toNat q.bits = Nat.min b q.bits := rfl
    cases left with
    | true =>
      refine ⟨.int q (q.wrap (x * Int.ofNat (Nat.pow 2 (Nat.min b q.bits)))), .int q (q.wrap (x * 2 ^ (Nat.min b q.bits))), ?_, ?_, h'⟩
      · simp only [if_true, binOp, Op.shift, if_neg hb, hm]; rfl
      · have : Int.ofNat (Nat.pow 2 (Nat.min b q.bits)) = (2 : Int) ^ (Nat.min b q.bits) := by
          show ((2 ^ (Nat.min b q.bits) : Nat) : Int) = _
          norm_cast
        rw [this]; exact .int _ _
    | false =>
      refine ⟨.int q (x.fdiv (2 ^ (Nat.min b q.bits))), .int q (x.fdiv (2 ^ (Nat.min b q.bits))), ?_, .int _ _, ?_⟩
      · simp only [Bool.false_eq_true, if_false, binOp, Op.shift, if_neg hb, hm]; rfl
      · cases x with
        | negSucc a => exact h'
        | ofNat a =>
          have e : (Int.ofNat a).fdiv (2 ^ (Nat.min b q.bits)) = Int.ofNat (a / Nat.pow 2 (Nat.min b q.bits)) := by
            rw [Int.fdiv_eq_ediv_of_nonneg _ (Int.le_of_lt (Int.pow_pos (by decide)))]
            show (a : Int) / 2 ^ _ = ((a / 2 ^ (Nat.min b q.bits) : Nat) : Int)
            norm_cast
          rw [e]; exact h'

/-! ### strings -/
theorem bytesOf_eq (a b : ByteArray) : seq (bytesOf a) (bytesOf b) = (a.toList == b.toList) := by
  rw [seq_eq, ByteArray.toList_eq, ByteArray.toList_eq, Bool.eq_iff_iff, beq_iff_eq, beq_iff_eq]
  exact List.map_inj_right (fun x y h => UInt8.toNat_inj.1 h)
theorem slt_map (l : List UInt8) : ∀ m : List UInt8, slt (l.map (·.toNat)) (m.map (·.toNat)) = Op.bytesLess l m := by
  induction l with
  | nil => intro m; cases m <;> rfl
  | cons x l ih =>
    intro m
    cases m with
    | nil => rfl
    | cons y m =>
      show cond (Nat.ble (Nat.succ x.toNat) y.toNat) true (cond (Nat.beq x.toNat y.toNat) (slt (l.map (·.toNat)) (m.map (·.toNat))) false) = _
      rw [ih]
      simp only [Op.bytesLess, Bool.cond_eq_ite, Nat.ble_eq, Nat.beq_eq]
      by_cases h1 : x < y
      · have : x.toNat.succ ≤ y.toNat := h1
        rw [if_pos this]; simp [h1]
      · have : ¬ x.toNat.succ ≤ y.toNat := h1
        rw [if_neg this]
        by_cases h2 : x = y
        · subst h2; simp [h1]
        · have : ¬ x.toNat = y.toNat := fun e => h2 (UInt8.toNat_inj.1 e)
          rw [if_neg this]; simp [h1, h2]
theorem bytesOf_len (a : ByteArray) : (bytesOf a).length = a.size := by simp [bytesOf]
theorem bytesOf_append (a b : ByteArray) : bytesOf (a ++ b) = bytesOf a ++ bytesOf b := by
  unfold bytesOf
  rw [ByteArray.data_append]; simp
theorem i64max : IntKind.i64.max = 9223372036854775807 := by decide
theorem sbin_sound {op : BinOp} {x y : ByteArray} {k : AV → Bool} (h : sbin op (bytesOf x) (bytesOf y) k = true) (t : TypeId) (ι : Io) :
    ∃ v cv, (binOp op t (.string x) (.string y)).run P w = .ok cv w ∧ VR ι v cv ∧ k v = true := by
  have e1 := bytesOf_eq x y
  have e2 : slt (bytesOf x) (bytesOf y) = Op.bytesLess x.toList y.toList := by rw [ByteArray.toList_eq, ByteArray.toList_eq]; exact slt_map _ _
  cases op <;> simp only [sbin] at h <;> try (cases h; done)
  case add =>
    rw [llen_eq, llen_eq, bytesOf_len, bytesOf_len] at h
    cases hb : Nat.ble (x.size + 0 + (y.size + 0)) 9223372036854775807 with
    | false => rw [hb] at h; cases h
    | true =>
      rw [hb] at h
      have := Nat.le_of_ble_eq_true hb
      refine ⟨.str (bytesOf (x ++ y)), .string (x ++ y), ?_, .str _, by rw [bytesOf_append]; exact h⟩
      simp only [binOp, Op.stringOp]
      rw [if_neg (by rw [i64max]; omega)]
      rfl
  case eql => exact ⟨.bool (x.toList == y.toList), .bool (x.toList == y.toList), by simp [binOp, Op.stringOp], .bool _, by rw [← e1]; exact h⟩
  case neq => exact ⟨.bool (!(x.toList == y.toList)), .bool (!(x.toList == y.toList)), by simp [binOp, Op.stringOp], .bool _, by rw [← e1]; exact h⟩
  case lss => exact ⟨.bool (Op.bytesLess x.toList y.toList), .bool (Op.bytesLess x.toList y.toList), by simp [binOp, Op.stringOp], .bool _, by rw [← e2]; exact h⟩
  case leq => exact ⟨.bool (Op.bytesLess x.toList y.toList || x.toList == y.toList), .bool (Op.bytesLess x.toList y.toList || x.toList == y.toList), by simp [binOp, Op.stringOp], .bool _, by rw [← e2, ← e1]; exact h⟩
  case gtr => exact ⟨.bool (!(Op.bytesLess x.toList y.toList || x.toList == y.toList)), .bool (!(Op.bytesLess x.toList y.toList || x.toList == y.toList)), by simp [binOp, Op.stringOp], .bool _, by rw [← e2, ← e1]; exact h⟩
  case geq => exact ⟨.bool (!(Op.bytesLess x.toList y.toList)), .bool (!(Op.bytesLess x.toList y.toList)), by simp [binOp, Op.stringOp], .bool _, by rw [← e2]; exact h⟩

/-! ### '==' -/
theorem depth_succ : Op.maxDepth = 9999 + 1 := rfl
theorem gcell_inv {H : AH} {b : Nat} {k : Rp AV → Bool → Bool → Bool} (h : gcell H b k = true) : ∃ c st ro, H.get b = some (.cells c st ro) ∧ k c st ro = true := by
  unfold gcell at h
  split at h
  · exact ⟨_, _, _, by assumption, h⟩
  · cases h
theorem gmap_inv {H : AH} {b : Nat} {k : List (AV × AV × Nat) → Nat → Bool} (h : gmap H b k = true) : ∃ es c, H.get b = some (.mp es c) ∧ k es c = true := by
  unfold gmap at h
  split at h
  · exact ⟨_, _, by assumption, h⟩
  · cases h
theorem cond_true_inv {b c : Bool} (h : cond b c false = true) : b = true ∧ c = true := by cases b <;> first | (cases h; done) | exact ⟨rfl, h⟩
theorem cond_false_inv {b c : Bool} (h : cond b false c = true) : b = false ∧ c = true := by cases b <;> first | (cases h; done) | exact ⟨rfl, h⟩
theorem kind_ptr {b : Bool} {n : Nat} (h : n = cond b 0 2) : n = 0 ∨ n = 2 := by cases b <;> first | exact .inl h | exact .inr h
set_option maxHeartbeats 2000000 in
theorem eqv_sound {base : Nat} {ι : Io} {H : AH} {va vb : AV} {x y : Value} {k : Bool → Bool} {t : TypeId} (hr : HR P base ι H w) (ha : VR ι va x) (hb : VR ι vb y)
    (hk : Nat.beq (eqk va vb) (eqKind P t) = true) (h : eqv H va vb k = true) : ∃ r, (Op.equal t x y).run P w = .ok r w ∧ k r = true := by
  have hk' := Nat.eq_of_beq_eq_true hk
  unfold eqKind at hk'
  unfold Op.equal
  rw [depth_succ]
  generalize 9999 = dd
  cases hu : P.underlying t with
  | none =>
    rw [hu] at hk'
    cases va <;> simp only [eqk] at hk' <;> first | (cases hk'; done) | (simp only [eqv] at h; cases h; done)
  | some d =>
    rw [hu] at hk'
    unfold eqv at h
    split at h <;> try (cases h; done)
    case h_5 x o y p =>
      cases ha with
      | ptr _ _ L hL =>
      cases hb with
      | ptr _ _ M hM =>
      simp only [eqk] at hk'
      cases d <;> simp only at hk' <;> try (cases hk'; done)
      rename_i el
      have hz : sizeT P el ≠ 0 := by
        intro e0
        rw [e0] at hk'
        cases hk'
      unfold sizeT at hz
      cases hi : P.info? el with
      | none => rw [hi] at hz; exact absurd rfl hz
      | some i =>
        rw [hi] at hz
        have hz' : i.size ≠ 0 := hz
        have e1 : ∀ (A B : Addr), (Op.equalIn (dd + 1) t (.pointer (some A)) (.pointer (some B))).run P w = (sameAddr A B).run P w := fun A B => by
          simp [Op.equalIn, run_und hu, run_size hi, hz']
        rw [e1]
        cases hxy : Nat.beq x y with
        | true =>
          have := Nat.eq_of_beq_eq_true hxy
          subst this
          rw [hL] at hM
          cases hM
          rw [hxy] at h
          refine ⟨Nat.beq o p, ?_, h⟩
          simp only [sameAddr, beq_self_eq_true, if_true, Sem.run_pure]
          congr 1
          rw [Bool.eq_iff_iff]
          simp
        | false =>
          rw [hxy] at h
          obtain ⟨c1, s1, r1, g1, h⟩ := gcell_inv h
          obtain ⟨hs1, h⟩ := cond_false_inv h
          obtain ⟨c2, s2, r2, g2, h⟩ := gcell_inv h
          obtain ⟨hs2, h⟩ := cond_false_inv h
          refine ⟨false, ?_, h⟩
          obtain ⟨k1, el1, fr1, w1, o1⟩ := hr.cells g1 hL
          obtain ⟨k2, el2, fr2, w2, o2⟩ := hr.cells g2 hM
          cases o1 with
          | cells _ _ _ _ _ _ _ _ _ _ _ _ q1 _ =>
          cases o2 with
          | cells _ _ _ _ _ _ _ _ _ _ _ _ q2 _ =>
          have f1 := (q1 hs1).1
          have f2 := (q2 hs2).1
          have f3 := (q1 hs1).2
          subst f1
          subst f2
          have hne : L.blk ≠ M.blk := fun e => (hr.inj _ _ _ _ _ _ g1 g2 hL hM e).elim (beq_false_of_not hxy) (fun hl => by omega)
          have a1 : ∀ off, w.frozen? ⟨L.blk, off, none⟩ = false := fun off => frozen_of w1 (by simp)
          have a2 : ∀ off, w.frozen? ⟨M.blk, off, none⟩ = false := fun off => frozen_of w2 (by simp)
          have b1 : w.shape? L.blk = some (el1, k1.size) := by simp [World.shape?, w1]
          have b2 : w.shape? M.blk = some (el2, k2.size) := by simp [World.shape?, w2]
          simp [sameAddr, hne, a1, a2, noView, viewAt, b1, b2, mayBeOne, stringish]
    all_goals (cases ha <;> cases hb)
    all_goals (simp only [eqk] at hk')
    all_goals (cases d <;> simp only at hk' <;> try (cases hk'; done))
    all_goals first
      | (rcases kind_ptr hk' with e | e <;> cases e; done)
      | (refine ⟨_, ?_, h⟩; simp [Op.equalIn, run_und hu]; done)
      | (rename_i x y; refine ⟨_, ?_, h⟩; simp only [Op.equalIn, run_und hu, Sem.run_bind, Result.andThen_ok, Sem.run_pure]; cases x <;> cases y <;> rfl)

theorem eqGuard_other {op : BinOp} {t : TypeId} {x y : Operand} {u v : Value} (h1 : ¬ (u = .nilIface ∧ v = .nilIface)) (h2 : ¬ ((∃ c, u = .agg c) ∧ ∃ c, v = .agg c)) : (eqGuard op t x y u v).run P w = .ok () w := by
  unfold eqGuard
  cases u <;> cases v <;> first
    | (exact absurd ⟨rfl, rfl⟩ h1)
    | (exact absurd ⟨⟨_, rfl⟩, ⟨_, rfl⟩⟩ h2)
    | (cases op <;> simp)
theorem bin_sound {base : Nat} {ι : Io} {H : AH} {va vb : AV} {x y : Value} {k : AV → Bool} {t : TypeId} {op : BinOp} (hr : HR P base ι H w) (ha : VR ι va x) (hb : VR ι vb y)
    (h : bin op (eqKind P t) H va vb k = true) (ox oy : Operand) :
    ∃ v cv, (do eqGuard op t ox oy x y; binOp op t x y : Sem Value).run P w = .ok cv w ∧ VR ι v cv ∧ k v = true := by
  unfold bin at h
  split at h
  · rename_i q m r n
    have e1 := ha.int_inv
    have e2 := hb.int_inv
    subst e1
    subst e2
    have hg : (eqGuard op t ox oy (.int q m) (.int r n)).run P w = .ok () w := eqGuard_other (by simp) (by simp)
    simp only [Sem.run_bind, hg, Result.andThen_ok]
    split at h
    · exact ishift_sound (left := true) h t ι
    · exact ishift_sound (left := false) h t ι
    · obtain ⟨hq, h'⟩ := cond_true_inv h
      have := ikN_inj hq
      subst this
      exact ibin_sound h' t ι
  · obtain ⟨s1, rfl, rfl⟩ := ha.str_inv
    obtain ⟨s2, rfl, rfl⟩ := hb.str_inv
    have hg : (eqGuard op t ox oy (.string s1) (.string s2)).run P w = .ok () w := eqGuard_other (by simp) (by simp)
    simp only [Sem.run_bind, hg, Result.andThen_ok]
    exact sbin_sound h t ι
  · rename_i n1 n2
    have key : ∀ (f : Bool → AV) , eqv H va vb (fun t => k (f t)) = true → (¬ (x = .nilIface ∧ y = .nilIface)) ∧ (¬ ((∃ c, x = .agg c) ∧ ∃ c, y = .agg c)) ∧ (∀ q n, x ≠ .int q n) ∧ (∀ q n, x ≠ .float q n) ∧ (∀ q a b, x ≠ .complex q a b) ∧ (∀ s, x ≠ .string s) := by
      intro f hf
      unfold eqv at hf
      split at hf <;> try (cases hf; done)
      all_goals (cases ha <;> cases hb <;> refine ⟨by simp, by simp, by simp, by simp, by simp, by simp⟩)
    have run : ∀ (r : Bool), (Op.equal t x y).run P w = .ok r w → (∀ q n, x ≠ .int q n) → (∀ q n, x ≠ .float q n) → (∀ q a b, x ≠ .complex q a b) → (∀ s, x ≠ .string s) →
        (binOp .eql t x y).run P w = .ok (.bool r) w ∧ (binOp .neq t x y).run P w = .ok (.bool !r) w := by
      intro r hrun h1 h2 h3 h4
      cases x <;> first
        | exact absurd rfl (h1 _ _)
        | exact absurd rfl (h2 _ _)
        | exact absurd rfl (h3 _ _ _)
        | exact absurd rfl (h4 _)
        | (simp only [binOp, Sem.run_bind, hrun, Result.andThen_ok, Sem.run_pure]; exact ⟨trivial, trivial⟩)
        | (simp [binOp, hrun])
    split at h
    · obtain ⟨hk, h⟩ := cond_true_inv h
      obtain ⟨g1, g2, g3, g4, g5, g6⟩ := key _ h
      obtain ⟨r, hrun, hkr⟩ := eqv_sound hr ha hb hk h
      refine ⟨.bool r, .bool r, ?_, .bool r, hkr⟩
      simp only [Sem.run_bind, eqGuard_other g1 g2, Result.andThen_ok]
      exact (run r hrun g3 g4 g5 g6).1
    · obtain ⟨hk, h⟩ := cond_true_inv h
      obtain ⟨g1, g2, g3, g4, g5, g6⟩ := key _ h
      obtain ⟨r, hrun, hkr⟩ := eqv_sound hr ha hb hk h
      refine ⟨.bool !r, .bool !r, ?_, .bool _, hkr⟩
      simp only [Sem.run_bind, eqGuard_other g1 g2, Result.andThen_ok]
      exact (run r hrun g3 g4 g5 g6).2
    · cases h
theorem sound_bin {base : Nat} {ι : Io} {H : AH} {k : AV → AH → Bool} {env : Env} {a : Act} (o : Oper) (op : BinOp) (t u : TypeId) (x y : Operand) (ho : o.op = .binOp op t x y u) (hr : HR P base ι H w) (he : rowR ι env a.tmps)
    (hx : xop (.bin op (eqKind P t) (od x) (od y)) env H k = true) : Res P base ι H w k ((execOp a.eval o).run P w) := by
  simp only [xop] at hx
  obtain ⟨v, cv, hrun, hv, hk⟩ := bin_sound hr (ev_sound he x) (ev_sound he y) hx x y
  exact Res.pure hr (cv := cv) (by simp only [execOp, ho]; rw [Sem.run_bind, hrun]; rfl) hv hk
end
end Go.Jt
