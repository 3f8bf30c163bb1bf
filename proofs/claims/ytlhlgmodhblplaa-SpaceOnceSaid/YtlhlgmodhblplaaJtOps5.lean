/-
  The abstract run of an operation is true to the model's: parts of values, slice expressions, new slices and maps, lengths.
-/
import Derived.Test.YtlhlgmodhblplaaJtOps4
import Derived.Laws.BytesString
set_option autoImplicit false
set_option linter.all false
namespace Go.Jt
open Go.RowKit (Below)
variable [Gl]

section
variable {P : Program} {base : Nat} {ι : Io} {H : AH} {w : World} {k : AV → AH → Bool} {env : Env} {a : Act}

theorem cellsR.sub {r : Rp AV} {c : Array Value} (h : cellsR ι r c) {off n : Nat} (hn : off + n ≤ c.size) : cellsR ι (r.sub off n) (c.extract off (off + n)) := by
  have := cellsR_sub (ι := ι) (L := ⟨0, 0, c.size⟩) (off := off) (n := n) (cc := c) h.1 (by simp [h.2.1]) (fun i _ => by simpa using h.2.2.1 i) (ro := false) (fun i hi _ => h.2.2.2 i hi) (by rw [h.2.1]; exact hn)
  simpa using this
theorem lt_of_ble_false {a b : Nat} (h : Nat.ble a b = false) : b < a := by
  rcases Nat.lt_or_ge b a with h' | h'
  · exact h'
  · rw [Nat.ble_eq_true_of_le h'] at h; cases h
/-- one part of a row of cells -/
theorem part_sound {r : Rp AV} {c : Array Value} (h : cellsR ι r c) {t : TypeId} {d : TypeDesc} {i : TypeInfo} (hu : P.underlying t = some d) (hi : P.info? t = some i) {off : Nat} {K : AV → Bool}
    (hx : cond (isAggT P t) (cond (Nat.ble (off + i.size) r.len) (K (.agg (r.sub off i.size))) false) (match r.get off with
      | some v => K v
      | none => false) = true) : ∃ v cv, (part t c off).run P w = .ok cv w ∧ VR ι v cv ∧ K v = true := by
  cases hag : isAggT P t with
  | true =>
    rw [hag] at hx
    obtain ⟨h1, h2⟩ := cond_true_inv hx
    have h1' := Nat.le_of_ble_eq_true h1
    rw [Rp.len_eq r h.1, h.2.1] at h1'
    exact ⟨_, .agg (c.extract off (off + i.size)), by simp [part, run_isAgg hu, hag, run_size hi], (h.sub h1').agg, h2⟩
  | false =>
    rw [hag] at hx
    simp only [cond_false] at hx
    rw [Rp.get_eq r h.1] at hx
    split at hx
    · rename_i v hv
      have hlt : off < r.toL.length := (List.getElem?_eq_some_iff.1 hv).1
      have h2 := h.2.2.1 off
      rw [List.getD_eq_getElem?_getD, hv] at h2
      have e2 := getD_in c off (by rw [← h.2.1]; exact hlt)
      generalize c.getD off Go.undef = cv at h2 e2
      exact ⟨v, cv, by simp [part, run_isAgg hu, hag, e2], h2, hx⟩
    · cases hx
theorem sound_fld (o : Oper) (t : TypeId) (x : Operand) (j : Nat) (fs : Array Field) (f : Field) (i : TypeInfo) (d : TypeDesc) (ho : o.op = .field t x j) (ht : P.underlying t = some (.struct fs)) (hj : fs[j]? = some f) (hi : P.info? f.type = some i)
    (hu : P.underlying f.type = some d) (hr : HR P base ι H w) (he : rowR ι env a.tmps) (hx : xop (.fld f.offset i.size (isAggT P f.type) (od x)) env H k = true) : Res P base ι H w k ((execOp a.eval o).run P w) := by
  simp only [xop] at hx
  have hv := ev_sound he x
  generalize hxv : a.eval x = xv at hv
  split at hx
  · rename_i r e
    rw [e] at hv
    obtain ⟨c, rfl, hc⟩ := hv.agg_inv
    obtain ⟨v, cv, h1, h2, h3⟩ := part_sound (w := w) hc hu hi (K := fun v => k v H) hx
    refine Res.pure hr (cv := cv) ?_ h2 h3
    simp [execOp, ho, hxv, Instr.field, run_und ht, hj, asAgg, h1]
  · cases hx
theorem sound_iag (o : Oper) (t : TypeId) (x y : Operand) (n : Nat) (e : TypeId) (i : TypeInfo) (d : TypeDesc) (ho : o.op = .index t x y) (ht : P.underlying t = some (.array n e)) (hi : P.info? e = some i) (hu : P.underlying e = some d)
    (hr : HR P base ι H w) (he : rowR ι env a.tmps) (hx : xop (.iag n i.size (isAggT P e) (od x) (od y)) env H k = true) : Res P base ι H w k ((execOp a.eval o).run P w) := by
  simp only [xop] at hx
  have hv := ev_sound he x
  have hw := ev_sound he y
  generalize hxv : a.eval x = xv at hv
  generalize hyv : a.eval y = yv at hw
  split at hx
  · rename_i r q m e1 e2
    rw [e1] at hv
    rw [e2] at hw
    obtain ⟨c, rfl, hc⟩ := hv.agg_inv
    have := hw.int_inv
    subst this
    obtain ⟨hn, hx⟩ := cond_false_inv hx
    have hlt := lt_of_ble_false hn
    obtain ⟨v, cv, h1, h2, h3⟩ := part_sound (w := w) hc hu hi (K := fun v => k v H) hx
    refine Res.pure hr (cv := cv) ?_ h2 h3
    have hb : (0 : Int) ≤ Int.ofNat m ∧ (Int.ofNat m : Int) < (n : Int) := ⟨Int.natCast_nonneg m, by show (m : Int) < n; omega⟩
    simp only [execOp, ho, hxv, hyv, Instr.index, Sem.run_bind, run_und ht, asIntOf, Sem.run_pure, Result.andThen_ok]
    rw [if_pos hb]
    simp only [Sem.run_bind, run_size hi, Result.andThen_ok]
    have : (Int.ofNat m).toNat = m := rfl
    rw [this, h1]
    rfl
  · cases hx
theorem sound_ist (o : Oper) (t : TypeId) (x y : Operand) (ho : o.op = .index t x y) (ht : P.underlying t = some .string)
    (hr : HR P base ι H w) (he : rowR ι env a.tmps) (hx : xop (.ist (od x) (od y)) env H k = true) : Res P base ι H w k ((execOp a.eval o).run P w) := by
  simp only [xop] at hx
  have hv := ev_sound he x
  have hw := ev_sound he y
  generalize hxv : a.eval x = xv at hv
  generalize hyv : a.eval y = yv at hw
  split at hx
  · rename_i s q m e1 e2
    rw [e1] at hv
    rw [e2] at hw
    obtain ⟨b, rfl, rfl⟩ := hv.str_inv
    have := hw.int_inv
    subst this
    split at hx
    · rename_i c hc
      rw [fN_eq] at hx
      have hlt : m < b.size := by have := (List.getElem?_eq_some_iff.1 hc).1; rw [bytesOf_len] at this; exact this
      have hbm : b[m]? = some b[m] := by simp [hlt]
      have hcm : c = b[m].toNat := by
        have := (List.getElem?_eq_some_iff.1 hc).2
        rw [← this]
        simp [bytesOf, ByteArray.getElem_eq_getElem_data]
      subst hcm
      refine Res.pure hr (cv := .int .u8 b[m].toNat) ?_ (.int _ _) hx
      simp [execOp, ho, hxv, hyv, Instr.index, run_und ht, asIntOf, hbm]
    · cases hx
  · cases hx

/-! ### slice expressions -/
theorem isOd_inv {o : Option Operand} {dflt : Nat} {K : Nat → Bool} (he : rowR ι env a.tmps) (h : isOd (o.map od) env dflt K = true) :
    ∃ n, K n = true ∧ (o = none ∧ n = dflt ∨ ∃ x q, o = some x ∧ a.eval x = .int q (n : Int)) := by
  cases o with
  | none => exact ⟨dflt, h, .inl ⟨rfl, rfl⟩⟩
  | some x =>
    simp only [Option.map_some, isOd] at h
    have hv := ev_sound he x
    split at h
    · rename_i q n e
      rw [e] at hv
      rw [fN_eq] at h
      exact ⟨n, h, .inr ⟨x, q, rfl, hv.int_inv⟩⟩
    · cases h
theorem run_bound {x : Value} {q : IntKind} {n y : Nat} {code : BoundsCode} (hx : x = .int q (n : Int)) (h : n ≤ y) : (Instr.sliceBound x y code).run P w = .ok n w := by
  subst hx
  unfold Instr.sliceBound
  simp only [asIntOf, Sem.run_bind, Sem.run_pure, Result.andThen_ok]
  rw [if_pos (by omega)]
  simp
theorem cut3_sound {len c0 cap : Nat} {lo hi mx : Option Operand} {K : Nat → Nat → Nat → Bool} (isS : Bool) (he : rowR ι env a.tmps) (hc : c0 ≤ cap) (hlen : len ≤ cap) (h : cut3 env len c0 (lo.map od) (hi.map od) (mx.map od) K = true) :
    ∃ l h m m', (Instr.sliceBounds isS len cap (lo.map a.eval) (hi.map a.eval) (mx.map a.eval)).run P w = .ok (l, h, m') w ∧ K l h m = true ∧ l ≤ h ∧ h ≤ m ∧ m ≤ c0 ∧ (mx = none → m = c0 ∧ m' = cap) ∧ (mx ≠ none → m' = m) := by
  unfold cut3 at h
  obtain ⟨m, h, hm⟩ := isOd_inv he h
  obtain ⟨h1, h⟩ := cond_true_inv h
  have h1' := Nat.le_of_ble_eq_true h1
  have key : ∀ (h : isOd (hi.map od) env len (fun h => cond (Nat.ble h m) (isOd (lo.map od) env 0 fun l => cond (Nat.ble l h) (K l h m) false) false) = true) , (hi = none → mx = none) →
      ∃ l h m m', (Instr.sliceBounds isS len cap (lo.map a.eval) (hi.map a.eval) (mx.map a.eval)).run P w = .ok (l, h, m') w ∧ K l h m = true ∧ l ≤ h ∧ h ≤ m ∧ m ≤ c0 ∧ (mx = none → m = c0 ∧ m' = cap) ∧ (mx ≠ none → m' = m) := by
    intro h hmx
    obtain ⟨h', hh, hh2⟩ := isOd_inv he h
    obtain ⟨h3, hh⟩ := cond_true_inv hh
    have h3' := Nat.le_of_ble_eq_true h3
    obtain ⟨l, hl, hl2⟩ := isOd_inv he hh
    obtain ⟨h4, hl⟩ := cond_true_inv hl
    have h4' := Nat.le_of_ble_eq_true h4
    rcases hm with ⟨rfl, rfl⟩ | ⟨xm, qm, rfl, em⟩
    · refine ⟨l, h', m, cap, ?_, hl, h4', h3', h1', fun _ => ⟨rfl, rfl⟩, fun e => absurd rfl e⟩
      rcases hh2 with ⟨rfl, rfl⟩ | ⟨xh, qh, rfl, eh⟩ <;> rcases hl2 with ⟨rfl, rfl⟩ | ⟨xl, ql, rfl, el⟩
      · simp [Instr.sliceBounds]
      · simp [Instr.sliceBounds, run_bound (P := P) (w := w) el h4']
      · simp [Instr.sliceBounds, run_bound (P := P) (w := w) eh (show h' ≤ cap by omega)]
      · simp [Instr.sliceBounds, run_bound (P := P) (w := w) eh (show h' ≤ cap by omega), run_bound (P := P) (w := w) el h4']
    · refine ⟨l, h', m, m, ?_, hl, h4', h3', h1', fun e => (by cases e), fun _ => rfl⟩
      rcases hh2 with ⟨rfl, rfl⟩ | ⟨xh, qh, rfl, eh⟩
      · exact absurd (hmx rfl) (by simp)
      · rcases hl2 with ⟨rfl, rfl⟩ | ⟨xl, ql, rfl, el⟩
        · simp [Instr.sliceBounds, run_bound (P := P) (w := w) em (show m ≤ cap by omega), run_bound (P := P) (w := w) eh h3']
        · simp [Instr.sliceBounds, run_bound (P := P) (w := w) em (show m ≤ cap by omega), run_bound (P := P) (w := w) eh h3', run_bound (P := P) (w := w) el h4']
  cases hi with
  | none =>
    cases mx with
    | none => exact key h (fun _ => rfl)
    | some x => simp only [Option.map_none, Option.map_some] at h; cases h
  | some y =>
    refine key ?_ (fun e => by cases e)
    cases mx <;> exact h
theorem bytesOf_extract (s : ByteArray) (l h : Nat) : bytesOf (s.extract l h) = ((bytesOf s).drop l).take (h - l) := by
  unfold bytesOf
  rw [Lib.extract_data, List.map_take, List.map_drop]
theorem sound_sls (o : Oper) (t : TypeId) (x : Operand) (lo hi : Option Operand) (ho : o.op = .slice t x lo hi none) (ht : P.underlying t = some .string) (hr : HR P base ι H w) (he : rowR ι env a.tmps)
    (hx : xop (.sls (od x) (lo.map od) (hi.map od)) env H k = true) : Res P base ι H w k ((execOp a.eval o).run P w) := by
  simp only [xop] at hx
  have hv := ev_sound he x
  generalize hxv : a.eval x = xv at hv
  split at hx
  · rename_i s e
    rw [e] at hv
    obtain ⟨b, rfl, rfl⟩ := hv.str_inv
    rw [fN_eq, llen_eq, bytesOf_len, Nat.add_zero] at hx
    obtain ⟨l, h, m, m', hrun, hk, h1, h2, h3, h4, _⟩ := cut3_sound (P := P) (w := w) (mx := none) false he (Nat.le_refl _) (Nat.le_refl _) hx
    refine Res.pure hr (cv := .string (b.extract l h)) ?_ (by rw [← bytesOf_extract]; exact .str _) hk
    have hrun' : (Instr.sliceBounds false b.size b.size (lo.map a.eval) (hi.map a.eval) none).run P w = .ok (l, h, m') w := hrun
    simp [execOp, ho, hxv, Instr.sliceAt, run_und ht, Instr.slice, hrun']
  · cases hx
theorem run_slice_slice {t e : TypeId} {i : TypeInfo} {lo hi mx : Option Value} {x : Option Addr} {len cap l h m : Nat} (ht : P.underlying t = some (.slice e)) (hi' : P.info? e = some i)
    (hb : (Instr.sliceBounds true len cap lo hi mx).run P w = .ok (l, h, m) w) :
    (Instr.sliceAt t (.slice x len cap) lo hi mx).run P w = .ok (.slice (if m = l then x else x.map (·.add (l * i.size))) (h - l) (m - l)) w := by
  simp [Instr.sliceAt, run_und ht, Instr.slice, hb, run_size hi']
theorem sound_sll (o : Oper) (t : TypeId) (x : Operand) (lo hi mx : Option Operand) (e : TypeId) (i : TypeInfo) (ho : o.op = .slice t x lo hi mx) (ht : P.underlying t = some (.slice e)) (hi' : P.info? e = some i) (hz : i.size ≠ 0) (hr : HR P base ι H w) (he : rowR ι env a.tmps)
    (hx : xop (.sll i.size (od x) (lo.map od) (hi.map od) (mx.map od)) env H k = true) : Res P base ι H w k ((execOp a.eval o).run P w) := by
  simp only [xop] at hx
  have hv := ev_sound he x
  generalize hxv : a.eval x = xv at hv
  have run : ∀ {cv : Value}, (Instr.sliceAt t xv (lo.map a.eval) (hi.map a.eval) (mx.map a.eval)).run P w = .ok cv w → (execOp a.eval o).run P w = .ok (.value cv) w := fun {cv} h => by
    simp only [execOp, ho, hxv]
    rw [Sem.run_bind, h]; rfl
  split at hx
  · rename_i ex
    rw [ex] at hv
    cases hv
    obtain ⟨l, h, m, m', hrun, hk, h1, h2, h3, h4, h5⟩ := cut3_sound (P := P) (w := w) true he (Nat.le_refl 0) (Nat.le_refl 0) hx
    have hm' : m' = 0 := by
      by_cases hmx : mx = none
      · exact (h4 hmx).2
      · rw [h5 hmx]; omega
    obtain rfl : l = 0 := by omega
    obtain rfl : h = 0 := by omega
    subst hm'
    exact Res.pure hr (run (run_slice_slice ht hi' hrun)) (by simpa using VR.nils) hk
  · rename_i b off len cap ex
    rw [ex] at hv
    cases hv with
    | slc _ _ _ _ L hL hl =>
    obtain ⟨l, h, m, m', hrun, hk, h1, h2, h3, h4, h5⟩ := cut3_sound (P := P) (w := w) true he (Nat.le_refl cap) hl hx
    have hm' : m' = m := by
      by_cases hmx : mx = none
      · rw [(h4 hmx).1, (h4 hmx).2]
      · exact h5 hmx
    subst hm'
    simp only [fN_eq] at hk
    refine Res.pure hr (run (run_slice_slice ht hi' hrun)) ?_ hk
    cases hml : Nat.beq m' l with
    | true =>
      have := Nat.eq_of_beq_eq_true hml
      subst this
      rw [if_pos rfl]
      exact .slc b off _ _ L hL (by omega)
    | false =>
      have := beq_false_of_not hml
      rw [if_neg this]
      simp only [Option.map_some, add_none, Nat.add_assoc]
      exact .slc b _ _ _ L hL (by omega)
  · rename_i b off len es ex
    rw [ex] at hv
    obtain ⟨hes, hx2⟩ := cond_true_inv hx
    clear hx
    have hes' := Nat.eq_of_beq_eq_true hes
    subst hes'
    cases hv with
    | slu _ _ _ _ cap L hL hl hep hc =>
    split at hx2
    · rename_i mm hmm
      have hmx : mx ≠ none := fun e => by subst e; cases hmm
      obtain ⟨l, h, m, m', hrun, hk, h1, h2, h3, h4, h5⟩ := cut3_sound (P := P) (w := w) true he hl hl hx2
      have hm' := h5 hmx
      subst hm'
      simp only [fN_eq] at hk
      refine Res.pure hr (run (run_slice_slice ht hi' hrun)) ?_ hk
      cases hml : Nat.beq m' l with
      | true =>
        have := Nat.eq_of_beq_eq_true hml
        subst this
        rw [if_pos rfl]
        exact .slc b off _ _ L hL (by omega)
      | false =>
        have := beq_false_of_not hml
        rw [if_neg this]
        simp only [Option.map_some, add_none, Nat.add_assoc]
        exact .slc b _ _ _ L hL (by omega)
    · rename_i hmm
      have hmx : mx = none := by cases mx with | none => rfl | some y => cases hmm
      subst hmx
      obtain ⟨c, st, ro, hb, hx3⟩ := gcell_inv hx2
      obtain ⟨cc, el, fr, hw, hor⟩ := hr.cells hb hL
      cases hor with
      | cells _ _ _ _ _ _ hok hzz hll hcc h11 hf hs hro =>
      have hcap : (c.len - off) / i.size ≤ cap := by
        rw [Rp.len_eq c hok]
        have a1 : c.toL.length - off ≤ cap * i.size := by omega
        calc (c.toL.length - off) / i.size ≤ (cap * i.size) / i.size := Nat.div_le_div_right a1
          _ = cap := Nat.mul_div_cancel _ (by omega)
      obtain ⟨l, h, m, m', hrun, hk, h1, h2, h3, h4, h5⟩ := cut3_sound (P := P) (w := w) (mx := none) true he hcap hl hx3
      obtain ⟨g1, g2⟩ := h4 rfl
      subst g1
      subst g2
      have hlc : (m' - l) * i.size = m' * i.size - l * i.size := Nat.sub_mul _ _ _
      have hle : l * i.size ≤ m' * i.size := Nat.mul_le_mul_right _ (by omega)
      cases hml : Nat.beq ((c.len - off) / i.size) l with
      | true =>
        rw [hml] at hk
        simp only [cond_true, fN_eq] at hk
        have hml' := Nat.eq_of_beq_eq_true hml
        have hh : h - l = 0 := by omega
        refine Res.pure hr (run (run_slice_slice ht hi' hrun)) ?_ hk
        rw [hh]
        by_cases hq : m' = l
        · rw [if_pos hq]
          exact .slz b _ _ _ _ L hL hep (.inl (by omega))
        · rw [if_neg hq]
          simp only [Option.map_some, add_none, Nat.add_assoc]
          exact .slz b _ _ _ _ L hL hep (.inr ⟨rfl, by omega⟩)
      | false =>
        rw [hml] at hk
        simp only [cond_false, fN_eq] at hk
        have hml' := beq_false_of_not hml
        refine Res.pure hr (run (run_slice_slice ht hi' hrun)) ?_ hk
        rw [if_neg (by omega)]
        simp only [Option.map_some, add_none, Nat.add_assoc]
        exact .slu b _ _ _ _ L hL (by omega) hep (by omega)
  · rename_i b off es ex
    rw [ex] at hv
    cases hv with
    | slz0 aa =>
      obtain ⟨l, h, m, m', hrun, hk, h1, h2, h3, h4, h5⟩ := cut3_sound (P := P) (w := w) true he (Nat.zero_le 0) (Nat.zero_le 0) hx
      obtain rfl : l = 0 := by omega
      obtain rfl : h = 0 := by omega
      refine Res.pure hr (run (run_slice_slice ht hi' hrun)) ?_ hk
      have e1 : (if m' = 0 then some aa else (some aa).map (·.add (0 * i.size))) = some aa := by
        split
        · rfl
        · simp [Addr.add]
      rw [e1]
      by_cases hmx : mx = none
      · rw [(h4 hmx).2]
        exact .slz0 aa
      · rw [h5 hmx]
        have e2 : m = 0 := by omega
        subst e2
        exact .slz0 aa
    | slz _ _ _ oo cap L hL hep hc =>
    obtain ⟨l, h, m, m', hrun, hk, h1, h2, h3, h4, h5⟩ := cut3_sound (P := P) (w := w) true he (Nat.zero_le cap) (Nat.zero_le cap) hx
    obtain rfl : l = 0 := by omega
    obtain rfl : h = 0 := by omega
    refine Res.pure hr (run (run_slice_slice ht hi' hrun)) ?_ hk
    have e1 : (if m' = 0 then some (⟨L.blk, oo, none⟩ : Addr) else (some (⟨L.blk, oo, none⟩ : Addr)).map (·.add (0 * i.size))) = some ⟨L.blk, oo, none⟩ := by
      split
      · rfl
      · simp [Addr.add]
    rw [e1]
    by_cases hmx : mx = none
    · rw [(h4 hmx).2]
      exact .slz b off es oo _ L hL hep hc
    · rw [h5 hmx]
      exact .slz b off es oo _ L hL hep (.inl (by omega))
  · cases hx
theorem sound_sla (o : Oper) (t : TypeId) (x : Operand) (lo hi mx : Option Operand) (n : Nat) (e : TypeId) (i : TypeInfo) (ho : o.op = .slice t x lo hi mx) (ht : P.underlying t = some (.array n e)) (hi' : P.info? e = some i) (hr : HR P base ι H w) (he : rowR ι env a.tmps)
    (hx : xop (.sla n i.size (od x) (lo.map od) (hi.map od) (mx.map od)) env H k = true) : Res P base ι H w k ((execOp a.eval o).run P w) := by
  simp only [xop] at hx
  have hv := ev_sound he x
  generalize hxv : a.eval x = xv at hv
  split at hx
  · rename_i b off ex
    rw [ex] at hv
    obtain ⟨L, hL, rfl⟩ := hv.ptr_inv
    obtain ⟨l, h, m, m', hrun, hk, h1, h2, h3, h4, h5⟩ := cut3_sound (P := P) (w := w) false he (Nat.le_refl n) (Nat.le_refl n) hx
    have hm' : m' = m := by
      by_cases hmx : mx = none
      · rw [(h4 hmx).1, (h4 hmx).2]
      · exact h5 hmx
    subst hm'
    simp only [fN_eq] at hk
    refine Res.pure hr (cv := .slice (some (if m' = l then ⟨L.blk, L.sh + off, none⟩ else (⟨L.blk, L.sh + off, none⟩ : Addr).add (l * i.size))) (h - l) (m' - l)) ?_ ?_ hk
    · simp [execOp, ho, hxv, Instr.sliceAt, run_und ht, Instr.sureAddr, hrun, run_size hi']
    · cases hml : Nat.beq m' l with
      | true =>
        have := Nat.eq_of_beq_eq_true hml
        subst this
        rw [if_pos rfl]
        exact .slc b off _ _ L hL (by omega)
      | false =>
        have := beq_false_of_not hml
        rw [if_neg this, add_none, Nat.add_assoc]
        exact .slc b _ _ _ L hL (by omega)
  · cases hx
end
end Go.Jt
