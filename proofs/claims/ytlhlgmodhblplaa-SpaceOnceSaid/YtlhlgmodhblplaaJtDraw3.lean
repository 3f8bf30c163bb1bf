/-
  An operation that lays a new block: what it lays hangs on temporaries alone; and the model lays the like.
-/
import Derived.Test.YtlhlgmodhblplaaJtDraw2
set_option autoImplicit false
set_option linter.all false
namespace Go.Jt
open Go.RowKit (Below)
variable [Gl]

section
variable {P : Program} {base : Nat} {ι : Io} {H : AH} {w : World} {k : AV → AH → Bool} {env : Env} {a : Act}

def Alc (o : XOp) (env : Env) (ob : AObj) (f : Nat → AV) : Prop := ∀ (H : AH) (k : AV → AH → Bool), xop o env H k = k (f H.n) (H.new ob)
def Laid (P : Program) (base : Nat) (ι : Io) (w : World) (ob : AObj) (f : Nat → AV) (res : Result Next) : Prop := ∃ (cv : Value) (c : Obj) (sz : Nat) (w' : World),
  res = .ok (.value cv) w' ∧ w'.heap = w.heap.push c ∧ w'.os = w.os ∧ w'.tape = w.tape ∧ w'.output = w.output ∧ (∀ ι', ι.le ι' → OR P base ι' ⟨w.heap.size, 0, sz⟩ ob c) ∧ (∀ ι' b, ι' b = some ⟨w.heap.size, 0, sz⟩ → VR ι' (f b) cv)
theorem Laid.cells {r : Rp AV} {c : Array Value} {el : TypeId} {f : Nat → AV} {cv : Value} {res : Result Next} (hb : base ≤ w.heap.size) (hc : cellsR ι r c) (hrun : res = .ok (.value cv) (w.alloc (.cells c el)))
    (hv : ∀ ι' b, ι' b = some ⟨w.heap.size, 0, c.size⟩ → VR ι' (f b) cv) : Laid P base ι w (.cells r false false) f res :=
  ⟨cv, _, c.size, _, hrun, rfl, rfl, rfl, rfl, fun ι' hle => OR_new _ (hc.mono hle) el _ hb, hv⟩
theorem alc_alc (x : AObj) (f : Nat → AV) (H : AH) (k : AV → AH → Bool) : alc (some (x, f)) H k = k (f H.n) (H.new x) := anew_eq H x _
theorem Alc.same {o : XOp} {ob ob' : AObj} {f f' : Nat → AV} (h : Alc o env ob f) (h' : Alc o env ob' f') : ob = ob' ∧ f = f' := by
  have key : ∀ n : Nat, f n = f' n ∧ (⟨.lf, n⟩ : AH).new ob = (⟨.lf, n⟩ : AH).new ob' := fun n => by
    classical
    have h1 := h ⟨.lf, n⟩ (fun v H => decide (v = f n ∧ H = (⟨.lf, n⟩ : AH).new ob))
    rw [h' ⟨.lf, n⟩] at h1
    have h2 : decide (f' n = f n ∧ (⟨.lf, n⟩ : AH).new ob' = (⟨.lf, n⟩ : AH).new ob) = decide (f n = f n ∧ (⟨.lf, n⟩ : AH).new ob = (⟨.lf, n⟩ : AH).new ob) := h1
    simp at h2
    exact ⟨h2.1.symm, h2.2.symm⟩
  refine ⟨?_, funext fun n => (key n).1⟩
  have h0 := (key 0).2
  have g : ((⟨.lf, 0⟩ : AH).new ob).get 0 = ((⟨.lf, 0⟩ : AH).new ob').get 0 := by rw [h0]
  rw [AH.get_new, AH.get_new] at g
  simpa using g
theorem Laid.to {ob ob' : AObj} {f f' : Nat → AV} {res : Result Next} {o : XOp} (h : Laid P base ι w ob f res) (h1 : Alc o env ob f) : Alc o env ob f ∧ Laid P base ι w ob f res := ⟨h1, h⟩

theorem laid_alloc (o : Oper) (t : TypeId) (z : Rp AV) (ho : o.op = .alloc t) (hz : zeroRow P t = some z) (hb : base ≤ w.heap.size) :
    Laid P base ι w (.cells z false false) (fun b => .ptr b 0) ((execOp a.eval o).run P w) := by
  obtain ⟨i, zv, hi, hzv, hc⟩ := cellsR_zero ι hz
  refine Laid.cells hb hc (el := t) (cv := .pointer (some ⟨w.heap.size, 0, none⟩)) ?_ (fun ι' b hl => .ptr _ _ _ hl)
  simp [execOp, ho, Instr.alloc, run_zero hi hzv, run_newVar]
theorem laid_box (o : Oper) (t : TypeId) (x : Operand) (ho : o.op = .box t x) (hb : base ≤ w.heap.size) (he : rowR ι env a.tmps) {ob : AObj} {f : Nat → AV} (h : boxed (ev env (od x)) = some (ob, f)) :
    Laid P base ι w ob f ((execOp a.eval o).run P w) := by
  have hv := ev_sound he x
  generalize hxv : a.eval x = xv at hv
  have run : (execOp a.eval o).run P w = .ok (.value (.pointer (some ⟨w.heap.size, 0, none⟩))) (w.alloc (.cells xv.cells t)) := by
    simp [execOp, ho, Instr.box, run_newVar, hxv]
  unfold boxed at h
  split at h
  · rename_i r er
    rw [er] at hv
    obtain ⟨c, rfl, hc⟩ := hv.agg_inv
    cases h
    exact Laid.cells hb hc run (fun ι' b hl => .ptr _ _ _ hl)
  · cases hs : (ev env (od x)).sc with
    | false => rw [hs] at h; cases h
    | true =>
      rw [hs] at h
      cases h
      have hc := cellsR_one hv hs
      rw [hv.sc_cells hs] at run
      exact Laid.cells hb hc run (fun ι' b hl => .ptr _ _ _ hl)
theorem laid_mkm (o : Oper) (t : TypeId) (ho : o.op = .makeMap t none) (hb : base ≤ w.heap.size) : Laid P base ι w (.mp [] 0) (fun b => .map b) ((execOp a.eval o).run P w) :=
  ⟨.map (some w.heap.size), .map #[] 0, 0, w.alloc (.map #[] 0), by simp [execOp, ho, Instr.makeMap], rfl, rfl, rfl, rfl, fun ι' hle => .mp _ _ _ rfl (fun i x y h => by simp at h) hb, fun ι' b hl => .map _ _ hl⟩
theorem laid_rng (o : Oper) (t : TypeId) (x : Operand) (ho : o.op = .range t x) (ht : P.underlying t = some .string) (hb : base ≤ w.heap.size) (he : rowR ι env a.tmps) {l : List Nat} (hl : ev env (od x) = .str l) :
    Laid P base ι w (.sit l 0) (fun b => .ptr b 0) ((execOp a.eval o).run P w) := by
  have hv := ev_sound he x
  generalize hxv : a.eval x = xv at hv
  rw [hl] at hv
  obtain ⟨s, rfl, rfl⟩ := hv.str_inv
  exact ⟨.pointer (some ⟨w.heap.size, 0, none⟩), .stringIter s 0, 0, w.alloc (.stringIter s 0), by simp [execOp, ho, hxv, Instr.range, run_und ht], rfl, rfl, rfl, rfl, fun ι' hle => .sit s 0 hb, fun ι' b hl => .ptr _ 0 _ hl⟩
theorem laid_s2b (o : Oper) (s d e : TypeId) (x : Operand) (u : TypeDesc) (ho : o.op = .convert s d x) (hs : P.underlying s = some u) (hd : P.underlying d = some (.slice e)) (hee : P.underlying e = some (.int .u8)) (hb : base ≤ w.heap.size) (he : rowR ι env a.tmps) {l : List Nat} (hl : ev env (od x) = .str l) :
    Laid P base ι w (.cells (Rp.ofL (l.map fun c => .int .u8 (Int.ofNat c))) true false) (fun b => .slu b 0 l.length 1) ((execOp a.eval o).run P w) := by
  have hv := ev_sound he x
  generalize hxv : a.eval x = xv at hv
  rw [hl] at hv
  obtain ⟨b, rfl, rfl⟩ := hv.str_inv
  have hrow := cellsR_str ι b b.size
  have htk : (bytesOf b).take b.size = bytesOf b := List.take_of_length_le (by rw [bytesOf_len]; omega)
  rw [htk] at hrow
  have hex : b.extract 0 b.size = b := by
    apply ByteArray.ext
    apply Array.toList_inj.1
    rw [Lib.extract_data]
    simp only [Nat.sub_zero, List.drop_zero]
    exact List.take_of_length_le (by rw [Array.length_toList]; exact Nat.le_refl _)
  rw [hex] at hrow
  have hcells : Lib.bytesCells w e b = (b.data.map fun b => Value.int .u8 b.toNat) ++ Array.replicate (grownCap w b.size 0 e - b.size) (.int .u8 0) := rfl
  have hge := grownCap_ge (w := w) b.size e
  have hdsz : b.data.size = b.size := rfl
  have hsz : (Lib.bytesCells w e b).size = grownCap w b.size 0 e * 1 := by
    rw [hcells, Array.size_append, Array.size_map, Array.size_replicate]
    omega
  refine ⟨.slice (some ⟨w.heap.size, 0, none⟩) b.size (grownCap w b.size 0 e), _, grownCap w b.size 0 e * 1, Lib.bytesWorld w e b, by simp [execOp, ho, hxv, run_str2bytes s d e b u hs hd hee], bytesWorld_push e b, rfl, rfl, rfl, fun ι' hle => ?_, fun ι' bb hll => ?_⟩
  · have hr2 := hrow.mono hle
    refine .cells _ true false _ e _ hr2.1 hsz ?_ (fun i hi => ?_) (fun i hi _ => ?_) (fun o ho _ => by simp only; omega) (fun h => by cases h) (fun _ => hb)
    · simp only [hr2.2.1, Array.size_map]
      omega
    · rw [hr2.2.1] at hi
      simp only [Nat.zero_add]
      rw [hcells, Array.getD_eq_getD_getElem?, Array.getElem?_append_left hi, ← Array.getD_eq_getD_getElem?]
      exact hr2.2.2.1 i
    · rw [hcells] at hi ⊢
      by_cases hi' : i < (b.data.map fun b => Value.int .u8 b.toNat).size
      · rw [Array.getD_eq_getD_getElem?, Array.getElem?_append_left hi', ← Array.getD_eq_getD_getElem?]
        exact hr2.2.2.2 i hi'
      · rw [Array.getD_eq_getD_getElem?, Array.getElem?_append_right (by omega)]
        rw [Array.size_append] at hi
        rw [Array.getElem?_eq_getElem (by omega)]
        simp [Value.oneCell']
  · rw [bytesOf_len]
    exact .slu _ 0 _ 1 _ ⟨w.heap.size, 0, grownCap w b.size 0 e * 1⟩ hll hge (by omega) (by simp only; omega)
theorem laid_mks (o : Oper) (t e : TypeId) (l c : Operand) (z : Rp AV) (i : TypeInfo) (ho : o.op = .makeSlice t l c) (ht : P.underlying t = some (.slice e)) (hz : zeroRow P e = some z) (hi : P.info? e = some i) (hl : z.len = i.size) (hl0 : z.len ≠ 0)
    (hb : base ≤ w.heap.size) (he : rowR ι env a.tmps) {q q' : IntKind} {m n : Nat} (e1 : ev env (od l) = .int q (.ofNat m)) (e2 : ev env (od c) = .int q' (.ofNat n)) (h1' : m ≤ n) (h3' : i.bytes * n ≤ 281474976710656) (h5' : n ≤ 9223372036854775807) :
    Laid P base ι w (.cells (zeros n z) false false) (fun b => .slc b 0 m n) ((execOp a.eval o).run P w) := by
  have hv := ev_sound he l
  have hu := ev_sound he c
  generalize hlv : a.eval l = lv at hv
  generalize hcv : a.eval c = cv at hu
  obtain ⟨i', zv, hi', hzv, hzr⟩ := cellsR_zero ι hz
  rw [hi] at hi'
  cases hi'
  have hsz : zv.cells.size = i.size := by rw [← hl, Rp.len_eq z hzr.1, hzr.2.1]
  rw [e1] at hv
  rw [e2] at hu
  have hlv' := hv.int_inv
  have hcv' := hu.int_inv
  subst hlv'
  subst hcv'
  have hrow := cellsR_zeros hzr (by omega : 0 < zv.cells.size) n
  have hw1 : IntKind.i64.wrap (m : Int) = (m : Int) := by rw [IntWalk.i64_in]; omega
  have hw2 : IntKind.i64.wrap (n : Int) = (n : Int) := by rw [IntWalk.i64_in]; omega
  have hb1 : ¬ (281474976710656 < (i.bytes : Int) * (n : Int)) := by
    have h7 : ((i.bytes * n : Nat) : Int) ≤ 281474976710656 := Int.ofNat_le.2 h3'
    rw [Int.natCast_mul] at h7
    omega
  have hneg : ¬ ((n : Int) < 0) := by omega
  have hneg' : ¬ ((m : Int) < 0) := by omega
  have hle : ¬ ((n : Int) < (m : Int)) := by omega
  refine Laid.cells hb hrow (el := e) (cv := .slice (some ⟨w.heap.size, 0, none⟩) m n) ?_ (fun ι' b hll => .slc _ 0 _ _ ⟨w.heap.size, 0, _⟩ hll h1')
  by_cases hn0 : n = 0
  · subst hn0
    have hm0 : m = 0 := by omega
    subst hm0
    have hw0 : IntKind.i64.wrap 0 = 0 := rfl
    simp [execOp, ho, hlv, hcv, Instr.makeSlice, run_und ht, asInt, asIntOf, run_info hi, hw0, run_size hi, run_zero hi hzv, run_newRow]
    have hr0 : Array.range 0 = #[] := rfl
    simp [hr0]
  · have hnn : ¬ (n * i.size = 0) := by rw [Nat.mul_eq_zero]; omega
    have hnn' : ¬ (n = 0 ∨ i.size = 0) := by omega
    simp [execOp, ho, hlv, hcv, Instr.makeSlice, run_und ht, asInt, asIntOf, run_info hi, hw1, hw2, hb1, hneg, hneg', hle, run_size hi, run_zero hi hzv, run_newRow, hnn, hnn', hsz, hn0, h1']
theorem comp_alloc {o : Oper} {z : Rp AV} (h : compOp P o = .alloc z) : ∃ t, o.op = .alloc t ∧ zeroRow P t = some z := by
  unfold compOp at h
  split at h <;> try (cases h; done)
  all_goals try (repeat' split at h) <;> try first | (exact (readG_no h (fun e => by cases e) (fun v e => by cases e)).elim) | (cases h; done)
  all_goals first
    | (exact (readG_no h (fun e => by cases e) (fun v e => by cases e)).elim)
    | (exfalso; revert h; simp only [Bool.cond_eq_ite]; (repeat' split) <;> (intro h; cases h); done)
    | skip
  cases h
  exact ⟨_, by assumption, by assumption⟩
theorem comp_box {o : Oper} {x : Od} (h : compOp P o = .box x) : ∃ t y, o.op = .box t y ∧ x = od y := by
  unfold compOp at h
  split at h <;> try (cases h; done)
  all_goals try (repeat' split at h) <;> try first | (exact (readG_no h (fun e => by cases e) (fun v e => by cases e)).elim) | (cases h; done)
  all_goals first
    | (exact (readG_no h (fun e => by cases e) (fun v e => by cases e)).elim)
    | (exfalso; revert h; simp only [Bool.cond_eq_ite]; (repeat' split) <;> (intro h; cases h); done)
    | skip
  cases h
  exact ⟨_, _, by assumption, rfl⟩
theorem comp_mkm {o : Oper} (h : compOp P o = .mkm) : ∃ t, o.op = .makeMap t none := by
  unfold compOp at h
  split at h <;> try (cases h; done)
  all_goals try (repeat' split at h) <;> try first | (exact (readG_no h (fun e => by cases e) (fun v e => by cases e)).elim) | (cases h; done)
  all_goals first
    | (exact (readG_no h (fun e => by cases e) (fun v e => by cases e)).elim)
    | (exfalso; revert h; simp only [Bool.cond_eq_ite]; (repeat' split) <;> (intro h; cases h); done)
    | skip
  exact ⟨_, by assumption⟩
theorem comp_rng {o : Oper} {x : Od} (h : compOp P o = .rng x) : ∃ t y, o.op = .range t y ∧ x = od y ∧ P.underlying t = some .string := by
  unfold compOp at h
  split at h <;> try (cases h; done)
  all_goals try (repeat' split at h) <;> try first | (exact (readG_no h (fun e => by cases e) (fun v e => by cases e)).elim) | (cases h; done)
  all_goals first
    | (exact (readG_no h (fun e => by cases e) (fun v e => by cases e)).elim)
    | (exfalso; revert h; simp only [Bool.cond_eq_ite]; (repeat' split) <;> (intro h; cases h); done)
    | skip
  cases h
  exact ⟨_, _, by assumption, rfl, by assumption⟩
theorem comp_s2b {o : Oper} {x : Od} (h : compOp P o = .s2b x) : ∃ s d e y u, o.op = .convert s d y ∧ x = od y ∧ P.underlying s = some u ∧ P.underlying d = some (.slice e) ∧ P.underlying e = some (.int .u8) := by
  unfold compOp at h
  split at h <;> try (cases h; done)
  all_goals try (repeat' split at h) <;> try first | (exact (readG_no h (fun e => by cases e) (fun v e => by cases e)).elim) | (cases h; done)
  all_goals first
    | (exact (readG_no h (fun e => by cases e) (fun v e => by cases e)).elim)
    | (exfalso; revert h; simp only [Bool.cond_eq_ite]; (repeat' split) <;> (intro h; cases h); done)
    | skip
  cases h
  exact ⟨_, _, _, _, _, by assumption, rfl, by assumption, by assumption, by assumption⟩
theorem comp_mks {o : Oper} {es bytes : Nat} {z : Rp AV} {l c : Od} (h : compOp P o = .mks es bytes z l c) : ∃ t e l' c' i, o.op = .makeSlice t l' c' ∧ l = od l' ∧ c = od c' ∧ P.underlying t = some (.slice e) ∧ zeroRow P e = some z ∧ P.info? e = some i ∧ z.len = i.size ∧ z.len ≠ 0 ∧ es = i.size ∧ bytes = i.bytes := by
  unfold compOp at h
  split at h <;> try (cases h; done)
  all_goals try (repeat' split at h) <;> try first | (exact (readG_no h (fun e => by cases e) (fun v e => by cases e)).elim) | (cases h; done)
  all_goals first
    | (exact (readG_no h (fun e => by cases e) (fun v e => by cases e)).elim)
    | (exfalso; revert h; simp only [Bool.cond_eq_ite]; (repeat' split) <;> (intro h; cases h); done)
    | skip
  simp only [Bool.cond_eq_ite] at h
  split at h
  · rename_i hl
    split at h
    · cases h
    · rename_i hl0
      cases h
      exact ⟨_, _, _, _, _, by assumption, rfl, rfl, by assumption, by assumption, by assumption, beq_tt hl, beq_ff hl0, rfl, rfl⟩
  · cases h
theorem comp_bsl {o : Oper} {n : Nat} {z : Rp AV} {l : List (Nat × Nat × Od)} (h : compOp P o = .bsl n z l) : ∃ t ps e z0 ie, o.op = .buildSlice t n ps ∧ P.underlying t = some (.slice e) ∧ zeroRow P e = some z0 ∧ P.info? e = some ie ∧ parts (fun i => some (i * ie.size, ie.size)) ps.toList = some l ∧ z0.len = ie.size ∧ z0.len ≠ 0 ∧ n * ie.size ≤ 16777216 ∧ z = zeros n z0 := by
  unfold compOp at h
  split at h <;> try (cases h; done)
  all_goals try (repeat' split at h) <;> try first | (exact (readG_no h (fun e => by cases e) (fun v e => by cases e)).elim) | (cases h; done)
  all_goals first
    | (exact (readG_no h (fun e => by cases e) (fun v e => by cases e)).elim)
    | (exfalso; revert h; simp only [Bool.cond_eq_ite]; (repeat' split) <;> (intro h; cases h); done)
    | skip
  simp only [Bool.cond_eq_ite] at h
  split at h
  · rename_i hl
    split at h
    · cases h
    · rename_i hl0
      split at h
      · rename_i h3
        cases h
        exact ⟨_, _, _, _, _, by assumption, by assumption, by assumption, by assumption, by assumption, beq_tt hl, beq_ff hl0, Nat.le_of_ble_eq_true h3, rfl⟩
      · cases h
  · cases h
/-- an operation that lays a block: what it lays, and that the model lays the like -/
theorem laid_op (o : Oper) (hk : kindX (compOp P o) = 2) (hb : base ≤ w.heap.size) (he : rowR ι env a.tmps) (hx : xop (compOp P o) env H k = true) :
    ∃ ob f, Alc (compOp P o) env ob f ∧ Laid P base ι w ob f ((execOp a.eval o).run P w) := by
  generalize hX : compOp P o = X at hk hx
  cases X <;> first | (exfalso; revert hk; simp [kindX]; done) | skip
  case alloc z =>
    obtain ⟨t, ho, hz⟩ := comp_alloc hX
    exact ⟨.cells z false false, fun b => .ptr b 0, fun H k => alc_alc _ _ H k, laid_alloc o t z ho hz hb⟩
  case box x =>
    obtain ⟨t, y, ho, rfl⟩ := comp_box hX
    obtain ⟨ob, f, e, hk'⟩ := alc_inv (show alc (boxed (ev env (od y))) H k = true from hx)
    exact ⟨ob, f, fun H k => by show alc (boxed (ev env (od y))) H k = _; rw [e, alc_alc], laid_box o t y ho hb he e⟩
  case mkm =>
    obtain ⟨t, ho⟩ := comp_mkm hX
    exact ⟨.mp [] 0, fun b => .map b, fun H k => alc_alc _ _ H k, laid_mkm o t ho hb⟩
  case rng x =>
    obtain ⟨t, y, ho, rfl, hu⟩ := comp_rng hX
    simp only [xop] at hx
    split at hx
    · rename_i l e
      refine ⟨_, _, fun H k => ?_, laid_rng o t y ho hu hb he e⟩
      simp only [xop, e]
      exact alc_alc _ _ H k
    · cases hx
  case s2b x =>
    obtain ⟨s, d, e, y, u, ho, rfl, hs, hd, hee⟩ := comp_s2b hX
    simp only [xop] at hx
    split at hx
    · rename_i l el
      refine ⟨_, _, fun H k => ?_, laid_s2b o s d e y _ ho hs hd hee hb he el⟩
      simp only [xop, el, fN_eq, llen_eq]
      exact alc_alc _ _ H k
    · cases hx
  case mks es bytes z l c =>
    obtain ⟨t, e, l', c', i, ho, rfl, rfl, hu, hz, hi, hl, hl0, rfl, rfl⟩ := comp_mks hX
    simp only [xop] at hx
    split at hx
    · rename_i q m q' n e1 e2
      rw [fN_eq, fN_eq] at hx
      obtain ⟨h1, h2⟩ := cond_true_inv hx
      obtain ⟨h3, h4⟩ := cond_true_inv h2
      obtain ⟨h5, h6⟩ := cond_true_inv h4
      refine ⟨_, _, fun H k => ?_, laid_mks o t e l' c' z i ho hu hz hi hl hl0 hb he e1 e2 (Nat.le_of_ble_eq_true h1) (Nat.le_of_ble_eq_true h3) (Nat.le_of_ble_eq_true h5)⟩
      simp only [xop, e1, e2, fN_eq, h1, h3, h5, cond_true]
      exact alc_alc _ _ H k
    · cases hx
  case bsl n z l =>
    obtain ⟨t, ps, e, z0, ie, ho, hu, hz, hie, hl, h1, h2, h3, rfl⟩ := comp_bsl hX
    simp only [xop] at hx
    obtain ⟨rr, hrr, hdet⟩ := fillIn_det l (zeros n z0) hx
    obtain ⟨it, zv, hi, hzv, hc⟩ := cellsR_zero ι hz
    rw [hie] at hi
    cases hi
    have e1 : zv.cells.size = ie.size := by rw [← hc.2.1, ← Rp.len_eq z0 hc.1]; exact h1
    have e2 : ie.size ≠ 0 := by rw [← h1]; exact h2
    classical
    have hx2 : fillIn env (zeros n z0) l (fun r => decide (r = rr)) = true := by rw [hdet]; simp
    obtain ⟨r, c, f1, f2, f3, f4⟩ := fill_sound he _ _ ps.toList l _ _ hl (cellsR_zeros hc (by omega) n) hx2
    have hr' : r = rr := by simpa using f4
    subst hr'
    have hrun : (execOp a.eval o).run P w = .ok (.value (.slice (some ⟨w.heap.size, 0, none⟩) n n)) (w.alloc (.cells c e)) := by
      simp only [execOp, ho, Instr.buildSlice, Sem.run_bind, run_und hu, Result.andThen_ok, run_size hie]
      rw [if_neg (by omega)]
      by_cases h0 : n * ie.size = 0
      · simp only [h0, if_true, Sem.run_bind, Sem.run_pure, Result.andThen_ok]
        have e0 : ((Array.range 0).map fun i => (#[] : Array Value)[i % (#[] : Array Value).size]!) = (Array.range (n * zv.cells.size)).map fun i => zv.cells[i % zv.cells.size]! := by
          rw [e1, h0]; simp
        rw [e0, map_pairs, f1]
        simp [run_newRow]
      · simp only [h0, if_false, Sem.run_bind, run_zero hie hzv, Result.andThen_ok, Sem.run_pure]
        rw [← e1] at f1 ⊢
        rw [map_pairs, f1]
        simp [run_newRow]
    refine ⟨_, _, fun H k => ?_, Laid.cells hb f2 hrun (f := fun b => .slc b 0 n n) (fun ι' b hll => .slc _ 0 _ _ ⟨w.heap.size, 0, _⟩ hll (Nat.le_refl _))⟩
    simp only [xop]
    rw [hdet]
    exact alc_alc _ _ H k
end
end Go.Jt
