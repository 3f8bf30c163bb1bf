/-
  The abstract run of an operation is true to the model's: memory: new blocks, loads, stores, parts of structs and arrays.
-/
import Derived.Test.YtlhlgmodhblplaaJtOps2
set_option autoImplicit false
set_option linter.all false
namespace Go.Jt
open Go.RowKit (Below)
variable [Gl]

section
variable {P : Program} {base : Nat} {ι : Io} {H : AH} {w : World} {k : AV → AH → Bool} {env : Env} {a : Act}

/-- a row of cells, abstract and the model's -/
def cellsR (ι : Io) (r : Rp AV) (c : Array Value) : Prop :=
  r.ok ∧ r.toL.length = c.size ∧ (∀ i, VR ι (r.toL.getD i .undef) (c.getD i Go.undef)) ∧ (∀ i, i < c.size → (c.getD i Go.undef).oneCell' = true)
theorem cellsR.mono {ι ι' : Io} (hle : ι.le ι') {r : Rp AV} {c : Array Value} (h : cellsR ι r c) : cellsR ι' r c := ⟨h.1, h.2.1, fun i => (h.2.2.1 i).mono hle, h.2.2.2⟩
theorem VR.agg_inv {r : Rp AV} {v : Value} (h : VR ι (.agg r) v) : ∃ c, v = .agg c ∧ cellsR ι r c := by cases h; exact ⟨_, rfl, by assumption, by assumption, by assumption, by assumption⟩
theorem cellsR.agg {r : Rp AV} {c : Array Value} (h : cellsR ι r c) : VR ι (.agg r) (.agg c) := .agg _ _ h.1 h.2.1 h.2.2.1 h.2.2.2
theorem cellsR_one {v : AV} {cv : Value} (h : VR ι v cv) (hs : v.sc = true) : cellsR ι (.one v) #[cv] := by
  refine ⟨trivial, rfl, fun i => ?_, fun i hi => ?_⟩
  · cases i with
    | zero => exact h
    | succ i => exact .undef _
  · have : i = 0 := by simp at hi; omega
    subst this
    exact h.one hs
theorem cellsR_zero (ι : Io) {t : TypeId} {z : Rp AV} (h : zeroRow P t = some z) : ∃ i zv, P.info? t = some i ∧ i.zero = some zv ∧ cellsR ι z zv.cells := by
  unfold zeroRow at h
  cases hi : P.info? t with
  | none => rw [hi] at h; cases h
  | some i =>
    rw [hi] at h
    simp only [Option.bind_some] at h
    cases hz : i.zero with
    | none => rw [hz] at h; cases h
    | some zv =>
      rw [hz] at h
      simp only [Option.bind_some] at h
      obtain ⟨o, e, h1, h2⟩ := ofRow_spec ι h
      exact ⟨i, zv, rfl, hz, o, by rw [e]; simp, h2, h1⟩
theorem VR.sc_cells {v : AV} {cv : Value} (h : VR ι v cv) (hs : v.sc = true) : cv.cells = #[cv] := by
  cases h <;> first | rfl | (cases hs)
/-- a new block of cells -/
theorem OR_new (ι' : Io) {r : Rp AV} {c : Array Value} (h : cellsR ι' r c) (el : TypeId) (n : Nat) (hb : base ≤ n) : OR P base ι' ⟨n, 0, c.size⟩ (.cells r false false) (.cells c el (0, 0)) :=
  .cells r false false c el (0, 0) h.1 rfl (by simp only [h.2.1]; omega) (fun i hi => by simp only [Nat.zero_add]; exact h.2.2.1 i) (fun i hi _ => h.2.2.2 i hi) (fun o ho => by simp) (fun _ => ⟨rfl, hb⟩) (fun _ => hb)
theorem alc_inv {x : Option (AObj × (Nat → AV))} (h : alc x H k = true) : ∃ o f, x = some (o, f) ∧ k (f H.n) (H.new o) = true := by
  unfold alc at h
  split at h
  · rw [anew_eq] at h; exact ⟨_, _, rfl, h⟩
  · cases h
theorem ext_le_new (hr : HR P base ι H w) (L : Loc) : ι.le (ι.ext H.n L) := Io.ext_le _ _ _ (hr.fresh _ (Nat.le_refl _))
/-- an operation that lays one new block of cells -/
theorem Res.newCells (hr : HR P base ι H w) {r : Rp AV} {c : Array Value} (hc : cellsR ι r c) (el : TypeId) {res : Result Next} {cv : Value} {v : AV}
    (hrun : res = .ok (.value cv) (w.alloc (.cells c el))) (hv : VR (ι.ext H.n ⟨w.heap.size, 0, c.size⟩) v cv) (hk : k v (H.new (.cells r false false)) = true) : Res P base ι H w k res :=
  ⟨v, _, _, _, _, hrun, hr.newNx c.size rfl rfl rfl rfl (OR_new _ (hc.mono (ext_le_new hr _)) el _ hr.below), hv, hk⟩
theorem run_newRow (el : TypeId) (c : Array Value) : (newRow el c).run P w = .ok ⟨w.heap.size, 0, none⟩ (w.alloc (.cells c el)) := by
  simp [newRow]
theorem run_newVar (t : TypeId) (v : Value) : (newVar t v).run P w = .ok ⟨w.heap.size, 0, none⟩ (w.alloc (.cells v.cells t)) := run_newRow t v.cells

theorem sound_alloc (o : Oper) (t : TypeId) (z : Rp AV) (ho : o.op = .alloc t) (hz : zeroRow P t = some z) (hr : HR P base ι H w) (hx : xop (.alloc z) env H k = true) :
    Res P base ι H w k ((execOp a.eval o).run P w) := by
  simp only [xop] at hx
  obtain ⟨ob, f, e, hk⟩ := alc_inv hx
  cases e
  obtain ⟨i, zv, hi, hzv, hc⟩ := cellsR_zero ι hz
  refine Res.newCells hr hc t (cv := .pointer (some ⟨w.heap.size, 0, none⟩)) ?_ (.ptr _ _ _ (Io.ext_self _ _ _)) hk
  simp [execOp, ho, Instr.alloc, run_zero hi hzv, run_newVar]
theorem sound_box (o : Oper) (t : TypeId) (x : Operand) (ho : o.op = .box t x) (hr : HR P base ι H w) (he : rowR ι env a.tmps) (hx : xop (.box (od x)) env H k = true) :
    Res P base ι H w k ((execOp a.eval o).run P w) := by
  simp only [xop] at hx
  obtain ⟨ob, f, e, hk⟩ := alc_inv hx
  have hv := ev_sound he x
  generalize hxv : a.eval x = xv at hv
  have run : (execOp a.eval o).run P w = .ok (.value (.pointer (some ⟨w.heap.size, 0, none⟩))) (w.alloc (.cells xv.cells t)) := by
    simp [execOp, ho, Instr.box, run_newVar, hxv]
  unfold boxed at e
  split at e
  · rename_i r er
    rw [er] at hv
    obtain ⟨c, rfl, hc⟩ := hv.agg_inv
    cases e
    exact Res.newCells hr hc t run (.ptr _ _ _ (Io.ext_self _ _ _)) hk
  · cases hs : (ev env (od x)).sc with
    | false => rw [hs] at e; cases e
    | true =>
      rw [hs] at e
      cases e
      have hc := cellsR_one hv hs
      rw [hv.sc_cells hs] at run
      exact Res.newCells hr hc t run (.ptr _ _ _ (Io.ext_self _ _ _)) hk

/-! ### loads and stores -/
theorem sound_ld1 (o : Oper) (t : TypeId) (x : Operand) (d : TypeDesc) (ho : o.op = .load t x) (hu : P.underlying t = some d) (hag : isAggT P t = false) (hr : HR P base ι H w) (he : rowR ι env a.tmps)
    (hx : xop (.ld1 (od x)) env H k = true) : Res P base ι H w k ((execOp a.eval o).run P w) := by
  simp only [xop] at hx
  have hv := ev_sound he x
  generalize hxv : a.eval x = xv at hv
  split at hx
  · rename_i b off e
    rw [e] at hv
    obtain ⟨L, hL, rfl⟩ := hv.ptr_inv
    obtain ⟨c, st, ro, hb, hx⟩ := gcell_inv hx
    obtain ⟨cc, el, fr, hw, hor⟩ := hr.cells hb hL
    cases hor with
    | cells _ _ _ _ _ _ hok hz hl hc h1 hf hs hro =>
    rw [Rp.get_eq c hok] at hx
    split at hx
    · rename_i v hv'
      have hi : off < c.toL.length := (List.getElem?_eq_some_iff.1 hv').1
      have h2 := hc off hi
      rw [List.getD_eq_getElem?_getD, hv'] at h2
      refine Res.pure hr (cv := cc.getD (L.sh + off) Go.undef) ?_ h2 hx
      simp only [execOp, ho, hxv, Instr.loadAt, Instr.sureAddr, loadVar, Sem.run_bind, run_isAgg hu, hag, Result.andThen_ok, Sem.run_pure, Bool.false_eq_true, if_false]
      rw [run_load1 hw (by omega)]
      rfl
    · cases hx
  · cases hx
theorem cellsR_sub {L : Loc} {c : Rp AV} {cc : Array Value} {off n : Nat} (hok : c.ok) (hl : L.sh + c.toL.length ≤ cc.size) (hc : ∀ i, i < c.toL.length → VR ι (c.toL.getD i .undef) (cc.getD (L.sh + i) Go.undef))
    {ro : Bool} (h1 : ∀ i, i < cc.size → (ro = false ∨ (L.sh ≤ i ∧ i < L.sh + c.toL.length)) → (cc.getD i Go.undef).oneCell' = true) (hn : off + n ≤ c.toL.length) : cellsR ι (c.sub off n) (cc.extract (L.sh + off) (L.sh + off + n)) := by
  obtain ⟨o, e⟩ := Rp.sub_spec c off n hok
  have hsz : (cc.extract (L.sh + off) (L.sh + off + n)).size = n := by simp; omega
  have hget : ∀ i, i < n → (cc.extract (L.sh + off) (L.sh + off + n)).getD i Go.undef = cc.getD (L.sh + (off + i)) Go.undef := fun i hi => by
    have a1 : i < (cc.extract (L.sh + off) (L.sh + off + n)).size := by omega
    have a2 : L.sh + (off + i) < cc.size := by omega
    simp only [Array.getD_eq_getD_getElem?, Array.getElem?_eq_getElem a1, Array.getElem?_eq_getElem a2, Array.getElem_extract, Option.getD_some]
    congr 1; omega
  refine ⟨o, by rw [e, hsz]; simp; omega, fun i => ?_, fun i hi => ?_⟩
  · by_cases hi : i < n
    · rw [hget i hi, e]
      have : ((c.toL.drop off).take n).getD i .undef = c.toL.getD (off + i) .undef := by
        simp only [List.getD_eq_getElem?_getD]
        rw [List.getElem?_take_of_lt hi, List.getElem?_drop]
      rw [this]
      exact hc _ (by omega)
    · rw [getD_over _ _ (by rw [e]; simp; omega)]
      exact .undef _
  · rw [hget i (by omega)]
    exact h1 _ (by omega) (.inr (by omega))
theorem sound_ldn (o : Oper) (t : TypeId) (x : Operand) (d : TypeDesc) (i : TypeInfo) (ho : o.op = .load t x) (hu : P.underlying t = some d) (hi : P.info? t = some i) (hag : isAggT P t = true) (hr : HR P base ι H w) (he : rowR ι env a.tmps)
    (hx : xop (.ldn i.size (od x)) env H k = true) : Res P base ι H w k ((execOp a.eval o).run P w) := by
  simp only [xop] at hx
  have hv := ev_sound he x
  generalize hxv : a.eval x = xv at hv
  split at hx
  · rename_i b off e
    rw [e] at hv
    obtain ⟨L, hL, rfl⟩ := hv.ptr_inv
    obtain ⟨c, st, ro, hb, hx⟩ := gcell_inv hx
    obtain ⟨cc, el, fr, hw, hor⟩ := hr.cells hb hL
    cases hor with
    | cells _ _ _ _ _ _ hok hz hl hc h1 hf hs hro =>
    obtain ⟨hn, hx⟩ := cond_true_inv hx
    have hn' := Nat.le_of_ble_eq_true hn
    rw [Rp.len_eq c hok] at hn'
    refine Res.pure hr (cv := .agg (cc.extract (L.sh + off) (L.sh + off + i.size))) ?_ (cellsR_sub hok (by omega) hc h1 hn').agg hx
    simp only [execOp, ho, hxv, Instr.loadAt, Instr.sureAddr, loadVar, Sem.run_bind, run_isAgg hu, hag, Result.andThen_ok, Sem.run_pure, if_true, run_size hi]
    rw [run_loadCells hw _ (by omega)]
    rfl
  · cases hx
/-- a known package variable is read -/
theorem sound_ldg (o : Oper) (t : TypeId) (g : Nat) (d : TypeDesc) (i : TypeInfo) (ho : o.op = .load t (.global g)) (hu : P.underlying t = some d) (hi : P.info? t = some i) (hr : HR P base ι H w) (he : rowR ι env a.tmps)
    (hx : xop (readG (isAggT P t) i.size (Gl.row g)) env H k = true) : Res P base ι H w k ((execOp a.eval o).run P w) := by
  unfold readG at hx
  split at hx
  · rename_i r hg
    obtain ⟨hb, c, el, fr, hw, hok, hl, hv, h1⟩ := hr.gl g r hg
    have hev : a.eval (.global g) = .pointer (some ⟨g, 0, none⟩) := rfl
    cases hag : isAggT P t with
    | true =>
      rw [hag] at hx
      simp only [cond_true] at hx
      cases hs : Nat.beq r.len i.size with
      | false => rw [hs] at hx; cases hx
      | true =>
        rw [hs] at hx
        have hs' := Nat.eq_of_beq_eq_true hs
        rw [Rp.len_eq r hok, hl] at hs'
        refine Res.pure hr (cv := .agg c) ?_ (.agg r c hok hl (hv ι) h1) hx
        simp only [execOp, ho, hev, Instr.loadAt, Instr.sureAddr, loadVar, Sem.run_bind, run_isAgg hu, hag, Result.andThen_ok, Sem.run_pure, if_true, run_size hi]
        rw [run_loadCells hw _ (by omega)]
        simp [← hs']
    | false =>
      rw [hag] at hx
      simp only [cond_false] at hx
      split at hx
      · rename_i v hv'
        rw [Rp.get_eq r hok] at hv'
        have hlt : 0 < r.toL.length := (List.getElem?_eq_some_iff.1 hv').1
        have h2 := hv ι 0
        rw [List.getD_eq_getElem?_getD, hv'] at h2
        refine Res.pure hr (cv := c.getD 0 Go.undef) ?_ h2 hx
        simp only [execOp, ho, hev, Instr.loadAt, Instr.sureAddr, loadVar, Sem.run_bind, run_isAgg hu, hag, Result.andThen_ok, Sem.run_pure, Bool.false_eq_true, if_false]
        rw [run_load1 hw (by omega)]
        rfl
      · cases hx
  · cases hx
/-- a row of cells put into a block -/
theorem OR_put {L : Loc} {c r : Rp AV} {cc cc' vs : Array Value} {st ro : Bool} {el : TypeId} {fr : Nat × Nat} {off : Nat} (h : OR P base ι L (.cells c st ro) (.cells cc el fr)) (hr : cellsR ι r vs) (hn : off + vs.size ≤ c.toL.length)
    (hs : cc'.size = cc.size) (hg : ∀ j, cc'.getD j Go.undef = if L.sh + off ≤ j ∧ j < L.sh + off + vs.size then vs.getD (j - (L.sh + off)) Go.undef else cc.getD j Go.undef) {c' : Rp AV} (hc' : c'.ok)
    (ht : c'.toL = c.toL.take off ++ (r.toL ++ c.toL.drop (off + vs.size))) : OR P base ι L (.cells c' st ro) (.cells cc' el fr) := by
  cases h with
  | cells _ _ _ _ _ _ hok hz hl hc h1 hf hs' hro =>
  have hlen : c'.toL.length = c.toL.length := by rw [ht]; simp [hr.2.1]; omega
  refine .cells c' st ro cc' el fr hc' (by rw [hs, hz]) (by rw [hlen]; exact hl) (fun i hi => ?_) (fun i hi hri => ?_) (by rw [hs, hlen]; exact hf) hs' hro
  · rw [hg, ht]
    simp only [List.getD_eq_getElem?_getD]
    by_cases h1 : i < off
    · rw [if_neg (by omega), List.getElem?_append_left (by simp; omega), List.getElem?_take_of_lt h1, ← List.getD_eq_getElem?_getD]
      exact hc i (by omega)
    · by_cases h2 : i < off + vs.size
      · rw [if_pos (by omega), List.getElem?_append_right (by simp; omega), List.getElem?_append_left (by simp [hr.2.1]; omega), ← List.getD_eq_getElem?_getD]
        have e1 : L.sh + i - (L.sh + off) = i - off := by omega
        have e2 : i - (c.toL.take off).length = i - off := by simp; omega
        rw [e1, e2]
        exact hr.2.2.1 _
      · rw [if_neg (by omega), List.getElem?_append_right (by simp; omega), List.getElem?_append_right (by simp [hr.2.1]; omega), List.getElem?_drop, ← List.getD_eq_getElem?_getD]
        have e1 : off + vs.size + (i - (c.toL.take off).length - r.toL.length) = i := by simp [hr.2.1]; omega
        rw [e1]
        exact hc i (by omega)
  · rw [hg]
    split
    · exact hr.2.2.2 _ (by omega)
    · exact h1 i (by omega) (by rw [hlen] at hri; exact hri)
/-- the model's store of a row of cells, and the abstract one -/
theorem putRow (hr : HR P base ι H w) {b off : Nat} {c r : Rp AV} {st : Bool} {L : Loc} {vs : Array Value} (hb : H.get b = some (.cells c st false)) (hL : ι b = some L) (hrow : cellsR ι r vs) (hn : off + vs.size ≤ c.toL.length) {c' : Rp AV} (hc' : c'.ok)
    (ht : c'.toL = c.toL.take off ++ (r.toL ++ c.toL.drop (off + vs.size))) :
    ∃ w', (storeCells ⟨L.blk, L.sh + off, none⟩ vs.toList).run P w = .ok () w' ∧ Nx P base ι H w ι (H.set b (.cells c' st false)) w' := by
  obtain ⟨cc, el, fr, hw, hor⟩ := hr.cells hb hL
  have hor' := hor
  cases hor' with
  | cells _ _ _ _ _ _ hok hz hl hc h1 hf hs hro =>
  obtain ⟨w', cc', hrun, hup, hsz, hg⟩ := run_storeCells (P := P) (off := L.sh + off) vs.toList 0 cc w hw (fun v hv => by
    obtain ⟨j, hj, rfl⟩ := List.getElem_of_mem hv
    have := hrow.2.2.2 j (by simpa using hj)
    simpa [show j < vs.size by simpa using hj] using this) (by simp; omega) (fun o ho => hf o ho (.inl rfl))
  refine ⟨w', hrun, hr.updNx hb hL hup (OR_put hor hrow hn hsz (fun j => ?_) hc' ht) (hro rfl)⟩
  rw [hg j]
  simp
theorem sound_st (o : Oper) (t : TypeId) (x y : Operand) (i : TypeInfo) (ho : o.op = .store t x y) (hi : P.info? t = some i) (hr : HR P base ι H w) (he : rowR ι env a.tmps)
    (hx : xop (.st i.size (od x) (od y)) env H k = true) : Res P base ι H w k ((execOp a.eval o).run P w) := by
  simp only [xop] at hx
  have hv := ev_sound he x
  have hu := ev_sound he y
  generalize hxv : a.eval x = xv at hv
  generalize hyv : a.eval y = yv at hu
  split at hx
  · rename_i b off e
    rw [e] at hv
    obtain ⟨L, hL, rfl⟩ := hv.ptr_inv
    obtain ⟨c, st, ro, hb, hx⟩ := gcell_inv hx
    obtain ⟨hro, hx⟩ := cond_false_inv hx
    subst hro
    have hok : c.ok := by
      obtain ⟨cc, el, fr, hw, hor⟩ := hr.cells hb hL
      cases hor; assumption
    have run : ∀ w', yv.cells.size = i.size → (storeCells ⟨L.blk, L.sh + off, none⟩ yv.cells.toList).run P w = .ok () w' → (execOp a.eval o).run P w = .ok .skip w' := fun w' hs h => by
      simp only [execOp, ho, hxv, hyv, Instr.storeAt, Instr.sureAddr, storeVar, Sem.run_bind, Sem.run_pure, Result.andThen_ok, run_size hi, hs]
      simp [h]
    split at hx
    · rename_i r er
      rw [er] at hu
      obtain ⟨vs, rfl, hrow⟩ := hu.agg_inv
      obtain ⟨h1, hx⟩ := cond_true_inv hx
      obtain ⟨h2, hx⟩ := cond_true_inv hx
      have h1' := Nat.eq_of_beq_eq_true h1
      have h2' := Nat.le_of_ble_eq_true h2
      rw [Rp.len_eq r hrow.1, hrow.2.1] at h1'
      rw [Rp.len_eq c hok] at h2'
      obtain ⟨o1, e1⟩ := Rp.put_spec c off i.size r hok hrow.1 (by rw [hrow.2.1]; exact h1') h2'
      obtain ⟨w', hw', hnx⟩ := putRow (P := P) (off := off) hr hb hL hrow (by rw [h1']; exact h2') o1 (by rw [e1, h1'])
      exact ⟨.undef, _, _, _, w', run w' h1' hw', hnx, .undef _, hx⟩
    · obtain ⟨h0, hx⟩ := cond_true_inv hx
      obtain ⟨h1, hx⟩ := cond_true_inv hx
      obtain ⟨h2, hx⟩ := cond_true_inv hx
      have h1' := Nat.eq_of_beq_eq_true h1
      have h2' := Nat.le_of_ble_eq_true h2
      rw [Rp.len_eq c hok] at h2'
      have hrow := cellsR_one hu h0
      have hcs := hu.sc_cells h0
      obtain ⟨o1, e1⟩ := Rp.set_spec c off (ev env (od y)) hok
      obtain ⟨w', hw', hnx⟩ := putRow (P := P) (off := off) hr hb hL hrow (by simpa using h2') o1 (by
        rw [e1]
        simp only [Rp.toL_one, List.size_toArray, List.length_cons, List.length_nil, Nat.zero_add, List.singleton_append]
        rw [List.set_eq_take_append_cons_drop, if_pos (by omega)])
      exact ⟨.undef, _, _, _, w', run w' (by rw [hcs]; simpa using h1'.symm) (by rw [hcs]; exact hw'), hnx, .undef _, hx⟩
  · cases hx
end
end Go.Jt
