/-
  The abstract run of an operation is true to the model's: operations that look at values alone.
-/
import Derived.Test.YtlhlgmodhblplaaJtRel
set_option autoImplicit false
set_option linter.all false
namespace Go.Jt
open Go.RowKit (Below)
variable [Gl]

theorem getD_over (l : List AV) (i : Nat) (h : l.length ≤ i) : l.getD i .undef = .undef := by
  rw [List.getD_eq_getElem?_getD, List.getElem?_eq_none h]; rfl
theorem getD_in (c : Array Value) (i : Nat) (h : i < c.size) : c[i]? = some (c.getD i Go.undef) := by
  rw [Array.getElem?_eq_getElem h]
  congr 1
  simp [Array.getD, h]

def nxR (ι : Io) (v : AV) : Next → Prop
  | .value cv => VR ι v cv
  | .skip => VR ι v Go.undef
  | _ => False
/-- what an operation comes to, told of the model's run: the abstract run goes on, in true, from where it leaves -/
def Res (P : Program) (base : Nat) (ι : Io) (H : AH) (w : World) (k : AV → AH → Bool) (r : Result Next) : Prop :=
  ∃ v H' ι' nx w', r = .ok nx w' ∧ Nx P base ι H w ι' H' w' ∧ nxR ι' v nx ∧ k v H' = true

theorem Res.pure {P : Program} {base : Nat} {ι : Io} {H : AH} {w : World} {k : AV → AH → Bool} {r : Result Next} (hr : HR P base ι H w) {v : AV} {cv : Value} (hrun : r = .ok (.value cv) w)
    (hv : VR ι v cv) (hk : k v H = true) : Res P base ι H w k r := ⟨v, H, ι, _, w, hrun, Nx.refl hr, hv, hk⟩

/-! ### constants -/
theorem VR_ofS (ι : Io) (v : Value) : VR ι (ofS v) v := by
  unfold ofS
  split
  · exact .bool _
  · exact .int _ _
  · exact .str _
  · exact .nilp
  · exact .nils
  · exact .nilm
  · exact .nilf
  · exact .nili
  · rename_i f a b
    cases h1 : isYield f with
    | true => exact .undef _
    | false =>
      simp only [cond_false]
      cases h2 : Nat.beq a.size 0 with
      | false => exact .undef _
      | true =>
        simp only [cond_true]
        cases h3 : Nat.beq b.size 0 with
        | false => exact .undef _
        | true =>
          have e1 : a.size = 0 := Nat.eq_of_beq_eq_true h2
          have e2 : b.size = 0 := Nat.eq_of_beq_eq_true h3
          refine .fn _ _ _ _ _ _ (.fn f (fun l e => by subst e; cases h1)) (by simp [e1]) (fun i => ?_) (by simp [e2]) (fun i => ?_)
          · simp only [List.getD_nil]; exact .undef _
          · simp only [List.getD_nil]; exact .undef _
  · exact .undef _
theorem ofS_one {v : Value} (h : v.oneCell' = true) : ∀ r, ofS v ≠ .agg r := by
  intro r
  unfold ofS
  split <;> try (intro e; cases e; done)
  rename_i f a b
  cases isYield f <;> simp only [cond_true, cond_false] <;> try (intro e; cases e; done)
  cases Nat.beq a.size 0 <;> simp only [cond_true, cond_false] <;> try (intro e; cases e; done)
  cases Nat.beq b.size 0 <;> simp only [cond_true, cond_false] <;> (intro e; cases e; done)

def expand (rs : List (Nat × AV)) : List AV := rs.reverse.flatMap fun p => List.replicate p.1 p.2
theorem runs_spec (l : List AV) : ∀ acc, expand (runs l acc) = expand acc ++ l := by
  induction l with
  | nil => intro acc; show expand acc = _; simp
  | cons x l ih =>
    intro acc
    match acc with
    | [] =>
      show expand (runs l [(1, x)]) = _
      rw [ih]; simp [expand]
    | (n, y) :: rest =>
      show expand (cond (same1 x y) (fN (n + 1) fun n => runs l ((n, y) :: rest)) (runs l ((1, x) :: (n, y) :: rest))) = _
      cases h : same1 x y with
      | true =>
        have := same1_eq h
        subst this
        rw [cond_true, fN_eq, ih]
        simp [expand, List.replicate_succ']
      | false =>
        rw [cond_false, ih]
        simp [expand]
theorem runRp_ok (p : Nat × AV) : (runRp p).1 = (runRp p).2.toL.length ∧ (runRp p).2.ok ∧ (runRp p).2.toL = List.replicate p.1 p.2 := by
  obtain ⟨n, x⟩ := p
  unfold runRp
  dsimp only
  split
  · exact ⟨rfl, trivial, rfl⟩
  · exact ⟨by simp, trivial, rfl⟩
theorem rle_spec (l : List AV) : (rle l).ok ∧ (rle l).toL = l := by
  unfold rle
  obtain ⟨h1, h2⟩ := Rp.build_spec 40 ((runs l []).reverse.map runRp) (fun x hx => by
    obtain ⟨p, _, rfl⟩ := List.mem_map.1 hx
    exact ⟨(runRp_ok p).1, (runRp_ok p).2.1⟩)
  refine ⟨h1, ?_⟩
  rw [h2]
  have := runs_spec l []
  unfold expand at this
  simp only [List.reverse_nil, List.flatMap_nil, List.nil_append] at this
  rw [List.flatMap_map]
  refine Eq.trans ?_ this
  congr 1
  funext p
  exact (runRp_ok p).2.2
theorem ofRow_spec (ι : Io) {cs : Array Value} {r : Rp AV} (h : ofRow cs = some r) : r.ok ∧ r.toL = cs.toList.map ofS ∧ (∀ i, i < cs.size → (cs.getD i Go.undef).oneCell' = true) ∧
    (∀ i, VR ι (r.toL.getD i .undef) (cs.getD i Go.undef)) := by
  unfold ofRow at h
  cases hall : cs.toList.all Value.oneCell' with
  | false => rw [hall] at h; cases h
  | true =>
    rw [hall] at h
    cases h
    obtain ⟨o, e⟩ := rle_spec (cs.toList.map ofS)
    refine ⟨o, e, fun i hi => ?_, fun i => ?_⟩
    · rw [List.all_eq_true] at hall
      have := hall cs[i] (by simp)
      simpa [hi] using this
    · rw [e]
      by_cases hi : i < cs.size
      · have e1 : (cs.toList.map ofS).getD i .undef = ofS cs[i] := by simp [hi]
        have e2 : cs.getD i Go.undef = cs[i] := by simp [hi]
        rw [e1, e2]
        exact VR_ofS ι _
      · rw [getD_over _ _ (by simp; omega)]
        exact .undef _
theorem VR_ofV (ι : Io) (v : Value) : VR ι (ofV v) v := by
  unfold ofV
  split
  · rename_i cs
    split
    · rename_i r hr
      obtain ⟨o, e, h1, h2⟩ := ofRow_spec ι hr
      exact .agg r cs o (by rw [e]; simp) h2 h1
    · exact .undef _
  · exact VR_ofS ι v

section
variable {P : Program} {base : Nat} {ι : Io} {H : AH} {w : World} {k : AV → AH → Bool} {env : Env} {a : Act}
theorem ev_sound (he : rowR ι env a.tmps) (x : Operand) : VR ι (ev env (od x)) (a.eval x) := by
  cases x with
  | tmp t => show VR ι (lget env t) (a.tmps.getD t Go.undef); rw [lget_eq]; exact he.2 t
  | const v => exact VR_ofV ι v
  | func f => exact .fn _ _ _ _ _ _ (.fn _ (fun l e => by cases e)) rfl (fun i => by simp only [List.getD_nil]; exact .undef _) rfl (fun i => by simp only [List.getD_nil]; exact .undef _)
  | global g => exact .undef _

/-! ### inversions -/
theorem VR.int_inv {q : IntKind} {n : Int} {v : Value} (h : VR ι (.int q n) v) : v = .int q n := by cases h; rfl
theorem VR.bool_inv {b : Bool} {v : Value} (h : VR ι (.bool b) v) : v = .bool b := by cases h; rfl
theorem VR.str_inv {s : List Nat} {v : Value} (h : VR ι (.str s) v) : ∃ b : ByteArray, v = .string b ∧ s = bytesOf b := by cases h; exact ⟨_, rfl, rfl⟩
theorem VR.ptr_inv {b off : Nat} {v : Value} (h : VR ι (.ptr b off) v) : ∃ L, ι b = some L ∧ v = .pointer (some ⟨L.blk, L.sh + off, none⟩) := by cases h; exact ⟨_, by assumption, rfl⟩

theorem sound_move (o : Oper) (x : Operand) (ho : o.op = .move x ∨ o.op = .assign x) (hr : HR P base ι H w) (he : rowR ι env a.tmps) (hx : xop (.mv (od x)) env H k = true) :
    Res P base ι H w k ((execOp a.eval o).run P w) := by
  refine Res.pure hr (cv := a.eval x) ?_ (ev_sound he x) hx
  rcases ho with ho | ho <;> simp [execOp, ho]
theorem sound_pick (o : Oper) (c x y : Operand) (ho : o.op = .pick c x y) (hr : HR P base ι H w) (he : rowR ι env a.tmps) (hx : xop (.pick (od c) (od x) (od y)) env H k = true) :
    Res P base ι H w k ((execOp a.eval o).run P w) := by
  simp only [xop] at hx
  split at hx
  · rename_i t ht
    have hc := ev_sound he c
    rw [ht] at hc
    have := hc.bool_inv
    refine Res.pure hr (cv := if t then a.eval x else a.eval y) (by simp [execOp, ho, this, asBool]) ?_ hx
    cases t
    · exact ev_sound he y
    · exact ev_sound he x
  · cases hx
theorem sound_nck (o : Oper) (x : Operand) (ho : o.op = .nilCheck x) (hr : HR P base ι H w) (he : rowR ι env a.tmps) (hx : xop (.nck (od x)) env H k = true) :
    Res P base ι H w k ((execOp a.eval o).run P w) := by
  simp only [xop] at hx
  have hv := ev_sound he x
  generalize hxv : a.eval x = xv at hv
  split at hx
  · rename_i b off e
    rw [e] at hv
    refine Res.pure hr (cv := xv) ?_ hv hx
    cases hv
    simp [execOp, ho, hxv]
  · rename_i f as bs e
    rw [e] at hv
    refine Res.pure hr (cv := xv) ?_ hv hx
    cases hv with
    | fn _ f' _ _ first' cap' hf => cases hf; simp [execOp, ho, hxv]
  · rename_i l as bs e
    rw [e] at hv
    refine Res.pure hr (cv := xv) ?_ hv hx
    cases hv with
    | fn _ f' _ _ first' cap' hf => cases hf; simp [execOp, ho, hxv]
  · cases hx
theorem sound_not (o : Oper) (t : TypeId) (x : Operand) (ho : o.op = .unOp .not t x) (hr : HR P base ι H w) (he : rowR ι env a.tmps) (hx : xop (.not (od x)) env H k = true) :
    Res P base ι H w k ((execOp a.eval o).run P w) := by
  simp only [xop] at hx
  have hv := ev_sound he x
  split at hx
  · rename_i b e
    rw [e] at hv
    have := hv.bool_inv
    exact Res.pure hr (cv := .bool !b) (by simp [execOp, ho, this, Op.unary]) (.bool _) hx
  · cases hx
theorem sound_neg (o : Oper) (t : TypeId) (x : Operand) (ho : o.op = .unOp .neg t x) (hr : HR P base ι H w) (he : rowR ι env a.tmps) (hx : xop (.neg (od x)) env H k = true) :
    Res P base ι H w k ((execOp a.eval o).run P w) := by
  simp only [xop] at hx
  have hv := ev_sound he x
  split at hx
  · rename_i q n e
    rw [e] at hv
    have := hv.int_inv
    rw [fI_eq, wrapF_eq] at hx
    exact Res.pure hr (cv := .int q (q.wrap (0 - n))) (by simp [execOp, ho, this, Op.unary, Op.intArith]) (.int _ _) hx
  · cases hx
theorem sound_cvi (o : Oper) (s d : TypeId) (x : Operand) (q : IntKind) (ho : o.op = .convert s d x) (u : TypeDesc) (hs : P.underlying s = some u) (hd : P.underlying d = some (.int q)) (hr : HR P base ι H w) (he : rowR ι env a.tmps)
    (hx : xop (.cvi q (od x)) env H k = true) : Res P base ι H w k ((execOp a.eval o).run P w) := by
  simp only [xop] at hx
  have hv := ev_sound he x
  split at hx
  · rename_i q' n e
    rw [e] at hv
    have := hv.int_inv
    rw [fI_eq, wrapF_eq] at hx
    exact Res.pure hr (cv := .int q (q.wrap n)) (by simp [execOp, ho, this, convert, run_und hs, run_und hd, Conv.intToInt]) (.int _ _) hx
  · cases hx
theorem sound_cvs (o : Oper) (s d : TypeId) (x : Operand) (ho : o.op = .convert s d x) (hs : P.underlying s = some .string) (hd : P.underlying d = some .string) (hr : HR P base ι H w) (he : rowR ι env a.tmps)
    (hx : xop (.cvs (od x)) env H k = true) : Res P base ι H w k ((execOp a.eval o).run P w) := by
  simp only [xop] at hx
  have hv := ev_sound he x
  generalize hxv : a.eval x = xv at hv
  split at hx
  · rename_i l e
    rw [e] at hv
    refine Res.pure hr (cv := xv) ?_ hv hx
    cases hv
    simp [execOp, ho, hxv, convert, run_und hs, run_und hd]
  · cases hx
theorem sound_mki (o : Oper) (t : TypeId) (x : Operand) (ho : o.op = .makeInterface t x) (u : TypeDesc) (hu : P.underlying t = some u) (hni : ∀ ms, u ≠ .interface ms) (hr : HR P base ι H w) (he : rowR ι env a.tmps)
    (hx : xop (.mki t (od x)) env H k = true) : Res P base ι H w k ((execOp a.eval o).run P w) := by
  simp only [xop] at hx
  refine Res.pure hr (cv := .iface t (a.eval x)) ?_ (.ifc _ _ _ (ev_sound he x)) hx
  simp only [execOp, ho, Instr.makeInterface, Sem.run_bind, run_und hu, Result.andThen_ok]
  cases u <;> first | (exact absurd rfl (hni _)) | simp
theorem sound_tas (o : Oper) (t xT : TypeId) (x : Operand) (ho : o.op = .typeAssert x xT t false) (u : TypeDesc) (hu : P.underlying t = some u) (hni : ∀ ms, u ≠ .interface ms) (hr : HR P base ι H w) (he : rowR ι env a.tmps)
    (hx : xop (.tas t (od x)) env H k = true) : Res P base ι H w k ((execOp a.eval o).run P w) := by
  simp only [xop] at hx
  have hv := ev_sound he x
  generalize hxv : a.eval x = xv at hv
  split at hx
  · rename_i t' v e
    rw [e] at hv
    cases hb : Nat.beq t' t with
    | false => rw [hb] at hx; cases hx
    | true =>
      rw [hb] at hx
      have ht : t' = t := Nat.eq_of_beq_eq_true hb
      subst ht
      cases hv with
      | ifc _ _ v' hv' =>
        refine Res.pure hr (cv := v') ?_ hv' hx
        simp only [execOp, ho, hxv, Instr.typeAssert, Sem.run_bind, run_und hu, Result.andThen_ok]
        cases u <;> first | (exact absurd rfl (hni _)) | simp
  · cases hx
theorem rowR_map (he : rowR ι env a.tmps) (l : List Operand) : rowR ι ((l.map od).map (ev env)) (l.map a.eval).toArray := by
  refine ⟨by simp, fun i => ?_⟩
  by_cases hi : i < l.length
  · have e1 : ((l.map od).map (ev env)).getD i .undef = ev env (od l[i]) := by simp [hi]
    have e2 : (l.map a.eval).toArray.getD i Go.undef = a.eval l[i] := by simp [hi]
    rw [e1, e2]
    exact ev_sound he _
  · have e1 : ((l.map od).map (ev env)).getD i .undef = .undef := by simp [show l.length ≤ i by omega]
    rw [e1]; exact .undef _
theorem sound_mkf (o : Oper) (f : Fn) (as bs : Array Operand) (ho : o.op = .makeFunc f as bs) (hf : isYield f = false) (hr : HR P base ι H w) (he : rowR ι env a.tmps)
    (hx : xop (.mkf (.fn f) (as.toList.map od) (bs.toList.map od)) env H k = true) : Res P base ι H w k ((execOp a.eval o).run P w) := by
  simp only [xop] at hx
  have h1 := rowR_map he as.toList
  have h2 := rowR_map he bs.toList
  have e1 : (as.toList.map a.eval).toArray = as.map a.eval := by rw [← Array.toList_map, Array.toArray_toList]
  have e2 : (bs.toList.map a.eval).toArray = bs.map a.eval := by rw [← Array.toList_map, Array.toArray_toList]
  rw [e1] at h1
  rw [e2] at h2
  refine Res.pure hr (cv := .func f (as.map a.eval) (bs.map a.eval)) (by simp [execOp, ho, Instr.makeFunc]) ?_ hx
  exact .fn _ _ _ _ _ _ (.fn f (fun l e => by subst e; cases hf)) h1.1 h1.2 h2.1 h2.2
theorem sound_ext (o : Oper) (x : Operand) (i : Nat) (ho : o.op = .extract x i) (hr : HR P base ι H w) (he : rowR ι env a.tmps) (hx : xop (.ext (od x) i) env H k = true) :
    Res P base ι H w k ((execOp a.eval o).run P w) := by
  simp only [xop] at hx
  have hv := ev_sound he x
  generalize hxv : a.eval x = xv at hv
  split at hx
  · rename_i vs e
    rw [e] at hv
    split at hx
    · rename_i v hvi
      cases hv with
      | tup _ vs' hl h =>
        have hi : i < vs.length := (List.getElem?_eq_some_iff.1 hvi).1
        have e1 : vs.getD i .undef = v := by simp [hvi]
        have e2 : vs'[i]? = some (vs'.getD i Go.undef) := getD_in _ _ (by omega)
        have h3 := h i
        rw [e1] at h3
        generalize vs'.getD i Go.undef = cv at e2 h3
        exact Res.pure hr (cv := cv) (by simp [execOp, ho, hxv, Instr.extract, e2]) h3 hx
    · cases hx
  · cases hx
theorem sound_s2a (o : Oper) (d : TypeId) (x : Operand) (n : Nat) (e : TypeId) (ho : o.op = .sliceToArrayPointer d x) (hd : P.underlying d = some (.array n e)) (hr : HR P base ι H w) (he : rowR ι env a.tmps)
    (hx : xop (.s2a n (od x)) env H k = true) : Res P base ι H w k ((execOp a.eval o).run P w) := by
  simp only [xop] at hx
  have hv := ev_sound he x
  generalize hxv : a.eval x = xv at hv
  split at hx
  · rename_i b off len cap e
    rw [e] at hv
    cases hn : Nat.ble n len with
    | false => rw [hn] at hx; cases hx
    | true =>
      rw [hn] at hx
      have := Nat.le_of_ble_eq_true hn
      cases hv with
      | slc _ _ _ _ L hL hl =>
        exact Res.pure hr (cv := .pointer (some ⟨L.blk, L.sh + off, none⟩)) (by simp [execOp, ho, hxv, Instr.arrayAt, run_und hd]; omega) (.ptr _ _ _ hL) hx
  · rename_i b off len cap e
    rw [e] at hv
    cases hn : Nat.ble n len with
    | false => rw [hn] at hx; cases hx
    | true =>
      rw [hn] at hx
      have := Nat.le_of_ble_eq_true hn
      cases hv with
      | slu _ _ _ _ cap L hL hl he hc =>
        exact Res.pure hr (cv := .pointer (some ⟨L.blk, L.sh + off, none⟩)) (by simp [execOp, ho, hxv, Instr.arrayAt, run_und hd]; omega) (.ptr _ _ _ hL) hx
  · cases hx
theorem sound_fla (o : Oper) (s : TypeId) (x : Operand) (j : Nat) (fs : Array Field) (f : Field) (i : TypeInfo) (ho : o.op = .fieldAddr s x j) (hs : P.underlying s = some (.struct fs)) (hj : fs[j]? = some f) (hi : P.info? f.type = some i)
    (hz : i.size ≠ 0) (hr : HR P base ι H w) (he : rowR ι env a.tmps) (hx : xop (.fla f.offset (od x)) env H k = true) : Res P base ι H w k ((execOp a.eval o).run P w) := by
  simp only [xop] at hx
  have hv := ev_sound he x
  generalize hxv : a.eval x = xv at hv
  split at hx
  · rename_i b off e
    rw [e] at hv
    rw [fN_eq] at hx
    cases hv with
    | ptr _ _ L hL =>
      refine Res.pure hr (cv := .pointer (some ⟨L.blk, L.sh + (off + f.offset), none⟩)) ?_ (.ptr _ _ _ hL) hx
      simp [execOp, ho, hxv, Instr.fieldAt, run_und hs, hj, Instr.sureAddr, fieldPlace, run_size hi, hz, add_none, Nat.add_assoc]
  · cases hx
theorem sound_ixa (o : Oper) (t : TypeId) (x y : Operand) (n : Nat) (e : TypeId) (i : TypeInfo) (ho : o.op = .indexAddr t x y) (ht : P.underlying t = some (.array n e)) (hi : P.info? e = some i) (hr : HR P base ι H w) (he : rowR ι env a.tmps)
    (hx : xop (.ixa n i.size (od x) (od y)) env H k = true) : Res P base ι H w k ((execOp a.eval o).run P w) := by
  simp only [xop] at hx
  have hv := ev_sound he x
  have hw := ev_sound he y
  generalize hxv : a.eval x = xv at hv
  generalize hyv : a.eval y = yv at hw
  split at hx
  · rename_i b off q m e1 e2
    rw [e1] at hv
    rw [e2] at hw
    rw [fN_eq] at hx
    cases hn : Nat.ble n m with
    | true => rw [hn] at hx; cases hx
    | false =>
      rw [hn] at hx
      have hlt : m < n := by
        rcases Nat.lt_or_ge m n with h | h
        · exact h
        · rw [Nat.ble_eq_true_of_le h] at hn; cases hn
      cases hv with
      | ptr _ _ L hL =>
        cases hw
        refine Res.pure hr (cv := .pointer (some ⟨L.blk, L.sh + (off + m * i.size), none⟩)) ?_ (.ptr _ _ _ hL) hx
        simp [execOp, ho, hxv, hyv, Instr.indexAt, run_und ht, asIntOf, Instr.sureAddr, run_size hi, add_none, Nat.add_assoc]
        intro h; omega
  · cases hx
theorem sound_ixs (o : Oper) (t : TypeId) (x y : Operand) (e : TypeId) (i : TypeInfo) (ho : o.op = .indexAddr t x y) (ht : P.underlying t = some (.slice e)) (hi : P.info? e = some i) (hr : HR P base ι H w) (he : rowR ι env a.tmps)
    (hx : xop (.ixs i.size (od x) (od y)) env H k = true) : Res P base ι H w k ((execOp a.eval o).run P w) := by
  simp only [xop] at hx
  have hv := ev_sound he x
  have hw := ev_sound he y
  generalize hxv : a.eval x = xv at hv
  generalize hyv : a.eval y = yv at hw
  split at hx
  · rename_i b off len cap q m e1 e2
    rw [e1] at hv
    rw [e2] at hw
    rw [fN_eq] at hx
    cases hn : Nat.ble len m with
    | true => rw [hn] at hx; cases hx
    | false =>
      rw [hn] at hx
      have hlt : m < len := by
        rcases Nat.lt_or_ge m len with h | h
        · exact h
        · rw [Nat.ble_eq_true_of_le h] at hn; cases hn
      cases hv with
      | slc _ _ _ _ L hL hl =>
        cases hw
        refine Res.pure hr (cv := .pointer (some ⟨L.blk, L.sh + (off + m * i.size), none⟩)) ?_ (.ptr _ _ _ hL) hx
        simp [execOp, ho, hxv, hyv, Instr.indexAt, run_und ht, asIntOf, Instr.sureAddr, run_size hi, add_none, Nat.add_assoc]
        intro h; omega
  · rename_i b off len cap q m e1 e2
    rw [e1] at hv
    rw [e2] at hw
    rw [fN_eq] at hx
    cases hn : Nat.ble len m with
    | true => rw [hn] at hx; cases hx
    | false =>
      rw [hn] at hx
      have hlt : m < len := by
        rcases Nat.lt_or_ge m len with h | h
        · exact h
        · rw [Nat.ble_eq_true_of_le h] at hn; cases hn
      cases hv with
      | slu _ _ _ _ cap L hL hl he hc =>
        cases hw
        refine Res.pure hr (cv := .pointer (some ⟨L.blk, L.sh + (off + m * i.size), none⟩)) ?_ (.ptr _ _ _ hL) hx
        simp [execOp, ho, hxv, hyv, Instr.indexAt, run_und ht, asIntOf, Instr.sureAddr, run_size hi, add_none, Nat.add_assoc]
        intro h; omega
  · cases hx
end
end Go.Jt
