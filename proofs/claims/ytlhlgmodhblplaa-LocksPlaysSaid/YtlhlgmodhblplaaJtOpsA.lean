/-
  The abstract run of an operation is true to the model's: operations that look at values alone.
-/
import Derived.Test.YtlhlgmodhblplaaJtRel
import Derived.Lib.Strings
import Derived.Laws.Strings
import Derived.Laws.StructEq
import Derived.LaidEql
import Derived.Laws.Tables
import Derived.Laws.BytesString
import Derived.Lib.ConvBytes
set_option autoImplicit false
set_option linter.all false
namespace Go.Jt
open Go.RowKit (Below)
variable [Gl]

theorem getD_over (l : List AV) (i : Nat) (h : l.length ≤ i) : l.getD i .undef = .undef := by
  rw [List.getD_eq_getElem?_getD, List.getElem?_eq_none h]; rfl
theorem getD_in (c : Array Value) (i : Nat) (h : i < c.size) : c[i]? = some (c.getD i Go.undef) := by
  rw [Array.getElem?_eq_getElem h]
  congr 1
  simp [Array.getD, h]

def nxR (ι : Io) (v : AV) : Next → Prop
  | .value cv => VR ι v cv
  | .skip => VR ι v Go.undef
  | _ => False
/-- what an operation comes to, told of the model's run: the abstract run goes on, in true, from where it leaves -/
def Res (P : Program) (base : Nat) (ι : Io) (H : AH) (w : World) (k : AV → AH → Bool) (r : Result Next) : Prop :=
  ∃ v H' ι' nx w', r = .ok nx w' ∧ Nx P base ι H w ι' H' w' ∧ nxR ι' v nx ∧ k v H' = true

theorem Res.pure {P : Program} {base : Nat} {ι : Io} {H : AH} {w : World} {k : AV → AH → Bool} {r : Result Next} (hr : HR P base ι H w) {v : AV} {cv : Value} (hrun : r = .ok (.value cv) w)
    (hv : VR ι v cv) (hk : k v H = true) : Res P base ι H w k r := ⟨v, H, ι, _, w, hrun, Nx.refl hr, hv, hk⟩

/-! ### constants -/
theorem VR_ofS (ι : Io) (v : Value) : VR ι (ofS v) v := by
  unfold ofS
  split
  · exact .bool _
  · exact .int _ _
  · exact .str _
  · exact .nilp
  · exact .nils
  · exact .nilm
  · exact .nilf
  · exact .nili
  · rename_i f a b
    cases h1 : isYield f with
    | true => exact .undef _
    | false =>
      simp only [cond_false]
      cases h2 : Nat.beq a.size 0 with
      | false => exact .undef _
      | true =>
        simp only [cond_true]
        cases h3 : Nat.beq b.size 0 with
        | false => exact .undef _
        | true =>
          have e1 : a.size = 0 := Nat.eq_of_beq_eq_true h2
          have e2 : b.size = 0 := Nat.eq_of_beq_eq_true h3
          refine .fn _ _ _ _ _ _ (.fn f (fun l e => by subst e; cases h1)) (by simp [e1]) (fun i => ?_) (by simp [e2]) (fun i => ?_)
          · simp only [List.getD_nil]; exact .undef _
          · simp only [List.getD_nil]; exact .undef _
  · exact .undef _
theorem ofS_one {v : Value} (h : v.oneCell' = true) : ∀ r, ofS v ≠ .agg r := by
  intro r
  unfold ofS
  split <;> try (intro e; cases e; done)
  rename_i f a b
  cases isYield f <;> simp only [cond_true, cond_false] <;> try (intro e; cases e; done)
  cases Nat.beq a.size 0 <;> simp only [cond_true, cond_false] <;> try (intro e; cases e; done)
  cases Nat.beq b.size 0 <;> simp only [cond_true, cond_false] <;> (intro e; cases e; done)

def expand (rs : List (Nat × AV)) : List AV := rs.reverse.flatMap fun p => List.replicate p.1 p.2
theorem runs_spec (l : List AV) : ∀ acc, expand (runs l acc) = expand acc ++ l := by
  induction l with
  | nil => intro acc; show expand acc = _; simp
  | cons x l ih =>
    intro acc
    match acc with
    | [] =>
      show expand (runs l [(1, x)]) = _
      rw [ih]; simp [expand]
    | (n, y) :: rest =>
      show expand (cond (same1 x y) (fN (n + 1) fun n => runs l ((n, y) :: rest)) (runs l ((1, x) :: (n, y) :: rest))) = _
      cases h : same1 x y with
      | true =>
        have := same1_eq h
        subst this
        rw [cond_true, fN_eq, ih]
        simp [expand, List.replicate_succ']
      | false =>
        rw [cond_false, ih]
        simp [expand]
theorem runRp_ok (p : Nat × AV) : (runRp p).1 = (runRp p).2.toL.length ∧ (runRp p).2.ok ∧ (runRp p).2.toL = List.replicate p.1 p.2 := by
  obtain ⟨n, x⟩ := p
  unfold runRp
  dsimp only
  split
  · exact ⟨rfl, trivial, rfl⟩
  · exact ⟨by simp, trivial, rfl⟩
theorem rle_spec (l : List AV) : (rle l).ok ∧ (rle l).toL = l := by
  unfold rle
  obtain ⟨h1, h2⟩ := Rp.build_spec 40 ((runs l []).reverse.map runRp) (fun x hx => by
    obtain ⟨p, _, rfl⟩ := List.mem_map.1 hx
    exact ⟨(runRp_ok p).1, (runRp_ok p).2.1⟩)
  refine ⟨h1, ?_⟩
  rw [h2]
  have := runs_spec l []
  unfold expand at this
  simp only [List.reverse_nil, List.flatMap_nil, List.nil_append] at this
  rw [List.flatMap_map]
  refine Eq.trans ?_ this
  congr 1
  funext p
  exact (runRp_ok p).2.2
theorem ofRow_spec (ι : Io) {cs : Array Value} {r : Rp AV} (h : ofRow cs = some r) : r.ok ∧ r.toL = cs.toList.map ofS ∧ (∀ i, i < cs.size → (cs.getD i Go.undef).oneCell' = true) ∧
    (∀ i, VR ι (r.toL.getD i .undef) (cs.getD i Go.undef)) := by
  unfold ofRow at h
  cases hall : cs.toList.all Value.oneCell' with
  | false => rw [hall] at h; cases h
  | true =>
    rw [hall] at h
    cases h
    obtain ⟨o, e⟩ := rle_spec (cs.toList.map ofS)
    refine ⟨o, e, fun i hi => ?_, fun i => ?_⟩
    · rw [List.all_eq_true] at hall
      have := hall cs[i] (by simp)
      simpa [hi] using this
    · rw [e]
      by_cases hi : i < cs.size
      · have e1 : (cs.toList.map ofS).getD i .undef = ofS cs[i] := by simp [hi]
        have e2 : cs.getD i Go.undef = cs[i] := by simp [hi]
        rw [e1, e2]
        exact VR_ofS ι _
      · rw [getD_over _ _ (by simp; omega)]
        exact .undef _
theorem VR_ofV (ι : Io) (v : Value) : VR ι (ofV v) v := by
  unfold ofV
  split
  · rename_i cs
    split
    · rename_i r hr
      obtain ⟨o, e, h1, h2⟩ := ofRow_spec ι hr
      exact .agg r cs o (by rw [e]; simp) h2 h1
    · exact .undef _
  · exact VR_ofS ι v

section
variable {P : Program} {base : Nat} {ι : Io} {H : AH} {w : World} {k : AV → AH → Bool} {env : Env} {a : Act}
theorem ev_sound (he : rowR ι env a.tmps) (x : Operand) : VR ι (ev env (od x)) (a.eval x) := by
  cases x with
  | tmp t => show VR ι (lget env t) (a.tmps.getD t Go.undef); rw [lget_eq]; exact he.2 t
  | const v => exact VR_ofV ι v
  | func f => exact .fn _ _ _ _ _ _ (.fn _ (fun l e => by cases e)) rfl (fun i => by simp only [List.getD_nil]; exact .undef _) rfl (fun i => by simp only [List.getD_nil]; exact .undef _)
  | global g => exact .undef _

/-! ### inversions -/
theorem VR.int_inv {q : IntKind} {n : Int} {v : Value} (h : VR ι (.int q n) v) : v = .int q n := by cases h; rfl
theorem VR.bool_inv {b : Bool} {v : Value} (h : VR ι (.bool b) v) : v = .bool b := by cases h; rfl
theorem VR.str_inv {s : List Nat} {v : Value} (h : VR ι (.str s) v) : ∃ b : ByteArray, v = .string b ∧ s = bytesOf b := by cases h; exact ⟨_, rfl, rfl⟩
theorem VR.ptr_inv {b off : Nat} {v : Value} (h : VR ι (.ptr b off) v) : ∃ L, ι b = some L ∧ v = .pointer (some ⟨L.blk, L.sh + off, none⟩) := by cases h; exact ⟨_, by assumption, rfl⟩

theorem sound_move (o : Oper) (x : Operand) (ho : o.op = .move x ∨ o.op = .assign x) (hr : HR P base ι H w) (he : rowR ι env a.tmps) (hx : xop (.mv (od x)) env H k = true) :
    Res P base ι H w k ((execOp a.eval o).run P w) := by
  refine Res.pure hr (cv := a.eval x) ?_ (ev_sound he x) hx
  rcases ho with ho | ho <;> simp [execOp, ho]
theorem sound_pick (o : Oper) (c x y : Operand) (ho : o.op = .pick c x y) (hr : HR P base ι H w) (he : rowR ι env a.tmps) (hx : xop (.pick (od c) (od x) (od y)) env H k = true) :
    Res P base ι H w k ((execOp a.eval o).run P w) := by
  simp only [xop] at hx
  split at hx
  · rename_i t ht
    have hc := ev_sound he c
    rw [ht] at hc
    have := hc.bool_inv
    refine Res.pure hr (cv := if t then a.eval x else a.eval y) (by simp [execOp, ho, this, asBool]) ?_ hx
    cases t
    · exact ev_sound he y
    · exact ev_sound he x
  · cases hx
theorem sound_nck (o : Oper) (x : Operand) (ho : o.op = .nilCheck x) (hr : HR P base ι H w) (he : rowR ι env a.tmps) (hx : xop (.nck (od x)) env H k = true) :
    Res P base ι H w k ((execOp a.eval o).run P w) := by
  simp only [xop] at hx
  have hv := ev_sound he x
  generalize hxv : a.eval x = xv at hv
  split at hx
  · rename_i b off e
    rw [e] at hv
    refine Res.pure hr (cv := xv) ?_ hv hx
    cases hv
    simp [execOp, ho, hxv]
  · rename_i f as bs e
    rw [e] at hv
    refine Res.pure hr (cv := xv) ?_ hv hx
    cases hv with
    | fn _ f' _ _ first' cap' hf => cases hf; simp [execOp, ho, hxv]
  · rename_i l as bs e
    rw [e] at hv
    refine Res.pure hr (cv := xv) ?_ hv hx
    cases hv with
    | fn _ f' _ _ first' cap' hf => cases hf; simp [execOp, ho, hxv]
  · cases hx
theorem sound_not (o : Oper) (t : TypeId) (x : Operand) (ho : o.op = .unOp .not t x) (hr : HR P base ι H w) (he : rowR ι env a.tmps) (hx : xop (.not (od x)) env H k = true) :
    Res P base ι H w k ((execOp a.eval o).run P w) := by
  simp only [xop] at hx
  have hv := ev_sound he x
  split at hx
  · rename_i b e
    rw [e] at hv
    have := hv.bool_inv
    exact Res.pure hr (cv := .bool !b) (by simp [execOp, ho, this, Op.unary]) (.bool _) hx
  · cases hx
theorem sound_neg (o : Oper) (t : TypeId) (x : Operand) (ho : o.op = .unOp .neg t x) (hr : HR P base ι H w) (he : rowR ι env a.tmps) (hx : xop (.neg (od x)) env H k = true) :
    Res P base ι H w k ((execOp a.eval o).run P w) := by
  simp only [xop] at hx
  have hv := ev_sound he x
  split at hx
  · rename_i q n e
    rw [e] at hv
    have := hv.int_inv
    rw [fI_eq, wrapF_eq] at hx
    exact Res.pure hr (cv := .int q (q.wrap (0 - n))) (by simp [execOp, ho, this, Op.unary, Op.intArith]) (.int _ _) hx
  · cases hx
theorem sound_cvi (o : Oper) (s d : TypeId) (x : Operand) (q : IntKind) (ho : o.op = .convert s d x) (u : TypeDesc) (hs : P.underlying s = some u) (hd : P.underlying d = some (.int q)) (hr : HR P base ι H w) (he : rowR ι env a.tmps)
    (hx : xop (.cvi q (od x)) env H k = true) : Res P base ι H w k ((execOp a.eval o).run P w) := by
  simp only [xop] at hx
  have hv := ev_sound he x
  split at hx
  · rename_i q' n e
    rw [e] at hv
    have := hv.int_inv
    rw [fI_eq, wrapF_eq] at hx
    exact Res.pure hr (cv := .int q (q.wrap n)) (by simp [execOp, ho, this, convert, run_und hs, run_und hd, Conv.intToInt]) (.int _ _) hx
  · cases hx
theorem sound_cvs (o : Oper) (s d : TypeId) (x : Operand) (ho : o.op = .convert s d x) (hs : P.underlying s = some .string) (hd : P.underlying d = some .string) (hr : HR P base ι H w) (he : rowR ι env a.tmps)
    (hx : xop (.cvs (od x)) env H k = true) : Res P base ι H w k ((execOp a.eval o).run P w) := by
  simp only [xop] at hx
  have hv := ev_sound he x
  generalize hxv : a.eval x = xv at hv
  split at hx
  · rename_i l e
    rw [e] at hv
    refine Res.pure hr (cv := xv) ?_ hv hx
    cases hv
    simp [execOp, ho, hxv, convert, run_und hs, run_und hd]
  · cases hx
theorem sound_mki (o : Oper) (t : TypeId) (x : Operand) (ho : o.op = .makeInterface t x) (u : TypeDesc) (hu : P.underlying t = some u) (hni : ∀ ms, u ≠ .interface ms) (hr : HR P base ι H w) (he : rowR ι env a.tmps)
    (hx : xop (.mki t (od x)) env H k = true) : Res P base ι H w k ((execOp a.eval o).run P w) := by
  simp only [xop] at hx
  refine Res.pure hr (cv := .iface t (a.eval x)) ?_ (.ifc _ _ _ (ev_sound he x)) hx
  simp only [execOp, ho, Instr.makeInterface, Sem.run_bind, run_und hu, Result.andThen_ok]
  cases u <;> first | (exact absurd rfl (hni _)) | simp
theorem sound_tas (o : Oper) (t xT : TypeId) (x : Operand) (ho : o.op = .typeAssert x xT t false) (u : TypeDesc) (hu : P.underlying t = some u) (hni : ∀ ms, u ≠ .interface ms) (hr : HR P base ι H w) (he : rowR ι env a.tmps)
    (hx : xop (.tas t (od x)) env H k = true) : Res P base ι H w k ((execOp a.eval o).run P w) := by
  simp only [xop] at hx
  have hv := ev_sound he x
  generalize hxv : a.eval x = xv at hv
  split at hx
  · rename_i t' v e
    rw [e] at hv
    cases hb : Nat.beq t' t with
    | false => rw [hb] at hx; cases hx
    | true =>
      rw [hb] at hx
      have ht : t' = t := Nat.eq_of_beq_eq_true hb
      subst ht
      cases hv with
      | ifc _ _ v' hv' =>
        refine Res.pure hr (cv := v') ?_ hv' hx
        simp only [execOp, ho, hxv, Instr.typeAssert, Sem.run_bind, run_und hu, Result.andThen_ok]
        cases u <;> first | (exact absurd rfl (hni _)) | simp
  · cases hx
theorem rowR_map (he : rowR ι env a.tmps) (l : List Operand) : rowR ι ((l.map od).map (ev env)) (l.map a.eval).toArray := by
  refine ⟨by simp, fun i => ?_⟩
  by_cases hi : i < l.length
  · have e1 : ((l.map od).map (ev env)).getD i .undef = ev env (od l[i]) := by simp [hi]
    have e2 : (l.map a.eval).toArray.getD i Go.undef = a.eval l[i] := by simp [hi]
    rw [e1, e2]
    exact ev_sound he _
  · have e1 : ((l.map od).map (ev env)).getD i .undef = .undef := by simp [show l.length ≤ i by omega]
    rw [e1]; exact .undef _
theorem sound_mkf (o : Oper) (f : Fn) (as bs : Array Operand) (ho : o.op = .makeFunc f as bs) (hf : isYield f = false) (hr : HR P base ι H w) (he : rowR ι env a.tmps)
    (hx : xop (.mkf (.fn f) (as.toList.map od) (bs.toList.map od)) env H k = true) : Res P base ι H w k ((execOp a.eval o).run P w) := by
  simp only [xop] at hx
  have h1 := rowR_map he as.toList
  have h2 := rowR_map he bs.toList
  have e1 : (as.toList.map a.eval).toArray = as.map a.eval := by rw [← Array.toList_map, Array.toArray_toList]
  have e2 : (bs.toList.map a.eval).toArray = bs.map a.eval := by rw [← Array.toList_map, Array.toArray_toList]
  rw [e1] at h1
  rw [e2] at h2
  refine Res.pure hr (cv := .func f (as.map a.eval) (bs.map a.eval)) (by simp [execOp, ho, Instr.makeFunc]) ?_ hx
  exact .fn _ _ _ _ _ _ (.fn f (fun l e => by subst e; cases hf)) h1.1 h1.2 h2.1 h2.2
theorem sound_ext (o : Oper) (x : Operand) (i : Nat) (ho : o.op = .extract x i) (hr : HR P base ι H w) (he : rowR ι env a.tmps) (hx : xop (.ext (od x) i) env H k = true) :
    Res P base ι H w k ((execOp a.eval o).run P w) := by
  simp only [xop] at hx
  have hv := ev_sound he x
  generalize hxv : a.eval x = xv at hv
  split at hx
  · rename_i vs e
    rw [e] at hv
    split at hx
    · rename_i v hvi
      cases hv with
      | tup _ vs' hl h =>
        have hi : i < vs.length := (List.getElem?_eq_some_iff.1 hvi).1
        have e1 : vs.getD i .undef = v := by simp [hvi]
        have e2 : vs'[i]? = some (vs'.getD i Go.undef) := getD_in _ _ (by omega)
        have h3 := h i
        rw [e1] at h3
        generalize vs'.getD i Go.undef = cv at e2 h3
        exact Res.pure hr (cv := cv) (by simp [execOp, ho, hxv, Instr.extract, e2]) h3 hx
    · cases hx
  · cases hx
theorem sound_s2a (o : Oper) (d : TypeId) (x : Operand) (n : Nat) (e : TypeId) (ho : o.op = .sliceToArrayPointer d x) (hd : P.underlying d = some (.array n e)) (hr : HR P base ι H w) (he : rowR ι env a.tmps)
    (hx : xop (.s2a n (od x)) env H k = true) : Res P base ι H w k ((execOp a.eval o).run P w) := by
  simp only [xop] at hx
  have hv := ev_sound he x
  generalize hxv : a.eval x = xv at hv
  split at hx
  · rename_i b off len cap e
    rw [e] at hv
    cases hn : Nat.ble n len with
    | false => rw [hn] at hx; cases hx
    | true =>
      rw [hn] at hx
      have := Nat.le_of_ble_eq_true hn
      cases hv with
      | slc _ _ _ _ L hL hl =>
        exact Res.pure hr (cv := .pointer (some ⟨L.blk, L.sh + off, none⟩)) (by simp [execOp, ho, hxv, Instr.arrayAt, run_und hd]; omega) (.ptr _ _ _ hL) hx
  · rename_i b off len cap e
    rw [e] at hv
    cases hn : Nat.ble n len with
    | false => rw [hn] at hx; cases hx
    | true =>
      rw [hn] at hx
      have := Nat.le_of_ble_eq_true hn
      cases hv with
      | slu _ _ _ _ cap L hL hl he hc =>
        exact Res.pure hr (cv := .pointer (some ⟨L.blk, L.sh + off, none⟩)) (by simp [execOp, ho, hxv, Instr.arrayAt, run_und hd]; omega) (.ptr _ _ _ hL) hx
  · cases hx
theorem sound_fla (o : Oper) (s : TypeId) (x : Operand) (j : Nat) (fs : Array Field) (f : Field) (i : TypeInfo) (ho : o.op = .fieldAddr s x j) (hs : P.underlying s = some (.struct fs)) (hj : fs[j]? = some f) (hi : P.info? f.type = some i)
    (hz : i.size ≠ 0) (hr : HR P base ι H w) (he : rowR ι env a.tmps) (hx : xop (.fla f.offset (od x)) env H k = true) : Res P base ι H w k ((execOp a.eval o).run P w) := by
  simp only [xop] at hx
  have hv := ev_sound he x
  generalize hxv : a.eval x = xv at hv
  split at hx
  · rename_i b off e
    rw [e] at hv
    rw [fN_eq] at hx
    cases hv with
    | ptr _ _ L hL =>
      refine Res.pure hr (cv := .pointer (some ⟨L.blk, L.sh + (off + f.offset), none⟩)) ?_ (.ptr _ _ _ hL) hx
      simp [execOp, ho, hxv, Instr.fieldAt, run_und hs, hj, Instr.sureAddr, fieldPlace, run_size hi, hz, add_none, Nat.add_assoc]
  · cases hx
theorem sound_ixa (o : Oper) (t : TypeId) (x y : Operand) (n : Nat) (e : TypeId) (i : TypeInfo) (ho : o.op = .indexAddr t x y) (ht : P.underlying t = some (.array n e)) (hi : P.info? e = some i) (hr : HR P base ι H w) (he : rowR ι env a.tmps)
    (hx : xop (.ixa n i.size (od x) (od y)) env H k = true) : Res P base ι H w k ((execOp a.eval o).run P w) := by
  simp only [xop] at hx
  have hv := ev_sound he x
  have hw := ev_sound he y
  generalize hxv : a.eval x = xv at hv
  generalize hyv : a.eval y = yv at hw
  split at hx
  · rename_i b off q m e1 e2
    rw [e1] at hv
    rw [e2] at hw
    rw [fN_eq] at hx
    cases hn : Nat.ble n m with
    | true => rw [hn] at hx; cases hx
    | false =>
      rw [hn] at hx
      have hlt : m < n := by
        rcases Nat.lt_or_ge m n with h | h
        · exact h
        · rw [Nat.ble_eq_true_of_le h] at hn; cases hn
      cases hv with
      | ptr _ _ L hL =>
        cases hw
        refine Res.pure hr (cv := .pointer (some ⟨L.blk, L.sh + (off + m * i.size), none⟩)) ?_ (.ptr _ _ _ hL) hx
        simp [execOp, ho, hxv, hyv, Instr.indexAt, run_und ht, asIntOf, Instr.sureAddr, run_size hi, add_none, Nat.add_assoc]
        intro h; omega
  · cases hx
theorem sound_ixs (o : Oper) (t : TypeId) (x y : Operand) (e : TypeId) (i : TypeInfo) (ho : o.op = .indexAddr t x y) (ht : P.underlying t = some (.slice e)) (hi : P.info? e = some i) (hr : HR P base ι H w) (he : rowR ι env a.tmps)
    (hx : xop (.ixs i.size (od x) (od y)) env H k = true) : Res P base ι H w k ((execOp a.eval o).run P w) := by
  simp only [xop] at hx
  have hv := ev_sound he x
  have hw := ev_sound he y
  generalize hxv : a.eval x = xv at hv
  generalize hyv : a.eval y = yv at hw
  split at hx
  · rename_i b off len cap q m e1 e2
    rw [e1] at hv
    rw [e2] at hw
    rw [fN_eq] at hx
    cases hn : Nat.ble len m with
    | true => rw [hn] at hx; cases hx
    | false =>
      rw [hn] at hx
      have hlt : m < len := by
        rcases Nat.lt_or_ge m len with h | h
        · exact h
        · rw [Nat.ble_eq_true_of_le h] at hn; cases hn
      cases hv with
      | slc _ _ _ _ L hL hl =>
        cases hw
        refine Res.pure hr (cv := .pointer (some ⟨L.blk, L.sh + (off + m * i.size), none⟩)) ?_ (.ptr _ _ _ hL) hx
        simp [execOp, ho, hxv, hyv, Instr.indexAt, run_und ht, asIntOf, Instr.sureAddr, run_size hi, add_none, Nat.add_assoc]
        intro h; omega
  · rename_i b off len cap q m e1 e2
    rw [e1] at hv
    rw [e2] at hw
    rw [fN_eq] at hx
    cases hn : Nat.ble len m with
    | true => rw [hn] at hx; cases hx
    | false =>
      rw [hn] at hx
      have hlt : m < len := by
        rcases Nat.lt_or_ge m len with h | h
        · exact h
        · rw [Nat.ble_eq_true_of_le h] at hn; cases hn
      cases hv with
      | slu _ _ _ _ cap L hL hl he hc =>
        cases hw
        refine Res.pure hr (cv := .pointer (some ⟨L.blk, L.sh + (off + m * i.size), none⟩)) ?_ (.ptr _ _ _ hL) hx
        simp [execOp, ho, hxv, hyv, Instr.indexAt, run_und ht, asIntOf, Instr.sureAddr, run_size hi, add_none, Nat.add_assoc]
        intro h; omega
  · cases hx
end
end Go.Jt
set_option autoImplicit false
set_option linter.all false
namespace Go.Jt
open Go.RowKit (Below)
variable [Gl]

theorem mask_eq (q : IntKind) : mask q = 2 ^ q.bits := by cases q <;> rfl
theorem bits2_eq (f : Nat → Nat → Nat) (g : (q : IntKind) → BitVec q.bits → BitVec q.bits → BitVec q.bits)
    (hfg : ∀ (q : IntKind) (x y : BitVec q.bits), (g q x y).toNat = f x.toNat y.toNat) (q : IntKind) (x y : Int) :
    bits2 f g q x y = q.wrap (g q (BitVec.ofInt q.bits x) (BitVec.ofInt q.bits y)).toNat := by
  cases x with
  | negSucc a => rfl
  | ofNat a =>
    cases y with
    | negSucc b => rfl
    | ofNat b =>
      show wrapF q (Int.ofNat (f (a % mask q) (b % mask q))) = _
      rw [wrapF_eq, hfg, BitVec.toNat_ofInt, BitVec.toNat_ofInt, mask_eq]
      congr 1
theorem beq_false_of_not {a b : Nat} (h : Nat.beq a b = false) : a ≠ b := fun e => by subst e; simp at h

section
variable {P : Program} {w : World}
/-- arithmetic and comparison of two integers of one kind -/
theorem ibin_sound {op : BinOp} {q : IntKind} {x y : Int} {k : AV → Bool} (h : ibin op q x y k = true) (t : TypeId) (ι : Io) :
    ∃ v cv, (binOp op t (.int q x) (.int q y)).run P w = .ok cv w ∧ VR ι v cv ∧ k v = true := by
  cases op <;> simp only [ibin, fI_eq, wrapF_eq] at h <;> try (cases h; done)
  case add => exact ⟨_, _, by simp [binOp, Op.intArith], .int _ _, h⟩
  case sub => exact ⟨_, _, by simp [binOp, Op.intArith], .int _ _, h⟩
  case mul => exact ⟨_, _, by simp [binOp, Op.intArith], .int _ _, h⟩
  case quo =>
    rw [ieq_eq] at h
    by_cases hy : y = 0
    · subst hy; cases h
    · have : (y == 0) = false := by simpa using hy
      rw [this] at h
      exact ⟨_, _, by simp [binOp, Op.intDiv, hy], .int _ _, h⟩
  case rem =>
    rw [ieq_eq] at h
    by_cases hy : y = 0
    · subst hy; cases h
    · have : (y == 0) = false := by simpa using hy
      rw [this] at h
      exact ⟨_, _, by simp [binOp, Op.intDiv, hy], .int _ _, h⟩
  case and =>
    rw [bits2_eq Nat.land (fun _ a b => a &&& b) (fun q x y => BitVec.toNat_and x y)] at h
    exact ⟨_, _, by simp [binOp, Op.intBits], .int _ _, h⟩
  case or =>
    rw [bits2_eq Nat.lor (fun _ a b => a ||| b) (fun q x y => BitVec.toNat_or x y)] at h
    exact ⟨_, _, by simp [binOp, Op.intBits], .int _ _, h⟩
  case xor =>
    rw [bits2_eq Nat.xor (fun _ a b => a ^^^ b) (fun q x y => BitVec.toNat_xor x y)] at h
    exact ⟨_, _, by simp [binOp, Op.intBits], .int _ _, h⟩
  case eql => rw [ieq_eq] at h; exact ⟨.bool (x == y), .bool (x == y), by simp [binOp, Op.intCmp], .bool _, h⟩
  case neq => rw [ieq_eq] at h; exact ⟨.bool (x != y), .bool (x != y), by simp [binOp, Op.intCmp], .bool _, h⟩
  case lss =>
    rw [ile_eq] at h
    have e : (!decide (y ≤ x)) = decide (x < y) := by rw [Bool.eq_iff_iff]; simp
    exact ⟨.bool (decide (x < y)), .bool (decide (x < y)), by simp [binOp, Op.intCmp], .bool _, by rw [← e]; exact h⟩
  case leq =>
    rw [ile_eq] at h
    exact ⟨.bool (decide (x ≤ y)), .bool (decide (x ≤ y)), by simp [binOp, Op.intCmp], .bool _, h⟩
  case gtr =>
    rw [ile_eq] at h
    have e : (!decide (x ≤ y)) = decide (x > y) := by rw [Bool.eq_iff_iff]; simp
    exact ⟨.bool (decide (x > y)), .bool (decide (x > y)), by simp [binOp, Op.intCmp], .bool _, by rw [← e]; exact h⟩
  case geq =>
    rw [ile_eq] at h
    exact ⟨.bool (decide (x ≥ y)), .bool (decide (x ≥ y)), by simp [binOp, Op.intCmp], .bool _, h⟩
theorem ishift_sound {left : Bool} {q r : IntKind} {x y : Int} {k : AV → Bool} (h : ishift left q x y k = true) (t : TypeId) (ι : Io) :
    ∃ v cv, (binOp (if left then .shl else .shr) t (.int q x) (.int r y)).run P w = .ok cv w ∧ VR ι v cv ∧ k v = true := by
  cases y with
  | negSucc b => cases h
  | ofNat b =>
    have h' : fN (Nat.min b q.bits) (fun n => cond left (fI (wrapF q (x * Int.ofNat (Nat.pow 2 n))) fun z => k (.int q z))
      (Int.rec (fun a => fN (a / Nat.pow 2 n) fun m => k (.int q (Int.ofNat m))) (fun _ => fI (x.fdiv (2 ^ n)) fun z => k (.int q z)) x)) = true := h
    rw [fN_eq] at h'
    simp only [fI_eq, wrapF_eq, fN_eq] at h'
    have hb : ¬ ((Int.ofNat b) < 0) := by simp
    have hm : min (Int.ofNat b).toNat q.bits = Nat.min b q.bits := rfl
    cases left with
    | true =>
      refine ⟨.int q (q.wrap (x * Int.ofNat (Nat.pow 2 (Nat.min b q.bits)))), .int q (q.wrap (x * 2 ^ (Nat.min b q.bits))), ?_, ?_, h'⟩
      · simp only [if_true, binOp, Op.shift, if_neg hb, hm]; rfl
      · have : Int.ofNat (Nat.pow 2 (Nat.min b q.bits)) = (2 : Int) ^ (Nat.min b q.bits) := by
          show ((2 ^ (Nat.min b q.bits) : Nat) : Int) = _
          norm_cast
        rw [this]; exact .int _ _
    | false =>
      refine ⟨.int q (x.fdiv (2 ^ (Nat.min b q.bits))), .int q (x.fdiv (2 ^ (Nat.min b q.bits))), ?_, .int _ _, ?_⟩
      · simp only [Bool.false_eq_true, if_false, binOp, Op.shift, if_neg hb, hm]; rfl
      · cases x with
        | negSucc a => exact h'
        | ofNat a =>
          have e : (Int.ofNat a).fdiv (2 ^ (Nat.min b q.bits)) = Int.ofNat (a / Nat.pow 2 (Nat.min b q.bits)) := by
            rw [Int.fdiv_eq_ediv_of_nonneg _ (Int.le_of_lt (Int.pow_pos (by decide)))]
            show (a : Int) / 2 ^ _ = ((a / 2 ^ (Nat.min b q.bits) : Nat) : Int)
            norm_cast
          rw [e]; exact h'

/-! ### strings -/
theorem bytesOf_eq (a b : ByteArray) : seq (bytesOf a) (bytesOf b) = (a.toList == b.toList) := by
  rw [seq_eq, ByteArray.toList_eq, ByteArray.toList_eq, Bool.eq_iff_iff, beq_iff_eq, beq_iff_eq]
  exact List.map_inj_right (fun x y h => UInt8.toNat_inj.1 h)
theorem slt_map (l : List UInt8) : ∀ m : List UInt8, slt (l.map (·.toNat)) (m.map (·.toNat)) = Op.bytesLess l m := by
  induction l with
  | nil => intro m; cases m <;> rfl
  | cons x l ih =>
    intro m
    cases m with
    | nil => rfl
    | cons y m =>
      show cond (Nat.ble (Nat.succ x.toNat) y.toNat) true (cond (Nat.beq x.toNat y.toNat) (slt (l.map (·.toNat)) (m.map (·.toNat))) false) = _
      rw [ih]
      simp only [Op.bytesLess, Bool.cond_eq_ite, Nat.ble_eq, Nat.beq_eq]
      by_cases h1 : x < y
      · have : x.toNat.succ ≤ y.toNat := h1
        rw [if_pos this]; simp [h1]
      · have : ¬ x.toNat.succ ≤ y.toNat := h1
        rw [if_neg this]
        by_cases h2 : x = y
        · subst h2; simp [h1]
        · have : ¬ x.toNat = y.toNat := fun e => h2 (UInt8.toNat_inj.1 e)
          rw [if_neg this]; simp [h1, h2]
theorem bytesOf_len (a : ByteArray) : (bytesOf a).length = a.size := by simp [bytesOf]
theorem bytesOf_append (a b : ByteArray) : bytesOf (a ++ b) = bytesOf a ++ bytesOf b := by
  unfold bytesOf
  rw [ByteArray.data_append]; simp
theorem i64max : IntKind.i64.max = 9223372036854775807 := by decide
theorem sbin_sound {op : BinOp} {x y : ByteArray} {k : AV → Bool} (h : sbin op (bytesOf x) (bytesOf y) k = true) (t : TypeId) (ι : Io) :
    ∃ v cv, (binOp op t (.string x) (.string y)).run P w = .ok cv w ∧ VR ι v cv ∧ k v = true := by
  have e1 := bytesOf_eq x y
  have e2 : slt (bytesOf x) (bytesOf y) = Op.bytesLess x.toList y.toList := by rw [ByteArray.toList_eq, ByteArray.toList_eq]; exact slt_map _ _
  cases op <;> simp only [sbin] at h <;> try (cases h; done)
  case add =>
    rw [llen_eq, llen_eq, bytesOf_len, bytesOf_len] at h
    cases hb : Nat.ble (x.size + 0 + (y.size + 0)) 9223372036854775807 with
    | false => rw [hb] at h; cases h
    | true =>
      rw [hb] at h
      have := Nat.le_of_ble_eq_true hb
      refine ⟨.str (bytesOf (x ++ y)), .string (x ++ y), ?_, .str _, by rw [bytesOf_append]; exact h⟩
      simp only [binOp, Op.stringOp]
      rw [if_neg (by rw [i64max]; omega)]
      rfl
  case eql => exact ⟨.bool (x.toList == y.toList), .bool (x.toList == y.toList), by simp [binOp, Op.stringOp], .bool _, by rw [← e1]; exact h⟩
  case neq => exact ⟨.bool (!(x.toList == y.toList)), .bool (!(x.toList == y.toList)), by simp [binOp, Op.stringOp], .bool _, by rw [← e1]; exact h⟩
  case lss => exact ⟨.bool (Op.bytesLess x.toList y.toList), .bool (Op.bytesLess x.toList y.toList), by simp [binOp, Op.stringOp], .bool _, by rw [← e2]; exact h⟩
  case leq => exact ⟨.bool (Op.bytesLess x.toList y.toList || x.toList == y.toList), .bool (Op.bytesLess x.toList y.toList || x.toList == y.toList), by simp [binOp, Op.stringOp], .bool _, by rw [← e2, ← e1]; exact h⟩
  case gtr => exact ⟨.bool (!(Op.bytesLess x.toList y.toList || x.toList == y.toList)), .bool (!(Op.bytesLess x.toList y.toList || x.toList == y.toList)), by simp [binOp, Op.stringOp], .bool _, by rw [← e2, ← e1]; exact h⟩
  case geq => exact ⟨.bool (!(Op.bytesLess x.toList y.toList)), .bool (!(Op.bytesLess x.toList y.toList)), by simp [binOp, Op.stringOp], .bool _, by rw [← e2]; exact h⟩

/-! ### '==' -/
theorem depth_succ : Op.maxDepth = 9999 + 1 := rfl
theorem gcell_inv {H : AH} {b : Nat} {k : Rp AV → Bool → Bool → Bool} (h : gcell H b k = true) : ∃ c st ro, H.get b = some (.cells c st ro) ∧ k c st ro = true := by
  unfold gcell at h
  split at h
  · exact ⟨_, _, _, by assumption, h⟩
  · cases h
theorem gmap_inv {H : AH} {b : Nat} {k : List (AV × AV × Nat) → Nat → Bool} (h : gmap H b k = true) : ∃ es c, H.get b = some (.mp es c) ∧ k es c = true := by
  unfold gmap at h
  split at h
  · exact ⟨_, _, by assumption, h⟩
  · cases h
theorem cond_true_inv {b c : Bool} (h : cond b c false = true) : b = true ∧ c = true := by cases b <;> first | (cases h; done) | exact ⟨rfl, h⟩
theorem cond_false_inv {b c : Bool} (h : cond b false c = true) : b = false ∧ c = true := by cases b <;> first | (cases h; done) | exact ⟨rfl, h⟩
theorem kind_ptr {b : Bool} {n : Nat} (h : n = cond b 0 2) : n = 0 ∨ n = 2 := by cases b <;> first | exact .inl h | exact .inr h
set_option maxHeartbeats 2000000 in
theorem eqv_sound {base : Nat} {ι : Io} {H : AH} {va vb : AV} {x y : Value} {k : Bool → Bool} {t : TypeId} (hr : HR P base ι H w) (ha : VR ι va x) (hb : VR ι vb y)
    (hk : Nat.beq (eqk va vb) (eqKind P t) = true) (h : eqv H va vb k = true) : ∃ r, (Op.equal t x y).run P w = .ok r w ∧ k r = true := by
  have hk' := Nat.eq_of_beq_eq_true hk
  unfold eqKind at hk'
  unfold Op.equal
  rw [depth_succ]
  generalize 9999 = dd
  cases hu : P.underlying t with
  | none =>
    rw [hu] at hk'
    cases va <;> simp only [eqk] at hk' <;> first | (cases hk'; done) | (simp only [eqv] at h; cases h; done)
  | some d =>
    rw [hu] at hk'
    unfold eqv at h
    split at h <;> try (cases h; done)
    case h_5 x o y p =>
      cases ha with
      | ptr _ _ L hL =>
      cases hb with
      | ptr _ _ M hM =>
      simp only [eqk] at hk'
      cases d <;> simp only at hk' <;> try (cases hk'; done)
      rename_i el
      have hz : sizeT P el ≠ 0 := by
        intro e0
        rw [e0] at hk'
        cases hk'
      unfold sizeT at hz
      cases hi : P.info? el with
      | none => rw [hi] at hz; exact absurd rfl hz
      | some i =>
        rw [hi] at hz
        have hz' : i.size ≠ 0 := hz
        have e1 : ∀ (A B : Addr), (Op.equalIn (dd + 1) t (.pointer (some A)) (.pointer (some B))).run P w = (sameAddr A B).run P w := fun A B => by
          simp [Op.equalIn, run_und hu, run_size hi, hz']
        rw [e1]
        cases hxy : Nat.beq x y with
        | true =>
          have := Nat.eq_of_beq_eq_true hxy
          subst this
          rw [hL] at hM
          cases hM
          rw [hxy] at h
          refine ⟨Nat.beq o p, ?_, h⟩
          simp only [sameAddr, beq_self_eq_true, if_true, Sem.run_pure]
          congr 1
          rw [Bool.eq_iff_iff]
          simp
        | false =>
          rw [hxy] at h
          obtain ⟨c1, s1, r1, g1, h⟩ := gcell_inv h
          obtain ⟨hs1, h⟩ := cond_false_inv h
          obtain ⟨c2, s2, r2, g2, h⟩ := gcell_inv h
          obtain ⟨hs2, h⟩ := cond_false_inv h
          refine ⟨false, ?_, h⟩
          obtain ⟨k1, el1, fr1, w1, o1⟩ := hr.cells g1 hL
          obtain ⟨k2, el2, fr2, w2, o2⟩ := hr.cells g2 hM
          cases o1 with
          | cells _ _ _ _ _ _ _ _ _ _ _ _ q1 _ =>
          cases o2 with
          | cells _ _ _ _ _ _ _ _ _ _ _ _ q2 _ =>
          have f1 := (q1 hs1).1
          have f2 := (q2 hs2).1
          have f3 := (q1 hs1).2
          subst f1
          subst f2
          have hne : L.blk ≠ M.blk := fun e => (hr.inj _ _ _ _ _ _ g1 g2 hL hM e).elim (beq_false_of_not hxy) (fun hl => by omega)
          have a1 : ∀ off, w.frozen? ⟨L.blk, off, none⟩ = false := fun off => frozen_of w1 (by simp)
          have a2 : ∀ off, w.frozen? ⟨M.blk, off, none⟩ = false := fun off => frozen_of w2 (by simp)
          have b1 : w.shape? L.blk = some (el1, k1.size) := by simp [World.shape?, w1]
          have b2 : w.shape? M.blk = some (el2, k2.size) := by simp [World.shape?, w2]
          simp [sameAddr, hne, a1, a2, noView, viewAt, b1, b2, mayBeOne, stringish]
    all_goals (cases ha <;> cases hb)
    all_goals (simp only [eqk] at hk')
    all_goals (cases d <;> simp only at hk' <;> try (cases hk'; done))
    all_goals first
      | (rcases kind_ptr hk' with e | e <;> cases e; done)
      | (refine ⟨_, ?_, h⟩; simp [Op.equalIn, run_und hu]; done)
      | (rename_i x y; refine ⟨_, ?_, h⟩; simp only [Op.equalIn, run_und hu, Sem.run_bind, Result.andThen_ok, Sem.run_pure]; cases x <;> cases y <;> rfl)

theorem eqGuard_other {op : BinOp} {t : TypeId} {x y : Operand} {u v : Value} (h1 : ¬ (u = .nilIface ∧ v = .nilIface)) (h2 : ¬ ((∃ c, u = .agg c) ∧ ∃ c, v = .agg c)) : (eqGuard op t x y u v).run P w = .ok () w := by
  unfold eqGuard
  cases u <;> cases v <;> first
    | (exact absurd ⟨rfl, rfl⟩ h1)
    | (exact absurd ⟨⟨_, rfl⟩, ⟨_, rfl⟩⟩ h2)
    | (cases op <;> simp)
theorem bin_sound {base : Nat} {ι : Io} {H : AH} {va vb : AV} {x y : Value} {k : AV → Bool} {t : TypeId} {op : BinOp} (hr : HR P base ι H w) (ha : VR ι va x) (hb : VR ι vb y)
    (h : bin op (eqKind P t) H va vb k = true) (ox oy : Operand) :
    ∃ v cv, (do eqGuard op t ox oy x y; binOp op t x y : Sem Value).run P w = .ok cv w ∧ VR ι v cv ∧ k v = true := by
  unfold bin at h
  split at h
  · rename_i q m r n
    have e1 := ha.int_inv
    have e2 := hb.int_inv
    subst e1
    subst e2
    have hg : (eqGuard op t ox oy (.int q m) (.int r n)).run P w = .ok () w := eqGuard_other (by simp) (by simp)
    simp only [Sem.run_bind, hg, Result.andThen_ok]
    split at h
    · exact ishift_sound (left := true) h t ι
    · exact ishift_sound (left := false) h t ι
    · obtain ⟨hq, h'⟩ := cond_true_inv h
      have := ikN_inj hq
      subst this
      exact ibin_sound h' t ι
  · obtain ⟨s1, rfl, rfl⟩ := ha.str_inv
    obtain ⟨s2, rfl, rfl⟩ := hb.str_inv
    have hg : (eqGuard op t ox oy (.string s1) (.string s2)).run P w = .ok () w := eqGuard_other (by simp) (by simp)
    simp only [Sem.run_bind, hg, Result.andThen_ok]
    exact sbin_sound h t ι
  · rename_i n1 n2
    have key : ∀ (f : Bool → AV) , eqv H va vb (fun t => k (f t)) = true → (¬ (x = .nilIface ∧ y = .nilIface)) ∧ (¬ ((∃ c, x = .agg c) ∧ ∃ c, y = .agg c)) ∧ (∀ q n, x ≠ .int q n) ∧ (∀ q n, x ≠ .float q n) ∧ (∀ q a b, x ≠ .complex q a b) ∧ (∀ s, x ≠ .string s) := by
      intro f hf
      unfold eqv at hf
      split at hf <;> try (cases hf; done)
      all_goals (cases ha <;> cases hb <;> refine ⟨by simp, by simp, by simp, by simp, by simp, by simp⟩)
    have run : ∀ (r : Bool), (Op.equal t x y).run P w = .ok r w → (∀ q n, x ≠ .int q n) → (∀ q n, x ≠ .float q n) → (∀ q a b, x ≠ .complex q a b) → (∀ s, x ≠ .string s) →
        (binOp .eql t x y).run P w = .ok (.bool r) w ∧ (binOp .neq t x y).run P w = .ok (.bool !r) w := by
      intro r hrun h1 h2 h3 h4
      cases x <;> first
        | exact absurd rfl (h1 _ _)
        | exact absurd rfl (h2 _ _)
        | exact absurd rfl (h3 _ _ _)
        | exact absurd rfl (h4 _)
        | (simp only [binOp, Sem.run_bind, hrun, Result.andThen_ok, Sem.run_pure]; exact ⟨trivial, trivial⟩)
        | (simp [binOp, hrun])
    split at h
    · obtain ⟨hk, h⟩ := cond_true_inv h
      obtain ⟨g1, g2, g3, g4, g5, g6⟩ := key _ h
      obtain ⟨r, hrun, hkr⟩ := eqv_sound hr ha hb hk h
      refine ⟨.bool r, .bool r, ?_, .bool r, hkr⟩
      simp only [Sem.run_bind, eqGuard_other g1 g2, Result.andThen_ok]
      exact (run r hrun g3 g4 g5 g6).1
    · obtain ⟨hk, h⟩ := cond_true_inv h
      obtain ⟨g1, g2, g3, g4, g5, g6⟩ := key _ h
      obtain ⟨r, hrun, hkr⟩ := eqv_sound hr ha hb hk h
      refine ⟨.bool !r, .bool !r, ?_, .bool _, hkr⟩
      simp only [Sem.run_bind, eqGuard_other g1 g2, Result.andThen_ok]
      exact (run r hrun g3 g4 g5 g6).2
    · cases h
theorem sound_bin {base : Nat} {ι : Io} {H : AH} {k : AV → AH → Bool} {env : Env} {a : Act} (o : Oper) (op : BinOp) (t u : TypeId) (x y : Operand) (ho : o.op = .binOp op t x y u) (hr : HR P base ι H w) (he : rowR ι env a.tmps)
    (hx : xop (.bin op (eqKind P t) (od x) (od y)) env H k = true) : Res P base ι H w k ((execOp a.eval o).run P w) := by
  simp only [xop] at hx
  obtain ⟨v, cv, hrun, hv, hk⟩ := bin_sound hr (ev_sound he x) (ev_sound he y) hx x y
  exact Res.pure hr (cv := cv) (by simp only [execOp, ho]; rw [Sem.run_bind, hrun]; rfl) hv hk
end
end Go.Jt
set_option autoImplicit false
set_option linter.all false
namespace Go.Jt
open Go.RowKit (Below)
variable [Gl]

section
variable {P : Program} {base : Nat} {ι : Io} {H : AH} {w : World} {k : AV → AH → Bool} {env : Env} {a : Act}

/-- a row of cells, abstract and the model's -/
def cellsR (ι : Io) (r : Rp AV) (c : Array Value) : Prop :=
  r.ok ∧ r.toL.length = c.size ∧ (∀ i, VR ι (r.toL.getD i .undef) (c.getD i Go.undef)) ∧ (∀ i, i < c.size → (c.getD i Go.undef).oneCell' = true)
theorem cellsR.mono {ι ι' : Io} (hle : ι.le ι') {r : Rp AV} {c : Array Value} (h : cellsR ι r c) : cellsR ι' r c := ⟨h.1, h.2.1, fun i => (h.2.2.1 i).mono hle, h.2.2.2⟩
theorem VR.agg_inv {r : Rp AV} {v : Value} (h : VR ι (.agg r) v) : ∃ c, v = .agg c ∧ cellsR ι r c := by cases h; exact ⟨_, rfl, by assumption, by assumption, by assumption, by assumption⟩
theorem cellsR.agg {r : Rp AV} {c : Array Value} (h : cellsR ι r c) : VR ι (.agg r) (.agg c) := .agg _ _ h.1 h.2.1 h.2.2.1 h.2.2.2
theorem cellsR_one {v : AV} {cv : Value} (h : VR ι v cv) (hs : v.sc = true) : cellsR ι (.one v) #[cv] := by
  refine ⟨trivial, rfl, fun i => ?_, fun i hi => ?_⟩
  · cases i with
    | zero => exact h
    | succ i => exact .undef _
  · have : i = 0 := by simp at hi; omega
    subst this
    exact h.one hs
theorem cellsR_zero (ι : Io) {t : TypeId} {z : Rp AV} (h : zeroRow P t = some z) : ∃ i zv, P.info? t = some i ∧ i.zero = some zv ∧ cellsR ι z zv.cells := by
  unfold zeroRow at h
  cases hi : P.info? t with
  | none => rw [hi] at h; cases h
  | some i =>
    rw [hi] at h
    simp only [Option.bind_some] at h
    cases hz : i.zero with
    | none => rw [hz] at h; cases h
    | some zv =>
      rw [hz] at h
      simp only [Option.bind_some] at h
      obtain ⟨o, e, h1, h2⟩ := ofRow_spec ι h
      exact ⟨i, zv, rfl, hz, o, by rw [e]; simp, h2, h1⟩
theorem VR.sc_cells {v : AV} {cv : Value} (h : VR ι v cv) (hs : v.sc = true) : cv.cells = #[cv] := by
  cases h <;> first | rfl | (cases hs)
/-- a new block of cells -/
theorem OR_new (ι' : Io) {r : Rp AV} {c : Array Value} (h : cellsR ι' r c) (el : TypeId) (n : Nat) (hb : base ≤ n) : OR P base ι' ⟨n, 0, c.size⟩ (.cells r false false) (.cells c el (0, 0)) :=
  .cells r false false c el (0, 0) h.1 rfl (by simp only [h.2.1]; omega) (fun i hi => by simp only [Nat.zero_add]; exact h.2.2.1 i) (fun i hi _ => h.2.2.2 i hi) (fun o ho => by simp) (fun _ => ⟨rfl, hb⟩) (fun _ => hb)
theorem alc_inv {x : Option (AObj × (Nat → AV))} (h : alc x H k = true) : ∃ o f, x = some (o, f) ∧ k (f H.n) (H.new o) = true := by
  unfold alc at h
  split at h
  · rw [anew_eq] at h; exact ⟨_, _, rfl, h⟩
  · cases h
theorem ext_le_new (hr : HR P base ι H w) (L : Loc) : ι.le (ι.ext H.n L) := Io.ext_le _ _ _ (hr.fresh _ (Nat.le_refl _))
/-- an operation that lays one new block of cells -/
theorem Res.newCells (hr : HR P base ι H w) {r : Rp AV} {c : Array Value} (hc : cellsR ι r c) (el : TypeId) {res : Result Next} {cv : Value} {v : AV}
    (hrun : res = .ok (.value cv) (w.alloc (.cells c el))) (hv : VR (ι.ext H.n ⟨w.heap.size, 0, c.size⟩) v cv) (hk : k v (H.new (.cells r false false)) = true) : Res P base ι H w k res :=
  ⟨v, _, _, _, _, hrun, hr.newNx c.size rfl rfl rfl rfl (OR_new _ (hc.mono (ext_le_new hr _)) el _ hr.below), hv, hk⟩
theorem run_newRow (el : TypeId) (c : Array Value) : (newRow el c).run P w = .ok ⟨w.heap.size, 0, none⟩ (w.alloc (.cells c el)) := by
  simp [newRow]
theorem run_newVar (t : TypeId) (v : Value) : (newVar t v).run P w = .ok ⟨w.heap.size, 0, none⟩ (w.alloc (.cells v.cells t)) := run_newRow t v.cells

theorem sound_alloc (o : Oper) (t : TypeId) (z : Rp AV) (ho : o.op = .alloc t) (hz : zeroRow P t = some z) (hr : HR P base ι H w) (hx : xop (.alloc z) env H k = true) :
    Res P base ι H w k ((execOp a.eval o).run P w) := by
  simp only [xop] at hx
  obtain ⟨ob, f, e, hk⟩ := alc_inv hx
  cases e
  obtain ⟨i, zv, hi, hzv, hc⟩ := cellsR_zero ι hz
  refine Res.newCells hr hc t (cv := .pointer (some ⟨w.heap.size, 0, none⟩)) ?_ (.ptr _ _ _ (Io.ext_self _ _ _)) hk
  simp [execOp, ho, Instr.alloc, run_zero hi hzv, run_newVar]
theorem sound_box (o : Oper) (t : TypeId) (x : Operand) (ho : o.op = .box t x) (hr : HR P base ι H w) (he : rowR ι env a.tmps) (hx : xop (.box (od x)) env H k = true) :
    Res P base ι H w k ((execOp a.eval o).run P w) := by
  simp only [xop] at hx
  obtain ⟨ob, f, e, hk⟩ := alc_inv hx
  have hv := ev_sound he x
  generalize hxv : a.eval x = xv at hv
  have run : (execOp a.eval o).run P w = .ok (.value (.pointer (some ⟨w.heap.size, 0, none⟩))) (w.alloc (.cells xv.cells t)) := by
    simp [execOp, ho, Instr.box, run_newVar, hxv]
  unfold boxed at e
  split at e
  · rename_i r er
    rw [er] at hv
    obtain ⟨c, rfl, hc⟩ := hv.agg_inv
    cases e
    exact Res.newCells hr hc t run (.ptr _ _ _ (Io.ext_self _ _ _)) hk
  · cases hs : (ev env (od x)).sc with
    | false => rw [hs] at e; cases e
    | true =>
      rw [hs] at e
      cases e
      have hc := cellsR_one hv hs
      rw [hv.sc_cells hs] at run
      exact Res.newCells hr hc t run (.ptr _ _ _ (Io.ext_self _ _ _)) hk

/-! ### loads and stores -/
theorem sound_ld1 (o : Oper) (t : TypeId) (x : Operand) (d : TypeDesc) (ho : o.op = .load t x) (hu : P.underlying t = some d) (hag : isAggT P t = false) (hr : HR P base ι H w) (he : rowR ι env a.tmps)
    (hx : xop (.ld1 (od x)) env H k = true) : Res P base ι H w k ((execOp a.eval o).run P w) := by
  simp only [xop] at hx
  have hv := ev_sound he x
  generalize hxv : a.eval x = xv at hv
  split at hx
  · rename_i b off e
    rw [e] at hv
    obtain ⟨L, hL, rfl⟩ := hv.ptr_inv
    obtain ⟨c, st, ro, hb, hx⟩ := gcell_inv hx
    obtain ⟨cc, el, fr, hw, hor⟩ := hr.cells hb hL
    cases hor with
    | cells _ _ _ _ _ _ hok hz hl hc h1 hf hs hro =>
    rw [Rp.get_eq c hok] at hx
    split at hx
    · rename_i v hv'
      have hi : off < c.toL.length := (List.getElem?_eq_some_iff.1 hv').1
      have h2 := hc off hi
      rw [List.getD_eq_getElem?_getD, hv'] at h2
      refine Res.pure hr (cv := cc.getD (L.sh + off) Go.undef) ?_ h2 hx
      simp only [execOp, ho, hxv, Instr.loadAt, Instr.sureAddr, loadVar, Sem.run_bind, run_isAgg hu, hag, Result.andThen_ok, Sem.run_pure, Bool.false_eq_true, if_false]
      rw [run_load1 hw (by omega)]
      rfl
    · cases hx
  · cases hx
theorem cellsR_sub {L : Loc} {c : Rp AV} {cc : Array Value} {off n : Nat} (hok : c.ok) (hl : L.sh + c.toL.length ≤ cc.size) (hc : ∀ i, i < c.toL.length → VR ι (c.toL.getD i .undef) (cc.getD (L.sh + i) Go.undef))
    {ro : Bool} (h1 : ∀ i, i < cc.size → (ro = false ∨ (L.sh ≤ i ∧ i < L.sh + c.toL.length)) → (cc.getD i Go.undef).oneCell' = true) (hn : off + n ≤ c.toL.length) : cellsR ι (c.sub off n) (cc.extract (L.sh + off) (L.sh + off + n)) := by
  obtain ⟨o, e⟩ := Rp.sub_spec c off n hok
  have hsz : (cc.extract (L.sh + off) (L.sh + off + n)).size = n := by simp; omega
  have hget : ∀ i, i < n → (cc.extract (L.sh + off) (L.sh + off + n)).getD i Go.undef = cc.getD (L.sh + (off + i)) Go.undef := fun i hi => by
    have a1 : i < (cc.extract (L.sh + off) (L.sh + off + n)).size := by omega
    have a2 : L.sh + (off + i) < cc.size := by omega
    simp only [Array.getD_eq_getD_getElem?, Array.getElem?_eq_getElem a1, Array.getElem?_eq_getElem a2, Array.getElem_extract, Option.getD_some]
    congr 1; omega
  refine ⟨o, by rw [e, hsz]; simp; omega, fun i => ?_, fun i hi => ?_⟩
  · by_cases hi : i < n
    · rw [hget i hi, e]
      have : ((c.toL.drop off).take n).getD i .undef = c.toL.getD (off + i) .undef := by
        simp only [List.getD_eq_getElem?_getD]
        rw [List.getElem?_take_of_lt hi, List.getElem?_drop]
      rw [this]
      exact hc _ (by omega)
    · rw [getD_over _ _ (by rw [e]; simp; omega)]
      exact .undef _
  · rw [hget i (by omega)]
    exact h1 _ (by omega) (.inr (by omega))
theorem sound_ldn (o : Oper) (t : TypeId) (x : Operand) (d : TypeDesc) (i : TypeInfo) (ho : o.op = .load t x) (hu : P.underlying t = some d) (hi : P.info? t = some i) (hag : isAggT P t = true) (hr : HR P base ι H w) (he : rowR ι env a.tmps)
    (hx : xop (.ldn i.size (od x)) env H k = true) : Res P base ι H w k ((execOp a.eval o).run P w) := by
  simp only [xop] at hx
  have hv := ev_sound he x
  generalize hxv : a.eval x = xv at hv
  split at hx
  · rename_i b off e
    rw [e] at hv
    obtain ⟨L, hL, rfl⟩ := hv.ptr_inv
    obtain ⟨c, st, ro, hb, hx⟩ := gcell_inv hx
    obtain ⟨cc, el, fr, hw, hor⟩ := hr.cells hb hL
    cases hor with
    | cells _ _ _ _ _ _ hok hz hl hc h1 hf hs hro =>
    obtain ⟨hn, hx⟩ := cond_true_inv hx
    have hn' := Nat.le_of_ble_eq_true hn
    rw [Rp.len_eq c hok] at hn'
    refine Res.pure hr (cv := .agg (cc.extract (L.sh + off) (L.sh + off + i.size))) ?_ (cellsR_sub hok (by omega) hc h1 hn').agg hx
    simp only [execOp, ho, hxv, Instr.loadAt, Instr.sureAddr, loadVar, Sem.run_bind, run_isAgg hu, hag, Result.andThen_ok, Sem.run_pure, if_true, run_size hi]
    rw [run_loadCells hw _ (by omega)]
    rfl
  · cases hx
/-- a known package variable is read -/
theorem sound_ldg (o : Oper) (t : TypeId) (g : Nat) (d : TypeDesc) (i : TypeInfo) (ho : o.op = .load t (.global g)) (hu : P.underlying t = some d) (hi : P.info? t = some i) (hr : HR P base ι H w) (he : rowR ι env a.tmps)
    (hx : xop (readG (isAggT P t) i.size (Gl.row g)) env H k = true) : Res P base ι H w k ((execOp a.eval o).run P w) := by
  unfold readG at hx
  split at hx
  · rename_i r hg
    obtain ⟨hb, c, el, fr, hw, hok, hl, hv, h1⟩ := hr.gl g r hg
    have hev : a.eval (.global g) = .pointer (some ⟨g, 0, none⟩) := rfl
    cases hag : isAggT P t with
    | true =>
      rw [hag] at hx
      simp only [cond_true] at hx
      cases hs : Nat.beq r.len i.size with
      | false => rw [hs] at hx; cases hx
      | true =>
        rw [hs] at hx
        have hs' := Nat.eq_of_beq_eq_true hs
        rw [Rp.len_eq r hok, hl] at hs'
        refine Res.pure hr (cv := .agg c) ?_ (.agg r c hok hl (hv ι) h1) hx
        simp only [execOp, ho, hev, Instr.loadAt, Instr.sureAddr, loadVar, Sem.run_bind, run_isAgg hu, hag, Result.andThen_ok, Sem.run_pure, if_true, run_size hi]
        rw [run_loadCells hw _ (by omega)]
        simp [← hs']
    | false =>
      rw [hag] at hx
      simp only [cond_false] at hx
      split at hx
      · rename_i v hv'
        rw [Rp.get_eq r hok] at hv'
        have hlt : 0 < r.toL.length := (List.getElem?_eq_some_iff.1 hv').1
        have h2 := hv ι 0
        rw [List.getD_eq_getElem?_getD, hv'] at h2
        refine Res.pure hr (cv := c.getD 0 Go.undef) ?_ h2 hx
        simp only [execOp, ho, hev, Instr.loadAt, Instr.sureAddr, loadVar, Sem.run_bind, run_isAgg hu, hag, Result.andThen_ok, Sem.run_pure, Bool.false_eq_true, if_false]
        rw [run_load1 hw (by omega)]
        rfl
      · cases hx
  · cases hx
/-- a row of cells put into a block -/
theorem OR_put {L : Loc} {c r : Rp AV} {cc cc' vs : Array Value} {st ro : Bool} {el : TypeId} {fr : Nat × Nat} {off : Nat} (h : OR P base ι L (.cells c st ro) (.cells cc el fr)) (hr : cellsR ι r vs) (hn : off + vs.size ≤ c.toL.length)
    (hs : cc'.size = cc.size) (hg : ∀ j, cc'.getD j Go.undef = if L.sh + off ≤ j ∧ j < L.sh + off + vs.size then vs.getD (j - (L.sh + off)) Go.undef else cc.getD j Go.undef) {c' : Rp AV} (hc' : c'.ok)
    (ht : c'.toL = c.toL.take off ++ (r.toL ++ c.toL.drop (off + vs.size))) : OR P base ι L (.cells c' st ro) (.cells cc' el fr) := by
  cases h with
  | cells _ _ _ _ _ _ hok hz hl hc h1 hf hs' hro =>
  have hlen : c'.toL.length = c.toL.length := by rw [ht]; simp [hr.2.1]; omega
  refine .cells c' st ro cc' el fr hc' (by rw [hs, hz]) (by rw [hlen]; exact hl) (fun i hi => ?_) (fun i hi hri => ?_) (by rw [hs, hlen]; exact hf) hs' hro
  · rw [hg, ht]
    simp only [List.getD_eq_getElem?_getD]
    by_cases h1 : i < off
    · rw [if_neg (by omega), List.getElem?_append_left (by simp; omega), List.getElem?_take_of_lt h1, ← List.getD_eq_getElem?_getD]
      exact hc i (by omega)
    · by_cases h2 : i < off + vs.size
      · rw [if_pos (by omega), List.getElem?_append_right (by simp; omega), List.getElem?_append_left (by simp [hr.2.1]; omega), ← List.getD_eq_getElem?_getD]
        have e1 : L.sh + i - (L.sh + off) = i - off := by omega
        have e2 : i - (c.toL.take off).length = i - off := by simp; omega
        rw [e1, e2]
        exact hr.2.2.1 _
      · rw [if_neg (by omega), List.getElem?_append_right (by simp; omega), List.getElem?_append_right (by simp [hr.2.1]; omega), List.getElem?_drop, ← List.getD_eq_getElem?_getD]
        have e1 : off + vs.size + (i - (c.toL.take off).length - r.toL.length) = i := by simp [hr.2.1]; omega
        rw [e1]
        exact hc i (by omega)
  · rw [hg]
    split
    · exact hr.2.2.2 _ (by omega)
    · exact h1 i (by omega) (by rw [hlen] at hri; exact hri)
/-- the model's store of a row of cells, and the abstract one -/
theorem putRow (hr : HR P base ι H w) {b off : Nat} {c r : Rp AV} {st : Bool} {L : Loc} {vs : Array Value} (hb : H.get b = some (.cells c st false)) (hL : ι b = some L) (hrow : cellsR ι r vs) (hn : off + vs.size ≤ c.toL.length) {c' : Rp AV} (hc' : c'.ok)
    (ht : c'.toL = c.toL.take off ++ (r.toL ++ c.toL.drop (off + vs.size))) :
    ∃ w', (storeCells ⟨L.blk, L.sh + off, none⟩ vs.toList).run P w = .ok () w' ∧ Nx P base ι H w ι (H.set b (.cells c' st false)) w' := by
  obtain ⟨cc, el, fr, hw, hor⟩ := hr.cells hb hL
  have hor' := hor
  cases hor' with
  | cells _ _ _ _ _ _ hok hz hl hc h1 hf hs hro =>
  obtain ⟨w', cc', hrun, hup, hsz, hg⟩ := run_storeCells (P := P) (off := L.sh + off) vs.toList 0 cc w hw (fun v hv => by
    obtain ⟨j, hj, rfl⟩ := List.getElem_of_mem hv
    have := hrow.2.2.2 j (by simpa using hj)
    simpa [show j < vs.size by simpa using hj] using this) (by simp; omega) (fun o ho => hf o ho (.inl rfl))
  refine ⟨w', hrun, hr.updNx hb hL hup (OR_put hor hrow hn hsz (fun j => ?_) hc' ht) (hro rfl)⟩
  rw [hg j]
  simp
theorem sound_st (o : Oper) (t : TypeId) (x y : Operand) (i : TypeInfo) (ho : o.op = .store t x y) (hi : P.info? t = some i) (hr : HR P base ι H w) (he : rowR ι env a.tmps)
    (hx : xop (.st i.size (od x) (od y)) env H k = true) : Res P base ι H w k ((execOp a.eval o).run P w) := by
  simp only [xop] at hx
  have hv := ev_sound he x
  have hu := ev_sound he y
  generalize hxv : a.eval x = xv at hv
  generalize hyv : a.eval y = yv at hu
  split at hx
  · rename_i b off e
    rw [e] at hv
    obtain ⟨L, hL, rfl⟩ := hv.ptr_inv
    obtain ⟨c, st, ro, hb, hx⟩ := gcell_inv hx
    obtain ⟨hro, hx⟩ := cond_false_inv hx
    subst hro
    have hok : c.ok := by
      obtain ⟨cc, el, fr, hw, hor⟩ := hr.cells hb hL
      cases hor; assumption
    have run : ∀ w', yv.cells.size = i.size → (storeCells ⟨L.blk, L.sh + off, none⟩ yv.cells.toList).run P w = .ok () w' → (execOp a.eval o).run P w = .ok .skip w' := fun w' hs h => by
      simp only [execOp, ho, hxv, hyv, Instr.storeAt, Instr.sureAddr, storeVar, Sem.run_bind, Sem.run_pure, Result.andThen_ok, run_size hi, hs]
      simp [h]
    split at hx
    · rename_i r er
      rw [er] at hu
      obtain ⟨vs, rfl, hrow⟩ := hu.agg_inv
      obtain ⟨h1, hx⟩ := cond_true_inv hx
      obtain ⟨h2, hx⟩ := cond_true_inv hx
      have h1' := Nat.eq_of_beq_eq_true h1
      have h2' := Nat.le_of_ble_eq_true h2
      rw [Rp.len_eq r hrow.1, hrow.2.1] at h1'
      rw [Rp.len_eq c hok] at h2'
      obtain ⟨o1, e1⟩ := Rp.put_spec c off i.size r hok hrow.1 (by rw [hrow.2.1]; exact h1') h2'
      obtain ⟨w', hw', hnx⟩ := putRow (P := P) (off := off) hr hb hL hrow (by rw [h1']; exact h2') o1 (by rw [e1, h1'])
      exact ⟨.undef, _, _, _, w', run w' h1' hw', hnx, .undef _, hx⟩
    · obtain ⟨h0, hx⟩ := cond_true_inv hx
      obtain ⟨h1, hx⟩ := cond_true_inv hx
      obtain ⟨h2, hx⟩ := cond_true_inv hx
      have h1' := Nat.eq_of_beq_eq_true h1
      have h2' := Nat.le_of_ble_eq_true h2
      rw [Rp.len_eq c hok] at h2'
      have hrow := cellsR_one hu h0
      have hcs := hu.sc_cells h0
      obtain ⟨o1, e1⟩ := Rp.set_spec c off (ev env (od y)) hok
      obtain ⟨w', hw', hnx⟩ := putRow (P := P) (off := off) hr hb hL hrow (by simpa using h2') o1 (by
        rw [e1]
        simp only [Rp.toL_one, List.size_toArray, List.length_cons, List.length_nil, Nat.zero_add, List.singleton_append]
        rw [List.set_eq_take_append_cons_drop, if_pos (by omega)])
      exact ⟨.undef, _, _, _, w', run w' (by rw [hcs]; simpa using h1'.symm) (by rw [hcs]; exact hw'), hnx, .undef _, hx⟩
  · cases hx
end
end Go.Jt
set_option autoImplicit false
set_option linter.all false
namespace Go.Jt
open Go.RowKit (Below)
variable [Gl]

theorem foldl_set (vs : List Value) : ∀ (off s : Nat) (c : Array Value), off + s + vs.length ≤ c.size →
    ((vs.zipIdx s).foldl (fun cs (x : Value × Nat) => cs.setIfInBounds (off + x.2) x.1) c).size = c.size ∧
    ∀ j, ((vs.zipIdx s).foldl (fun cs (x : Value × Nat) => cs.setIfInBounds (off + x.2) x.1) c).getD j Go.undef = if off + s ≤ j ∧ j < off + s + vs.length then vs.getD (j - (off + s)) Go.undef else c.getD j Go.undef := by
  induction vs with
  | nil => intro off s c _; exact ⟨rfl, fun j => by rw [if_neg (by simp only [List.length_nil]; omega)]; rfl⟩
  | cons v vs ih =>
    intro off s c h
    simp only [List.length_cons] at h
    simp only [List.zipIdx_cons, List.foldl_cons]
    obtain ⟨h1, h2⟩ := ih off (s + 1) (c.setIfInBounds (off + s) v) (by simp; omega)
    refine ⟨by rw [h1]; simp, fun j => ?_⟩
    rw [h2 j]
    simp only [List.length_cons]
    by_cases hj : j = off + s
    · subst hj
      rw [if_neg (by omega), if_pos (by omega)]
      simp [show off + s < c.size by omega]
    · by_cases hj2 : off + (s + 1) ≤ j ∧ j < off + (s + 1) + vs.length
      · rw [if_pos hj2, if_pos (by omega)]
        obtain ⟨k, hk⟩ : ∃ k, j - (off + s) = k + 1 := ⟨j - (off + s) - 1, by omega⟩
        rw [hk, List.getD_cons_succ]
        congr 1; omega
      · rw [if_neg hj2, if_neg (by omega)]
        simp only [Array.getD_eq_getD_getElem?]
        rw [Array.getElem?_setIfInBounds, if_neg (by omega)]

section
variable {P : Program} {base : Nat} {ι : Io} {H : AH} {w : World} {k : AV → AH → Bool} {env : Env} {a : Act}

/-- a row of cells with a part of it put in -/
theorem cellsR_put {z r : Rp AV} {zc vs zc' : Array Value} {off : Nat} (hz : cellsR ι z zc) (hr : cellsR ι r vs) (hn : off + vs.size ≤ zc.size)
    (hs : zc'.size = zc.size) (hg : ∀ j, zc'.getD j Go.undef = if off ≤ j ∧ j < off + vs.size then vs.getD (j - off) Go.undef else zc.getD j Go.undef) {z' : Rp AV} (hz' : z'.ok)
    (ht : z'.toL = z.toL.take off ++ (r.toL ++ z.toL.drop (off + vs.size))) : cellsR ι z' zc' := by
  have hl := hz.2.1
  have hlen : z'.toL.length = zc.size := by rw [ht]; simp [hr.2.1]; omega
  refine ⟨hz', by rw [hlen, hs], fun i => ?_, fun i hi => ?_⟩
  · rw [hg, ht]
    simp only [List.getD_eq_getElem?_getD]
    by_cases h1 : i < off
    · rw [if_neg (by omega), List.getElem?_append_left (by simp; omega), List.getElem?_take_of_lt h1, ← List.getD_eq_getElem?_getD]
      exact hz.2.2.1 i
    · by_cases h2 : i < off + vs.size
      · rw [if_pos (by omega), List.getElem?_append_right (by simp; omega), List.getElem?_append_left (by simp [hr.2.1]; omega), ← List.getD_eq_getElem?_getD]
        have e2 : i - (z.toL.take off).length = i - off := by simp; omega
        rw [e2]
        exact hr.2.2.1 _
      · rw [if_neg (by omega), List.getElem?_append_right (by simp; omega), List.getElem?_append_right (by simp [hr.2.1]; omega), List.getElem?_drop, ← List.getD_eq_getElem?_getD]
        have e1 : off + vs.size + (i - (z.toL.take off).length - r.toL.length) = i := by simp [hr.2.1]; omega
        rw [e1]
        exact hz.2.2.1 i
  · rw [hg]
    split
    · exact hr.2.2.2 _ (by omega)
    · exact hz.2.2.2 i (by omega)
theorem fill_sound (he : rowR ι env a.tmps) (pl : Nat → Option (Nat × Nat)) (K : Rp AV → Bool) (ps : List (Nat × Operand)) : ∀ (l : List (Nat × Nat × Od)) (z : Rp AV) (zc : Array Value), parts pl ps = some l → cellsR ι z zc → fillIn env z l K = true →
    ∃ r c, Instr.fill pl zc (ps.map fun p => (p.1, a.eval p.2)) = some c ∧ cellsR ι r c ∧ c.size = zc.size ∧ K r = true := by
  induction ps with
  | nil =>
    intro l z zc hp hz hf
    simp only [parts] at hp
    cases hp
    exact ⟨z, zc, rfl, hz, rfl, hf⟩
  | cons p ps ih =>
    intro l z zc hp hz hf
    obtain ⟨i, x⟩ := p
    simp only [parts] at hp
    split at hp
    · rename_i off n r h1 h2
      cases hp
      have hf' : (match ev env (od x) with
        | .agg r' => cond (Nat.beq r'.len n) (cond (Nat.ble (off + n) z.len) (fillIn env (z.put off n r') r K) false) false
        | v => cond v.sc (cond (Nat.beq n 1) (cond (Nat.ble (off + 1) z.len) (fillIn env (z.set off v) r K) false) false) false) = true := hf
      have hv := ev_sound he x
      generalize hxv : a.eval x = xv at hv
      have hlz : z.len = zc.size := by rw [Rp.len_eq z hz.1]; exact hz.2.1
      have step : ∀ (z' : Rp AV) (vs : Array Value), xv.cells = vs → vs.size = n → off + n ≤ zc.size → (∀ zc' : Array Value, zc'.size = zc.size → (∀ j, zc'.getD j Go.undef = if off ≤ j ∧ j < off + vs.size then vs.getD (j - off) Go.undef else zc.getD j Go.undef) → cellsR ι z' zc') → fillIn env z' r K = true →
          ∃ r c, Instr.fill pl zc (((i, x) :: ps).map fun p => (p.1, a.eval p.2)) = some c ∧ cellsR ι r c ∧ c.size = zc.size ∧ K r = true := by
        intro z' vs hc hn hle hcr hK
        obtain ⟨g1, g2⟩ := foldl_set vs.toList off 0 zc (by simp; omega)
        obtain ⟨r', c', e1, e2, e3, e4⟩ := ih r z' _ h2 (hcr _ g1 (fun j => by rw [g2 j]; simp)) hK
        refine ⟨r', c', ?_, e2, by rw [e3, g1], e4⟩
        simp only [List.map_cons, Instr.fill, h1, hxv, hc]
        have hcond : ¬ ((decide (vs.size ≠ n) || decide (off + vs.size > zc.size)) = true) := by simp; omega
        rw [if_neg hcond]
        rw [← e1]
        congr 1
        rw [← Array.foldl_toList]
        simp
      split at hf'
      · rename_i r' er
        rw [er] at hv
        obtain ⟨vs, rfl, hrow⟩ := hv.agg_inv
        obtain ⟨b1, hf'⟩ := cond_true_inv hf'
        obtain ⟨b2, hf'⟩ := cond_true_inv hf'
        have b1' := Nat.eq_of_beq_eq_true b1
        have b2' := Nat.le_of_ble_eq_true b2
        rw [Rp.len_eq r' hrow.1, hrow.2.1] at b1'
        rw [hlz] at b2'
        obtain ⟨o1, e1⟩ := Rp.put_spec z off n r' hz.1 hrow.1 (by rw [hrow.2.1]; exact b1') (by rw [hz.2.1]; exact b2')
        exact step _ vs rfl b1' b2' (fun zc' s1 s2 => cellsR_put hz hrow (by omega) s1 s2 o1 (by rw [e1, b1'])) hf'
      · obtain ⟨b0, hg1⟩ := cond_true_inv hf'
        obtain ⟨b1, hg2⟩ := cond_true_inv hg1
        obtain ⟨b2, hg3⟩ := cond_true_inv hg2
        have b1' := Nat.eq_of_beq_eq_true b1
        have b2' := Nat.le_of_ble_eq_true b2
        rw [hlz] at b2'
        subst b1'
        have hrow := cellsR_one hv b0
        obtain ⟨o1, e1⟩ := Rp.set_spec z off (ev env (od x)) hz.1
        refine step _ #[xv] (hv.sc_cells b0) rfl b2' (fun zc' s1 s2 => cellsR_put hz hrow (by simpa using b2') s1 s2 o1 ?_) hg3
        rw [e1]
        simp only [Rp.toL_one, List.size_toArray, List.length_cons, List.length_nil, Nat.zero_add, List.singleton_append]
        rw [List.set_eq_take_append_cons_drop, if_pos (by rw [hz.2.1]; omega)]
    · cases hp
theorem map_pairs (ps : Array (Nat × Operand)) : (ps.map fun (i, x) => (i, a.eval x)).toList = ps.toList.map fun p => (p.1, a.eval p.2) := by simp
theorem sound_build (o : Oper) (t : TypeId) (ps : Array (Nat × Operand)) (ho : o.op = .build t ps) (hr : HR P base ι H w) (he : rowR ι env a.tmps) (hx : xop (compOp P o) env H k = true) :
    Res P base ι H w k ((execOp a.eval o).run P w) := by
  simp only [compOp, ho] at hx
  have fin : ∀ (pl : Nat → Option (Nat × Nat)) (z : Rp AV) (l : List (Nat × Nat × Od)), zeroRow P t = some z → parts pl ps.toList = some l → xop (.build z l) env H k = true →
      (∀ (it : TypeInfo) (zv : Value) c, P.info? t = some it → it.zero = some zv → Instr.fill pl zv.cells (ps.toList.map fun p => (p.1, a.eval p.2)) = some c → P.built t (ps.map fun (i, x) => (i, a.eval x)).toList = some c) →
      Res P base ι H w k ((execOp a.eval o).run P w) := by
    intro pl z l hz hp hx hb
    simp only [xop] at hx
    obtain ⟨it, zv, hi, hzv, hc⟩ := cellsR_zero ι hz
    obtain ⟨r, c, e1, e2, _, e3⟩ := fill_sound he pl _ ps.toList l z zv.cells hp hc hx
    have := run_build w t _ c (hb it zv c hi hzv e1)
    exact Res.pure hr (cv := .agg c) (by simp only [execOp, ho]; rw [Sem.run_bind, this]; rfl) e2.agg e3
  split at hx
  · rename_i fs z hu hz
    split at hx
    · rename_i pl hpl
      split at hx
      · rename_i l hl
        refine fin _ z l hz hl hx (fun it zv c hi hzv hf => ?_)
        unfold Program.built
        rw [hi, hu]
        simp only [hzv, hpl]
        rw [map_pairs]
        exact hf
      · simp only [xop] at hx; cases hx
    · simp only [xop] at hx; cases hx
  · rename_i n e z hu hz
    split at hx
    · rename_i ie hie
      split at hx
      · rename_i l hl
        refine fin _ z l hz hl hx (fun it zv c hi hzv hf => ?_)
        unfold Program.built
        rw [hi, hu]
        simp only [hzv, hie]
        rw [map_pairs]
        exact hf
      · simp only [xop] at hx; cases hx
    · simp only [xop] at hx; cases hx
  · simp only [xop] at hx; cases hx

/-! ### rows of zeros -/
theorem rpt_spec (n : Nat) (z : Rp AV) (hz : z.ok) : (rpt n z).ok ∧ (rpt n z).toL = (List.replicate n z.toL).flatten := by
  induction n with
  | zero => exact ⟨trivial, rfl⟩
  | succ n ih =>
    obtain ⟨o, e⟩ := Rp.app_spec z (rpt n z) hz ih.1
    exact ⟨o, by show (z.app (rpt n z)).toL = _; rw [e, ih.2]; simp [List.replicate_succ]⟩
theorem zeros_spec (n : Nat) (z : Rp AV) (hz : z.ok) : (zeros n z).ok ∧ (zeros n z).toL = (List.replicate n z.toL).flatten := by
  unfold zeros
  split
  · refine ⟨trivial, ?_⟩
    simp only [Rp.toL_rep, Rp.toL_one]
    induction n with
    | zero => rfl
    | succ n ih => rw [List.replicate_succ, ih]; simp [List.replicate_succ]
  · exact rpt_spec n z hz
theorem flat_len (n : Nat) (l : List AV) : (List.replicate n l).flatten.length = n * l.length := by
  induction n with
  | zero => simp
  | succ n ih => simp [List.replicate_succ, Nat.add_mul]; omega
theorem flat_get (l : List AV) (n : Nat) : ∀ i, i < n * l.length → (List.replicate n l).flatten.getD i .undef = l.getD (i % l.length) .undef := by
  induction n with
  | zero => intro i h; simp at h
  | succ n ih =>
    intro i h
    rw [Nat.succ_mul] at h
    rw [List.replicate_succ, List.flatten_cons]
    simp only [List.getD_eq_getElem?_getD] at ih ⊢
    by_cases hi : i < l.length
    · rw [List.getElem?_append_left hi, Nat.mod_eq_of_lt hi]
    · rw [List.getElem?_append_right (by omega), ih (i - l.length) (by omega), ← Nat.mod_eq_sub_mod (by omega)]
theorem cellsR_zeros {z : Rp AV} {zc : Array Value} (hz : cellsR ι z zc) (hpos : 0 < zc.size) (n : Nat) : cellsR ι (zeros n z) ((Array.range (n * zc.size)).map fun i => zc[i % zc.size]!) := by
  obtain ⟨o, e⟩ := zeros_spec n z hz.1
  have hget : ∀ i, i < n * zc.size → ((Array.range (n * zc.size)).map fun i => zc[i % zc.size]!).getD i Go.undef = zc.getD (i % zc.size) Go.undef := fun i hi => by
    have hm : i % zc.size < zc.size := Nat.mod_lt _ hpos
    simp [hi, hm]
  refine ⟨o, by rw [e, flat_len, hz.2.1]; simp, fun i => ?_, fun i hi => ?_⟩
  · by_cases hi : i < n * zc.size
    · rw [hget i hi, e, flat_get _ _ _ (by rw [hz.2.1]; exact hi), hz.2.1]
      exact hz.2.2.1 _
    · rw [getD_over _ _ (by rw [e, flat_len, hz.2.1]; omega)]
      exact .undef _
  · have hi' : i < n * zc.size := by simpa using hi
    rw [hget i hi']
    exact hz.2.2.2 _ (Nat.mod_lt _ hpos)
theorem sound_bsl (o : Oper) (t : TypeId) (n : Nat) (ps : Array (Nat × Operand)) (ho : o.op = .buildSlice t n ps) (hr : HR P base ι H w) (he : rowR ι env a.tmps) (hx : xop (compOp P o) env H k = true) :
    Res P base ι H w k ((execOp a.eval o).run P w) := by
  simp only [compOp, ho] at hx
  split at hx
  · rename_i e hu
    split at hx
    · rename_i z ie hz hie
      split at hx
      · rename_i l hl
        cases h1 : Nat.beq z.len ie.size with
        | false => rw [h1] at hx; simp only [cond_false, xop] at hx; cases hx
        | true =>
          rw [h1] at hx
          cases h2 : Nat.beq z.len 0 with
          | true => rw [h2] at hx; simp only [cond_true, xop] at hx; cases hx
          | false =>
            rw [h2] at hx
            cases h3 : Nat.ble (n * ie.size) 16777216 with
            | false => rw [h3] at hx; simp only [cond_true, cond_false, xop] at hx; cases hx
            | true =>
              rw [h3] at hx
              simp only [cond_true, cond_false, xop] at hx
              obtain ⟨it, zv, hi, hzv, hc⟩ := cellsR_zero ι hz
              rw [hie] at hi
              cases hi
              have e1 : zv.cells.size = ie.size := by rw [← hc.2.1, ← Rp.len_eq z hc.1]; exact Nat.eq_of_beq_eq_true h1
              have e2 : ie.size ≠ 0 := by rw [← Nat.eq_of_beq_eq_true h1]; exact beq_false_of_not h2
              have e3 := Nat.le_of_ble_eq_true h3
              obtain ⟨r, c, f1, f2, f3, f4⟩ := fill_sound he _ _ ps.toList l _ _ hl (cellsR_zeros hc (by omega) n) hx
              obtain ⟨ob, f, e, hk⟩ := alc_inv f4
              cases e
              have hrun : (execOp a.eval o).run P w = .ok (.value (.slice (some ⟨w.heap.size, 0, none⟩) n n)) (w.alloc (.cells c e)) := by
                simp only [execOp, ho, Instr.buildSlice, Sem.run_bind, run_und hu, Result.andThen_ok, run_size hie]
                rw [if_neg (by omega)]
                by_cases h0 : n * ie.size = 0
                · simp only [h0, if_true, Sem.run_bind, Sem.run_pure, Result.andThen_ok]
                  have e0 : ((Array.range 0).map fun i => (#[] : Array Value)[i % (#[] : Array Value).size]!) = (Array.range (n * zv.cells.size)).map fun i => zv.cells[i % zv.cells.size]! := by
                    rw [e1, h0]; simp
                  rw [e0, map_pairs, f1]
                  simp [run_newRow]
                · simp only [h0, if_false, Sem.run_bind, run_zero hie hzv, Result.andThen_ok, Sem.run_pure]
                  rw [← e1] at f1 ⊢
                  rw [map_pairs, f1]
                  simp [run_newRow]
              refine Res.newCells hr f2 e hrun ?_ hk
              have := VR.slc (ι := ι.ext H.n ⟨w.heap.size, 0, c.size⟩) H.n 0 n n ⟨w.heap.size, 0, c.size⟩ (Io.ext_self _ _ _) (Nat.le_refl _)
              exact this
      · simp only [xop] at hx; cases hx
    · simp only [xop] at hx; cases hx
  · simp only [xop] at hx; cases hx
end
end Go.Jt
set_option autoImplicit false
set_option linter.all false
namespace Go.Jt
open Go.RowKit (Below)
variable [Gl]

section
variable {P : Program} {base : Nat} {ι : Io} {H : AH} {w : World} {k : AV → AH → Bool} {env : Env} {a : Act}

theorem cellsR.sub {r : Rp AV} {c : Array Value} (h : cellsR ι r c) {off n : Nat} (hn : off + n ≤ c.size) : cellsR ι (r.sub off n) (c.extract off (off + n)) := by
  have := cellsR_sub (ι := ι) (L := ⟨0, 0, c.size⟩) (off := off) (n := n) (cc := c) h.1 (by simp [h.2.1]) (fun i _ => by simpa using h.2.2.1 i) (ro := false) (fun i hi _ => h.2.2.2 i hi) (by rw [h.2.1]; exact hn)
  simpa using this
theorem lt_of_ble_false {a b : Nat} (h : Nat.ble a b = false) : b < a := by
  rcases Nat.lt_or_ge b a with h' | h'
  · exact h'
  · rw [Nat.ble_eq_true_of_le h'] at h; cases h
/-- one part of a row of cells -/
theorem part_sound {r : Rp AV} {c : Array Value} (h : cellsR ι r c) {t : TypeId} {d : TypeDesc} {i : TypeInfo} (hu : P.underlying t = some d) (hi : P.info? t = some i) {off : Nat} {K : AV → Bool}
    (hx : cond (isAggT P t) (cond (Nat.ble (off + i.size) r.len) (K (.agg (r.sub off i.size))) false) (match r.get off with
      | some v => K v
      | none => false) = true) : ∃ v cv, (part t c off).run P w = .ok cv w ∧ VR ι v cv ∧ K v = true := by
  cases hag : isAggT P t with
  | true =>
    rw [hag] at hx
    obtain ⟨h1, h2⟩ := cond_true_inv hx
    have h1' := Nat.le_of_ble_eq_true h1
    rw [Rp.len_eq r h.1, h.2.1] at h1'
    exact ⟨_, .agg (c.extract off (off + i.size)), by simp [part, run_isAgg hu, hag, run_size hi], (h.sub h1').agg, h2⟩
  | false =>
    rw [hag] at hx
    simp only [cond_false] at hx
    rw [Rp.get_eq r h.1] at hx
    split at hx
    · rename_i v hv
      have hlt : off < r.toL.length := (List.getElem?_eq_some_iff.1 hv).1
      have h2 := h.2.2.1 off
      rw [List.getD_eq_getElem?_getD, hv] at h2
      have e2 := getD_in c off (by rw [← h.2.1]; exact hlt)
      generalize c.getD off Go.undef = cv at h2 e2
      exact ⟨v, cv, by simp [part, run_isAgg hu, hag, e2], h2, hx⟩
    · cases hx
theorem sound_fld (o : Oper) (t : TypeId) (x : Operand) (j : Nat) (fs : Array Field) (f : Field) (i : TypeInfo) (d : TypeDesc) (ho : o.op = .field t x j) (ht : P.underlying t = some (.struct fs)) (hj : fs[j]? = some f) (hi : P.info? f.type = some i)
    (hu : P.underlying f.type = some d) (hr : HR P base ι H w) (he : rowR ι env a.tmps) (hx : xop (.fld f.offset i.size (isAggT P f.type) (od x)) env H k = true) : Res P base ι H w k ((execOp a.eval o).run P w) := by
  simp only [xop] at hx
  have hv := ev_sound he x
  generalize hxv : a.eval x = xv at hv
  split at hx
  · rename_i r e
    rw [e] at hv
    obtain ⟨c, rfl, hc⟩ := hv.agg_inv
    obtain ⟨v, cv, h1, h2, h3⟩ := part_sound (w := w) hc hu hi (K := fun v => k v H) hx
    refine Res.pure hr (cv := cv) ?_ h2 h3
    simp [execOp, ho, hxv, Instr.field, run_und ht, hj, asAgg, h1]
  · cases hx
theorem sound_iag (o : Oper) (t : TypeId) (x y : Operand) (n : Nat) (e : TypeId) (i : TypeInfo) (d : TypeDesc) (ho : o.op = .index t x y) (ht : P.underlying t = some (.array n e)) (hi : P.info? e = some i) (hu : P.underlying e = some d)
    (hr : HR P base ι H w) (he : rowR ι env a.tmps) (hx : xop (.iag n i.size (isAggT P e) (od x) (od y)) env H k = true) : Res P base ι H w k ((execOp a.eval o).run P w) := by
  simp only [xop] at hx
  have hv := ev_sound he x
  have hw := ev_sound he y
  generalize hxv : a.eval x = xv at hv
  generalize hyv : a.eval y = yv at hw
  split at hx
  · rename_i r q m e1 e2
    rw [e1] at hv
    rw [e2] at hw
    obtain ⟨c, rfl, hc⟩ := hv.agg_inv
    have := hw.int_inv
    subst this
    obtain ⟨hn, hx⟩ := cond_false_inv hx
    have hlt := lt_of_ble_false hn
    obtain ⟨v, cv, h1, h2, h3⟩ := part_sound (w := w) hc hu hi (K := fun v => k v H) hx
    refine Res.pure hr (cv := cv) ?_ h2 h3
    have hb : (0 : Int) ≤ Int.ofNat m ∧ (Int.ofNat m : Int) < (n : Int) := ⟨Int.natCast_nonneg m, by show (m : Int) < n; omega⟩
    simp only [execOp, ho, hxv, hyv, Instr.index, Sem.run_bind, run_und ht, asIntOf, Sem.run_pure, Result.andThen_ok]
    rw [if_pos hb]
    simp only [Sem.run_bind, run_size hi, Result.andThen_ok]
    have : (Int.ofNat m).toNat = m := rfl
    rw [this, h1]
    rfl
  · cases hx
theorem sound_ist (o : Oper) (t : TypeId) (x y : Operand) (ho : o.op = .index t x y) (ht : P.underlying t = some .string)
    (hr : HR P base ι H w) (he : rowR ι env a.tmps) (hx : xop (.ist (od x) (od y)) env H k = true) : Res P base ι H w k ((execOp a.eval o).run P w) := by
  simp only [xop] at hx
  have hv := ev_sound he x
  have hw := ev_sound he y
  generalize hxv : a.eval x = xv at hv
  generalize hyv : a.eval y = yv at hw
  split at hx
  · rename_i s q m e1 e2
    rw [e1] at hv
    rw [e2] at hw
    obtain ⟨b, rfl, rfl⟩ := hv.str_inv
    have := hw.int_inv
    subst this
    split at hx
    · rename_i c hc
      rw [fN_eq] at hx
      have hlt : m < b.size := by have := (List.getElem?_eq_some_iff.1 hc).1; rw [bytesOf_len] at this; exact this
      have hbm : b[m]? = some b[m] := by simp [hlt]
      have hcm : c = b[m].toNat := by
        have := (List.getElem?_eq_some_iff.1 hc).2
        rw [← this]
        simp [bytesOf, ByteArray.getElem_eq_getElem_data]
      subst hcm
      refine Res.pure hr (cv := .int .u8 b[m].toNat) ?_ (.int _ _) hx
      simp [execOp, ho, hxv, hyv, Instr.index, run_und ht, asIntOf, hbm]
    · cases hx
  · cases hx

/-! ### slice expressions -/
theorem isOd_inv {o : Option Operand} {dflt : Nat} {K : Nat → Bool} (he : rowR ι env a.tmps) (h : isOd (o.map od) env dflt K = true) :
    ∃ n, K n = true ∧ (o = none ∧ n = dflt ∨ ∃ x q, o = some x ∧ a.eval x = .int q (n : Int)) := by
  cases o with
  | none => exact ⟨dflt, h, .inl ⟨rfl, rfl⟩⟩
  | some x =>
    simp only [Option.map_some, isOd] at h
    have hv := ev_sound he x
    split at h
    · rename_i q n e
      rw [e] at hv
      rw [fN_eq] at h
      exact ⟨n, h, .inr ⟨x, q, rfl, hv.int_inv⟩⟩
    · cases h
theorem run_bound {x : Value} {q : IntKind} {n y : Nat} {code : BoundsCode} (hx : x = .int q (n : Int)) (h : n ≤ y) : (Instr.sliceBound x y code).run P w = .ok n w := by
  subst hx
  unfold Instr.sliceBound
  simp only [asIntOf, Sem.run_bind, Sem.run_pure, Result.andThen_ok]
  rw [if_pos (by omega)]
  simp
theorem cut3_sound {len c0 cap : Nat} {lo hi mx : Option Operand} {K : Nat → Nat → Nat → Bool} (isS : Bool) (he : rowR ι env a.tmps) (hc : c0 ≤ cap) (hlen : len ≤ cap) (h : cut3 env len c0 (lo.map od) (hi.map od) (mx.map od) K = true) :
    ∃ l h m m', (Instr.sliceBounds isS len cap (lo.map a.eval) (hi.map a.eval) (mx.map a.eval)).run P w = .ok (l, h, m') w ∧ K l h m = true ∧ l ≤ h ∧ h ≤ m ∧ m ≤ c0 ∧ (mx = none → m = c0 ∧ m' = cap) ∧ (mx ≠ none → m' = m) := by
  unfold cut3 at h
  obtain ⟨m, h, hm⟩ := isOd_inv he h
  obtain ⟨h1, h⟩ := cond_true_inv h
  have h1' := Nat.le_of_ble_eq_true h1
  have key : ∀ (h : isOd (hi.map od) env len (fun h => cond (Nat.ble h m) (isOd (lo.map od) env 0 fun l => cond (Nat.ble l h) (K l h m) false) false) = true) , (hi = none → mx = none) →
      ∃ l h m m', (Instr.sliceBounds isS len cap (lo.map a.eval) (hi.map a.eval) (mx.map a.eval)).run P w = .ok (l, h, m') w ∧ K l h m = true ∧ l ≤ h ∧ h ≤ m ∧ m ≤ c0 ∧ (mx = none → m = c0 ∧ m' = cap) ∧ (mx ≠ none → m' = m) := by
    intro h hmx
    obtain ⟨h', hh, hh2⟩ := isOd_inv he h
    obtain ⟨h3, hh⟩ := cond_true_inv hh
    have h3' := Nat.le_of_ble_eq_true h3
    obtain ⟨l, hl, hl2⟩ := isOd_inv he hh
    obtain ⟨h4, hl⟩ := cond_true_inv hl
    have h4' := Nat.le_of_ble_eq_true h4
    rcases hm with ⟨rfl, rfl⟩ | ⟨xm, qm, rfl, em⟩
    · refine ⟨l, h', m, cap, ?_, hl, h4', h3', h1', fun _ => ⟨rfl, rfl⟩, fun e => absurd rfl e⟩
      rcases hh2 with ⟨rfl, rfl⟩ | ⟨xh, qh, rfl, eh⟩ <;> rcases hl2 with ⟨rfl, rfl⟩ | ⟨xl, ql, rfl, el⟩
      · simp [Instr.sliceBounds]
      · simp [Instr.sliceBounds, run_bound (P := P) (w := w) el h4']
      · simp [Instr.sliceBounds, run_bound (P := P) (w := w) eh (show h' ≤ cap by omega)]
      · simp [Instr.sliceBounds, run_bound (P := P) (w := w) eh (show h' ≤ cap by omega), run_bound (P := P) (w := w) el h4']
    · refine ⟨l, h', m, m, ?_, hl, h4', h3', h1', fun e => (by cases e), fun _ => rfl⟩
      rcases hh2 with ⟨rfl, rfl⟩ | ⟨xh, qh, rfl, eh⟩
      · exact absurd (hmx rfl) (by simp)
      · rcases hl2 with ⟨rfl, rfl⟩ | ⟨xl, ql, rfl, el⟩
        · simp [Instr.sliceBounds, run_bound (P := P) (w := w) em (show m ≤ cap by omega), run_bound (P := P) (w := w) eh h3']
        · simp [Instr.sliceBounds, run_bound (P := P) (w := w) em (show m ≤ cap by omega), run_bound (P := P) (w := w) eh h3', run_bound (P := P) (w := w) el h4']
  cases hi with
  | none =>
    cases mx with
    | none => exact key h (fun _ => rfl)
    | some x => simp only [Option.map_none, Option.map_some] at h; cases h
  | some y =>
    refine key ?_ (fun e => by cases e)
    cases mx <;> exact h
theorem bytesOf_extract (s : ByteArray) (l h : Nat) : bytesOf (s.extract l h) = ((bytesOf s).drop l).take (h - l) := by
  unfold bytesOf
  rw [Lib.extract_data, List.map_take, List.map_drop]
theorem sound_sls (o : Oper) (t : TypeId) (x : Operand) (lo hi : Option Operand) (ho : o.op = .slice t x lo hi none) (ht : P.underlying t = some .string) (hr : HR P base ι H w) (he : rowR ι env a.tmps)
    (hx : xop (.sls (od x) (lo.map od) (hi.map od)) env H k = true) : Res P base ι H w k ((execOp a.eval o).run P w) := by
  simp only [xop] at hx
  have hv := ev_sound he x
  generalize hxv : a.eval x = xv at hv
  split at hx
  · rename_i s e
    rw [e] at hv
    obtain ⟨b, rfl, rfl⟩ := hv.str_inv
    rw [fN_eq, llen_eq, bytesOf_len, Nat.add_zero] at hx
    obtain ⟨l, h, m, m', hrun, hk, h1, h2, h3, h4, _⟩ := cut3_sound (P := P) (w := w) (mx := none) false he (Nat.le_refl _) (Nat.le_refl _) hx
    refine Res.pure hr (cv := .string (b.extract l h)) ?_ (by rw [← bytesOf_extract]; exact .str _) hk
    have hrun' : (Instr.sliceBounds false b.size b.size (lo.map a.eval) (hi.map a.eval) none).run P w = .ok (l, h, m') w := hrun
    simp [execOp, ho, hxv, Instr.sliceAt, run_und ht, Instr.slice, hrun']
  · cases hx
theorem run_slice_slice {t e : TypeId} {i : TypeInfo} {lo hi mx : Option Value} {x : Option Addr} {len cap l h m : Nat} (ht : P.underlying t = some (.slice e)) (hi' : P.info? e = some i)
    (hb : (Instr.sliceBounds true len cap lo hi mx).run P w = .ok (l, h, m) w) :
    (Instr.sliceAt t (.slice x len cap) lo hi mx).run P w = .ok (.slice (if m = l then x else x.map (·.add (l * i.size))) (h - l) (m - l)) w := by
  simp [Instr.sliceAt, run_und ht, Instr.slice, hb, run_size hi']
theorem sound_sll (o : Oper) (t : TypeId) (x : Operand) (lo hi mx : Option Operand) (e : TypeId) (i : TypeInfo) (ho : o.op = .slice t x lo hi mx) (ht : P.underlying t = some (.slice e)) (hi' : P.info? e = some i) (hz : i.size ≠ 0) (hr : HR P base ι H w) (he : rowR ι env a.tmps)
    (hx : xop (.sll i.size (od x) (lo.map od) (hi.map od) (mx.map od)) env H k = true) : Res P base ι H w k ((execOp a.eval o).run P w) := by
  simp only [xop] at hx
  have hv := ev_sound he x
  generalize hxv : a.eval x = xv at hv
  have run : ∀ {cv : Value}, (Instr.sliceAt t xv (lo.map a.eval) (hi.map a.eval) (mx.map a.eval)).run P w = .ok cv w → (execOp a.eval o).run P w = .ok (.value cv) w := fun {cv} h => by
    simp only [execOp, ho, hxv]
    rw [Sem.run_bind, h]; rfl
  split at hx
  · rename_i ex
    rw [ex] at hv
    cases hv
    obtain ⟨l, h, m, m', hrun, hk, h1, h2, h3, h4, h5⟩ := cut3_sound (P := P) (w := w) true he (Nat.le_refl 0) (Nat.le_refl 0) hx
    have hm' : m' = 0 := by
      by_cases hmx : mx = none
      · exact (h4 hmx).2
      · rw [h5 hmx]; omega
    obtain rfl : l = 0 := by omega
    obtain rfl : h = 0 := by omega
    subst hm'
    exact Res.pure hr (run (run_slice_slice ht hi' hrun)) (by simpa using VR.nils) hk
  · rename_i b off len cap ex
    rw [ex] at hv
    cases hv with
    | slc _ _ _ _ L hL hl =>
    obtain ⟨l, h, m, m', hrun, hk, h1, h2, h3, h4, h5⟩ := cut3_sound (P := P) (w := w) true he (Nat.le_refl cap) hl hx
    have hm' : m' = m := by
      by_cases hmx : mx = none
      · rw [(h4 hmx).1, (h4 hmx).2]
      · exact h5 hmx
    subst hm'
    simp only [fN_eq] at hk
    refine Res.pure hr (run (run_slice_slice ht hi' hrun)) ?_ hk
    cases hml : Nat.beq m' l with
    | true =>
      have := Nat.eq_of_beq_eq_true hml
      subst this
      rw [if_pos rfl]
      exact .slc b off _ _ L hL (by omega)
    | false =>
      have := beq_false_of_not hml
      rw [if_neg this]
      simp only [Option.map_some, add_none, Nat.add_assoc]
      exact .slc b _ _ _ L hL (by omega)
  · rename_i b off len es ex
    rw [ex] at hv
    obtain ⟨hes, hx2⟩ := cond_true_inv hx
    clear hx
    have hes' := Nat.eq_of_beq_eq_true hes
    subst hes'
    cases hv with
    | slu _ _ _ _ cap L hL hl hep hc =>
    split at hx2
    · rename_i mm hmm
      have hmx : mx ≠ none := fun e => by subst e; cases hmm
      obtain ⟨l, h, m, m', hrun, hk, h1, h2, h3, h4, h5⟩ := cut3_sound (P := P) (w := w) true he hl hl hx2
      have hm' := h5 hmx
      subst hm'
      simp only [fN_eq] at hk
      refine Res.pure hr (run (run_slice_slice ht hi' hrun)) ?_ hk
      cases hml : Nat.beq m' l with
      | true =>
        have := Nat.eq_of_beq_eq_true hml
        subst this
        rw [if_pos rfl]
        exact .slc b off _ _ L hL (by omega)
      | false =>
        have := beq_false_of_not hml
        rw [if_neg this]
        simp only [Option.map_some, add_none, Nat.add_assoc]
        exact .slc b _ _ _ L hL (by omega)
    · rename_i hmm
      have hmx : mx = none := by cases mx with | none => rfl | some y => cases hmm
      subst hmx
      obtain ⟨c, st, ro, hb, hx3⟩ := gcell_inv hx2
      obtain ⟨cc, el, fr, hw, hor⟩ := hr.cells hb hL
      cases hor with
      | cells _ _ _ _ _ _ hok hzz hll hcc h11 hf hs hro =>
      have hcap : (c.len - off) / i.size ≤ cap := by
        rw [Rp.len_eq c hok]
        have a1 : c.toL.length - off ≤ cap * i.size := by omega
        calc (c.toL.length - off) / i.size ≤ (cap * i.size) / i.size := Nat.div_le_div_right a1
          _ = cap := Nat.mul_div_cancel _ (by omega)
      obtain ⟨l, h, m, m', hrun, hk, h1, h2, h3, h4, h5⟩ := cut3_sound (P := P) (w := w) (mx := none) true he hcap hl hx3
      obtain ⟨g1, g2⟩ := h4 rfl
      subst g1
      subst g2
      have hlc : (m' - l) * i.size = m' * i.size - l * i.size := Nat.sub_mul _ _ _
      have hle : l * i.size ≤ m' * i.size := Nat.mul_le_mul_right _ (by omega)
      cases hml : Nat.beq ((c.len - off) / i.size) l with
      | true =>
        rw [hml] at hk
        simp only [cond_true, fN_eq] at hk
        have hml' := Nat.eq_of_beq_eq_true hml
        have hh : h - l = 0 := by omega
        refine Res.pure hr (run (run_slice_slice ht hi' hrun)) ?_ hk
        rw [hh]
        by_cases hq : m' = l
        · rw [if_pos hq]
          exact .slz b _ _ _ _ L hL hep (.inl (by omega))
        · rw [if_neg hq]
          simp only [Option.map_some, add_none, Nat.add_assoc]
          exact .slz b _ _ _ _ L hL hep (.inr ⟨rfl, by omega⟩)
      | false =>
        rw [hml] at hk
        simp only [cond_false, fN_eq] at hk
        have hml' := beq_false_of_not hml
        refine Res.pure hr (run (run_slice_slice ht hi' hrun)) ?_ hk
        rw [if_neg (by omega)]
        simp only [Option.map_some, add_none, Nat.add_assoc]
        exact .slu b _ _ _ _ L hL (by omega) hep (by omega)
  · rename_i b off es ex
    rw [ex] at hv
    cases hv with
    | slz0 aa =>
      obtain ⟨l, h, m, m', hrun, hk, h1, h2, h3, h4, h5⟩ := cut3_sound (P := P) (w := w) true he (Nat.zero_le 0) (Nat.zero_le 0) hx
      obtain rfl : l = 0 := by omega
      obtain rfl : h = 0 := by omega
      refine Res.pure hr (run (run_slice_slice ht hi' hrun)) ?_ hk
      have e1 : (if m' = 0 then some aa else (some aa).map (·.add (0 * i.size))) = some aa := by
        split
        · rfl
        · simp [Addr.add]
      rw [e1]
      by_cases hmx : mx = none
      · rw [(h4 hmx).2]
        exact .slz0 aa
      · rw [h5 hmx]
        have e2 : m = 0 := by omega
        subst e2
        exact .slz0 aa
    | slz _ _ _ oo cap L hL hep hc =>
    obtain ⟨l, h, m, m', hrun, hk, h1, h2, h3, h4, h5⟩ := cut3_sound (P := P) (w := w) true he (Nat.zero_le cap) (Nat.zero_le cap) hx
    obtain rfl : l = 0 := by omega
    obtain rfl : h = 0 := by omega
    refine Res.pure hr (run (run_slice_slice ht hi' hrun)) ?_ hk
    have e1 : (if m' = 0 then some (⟨L.blk, oo, none⟩ : Addr) else (some (⟨L.blk, oo, none⟩ : Addr)).map (·.add (0 * i.size))) = some ⟨L.blk, oo, none⟩ := by
      split
      · rfl
      · simp [Addr.add]
    rw [e1]
    by_cases hmx : mx = none
    · rw [(h4 hmx).2]
      exact .slz b off es oo _ L hL hep hc
    · rw [h5 hmx]
      exact .slz b off es oo _ L hL hep (.inl (by omega))
  · cases hx
theorem sound_sla (o : Oper) (t : TypeId) (x : Operand) (lo hi mx : Option Operand) (n : Nat) (e : TypeId) (i : TypeInfo) (ho : o.op = .slice t x lo hi mx) (ht : P.underlying t = some (.array n e)) (hi' : P.info? e = some i) (hr : HR P base ι H w) (he : rowR ι env a.tmps)
    (hx : xop (.sla n i.size (od x) (lo.map od) (hi.map od) (mx.map od)) env H k = true) : Res P base ι H w k ((execOp a.eval o).run P w) := by
  simp only [xop] at hx
  have hv := ev_sound he x
  generalize hxv : a.eval x = xv at hv
  split at hx
  · rename_i b off ex
    rw [ex] at hv
    obtain ⟨L, hL, rfl⟩ := hv.ptr_inv
    obtain ⟨l, h, m, m', hrun, hk, h1, h2, h3, h4, h5⟩ := cut3_sound (P := P) (w := w) false he (Nat.le_refl n) (Nat.le_refl n) hx
    have hm' : m' = m := by
      by_cases hmx : mx = none
      · rw [(h4 hmx).1, (h4 hmx).2]
      · exact h5 hmx
    subst hm'
    simp only [fN_eq] at hk
    refine Res.pure hr (cv := .slice (some (if m' = l then ⟨L.blk, L.sh + off, none⟩ else (⟨L.blk, L.sh + off, none⟩ : Addr).add (l * i.size))) (h - l) (m' - l)) ?_ ?_ hk
    · simp [execOp, ho, hxv, Instr.sliceAt, run_und ht, Instr.sureAddr, hrun, run_size hi']
    · cases hml : Nat.beq m' l with
      | true =>
        have := Nat.eq_of_beq_eq_true hml
        subst this
        rw [if_pos rfl]
        exact .slc b off _ _ L hL (by omega)
      | false =>
        have := beq_false_of_not hml
        rw [if_neg this, add_none, Nat.add_assoc]
        exact .slc b _ _ _ L hL (by omega)
  · cases hx
end
end Go.Jt
set_option autoImplicit false
set_option linter.all false
namespace Go.Jt
open Go.RowKit (Below)
variable [Gl]

section
variable {P : Program} {base : Nat} {ι : Io} {H : AH} {w : World} {k : AV → AH → Bool} {env : Env} {a : Act}

/-! ### where cells come from -/
theorem srcLen_sound {x : AV} {xv : Value} {K : Nat → Bool} (hv : VR ι x xv) (h : srcLen x K = true) : ∃ n, K n = true ∧ ∀ w, (Builtin.lenOf xv).run P w = .ok n w := by
  unfold srcLen at h
  split at h
  · cases hv; exact ⟨0, h, fun w => by simp [Builtin.lenOf]⟩
  · cases hv; exact ⟨_, h, fun w => by simp [Builtin.lenOf]⟩
  · cases hv; exact ⟨_, h, fun w => by simp [Builtin.lenOf]⟩
  · cases hv <;> exact ⟨0, h, fun w => by simp [Builtin.lenOf]⟩
  · obtain ⟨b, rfl, rfl⟩ := hv.str_inv
    rw [fN_eq, llen_eq, bytesOf_len] at h
    exact ⟨_, h, fun w => by simp [Builtin.lenOf]⟩
  · cases h
theorem cellsR_nil (ι : Io) : cellsR ι .nil #[] := ⟨trivial, rfl, fun i => by simp only [Rp.toL_nil, List.getD_nil]; exact .undef _, fun i hi => by simp at hi⟩
theorem cellsR_str (ι : Io) (s : ByteArray) (n : Nat) : cellsR ι (Rp.ofL (((bytesOf s).take n).map fun c => .int .u8 (Int.ofNat c))) ((s.extract 0 n).data.map fun b => Value.int .u8 b.toNat) := by
  obtain ⟨o, e⟩ := Rp.ofL_spec (((bytesOf s).take n).map fun c => AV.int .u8 (Int.ofNat c))
  have e2 : ((s.extract 0 n).data.map fun b => Value.int .u8 b.toNat).toList = ((s.data.toList.take n).map fun b => Value.int .u8 b.toNat) := by
    rw [Array.toList_map, Lib.extract_data]; simp
  have hsz : ((s.extract 0 n).data.map fun b => Value.int .u8 b.toNat).size = (s.data.toList.take n).length := by
    rw [← Array.length_toList, e2]; simp
  refine ⟨o, by rw [e, hsz]; simp [bytesOf], fun i => ?_, fun i hi => ?_⟩
  · rw [e]
    by_cases hi : i < (s.data.toList.take n).length
    · have f1 : ((((bytesOf s).take n).map fun c => AV.int .u8 (Int.ofNat c)).getD i .undef) = AV.int .u8 (Int.ofNat ((s.data.toList.take n)[i]).toNat) := by
        simp only [bytesOf, List.getD_eq_getElem?_getD, ← List.map_take, List.map_map]
        rw [List.getElem?_map, List.getElem?_eq_getElem hi]
        rfl
      have f2 : ((s.extract 0 n).data.map fun b => Value.int .u8 b.toNat).getD i Go.undef = Value.int .u8 ((s.data.toList.take n)[i]).toNat := by
        rw [Array.getD_eq_getD_getElem?, ← Array.getElem?_toList, e2, List.getElem?_map, List.getElem?_eq_getElem hi]
        rfl
      rw [f1, f2]
      exact .int _ _
    · rw [getD_over _ _ (by simp [bytesOf] at hi ⊢; omega)]
      exact .undef _
  · have f2 : ((s.extract 0 n).data.map fun b => Value.int .u8 b.toNat).getD i Go.undef = Value.int .u8 ((s.data.toList.take n)[i]'(by omega)).toNat := by
      rw [Array.getD_eq_getD_getElem?, ← Array.getElem?_toList, e2, List.getElem?_map, List.getElem?_eq_getElem (by omega)]
      rfl
    rw [f2]; rfl
theorem run_firstCells {L : Loc} {c : Rp AV} {st ro : Bool} {b off es n len cap : Nat} (hr : HR P base ι H w) (hb : H.get b = some (.cells c st ro)) (hL : ι b = some L) (hn : off + n * es ≤ c.len) :
    ∃ cs, cellsR ι (c.sub off (n * es)) cs ∧ cs.size = n * es ∧ ∀ w', w'.heap = w.heap → (Builtin.firstCells es n (.slice (some ⟨L.blk, L.sh + off, none⟩) len cap)).run P w' = .ok cs w' := by
  obtain ⟨cc, el, fr, hw, hor⟩ := hr.cells hb hL
  cases hor with
  | cells _ _ _ _ _ _ hok hz hl hc h1 hf hs hro =>
  rw [Rp.len_eq c hok] at hn
  refine ⟨_, cellsR_sub hok (by omega) hc h1 hn, by simp; omega, fun w' hw' => ?_⟩
  unfold Builtin.firstCells
  exact run_loadCells (by rw [hw']; exact hw) _ (by omega)
theorem srcCells_sound {es n : Nat} {x : AV} {xv : Value} {K : Rp AV → Bool} (hr : HR P base ι H w) (hv : VR ι x xv) (h : srcCells H es n x K = true) :
    ∃ r cs, K r = true ∧ cellsR ι r cs ∧ cs.size = n * es ∧ ∀ w', w'.heap = w.heap → (Builtin.firstCells es n xv).run P w' = .ok cs w' := by
  unfold srcCells at h
  split at h
  · obtain ⟨h1, h⟩ := cond_true_inv h
    have := Nat.eq_of_beq_eq_true h1
    subst this
    cases hv
    exact ⟨_, _, h, cellsR_nil ι, by simp, fun w' _ => by simp [Builtin.firstCells]⟩
  · obtain ⟨h1, h⟩ := cond_true_inv h
    have := Nat.eq_of_beq_eq_true h1
    subst this
    cases hv <;> exact ⟨_, _, h, cellsR_nil ι, by simp, fun w' _ => by simp [Builtin.firstCells, loadCells, loadCellsFrom]⟩
  · obtain ⟨c, st, ro, hb, h⟩ := gcell_inv h
    obtain ⟨h1, h⟩ := cond_true_inv h
    cases hv with
    | slc _ _ _ _ L hL hl =>
    obtain ⟨cs, g1, g2, g3⟩ := run_firstCells (es := es) (n := n) (len := _) (cap := _) hr hb hL (Nat.le_of_ble_eq_true h1)
    exact ⟨_, cs, h, g1, g2, g3⟩
  · obtain ⟨c, st, ro, hb, h⟩ := gcell_inv h
    obtain ⟨h1, h⟩ := cond_true_inv h
    cases hv with
    | slu _ _ _ _ cap L hL hl he hc =>
    obtain ⟨cs, g1, g2, g3⟩ := run_firstCells (es := es) (n := n) (len := _) (cap := _) hr hb hL (Nat.le_of_ble_eq_true h1)
    exact ⟨_, cs, h, g1, g2, g3⟩
  · obtain ⟨h1, h3⟩ := cond_true_inv h
    obtain ⟨h2, h4⟩ := cond_true_inv h3
    have := Nat.eq_of_beq_eq_true h1
    subst this
    obtain ⟨b, rfl, rfl⟩ := hv.str_inv
    have h2' := Nat.le_of_ble_eq_true h2
    rw [llen_eq, bytesOf_len] at h2'
    refine ⟨_, _, h4, cellsR_str ι b n, ?_, fun w' _ => by simp [Builtin.firstCells]⟩
    have := (cellsR_str ι b n).2.1
    rw [← this, (Rp.ofL_spec _).2]
    simp [bytesOf_len]
    omega
  · cases h

/-! ### strings and bytes -/
theorem bytesL_inv (l : List AV) : ∀ {K : List Nat → Bool}, bytesL l K = true → ∃ ns : List Nat, l = ns.map (fun n => AV.int .u8 (Int.ofNat n)) ∧ (∀ n ∈ ns, n ≤ 255) ∧ K ns = true := by
  induction l with
  | nil => intro K h; exact ⟨[], rfl, by simp, h⟩
  | cons x l ih =>
    intro K h
    have h' := h
    clear h
    dsimp only [bytesL] at h'
    split at h'
    · rename_i n
      obtain ⟨h1, h2⟩ := cond_true_inv h'
      obtain ⟨ns, e1, e2, e3⟩ := ih h2
      exact ⟨n :: ns, by rw [e1]; rfl, by simp only [List.mem_cons]; rintro m (rfl | hm); exact Nat.le_of_ble_eq_true h1; exact e2 m hm, e3⟩
    · cases h'
theorem push_bytes (ns : List Int) : ∀ s : ByteArray, bytesOf (ns.foldl (fun r n => r.push (UInt8.ofNat n.toNat)) s) = bytesOf s ++ ns.map fun n => n.toNat % 256 := by
  induction ns with
  | nil => intro s; simp
  | cons n ns ih =>
    intro s
    rw [List.foldl_cons, ih]
    have : bytesOf (s.push (UInt8.ofNat n.toNat)) = bytesOf s ++ [n.toNat % 256] := by
      unfold bytesOf
      rw [ByteArray.data_push]
      simp
    rw [this]; simp
theorem sound_b2s (o : Oper) (s d e : TypeId) (x : Operand) (ho : o.op = .convert s d x) (hs : P.underlying s = some (.slice e)) (hd : P.underlying d = some .string) (he' : P.underlying e = some (.int .u8)) (hr : HR P base ι H w) (he : rowR ι env a.tmps)
    (hx : xop (.b2s (od x)) env H k = true) : Res P base ι H w k ((execOp a.eval o).run P w) := by
  simp only [xop] at hx
  have hv := ev_sound he x
  generalize hxv : a.eval x = xv at hv
  have run : ∀ {cv : Value} {so len cap}, xv = .slice so len cap → (Conv.bytesToString xv).run P w = .ok cv w → (execOp a.eval o).run P w = .ok (.value cv) w := fun {cv so len cap} hsl h => by
    subst hsl
    simp only [execOp, ho, hxv, convert]
    simp [run_und hs, run_und hd, run_und he', h]
  split at hx
  · rename_i ex
    rw [ex] at hv
    cases hv
    refine Res.pure hr (cv := .string .empty) (run rfl (by simp [Conv.bytesToString])) ?_ hx
    exact .str ByteArray.empty
  · rename_i y hne
    have hx0 := hx
    obtain ⟨n, hx, hlen⟩ := srcLen_sound (P := P) hv hx
    split at hx
    · cases hx
    · rename_i hns
      obtain ⟨r, cs, hx, hc, hsz, hrun⟩ := srcCells_sound hr hv hx
      obtain ⟨ns, e1, e2, hk⟩ := bytesL_inv _ hx
      have hcs : cs = ((ns.map fun n : Nat => (n : Int)).map (Value.int .u8)).toArray := by
        apply Array.ext
        · rw [← hc.2.1, e1]; simp
        · intro i h1 h2
          have h3 := hc.2.2.1 i
          have h1' : i < ns.length := by rw [← hc.2.1, e1] at h1; simpa using h1
          rw [e1] at h3
          have e3 : (ns.map fun n => AV.int .u8 (Int.ofNat n)).getD i .undef = .int .u8 (Int.ofNat ns[i]) := by simp [h1']
          rw [e3] at h3
          have e4 := h3.int_inv
          have e5 : cs.getD i Go.undef = cs[i] := by simp [h1]
          rw [← e5, e4]
          simp
      have fin : ∀ so len cap, xv = .slice (some so) len cap → Res P base ι H w k ((execOp a.eval o).run P w) := by
        intro so len cap hsl
        have hl := hlen w
        rw [hsl] at hl
        simp [Builtin.lenOf] at hl
        subst hl
        have h4 := hrun w rfl
        rw [hsl] at h4
        simp only [Builtin.firstCells, Nat.mul_one] at h4
        rw [hcs] at h4
        have h5 := run_bytesToString w so len cap (ns.map fun n : Nat => (n : Int)) h4
        refine Res.pure hr (run hsl (by rw [hsl]; exact h5)) ?_ hk
        have : ns = bytesOf ((ns.map fun n : Nat => (n : Int)).foldl (fun r n => r.push (UInt8.ofNat n.toNat)) ByteArray.empty) := by
          rw [push_bytes]
          have : bytesOf ByteArray.empty = [] := rfl
          rw [this, List.nil_append, List.map_map]
          conv => lhs; rw [← List.map_id ns]
          apply List.map_congr_left
          intro m hm
          have := e2 m hm
          simp
          omega
        conv => arg 2; rw [this]
        exact .str _
      clear hc hcs e1 hrun hx
      generalize ev env (od x) = xx at hv hne hns hx0
      cases hv with
      | slc _ _ _ _ L hL hl => exact fin _ _ _ rfl
      | slu _ _ _ _ cap L hL hl he hc => exact fin _ _ _ rfl
      | slz _ _ _ oo cap L hL he hc => exact fin _ _ _ rfl
      | slz0 a => exact fin _ _ _ rfl
      | nils => exact absurd rfl hne
      | str s => exact absurd rfl (hns _)
      | _ => (simp only [srcLen] at hx0; cases hx0)
end
end Go.Jt
set_option autoImplicit false
set_option linter.all false
namespace Go.Jt
open Go.RowKit (Below)
variable [Gl]

theorem growBy_le (need : Nat) : ∀ (r c : Nat), c ≤ 2 * need + 192 → Builtin.growBy need r c ≤ 2 * need + 192
  | 0, c, h => h
  | r + 1, c, h => by
    unfold Builtin.growBy
    split
    · exact h
    · exact growBy_le need r _ (by omega)
theorem next_le {need cap : Nat} (h : cap < need) : Builtin.nextslicecap need cap ≤ 2 * need + 192 := by
  unfold Builtin.nextslicecap
  split
  · omega
  · split
    · omega
    · exact growBy_le _ _ _ (by omega)

section
variable {P : Program} {base : Nat} {ι : Io} {H : AH} {w : World} {k : AV → AH → Bool} {env : Env} {a : Act}

/-- an abstract row is given up, and a new one laid that stands in the same block of the world -/
theorem HR.move (h : HR P base ι H w) {b : Nat} {o o' : AObj} {L L' : Loc} {w' : World} {c' : Obj} (hb : H.get b = some o) (hi : ι b = some L) (hblk : L'.blk = L.blk) (hu : Up w w' L.blk c')
    (ho : OR P base (ι.ext H.n L') L' o' c') (hbase : base ≤ L.blk) : Nx P base ι H w (ι.ext H.n L') ((H.kill b).new o') w' := by
  have hn : ι H.n = none := h.fresh _ (Nat.le_refl _)
  have hbn : b < H.n := h.dom _ _ hb
  have get : ∀ x, ((H.kill b).new o').get x = if x = H.n then some o' else if x = b then none else H.get x := fun x => by
    rw [AH.get_new, AH.get_kill, AH.n_kill]
  refine ⟨Io.ext_le _ _ _ hn, ⟨fun x hx => ?_, fun x y hx => ?_, fun x M hx => ?_, fun x y ox oy Lx Ly hx hy hix hiy he => ?_, fun x ox Lx hx hix => ?_, by rw [hu.size]; exact h.below, fun g r hg => ⟨(h.gl g r hg).1, by rw [hu.other g (by have := (h.gl g r hg).1; omega)]; exact (h.gl g r hg).2⟩⟩, fun x hx hxn => ?_, by rw [AH.n_new, AH.n_kill]; omega, hu.below hbase⟩
  · rw [AH.n_new, AH.n_kill] at hx
    unfold Io.ext
    rw [if_neg (by omega)]
    exact h.fresh x (by omega)
  · rw [AH.n_new, AH.n_kill]
    rw [get] at hx
    split at hx
    · omega
    · split at hx
      · cases hx
      · have := h.dom x y hx; omega
  · unfold Io.ext at hx
    rw [hu.size]
    split at hx
    · cases hx; rw [hblk]; exact h.bound b L hi
    · exact h.bound x M hx
  · rw [get] at hx hy
    unfold Io.ext at hix hiy
    by_cases ex : x = H.n
    · by_cases ey : y = H.n
      · exact .inl (by rw [ex, ey])
      · rw [if_pos ex] at hix
        rw [if_neg ey] at hiy hy
        split at hy
        · cases hy
        · rename_i hyb
          cases hix
          exact (h.inj y b _ _ _ _ hy hb hiy hi (by rw [← hblk]; exact he.symm)).elim (fun e => absurd e hyb) (fun hl => by rw [← he, hblk] at hl; omega)
    · rw [if_neg ex] at hix hx
      split at hx
      · cases hx
      · rename_i hxb
        by_cases ey : y = H.n
        · rw [if_pos ey] at hiy
          cases hiy
          exact (h.inj x b _ _ _ _ hx hb hix hi (by rw [← hblk]; exact he)).elim (fun e => absurd e hxb) .inr
        · rw [if_neg ey] at hiy hy
          split at hy
          · cases hy
          · exact h.inj x y _ _ _ _ hx hy hix hiy he
  · rw [get] at hx
    by_cases ex : x = H.n
    · subst ex
      rw [if_pos rfl] at hx
      cases hx
      rw [Io.ext_self] at hix
      cases hix
      exact ⟨c', by rw [hblk]; exact hu.here, ho⟩
    · rw [if_neg ex] at hx
      unfold Io.ext at hix
      rw [if_neg ex] at hix
      split at hx
      · cases hx
      · rename_i hxb
        obtain ⟨c, hc, hoc⟩ := h.obj x ox Lx hx hix
        refine ⟨c, ?_, hoc.mono (Io.ext_le _ _ _ hn)⟩
        rw [hu.other _ (fun e => (h.inj x b _ _ _ _ hx hb hix hi e).elim hxb (fun hl => by omega))]
        exact hc
  · have e1 : x ≠ H.n := by omega
    have e2 : x ≠ b := fun e => by subst e; rw [hi] at hxn; cases hxn
    exact ⟨by unfold Io.ext; rw [if_neg e1]; exact hxn, by rw [get, if_neg e1, if_neg e2]⟩

/-- what is appended: so many elements, of these cells; 'zm': a number of zero elements -/
def isApp (P : Program) (zm : Bool) (bytes : Nat) (xv : Value) (n : Nat) : Prop :=
  match zm with
  | true => ∃ q, xv = .int q (n : Int) ∧ n ≤ 140737488355328 ∧ n * bytes ≤ 281474976710656
  | false => ∀ w, (Builtin.lenOf xv).run P w = .ok n w
theorem appSrc_sound {es bytes : Nat} {z : Rp AV} {zm : Bool} {x : AV} {xv : Value} {K : Nat → Rp AV → Bool} {zv : Value} (hr : HR P base ι H w) (hv : VR ι x xv)
    (hz : cellsR ι z zv.cells) (hes : zv.cells.size = es) (hpos : 0 < es) (h : appSrc H es bytes z zm x K = true) :
    ∃ n r cs, K n r = true ∧ cellsR ι r cs ∧ cs.size = n * es ∧ isApp P zm bytes xv n ∧
      (zm = true → cs = Builtin.zeroCells zv.cells n) ∧ (zm = false → ∀ w', w'.heap = w.heap → (Builtin.firstCells es n xv).run P w' = .ok cs w') := by
  unfold appSrc at h
  cases zm with
  | true =>
    dsimp only at h
    split at h
    · rename_i q n
      obtain ⟨h1, h2⟩ := cond_true_inv h
      obtain ⟨h3, h4⟩ := cond_true_inv h2
      rw [fN_eq] at h4
      have := hv.int_inv
      subst this
      exact ⟨n, zeros n z, _, h4, cellsR_zeros hz (by omega) n, by simp [hes], ⟨q, rfl, Nat.le_of_ble_eq_true h1, Nat.le_of_ble_eq_true h3⟩, ⟨fun _ => rfl, fun e => (by cases e)⟩⟩
    · cases h
  | false =>
    dsimp only at h
    obtain ⟨n, h1, hlen⟩ := srcLen_sound (P := P) hv h
    obtain ⟨r, cs, h2, hc, hsz, hrun⟩ := srcCells_sound hr hv h1
    exact ⟨n, r, cs, h2, hc, hsz, hlen, ⟨fun e => (by cases e), fun _ => hrun⟩⟩

def zmOf (ud : TypeDesc) : Bool := match ud with | .int _ => true | _ => false
/-- append where the model finds room: elements given -/
theorem run_app_fits0 {t u e : TypeId} {i : TypeInfo} {ud : TypeDesc} {sb : Option Addr} {sLen sCap n : Nat} {xv : Value} {cs : Array Value} {ty : TypeId} {w' : World} (ht : P.underlying t = some (.slice e)) (hu : P.underlying u = some ud) (hi : P.info? e = some i)
    (hud : ∀ q, ud = .int q → False) (hn : (Builtin.lenOf xv).run P w = .ok n w) (hc : (Builtin.firstCells i.size n xv).run P w = .ok cs w) (hfit : sLen + n ≤ sCap)
    (hst : ∀ a, sb = some a → (storeCells (a.add (sLen * i.size)) cs.toList).run P w = .ok () w') (hst0 : sb = none → w' = w) :
    (Builtin.append_ #[t, u] ty #[.slice sb sLen sCap, xv]).run P w = .ok (.slice sb (sLen + n) sCap) w' := by
  cases sb with
  | none => rw [hst0 rfl]; simp [Builtin.append_, run_und ht, run_und hu, run_size hi, hn, hc, hfit, hud]
  | some a => simp [Builtin.append_, run_und ht, run_und hu, run_size hi, hn, hc, hfit, hud, hst a rfl]
/-- append where the model finds room: a number of zero elements -/
theorem run_app_fits1 {t u e : TypeId} {i : TypeInfo} {q q' : IntKind} {sb : Option Addr} {sLen sCap n : Nat} {ty : TypeId} {zv : Value} {w' : World} (ht : P.underlying t = some (.slice e)) (hu : P.underlying u = some (.int q')) (hi : P.info? e = some i) (hzv : i.zero = some zv)
    (hb1 : IntKind.i64.wrap (n : Int) = (n : Int)) (hb2 : ¬ (281474976710656 < (n : Int) * (i.bytes : Int))) (hz : 0 < i.size) (hfit : sLen + n ≤ sCap)
    (hst : ∀ a, sb = some a → (storeCells (a.add (sLen * i.size)) (Builtin.zeroCells zv.cells n).toList).run P w = .ok () w') (hst0 : sb = none → w' = w) :
    (Builtin.append_ #[t, u] ty #[.slice sb sLen sCap, .int q n]).run P w = .ok (.slice sb (sLen + n) sCap) w' := by
  have hneg : ¬ ((n : Int) < 0) := by omega
  have hz' : ¬ (i.size = 0) := by omega
  by_cases hn0 : n = 0
  · subst hn0
    have hzc : Builtin.zeroCells zv.cells 0 = #[] := by simp [Builtin.zeroCells]
    rw [hzc] at hst
    have hw0 : IntKind.i64.wrap 0 = 0 := rfl
    have hfit' : sLen ≤ sCap := by omega
    cases sb with
    | none => rw [hst0 rfl]; simp [Builtin.append_, run_und ht, run_und hu, run_size hi, run_info hi, asInt, asIntOf, hw0, hfit', run_zero hi hzv]
    | some a =>
      have := hst a rfl
      simp at this
      simp [Builtin.append_, run_und ht, run_und hu, run_size hi, run_info hi, asInt, asIntOf, hw0, hfit', run_zero hi hzv, this]
  have hnn : ¬ (n * i.size = 0) := by rw [Nat.mul_eq_zero]; omega
  cases sb with
  | none => rw [hst0 rfl]; simp [Builtin.append_, run_und ht, run_und hu, run_size hi, run_info hi, asInt, asIntOf, hb1, hneg, hb2, hfit, run_zero hi hzv, hnn]
  | some a => simp [Builtin.append_, run_und ht, run_und hu, run_size hi, run_info hi, asInt, asIntOf, hb1, hneg, hb2, hfit, run_zero hi hzv, hnn, hst a rfl]
/-- append where the model finds no room: elements given -/
theorem run_app_grow0 {t u e : TypeId} {i : TypeInfo} {ud : TypeDesc} {sb : Option Addr} {sLen sCap n : Nat} {xv : Value} {cs old : Array Value} {ty : TypeId} {zv : Value} (ht : P.underlying t = some (.slice e)) (hu : P.underlying u = some ud) (hi : P.info? e = some i) (hzv : i.zero = some zv)
    (hud : ∀ q, ud = .int q → False) (hn : (Builtin.lenOf xv).run P w = .ok n w) (hc : (Builtin.firstCells i.size n xv).run P w.drew = .ok cs w.drew) (hfit : ¬ (sLen + n ≤ sCap)) (hby : i.bytes ≠ 0)
    (hb : ¬ (281474976710656 < Builtin.nextslicecap (sLen + n) sCap * i.bytes)) (hold : (Builtin.firstCells i.size sLen (.slice sb sLen sCap)).run P w.drew = .ok old w.drew) :
    ∃ nc, sLen + n ≤ nc ∧ (Builtin.append_ #[t, u] ty #[.slice sb sLen sCap, xv]).run P w = .ok (.slice (some ⟨w.heap.size, 0, none⟩) (sLen + n) nc) (w.drew.alloc (.cells (old ++ cs ++ Builtin.zeroCells zv.cells (nc - (sLen + n))) e)) := by
  refine ⟨(Question.appendCap (sLen + n) sCap e).cut (w.tape w.drawn (.appendCap (sLen + n) sCap e)), by simp [Question.cut], ?_⟩
  have hf : (Question.appendCap (sLen + n) sCap e).forced = false := rfl
  simp [Builtin.append_, run_und ht, run_und hu, run_size hi, run_info hi, hn, hc, hfit, hud, hby, hb, hf, hold, run_zero hi hzv, run_newRow]
/-- append where the model finds no room: a number of zero elements -/
theorem run_app_grow1 {t u e : TypeId} {i : TypeInfo} {q q' : IntKind} {sb : Option Addr} {sLen sCap n : Nat} {old : Array Value} {ty : TypeId} {zv : Value} (ht : P.underlying t = some (.slice e)) (hu : P.underlying u = some (.int q')) (hi : P.info? e = some i) (hzv : i.zero = some zv)
    (hb1 : IntKind.i64.wrap (n : Int) = (n : Int)) (hb2 : ¬ (281474976710656 < (n : Int) * (i.bytes : Int))) (hz : 0 < i.size) (hfit : ¬ (sLen + n ≤ sCap)) (hle : sLen ≤ sCap) (hby : i.bytes ≠ 0) (hmax : ¬ (9223372036854775807 < (sLen : Int) + (n : Int)))
    (hb : ¬ (281474976710656 < Builtin.nextslicecap (sLen + n) sCap * i.bytes)) (hold : (Builtin.firstCells i.size sLen (.slice sb sLen sCap)).run P w.drew = .ok old w.drew) :
    ∃ nc, sLen + n ≤ nc ∧ (Builtin.append_ #[t, u] ty #[.slice sb sLen sCap, .int q n]).run P w = .ok (.slice (some ⟨w.heap.size, 0, none⟩) (sLen + n) nc) (w.drew.alloc (.cells (old ++ Builtin.zeroCells zv.cells n ++ Builtin.zeroCells zv.cells (nc - (sLen + n))) e)) := by
  refine ⟨(Question.appendCap (sLen + n) sCap e).cut (w.tape w.drawn (.appendCap (sLen + n) sCap e)), by simp [Question.cut], ?_⟩
  have hf : (Question.appendCap (sLen + n) sCap e).forced = false := rfl
  have hneg : ¬ ((n : Int) < 0) := by omega
  have hnn : ¬ (n * i.size = 0) := by rw [Nat.mul_eq_zero]; omega
  have hmx : IntKind.i64.max = 9223372036854775807 := rfl
  simp [Builtin.append_, run_und ht, run_und hu, run_size hi, run_info hi, asInt, asIntOf, hb1, hneg, hb2, hfit, hby, hb, hf, hold, run_zero hi hzv, run_newRow, hnn, hmx, hmax]

/-- what an append comes to, whether the model finds room or not -/
def AppRun (P : Program) (w : World) (t u e : TypeId) (i : TypeInfo) (zv xv : Value) (n : Nat) (cs : Array Value) : Prop :=
  (∀ (ty : TypeId) (sb : Option Addr) (sLen sCap : Nat) (w' : World), sLen + n ≤ sCap → (∀ a, sb = some a → (storeCells (a.add (sLen * i.size)) cs.toList).run P w = .ok () w') → (sb = none → w' = w) →
    (Builtin.append_ #[t, u] ty #[.slice sb sLen sCap, xv]).run P w = .ok (.slice sb (sLen + n) sCap) w') ∧
  (∀ (ty : TypeId) (sb : Option Addr) (sLen sCap : Nat) (old : Array Value), ¬ (sLen + n ≤ sCap) → sLen ≤ sCap → roomy (sLen + n) i.bytes = true → (Builtin.firstCells i.size sLen (.slice sb sLen sCap)).run P w.drew = .ok old w.drew →
    ∃ nc, sLen + n ≤ nc ∧ (Builtin.append_ #[t, u] ty #[.slice sb sLen sCap, xv]).run P w = .ok (.slice (some ⟨w.heap.size, 0, none⟩) (sLen + n) nc) (w.drew.alloc (.cells (old ++ cs ++ Builtin.zeroCells zv.cells (nc - (sLen + n))) e)))
theorem roomy_cap {need cap bytes : Nat} (h : roomy need bytes = true) (hc : cap < need) : ¬ (281474976710656 < Builtin.nextslicecap need cap * bytes) := by
  unfold roomy at h
  have h1 := Nat.le_of_ble_eq_true h
  have h2 := Nat.mul_le_mul_right bytes (next_le hc)
  have h3 : (2 * need + 192) * bytes ≤ (2 * need + 200) * bytes := Nat.mul_le_mul_right bytes (by omega)
  omega
theorem appRun {t u e : TypeId} {i : TypeInfo} {ud : TypeDesc} {zv xv : Value} {n : Nat} {cs : Array Value} (ht : P.underlying t = some (.slice e)) (hu : P.underlying u = some ud) (hi : P.info? e = some i) (hzv : i.zero = some zv) (hz : 0 < i.size) (hby : i.bytes ≠ 0)
    (hn : isApp P (zmOf ud) i.bytes xv n) (hc1 : zmOf ud = true → cs = Builtin.zeroCells zv.cells n) (hc2 : zmOf ud = false → ∀ w', w'.heap = w.heap → (Builtin.firstCells i.size n xv).run P w' = .ok cs w') : AppRun P w t u e i zv xv n cs := by
  by_cases hud : ∃ q, ud = .int q
  · obtain ⟨q', rfl⟩ := hud
    obtain ⟨q, rfl, hb1, hb2⟩ := hn
    have hcs := hc1 rfl
    subst hcs
    have hw : IntKind.i64.wrap (n : Int) = (n : Int) := by rw [IntWalk.i64_in]; omega
    have hb : ¬ (281474976710656 < (n : Int) * (i.bytes : Int)) := by
      have h1 : ((n * i.bytes : Nat) : Int) ≤ 281474976710656 := Int.ofNat_le.2 hb2
      rw [Int.natCast_mul] at h1
      omega
    refine ⟨fun ty sb sLen sCap w' hfit hst hst0 => run_app_fits1 ht hu hi hzv hw hb hz hfit hst hst0, fun ty sb sLen sCap old hfit hle hroom hold => ?_⟩
    refine run_app_grow1 ht hu hi hzv hw hb hz hfit hle hby ?_ (roomy_cap hroom (by omega)) hold
    unfold roomy at hroom
    have h1 := Nat.le_of_ble_eq_true hroom
    have h2 : (2 * (sLen + n) + 200) * 1 ≤ (2 * (sLen + n) + 200) * i.bytes := Nat.mul_le_mul_left _ (by omega)
    omega
  · have hzm : zmOf ud = false := by
      unfold zmOf
      split
      · exact absurd ⟨_, rfl⟩ hud
      · rfl
    rw [hzm] at hn
    have hc := hc2 hzm
    have hud' : ∀ q, ud = .int q → False := fun q e => hud ⟨q, e⟩
    refine ⟨fun ty sb sLen sCap w' hfit hst hst0 => run_app_fits0 ht hu hi hud' (hn w) (hc w rfl) hfit hst hst0, fun ty sb sLen sCap old hfit hle hroom hold => ?_⟩
    exact run_app_grow0 ht hu hi hzv hud' (hn w) (hc _ rfl) hfit hby (roomy_cap hroom (by omega)) hold

/-! ### the rows -/
theorem cellsR_app {r r' : Rp AV} {c c' : Array Value} (h : cellsR ι r c) (h' : cellsR ι r' c') : cellsR ι (r.app r') (c ++ c') := by
  obtain ⟨o, e⟩ := Rp.app_spec r r' h.1 h'.1
  refine ⟨o, by rw [e]; simp [h.2.1, h'.2.1], fun i => ?_, fun i hi => ?_⟩
  · rw [e]
    by_cases hi : i < c.size
    · rw [List.getD_eq_getElem?_getD, List.getElem?_append_left (by rw [h.2.1]; exact hi), ← List.getD_eq_getElem?_getD, Array.getD_eq_getD_getElem?, Array.getElem?_append_left hi, ← Array.getD_eq_getD_getElem?]
      exact h.2.2.1 i
    · rw [List.getD_eq_getElem?_getD, List.getElem?_append_right (by rw [h.2.1]; omega), ← List.getD_eq_getElem?_getD, Array.getD_eq_getD_getElem?, Array.getElem?_append_right (by omega), ← Array.getD_eq_getD_getElem?, h.2.1]
      exact h'.2.2.1 _
  · by_cases hi' : i < c.size
    · rw [Array.getD_eq_getD_getElem?, Array.getElem?_append_left hi', ← Array.getD_eq_getD_getElem?]
      exact h.2.2.2 i hi'
    · rw [Array.getD_eq_getD_getElem?, Array.getElem?_append_right (by omega), ← Array.getD_eq_getD_getElem?]
      simp at hi
      exact h'.2.2.2 _ (by omega)
theorem OR_grow (ι' : Io) {r : Rp AV} {c rest : Array Value} (h : cellsR ι' r c) (hrest : ∀ i, i < rest.size → (rest.getD i Go.undef).oneCell' = true) (el : TypeId) (n : Nat) (st : Bool) (hb : base ≤ n) (sz : Nat) (hsz : (c ++ rest).size = sz) :
    OR P base ι' ⟨n, 0, sz⟩ (.cells r st false) (.cells (c ++ rest) el (0, 0)) := by
  refine .cells r st false (c ++ rest) el (0, 0) h.1 hsz (by simp only [h.2.1, ← hsz]; simp) (fun i hi => ?_) (fun i hi _ => ?_) (fun o ho => by simp) (fun _ => ⟨rfl, hb⟩) (fun _ => hb)
  · rw [h.2.1] at hi
    simp only [Nat.zero_add]
    rw [Array.getD_eq_getD_getElem?, Array.getElem?_append_left hi, ← Array.getD_eq_getD_getElem?]
    exact h.2.2.1 i
  · by_cases hi' : i < c.size
    · rw [Array.getD_eq_getD_getElem?, Array.getElem?_append_left hi', ← Array.getD_eq_getD_getElem?]
      exact h.2.2.2 i hi'
    · rw [Array.getD_eq_getD_getElem?, Array.getElem?_append_right (by omega), ← Array.getD_eq_getD_getElem?]
      simp at hi
      exact hrest _ (by omega)
/-- an abstract block is given up -/
theorem HR.killNx (h : HR P base ι H w) {b : Nat} {L : Loc} (hi : ι b = some L) : Nx P base ι H w ι (H.kill b) w := by
  refine ⟨Io.le_refl _, ⟨fun x hx => h.fresh x (by rw [AH.n_kill] at hx; exact hx), fun x y hx => ?_, h.bound, fun x y ox oy Lx Ly hx hy hix hiy he => ?_, fun x ox Lx hx hix => ?_, h.below, h.gl⟩, fun x hx hn => ⟨hn, ?_⟩, Nat.le_refl _, Below.refl _ _⟩
  · rw [AH.get_kill] at hx
    rw [AH.n_kill]
    split at hx
    · cases hx
    · exact h.dom _ _ hx
  · rw [AH.get_kill] at hx hy
    split at hx
    · cases hx
    · split at hy
      · cases hy
      · exact h.inj x y ox oy Lx Ly hx hy hix hiy he
  · rw [AH.get_kill] at hx
    split at hx
    · cases hx
    · exact h.obj x ox Lx hx hix
  · rw [AH.get_kill, if_neg]
    intro e
    subst e
    rw [hi] at hn; cases hn
theorem zeroCells_size (z : Array Value) (n : Nat) : (Builtin.zeroCells z n).size = n * z.size := by simp [Builtin.zeroCells]
end
end Go.Jt
set_option autoImplicit false
set_option linter.all false
namespace Go.Jt
open Go.RowKit (Below)
variable [Gl]

section
variable {P : Program} {base : Nat} {ι : Io} {H : AH} {w : World} {k : AV → AH → Bool} {env : Env} {a : Act}

/-- what a word that gives a value comes to -/
def ResV (P : Program) (base : Nat) (ι : Io) (H : AH) (w : World) (k : AV → AH → Bool) (r : Result Value) : Prop :=
  ∃ v H' ι' cv w', r = .ok cv w' ∧ Nx P base ι H w ι' H' w' ∧ VR ι' v cv ∧ k v H' = true
theorem ResV.pure {r : Result Value} (hr : HR P base ι H w) {v : AV} {cv : Value} (hrun : r = .ok cv w) (hv : VR ι v cv) (hk : k v H = true) : ResV P base ι H w k r :=
  ⟨v, H, ι, cv, w, hrun, Nx.refl hr, hv, hk⟩
theorem ResV.builtin {o : Oper} {c : Call} {b : Builtin} {f : Array TypeId → TypeId → Array Value → Sem Value} (ho : o.op = .call c) (hc : c.callee = .builtin b)
    (hf : ∀ at' ty cs as, Go.builtin b at' ty cs as = (do Pure.pure (Next.value (← f at' ty as)))) (h : ResV P base ι H w k ((f c.argTypes o.type (c.args.map a.eval)).run P w)) : Res P base ι H w k ((execOp a.eval o).run P w) := by
  obtain ⟨v, H', ι', cv, w', hrun, hnx, hv, hk⟩ := h
  refine ⟨v, H', ι', .value cv, w', ?_, hnx, hv, hk⟩
  simp [execOp, ho, resolve, hc, invoke, hf, hrun]

theorem store_none (e : Addr) : (storeCells e ([] : List Value)).run P w = .ok () w := by simp [storeCells]
/-- a new block, longer than what is known of it -/
theorem growNew {H1 : AH} (hn : Nx P base ι H w ι H1 w) {r : Rp AV} {c rest : Array Value} (hc : cellsR ι r c) (hrest : ∀ i, i < rest.size → (rest.getD i Go.undef).oneCell' = true) (el : TypeId) (st : Bool) (sz : Nat) (hsz : (c ++ rest).size = sz) :
    Nx P base ι H w (ι.ext H1.n ⟨w.heap.size, 0, sz⟩) (H1.new (.cells r st false)) (w.drew.alloc (.cells (c ++ rest) el)) := by
  have h1 : HR P base ι H1 w := hn.hr
  exact hn.trans (h1.newNx sz rfl rfl rfl rfl (OR_grow _ (hc.mono (ext_le_new h1 _)) hrest el _ st h1.below sz hsz))

/-- a row put behind a part of a block, of which nothing else is looked at from now on -/
theorem moveRow (hr : HR P base ι H w) {b off p : Nat} {c r r' : Rp AV} {st : Bool} {L : Loc} {vs : Array Value} (hb : H.get b = some (.cells c st false)) (hL : ι b = some L) (hrow : cellsR ι r vs) (hp : p = 0 ∨ off + p ≤ c.toL.length) (hfit : L.sh + off + p + vs.size ≤ L.sz)
    (hok' : r'.ok) (ht' : r'.toL = (c.toL.drop off).take p ++ r.toL) :
    ∃ w', (storeCells ⟨L.blk, L.sh + off + p, none⟩ vs.toList).run P w = .ok () w' ∧ Nx P base ι H w (ι.ext H.n ⟨L.blk, L.sh + off, L.sz⟩) ((H.kill b).new (.cells r' st false)) w' := by
  obtain ⟨cc, el, fr, hw, hor⟩ := hr.cells hb hL
  cases hor with
  | cells _ _ _ _ _ _ hok hz' hl hcc h1' hf hs' hro =>
  have hbase := hro rfl
  obtain ⟨w', cc', hrun, hup, hcsz, hg⟩ := run_storeCells (P := P) (off := L.sh + off + p) vs.toList 0 cc w hw (fun v hv => by
    obtain ⟨j, hj, rfl⟩ := List.getElem_of_mem hv
    have := hrow.2.2.2 j (by simpa using hj)
    simpa [show j < vs.size by simpa using hj] using this) (by simp; omega) (fun o ho => hf o ho (.inl rfl))
  have hvl : vs.toList.length = vs.size := by simp
  have hpl : ((c.toL.drop off).take p).length = p := by
    rcases hp with hp | hp
    · subst hp; simp
    · simp; omega
  have hrl : r'.toL.length = p + vs.size := by rw [ht', List.length_append, hpl, hrow.2.1]
  have hle := Io.ext_le ι H.n ⟨L.blk, L.sh + off, L.sz⟩ (hr.fresh _ (Nat.le_refl _))
  refine ⟨w', hrun, hr.move (L' := ⟨L.blk, L.sh + off, L.sz⟩) (o' := .cells r' st false) hb hL rfl hup ?_ hbase⟩
  refine .cells r' st false cc' el fr hok' (by rw [hcsz, hz']) (by simp only; omega) (fun j hj => ?_) (fun j hj _ => ?_) (by rw [hcsz]; exact fun o ho _ => hf o ho (.inl rfl)) hs' (fun _ => hbase)
  · rw [hg]
    simp only
    rw [hvl, ht']
    by_cases hjp : j < p
    · rw [if_neg (by omega), List.getD_eq_getElem?_getD, List.getElem?_append_left (by omega), List.getElem?_take_of_lt hjp, List.getElem?_drop, ← List.getD_eq_getElem?_getD]
      have h3 := hcc (off + j) (by omega)
      rw [show L.sh + off + j = L.sh + (off + j) by omega]
      exact h3.mono hle
    · rw [if_pos (by omega), List.getD_eq_getElem?_getD, List.getElem?_append_right (by omega), ← List.getD_eq_getElem?_getD, hpl]
      have h3 := hrow.2.2.1 (j - p)
      rw [show L.sh + off + j - (L.sh + off + p + 0) = j - p by omega]
      simpa using h3.mono hle
  · rw [hg]
    split
    · have h3 := hrow.2.2.2 (j - (L.sh + off + p + 0)) (by omega)
      simpa using h3
    · exact h1' j (by omega) (.inl rfl)

theorem xapp_sound {t u e : TypeId} {i : TypeInfo} {ud : TypeDesc} {z : Rp AV} {zv : Value} {s x : AV} {sv xv : Value} (ht : P.underlying t = some (.slice e)) (hu : P.underlying u = some ud) (hi : P.info? e = some i) (hzv : i.zero = some zv) (hz : cellsR ι z zv.cells) (hzs : zv.cells.size = i.size)
    (hpos : 0 < i.size) (hby : i.bytes ≠ 0) (hr : HR P base ι H w) (hs : VR ι s sv) (hxv : VR ι x xv) (ty : TypeId) (h : xapp i.size i.bytes z (zmOf ud) H s x k = true) : ResV P base ι H w k ((Builtin.append_ #[t, u] ty #[sv, xv]).run P w) := by
  unfold xapp at h
  obtain ⟨n, r, cs, h, hrow, hsz, hisa, hc1, hc2⟩ := appSrc_sound hr hxv hz hzs hpos h
  obtain ⟨hF, hG⟩ := appRun (w := w) ht hu hi hzv hpos hby hisa hc1 hc2
  have hzr : ∀ m i', i' < (Builtin.zeroCells zv.cells m).size → ((Builtin.zeroCells zv.cells m).getD i' Go.undef).oneCell' = true := fun m => (cellsR_zeros hz (by omega) m).2.2.2
  cases hn : Nat.beq n 0 with
  | true =>
    rw [hn] at h
    have hn0 := Nat.eq_of_beq_eq_true hn
    subst hn0
    have hcs : cs = #[] := Array.eq_empty_of_size_eq_zero (by simpa using hsz)
    subst hcs
    have go : ∀ sb sLen sCap, sLen ≤ sCap → (Builtin.append_ #[t, u] ty #[.slice sb sLen sCap, xv]).run P w = .ok (.slice sb sLen sCap) w := fun sb sLen sCap hle =>
      hF ty sb sLen sCap w hle (fun _ _ => store_none _) (fun _ => rfl)
    simp only [cond_true] at h
    split at h
    · cases hs
      exact ResV.pure hr (go _ _ _ (Nat.le_refl _)) .nils h
    · cases hs with
      | slc _ _ _ _ L hL hl => exact ResV.pure hr (go _ _ _ hl) (.slc _ _ _ _ L hL hl) h
    · cases hs with
      | slu _ _ _ _ cap L hL hl he hc => exact ResV.pure hr (go _ _ _ hl) (.slu _ _ _ _ cap L hL hl he hc) h
    · cases hs with
      | slz _ _ _ o cap L hL he hc => exact ResV.pure hr (go _ _ _ (Nat.zero_le _)) (.slz _ _ _ o cap L hL he hc) h
      | slz0 aa => exact ResV.pure hr (go _ _ _ (Nat.le_refl _)) (.slz0 aa) h
    · cases h
  | false =>
    rw [hn] at h
    have hn0 : n ≠ 0 := fun e => by subst e; cases hn
    simp only [cond_false] at h
    split at h
    · -- an empty part at a block's end
      rename_i b off e' _
      obtain ⟨h1, h2⟩ := cond_true_inv h
      have := Nat.eq_of_beq_eq_true h1
      subst this
      obtain ⟨hroom, h3⟩ := cond_true_inv h2
      obtain ⟨c, st, ro, hb, h4⟩ := gcell_inv h3
      obtain ⟨hro, h5⟩ := cond_false_inv h4
      subst hro
      rw [anew_eq, AH.n_kill] at h5
      obtain ⟨o', cap, L, rfl, hL, hc⟩ := hs.slz_inv hpos
      have he := hpos
      by_cases hfit : 0 + n ≤ cap
      · have hcap : o' = L.sh + off ∧ L.sh + off + cap * i.size = L.sz := by
          rcases hc with hc | hc
          · omega
          · exact hc
        obtain ⟨rfl, hend⟩ := hcap
        have hmul : n * i.size ≤ cap * i.size := Nat.mul_le_mul_right _ (by omega)
        obtain ⟨w', hrun, hnx⟩ := moveRow (P := P) (off := off) (r' := r) (p := 0) hr hb hL hrow (Or.inl rfl) (by omega) hrow.1 (by simp)
        refine ⟨_, _, _, _, w', hF ty _ _ _ w' hfit (fun a ea => ?_) (fun en => (by cases en)), hnx, ?_, h5⟩
        · cases ea
          rw [add_none, Nat.zero_mul]
          exact hrun
        · rw [Nat.zero_add]
          exact .slu _ _ _ _ cap _ (Io.ext_self _ _ _) (by omega) he (by simp only; omega)
      · obtain ⟨nc, hnc, hrun⟩ := hG ty (some ⟨L.blk, o', none⟩) 0 cap #[] hfit (Nat.zero_le _) (by rw [Nat.zero_add]; exact hroom) (by simp [Builtin.firstCells, loadCells, loadCellsFrom])
        rw [Array.empty_append] at hrun
        have hmul : n * i.size + (nc - (0 + n)) * i.size = nc * i.size := by rw [← Nat.add_mul]; congr 1; omega
        refine ⟨_, _, _, _, _, hrun, growNew (hr.killNx hL) hrow (hzr _) e st (nc * i.size) (by rw [Array.size_append, zeroCells_size, hsz, hzs, hmul]), ?_, h5⟩
        rw [Nat.zero_add]
        exact .slu _ _ _ _ nc _ (Io.ext_self _ _ _) (by omega) he (by simp only; omega)
    · -- none as yet
      obtain ⟨hroom, h2⟩ := cond_true_inv h
      rw [anew_eq] at h2
      cases hs
      obtain ⟨nc, hnc, hrun⟩ := hG ty none 0 0 #[] (by omega) (Nat.zero_le _) (by rw [Nat.zero_add]; exact hroom) (by simp [Builtin.firstCells])
      rw [Array.empty_append] at hrun
      have hmul : n * i.size + (nc - (0 + n)) * i.size = nc * i.size := by rw [← Nat.add_mul]; congr 1; omega
      refine ⟨_, _, _, _, _, hrun, growNew (Nx.refl hr) hrow (hzr _) e false (nc * i.size) (by rw [Array.size_append, zeroCells_size, hsz, hzs, hmul]), ?_, h2⟩
      rw [Nat.zero_add]
      exact .slu _ _ _ _ nc _ (Io.ext_self _ _ _) (by omega) hpos (by simp only; omega)
    · -- a part whose room is known
      rename_i b off len cap _
      cases hs with
      | slc _ _ _ _ L hL hl =>
      cases hfit : Nat.ble (len + n) cap with
      | true =>
        rw [hfit] at h
        have hfit' := Nat.le_of_ble_eq_true hfit
        simp only [cond_true] at h
        obtain ⟨c, st, ro, hb, h4⟩ := gcell_inv h
        obtain ⟨hro, h5⟩ := cond_false_inv h4
        subst hro
        obtain ⟨hin, h6⟩ := cond_true_inv h5
        rw [fN_eq] at h6
        have hin' := Nat.le_of_ble_eq_true hin
        have hok : c.ok := by
          obtain ⟨cc, el, fr, hw, hor⟩ := hr.cells hb hL
          cases hor; assumption
        rw [Rp.len_eq c hok, Nat.add_mul, ← Nat.add_assoc] at hin'
        obtain ⟨o1, e1⟩ := Rp.put_spec c (off + len * i.size) (n * i.size) r hok hrow.1 (by rw [hrow.2.1, hsz]) hin'
        obtain ⟨w', hw', hnx⟩ := putRow (P := P) (off := off + len * i.size) hr hb hL hrow (by rw [hsz]; exact hin') o1 (by rw [e1, hsz])
        refine ⟨_, _, _, _, w', hF ty _ _ _ w' hfit' (fun a ea => ?_) (fun en => (by cases en)), hnx, .slc _ _ _ _ L hL hfit', h6⟩
        cases ea
        rw [add_none, Nat.add_assoc]
        exact hw'
      | false =>
        rw [hfit] at h
        simp only [cond_false] at h
        have hfit' := lt_of_ble_false hfit
        obtain ⟨hroom, h2⟩ := cond_true_inv h
        obtain ⟨c, st, ro, hb, h3⟩ := gcell_inv h2
        obtain ⟨hin, h4⟩ := cond_true_inv h3
        rw [anew_eq, fN_eq] at h4
        obtain ⟨old, holdR, holdS, hold⟩ := run_firstCells (P := P) (es := i.size) (n := len) (len := len) (cap := cap) hr hb hL (Nat.le_of_ble_eq_true hin)
        obtain ⟨nc, hnc, hrun⟩ := hG ty (some ⟨L.blk, L.sh + off, none⟩) len cap old (by omega) hl hroom (hold _ rfl)
        have hmul : len * i.size + n * i.size + (nc - (len + n)) * i.size = nc * i.size := by rw [← Nat.add_mul, ← Nat.add_mul]; congr 1; omega
        refine ⟨_, _, _, _, _, hrun, growNew (Nx.refl hr) (cellsR_app holdR hrow) (hzr _) e false (nc * i.size) (by rw [Array.size_append, Array.size_append, zeroCells_size, hsz, hzs, holdS, hmul]), ?_, h4⟩
        exact .slu _ _ _ _ nc _ (Io.ext_self _ _ _) hnc hpos (by simp only; omega)
    · -- a part that goes on to its block's end
      rename_i b off len e' _
      obtain ⟨h1, h2⟩ := cond_true_inv h
      have := Nat.eq_of_beq_eq_true h1
      subst this
      obtain ⟨c, st, ro, hb, h4⟩ := gcell_inv h2
      obtain ⟨hro, h5⟩ := cond_false_inv h4
      subst hro
      cases hs with
      | slu _ _ _ _ cap L hL hl he hc =>
      obtain ⟨cc, el, fr, hw, hor⟩ := hr.cells hb hL
      have hbnd : c.ok ∧ L.sh + c.toL.length ≤ L.sz := by
        cases hor; exact ⟨by assumption, by assumption⟩
      obtain ⟨hok, hbd⟩ := hbnd
      cases hin : Nat.ble (off + (len + n) * i.size) c.len with
      | true =>
        rw [hin] at h5
        simp only [cond_true, fN_eq] at h5
        have hin' := Nat.le_of_ble_eq_true hin
        rw [Rp.len_eq c hok] at hin'
        have hfit' : len + n ≤ cap := by
          have : (len + n) * i.size ≤ cap * i.size := by omega
          exact Nat.le_of_mul_le_mul_right this he
        rw [Nat.add_mul, ← Nat.add_assoc] at hin'
        obtain ⟨o1, e1⟩ := Rp.put_spec c (off + len * i.size) (n * i.size) r hok hrow.1 (by rw [hrow.2.1, hsz]) hin'
        obtain ⟨w', hw', hnx⟩ := putRow (P := P) (off := off + len * i.size) hr hb hL hrow (by rw [hsz]; exact hin') o1 (by rw [e1, hsz])
        refine ⟨_, _, _, _, w', hF ty _ _ _ w' hfit' (fun a ea => ?_) (fun en => (by cases en)), hnx, .slu _ _ _ _ cap L hL hfit' he hc, h5⟩
        cases ea
        rw [add_none, Nat.add_assoc]
        exact hw'
      | false =>
        rw [hin] at h5
        simp only [cond_false] at h5
        obtain ⟨hroom, h6⟩ := cond_true_inv h5
        obtain ⟨hlen, h7⟩ := cond_true_inv h6
        rw [anew_eq, AH.n_kill, fN_eq] at h7
        have hlen' := Nat.le_of_ble_eq_true hlen
        by_cases hfit : len + n ≤ cap
        · have hmul : (len + n) * i.size ≤ cap * i.size := Nat.mul_le_mul_right _ hfit
          rw [Nat.add_mul] at hmul
          obtain ⟨os, es⟩ := Rp.sub_spec c off (len * i.size) hok
          obtain ⟨oa, ea⟩ := Rp.app_spec (c.sub off (len * i.size)) r os hrow.1
          have hlen2 : off + len * i.size ≤ c.toL.length := by rw [← Rp.len_eq c hok]; exact hlen'
          obtain ⟨w', hrun, hnx⟩ := moveRow (P := P) (off := off) (r' := (c.sub off (len * i.size)).app r) (p := len * i.size) hr hb hL hrow (Or.inr hlen2) (by omega) oa (by rw [ea, es])
          refine ⟨_, _, _, _, w', hF ty _ _ _ w' hfit (fun a ea => ?_) (fun en => (by cases en)), hnx, ?_, h7⟩
          · cases ea
            rw [add_none]
            exact hrun
          · exact .slu _ _ _ _ cap _ (Io.ext_self _ _ _) (by omega) he (by simp only; omega)
        · obtain ⟨old, holdR, holdS, hold⟩ := run_firstCells (P := P) (es := i.size) (n := len) (len := len) (cap := cap) hr hb hL hlen'
          obtain ⟨nc, hnc, hrun⟩ := hG ty (some ⟨L.blk, L.sh + off, none⟩) len cap old (by omega) hl hroom (hold _ rfl)
          have hmul : len * i.size + n * i.size + (nc - (len + n)) * i.size = nc * i.size := by rw [← Nat.add_mul, ← Nat.add_mul]; congr 1; omega
          refine ⟨_, _, _, _, _, hrun, growNew (hr.killNx hL) (cellsR_app holdR hrow) (hzr _) e st (nc * i.size) (by rw [Array.size_append, Array.size_append, zeroCells_size, hsz, hzs, holdS, hmul]), ?_, h7⟩
          exact .slu _ _ _ _ nc _ (Io.ext_self _ _ _) hnc hpos (by simp only; omega)
    · cases h
end
end Go.Jt
set_option autoImplicit false
set_option linter.all false
namespace Go.Jt
open Go.RowKit (Below)
variable [Gl]

section
variable {P : Program} {base : Nat} {ι : Io} {H : AH} {w : World} {k : AV → AH → Bool} {env : Env} {a : Act}

theorem sound_app (o : Oper) (c : Call) (t u e : TypeId) (s x : Operand) (z : Rp AV) (i : TypeInfo) (ud : TypeDesc) (ho : o.op = .call c) (hc : c.callee = .builtin .append) (hat : c.argTypes = #[t, u]) (ha : c.args = #[s, x])
    (ht : P.underlying t = some (.slice e)) (hu : P.underlying u = some ud) (hz : zeroRow P e = some z) (hi : P.info? e = some i) (hl : z.len = i.size) (hl0 : z.len ≠ 0) (hby : i.bytes ≠ 0) (hr : HR P base ι H w) (he : rowR ι env a.tmps)
    (hx : xop (.app i.size i.bytes z (zmOf ud) (od s) (od x)) env H k = true) : Res P base ι H w k ((execOp a.eval o).run P w) := by
  simp only [xop] at hx
  obtain ⟨i', zv, hi', hzv, hzr⟩ := cellsR_zero ι hz
  rw [hi] at hi'
  cases hi'
  refine ResV.builtin ho hc (f := Builtin.append_) (fun _ _ _ _ => rfl) ?_
  rw [hat, ha]
  simp only [List.map_toArray, List.map_cons, List.map_nil]
  have hsz : zv.cells.size = i.size := by rw [← hl, Rp.len_eq z hzr.1, hzr.2.1]
  exact xapp_sound ht hu hi hzv hzr hsz (by omega) hby hr (ev_sound he s) (ev_sound he x) o.type hx

theorem putCells_sound {b off n : Nat} {r : Rp AV} {K : AH → Bool} {L : Loc} {vs : Array Value} (hr : HR P base ι H w) (hL : ι b = some L) (hrow : cellsR ι r vs) (hsz : vs.size = n) (h : putCells H b off n r K = true) :
    ∃ H' w', (storeCells ⟨L.blk, L.sh + off, none⟩ vs.toList).run P w = .ok () w' ∧ Nx P base ι H w ι H' w' ∧ K H' = true := by
  unfold putCells at h
  obtain ⟨c, st, ro, hb, h4⟩ := gcell_inv h
  obtain ⟨hro, h5⟩ := cond_false_inv h4
  subst hro
  obtain ⟨hin, h6⟩ := cond_true_inv h5
  have hin' := Nat.le_of_ble_eq_true hin
  have hok : c.ok := by
    obtain ⟨cc, el, fr, hw, hor⟩ := hr.cells hb hL
    cases hor; assumption
  rw [Rp.len_eq c hok] at hin'
  obtain ⟨o1, e1⟩ := Rp.put_spec c off n r hok hrow.1 (by rw [hrow.2.1, hsz]) hin'
  obtain ⟨w', hw', hnx⟩ := putRow (P := P) (off := off) hr hb hL hrow (by rw [hsz]; exact hin') o1 (by rw [e1, hsz])
  exact ⟨_, w', hw', hnx, h6⟩

theorem sound_copy (o : Oper) (c : Call) (t : TypeId) (ts : List TypeId) (e : TypeId) (d s : Operand) (i : TypeInfo) (ho : o.op = .call c) (hc : c.callee = .builtin .copy) (hat : c.argTypes.toList = t :: ts) (ha : c.args = #[d, s])
    (ht : P.underlying t = some (.slice e)) (hi : P.info? e = some i) (hr : HR P base ι H w) (he : rowR ι env a.tmps)
    (hx : xop (.copy i.size (od d) (od s)) env H k = true) : Res P base ι H w k ((execOp a.eval o).run P w) := by
  simp only [xop] at hx
  refine ResV.builtin ho hc (f := Builtin.copy_) (fun _ _ _ _ => rfl) ?_
  rw [ha]
  have hd := ev_sound he d
  have hs := ev_sound he s
  generalize hdv : a.eval d = dv at hd
  generalize hsv : a.eval s = sv at hs
  generalize ev env (od d) = dx at hd hx
  generalize ev env (od s) = sx at hs hx
  have h0 : c.argTypes[0]? = some t := by rw [← Array.getElem?_toList, hat]; rfl
  obtain ⟨n, h1, hn⟩ := srcLen_sound (P := P) hs hx
  obtain ⟨m, h2, hm⟩ := srcLen_sound (P := P) hd h1
  rw [fN_eq] at h2
  obtain ⟨r, cs, h3, hrow, hcs, hrun⟩ := srcCells_sound (P := P) hr hs h2
  have hrun' := hrun w rfl
  have hnw := hn w
  have hmw := hm w
  have key : ∀ sb dLen cap w', dv = .slice sb dLen cap → m = dLen → (∀ ad, sb = some ad → (storeCells ad cs.toList).run P w = .ok () w') → (sb = none → w' = w) →
      (Builtin.copy_ c.argTypes o.type #[dv, sv]).run P w = .ok (.int .i64 (Int.ofNat (Nat.min n m))) w' := fun sb dLen cap w' e1 e2 e3 e4 => by
    subst e2
    subst e1
    cases sb with
    | none => rw [e4 rfl]; simp [Builtin.copy_, h0, run_und ht, hnw, run_size hi, hrun', goInt]
    | some ad => simp [Builtin.copy_, h0, run_und ht, hnw, run_size hi, hrun', goInt, e3 ad rfl]
  simp only [List.map_toArray, List.map_cons, List.map_nil, hdv, hsv]
  split at h3
  · cases hd
    have : m = 0 := by
      have := hmw
      simp [Builtin.lenOf] at this
      exact this.symm
    exact ResV.pure hr (key none 0 0 w rfl this (fun _ e => (by cases e)) (fun _ => rfl)) (.int _ _) h3
  · rename_i b off len cap
    cases hd with
    | slc _ _ _ _ L hL hl =>
      have : m = len := by
        have := hmw
        simp [Builtin.lenOf] at this
        exact this.symm
      obtain ⟨H', w', g1, g2, g3⟩ := putCells_sound (P := P) hr hL hrow hcs h3
      exact ⟨_, H', ι, _, w', key _ _ _ w' rfl this (fun ad e => by cases e; exact g1) (fun e => (by cases e)), g2, .int _ _, g3⟩
  · rename_i b off len es
    cases hd with
    | slu _ _ _ _ cap L hL hl he' hc' =>
      have : m = len := by
        have := hmw
        simp [Builtin.lenOf] at this
        exact this.symm
      obtain ⟨H', w', g1, g2, g3⟩ := putCells_sound (P := P) hr hL hrow hcs h3
      exact ⟨_, H', ι, _, w', key _ _ _ w' rfl this (fun ad e => by cases e; exact g1) (fun e => (by cases e)), g2, .int _ _, g3⟩
  · cases hd with
    | slz0 aa =>
      have : m = 0 := by
        have := hmw
        simp [Builtin.lenOf] at this
        exact this.symm
      have hcs0 : cs = #[] := Array.eq_empty_of_size_eq_zero (by rw [hcs, this]; simp)
      exact ResV.pure hr (key _ 0 0 w rfl this (fun ad e => by rw [hcs0]; exact store_none _) (fun _ => rfl)) (.int _ _) h3
    | slz _ _ _ o' cap L hL he' hc' =>
      have : m = 0 := by
        have := hmw
        simp [Builtin.lenOf] at this
        exact this.symm
      have hcs0 : cs = #[] := Array.eq_empty_of_size_eq_zero (by rw [hcs, this]; simp)
      exact ResV.pure hr (key _ 0 cap w rfl this (fun ad e => by rw [hcs0]; exact store_none _) (fun _ => rfl)) (.int _ _) h3
  · cases h3

theorem sound_clrs (o : Oper) (c : Call) (t e : TypeId) (s : Operand) (z : Rp AV) (i : TypeInfo) (ho : o.op = .call c) (hc : c.callee = .builtin .clear) (hat : c.argTypes = #[t]) (ha : c.args = #[s])
    (ht : P.underlying t = some (.slice e)) (hz : zeroRow P e = some z) (hi : P.info? e = some i) (hl : z.len = i.size) (hl0 : z.len ≠ 0) (hr : HR P base ι H w) (he : rowR ι env a.tmps)
    (hx : xop (.clrs i.size z (od s)) env H k = true) : Res P base ι H w k ((execOp a.eval o).run P w) := by
  simp only [xop] at hx
  refine ResV.builtin ho hc (f := Builtin.clear_) (fun _ _ _ _ => rfl) ?_
  rw [hat, ha]
  have hs := ev_sound he s
  generalize hsv : a.eval s = sv at hs
  generalize ev env (od s) = sx at hs hx
  obtain ⟨i', zv, hi', hzv, hzr⟩ := cellsR_zero ι hz
  rw [hi] at hi'
  cases hi'
  have hsz : zv.cells.size = i.size := by rw [← hl, Rp.len_eq z hzr.1, hzr.2.1]
  simp only [List.map_toArray, List.map_cons, List.map_nil, hsv]
  have htup : VR ι (.tup []) (.tuple #[]) := .tup _ _ rfl (fun i => by simp only [List.getD_nil]; exact .undef _)
  have zero : ∀ sb cap, sv = .slice sb 0 cap → (Builtin.clear_ #[t] o.type #[sv]).run P w = .ok (.tuple #[]) w := fun sb cap e1 => by
    subst e1
    cases sb <;> simp [Builtin.clear_, run_und ht]
  have more : ∀ ad n cap w', sv = .slice (some ad) n cap → n ≠ 0 → (storeCells ad (Builtin.zeroCells zv.cells n).toList).run P w = .ok () w' → (Builtin.clear_ #[t] o.type #[sv]).run P w = .ok (.tuple #[]) w' := fun ad n cap w' e1 e2 e3 => by
    subst e1
    obtain ⟨m, rfl⟩ : ∃ m, n = m + 1 := ⟨n - 1, by omega⟩
    simp [Builtin.clear_, run_und ht, run_zero hi hzv, e3]
  have hrow := fun n => cellsR_zeros hzr (by omega : 0 < zv.cells.size) n
  split at hx
  · cases hs; exact ResV.pure hr (zero _ _ rfl) htup hx
  · cases hs <;> exact ResV.pure hr (zero _ _ rfl) htup hx
  · rename_i b off n cap
    cases hs with
    | slc _ _ _ _ L hL hl' =>
    cases hn : Nat.beq n 0 with
    | true =>
      rw [hn] at hx
      have := Nat.eq_of_beq_eq_true hn
      subst this
      exact ResV.pure hr (zero _ _ rfl) htup hx
    | false =>
      rw [hn] at hx
      obtain ⟨H', w', g1, g2, g3⟩ := putCells_sound (P := P) hr hL (hrow n) (by simp [hsz]) hx
      exact ⟨_, H', ι, _, w', more _ n cap w' rfl (fun e => by subst e; cases hn) g1, g2, htup, g3⟩
  · rename_i b off n es
    cases hs with
    | slu _ _ _ _ cap L hL hl' he' hc' =>
    cases hn : Nat.beq n 0 with
    | true =>
      rw [hn] at hx
      have := Nat.eq_of_beq_eq_true hn
      subst this
      exact ResV.pure hr (zero _ _ rfl) htup hx
    | false =>
      rw [hn] at hx
      obtain ⟨H', w', g1, g2, g3⟩ := putCells_sound (P := P) hr hL (hrow n) (by simp [hsz]) hx
      exact ⟨_, H', ι, _, w', more _ n cap w' rfl (fun e => by subst e; cases hn) g1, g2, htup, g3⟩
  · cases hx

theorem sound_mkm (o : Oper) (t : TypeId) (ho : o.op = .makeMap t none) (hr : HR P base ι H w) (hx : xop .mkm env H k = true) : Res P base ι H w k ((execOp a.eval o).run P w) := by
  simp only [xop] at hx
  obtain ⟨ob, f, e, hk⟩ := alc_inv hx
  cases e
  refine ⟨_, _, _, .value (.map (some w.heap.size)), w.alloc (.map #[] 0), by simp [execOp, ho, Instr.makeMap], hr.newNx 0 rfl rfl rfl rfl (.mp _ _ _ rfl (fun i x y h => by simp at h) hr.below), ?_, hk⟩
  exact .map _ _ (Io.ext_self _ _ _)
theorem sound_rng (o : Oper) (t : TypeId) (x : Operand) (ho : o.op = .range t x) (ht : P.underlying t = some .string) (hr : HR P base ι H w) (he : rowR ι env a.tmps) (hx : xop (.rng (od x)) env H k = true) : Res P base ι H w k ((execOp a.eval o).run P w) := by
  simp only [xop] at hx
  have hv := ev_sound he x
  generalize hxv : a.eval x = xv at hv
  split at hx
  · rename_i l e
    rw [e] at hv
    obtain ⟨s, rfl, rfl⟩ := hv.str_inv
    obtain ⟨ob, f, e, hk⟩ := alc_inv hx
    cases e
    refine ⟨_, _, _, .value (.pointer (some ⟨w.heap.size, 0, none⟩)), w.alloc (.stringIter s 0), by simp [execOp, ho, hxv, Instr.range, run_und ht], hr.newNx 0 rfl rfl rfl rfl (.sit s 0 hr.below), ?_, hk⟩
    exact .ptr _ 0 _ (Io.ext_self _ _ _)
  · cases hx
theorem sound_mks (o : Oper) (t e : TypeId) (l c : Operand) (z : Rp AV) (i : TypeInfo) (ho : o.op = .makeSlice t l c) (ht : P.underlying t = some (.slice e)) (hz : zeroRow P e = some z) (hi : P.info? e = some i) (hl : z.len = i.size) (hl0 : z.len ≠ 0)
    (hr : HR P base ι H w) (he : rowR ι env a.tmps) (hx : xop (.mks i.size i.bytes z (od l) (od c)) env H k = true) : Res P base ι H w k ((execOp a.eval o).run P w) := by
  simp only [xop] at hx
  have hv := ev_sound he l
  have hu := ev_sound he c
  generalize hlv : a.eval l = lv at hv
  generalize hcv : a.eval c = cv at hu
  obtain ⟨i', zv, hi', hzv, hzr⟩ := cellsR_zero ι hz
  rw [hi] at hi'
  cases hi'
  have hsz : zv.cells.size = i.size := by rw [← hl, Rp.len_eq z hzr.1, hzr.2.1]
  split at hx
  · rename_i q m q' n e1 e2
    rw [e1] at hv
    rw [e2] at hu
    rw [fN_eq, fN_eq] at hx
    obtain ⟨h1, h2⟩ := cond_true_inv hx
    obtain ⟨h3, h4⟩ := cond_true_inv h2
    obtain ⟨h5, h6⟩ := cond_true_inv h4
    obtain ⟨ob, f, e3, hk⟩ := alc_inv h6
    cases e3
    have h1' := Nat.le_of_ble_eq_true h1
    have h3' := Nat.le_of_ble_eq_true h3
    have h5' := Nat.le_of_ble_eq_true h5
    have hlv' := hv.int_inv
    have hcv' := hu.int_inv
    subst hlv'
    subst hcv'
    have hrow := cellsR_zeros hzr (by omega : 0 < zv.cells.size) n
    have hw1 : IntKind.i64.wrap (m : Int) = (m : Int) := by rw [IntWalk.i64_in]; omega
    have hw2 : IntKind.i64.wrap (n : Int) = (n : Int) := by rw [IntWalk.i64_in]; omega
    have hb1 : ¬ (281474976710656 < (i.bytes : Int) * (n : Int)) := by
      have h7 : ((i.bytes * n : Nat) : Int) ≤ 281474976710656 := Int.ofNat_le.2 h3'
      rw [Int.natCast_mul] at h7
      omega
    have hneg : ¬ ((n : Int) < 0) := by omega
    have hneg' : ¬ ((m : Int) < 0) := by omega
    have hle : ¬ ((n : Int) < (m : Int)) := by omega
    refine Res.newCells hr hrow e (cv := .slice (some ⟨w.heap.size, 0, none⟩) m n) ?_ (.slc _ 0 _ _ ⟨w.heap.size, 0, _⟩ (Io.ext_self _ _ _) h1') hk
    by_cases hn0 : n = 0
    · subst hn0
      have hm0 : m = 0 := by omega
      subst hm0
      have hw0 : IntKind.i64.wrap 0 = 0 := rfl
      simp [execOp, ho, hlv, hcv, Instr.makeSlice, run_und ht, asInt, asIntOf, run_info hi, hw0, run_size hi, run_zero hi hzv, run_newRow]
      have hr0 : Array.range 0 = #[] := rfl
      simp [hr0]
    · have hnn : ¬ (n * i.size = 0) := by rw [Nat.mul_eq_zero]; omega
      have hnn' : ¬ (n = 0 ∨ i.size = 0) := by omega
      simp [execOp, ho, hlv, hcv, Instr.makeSlice, run_und ht, asInt, asIntOf, run_info hi, hw1, hw2, hb1, hneg, hneg', hle, run_size hi, run_zero hi hzv, run_newRow, hnn, hnn', hsz, hn0, h1']
  · cases hx
end
end Go.Jt
