/-
  The abstract run of an operation is true to the model's: strings turned to bytes, len, cap, min, max.
-/
import Derived.Test.YtlhlgmodhblplaaJtOps10
set_option autoImplicit false
set_option linter.all false
namespace Go.Jt
open Go.RowKit (Below)
variable [Gl]

section
variable {P : Program} {base : Nat} {ι : Io} {H : AH} {w : World} {k : AV → AH → Bool} {env : Env} {a : Act}

theorem run_str2bytes (s d e : TypeId) (x : ByteArray) (u : TypeDesc) (hs : P.underlying s = some u) (hd : P.underlying d = some (.slice e)) (hee : P.underlying e = some (.int .u8)) :
    (convert s d (.string x)).run P w = .ok (.slice (some ⟨w.heap.size, 0, none⟩) x.size (grownCap w x.size 0 e)) (Lib.bytesWorld w e x) := Lib.run_convert_string_bytes w s d e x hs hd hee
theorem bytesWorld_push (e : TypeId) (x : ByteArray) : (Lib.bytesWorld w e x).heap = w.heap.push (.cells (Lib.bytesCells w e x) e ((Lib.bytesCells w e x).size, (Lib.bytesCells w e x).size + 1)) := by
  apply Array.ext_getElem?
  intro j
  rw [Array.getElem?_push]
  by_cases hj : j = w.heap.size
  · subst hj
    rw [if_pos rfl, Lib.bytesWorld_at_new]
  · rw [if_neg hj]
    rcases Nat.lt_or_ge j w.heap.size with h | h
    · exact Lib.bytesWorld_at_old w e x j h
    · rw [Array.getElem?_eq_none (by rw [Lib.bytesWorld_size]; omega), Array.getElem?_eq_none h]
theorem grownCap_ge (n : Nat) (e : TypeId) : n ≤ grownCap w n 0 e := by
  unfold grownCap
  simp [Question.cut]
theorem sound_s2b (o : Oper) (s d e : TypeId) (x : Operand) (u : TypeDesc) (ho : o.op = .convert s d x) (hs : P.underlying s = some u) (hd : P.underlying d = some (.slice e)) (hee : P.underlying e = some (.int .u8)) (hr : HR P base ι H w) (he : rowR ι env a.tmps)
    (hx : xop (.s2b (od x)) env H k = true) : Res P base ι H w k ((execOp a.eval o).run P w) := by
  simp only [xop] at hx
  have hv := ev_sound he x
  generalize hxv : a.eval x = xv at hv
  generalize ev env (od x) = vx at hv hx
  split at hx
  · rename_i l
    obtain ⟨b, rfl, rfl⟩ := hv.str_inv
    rw [fN_eq, llen_eq, bytesOf_len] at hx
    obtain ⟨ob, f, e1, hk⟩ := alc_inv hx
    cases e1
    have hrow := cellsR_str ι b b.size
    have htk : (bytesOf b).take b.size = bytesOf b := List.take_of_length_le (by rw [bytesOf_len]; omega)
    rw [htk] at hrow
    have hex : b.extract 0 b.size = b := by
      apply ByteArray.ext
      apply Array.toList_inj.1
      rw [Lib.extract_data]
      simp only [Nat.sub_zero, List.drop_zero]
      exact List.take_of_length_le (by rw [Array.length_toList]; exact Nat.le_refl _)
    rw [hex] at hrow
    have hcells : Lib.bytesCells w e b = (b.data.map fun b => Value.int .u8 b.toNat) ++ Array.replicate (grownCap w b.size 0 e - b.size) (.int .u8 0) := rfl
    have hge := grownCap_ge (w := w) b.size e
    have hsz : (Lib.bytesCells w e b).size = grownCap w b.size 0 e * 1 := by
      rw [hcells, Array.size_append, Array.size_map, Array.size_replicate]
      have : b.data.size = b.size := rfl
      omega
    refine ⟨_, _, _, .value (.slice (some ⟨w.heap.size, 0, none⟩) b.size (grownCap w b.size 0 e)), Lib.bytesWorld w e b, by simp [execOp, ho, hxv, run_str2bytes s d e b u hs hd hee], hr.newNx (grownCap w b.size 0 e * 1) (bytesWorld_push e b) rfl rfl rfl ?_, ?_, hk⟩
    · have hle := ext_le_new hr ⟨w.heap.size, 0, grownCap w b.size 0 e * 1⟩
      have hr2 := hrow.mono hle
      refine .cells _ true false _ e _ hr2.1 hsz ?_ (fun i hi => ?_) (fun i hi _ => ?_) (fun o ho _ => by simp only; omega) (fun h => by cases h) (fun _ => hr.below)
      · simp only [hr2.2.1, Array.size_map]
        have : b.data.size = b.size := rfl
        omega
      · rw [hr2.2.1] at hi
        simp only [Nat.zero_add]
        rw [hcells, Array.getD_eq_getD_getElem?, Array.getElem?_append_left hi, ← Array.getD_eq_getD_getElem?]
        exact hr2.2.2.1 i
      · rw [hcells] at hi ⊢
        by_cases hi' : i < (b.data.map fun b => Value.int .u8 b.toNat).size
        · rw [Array.getD_eq_getD_getElem?, Array.getElem?_append_left hi', ← Array.getD_eq_getD_getElem?]
          exact hr2.2.2.2 i hi'
        · rw [Array.getD_eq_getD_getElem?, Array.getElem?_append_right (by omega)]
          rw [Array.size_append] at hi
          rw [Array.getElem?_eq_getElem (by omega)]
          simp [Value.oneCell']
    · show VR _ (.slu H.n 0 (b.size + 0) 1) _
      rw [Nat.add_zero]
      exact .slu _ 0 _ 1 _ ⟨w.heap.size, 0, grownCap w b.size 0 e * 1⟩ (Io.ext_self _ _ _) hge (by omega) (by simp only; omega)
  · cases hx

theorem sound_len (o : Oper) (c : Call) (t : TypeId) (x : Operand) (lk : Nat) (ud : TypeDesc) (ho : o.op = .call c) (hc : c.callee = .builtin .len) (hat : c.argTypes = #[t]) (ha : c.args = #[x])
    (ht : P.underlying t = some ud) (hlk : (lk = 0 ∧ ud = .string) ∨ (lk = 1 ∧ ∃ e, ud = .slice e) ∨ (lk = 2 ∧ ∃ q e, ud = .map q e)) (hr : HR P base ι H w) (he : rowR ι env a.tmps) (hx : xop (.len lk (od x)) env H k = true) : Res P base ι H w k ((execOp a.eval o).run P w) := by
  simp only [xop] at hx
  refine ResV.builtin ho hc (f := Builtin.len_) (fun _ _ _ _ => rfl) ?_
  rw [hat, ha]
  have hv := ev_sound he x
  simp only [List.map_toArray, List.map_cons, List.map_nil]
  generalize a.eval x = xv at hv
  generalize ev env (od x) = vx at hv hx
  rcases hlk with ⟨rfl, rfl⟩ | ⟨rfl, e, rfl⟩ | ⟨rfl, q, e, rfl⟩
  · simp only at hx
    split at hx
    · obtain ⟨b, rfl, rfl⟩ := hv.str_inv
      rw [fN_eq, llen_eq, bytesOf_len] at hx
      exact ResV.pure hr (cv := .int .i64 (Int.ofNat b.size)) (by simp [Builtin.len_, run_und ht, goInt]) (.int _ _) hx
    · cases hx
  · simp only at hx
    split at hx
    · cases hx
    · rename_i hns
      obtain ⟨n, h1, hn⟩ := srcLen_sound (P := P) hv hx
      refine ResV.pure hr (cv := .int .i64 (Int.ofNat n)) ?_ (.int _ _) h1
      have hn := hn w
      cases xv <;> simp [Builtin.lenOf] at hn
      · cases hv with
        | undef => cases hx
        | str s => exact (hns _ rfl).elim
      · subst hn
        simp [Builtin.len_, run_und ht, goInt]
  · simp only at hx
    split at hx
    · rename_i r
      obtain ⟨es, ck, hb, hx⟩ := gmap_inv hx
      cases hv with
      | map _ L hL =>
      obtain ⟨ents, hw, hl, hent, hbase⟩ := hr.mapAt hb hL
      rw [fN_eq, llen_eq] at hx
      have hl' : es.length = ents.size := by simpa using hl
      exact ResV.pure hr (cv := .int .i64 (Int.ofNat (es.length + 0))) (by simp [Builtin.len_, run_und ht, goInt, run_getMap hw, hl']) (.int _ _) hx
    · cases hv
      exact ResV.pure hr (cv := .int .i64 0) (by simp [Builtin.len_, run_und ht, goInt]) (.int _ _) hx
    · cases hx
theorem sound_capo (o : Oper) (c : Call) (t e : TypeId) (x : Operand) (ho : o.op = .call c) (hc : c.callee = .builtin .cap) (hat : c.argTypes = #[t]) (ha : c.args = #[x])
    (ht : P.underlying t = some (.slice e)) (hr : HR P base ι H w) (he : rowR ι env a.tmps) (hx : xop (.capo (od x)) env H k = true) : Res P base ι H w k ((execOp a.eval o).run P w) := by
  simp only [xop] at hx
  refine ResV.builtin ho hc (f := Builtin.cap_) (fun _ _ _ _ => rfl) ?_
  rw [hat, ha]
  have hv := ev_sound he x
  simp only [List.map_toArray, List.map_cons, List.map_nil]
  generalize a.eval x = xv at hv
  generalize ev env (od x) = vx at hv hx
  split at hx
  · cases hv
    exact ResV.pure hr (cv := .int .i64 0) (by simp [Builtin.cap_, run_und ht, goInt]) (.int _ _) hx
  · rename_i b off len cap
    cases hv
    exact ResV.pure hr (cv := .int .i64 (Int.ofNat cap)) (by simp [Builtin.cap_, run_und ht, goInt]) (.int _ _) hx
  · cases hx
theorem sound_mx (o : Oper) (c : Call) (x y : Operand) (ho : o.op = .call c) (hc : c.callee = .builtin .max) (ha : c.args = #[x, y])
    (hr : HR P base ι H w) (he : rowR ι env a.tmps) (hx : xop (.mx (od x) (od y)) env H k = true) : Res P base ι H w k ((execOp a.eval o).run P w) := by
  simp only [xop] at hx
  refine ResV.builtin ho hc (f := Builtin.max_) (fun _ _ _ _ => rfl) ?_
  rw [ha]
  have hv := ev_sound he x
  have hu := ev_sound he y
  simp only [List.map_toArray, List.map_cons, List.map_nil]
  generalize a.eval x = xv at hv
  generalize ev env (od x) = vx at hv hx
  generalize a.eval y = yv at hu
  generalize ev env (od y) = vy at hu hx
  split at hx
  · rename_i q n r m
    cases hv
    cases hu
    refine ResV.pure hr (cv := .int q (if m > n then m else n)) (by simp [Builtin.max_, Builtin.max2]) ?_ hx
    rw [ile_eq]
    by_cases h : m ≤ n
    · have : ¬ (m > n) := by omega
      rw [if_neg this]
      simp [h]
      exact .int _ _
    · have : m > n := by omega
      rw [if_pos this]
      simp [h]
      exact .int _ _
  · cases hx
theorem sound_mn (o : Oper) (c : Call) (x y : Operand) (ho : o.op = .call c) (hc : c.callee = .builtin .min) (ha : c.args = #[x, y])
    (hr : HR P base ι H w) (he : rowR ι env a.tmps) (hx : xop (.mn (od x) (od y)) env H k = true) : Res P base ι H w k ((execOp a.eval o).run P w) := by
  simp only [xop] at hx
  refine ResV.builtin ho hc (f := Builtin.min_) (fun _ _ _ _ => rfl) ?_
  rw [ha]
  have hv := ev_sound he x
  have hu := ev_sound he y
  simp only [List.map_toArray, List.map_cons, List.map_nil]
  generalize a.eval x = xv at hv
  generalize ev env (od x) = vx at hv hx
  generalize a.eval y = yv at hu
  generalize ev env (od y) = vy at hu hx
  split at hx
  · rename_i q n r m
    cases hv
    cases hu
    refine ResV.pure hr (cv := .int q (if m < n then m else n)) (by simp [Builtin.min_, Builtin.min2]) ?_ hx
    rw [ile_eq]
    by_cases h : n ≤ m
    · have : ¬ (m < n) := by omega
      rw [if_neg this]
      simp [h]
      exact .int _ _
    · have : m < n := by omega
      rw [if_pos this]
      simp [h]
      exact .int _ _
  · cases hx
theorem sound_xorn (o : Oper) (t : TypeId) (x : Operand) (ho : o.op = .unOp .xor t x) (hr : HR P base ι H w) (he : rowR ι env a.tmps) (hx : xop (.xorn (od x)) env H k = true) :
    Res P base ι H w k ((execOp a.eval o).run P w) := by
  simp only [xop] at hx
  have hv := ev_sound he x
  generalize hxv : a.eval x = xv at hv
  generalize ev env (od x) = vx at hv hx
  split at hx
  · rename_i q n
    cases hv
    rw [fI_eq, bits2_eq Nat.xor (fun _ a b => a ^^^ b) (fun q x y => BitVec.toNat_xor x y)] at hx
    refine Res.pure hr (cv := _) ?_ (.int _ _) hx
    simp [execOp, ho, hxv, Op.unary, Op.intBits]
  · cases hx
end
end Go.Jt
