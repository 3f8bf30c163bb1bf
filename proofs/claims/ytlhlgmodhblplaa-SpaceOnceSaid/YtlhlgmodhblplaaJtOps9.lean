/-
  The abstract run of an operation is true to the model's: append, copy, clear of slices, new maps and slices, strings turned to bytes, len, cap, min, max.
-/
import Derived.Test.YtlhlgmodhblplaaJtOps8
import Derived.Lib.ConvBytes
set_option autoImplicit false
set_option linter.all false
namespace Go.Jt
open Go.RowKit (Below)
variable [Gl]

section
variable {P : Program} {base : Nat} {ι : Io} {H : AH} {w : World} {k : AV → AH → Bool} {env : Env} {a : Act}

theorem sound_app (o : Oper) (c : Call) (t u e : TypeId) (s x : Operand) (z : Rp AV) (i : TypeInfo) (ud : TypeDesc) (ho : o.op = .call c) (hc : c.callee = .builtin .append) (hat : c.argTypes = #[t, u]) (ha : c.args = #[s, x])
    (ht : P.underlying t = some (.slice e)) (hu : P.underlying u = some ud) (hz : zeroRow P e = some z) (hi : P.info? e = some i) (hl : z.len = i.size) (hl0 : z.len ≠ 0) (hby : i.bytes ≠ 0) (hr : HR P base ι H w) (he : rowR ι env a.tmps)
    (hx : xop (.app i.size i.bytes z (zmOf ud) (od s) (od x)) env H k = true) : Res P base ι H w k ((execOp a.eval o).run P w) := by
  simp only [xop] at hx
  obtain ⟨i', zv, hi', hzv, hzr⟩ := cellsR_zero ι hz
  rw [hi] at hi'
  cases hi'
  refine ResV.builtin ho hc (f := Builtin.append_) (fun _ _ _ _ => rfl) ?_
  rw [hat, ha]
  simp only [List.map_toArray, List.map_cons, List.map_nil]
  have hsz : zv.cells.size = i.size := by rw [← hl, Rp.len_eq z hzr.1, hzr.2.1]
  exact xapp_sound ht hu hi hzv hzr hsz (by omega) hby hr (ev_sound he s) (ev_sound he x) o.type hx

theorem putCells_sound {b off n : Nat} {r : Rp AV} {K : AH → Bool} {L : Loc} {vs : Array Value} (hr : HR P base ι H w) (hL : ι b = some L) (hrow : cellsR ι r vs) (hsz : vs.size = n) (h : putCells H b off n r K = true) :
    ∃ H' w', (storeCells ⟨L.blk, L.sh + off, none⟩ vs.toList).run P w = .ok () w' ∧ Nx P base ι H w ι H' w' ∧ K H' = true := by
  unfold putCells at h
  obtain ⟨c, st, ro, hb, h4⟩ := gcell_inv h
  obtain ⟨hro, h5⟩ := cond_false_inv h4
  subst hro
  obtain ⟨hin, h6⟩ := cond_true_inv h5
  have hin' := Nat.le_of_ble_eq_true hin
  have hok : c.ok := by
    obtain ⟨cc, el, fr, hw, hor⟩ := hr.cells hb hL
    cases hor; assumption
  rw [Rp.len_eq c hok] at hin'
  obtain ⟨o1, e1⟩ := Rp.put_spec c off n r hok hrow.1 (by rw [hrow.2.1, hsz]) hin'
  obtain ⟨w', hw', hnx⟩ := putRow (P := P) (off := off) hr hb hL hrow (by rw [hsz]; exact hin') o1 (by rw [e1, hsz])
  exact ⟨_, w', hw', hnx, h6⟩

theorem sound_copy (o : Oper) (c : Call) (t : TypeId) (ts : List TypeId) (e : TypeId) (d s : Operand) (i : TypeInfo) (ho : o.op = .call c) (hc : c.callee = .builtin .copy) (hat : c.argTypes.toList = t :: ts) (ha : c.args = #[d, s])
    (ht : P.underlying t = some (.slice e)) (hi : P.info? e = some i) (hr : HR P base ι H w) (he : rowR ι env a.tmps)
    (hx : xop (.copy i.size (od d) (od s)) env H k = true) : Res P base ι H w k ((execOp a.eval o).run P w) := by
  simp only [xop] at hx
  refine ResV.builtin ho hc (f := Builtin.copy_) (fun _ _ _ _ => rfl) ?_
  rw [ha]
  have hd := ev_sound he d
  have hs := ev_sound he s
  generalize hdv : a.eval d = dv at hd
  generalize hsv : a.eval s = sv at hs
  generalize ev env (od d) = dx at hd hx
  generalize ev env (od s) = sx at hs hx
  have h0 : c.argTypes[0]? = some t := by rw [← Array.getElem?_toList, hat]; rfl
  obtain ⟨n, h1, hn⟩ := srcLen_sound (P := P) hs hx
  obtain ⟨m, h2, hm⟩ := srcLen_sound (P := P) hd h1
  rw [fN_eq] at h2
  obtain ⟨r, cs, h3, hrow, hcs, hrun⟩ := srcCells_sound (P := P) hr hs h2
  have hrun' := hrun w rfl
  have hnw := hn w
  have hmw := hm w
  have key : ∀ sb dLen cap w', dv = .slice sb dLen cap → m = dLen → (∀ ad, sb = some ad → (storeCells ad cs.toList).run P w = .ok () w') → (sb = none → w' = w) →
      (Builtin.copy_ c.argTypes o.type #[dv, sv]).run P w = .ok (.int .i64 (Int.ofNat (Nat.min n m))) w' := fun sb dLen cap w' e1 e2 e3 e4 => by
    subst e2
    subst e1
    cases sb with
    | none => rw [e4 rfl]; simp [Builtin.copy_, h0, run_und ht, hnw, run_size hi, hrun', goInt]
    | some ad => simp [Builtin.copy_, h0, run_und ht, hnw, run_size hi, hrun', goInt, e3 ad rfl]
  simp only [List.map_toArray, List.map_cons, List.map_nil, hdv, hsv]
  split at h3
  · cases hd
    have : m = 0 := by
      have := hmw
      simp [Builtin.lenOf] at this
      exact this.symm
    exact ResV.pure hr (key none 0 0 w rfl this (fun _ e => (by cases e)) (fun _ => rfl)) (.int _ _) h3
  · rename_i b off len cap
    cases hd with
    | slc _ _ _ _ L hL hl =>
      have : m = len := by
        have := hmw
        simp [Builtin.lenOf] at this
        exact this.symm
      obtain ⟨H', w', g1, g2, g3⟩ := putCells_sound (P := P) hr hL hrow hcs h3
      exact ⟨_, H', ι, _, w', key _ _ _ w' rfl this (fun ad e => by cases e; exact g1) (fun e => (by cases e)), g2, .int _ _, g3⟩
  · rename_i b off len es
    cases hd with
    | slu _ _ _ _ cap L hL hl he' hc' =>
      have : m = len := by
        have := hmw
        simp [Builtin.lenOf] at this
        exact this.symm
      obtain ⟨H', w', g1, g2, g3⟩ := putCells_sound (P := P) hr hL hrow hcs h3
      exact ⟨_, H', ι, _, w', key _ _ _ w' rfl this (fun ad e => by cases e; exact g1) (fun e => (by cases e)), g2, .int _ _, g3⟩
  · cases hd with
    | slz0 aa =>
      have : m = 0 := by
        have := hmw
        simp [Builtin.lenOf] at this
        exact this.symm
      have hcs0 : cs = #[] := Array.eq_empty_of_size_eq_zero (by rw [hcs, this]; simp)
      exact ResV.pure hr (key _ 0 0 w rfl this (fun ad e => by rw [hcs0]; exact store_none _) (fun _ => rfl)) (.int _ _) h3
    | slz _ _ _ o' cap L hL he' hc' =>
      have : m = 0 := by
        have := hmw
        simp [Builtin.lenOf] at this
        exact this.symm
      have hcs0 : cs = #[] := Array.eq_empty_of_size_eq_zero (by rw [hcs, this]; simp)
      exact ResV.pure hr (key _ 0 cap w rfl this (fun ad e => by rw [hcs0]; exact store_none _) (fun _ => rfl)) (.int _ _) h3
  · cases h3

theorem sound_clrs (o : Oper) (c : Call) (t e : TypeId) (s : Operand) (z : Rp AV) (i : TypeInfo) (ho : o.op = .call c) (hc : c.callee = .builtin .clear) (hat : c.argTypes = #[t]) (ha : c.args = #[s])
    (ht : P.underlying t = some (.slice e)) (hz : zeroRow P e = some z) (hi : P.info? e = some i) (hl : z.len = i.size) (hl0 : z.len ≠ 0) (hr : HR P base ι H w) (he : rowR ι env a.tmps)
    (hx : xop (.clrs i.size z (od s)) env H k = true) : Res P base ι H w k ((execOp a.eval o).run P w) := by
  simp only [xop] at hx
  refine ResV.builtin ho hc (f := Builtin.clear_) (fun _ _ _ _ => rfl) ?_
  rw [hat, ha]
  have hs := ev_sound he s
  generalize hsv : a.eval s = sv at hs
  generalize ev env (od s) = sx at hs hx
  obtain ⟨i', zv, hi', hzv, hzr⟩ := cellsR_zero ι hz
  rw [hi] at hi'
  cases hi'
  have hsz : zv.cells.size = i.size := by rw [← hl, Rp.len_eq z hzr.1, hzr.2.1]
  simp only [List.map_toArray, List.map_cons, List.map_nil, hsv]
  have htup : VR ι (.tup []) (.tuple #[]) := .tup _ _ rfl (fun i => by simp only [List.getD_nil]; exact .undef _)
  have zero : ∀ sb cap, sv = .slice sb 0 cap → (Builtin.clear_ #[t] o.type #[sv]).run P w = .ok (.tuple #[]) w := fun sb cap e1 => by
    subst e1
    cases sb <;> simp [Builtin.clear_, run_und ht]
  have more : ∀ ad n cap w', sv = .slice (some ad) n cap → n ≠ 0 → (storeCells ad (Builtin.zeroCells zv.cells n).toList).run P w = .ok () w' → (Builtin.clear_ #[t] o.type #[sv]).run P w = .ok (.tuple #[]) w' := fun ad n cap w' e1 e2 e3 => by
    subst e1
    obtain ⟨m, rfl⟩ : ∃ m, n = m + 1 := ⟨n - 1, by omega⟩
    simp [Builtin.clear_, run_und ht, run_zero hi hzv, e3]
  have hrow := fun n => cellsR_zeros hzr (by omega : 0 < zv.cells.size) n
  split at hx
  · cases hs; exact ResV.pure hr (zero _ _ rfl) htup hx
  · cases hs <;> exact ResV.pure hr (zero _ _ rfl) htup hx
  · rename_i b off n cap
    cases hs with
    | slc _ _ _ _ L hL hl' =>
    cases hn : Nat.beq n 0 with
    | true =>
      rw [hn] at hx
      have := Nat.eq_of_beq_eq_true hn
      subst this
      exact ResV.pure hr (zero _ _ rfl) htup hx
    | false =>
      rw [hn] at hx
      obtain ⟨H', w', g1, g2, g3⟩ := putCells_sound (P := P) hr hL (hrow n) (by simp [hsz]) hx
      exact ⟨_, H', ι, _, w', more _ n cap w' rfl (fun e => by subst e; cases hn) g1, g2, htup, g3⟩
  · rename_i b off n es
    cases hs with
    | slu _ _ _ _ cap L hL hl' he' hc' =>
    cases hn : Nat.beq n 0 with
    | true =>
      rw [hn] at hx
      have := Nat.eq_of_beq_eq_true hn
      subst this
      exact ResV.pure hr (zero _ _ rfl) htup hx
    | false =>
      rw [hn] at hx
      obtain ⟨H', w', g1, g2, g3⟩ := putCells_sound (P := P) hr hL (hrow n) (by simp [hsz]) hx
      exact ⟨_, H', ι, _, w', more _ n cap w' rfl (fun e => by subst e; cases hn) g1, g2, htup, g3⟩
  · cases hx

theorem sound_mkm (o : Oper) (t : TypeId) (ho : o.op = .makeMap t none) (hr : HR P base ι H w) (hx : xop .mkm env H k = true) : Res P base ι H w k ((execOp a.eval o).run P w) := by
  simp only [xop] at hx
  obtain ⟨ob, f, e, hk⟩ := alc_inv hx
  cases e
  refine ⟨_, _, _, .value (.map (some w.heap.size)), w.alloc (.map #[] 0), by simp [execOp, ho, Instr.makeMap], hr.newNx 0 rfl rfl rfl rfl (.mp _ _ _ rfl (fun i x y h => by simp at h) hr.below), ?_, hk⟩
  exact .map _ _ (Io.ext_self _ _ _)
theorem sound_rng (o : Oper) (t : TypeId) (x : Operand) (ho : o.op = .range t x) (ht : P.underlying t = some .string) (hr : HR P base ι H w) (he : rowR ι env a.tmps) (hx : xop (.rng (od x)) env H k = true) : Res P base ι H w k ((execOp a.eval o).run P w) := by
  simp only [xop] at hx
  have hv := ev_sound he x
  generalize hxv : a.eval x = xv at hv
  split at hx
  · rename_i l e
    rw [e] at hv
    obtain ⟨s, rfl, rfl⟩ := hv.str_inv
    obtain ⟨ob, f, e, hk⟩ := alc_inv hx
    cases e
    refine ⟨_, _, _, .value (.pointer (some ⟨w.heap.size, 0, none⟩)), w.alloc (.stringIter s 0), by simp [execOp, ho, hxv, Instr.range, run_und ht], hr.newNx 0 rfl rfl rfl rfl (.sit s 0 hr.below), ?_, hk⟩
    exact .ptr _ 0 _ (Io.ext_self _ _ _)
  · cases hx
theorem sound_mks (o : Oper) (t e : TypeId) (l c : Operand) (z : Rp AV) (i : TypeInfo) (ho : o.op = .makeSlice t l c) (ht : P.underlying t = some (.slice e)) (hz : zeroRow P e = some z) (hi : P.info? e = some i) (hl : z.len = i.size) (hl0 : z.len ≠ 0)
    (hr : HR P base ι H w) (he : rowR ι env a.tmps) (hx : xop (.mks i.size i.bytes z (od l) (od c)) env H k = true) : Res P base ι H w k ((execOp a.eval o).run P w) := by
  simp only [xop] at hx
  have hv := ev_sound he l
  have hu := ev_sound he c
  generalize hlv : a.eval l = lv at hv
  generalize hcv : a.eval c = cv at hu
  obtain ⟨i', zv, hi', hzv, hzr⟩ := cellsR_zero ι hz
  rw [hi] at hi'
  cases hi'
  have hsz : zv.cells.size = i.size := by rw [← hl, Rp.len_eq z hzr.1, hzr.2.1]
  split at hx
  · rename_i q m q' n e1 e2
    rw [e1] at hv
    rw [e2] at hu
    rw [fN_eq, fN_eq] at hx
    obtain ⟨h1, h2⟩ := cond_true_inv hx
    obtain ⟨h3, h4⟩ := cond_true_inv h2
    obtain ⟨h5, h6⟩ := cond_true_inv h4
    obtain ⟨ob, f, e3, hk⟩ := alc_inv h6
    cases e3
    have h1' := Nat.le_of_ble_eq_true h1
    have h3' := Nat.le_of_ble_eq_true h3
    have h5' := Nat.le_of_ble_eq_true h5
    have hlv' := hv.int_inv
    have hcv' := hu.int_inv
    subst hlv'
    subst hcv'
    have hrow := cellsR_zeros hzr (by omega : 0 < zv.cells.size) n
    have hw1 : IntKind.i64.wrap (m : Int) = (m : Int) := by rw [IntWalk.i64_in]; omega
    have hw2 : IntKind.i64.wrap (n : Int) = (n : Int) := by rw [IntWalk.i64_in]; omega
    have hb1 : ¬ (281474976710656 < (i.bytes : Int) * (n : Int)) := by
      have h7 : ((i.bytes * n : Nat) : Int) ≤ 281474976710656 := Int.ofNat_le.2 h3'
      rw [Int.natCast_mul] at h7
      omega
    have hneg : ¬ ((n : Int) < 0) := by omega
    have hneg' : ¬ ((m : Int) < 0) := by omega
    have hle : ¬ ((n : Int) < (m : Int)) := by omega
    refine Res.newCells hr hrow e (cv := .slice (some ⟨w.heap.size, 0, none⟩) m n) ?_ (.slc _ 0 _ _ ⟨w.heap.size, 0, _⟩ (Io.ext_self _ _ _) h1') hk
    by_cases hn0 : n = 0
    · subst hn0
      have hm0 : m = 0 := by omega
      subst hm0
      have hw0 : IntKind.i64.wrap 0 = 0 := rfl
      simp [execOp, ho, hlv, hcv, Instr.makeSlice, run_und ht, asInt, asIntOf, run_info hi, hw0, run_size hi, run_zero hi hzv, run_newRow]
      have hr0 : Array.range 0 = #[] := rfl
      simp [hr0]
    · have hnn : ¬ (n * i.size = 0) := by rw [Nat.mul_eq_zero]; omega
      have hnn' : ¬ (n = 0 ∨ i.size = 0) := by omega
      simp [execOp, ho, hlv, hcv, Instr.makeSlice, run_und ht, asInt, asIntOf, run_info hi, hw1, hw2, hb1, hneg, hneg', hle, run_size hi, run_zero hi hzv, run_newRow, hnn, hnn', hsz, hn0, h1']
  · cases hx
end
end Go.Jt
