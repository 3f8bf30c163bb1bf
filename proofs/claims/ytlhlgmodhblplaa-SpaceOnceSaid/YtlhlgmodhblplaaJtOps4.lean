/-
  The abstract run of an operation is true to the model's: structs and arrays put together and taken apart.
-/
import Derived.Test.YtlhlgmodhblplaaJtOps3
import Derived.Laws.Tables
set_option autoImplicit false
set_option linter.all false
namespace Go.Jt
open Go.RowKit (Below)
variable [Gl]

theorem foldl_set (vs : List Value) : ∀ (off s : Nat) (c : Array Value), off + s + vs.length ≤ c.size →
    ((vs.zipIdx s).foldl (fun cs (x : Value × Nat) => cs.setIfInBounds (off + x.2) x.1) c).size = c.size ∧
    ∀ j, ((vs.zipIdx s).foldl (fun cs (x : Value × Nat) => cs.setIfInBounds (off + x.2) x.1) c).getD j Go.undef = if off + s ≤ j ∧ j < off + s + vs.length then vs.getD (j - (off + s)) Go.undef else c.getD j Go.undef := by
  induction vs with
  | nil => intro off s c _; exact ⟨rfl, fun j => by rw [if_neg (by simp only [List.length_nil]; omega)]; rfl⟩
  | cons v vs ih =>
    intro off s c h
    simp only [List.length_cons] at h
    simp only [List.zipIdx_cons, List.foldl_cons]
    obtain ⟨h1, h2⟩ := ih off (s + 1) (c.setIfInBounds (off + s) v) (by simp; omega)
    refine ⟨by rw [h1]; simp, fun j => ?_⟩
    rw [h2 j]
    simp only [List.length_cons]
    by_cases hj : j = off + s
    · subst hj
      rw [if_neg (by omega), if_pos (by omega)]
      simp [show off + s < c.size by omega]
    · by_cases hj2 : off + (s + 1) ≤ j ∧ j < off + (s + 1) + vs.length
      · rw [if_pos hj2, if_pos (by omega)]
        obtain ⟨k, hk⟩ : ∃ k, j - (off + s) = k + 1 := ⟨j - (off + s) - 1, by omega⟩
        rw [hk, List.getD_cons_succ]
        congr 1; omega
      · rw [if_neg hj2, if_neg (by omega)]
        simp only [Array.getD_eq_getD_getElem?]
        rw [Array.getElem?_setIfInBounds, if_neg (by omega)]

section
variable {P : Program} {base : Nat} {ι : Io} {H : AH} {w : World} {k : AV → AH → Bool} {env : Env} {a : Act}

/-- a row of cells with a part of it put in -/
theorem cellsR_put {z r : Rp AV} {zc vs zc' : Array Value} {off : Nat} (hz : cellsR ι z zc) (hr : cellsR ι r vs) (hn : off + vs.size ≤ zc.size)
    (hs : zc'.size = zc.size) (hg : ∀ j, zc'.getD j Go.undef = if off ≤ j ∧ j < off + vs.size then vs.getD (j - off) Go.undef else zc.getD j Go.undef) {z' : Rp AV} (hz' : z'.ok)
    (ht : z'.toL = z.toL.take off ++ (r.toL ++ z.toL.drop (off + vs.size))) : cellsR ι z' zc' := by
  have hl := hz.2.1
  have hlen : z'.toL.length = zc.size := by rw [ht]; simp [hr.2.1]; omega
  refine ⟨hz', by rw [hlen, hs], fun i => ?_, fun i hi => ?_⟩
  · rw [hg, ht]
    simp only [List.getD_eq_getElem?_getD]
    by_cases h1 : i < off
    · rw [if_neg (by omega), List.getElem?_append_left (by simp; omega), List.getElem?_take_of_lt h1, ← List.getD_eq_getElem?_getD]
      exact hz.2.2.1 i
    · by_cases h2 : i < off + vs.size
      · rw [if_pos (by omega), List.getElem?_append_right (by simp; omega), List.getElem?_append_left (by simp [hr.2.1]; omega), ← List.getD_eq_getElem?_getD]
        have e2 : i - (z.toL.take off).length = i - off := by simp; omega
        rw [e2]
        exact hr.2.2.1 _
      · rw [if_neg (by omega), List.getElem?_append_right (by simp; omega), List.getElem?_append_right (by simp [hr.2.1]; omega), List.getElem?_drop, ← List.getD_eq_getElem?_getD]
        have e1 : off + vs.size + (i - (z.toL.take off).length - r.toL.length) = i := by simp [hr.2.1]; omega
        rw [e1]
        exact hz.2.2.1 i
  · rw [hg]
    split
    · exact hr.2.2.2 _ (by omega)
    · exact hz.2.2.2 i (by omega)
theorem fill_sound (he : rowR ι env a.tmps) (pl : Nat → Option (Nat × Nat)) (K : Rp AV → Bool) (ps : List (Nat × Operand)) : ∀ (l : List (Nat × Nat × Od)) (z : Rp AV) (zc : Array Value), parts pl ps = some l → cellsR ι z zc → fillIn env z l K = true →
    ∃ r c, Instr.fill pl zc (ps.map fun p => (p.1, a.eval p.2)) = some c ∧ cellsR ι r c ∧ c.size = zc.size ∧ K r = true := by
  induction ps with
  | nil =>
    intro l z zc hp hz hf
    simp only [parts] at hp
    cases hp
    exact ⟨z, zc, rfl, hz, rfl, hf⟩
  | cons p ps ih =>
    intro l z zc hp hz hf
    obtain ⟨i, x⟩ := p
    simp only [parts] at hp
    split at hp
    · rename_i off n r h1 h2
      cases hp
      have hf' : (match ev env (od x) with
        | .agg r' => cond (Nat.beq r'.len n) (cond (Nat.ble (off + n) z.len) (fillIn env (z.put off n r') r K) false) false
        | v => cond v.sc (cond (Nat.beq n 1) (cond (Nat.ble (off + 1) z.len) (fillIn env (z.set off v) r K) false) false) false) = true := hf
      have hv := ev_sound he x
      generalize hxv : a.eval x = xv at hv
      have hlz : z.len = zc.size := by rw [Rp.len_eq z hz.1]; exact hz.2.1
      have step : ∀ (z' : Rp AV) (vs : Array Value), xv.cells = vs → vs.size = n → off + n ≤ zc.size → (∀ zc' : Array Value, zc'.size = zc.size → (∀ j, zc'.getD j Go.undef = if off ≤ j ∧ j < off + vs.size then vs.getD (j - off) Go.undef else zc.getD j Go.undef) → cellsR ι z' zc') → fillIn env z' r K = true →
          ∃ r c, Instr.fill pl zc (((i, x) :: ps).map fun p => (p.1, a.eval p.2)) = some c ∧ cellsR ι r c ∧ c.size = zc.size ∧ K r = true := by
        intro z' vs hc hn hle hcr hK
        obtain ⟨g1, g2⟩ := foldl_set vs.toList off 0 zc (by simp; omega)
        obtain ⟨r', c', e1, e2, e3, e4⟩ := ih r z' _ h2 (hcr _ g1 (fun j => by rw [g2 j]; simp)) hK
        refine ⟨r', c', ?_, e2, by rw [e3, g1], e4⟩
        simp only [List.map_cons, Instr.fill, h1, hxv, hc]
        have hcond : ¬ ((decide (vs.size ≠ n) || decide (off + vs.size > zc.size)) = true) := by simp; omega
        rw [if_neg hcond]
        rw [← e1]
        congr 1
        rw [← Array.foldl_toList]
        simp
      split at hf'
      · rename_i r' er
        rw [er] at hv
        obtain ⟨vs, rfl, hrow⟩ := hv.agg_inv
        obtain ⟨b1, hf'⟩ := cond_true_inv hf'
        obtain ⟨b2, hf'⟩ := cond_true_inv hf'
        have b1' := Nat.eq_of_beq_eq_true b1
        have b2' := Nat.le_of_ble_eq_true b2
        rw [Rp.len_eq r' hrow.1, hrow.2.1] at b1'
        rw [hlz] at b2'
        obtain ⟨o1, e1⟩ := Rp.put_spec z off n r' hz.1 hrow.1 (by rw [hrow.2.1]; exact b1') (by rw [hz.2.1]; exact b2')
        exact step _ vs rfl b1' b2' (fun zc' s1 s2 => cellsR_put hz hrow (by omega) s1 s2 o1 (by rw [e1, b1'])) hf'
      · obtain ⟨b0, hg1⟩ := cond_true_inv hf'
        obtain ⟨b1, hg2⟩ := cond_true_inv hg1
        obtain ⟨b2, hg3⟩ := cond_true_inv hg2
        have b1' := Nat.eq_of_beq_eq_true b1
        have b2' := Nat.le_of_ble_eq_true b2
        rw [hlz] at b2'
        subst b1'
        have hrow := cellsR_one hv b0
        obtain ⟨o1, e1⟩ := Rp.set_spec z off (ev env (od x)) hz.1
        refine step _ #[xv] (hv.sc_cells b0) rfl b2' (fun zc' s1 s2 => cellsR_put hz hrow (by simpa using b2') s1 s2 o1 ?_) hg3
        rw [e1]
        simp only [Rp.toL_one, List.size_toArray, List.length_cons, List.length_nil, Nat.zero_add, List.singleton_append]
        rw [List.set_eq_take_append_cons_drop, if_pos (by rw [hz.2.1]; omega)]
    · cases hp
theorem map_pairs (ps : Array (Nat × Operand)) : (ps.map fun (i, x) => (i, a.eval x)).toList = ps.toList.map fun p => (p.1, a.eval p.2) := by simp
theorem sound_build (o : Oper) (t : TypeId) (ps : Array (Nat × Operand)) (ho : o.op = .build t ps) (hr : HR P base ι H w) (he : rowR ι env a.tmps) (hx : xop (compOp P o) env H k = true) :
    Res P base ι H w k ((execOp a.eval o).run P w) := by
  simp only [compOp, ho] at hx
  have fin : ∀ (pl : Nat → Option (Nat × Nat)) (z : Rp AV) (l : List (Nat × Nat × Od)), zeroRow P t = some z → parts pl ps.toList = some l → xop (.build z l) env H k = true →
      (∀ (it : TypeInfo) (zv : Value) c, P.info? t = some it → it.zero = some zv → Instr.fill pl zv.cells (ps.toList.map fun p => (p.1, a.eval p.2)) = some c → P.built t (ps.map fun (i, x) => (i, a.eval x)).toList = some c) →
      Res P base ι H w k ((execOp a.eval o).run P w) := by
    intro pl z l hz hp hx hb
    simp only [xop] at hx
    obtain ⟨it, zv, hi, hzv, hc⟩ := cellsR_zero ι hz
    obtain ⟨r, c, e1, e2, _, e3⟩ := fill_sound he pl _ ps.toList l z zv.cells hp hc hx
    have := run_build w t _ c (hb it zv c hi hzv e1)
    exact Res.pure hr (cv := .agg c) (by simp only [execOp, ho]; rw [Sem.run_bind, this]; rfl) e2.agg e3
  split at hx
  · rename_i fs z hu hz
    split at hx
    · rename_i pl hpl
      split at hx
      · rename_i l hl
        refine fin _ z l hz hl hx (fun it zv c hi hzv hf => ?_)
        unfold Program.built
        rw [hi, hu]
        simp only [hzv, hpl]
        rw [map_pairs]
        exact hf
      · simp only [xop] at hx; cases hx
    · simp only [xop] at hx; cases hx
  · rename_i n e z hu hz
    split at hx
    · rename_i ie hie
      split at hx
      · rename_i l hl
        refine fin _ z l hz hl hx (fun it zv c hi hzv hf => ?_)
        unfold Program.built
        rw [hi, hu]
        simp only [hzv, hie]
        rw [map_pairs]
        exact hf
      · simp only [xop] at hx; cases hx
    · simp only [xop] at hx; cases hx
  · simp only [xop] at hx; cases hx

/-! ### rows of zeros -/
theorem rpt_spec (n : Nat) (z : Rp AV) (hz : z.ok) : (rpt n z).ok ∧ (rpt n z).toL = (List.replicate n z.toL).flatten := by
  induction n with
  | zero => exact ⟨trivial, rfl⟩
  | succ n ih =>
    obtain ⟨o, e⟩ := Rp.app_spec z (rpt n z) hz ih.1
    exact ⟨o, by show (z.app (rpt n z)).toL = _; rw [e, ih.2]; simp [List.replicate_succ]⟩
theorem zeros_spec (n : Nat) (z : Rp AV) (hz : z.ok) : (zeros n z).ok ∧ (zeros n z).toL = (List.replicate n z.toL).flatten := by
  unfold zeros
  split
  · refine ⟨trivial, ?_⟩
    simp only [Rp.toL_rep, Rp.toL_one]
    induction n with
    | zero => rfl
    | succ n ih => rw [List.replicate_succ, ih]; simp [List.replicate_succ]
  · exact rpt_spec n z hz
theorem flat_len (n : Nat) (l : List AV) : (List.replicate n l).flatten.length = n * l.length := by
  induction n with
  | zero => simp
  | succ n ih => simp [List.replicate_succ, Nat.add_mul]; omega
theorem flat_get (l : List AV) (n : Nat) : ∀ i, i < n * l.length → (List.replicate n l).flatten.getD i .undef = l.getD (i % l.length) .undef := by
  induction n with
  | zero => intro i h; simp at h
  | succ n ih =>
    intro i h
    rw [Nat.succ_mul] at h
    rw [List.replicate_succ, List.flatten_cons]
    simp only [List.getD_eq_getElem?_getD] at ih ⊢
    by_cases hi : i < l.length
    · rw [List.getElem?_append_left hi, Nat.mod_eq_of_lt hi]
    · rw [List.getElem?_append_right (by omega), ih (i - l.length) (by omega), ← Nat.mod_eq_sub_mod (by omega)]
theorem cellsR_zeros {z : Rp AV} {zc : Array Value} (hz : cellsR ι z zc) (hpos : 0 < zc.size) (n : Nat) : cellsR ι (zeros n z) ((Array.range (n * zc.size)).map fun i => zc[i % zc.size]!) := by
  obtain ⟨o, e⟩ := zeros_spec n z hz.1
  have hget : ∀ i, i < n * zc.size → ((Array.range (n * zc.size)).map fun i => zc[i % zc.size]!).getD i Go.undef = zc.getD (i % zc.size) Go.undef := fun i hi => by
    have hm : i % zc.size < zc.size := Nat.mod_lt _ hpos
    simp [hi, hm]
  refine ⟨o, by rw [e, flat_len, hz.2.1]; simp, fun i => ?_, fun i hi => ?_⟩
  · by_cases hi : i < n * zc.size
    · rw [hget i hi, e, flat_get _ _ _ (by rw [hz.2.1]; exact hi), hz.2.1]
      exact hz.2.2.1 _
    · rw [getD_over _ _ (by rw [e, flat_len, hz.2.1]; omega)]
      exact .undef _
  · have hi' : i < n * zc.size := by simpa using hi
    rw [hget i hi']
    exact hz.2.2.2 _ (Nat.mod_lt _ hpos)
theorem sound_bsl (o : Oper) (t : TypeId) (n : Nat) (ps : Array (Nat × Operand)) (ho : o.op = .buildSlice t n ps) (hr : HR P base ι H w) (he : rowR ι env a.tmps) (hx : xop (compOp P o) env H k = true) :
    Res P base ι H w k ((execOp a.eval o).run P w) := by
  simp only [compOp, ho] at hx
  split at hx
  · rename_i e hu
    split at hx
    · rename_i z ie hz hie
      split at hx
      · rename_i l hl
        cases h1 : Nat.beq z.len ie.size with
        | false => rw [h1] at hx; simp only [cond_false, xop] at hx; cases hx
        | true =>
          rw [h1] at hx
          cases h2 : Nat.beq z.len 0 with
          | true => rw [h2] at hx; simp only [cond_true, xop] at hx; cases hx
          | false =>
            rw [h2] at hx
            cases h3 : Nat.ble (n * ie.size) 16777216 with
            | false => rw [h3] at hx; simp only [cond_true, cond_false, xop] at hx; cases hx
            | true =>
              rw [h3] at hx
              simp only [cond_true, cond_false, xop] at hx
              obtain ⟨it, zv, hi, hzv, hc⟩ := cellsR_zero ι hz
              rw [hie] at hi
              cases hi
              have e1 : zv.cells.size = ie.size := by rw [← hc.2.1, ← Rp.len_eq z hc.1]; exact Nat.eq_of_beq_eq_true h1
              have e2 : ie.size ≠ 0 := by rw [← Nat.eq_of_beq_eq_true h1]; exact beq_false_of_not h2
              have e3 := Nat.le_of_ble_eq_true h3
              obtain ⟨r, c, f1, f2, f3, f4⟩ := fill_sound he _ _ ps.toList l _ _ hl (cellsR_zeros hc (by omega) n) hx
              obtain ⟨ob, f, e, hk⟩ := alc_inv f4
              cases e
              have hrun : (execOp a.eval o).run P w = .ok (.value (.slice (some ⟨w.heap.size, 0, none⟩) n n)) (w.alloc (.cells c e)) := by
                simp only [execOp, ho, Instr.buildSlice, Sem.run_bind, run_und hu, Result.andThen_ok, run_size hie]
                rw [if_neg (by omega)]
                by_cases h0 : n * ie.size = 0
                · simp only [h0, if_true, Sem.run_bind, Sem.run_pure, Result.andThen_ok]
                  have e0 : ((Array.range 0).map fun i => (#[] : Array Value)[i % (#[] : Array Value).size]!) = (Array.range (n * zv.cells.size)).map fun i => zv.cells[i % zv.cells.size]! := by
                    rw [e1, h0]; simp
                  rw [e0, map_pairs, f1]
                  simp [run_newRow]
                · simp only [h0, if_false, Sem.run_bind, run_zero hie hzv, Result.andThen_ok, Sem.run_pure]
                  rw [← e1] at f1 ⊢
                  rw [map_pairs, f1]
                  simp [run_newRow]
              refine Res.newCells hr f2 e hrun ?_ hk
              have := VR.slc (ι := ι.ext H.n ⟨w.heap.size, 0, c.size⟩) H.n 0 n n ⟨w.heap.size, 0, c.size⟩ (Io.ext_self _ _ _) (Nat.le_refl _)
              exact this
      · simp only [xop] at hx; cases hx
    · simp only [xop] at hx; cases hx
  · simp only [xop] at hx; cases hx
end
end Go.Jt
