/-
  The abstract run of an operation is true to the model's: rows of cells copied, appended, turned into strings and back.
-/
import Derived.Test.YtlhlgmodhblplaaJtOps5
set_option autoImplicit false
set_option linter.all false
namespace Go.Jt
open Go.RowKit (Below)
variable [Gl]

section
variable {P : Program} {base : Nat} {ι : Io} {H : AH} {w : World} {k : AV → AH → Bool} {env : Env} {a : Act}

/-! ### where cells come from -/
theorem srcLen_sound {x : AV} {xv : Value} {K : Nat → Bool} (hv : VR ι x xv) (h : srcLen x K = true) : ∃ n, K n = true ∧ ∀ w, (Builtin.lenOf xv).run P w = .ok n w := by
  unfold srcLen at h
  split at h
  · cases hv; exact ⟨0, h, fun w => by simp [Builtin.lenOf]⟩
  · cases hv; exact ⟨_, h, fun w => by simp [Builtin.lenOf]⟩
  · cases hv; exact ⟨_, h, fun w => by simp [Builtin.lenOf]⟩
  · cases hv <;> exact ⟨0, h, fun w => by simp [Builtin.lenOf]⟩
  · obtain ⟨b, rfl, rfl⟩ := hv.str_inv
    rw [fN_eq, llen_eq, bytesOf_len] at h
    exact ⟨_, h, fun w => by simp [Builtin.lenOf]⟩
  · cases h
theorem cellsR_nil (ι : Io) : cellsR ι .nil #[] := ⟨trivial, rfl, fun i => by simp only [Rp.toL_nil, List.getD_nil]; exact .undef _, fun i hi => by simp at hi⟩
theorem cellsR_str (ι : Io) (s : ByteArray) (n : Nat) : cellsR ι (Rp.ofL (((bytesOf s).take n).map fun c => .int .u8 (Int.ofNat c))) ((s.extract 0 n).data.map fun b => Value.int .u8 b.toNat) := by
  obtain ⟨o, e⟩ := Rp.ofL_spec (((bytesOf s).take n).map fun c => AV.int .u8 (Int.ofNat c))
  have e2 : ((s.extract 0 n).data.map fun b => Value.int .u8 b.toNat).toList = ((s.data.toList.take n).map fun b => Value.int .u8 b.toNat) := by
    rw [Array.toList_map, Lib.extract_data]; simp
  have hsz : ((s.extract 0 n).data.map fun b => Value.int .u8 b.toNat).size = (s.data.toList.take n).length := by
    rw [← Array.length_toList, e2]; simp
  refine ⟨o, by rw [e, hsz]; simp [bytesOf], fun i => ?_, fun i hi => ?_⟩
  · rw [e]
    by_cases hi : i < (s.data.toList.take n).length
    · have f1 : ((((bytesOf s).take n).map fun c => AV.int .u8 (Int.ofNat c)).getD i .undef) = AV.int .u8 (Int.ofNat ((s.data.toList.take n)[i]).toNat) := by
        simp only [bytesOf, List.getD_eq_getElem?_getD, ← List.map_take, List.map_map]
        rw [List.getElem?_map, List.getElem?_eq_getElem hi]
        rfl
      have f2 : ((s.extract 0 n).data.map fun b => Value.int .u8 b.toNat).getD i Go.undef = Value.int .u8 ((s.data.toList.take n)[i]).toNat := by
        rw [Array.getD_eq_getD_getElem?, ← Array.getElem?_toList, e2, List.getElem?_map, List.getElem?_eq_getElem hi]
        rfl
      rw [f1, f2]
      exact .int _ _
    · rw [getD_over _ _ (by simp [bytesOf] at hi ⊢; omega)]
      exact .undef _
  · have f2 : ((s.extract 0 n).data.map fun b => Value.int .u8 b.toNat).getD i Go.undef = Value.int .u8 ((s.data.toList.take n)[i]'(by omega)).toNat := by
      rw [Array.getD_eq_getD_getElem?, ← Array.getElem?_toList, e2, List.getElem?_map, List.getElem?_eq_getElem (by omega)]
      rfl
    rw [f2]; rfl
theorem run_firstCells {L : Loc} {c : Rp AV} {st ro : Bool} {b off es n len cap : Nat} (hr : HR P base ι H w) (hb : H.get b = some (.cells c st ro)) (hL : ι b = some L) (hn : off + n * es ≤ c.len) :
    ∃ cs, cellsR ι (c.sub off (n * es)) cs ∧ cs.size = n * es ∧ ∀ w', w'.heap = w.heap → (Builtin.firstCells es n (.slice (some ⟨L.blk, L.sh + off, none⟩) len cap)).run P w' = .ok cs w' := by
  obtain ⟨cc, el, fr, hw, hor⟩ := hr.cells hb hL
  cases hor with
  | cells _ _ _ _ _ _ hok hz hl hc h1 hf hs hro =>
  rw [Rp.len_eq c hok] at hn
  refine ⟨_, cellsR_sub hok (by omega) hc h1 hn, by simp; omega, fun w' hw' => ?_⟩
  unfold Builtin.firstCells
  exact run_loadCells (by rw [hw']; exact hw) _ (by omega)
theorem srcCells_sound {es n : Nat} {x : AV} {xv : Value} {K : Rp AV → Bool} (hr : HR P base ι H w) (hv : VR ι x xv) (h : srcCells H es n x K = true) :
    ∃ r cs, K r = true ∧ cellsR ι r cs ∧ cs.size = n * es ∧ ∀ w', w'.heap = w.heap → (Builtin.firstCells es n xv).run P w' = .ok cs w' := by
  unfold srcCells at h
  split at h
  · obtain ⟨h1, h⟩ := cond_true_inv h
    have := Nat.eq_of_beq_eq_true h1
    subst this
    cases hv
    exact ⟨_, _, h, cellsR_nil ι, by simp, fun w' _ => by simp [Builtin.firstCells]⟩
  · obtain ⟨h1, h⟩ := cond_true_inv h
    have := Nat.eq_of_beq_eq_true h1
    subst this
    cases hv <;> exact ⟨_, _, h, cellsR_nil ι, by simp, fun w' _ => by simp [Builtin.firstCells, loadCells, loadCellsFrom]⟩
  · obtain ⟨c, st, ro, hb, h⟩ := gcell_inv h
    obtain ⟨h1, h⟩ := cond_true_inv h
    cases hv with
    | slc _ _ _ _ L hL hl =>
    obtain ⟨cs, g1, g2, g3⟩ := run_firstCells (es := es) (n := n) (len := _) (cap := _) hr hb hL (Nat.le_of_ble_eq_true h1)
    exact ⟨_, cs, h, g1, g2, g3⟩
  · obtain ⟨c, st, ro, hb, h⟩ := gcell_inv h
    obtain ⟨h1, h⟩ := cond_true_inv h
    cases hv with
    | slu _ _ _ _ cap L hL hl he hc =>
    obtain ⟨cs, g1, g2, g3⟩ := run_firstCells (es := es) (n := n) (len := _) (cap := _) hr hb hL (Nat.le_of_ble_eq_true h1)
    exact ⟨_, cs, h, g1, g2, g3⟩
  · obtain ⟨h1, h3⟩ := cond_true_inv h
    obtain ⟨h2, h4⟩ := cond_true_inv h3
    have := Nat.eq_of_beq_eq_true h1
    subst this
    obtain ⟨b, rfl, rfl⟩ := hv.str_inv
    have h2' := Nat.le_of_ble_eq_true h2
    rw [llen_eq, bytesOf_len] at h2'
    refine ⟨_, _, h4, cellsR_str ι b n, ?_, fun w' _ => by simp [Builtin.firstCells]⟩
    have := (cellsR_str ι b n).2.1
    rw [← this, (Rp.ofL_spec _).2]
    simp [bytesOf_len]
    omega
  · cases h

/-! ### strings and bytes -/
theorem bytesL_inv (l : List AV) : ∀ {K : List Nat → Bool}, bytesL l K = true → ∃ ns : List Nat, l = ns.map (fun n => AV.int .u8 (Int.ofNat n)) ∧ (∀ n ∈ ns, n ≤ 255) ∧ K ns = true := by
  induction l with
  | nil => intro K h; exact ⟨[], rfl, by simp, h⟩
  | cons x l ih =>
    intro K h
    have h' := h
    clear h
    dsimp only [bytesL] at h'
    split at h'
    · rename_i n
      obtain ⟨h1, h2⟩ := cond_true_inv h'
      obtain ⟨ns, e1, e2, e3⟩ := ih h2
      exact ⟨n :: ns, by rw [e1]; rfl, by simp only [List.mem_cons]; rintro m (rfl | hm); exact Nat.le_of_ble_eq_true h1; exact e2 m hm, e3⟩
    · cases h'
theorem push_bytes (ns : List Int) : ∀ s : ByteArray, bytesOf (ns.foldl (fun r n => r.push (UInt8.ofNat n.toNat)) s) = bytesOf s ++ ns.map fun n => n.toNat % 256 := by
  induction ns with
  | nil => intro s; simp
  | cons n ns ih =>
    intro s
    rw [List.foldl_cons, ih]
    have : bytesOf (s.push (UInt8.ofNat n.toNat)) = bytesOf s ++ [n.toNat % 256] := by
      unfold bytesOf
      rw [ByteArray.data_push]
      simp
    rw [this]; simp
theorem sound_b2s (o : Oper) (s d e : TypeId) (x : Operand) (ho : o.op = .convert s d x) (hs : P.underlying s = some (.slice e)) (hd : P.underlying d = some .string) (he' : P.underlying e = some (.int .u8)) (hr : HR P base ι H w) (he : rowR ι env a.tmps)
    (hx : xop (.b2s (od x)) env H k = true) : Res P base ι H w k ((execOp a.eval o).run P w) := by
  simp only [xop] at hx
  have hv := ev_sound he x
  generalize hxv : a.eval x = xv at hv
  have run : ∀ {cv : Value} {so len cap}, xv = .slice so len cap → (Conv.bytesToString xv).run P w = .ok cv w → (execOp a.eval o).run P w = .ok (.value cv) w := fun {cv so len cap} hsl h => by
    subst hsl
    simp only [execOp, ho, hxv, convert]
    simp [run_und hs, run_und hd, run_und he', h]
  split at hx
  · rename_i ex
    rw [ex] at hv
    cases hv
    refine Res.pure hr (cv := .string .empty) (run rfl (by simp [Conv.bytesToString])) ?_ hx
    exact .str ByteArray.empty
  · rename_i y hne
    have hx0 := hx
    obtain ⟨n, hx, hlen⟩ := srcLen_sound (P := P) hv hx
    split at hx
    · cases hx
    · rename_i hns
      obtain ⟨r, cs, hx, hc, hsz, hrun⟩ := srcCells_sound hr hv hx
      obtain ⟨ns, e1, e2, hk⟩ := bytesL_inv _ hx
      have hcs : cs = ((ns.map fun n : Nat => (n : Int)).map (Value.int .u8)).toArray := by
        apply Array.ext
        · rw [← hc.2.1, e1]; simp
        · intro i h1 h2
          have h3 := hc.2.2.1 i
          have h1' : i < ns.length := by rw [← hc.2.1, e1] at h1; simpa using h1
          rw [e1] at h3
          have e3 : (ns.map fun n => AV.int .u8 (Int.ofNat n)).getD i .undef = .int .u8 (Int.ofNat ns[i]) := by simp [h1']
          rw [e3] at h3
          have e4 := h3.int_inv
          have e5 : cs.getD i Go.undef = cs[i] := by simp [h1]
          rw [← e5, e4]
          simp
      have fin : ∀ so len cap, xv = .slice (some so) len cap → Res P base ι H w k ((execOp a.eval o).run P w) := by
        intro so len cap hsl
        have hl := hlen w
        rw [hsl] at hl
        simp [Builtin.lenOf] at hl
        subst hl
        have h4 := hrun w rfl
        rw [hsl] at h4
        simp only [Builtin.firstCells, Nat.mul_one] at h4
        rw [hcs] at h4
        have h5 := run_bytesToString w so len cap (ns.map fun n : Nat => (n : Int)) h4
        refine Res.pure hr (run hsl (by rw [hsl]; exact h5)) ?_ hk
        have : ns = bytesOf ((ns.map fun n : Nat => (n : Int)).foldl (fun r n => r.push (UInt8.ofNat n.toNat)) ByteArray.empty) := by
          rw [push_bytes]
          have : bytesOf ByteArray.empty = [] := rfl
          rw [this, List.nil_append, List.map_map]
          conv => lhs; rw [← List.map_id ns]
          apply List.map_congr_left
          intro m hm
          have := e2 m hm
          simp
          omega
        conv => arg 2; rw [this]
        exact .str _
      clear hc hcs e1 hrun hx
      generalize ev env (od x) = xx at hv hne hns hx0
      cases hv with
      | slc _ _ _ _ L hL hl => exact fin _ _ _ rfl
      | slu _ _ _ _ cap L hL hl he hc => exact fin _ _ _ rfl
      | slz _ _ _ oo cap L hL he hc => exact fin _ _ _ rfl
      | slz0 a => exact fin _ _ _ rfl
      | nils => exact absurd rfl hne
      | str s => exact absurd rfl (hns _)
      | _ => (simp only [srcLen] at hx0; cases hx0)
end
end Go.Jt
