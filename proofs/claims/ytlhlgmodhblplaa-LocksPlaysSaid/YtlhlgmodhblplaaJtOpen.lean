/-
  A call of arguments that lie in memory: each row of cells that an argument leads to is a block of its own, never written; what the abstract run says holds of the model's call.
-/
import Derived.Test.YtlhlgmodhblplaaJtSep
set_option autoImplicit false
set_option linter.all false
namespace Go.Jt
noncomputable section
variable [Gl]

/-- rows of the world's memory, each with what its cells are -/
abbrev Wins := List (Loc × List AV)
def ioW (ws : Wins) : Io := fun b => (ws[b]?).map (·.1)
def fzW (ws : Wins) : Fz := ⟨fun b => (ws[b]?).map (·.2), ws.length⟩
/-- a heap with these objects -/
def heapOf (f : Nat → Option AObj) : Nat → AH
  | 0 => ⟨.lf, 0⟩
  | n + 1 => ⟨(heapOf f n).m.upd n (f n), n + 1⟩
theorem heapOf_n (f : Nat → Option AObj) (n : Nat) : (heapOf f n).n = n := by cases n <;> rfl
theorem heapOf_get (f : Nat → Option AObj) : ∀ n b, (heapOf f n).get b = if b < n then f b else none
  | 0, b => by rw [if_neg (by omega)]; exact T.get_lf b
  | n + 1, b => by
    show ((heapOf f n).m.upd n (f n)).get b = _
    rw [T.get_upd]
    split
    · rename_i e; subst e; rw [if_pos (by omega)]
    · have h := heapOf_get f n b
      rw [show (heapOf f n).m.get b = (heapOf f n).get b from rfl, h]
      by_cases hb : b < n
      · rw [if_pos hb, if_pos (by omega)]
      · rw [if_neg hb, if_neg (by omega)]
def argH (ws : Wins) : AH := heapOf (fun b => (ws[b]?).map fun x => .cells (Rp.ofL x.2) true true) ws.length
theorem argH_get {ws : Wins} {b : Nat} {L : Loc} {l : List AV} (h : ws[b]? = some (L, l)) : (argH ws).get b = some (.cells (Rp.ofL l) true true) := by
  unfold argH
  rw [heapOf_get, if_pos (List.getElem?_eq_some_iff.1 h).1, h]
  rfl
theorem argH_inv {ws : Wins} {b : Nat} {o : AObj} (h : (argH ws).get b = some o) : ∃ L l, ws[b]? = some (L, l) ∧ o = .cells (Rp.ofL l) true true := by
  unfold argH at h
  rw [heapOf_get] at h
  split at h
  · cases hw : ws[b]? with
    | none => rw [hw] at h; cases h
    | some x => rw [hw] at h; cases h; exact ⟨x.1, x.2, rfl, rfl⟩
  · cases h
/-- a row of the world that is as told -/
structure WinOK (W : World) (ι : Io) (L : Loc) (l : List AV) : Prop where
  low : L.blk < W.heap.size
  obj : ∃ c el fr, W.heap[L.blk]? = some (.cells c el fr) ∧ c.size = L.sz ∧ L.sh + l.length ≤ L.sz ∧ (∀ i, i < l.length → VR ι (l.getD i .undef) (c.getD (L.sh + i) Go.undef) ∧ (c.getD (L.sh + i) Go.undef).oneCell' = true ∧ W.frozen? ⟨L.blk, L.sh + i, none⟩ = false)
theorem HR_args {P : Program} {W : World} {ws : Wins} (hw : ∀ (b : Nat) (L : Loc) (l : List AV), ws[b]? = some (L, l) → WinOK W (ioW ws) L l) (hg : GlOK W.heap.size W) : HR P W.heap.size (ioW ws) (argH ws) W := by
  have hn : (argH ws).n = ws.length := heapOf_n _ _
  refine ⟨fun b hb => ?_, fun b o h => ?_, fun b L h => ?_, fun b b' o o' L L' h1 h2 h3 h4 h5 => ?_, fun b o L h1 h2 => ?_, Nat.le_refl _, hg⟩
  · rw [hn] at hb
    simp [ioW, List.getElem?_eq_none hb]
  · obtain ⟨L, l, h1, _⟩ := argH_inv h
    rw [hn]
    exact (List.getElem?_eq_some_iff.1 h1).1
  · unfold ioW at h
    cases hb : ws[b]? with
    | none => rw [hb] at h; cases h
    | some x => rw [hb] at h; cases h; exact (hw b x.1 x.2 hb).low
  · unfold ioW at h3
    cases hb : ws[b]? with
    | none => rw [hb] at h3; cases h3
    | some x => rw [hb] at h3; cases h3; exact .inr (hw b x.1 x.2 hb).low
  · obtain ⟨L', l, h3, rfl⟩ := argH_inv h1
    have e : L' = L := by
      unfold ioW at h2
      rw [h3] at h2
      exact Option.some.inj h2
    subst e
    obtain ⟨c, el, fr, g1, g2, g3, g4⟩ := (hw b L' l h3).obj
    obtain ⟨r1, r2⟩ := Rp.ofL_spec l
    refine ⟨_, g1, .cells _ true true c el fr r1 g2 (by rw [r2]; exact g3) (fun i hi => ?_) (fun i hi hr => ?_) (fun i hi hr => ?_) (fun h => by cases h) (fun h => by cases h)⟩
    · rw [r2] at hi ⊢
      exact (g4 i hi).1
    · rcases hr with hr | ⟨h4, h5⟩
      · cases hr
      rw [r2] at h5
      have := (g4 (i - L'.sh) (by omega)).2.1
      rwa [show L'.sh + (i - L'.sh) = i by omega] at this
    · rcases hr with hr | ⟨h4, h5⟩
      · cases hr
      rw [r2] at h5
      have := (g4 (i - L'.sh) (by omega)).2.2
      rw [show L'.sh + (i - L'.sh) = i by omega] at this
      simp only [World.frozen?, g1] at this
      simpa using this
theorem Sat_args (ws : Wins) : Sat (argH ws) (fzW ws) [] := by
  have hn : (argH ws).n = ws.length := heapOf_n _ _
  refine ⟨fun b hb => ?_, List.nodup_nil, fun x hx => (List.not_mem_nil hx).elim, fun b L hb => ⟨?_, by simp⟩, by rw [hn]; exact Nat.le_refl _, fun x hx => (List.not_mem_nil hx).elim⟩
  · unfold argH
    rw [heapOf_get, if_neg (by rw [hn] at hb; omega)]
  · simp only [fzW] at hb
    cases h : ws[b]? with
    | none => rw [h] at hb; cases hb
    | some x =>
      rw [h] at hb
      cases hb
      obtain ⟨r1, r2⟩ := Rp.ofL_spec x.2
      exact ⟨_, true, true, r1, r2, argH_get h, fun _ => (List.getElem?_eq_some_iff.1 h).1⟩
/-- a law's call -/
theorem open_lawW {P : Program} {tbl : Nat → Option FT} (hm : P.follows .mixedOrders = true) (ht : TblS P tbl) {N f F : Nat} {c : FnIR} (hc : compF P F = some (.code c)) (htF : tbl F = some (.code c)) {args : List AV} {cargs : Array Value} {W : World} {ws : Wins}
    (hw : ∀ (b : Nat) (L : Loc) (l : List AV), ws[b]? = some (L, l) → WinOK W (ioW ws) L l) (ha : rowR (ioW ws) args cargs) {Q : AH → Prop} (h : Sat (argH ws) (fzW ws) [] → Ct (RUN tbl N (f + 1)) (.fn (.fn (.func F)) [] []) args (argH ws) fun v H' => v = .bool true ∧ Q H') (hg : GlOK W.heap.size W) :
    Calls P F cargs W fun e w' => e = .returned (.bool true) ∧ Go.RowKit.Below W.heap.size W w' := by
  obtain ⟨v, H', ⟨rfl, _⟩, h⟩ := h (Sat_args ws)
  have hcl := RUN_sound (N := N) ht (fun cl hcl => dreg_sound hm hcl) f
  have h' : callF tbl (RUN tbl N f) N F ([] ++ args ++ []) (argH ws) (fun v _ => same v (.bool true)) = true := (h fun v _ => same v (.bool true)).trans rfl
  rw [List.nil_append, List.append_nil] at h'
  unfold callF at h'
  rw [htF] at h'
  have hend := code_sound (w := W) (k := fun v _ => same v (.bool true)) (N := N) hcl (dreg_sound hm hcl) hc (HR_args hw hg) ha h'
  refine callsIn_wide.1 (CallsIn.mono hend ?_)
  intro e w' hend
  obtain ⟨cv, v, H', ι', rfl, hnx, hv, hk⟩ := hend
  have := same_eq hk
  subst this
  rw [hv.bool_inv]
  exact ⟨rfl, hnx.below⟩
end
end Go.Jt
