/-
  The abstract run is true to the model's: calls of functions, rounds of ranges over functions, all calls.
-/
import Derived.Test.YtlhlgmodhblplaaJtRun3
import Derived.Laws.Externs
import Derived.Laws.NewFold
set_option autoImplicit false
set_option linter.all false
namespace Go.Jt
open Go.RowKit (Below)
variable [Gl]

section
variable {P : Program} {base : Nat} {cl : Cl}

/-- a row of the library that the model gives: a map's copy -/
def CloneOK (P : Program) (f : Nat) : Prop := ∃ fn, P.funcs[f]? = some fn ∧ (fn.name == "runtime.NumGoroutine") = false ∧ fn.body.isNone = true ∧ Extern.findNext fn = none ∧ Extern.find fn = some Extern.MapsClone.clone
/-- an abstract run that is given for a function, and true to it -/
def SumS (P : Program) (f : Nat) (g : List AV → AH → (AV → AH → Bool) → Bool) : Prop := (∀ (args : Array Value) (w : World), (callFunc f args).run P w = .ok (.enter f args) w) ∧
  ∀ (base : Nat) (ι : Io) (H : AH) (w : World) (args : List AV) (cargs : Array Value) (k : AV → AH → Bool), HR P base ι H w → rowR ι args cargs → g args H k = true → CallsIn Fence.wide 0 P f cargs w (EndR P base ι H w k)
/-- an abstract run that is given for a row of the library, and true to it -/
def ExtS (P : Program) (f : Nat) (g : List AV → AH → (AV → AH → Bool) → Bool) : Prop :=
  ∀ (base : Nat) (ι : Io) (H : AH) (w : World) (args : List AV) (cargs : Array Value) (k : AV → AH → Bool), HR P base ι H w → rowR ι args cargs → g args H k = true →
    (∀ l, AV.fn (.yld l) [] [] ∉ args) ∧ Res P base ι H w k ((callFunc f cargs).run P w)
/-- a table of functions that is true to the program -/
def TblS (P : Program) (tbl : Nat → Option FT) : Prop := ∀ f t, tbl f = some t → match t with
  | .code c => compF P f = some (.code c)
  | .clone => CloneOK P f
  | .sum g => SumS P f g
  | .ext g => ExtS P f g

/-! ### results -/
def resOne (tmps : Array Value) (r : ResultVar) : Sem Value := match r with
  | .tmp t => pure (tmps.getD t undef)
  | .cell a t => do loadVar t (← asAddr (tmps.getD a undef))
theorem rvs_sound {ι : Io} {H : AH} {w : World} {env : Env} {tmps : Array Value} (hr : HR P base ι H w) (he : rowR ι env tmps) : ∀ (rs : List ResultVar) (K : List AV → Bool), rs.all (okR P) = true → rvs (rs.map (compR P)) env H K = true →
    ∃ (l : List AV) (vs : List Value), K l = true ∧ l.length = vs.length ∧ (∀ i, VR ι (l.getD i .undef) (vs.getD i Go.undef)) ∧ (rs.mapM (resOne tmps)).run P w = .ok vs w
  | [], K, _, h => ⟨[], [], h, rfl, fun i => by simp only [List.getD_nil]; exact .undef _, rfl⟩
  | .tmp t :: rs, K, hok, h => by
    have h' : rvs (rs.map (compR P)) env H (fun l => K (lget env t :: l)) = true := h
    simp only [List.all_cons, Bool.and_eq_true] at hok
    obtain ⟨l, vs, h1, h2, h3, h4⟩ := rvs_sound hr he rs _ hok.2 h'
    refine ⟨lget env t :: l, tmps.getD t undef :: vs, h1, by simp [h2], fun i => ?_, ?_⟩
    · cases i with
      | zero => rw [lget_eq]; exact he.2 t
      | succ i => exact h3 i
    · rw [List.mapM_cons]
      simp only [resOne, Sem.run_bind, Sem.run_pure, Result.andThen_ok, h4]
  | .cell x t :: rs, K, hok, h => by
    simp only [List.all_cons, Bool.and_eq_true, okR, Option.isSome_iff_exists] at hok
    obtain ⟨⟨⟨d, hd⟩, ⟨i, hi⟩⟩, hok⟩ := hok
    have h' : (match lget env x with
      | .ptr b off => gcell H b fun c _ _ => _root_.cond (isAggT P t) (_root_.cond (Nat.ble (off + sizeT P t) c.len) (rvs (rs.map (compR P)) env H fun l => K (.agg (c.sub off (sizeT P t)) :: l)) false) (match c.get off with
        | some v => rvs (rs.map (compR P)) env H fun l => K (v :: l)
        | none => false)
      | _ => false) = true := h
    have hv := he.2 x
    rw [← lget_eq] at hv
    split at h'
    · rename_i b off e
      rw [e] at hv
      obtain ⟨L, hL, hpv⟩ := hv.ptr_inv
      obtain ⟨c, st, ro, hb, h2⟩ := gcell_inv h'
      obtain ⟨cc, el, fr, hw, hor⟩ := hr.cells hb hL
      cases hor with
      | cells _ _ _ _ _ _ hok' hz hl hc h1 hf hs hro =>
      have hsz : sizeT P t = i.size := by simp [sizeT, hi]
      cases hag : isAggT P t with
      | true =>
        rw [hag, hsz] at h2
        obtain ⟨hn, h3⟩ := cond_true_inv h2
        have hn' := Nat.le_of_ble_eq_true hn
        rw [Rp.len_eq c hok'] at hn'
        obtain ⟨l, vs, g1, g2, g3, g4⟩ := rvs_sound hr he rs _ hok h3
        refine ⟨_ :: l, .agg (cc.extract (L.sh + off) (L.sh + off + i.size)) :: vs, g1, by simp [g2], fun j => ?_, ?_⟩
        · cases j with
          | zero => exact (cellsR_sub hok' (by omega) hc h1 hn').agg
          | succ j => exact g3 j
        · rw [List.mapM_cons]
          have hld : (loadVar t ⟨L.blk, L.sh + off, none⟩).run P w = .ok (.agg (cc.extract (L.sh + off) (L.sh + off + i.size))) w := by
            simp only [loadVar, Sem.run_bind, run_isAgg hd, hag, Result.andThen_ok, if_true, run_size hi]
            rw [run_loadCells hw _ (by omega)]
            rfl
          simp only [resOne, hpv, asAddr, Sem.run_bind, Sem.run_pure, Result.andThen_ok, hld, g4]
      | false =>
        rw [hag] at h2
        simp only [cond_false] at h2
        rw [Rp.get_eq c hok'] at h2
        split at h2
        · rename_i v hv'
          have hi' : off < c.toL.length := (List.getElem?_eq_some_iff.1 hv').1
          have h3 := hc off hi'
          rw [List.getD_eq_getElem?_getD, hv'] at h3
          obtain ⟨l, vs, g1, g2, g3, g4⟩ := rvs_sound hr he rs _ hok h2
          refine ⟨v :: l, cc.getD (L.sh + off) Go.undef :: vs, g1, by simp [g2], fun j => ?_, ?_⟩
          · cases j with
            | zero => exact h3
            | succ j => exact g3 j
          · rw [List.mapM_cons]
            have hld : (loadVar t ⟨L.blk, L.sh + off, none⟩).run P w = .ok (cc.getD (L.sh + off) Go.undef) w := by
              simp only [loadVar, Sem.run_bind, run_isAgg hd, hag, Result.andThen_ok, Bool.false_eq_true, if_false]
              exact run_load1 hw (by omega)
            simp only [resOne, hpv, asAddr, Sem.run_bind, Sem.run_pure, Result.andThen_ok, hld, g4]
        · cases h2
    · cases h'
theorem results_sound {ι : Io} {H : AH} {w : World} {env : Env} {fn : Func} {tmps : Array Value} {K : List AV → Bool} (hr : HR P base ι H w) (he : rowR ι env tmps) (hok : fn.results.toList.all (okR P) = true) (h : rvs (fn.results.toList.map (compR P)) env H K = true) :
    ∃ l v, K l = true ∧ (results fn tmps).run P w = .ok v w ∧ VR ι (oneOf l) v := by
  obtain ⟨l, vs, h1, h2, h3, h4⟩ := rvs_sound hr he _ _ hok h
  have hrun : (results fn tmps).run P w = .ok (if h : vs.toArray.size = 1 then vs.toArray[0] else .tuple vs.toArray) w := by
    have e : results fn tmps = (do let vs ← fn.results.mapM (resOne tmps); pure (if h : vs.size = 1 then vs[0] else .tuple vs)) := rfl
    rw [e, Array.mapM_eq_mapM_toList]
    simp only [bind_map_left, Sem.run_bind]
    rw [h4]
    rfl
  refine ⟨l, _, h1, hrun, ?_⟩
  match l, vs, h2, h3 with
  | [v], [cv], _, h3 => exact h3 0
  | [], [], _, h3 => exact .tup _ _ rfl (fun i => by simp only [List.getD_nil]; exact .undef _)
  | x :: y :: l, x' :: y' :: vs, h2, h3 =>
    rw [dif_neg (by simp)]
    exact .tup _ _ (by simpa using h2) (fun i => by simpa using h3 i)

/-! ### the blocks for deferred calls -/
theorem close_sound {fn : Func} {tmps : Array Value} {R : Ending → World → Prop} : ∀ (ds : List Nat) (x : List Deferred) (ι : Io) (H : AH) (w : World) (K : AH → Bool), defR ι ds x → HR P base ι H w → closeAll ds H K = true →
    (∀ H' w', Nx P base ι H w ι H' w' → K H' = true → ∃ v, (results fn tmps).run P w' = .ok v w' ∧ R (.returned v) w') → LeavesInM Fence.wide 0 P fn tmps R x .returning w := by
  intro ds x ι H w K hd
  induction hd generalizing H w with
  | nil => intro hr h hk; exact hk H w (Nx.refl hr) h
  | cons d ds x L hL t ih =>
    intro hr h hk
    have h' : (match H.get d with
      | some (.dfd true) => closeAll ds (H.set d (.dfd false)) K
      | _ => false) = true := h
    split at h'
    · rename_i hg
      obtain ⟨c, hc, ho⟩ := hr.obj d _ L hg hL
      cases ho with
      | dfd hb =>
        refine ⟨(by intro e; cases e), Or.inl ⟨L.blk, _, rfl, run_takeDeferred hc, ?_⟩⟩
        have hnx := hr.updNx hg hL (putObj_up (o' := .deferred none) hc) (.dfd0 hb _ (fun c e f hh => by cases hh)) hb
        exact ih _ _ hnx.hr h' (fun H' w' hnx' hK => hk H' w' (hnx.trans hnx') hK)
    · cases h'

/-! ### a call -/
theorem rowR_enter {ι : Io} {args : List AV} {cargs : Array Value} (h : rowR ι args cargs) (n : Nat) : rowR ι (args ++ List.replicate (n - args.length) (.tup [])) (cargs ++ Array.replicate (n - cargs.size) undef) := by
  refine ⟨by simp [h.1], fun i => ?_⟩
  rw [List.getD_eq_getElem?_getD, Array.getD_eq_getD_getElem?]
  by_cases hi : i < args.length
  · rw [List.getElem?_append_left hi, Array.getElem?_append_left (by rw [← h.1]; exact hi), ← List.getD_eq_getElem?_getD, ← Array.getD_eq_getD_getElem?]
    exact h.2 i
  · rw [List.getElem?_append_right (by omega), Array.getElem?_append_right (by rw [← h.1]; omega), h.1]
    by_cases hj : i - cargs.size < n - cargs.size
    · rw [List.getElem?_replicate, if_pos hj, Array.getElem?_replicate, if_pos hj]
      exact VR_skip ι
    · rw [List.getElem?_replicate, if_neg hj]
      exact .undef _
theorem compF_inv {f : Nat} {c : FnIR} (h : compF P f = some (.code c)) : ∃ fn b, P.funcs[f]? = some fn ∧ (fn.name == "runtime.NumGoroutine") = false ∧ fn.body = some b ∧ fn.results.toList.all (okR P) = true ∧ c = ⟨fn.ntmps, fn.results.toList.map (compR P), compC P b⟩ := by
  unfold compF at h
  split at h
  · cases h
  · rename_i fn hf
    obtain ⟨hn, h⟩ : (fn.name == "runtime.NumGoroutine") = false ∧ _ := by
      cases hb : (fn.name == "runtime.NumGoroutine") with
      | true => rw [hb] at h; cases h
      | false => rw [hb] at h; exact ⟨rfl, h⟩
    simp only [cond_false] at h
    split at h
    · rename_i b hb
      cases hok : fn.results.toList.all (okR P) with
      | false => rw [hok] at h; cases h
      | true => rw [hok] at h; cases h; exact ⟨fn, b, hf, hn, hb, hok, rfl⟩
    · cases hc : (fn.name == "maps.clone") with
      | true => rw [hc] at h; cases h
      | false => rw [hc] at h; cases h
theorem run_enter {f : Nat} {fn : Func} {b : Code} (hf : P.funcs[f]? = some fn) (hn : (fn.name == "runtime.NumGoroutine") = false) (hb : fn.body = some b) (args : Array Value) (w : World) : (callFunc f args).run P w = .ok (.enter f args) w := by
  have hn' : ¬ (fn.name = "runtime.NumGoroutine") := fun e => by rw [e] at hn; simp at hn
  simp [callFunc, hf, hn', hb]
theorem code_sound {N f : Nat} {c : FnIR} {ι : Io} {H : AH} {w : World} {args : List AV} {cargs : Array Value} {k : AV → AH → Bool} (hcl : ClS P cl) (hdr : DregS P cl) (hc : compF P f = some (.code c)) (hr : HR P base ι H w) (ha : rowR ι args cargs)
    (h : den cl N none c.body (args ++ List.replicate (c.ntmps - args.length) (.tup [])) [] H (fun e env ds H => match e with
      | .exit _ => false
      | _ => closeAll ds H fun H => rvs c.results env H fun l => k (oneOf l) H) = true) : CallsIn Fence.wide 0 P f cargs w (EndR P base ι H w k) := by
  obtain ⟨fn, b, hf, hn, hb, hok, rfl⟩ := compF_inv hc
  refine callsIn_of_wp_marks hf hb (FW_fn none f) ?_
  refine den_sound hcl hdr b none none ι H w _ [] { tmps := cargs ++ Array.replicate (fn.ntmps - cargs.size) undef, defers := [] } _ _ trivial hr (rowR_enter ha _) .nil h ?_
  intro e env' ds' H' ι' a' w' ce hnx he hd hx hk
  have fin : closeAll ds' H' (fun H => rvs (fn.results.toList.map (compR P)) env' H fun l => k (oneOf l) H) = true → LeavesInM Fence.wide 0 P fn a'.tmps (EndR P base ι H w k) a'.defers .returning w' := fun hk => by
    refine close_sound ds' a'.defers ι' H' w' _ hd hnx.hr hk (fun H2 w2 hnx2 hk2 => ?_)
    obtain ⟨l, v, g1, g2, g3⟩ := results_sound (tmps := a'.tmps) hnx2.hr he hok hk2
    exact ⟨v, g2, v, oneOf l, H2, ι', rfl, hnx.trans hnx2, g3, g1⟩
  cases e with
  | normal => cases ce <;> first | (exact hx.elim) | exact fin hk
  | ret => cases ce <;> first | (exact hx.elim) | exact fin hk
  | exit id => cases hk

theorem row3 {ι : Io} {x y z : List AV} {x' y' z' : Array Value} (hx : rowR ι x x') (hy : rowR ι y y') (hz : rowR ι z z') : rowR ι (x ++ y ++ z) (x' ++ y' ++ z') := by
  have two : ∀ {x y : List AV} {x' y' : Array Value}, rowR ι x x' → rowR ι y y' → rowR ι (x ++ y) (x' ++ y') := fun {x y x' y'} hx hy => by
    refine ⟨by simp [hx.1, hy.1], fun i => ?_⟩
    rw [List.getD_eq_getElem?_getD, Array.getD_eq_getD_getElem?]
    by_cases hi : i < x.length
    · rw [List.getElem?_append_left hi, Array.getElem?_append_left (by rw [← hx.1]; exact hi), ← List.getD_eq_getElem?_getD, ← Array.getD_eq_getD_getElem?]
      exact hx.2 i
    · rw [List.getElem?_append_right (by omega), Array.getElem?_append_right (by rw [← hx.1]; omega), hx.1, ← List.getD_eq_getElem?_getD, ← Array.getD_eq_getD_getElem?]
      exact hy.2 _
  exact two (two hx hy) hz
end
end Go.Jt
