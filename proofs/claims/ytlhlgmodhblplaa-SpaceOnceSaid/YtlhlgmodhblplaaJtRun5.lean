/-
  The abstract run is true to the model's walk: all calls, by how much fuel there is.
-/
import Derived.Test.YtlhlgmodhblplaaJtRun4
set_option autoImplicit false
set_option linter.all false
namespace Go.Jt
open Go.RowKit (Below)
variable [Gl]

section
variable {P : Program} {base : Nat} {cl : Cl}

theorem run_clone {w : World} {r : Nat} {es : Array MapEntry} {clock : Nat} (t : TypeId) (hb : w.heap[r]? = some (.map es clock)) :
    (Extern.MapsClone.clone #[.iface t (.map (some r))]).run P w = .ok (.iface t (.map (some w.heap.size))) (w.alloc (.map es clock)) := by
  have e : Extern.MapsClone.clone #[.iface t (.map (some r))] = (getObj r >>= fun o => match o with
      | .map entries clock => (newObj (.map entries clock) >>= fun n => pure (.iface t (.map (some n))))
      | _ => stuck "maps.clone: a map expected") := rfl
  rw [e]
  simp [run_getMap hb]
theorem callF_sound {tbl : Nat → Option FT} {N f : Nat} {ι : Io} {H : AH} {w : World} {v : AV} {args0 first cap : List AV} {cargs : Array Value} {k : AV → AH → Bool} (ht : TblS P tbl) (hcl : ClS P cl) (hdr : DregS P cl) (hr : HR P base ι H w) (ha : rowR ι (first ++ args0 ++ cap) cargs)
    (h : callF tbl cl N f (first ++ args0 ++ cap) H k = true) : UP P base ι H w k (onlyF v args0) ((callFunc f cargs).run P w) := by
  unfold callF at h
  split at h
  · rename_i c hc
    have hc' := ht f _ hc
    obtain ⟨fn, b, hf, hn, hb, _⟩ := compF_inv hc'
    exact Or.inl ⟨f, cargs, w, run_enter hf hn hb cargs w, code_sound hcl hdr hc' hr ha h⟩
  · rename_i hc
    obtain ⟨fn, hf, hn, hb, hx, he⟩ := ht f _ hc
    split at h
    · rename_i t r hargs
      obtain ⟨es, ck, hg, h2⟩ := gmap_inv h
      rw [anew_eq] at h2
      rw [hargs] at ha
      have hsz : cargs.size = 1 := ha.1.symm
      have h0 := ha.2 0
      have hcv : cargs = #[cargs.getD 0 Go.undef] := by
        apply Array.ext
        · simp [hsz]
        · intro i h1 h2'
          have : i = 0 := by omega
          subst this
          simp [hsz]
      generalize cargs.getD 0 Go.undef = cv at hcv h0
      subst hcv
      have h0' : VR ι (.ifc t (.map r)) cv := h0
      cases h0' with
      | ifc _ _ v' hv' =>
      cases hv' with
      | map _ L hL =>
      obtain ⟨ents, hw, hl, hent, hbase⟩ := hr.mapAt hg hL
      refine Or.inr ⟨?_, Or.inl ⟨_, _, _, .value (.iface t (.map (some w.heap.size))), w.alloc (.map ents ck), ?_, hr.newNx 0 rfl rfl rfl rfl (.mp _ _ _ (by simpa using hl) (fun j x e h1 h2 => ?_) hr.below), ?_, h2⟩⟩
      · rintro ⟨_, l, hl⟩
        subst hl
        have hlen := congrArg List.length hargs
        have hmem : AV.fn (.yld l) [] [] ∈ first ++ [AV.fn (.yld l) [] []] ++ cap := by simp
        rw [hargs] at hmem
        simp at hmem
      · rw [run_callFunc_extern hf hn hb hx he, run_clone t hw]
        rfl
      · have := hent j x e h1 (by rw [Array.getElem?_toList]; exact h2)
        have hle := ext_le_new hr ⟨w.heap.size, 0, 0⟩
        exact ⟨this.1.mono hle, this.2.1.mono hle, this.2.2⟩
      · exact .ifc _ _ _ (.map _ _ (Io.ext_self _ _ _))
    · cases h
  · rename_i g hc
    obtain ⟨hen, hs⟩ := ht f _ hc
    exact Or.inl ⟨f, cargs, w, hen cargs w, hs base ι H w _ _ k hr ha h⟩
  · rename_i g hc
    obtain ⟨hno, hres⟩ := ht f _ hc base ι H w _ _ k hr ha h
    refine Or.inr ⟨?_, Or.inl hres⟩
    rintro ⟨_, l, hl⟩
    subst hl
    exact hno l (by simp)
  · cases h

theorem setAll_row {ι : Io} : ∀ (ps : List Nat) (args : List AV) (cs : List Value) (env : Env) (tmps : Array Value), rowR ι env tmps → args.length = cs.length → (∀ i, VR ι (args.getD i .undef) (cs.getD i Go.undef)) → ps.length = args.length →
    rowR ι (setAll ps args env) ((ps.zip cs).foldl (fun tmps (t, a) => tmps.setIfInBounds t a) tmps)
  | [], [], [], env, tmps, h, _, _, _ => h
  | p :: ps, x :: args, c :: cs, env, tmps, h, hl, hv, hp => by
    have h1 := rowR_put (a := ⟨tmps, []⟩) (dst := some p) h (hv 0)
    exact setAll_row ps args cs _ _ h1 (by simpa using hl) (fun i => hv (i + 1)) (by simpa using hp)
  | [], _ :: _, _, _, _, _, _, _, hp => by cases hp
  | _ :: _, [], _, _, _, _, _, _, hp => by cases hp
  | [], [], _ :: _, _, _, _, hl, _, _ => by cases hl
  | _ :: _, _ :: _, [], _, _, _, hl, _, _ => by cases hl

theorem round_sound {N l : Nat} {ι : Io} {H : AH} {w : World} {v : AV} {args : List AV} {cargs : Array Value} {k : AV → AH → Bool} {L : Loc} (hno : ¬ onlyF v args) (hcl : ClS P cl) (hdr : DregS P cl) (hr : HR P base ι H w) (hL : ι l = some L) (ha : rowR ι args cargs)
    (h : roundV cl N l args H k = true) : UP P base ι H w k (onlyF v args) ((Instr.yield L.blk cargs).run P w) := by
  unfold roundV at h
  split at h
  · rename_i r0 hg
    obtain ⟨c, hc, h1, h2, h3, h4, h5, h6, h7, hbase⟩ := hr.loopAt hg hL
    obtain ⟨hlen, hx⟩ := cond_true_inv h
    have hlen' := Nat.eq_of_beq_eq_true hlen
    have hsz : cargs.size = c.params.size := by rw [← ha.1, hlen', h4]; simp
    refine Or.inr ⟨hno, Or.inr ⟨L.blk, c.fn, _, c.assign, c.body, w, run_yield hc hsz, ?_⟩⟩
    refine roundIn_of_wpIn (FW_fn none c.fn) ?_
    have hrow : rowR ι (setAll r0.params args r0.tmps) ((c.params.zip cargs).foldl (fun tmps (t, a) => tmps.setIfInBounds t a) c.tmps) := by
      have := setAll_row r0.params args cargs.toList r0.tmps c.tmps h3 (by rw [ha.1]; simp) (fun i => by
        have := ha.2 i
        rw [Array.getD_eq_getD_getElem?, ← Array.getElem?_toList, ← List.getD_eq_getElem?_getD] at this
        exact this) hlen'.symm
      rw [← Array.foldl_toList, Array.toList_zip, ← h4]
      exact this
    rw [h5] at hx
    refine den_sound hcl hdr c.assign (some l) (some L.blk) ι H w _ [] { tmps := _, defers := [] } _ _ ⟨L, hL, rfl⟩ hr hrow .nil hx ?_
    intro e env2 ds2 H2 ι2 a2 w2 ce hnx2 he2 hd2 hx2 hk2
    cases e with
    | exit id => cases hk2
    | ret => cases hk2
    | normal =>
    cases ce <;> first | (exact hx2.elim) | skip
    have hk3 : (match H2.get l with
        | some (.lp r) => match r.state with
          | .ready => den cl N (some l) r0.body env2 ds2 (H2.set l (.lp { r with state := .busy })) fun e env ds H => (match H.get l with
            | some (.lp r) => match e with
              | .normal => k (.bool true) (H.set l (.lp { r with state := .ready, pending := none }))
              | e => k (.bool false) (H.set l (.lp { r with state := .done, pending := some e }))
            | _ => false)
          | _ => false
        | _ => false) = true := hk2
    split at hk3
    · rename_i r2 hg2
      have hL2 := hnx2.le _ _ hL
      obtain ⟨c2, hc2, j1, j2, j3, j4, j5, j6, j7, _⟩ := hnx2.hr.loopAt hg2 hL2
      split at hk3
      · rename_i hst
        rw [hst] at j1
        have hcs : c2.state = .ready := by
          cases hs : c2.state <;> rw [hs] at j1 <;> first | rfl | exact j1.elim
        have hnx3 := hnx2.hr.updNx hg2 hL2 (putObj_up (o' := .loop { c2 with state := .busy }) hc2) (OR_lp (r := { r2 with state := .busy }) trivial j2 j3 j4 j5 j6 j7 hbase) hbase
        refine ⟨_, run_beginRound hc2 hcs, ?_⟩
        rw [h6] at hk3
        refine den_sound hcl hdr c.body (some l) (some L.blk) ι2 _ _ _ ds2 a2 _ _ ⟨L, hL2, rfl⟩ hnx3.hr he2 hd2 hk3 ?_
        intro e env4 ds4 H4 ι4 a4 w4 ce4 hnx4 he4 hd4 hx4 hk4
        have hL4 := hnx4.le _ _ hL2
        have hnx234 := (hnx2.trans hnx3).trans hnx4
        dsimp only at hk4
        split at hk4
        · rename_i r4 hg4
          obtain ⟨c4, hc4, q1, q2, q3, q4, q5, q6, q7, _⟩ := hnx4.hr.loopAt hg4 hL4
          cases e with
          | normal =>
            cases ce4 <;> first | (exact hx4.elim) | skip
            have hnx5 := hnx4.hr.updNx hg4 hL4 (putObj_up (o' := .loop { c4 with state := .ready, pending := none }) hc4) (OR_lp (r := { r4 with state := .ready, pending := none }) trivial trivial q3 q4 q5 q6 q7 hbase) hbase
            exact ⟨.bool true, _, run_endRound none hc4, .bool true, .bool true, _, ι4, rfl, hnx234.trans hnx5, .bool true, hk4⟩
          | exit id =>
            cases ce4 <;> first | (exact hx4.elim) | skip
            rename_i id'
            have hnx5 := hnx4.hr.updNx hg4 hL4 (putObj_up (o' := .loop { c4 with state := .done, pending := some (.exit id') }) hc4) (OR_lp (r := { r4 with state := .done, pending := some (.exit id) }) trivial hx4 q3 q4 q5 q6 q7 hbase) hbase
            exact ⟨.bool false, _, run_endRound (some (.exit id')) hc4, .bool false, .bool false, _, ι4, rfl, hnx234.trans hnx5, .bool false, hk4⟩
          | ret =>
            cases ce4 <;> first | (exact hx4.elim) | skip
            have hnx5 := hnx4.hr.updNx hg4 hL4 (putObj_up (o' := .loop { c4 with state := .done, pending := some .ret }) hc4) (OR_lp (r := { r4 with state := .done, pending := some .ret }) trivial trivial q3 q4 q5 q6 q7 hbase) hbase
            exact ⟨.bool false, _, run_endRound (some .ret) hc4, .bool false, .bool false, _, ι4, rfl, hnx234.trans hnx5, .bool false, hk4⟩
        · cases hk4
      · cases hk3
    · cases hk3
  · cases h

noncomputable def callV (tbl : Nat → Option FT) (cl : Cl) (N : Nat) (v : AV) (args : List AV) (H : AH) (k : AV → AH → Bool) : Bool := match v with
  | .fn (.fn (.func g)) first cap => callF tbl cl N g (first ++ args ++ cap) H k
  | .fn (.yld l) [] _ => roundV cl N l args H k
  | _ => false
/-- THE ABSTRACT CALLS ARE TRUE TO THE MODEL's -/
theorem RUN_sound {tbl : Nat → Option FT} {N : Nat} (ht : TblS P tbl) (hdr : ∀ cl, ClS P cl → DregS P cl) : ∀ f, ClS P (RUN tbl N f)
  | 0 => fun base ι H w v args k cv cargs hr hv ha h => by cases h
  | f + 1 => fun base ι H w v args k cv cargs hr hv ha h => by
    have ih := RUN_sound (N := N) ht hdr f
    have h' : callV tbl (RUN tbl N f) N v args H k = true := h
    clear h
    unfold callV at h'
    split at h'
    · rename_i g first cap
      cases hv with
      | fn _ f' _ _ first' cap' hf h1 h2 h3 h4 =>
        cases hf
        have hrow := row3 (x := first) (x' := first') ⟨h1, h2⟩ ha (z := cap) (z' := cap') ⟨h3, h4⟩
        have := callF_sound (v := .fn (.fn (.func g)) first cap) (args0 := args) ht ih (hdr _ ih) hr hrow h'
        simpa [Deferred.ofValue, invoke] using this
    · rename_i l cap
      cases hv with
      | fn _ f' _ _ first' cap' hf h1 h2 h3 h4 =>
        cases hf with
        | yld _ L hL =>
        have hf0 : first' = #[] := Array.eq_empty_of_size_eq_zero h1.symm
        subst hf0
        have := round_sound (v := .fn (.yld l) [] cap) (k := k) (fun ho => by obtain ⟨⟨g, x, y, e⟩, _⟩ := ho; cases e) ih (hdr _ ih) hr hL ha h'
        simpa [Deferred.ofValue, invoke] using this
    · cases h'
end
end Go.Jt
