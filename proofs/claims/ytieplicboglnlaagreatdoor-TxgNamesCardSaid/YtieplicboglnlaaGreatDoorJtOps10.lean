/-
  The abstract run of an operation is true to the model's: maps, strings turned to bytes, len, cap, min, max.
-/
import Derived.Test.YtieplicboglnlaaGreatDoorJtOps9
import Derived.MapKept
import Derived.Lib.SlicesS
set_option autoImplicit false
set_option linter.all false
namespace Go.Jt
open Go.RowKit (Below)
variable [Gl]

section
variable {P : Program} {base : Nat} {ι : Io} {H : AH} {w : World} {k : AV → AH → Bool} {env : Env} {a : Act}

/-! ### maps -/
theorem keyT_inv {t : TypeId} {kk : Nat} (h : keyT P t = some kk) : ∃ d, P.underlying t = some d ∧ ((kk = 0 ∧ ∃ q, d = .int q) ∨ (kk = 1 ∧ d = .string)) := by
  unfold keyT at h
  split at h
  · rename_i q hq; cases h; exact ⟨_, hq, Or.inl ⟨rfl, q, rfl⟩⟩
  · rename_i hq; cases h; exact ⟨_, hq, Or.inr ⟨rfl, rfl⟩⟩
  · cases h
theorem run_check {t : TypeId} {kk : Nat} {key : AV} {kv : Value} (h : keyT P t = some kk) (hk : isKey kk key = true) (hv : VR ι key kv) (em : Bool) : (Instr.checkKey em 10000 t kv).run P w = .ok () w := by
  obtain ⟨d, hd, hd'⟩ := keyT_inv h
  rw [show (10000 : Nat) = 9999 + 1 from rfl]
  unfold Instr.checkKey
  simp only [Sem.run_bind, run_und hd, Result.andThen_ok]
  rcases hd' with ⟨_, q, rfl⟩ | ⟨_, rfl⟩
  · simp
  · simp
theorem keyEq_inv {key e : AV} {kv ev' : Value} {kk : Nat} {d : TypeDesc} {yes no : Unit → Bool} (hd : (kk = 0 ∧ ∃ q, d = .int q) ∨ (kk = 1 ∧ d = .string)) (hk : isKey kk key = true) (hv : VR ι key kv) (he : VR ι e ev')
    (h : keyEq key e yes no = true) : (Instr.sameNow d kv ev' = some true ∧ ev' = kv ∧ yes () = true) ∨ (Instr.sameNow d kv ev' = some false ∧ no () = true) := by
  unfold keyEq at h
  split at h
  · rename_i q m r n
    cases hv
    cases he
    obtain ⟨h1, h'⟩ := cond_true_inv h
    have := ikN_inj h1
    subst this
    have hkk : kk = 0 := Nat.eq_of_beq_eq_true hk
    rcases hd with ⟨_, q', rfl⟩ | ⟨h', _⟩
    · cases hmn : ieq m n with
      | true =>
        rw [hmn] at h'
        rw [ieq_eq, beq_iff_eq] at hmn
        subst hmn
        exact Or.inl ⟨by simp [Instr.sameNow], rfl, h'⟩
      | false =>
        rw [hmn] at h'
        rw [ieq_eq, beq_eq_false_iff_ne] at hmn
        exact Or.inr ⟨by simp [Instr.sameNow, hmn], h'⟩
    · omega
  · rename_i m n
    obtain ⟨s1, rfl, rfl⟩ := hv.str_inv
    obtain ⟨s2, rfl, rfl⟩ := he.str_inv
    have hkk : kk = 1 := Nat.eq_of_beq_eq_true hk
    rcases hd with ⟨h', _⟩ | ⟨_, rfl⟩
    · omega
    · have h2 := bytesOf_eq s1 s2
      cases hs : seq (bytesOf s1) (bytesOf s2) with
      | true =>
        rw [hs] at h h2
        have h4 : s1 = s2 := (Lib.bytes_beq_iff s1 s2).1 h2.symm
        subst h4
        exact Or.inl ⟨by simp [Instr.sameNow, MapKept.bytes_beq], rfl, h⟩
      | false =>
        rw [hs] at h h2
        have h4 : ¬ ((s1 == s2) = true) := fun e => by
          have e' := (MapKept.bytes_beq s1 s2).1 e
          subst e'
          rw [(Lib.bytes_beq_iff s1 s1).2 rfl] at h2
          cases h2
        refine Or.inr ⟨?_, h⟩
        simp [Instr.sameNow, h4]
  · cases h
theorem mfind_sound {key : AV} {kv : Value} {kk : Nat} {d : TypeDesc} (hd : (kk = 0 ∧ ∃ q, d = .int q) ∨ (kk = 1 ∧ d = .string)) (hk : isKey kk key = true) (hv : VR ι key kv) {yes : Nat → AV → Bool} {no : Unit → Bool} :
    ∀ (es : List (AV × AV × Nat)) (cs : List MapEntry) (i : Nat), es.length = cs.length → (∀ (j : Nat) (x : AV × AV × Nat) (e : MapEntry), es[j]? = some x → cs[j]? = some e → entR ι x e) → mfind key es yes no i = true →
    (∃ j x e, es[j]? = some x ∧ cs[j]? = some e ∧ Instr.findNow d kv cs i = some (some (i + j, e.val)) ∧ e.key = kv ∧ VR ι x.2.1 e.val ∧ yes (i + j) x.2.1 = true) ∨ (Instr.findNow d kv cs i = some none ∧ no () = true)
  | [], cs, i, hl, _, h => by
    cases cs with
    | nil => exact Or.inr ⟨rfl, h⟩
    | cons c cs => cases hl
  | x :: es, [], i, hl, _, h => by cases hl
  | x :: es, e :: cs, i, hl, he, h => by
    have h0 := he 0 x e rfl rfl
    rcases keyEq_inv hd hk hv h0.1 (show keyEq key x.1 (fun _ => yes i x.2.1) (fun _ => mfind key es yes no (Nat.succ i)) = true from h) with ⟨h1, h2, h3⟩ | ⟨h1, h3⟩
    · exact Or.inl ⟨0, x, e, rfl, rfl, by simp [Instr.findNow, h1], h2, h0.2.1, h3⟩
    · rcases mfind_sound hd hk hv es cs (Nat.succ i) (by simpa using hl) (fun j y f h4 h5 => he (j + 1) y f (by simpa using h4) (by simpa using h5)) h3 with ⟨j, y, f, g1, g2, g3, g4, g5, g6⟩ | ⟨g1, g2⟩
      · refine Or.inl ⟨j + 1, y, f, by simpa using g1, by simpa using g2, ?_, g4, g5, ?_⟩
        · simp only [Instr.findNow, h1]
          rw [show i + (j + 1) = i.succ + j by omega]
          exact g3
        · rw [show i + (j + 1) = i.succ + j by omega]; exact g6
      · exact Or.inr ⟨by simpa [Instr.findNow, h1] using g1, g2⟩
theorem run_find {t : TypeId} {d : TypeDesc} {kv : Value} {cs : List MapEntry} {r : Option (Nat × Value)} (hd : P.underlying t = some d) (h : Instr.findNow d kv cs 0 = some r) : (Instr.findKey t kv cs).run P w = .ok r w := by
  simp [Instr.findKey, run_und hd, h]
theorem run_getMap {r : Nat} {es : Array MapEntry} {ck : Nat} (hb : w.heap[r]? = some (.map es ck)) : (getObj r).run P w = .ok (.map es ck) w := by
  simp [getObj, Sem.run, hb]
theorem run_setMap {r : Nat} {es : Array MapEntry} {ck : Nat} (o : Obj) (hb : w.heap[r]? = some (.map es ck)) : (setObj r o).run P w = .ok () { w with heap := w.heap.setIfInBounds r o } := by
  simp [setObj, Sem.run, hb]
/-- a map's block -/
theorem HR.mapAt (h : HR P base ι H w) {b : Nat} {es : List (AV × AV × Nat)} {ck : Nat} {L : Loc} (hb : H.get b = some (.mp es ck)) (hi : ι b = some L) :
    ∃ ents, w.heap[L.blk]? = some (.map ents ck) ∧ es.length = ents.toList.length ∧ (∀ (j : Nat) (x : AV × AV × Nat) (e : MapEntry), es[j]? = some x → ents.toList[j]? = some e → entR ι x e) ∧ base ≤ L.blk := by
  obtain ⟨c, hc, ho⟩ := h.obj b _ L hb hi
  cases ho with
  | mp _ _ ents hl he hbase => exact ⟨ents, hc, by simpa using hl, fun j x e h1 h2 => he j x e h1 (by rw [Array.getElem?_toList] at h2; exact h2), hbase⟩
theorem sound_lkp (o : Oper) (t kt e : TypeId) (m key : Operand) (z : AV) (kk : Nat) (ok : Bool) (ho : o.op = .lookup t m key ok) (ht : P.underlying t = some (.map kt e)) (hkt : keyT P kt = some kk) (hz : zeroAV P e = some z) (hr : HR P base ι H w) (he : rowR ι env a.tmps)
    (hx : xop (.lkp z ok kk (od m) (od key)) env H k = true) : Res P base ι H w k ((execOp a.eval o).run P w) := by
  simp only [xop] at hx
  have hm := ev_sound he m
  have hk := ev_sound he key
  generalize hmv : a.eval m = mv at hm
  generalize hkv : a.eval key = kv at hk
  generalize ev env (od m) = mx at hm hx
  generalize ev env (od key) = kx at hk hx
  obtain ⟨hik, hx⟩ := cond_true_inv hx
  obtain ⟨d, hd, hd'⟩ := keyT_inv hkt
  unfold zeroAV at hz
  cases hi : P.info? e with
  | none => rw [hi] at hz; cases hz
  | some i =>
  rw [hi] at hz
  simp only [Option.bind_some] at hz
  cases hzv : i.zero with
  | none => rw [hzv] at hz; cases hz
  | some zv =>
  rw [hzv] at hz
  cases hz
  have hzr := VR_ofV ι zv
  have htup : ∀ {x : AV} {xv : Value} (b : Bool), VR ι x xv → VR ι (cond ok (.tup [x, .bool b]) x) (if ok then .tuple #[xv, .bool b] else xv) := fun {x xv} b h => by
    cases ok
    · exact h
    · exact .tup _ _ rfl (fun i => match i with
        | 0 => h
        | 1 => .bool _
        | i + 2 => by
          have e1 : [x, AV.bool b].getD (i + 2) .undef = .undef := by simp
          rw [e1]; exact .undef _)
  split at hx
  · cases hm
    refine Res.pure hr (cv := if ok then .tuple #[zv, .bool false] else zv) ?_ (htup _ hzr) hx
    have hf : (Instr.findKey kt kv []).run P w = .ok none w := run_find hd rfl
    have hc := run_check (w := w) hkt hik hk true
    simp [execOp, ho, hmv, hkv, Instr.lookup, run_und ht, hc, hf, run_zero hi hzv]
  · rename_i r
    obtain ⟨es, ck, hb, hx⟩ := gmap_inv hx
    cases hm with
    | map _ L hL =>
    obtain ⟨ents, hw, hl, hent, _⟩ := hr.mapAt hb hL
    have hc := fun em => run_check (w := w) hkt hik hk em
    rcases mfind_sound hd' hik hk es ents.toList 0 hl hent hx with ⟨j, x, f, g1, g2, g3, g4, g5, g6⟩ | ⟨g3, g6⟩
    · refine Res.pure hr (cv := if ok then .tuple #[f.val, .bool true] else f.val) ?_ (htup _ g5) g6
      simp [execOp, ho, hmv, hkv, Instr.lookup, run_und ht, hc, run_find hd g3, run_getMap hw]
    · refine Res.pure hr (cv := if ok then .tuple #[zv, .bool false] else zv) ?_ (htup _ hzr) g6
      simp [execOp, ho, hmv, hkv, Instr.lookup, run_und ht, hc, run_find hd g3, run_getMap hw, run_zero hi hzv]
  · cases hx
theorem sound_mup (o : Oper) (t kt e : TypeId) (m key x : Operand) (kk : Nat) (ho : o.op = .mapUpdate t m key x) (ht : P.underlying t = some (.map kt e)) (hkt : keyT P kt = some kk) (hr : HR P base ι H w) (he : rowR ι env a.tmps)
    (hx : xop (.mup kk (od m) (od key) (od x)) env H k = true) : Res P base ι H w k ((execOp a.eval o).run P w) := by
  simp only [xop] at hx
  have hm := ev_sound he m
  have hk := ev_sound he key
  have hv := ev_sound he x
  generalize hmv : a.eval m = mv at hm
  generalize hkv : a.eval key = kv at hk
  generalize hxv : a.eval x = xv at hv
  generalize ev env (od m) = mx at hm hx
  generalize ev env (od key) = kx at hk hx
  generalize ev env (od x) = vx at hv hx
  obtain ⟨hik, hx⟩ := cond_true_inv hx
  obtain ⟨d, hd, hd'⟩ := keyT_inv hkt
  split at hx
  · rename_i r
    obtain ⟨es, ck, hb, hx⟩ := gmap_inv hx
    cases hm with
    | map _ L hL =>
    obtain ⟨ents, hw, hl, hent, hbase⟩ := hr.mapAt hb hL
    have hc := fun em => run_check (w := w) hkt hik hk em
    have hl' : es.length = ents.size := by simpa using hl
    rcases mfind_sound hd' hik hk es ents.toList 0 hl hent hx with ⟨j, y, f, g1, g2, g3, g4, g5, g6⟩ | ⟨g3, g6⟩
    · have g2' : ents[j]? = some f := by rw [Array.getElem?_toList] at g2; exact g2
      have hstay : (Instr.keyThatStays kv kv).run P w = .ok kv w := by
        have hsb : Instr.sameBits 10000 kv kv = true := by
          cases hk <;> first | (cases hik; done) | simp [Instr.sameBits, MapKept.bytes_beq]
        simp [Instr.keyThatStays, hsb]
      rw [Nat.zero_add] at g3 g6
      have hrun : (execOp a.eval o).run P w = .ok .skip { w with heap := w.heap.setIfInBounds L.blk (.map (ents.modify j fun e => { e with key := kv, val := xv }) ck) } := by
        simp [execOp, ho, hmv, hkv, hxv, Instr.mapUpdate, run_und ht, hc, run_find hd g3, run_getMap hw, g2', g4, hstay, run_setMap _ hw]
      refine ⟨.undef, _, ι, _, _, hrun, hr.updNx hb hL (up_setObj _ _ _ hw) (.mp _ _ _ (by simp [hl']) (fun l u v h1 h2 => ?_) hbase) hbase, .undef _, g6⟩
      rw [List.getElem?_modify] at h1
      rw [Array.getElem?_modify] at h2
      by_cases hjl : j = l
      · subst hjl
        rw [g1] at h1
        rw [if_pos rfl, g2'] at h2
        simp at h1 h2
        subst h1
        subst h2
        have := hent j y f g1 g2
        exact ⟨hk, hv, this.2.2⟩
      · rw [if_neg hjl] at h2
        simp [hjl] at h1
        exact hent l u v h1 (by rw [Array.getElem?_toList]; exact h2)
    · have hrun : (execOp a.eval o).run P w = .ok .skip { w with heap := w.heap.setIfInBounds L.blk (.map (ents.push { key := kv, val := xv, born := ck }) (ck + 1)) } := by
        simp [execOp, ho, hmv, hkv, hxv, Instr.mapUpdate, run_und ht, hc, run_find hd g3, run_getMap hw, run_setMap _ hw]
      refine ⟨.undef, _, ι, _, _, hrun, hr.updNx hb hL (up_setObj _ _ _ hw) (.mp _ _ _ (by simp [hl']) (fun l u v h1 h2 => ?_) hbase) hbase, .undef _, g6⟩
      rw [Array.getElem?_push] at h2
      by_cases hll : l = ents.size
      · subst hll
        rw [if_pos rfl] at h2
        rw [List.getElem?_append_right (by omega)] at h1
        simp [hl'] at h1
        cases h2
        subst h1
        exact ⟨hk, hv, rfl⟩
      · rw [if_neg hll] at h2
        have hlt : l < ents.size := (Array.getElem?_eq_some_iff.1 h2).1
        rw [List.getElem?_append_left (by omega)] at h1
        exact hent l u v h1 (by rw [Array.getElem?_toList]; exact h2)
  · cases hx
theorem sound_del (o : Oper) (c : Call) (t kt e : TypeId) (ts : List TypeId) (m key : Operand) (kk : Nat) (ho : o.op = .call c) (hc : c.callee = .builtin .delete) (hat : c.argTypes.toList = t :: ts) (ha : c.args = #[m, key])
    (ht : P.underlying t = some (.map kt e)) (hkt : keyT P kt = some kk) (hr : HR P base ι H w) (he : rowR ι env a.tmps)
    (hx : xop (.del kk (od m) (od key)) env H k = true) : Res P base ι H w k ((execOp a.eval o).run P w) := by
  simp only [xop] at hx
  refine ResV.builtin ho hc (f := Builtin.delete_) (fun _ _ _ _ => rfl) ?_
  rw [ha]
  have hm := ev_sound he m
  have hk := ev_sound he key
  simp only [List.map_toArray, List.map_cons, List.map_nil]
  generalize a.eval m = mv at hm
  generalize a.eval key = kv at hk
  generalize ev env (od m) = mx at hm hx
  generalize ev env (od key) = kx at hk hx
  obtain ⟨hik, hx⟩ := cond_true_inv hx
  obtain ⟨d, hd, hd'⟩ := keyT_inv hkt
  have h0 : c.argTypes[0]? = some t := by rw [← Array.getElem?_toList, hat]; rfl
  have htup : VR ι (.tup []) (.tuple #[]) := .tup _ _ rfl (fun i => by simp only [List.getD_nil]; exact .undef _)
  have hck := fun em => run_check (w := w) hkt hik hk em
  split at hx
  · cases hm
    exact ResV.pure hr (by simp [Builtin.delete_, h0, run_und ht, hck]) htup hx
  · rename_i r
    obtain ⟨es, ck, hb, hx⟩ := gmap_inv hx
    cases hm with
    | map _ L hL =>
    obtain ⟨ents, hw, hl, hent, hbase⟩ := hr.mapAt hb hL
    have hl' : es.length = ents.size := by simpa using hl
    rcases mfind_sound hd' hik hk es ents.toList 0 hl hent hx with ⟨j, y, f, g1, g2, g3, g4, g5, g6⟩ | ⟨g3, g6⟩
    · rw [Nat.zero_add] at g3 g6
      have hj : j < ents.size := by
        rw [Array.getElem?_toList] at g2
        exact (Array.getElem?_eq_some_iff.1 g2).1
      refine ⟨.tup [], _, ι, .tuple #[], { w with heap := w.heap.setIfInBounds L.blk (.map (ents.eraseIdxIfInBounds j) ck) }, by simp [Builtin.delete_, h0, run_und ht, hck, run_getMap hw, run_find hd g3, run_setMap _ hw],
        hr.updNx hb hL (up_setObj _ _ _ hw) (.mp _ _ _ ?_ (fun l u v h1 h2 => ?_) hbase) hbase, htup, g6⟩
      · rw [← Array.length_toList, Array.toList_eraseIdxIfInBounds, List.length_eraseIdx, List.length_eraseIdx, hl]
      · rw [← Array.getElem?_toList, Array.toList_eraseIdxIfInBounds] at h2
        rw [List.getElem?_eraseIdx] at h1 h2
        split at h1
        · rename_i hlt
          rw [if_pos hlt] at h2
          exact hent l u v h1 h2
        · rename_i hlt
          rw [if_neg hlt] at h2
          exact hent _ u v h1 h2
    · refine ⟨.tup [], H, ι, .tuple #[], { w with heap := w.heap.setIfInBounds L.blk (.map ents ck) }, by simp [Builtin.delete_, h0, run_und ht, hck, run_getMap hw, run_find hd g3, run_setMap _ hw], ?_, htup, g6⟩
      have hself : w.heap.setIfInBounds L.blk (.map ents ck) = w.heap := by
        apply Array.ext_getElem?
        intro j
        rw [Array.getElem?_setIfInBounds]
        by_cases hj : L.blk = j
        · subst hj
          rw [if_pos rfl, hw]
          split
          · rfl
          · rename_i h; exact absurd (Array.getElem?_eq_some_iff.1 hw).1 h
        · rw [if_neg hj]
      rw [hself]
      exact Nx.refl hr
  · cases hx
theorem sound_clrm (o : Oper) (c : Call) (t kt e : TypeId) (m : Operand) (ho : o.op = .call c) (hc : c.callee = .builtin .clear) (hat : c.argTypes = #[t]) (ha : c.args = #[m])
    (ht : P.underlying t = some (.map kt e)) (hr : HR P base ι H w) (he : rowR ι env a.tmps) (hx : xop (.clrm (od m)) env H k = true) : Res P base ι H w k ((execOp a.eval o).run P w) := by
  simp only [xop] at hx
  refine ResV.builtin ho hc (f := Builtin.clear_) (fun _ _ _ _ => rfl) ?_
  rw [hat, ha]
  have hm := ev_sound he m
  simp only [List.map_toArray, List.map_cons, List.map_nil]
  generalize a.eval m = mv at hm
  generalize ev env (od m) = mx at hm hx
  have htup : VR ι (.tup []) (.tuple #[]) := .tup _ _ rfl (fun i => by simp only [List.getD_nil]; exact .undef _)
  split at hx
  · cases hm
    exact ResV.pure hr (by simp [Builtin.clear_, run_und ht]) htup hx
  · rename_i r
    obtain ⟨es, ck, hb, hx⟩ := gmap_inv hx
    cases hm with
    | map _ L hL =>
    obtain ⟨ents, hw, hl, hent, hbase⟩ := hr.mapAt hb hL
    exact ⟨.tup [], _, ι, .tuple #[], { w with heap := w.heap.setIfInBounds L.blk (.map #[] ck) }, by simp [Builtin.clear_, run_und ht, run_getMap hw, run_setMap _ hw],
        hr.updNx hb hL (up_setObj _ _ _ hw) (.mp _ _ _ rfl (fun l u v h1 h2 => by simp at h1) hbase) hbase, htup, hx⟩
  · cases hx
end
end Go.Jt
