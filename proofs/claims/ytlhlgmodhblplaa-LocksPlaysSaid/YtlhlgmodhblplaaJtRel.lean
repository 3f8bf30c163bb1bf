/-
  How an abstract heap stands to a world of the model, and what the model's small words on memory do there.
-/
import Derived.Test.YtlhlgmodhblplaaJtComp
set_option autoImplicit false
set_option linter.all false
namespace Go.Jt
open Go.RowKit (Below)
variable [Gl]

/-! ### small facts on the model's words -/
section
variable {P : Program} {w : World}
theorem run_und {t : TypeId} {d : TypeDesc} (h : P.underlying t = some d) : (underlying t).run P w = .ok d w := by
  simp [underlying, h]
theorem run_info {t : TypeId} {i : TypeInfo} (h : P.info? t = some i) : (typeInfo t).run P w = .ok i w := by
  simp [typeInfo, h]
theorem run_size {t : TypeId} {i : TypeInfo} (h : P.info? t = some i) : (sizeOf t).run P w = .ok i.size w := by
  simp [sizeOf, run_info h]
theorem run_zero {t : TypeId} {i : TypeInfo} {z : Value} (h : P.info? t = some i) (hz : i.zero = some z) : (zeroValue t).run P w = .ok z w := by
  simp [zeroValue, run_info h, hz]
theorem run_isAgg {t : TypeId} {d : TypeDesc} (h : P.underlying t = some d) : (isAgg t).run P w = .ok (isAggT P t) w := by
  unfold isAgg isAggT
  simp only [Sem.run_bind, run_und h, Result.andThen_ok, h]
  cases d <;> rfl
theorem add_none (b off n : Nat) : (Addr.mk b off none).add n = ⟨b, off + n, none⟩ := by
  unfold Addr.add
  split
  · rename_i h; subst h; rfl
  · rfl

/-- what 'w'' is beside 'w': block 'b' holds 'o'; all else is as it was -/
structure Up (w w' : World) (b : Nat) (o : Obj) : Prop where
  os : w'.os = w.os
  tape : w'.tape = w.tape
  output : w'.output = w.output
  size : w'.heap.size = w.heap.size
  other : ∀ k, k ≠ b → w'.heap[k]? = w.heap[k]?
  here : w'.heap[b]? = some o
theorem Up.refl (w : World) (b : Nat) (o : Obj) (h : w.heap[b]? = some o) : Up w w b o := ⟨rfl, rfl, rfl, rfl, fun _ _ => rfl, h⟩
theorem Up.trans {w w' w'' : World} {b : Nat} {o o' : Obj} (h : Up w w' b o) (h' : Up w' w'' b o') : Up w w'' b o' :=
  ⟨h'.os.trans h.os, h'.tape.trans h.tape, h'.output.trans h.output, h'.size.trans h.size, fun k hk => (h'.other k hk).trans (h.other k hk), h'.here⟩
theorem Up.below {w w' : World} {b base : Nat} {o : Obj} (h : Up w w' b o) (hb : base ≤ b) : Below base w w' :=
  ⟨h.os, h.tape, h.output, by rw [h.size]; exact Nat.le_refl _, fun k hk => h.other k (by omega)⟩
theorem up_setObj (b : Nat) (o o' : Obj) (h : w.heap[b]? = some o) : Up w { w with heap := w.heap.setIfInBounds b o' } b o' := by
  have hb : b < w.heap.size := by
    rcases Nat.lt_or_ge b w.heap.size with h' | h'
    · exact h'
    · simp [Array.getElem?_eq_none h'] at h
  refine ⟨rfl, rfl, rfl, by simp, fun k hk => ?_, ?_⟩
  · show (w.heap.setIfInBounds b o')[k]? = _
    rw [Array.getElem?_setIfInBounds]; simp [Ne.symm hk]
  · show (w.heap.setIfInBounds b o')[b]? = _
    rw [Array.getElem?_setIfInBounds]; simp [hb]
theorem up_setCell (b off : Nat) (c : Array Value) (el : TypeId) (fr : Nat × Nat) (v : Value) (h : w.heap[b]? = some (.cells c el fr)) :
    Up w (w.setCell ⟨b, off, none⟩ v) b (.cells (c.setIfInBounds off v) el fr) := by
  refine ⟨rfl, rfl, rfl, by simp [World.setCell], fun k hk => ?_, ?_⟩
  · simp only [World.setCell, Array.getElem?_modify]
    rw [if_neg (Ne.symm hk)]
  · simp [World.setCell, Array.getElem?_modify, h]
theorem cell_of {b off : Nat} {c : Array Value} {el : TypeId} {fr : Nat × Nat} (h : w.heap[b]? = some (.cells c el fr)) : w.cell? ⟨b, off, none⟩ = c[off]? := by
  simp [World.cell?, h]
theorem frozen_of {b off : Nat} {c : Array Value} {el : TypeId} {fr : Nat × Nat} (h : w.heap[b]? = some (.cells c el fr)) (hf : ¬ (fr.1 ≤ off ∧ off < fr.2)) : w.frozen? ⟨b, off, none⟩ = false := by
  obtain ⟨lo, hi⟩ := fr
  simp only [World.frozen?, h]
  simp only at hf
  rw [Bool.eq_false_iff]
  intro e
  simp at e
  exact hf e
theorem run_load1 {b off : Nat} {c : Array Value} {el : TypeId} {fr : Nat × Nat} (h : w.heap[b]? = some (.cells c el fr)) (ho : off < c.size) :
    (load ⟨b, off, none⟩).run P w = .ok (c.getD off Go.undef) w := by
  rw [run_load, cell_of h]
  simp [ho]
theorem run_loadFrom {b off : Nat} {c : Array Value} {el : TypeId} {fr : Nat × Nat} (h : w.heap[b]? = some (.cells c el fr)) (n : Nat) : ∀ (i : Nat) (acc : Array Value), off + i + n ≤ c.size →
    (loadCellsFrom ⟨b, off, none⟩ i n acc).run P w = .ok (acc ++ c.extract (off + i) (off + i + n)) w := by
  induction n with
  | zero => intro i acc _; simp [loadCellsFrom]; omega
  | succ n ih =>
    intro i acc hn
    simp only [loadCellsFrom, Sem.run_bind, add_none]
    rw [run_load1 h (by omega)]
    simp only [Result.andThen_ok]
    rw [ih (i + 1) _ (by omega)]
    congr 1
    rw [Array.push_eq_append, Array.append_assoc]
    congr 1
    apply Array.ext
    · simp; omega
    · intro j h1 h2
      rw [Array.getElem_append]
      simp at h1 h2
      by_cases hj : j = 0
      · subst hj; simp [show off + i < c.size by omega]
      · simp [show ¬ j < 1 by omega]
        congr 1; omega
theorem run_loadCells {b off : Nat} {c : Array Value} {el : TypeId} {fr : Nat × Nat} (h : w.heap[b]? = some (.cells c el fr)) (n : Nat) (hn : off + n ≤ c.size) :
    (loadCells ⟨b, off, none⟩ n).run P w = .ok (c.extract off (off + n)) w := by
  unfold loadCells
  rw [run_loadFrom h n 0 #[] (by omega)]
  simp
/-- what a row of stores makes of a row of cells -/
theorem run_storeCells {b off : Nat} {el : TypeId} {fr : Nat × Nat} (vs : List Value) : ∀ (i : Nat) (c : Array Value) (w : World), w.heap[b]? = some (.cells c el fr) → (∀ v ∈ vs, v.oneCell' = true) →
    off + i + vs.length ≤ c.size → (∀ o, o < c.size → ¬ (fr.1 ≤ o ∧ o < fr.2)) →
    ∃ w' c', (storeCells ⟨b, off, none⟩ vs i).run P w = .ok () w' ∧ Up w w' b (.cells c' el fr) ∧ c'.size = c.size ∧
      (∀ j, c'.getD j Go.undef = if off + i ≤ j ∧ j < off + i + vs.length then vs.getD (j - (off + i)) Go.undef else c.getD j Go.undef) := by
  induction vs with
  | nil =>
    intro i c w h _ _ _
    exact ⟨w, c, by simp [storeCells], Up.refl _ _ _ h, rfl, fun j => by rw [if_neg (by simp only [List.length_nil]; omega)]⟩
  | cons v vs ih =>
    intro i c w h hv hl hf
    simp only [List.length_cons] at hl
    have ho : off + i < c.size := by omega
    have h1 := up_setCell b (off + i) c el fr v h
    obtain ⟨w', c', hr, hu, hs, hg⟩ := ih (i + 1) (c.setIfInBounds (off + i) v) _ h1.here (fun x hx => hv x (by simp [hx])) (by simp; omega) (by simpa using hf)
    refine ⟨w', c', ?_, h1.trans hu, by rw [hs]; simp, fun j => ?_⟩
    · simp only [storeCells, Sem.run_bind, add_none]
      rw [run_store P w _ v .plain (hv v (by simp)), cell_of h]
      simp only [Array.getElem?_eq_getElem ho]
      rw [frozen_of h (hf _ ho)]
      simp only [Bool.false_eq_true, if_false, Result.andThen_ok]
      exact hr
    · rw [hg j]
      simp only [List.length_cons]
      by_cases hj : j = off + i
      · subst hj
        rw [if_neg (by omega), if_pos (by omega)]
        simp [ho]
      · by_cases hj2 : off + (i + 1) ≤ j ∧ j < off + (i + 1) + vs.length
        · rw [if_pos hj2, if_pos (by omega)]
          obtain ⟨k, hk⟩ : ∃ k, j - (off + i) = k + 1 := ⟨j - (off + i) - 1, by omega⟩
          rw [hk, List.getD_cons_succ]
          congr 1; omega
        · rw [if_neg hj2, if_neg (by omega)]
          simp only [Array.getD_eq_getD_getElem?]
          rw [Array.getElem?_setIfInBounds, if_neg (by omega)]
end

/-! ### the relation -/
def exR : Ex → Code → Prop
  | .exit id, .exit id' => id = id'
  | .ret, .ret => True
  | _, _ => False
def pendR : Option Ex → Option Code → Prop
  | none, none => True
  | some e, some c => exR e c
  | _, _ => False
def lstR : LSt → LoopState → Prop
  | .ready, .ready => True
  | .busy, .busy => True
  | .done, .done => True
  | .exhausted, .exhausted => True
  | _, _ => False
def rowR (ι : Io) (l : List AV) (c : Array Value) : Prop := l.length = c.size ∧ ∀ i, VR ι (l.getD i .undef) (c.getD i Go.undef)
theorem rowR.mono {ι ι' : Io} (hle : ι.le ι') {l : List AV} {c : Array Value} (h : rowR ι l c) : rowR ι' l c := ⟨h.1, fun i => (h.2 i).mono hle⟩
def entR (ι : Io) (a : AV × AV × Nat) (e : MapEntry) : Prop := VR ι a.1 e.key ∧ VR ι a.2.1 e.val ∧ a.2.2 = e.born

/-- an abstract object and the model's -/
inductive OR (P : Program) (base : Nat) (ι : Io) (L : Loc) : AObj → Obj → Prop
  | cells (a : Rp AV) (st ro : Bool) (c : Array Value) (el : TypeId) (fr : Nat × Nat) (ho : a.ok) (hz : c.size = L.sz) (hl : L.sh + a.toL.length ≤ L.sz)
      (hc : ∀ i, i < a.toL.length → VR ι (a.toL.getD i .undef) (c.getD (L.sh + i) Go.undef)) (h1 : ∀ i, i < c.size → (ro = false ∨ (L.sh ≤ i ∧ i < L.sh + a.toL.length)) → (c.getD i Go.undef).oneCell' = true)
      (hf : ∀ o, o < c.size → (ro = false ∨ (L.sh ≤ o ∧ o < L.sh + a.toL.length)) → ¬ (fr.1 ≤ o ∧ o < fr.2)) (hs : st = false → fr = (0, 0) ∧ base ≤ L.blk) (hr : ro = false → base ≤ L.blk) : OR P base ι L (.cells a st ro) (.cells c el fr)
  | mp (es : List (AV × AV × Nat)) (ck : Nat) (ents : Array MapEntry) (hl : es.length = ents.size) (he : ∀ (i : Nat) (a : AV × AV × Nat) (e : MapEntry), es[i]? = some a → ents[i]? = some e → entR ι a e) (hb : base ≤ L.blk) : OR P base ι L (.mp es ck) (.map ents ck)
  | lp (r : ALoop) (c : Loop) (h1 : lstR r.state c.state) (h2 : pendR r.pending c.pending) (h3 : rowR ι r.tmps c.tmps) (h4 : r.params = c.params.toList) (h5 : r.asg = compC P c.assign) (h6 : r.body = compC P c.body)
      (Ld : Loc) (h7 : ι r.defers = some Ld) (h8 : c.defers = Ld.blk) (hb : base ≤ L.blk) : OR P base ι L (.lp r) (.loop c)
  | dfd (hb : base ≤ L.blk) : OR P base ι L (.dfd true) (.deferred (some []))
  | dfd0 (hb : base ≤ L.blk) (o : Obj) (ho : ∀ c e f, o ≠ .cells c e f) : OR P base ι L (.dfd false) o
  | sit (s : ByteArray) (pos : Nat) (hb : base ≤ L.blk) : OR P base ι L (.sit (bytesOf s) pos) (.stringIter s pos)
theorem OR.mono {P : Program} {base : Nat} {ι ι' : Io} (hle : ι.le ι') {L : Loc} {a : AObj} {o : Obj} (h : OR P base ι L a o) : OR P base ι' L a o := by
  cases h with
  | cells a st ro c el fr ho hz hl hc h1 hf hs hr => exact .cells a st ro c el fr ho hz hl (fun i hi => (hc i hi).mono hle) h1 hf hs hr
  | mp es ck ents hl he hb => exact .mp es ck ents hl (fun i a e h1 h2 => ⟨(he i a e h1 h2).1.mono hle, (he i a e h1 h2).2.1.mono hle, (he i a e h1 h2).2.2⟩) hb
  | lp r c h1 h2 h3 h4 h5 h6 Ld h7 h8 hb => exact .lp r c h1 h2 (h3.mono hle) h4 h5 h6 Ld (hle _ _ h7) h8 hb
  | dfd hb => exact .dfd hb
  | dfd0 hb o ho => exact .dfd0 hb o ho
  | sit s pos hb => exact .sit s pos hb

/-- the known package variables hold what is known of them -/
def GlOK (base : Nat) (w : World) : Prop := ∀ g r, Gl.row g = some r → g < base ∧ ∃ c el fr, w.heap[g]? = some (.cells c el fr) ∧ r.ok ∧ r.toL.length = c.size ∧ (∀ ι i, VR ι (r.toL.getD i .undef) (c.getD i Go.undef)) ∧ ∀ i, i < c.size → (c.getD i Go.undef).oneCell' = true
structure HR (P : Program) (base : Nat) (ι : Io) (H : AH) (w : World) : Prop where
  fresh : ∀ b, H.n ≤ b → ι b = none
  dom : ∀ b o, H.get b = some o → b < H.n
  bound : ∀ b L, ι b = some L → L.blk < w.heap.size
  inj : ∀ b b' o o' L L', H.get b = some o → H.get b' = some o' → ι b = some L → ι b' = some L' → L.blk = L'.blk → b = b' ∨ L.blk < base
  obj : ∀ b o L, H.get b = some o → ι b = some L → ∃ c, w.heap[L.blk]? = some c ∧ OR P base ι L o c
  below : base ≤ w.heap.size
  gl : GlOK base w

/-- one step of the abstract run, and of the world -/
structure Nx (P : Program) (base : Nat) (ι : Io) (H : AH) (w : World) (ι' : Io) (H' : AH) (w' : World) : Prop where
  le : ι.le ι'
  hr : HR P base ι' H' w'
  stay : ∀ b, b < H.n → ι b = none → ι' b = none ∧ H'.get b = H.get b
  n : H.n ≤ H'.n
  below : Below base w w'
theorem Nx.refl {P : Program} {base : Nat} {ι : Io} {H : AH} {w : World} (hr : HR P base ι H w) : Nx P base ι H w ι H w :=
  ⟨Io.le_refl _, hr, fun _ _ h => ⟨h, rfl⟩, Nat.le_refl _, Below.refl _ _⟩
theorem Nx.trans {P : Program} {base : Nat} {ι ι' ι'' : Io} {H H' H'' : AH} {w w' w'' : World} (h : Nx P base ι H w ι' H' w') (h' : Nx P base ι' H' w' ι'' H'' w'') : Nx P base ι H w ι'' H'' w'' :=
  ⟨Io.le_trans h.le h'.le, h'.hr, fun b hb hn => by
    obtain ⟨a1, a2⟩ := h.stay b hb hn
    obtain ⟨b1, b2⟩ := h'.stay b (Nat.lt_of_lt_of_le hb h.n) a1
    exact ⟨b1, b2.trans a2⟩, Nat.le_trans h.n h'.n, h.below.trans h'.below⟩

section
variable {P : Program} {base : Nat} {ι : Io} {H : AH} {w : World}
/-- the same blocks, some draws later -/
theorem HR.heap {w' : World} (h : HR P base ι H w) (e : w'.heap = w.heap) : HR P base ι H w' :=
  ⟨h.fresh, h.dom, by rw [e]; exact h.bound, h.inj, by rw [e]; exact h.obj, by rw [e]; exact h.below, fun g r hg => by rw [e]; exact h.gl g r hg⟩
theorem HR.cells (h : HR P base ι H w) {b : Nat} {a : Rp AV} {st ro : Bool} {L : Loc} (hb : H.get b = some (.cells a st ro)) (hi : ι b = some L) :
    ∃ c el fr, w.heap[L.blk]? = some (.cells c el fr) ∧ OR P base ι L (.cells a st ro) (.cells c el fr) := by
  obtain ⟨c, hc, ho⟩ := h.obj b _ L hb hi
  cases ho
  exact ⟨_, _, _, hc, by constructor <;> assumption⟩
/-- a block's object becomes another one -/
theorem HR.upd (h : HR P base ι H w) {b : Nat} {o o' : AObj} {L : Loc} {w' : World} {c' : Obj} (hb : H.get b = some o) (hi : ι b = some L) (hu : Up w w' L.blk c') (ho : OR P base ι L o' c') (hbase : base ≤ L.blk) :
    HR P base ι (H.set b o') w' := by
  refine ⟨h.fresh, fun x y hx => ?_, fun x M hx => by rw [hu.size]; exact h.bound x M hx, fun x y ox oy Lx Ly hx hy hix hiy he => ?_, fun x ox Lx hx hix => ?_, by rw [hu.size]; exact h.below, fun g r hg => ?_⟩
  · rw [AH.get_set] at hx
    split at hx
    · rename_i e; subst e; exact h.dom _ _ hb
    · exact h.dom _ _ hx
  · have kx : ∃ o, H.get x = some o := (by
      rw [AH.get_set] at hx
      split at hx
      · rename_i e; subst e; exact ⟨_, hb⟩
      · exact ⟨_, hx⟩)
    have ky : ∃ o, H.get y = some o := (by
      rw [AH.get_set] at hy
      split at hy
      · rename_i e; subst e; exact ⟨_, hb⟩
      · exact ⟨_, hy⟩)
    obtain ⟨_, kx⟩ := kx
    obtain ⟨_, ky⟩ := ky
    exact h.inj x y _ _ Lx Ly kx ky hix hiy he
  · rw [AH.get_set] at hx
    split at hx
    · rename_i e
      subst e
      rw [hi] at hix
      cases hix
      cases hx
      exact ⟨c', hu.here, ho⟩
    · rename_i e
      obtain ⟨c, hc, hoc⟩ := h.obj x ox Lx hx hix
      refine ⟨c, ?_, hoc⟩
      rw [hu.other _ (fun e2 => (h.inj x b _ _ Lx L hx hb hix hi e2).elim e (fun hl => by omega))]
      exact hc
  · obtain ⟨h1, h2⟩ := h.gl g r hg
    exact ⟨h1, by rw [hu.other g (by omega)]; exact h2⟩
theorem HR.updNx (h : HR P base ι H w) {b : Nat} {o o' : AObj} {L : Loc} {w' : World} {c' : Obj} (hb : H.get b = some o) (hi : ι b = some L) (hu : Up w w' L.blk c') (ho : OR P base ι L o' c') (hbase : base ≤ L.blk) :
    Nx P base ι H w ι (H.set b o') w' :=
  ⟨Io.le_refl _, h.upd hb hi hu ho hbase, fun x hx hn => ⟨hn, by rw [AH.get_set, if_neg (fun e => by subst e; rw [hi] at hn; cases hn)]⟩, Nat.le_refl _, hu.below hbase⟩

def Io.ext (ι : Io) (b : Nat) (L : Loc) : Io := fun x => if x = b then some L else ι x
theorem Io.ext_le (ι : Io) (b : Nat) (L : Loc) (h : ι b = none) : ι.le (ι.ext b L) := fun x M hx => by
  unfold Io.ext
  rw [if_neg (fun e => by subst e; rw [h] at hx; cases hx)]
  exact hx
theorem Io.ext_self (ι : Io) (b : Nat) (L : Loc) : ι.ext b L b = some L := by simp [Io.ext]

/-- a new block in the world for an abstract one that had none -/
theorem HR.lay (h : HR P base ι H w) {b : Nat} {o : AObj} {w' : World} {c : Obj} {sz : Nat} (hb : H.get b = some o) (hi : ι b = none) (hw : w'.heap = w.heap.push c)
    (ho : OR P base (ι.ext b ⟨w.heap.size, 0, sz⟩) ⟨w.heap.size, 0, sz⟩ o c) : HR P base (ι.ext b ⟨w.heap.size, 0, sz⟩) H w' := by
  refine ⟨fun x hx => ?_, h.dom, fun x M hx => ?_, fun x y ox oy Lx Ly hx hy hix hiy he => ?_, fun x ox Lx hx hix => ?_, by rw [hw]; simp; have := h.below; omega, fun g r hg => ?_⟩
  · have : x ≠ b := fun e => by subst e; have := h.dom _ _ hb; omega
    unfold Io.ext
    rw [if_neg this]
    exact h.fresh x hx
  · unfold Io.ext at hx
    rw [hw]
    split at hx
    · cases hx; simp
    · have := h.bound x M hx; simp; omega
  · unfold Io.ext at hix hiy
    split at hix <;> split at hiy
    · rename_i e1 e2; exact .inl (by rw [e1, e2])
    · cases hix; have := h.bound y Ly hiy; simp at he; omega
    · cases hiy; have := h.bound x Lx hix; simp at he; omega
    · exact h.inj x y ox oy Lx Ly hx hy hix hiy he
  · by_cases e : x = b
    · subst e
      rw [Io.ext_self] at hix
      cases hix
      rw [hb] at hx
      cases hx
      exact ⟨c, by rw [hw]; simp, ho⟩
    · have hix' : ι x = some Lx := by unfold Io.ext at hix; rw [if_neg e] at hix; exact hix
      obtain ⟨c', hc', ho'⟩ := h.obj x ox Lx hx hix'
      refine ⟨c', ?_, ho'.mono (Io.ext_le ι b _ hi)⟩
      rw [hw, Array.getElem?_push, if_neg (by have := h.bound x Lx hix'; omega)]
      exact hc'
  · obtain ⟨h1, h2⟩ := h.gl g r hg
    exact ⟨h1, by rw [hw, Array.getElem?_push, if_neg (by have := h.below; omega)]; exact h2⟩
theorem below_push {w w' : World} {base : Nat} {c : Obj} (hw : w'.heap = w.heap.push c) (h1 : w'.os = w.os) (h2 : w'.tape = w.tape) (h3 : w'.output = w.output) (hb : base ≤ w.heap.size) : Below base w w' :=
  ⟨h1, h2, h3, by rw [hw]; simp, fun k hk => by rw [hw, Array.getElem?_push, if_neg (by omega)]⟩
/-- an abstract block of which the world knows nothing -/
theorem HR.idle (h : HR P base ι H w) (o : AObj) : HR P base ι (H.new o) w := by
  have hn : ι H.n = none := h.fresh _ (Nat.le_refl _)
  refine ⟨fun x hx => h.fresh x (by rw [AH.n_new] at hx; omega), fun x y hx => ?_, h.bound, fun x y ox oy Lx Ly hx hy hix hiy he => ?_, fun x ox Lx hx hix => ?_, h.below, h.gl⟩
  · rw [AH.get_new] at hx
    rw [AH.n_new]
    split at hx
    · omega
    · have := h.dom x y hx; omega
  · rw [AH.get_new] at hx hy
    split at hx
    · rename_i e; subst e; rw [hn] at hix; cases hix
    · split at hy
      · rename_i e; subst e; rw [hn] at hiy; cases hiy
      · exact h.inj x y ox oy Lx Ly hx hy hix hiy he
  · rw [AH.get_new] at hx
    split at hx
    · rename_i e; subst e; rw [hn] at hix; cases hix
    · exact h.obj x ox Lx hx hix
/-- a new block, abstract and in the world -/
theorem HR.newNx (h : HR P base ι H w) {o : AObj} {w' : World} {c : Obj} (sz : Nat) (hw : w'.heap = w.heap.push c) (h1 : w'.os = w.os) (h2 : w'.tape = w.tape) (h3 : w'.output = w.output)
    (ho : OR P base (ι.ext H.n ⟨w.heap.size, 0, sz⟩) ⟨w.heap.size, 0, sz⟩ o c) : Nx P base ι H w (ι.ext H.n ⟨w.heap.size, 0, sz⟩) (H.new o) w' := by
  have hn : ι H.n = none := h.fresh _ (Nat.le_refl _)
  refine ⟨Io.ext_le _ _ _ hn, (h.idle o).lay (by rw [AH.get_new, if_pos rfl]) hn hw ho, fun b hb hi => ?_, by rw [AH.n_new]; omega, below_push hw h1 h2 h3 h.below⟩
  have : b ≠ H.n := by omega
  exact ⟨by unfold Io.ext; rw [if_neg this]; exact hi, by rw [AH.get_new, if_neg this]⟩
end
end Go.Jt
