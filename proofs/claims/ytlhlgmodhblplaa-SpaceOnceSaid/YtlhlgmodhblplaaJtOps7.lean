/-
  The abstract run of an operation is true to the model's: append.
-/
import Derived.Test.YtlhlgmodhblplaaJtOps6
set_option autoImplicit false
set_option linter.all false
namespace Go.Jt
open Go.RowKit (Below)
variable [Gl]

theorem growBy_le (need : Nat) : ∀ (r c : Nat), c ≤ 2 * need + 192 → Builtin.growBy need r c ≤ 2 * need + 192
  | 0, c, h => h
  | r + 1, c, h => by
    unfold Builtin.growBy
    split
    · exact h
    · exact growBy_le need r _ (by omega)
theorem next_le {need cap : Nat} (h : cap < need) : Builtin.nextslicecap need cap ≤ 2 * need + 192 := by
  unfold Builtin.nextslicecap
  split
  · omega
  · split
    · omega
    · exact growBy_le _ _ _ (by omega)

section
variable {P : Program} {base : Nat} {ι : Io} {H : AH} {w : World} {k : AV → AH → Bool} {env : Env} {a : Act}

/-- an abstract row is given up, and a new one laid that stands in the same block of the world -/
theorem HR.move (h : HR P base ι H w) {b : Nat} {o o' : AObj} {L L' : Loc} {w' : World} {c' : Obj} (hb : H.get b = some o) (hi : ι b = some L) (hblk : L'.blk = L.blk) (hu : Up w w' L.blk c')
    (ho : OR P base (ι.ext H.n L') L' o' c') (hbase : base ≤ L.blk) : Nx P base ι H w (ι.ext H.n L') ((H.kill b).new o') w' := by
  have hn : ι H.n = none := h.fresh _ (Nat.le_refl _)
  have hbn : b < H.n := h.dom _ _ hb
  have get : ∀ x, ((H.kill b).new o').get x = if x = H.n then some o' else if x = b then none else H.get x := fun x => by
    rw [AH.get_new, AH.get_kill, AH.n_kill]
  refine ⟨Io.ext_le _ _ _ hn, ⟨fun x hx => ?_, fun x y hx => ?_, fun x M hx => ?_, fun x y ox oy Lx Ly hx hy hix hiy he => ?_, fun x ox Lx hx hix => ?_, by rw [hu.size]; exact h.below, fun g r hg => ⟨(h.gl g r hg).1, by rw [hu.other g (by have := (h.gl g r hg).1; omega)]; exact (h.gl g r hg).2⟩⟩, fun x hx hxn => ?_, by rw [AH.n_new, AH.n_kill]; omega, hu.below hbase⟩
  · rw [AH.n_new, AH.n_kill] at hx
    unfold Io.ext
    rw [if_neg (by omega)]
    exact h.fresh x (by omega)
  · rw [AH.n_new, AH.n_kill]
    rw [get] at hx
    split at hx
    · omega
    · split at hx
      · cases hx
      · have := h.dom x y hx; omega
  · unfold Io.ext at hx
    rw [hu.size]
    split at hx
    · cases hx; rw [hblk]; exact h.bound b L hi
    · exact h.bound x M hx
  · rw [get] at hx hy
    unfold Io.ext at hix hiy
    by_cases ex : x = H.n
    · by_cases ey : y = H.n
      · exact .inl (by rw [ex, ey])
      · rw [if_pos ex] at hix
        rw [if_neg ey] at hiy hy
        split at hy
        · cases hy
        · rename_i hyb
          cases hix
          exact (h.inj y b _ _ _ _ hy hb hiy hi (by rw [← hblk]; exact he.symm)).elim (fun e => absurd e hyb) (fun hl => by rw [← he, hblk] at hl; omega)
    · rw [if_neg ex] at hix hx
      split at hx
      · cases hx
      · rename_i hxb
        by_cases ey : y = H.n
        · rw [if_pos ey] at hiy
          cases hiy
          exact (h.inj x b _ _ _ _ hx hb hix hi (by rw [← hblk]; exact he)).elim (fun e => absurd e hxb) .inr
        · rw [if_neg ey] at hiy hy
          split at hy
          · cases hy
          · exact h.inj x y _ _ _ _ hx hy hix hiy he
  · rw [get] at hx
    by_cases ex : x = H.n
    · subst ex
      rw [if_pos rfl] at hx
      cases hx
      rw [Io.ext_self] at hix
      cases hix
      exact ⟨c', by rw [hblk]; exact hu.here, ho⟩
    · rw [if_neg ex] at hx
      unfold Io.ext at hix
      rw [if_neg ex] at hix
      split at hx
      · cases hx
      · rename_i hxb
        obtain ⟨c, hc, hoc⟩ := h.obj x ox Lx hx hix
        refine ⟨c, ?_, hoc.mono (Io.ext_le _ _ _ hn)⟩
        rw [hu.other _ (fun e => (h.inj x b _ _ _ _ hx hb hix hi e).elim hxb (fun hl => by omega))]
        exact hc
  · have e1 : x ≠ H.n := by omega
    have e2 : x ≠ b := fun e => by subst e; rw [hi] at hxn; cases hxn
    exact ⟨by unfold Io.ext; rw [if_neg e1]; exact hxn, by rw [get, if_neg e1, if_neg e2]⟩

/-- what is appended: so many elements, of these cells; 'zm': a number of zero elements -/
def isApp (P : Program) (zm : Bool) (bytes : Nat) (xv : Value) (n : Nat) : Prop :=
  match zm with
  | true => ∃ q, xv = .int q (n : Int) ∧ n ≤ 140737488355328 ∧ n * bytes ≤ 281474976710656
  | false => ∀ w, (Builtin.lenOf xv).run P w = .ok n w
theorem appSrc_sound {es bytes : Nat} {z : Rp AV} {zm : Bool} {x : AV} {xv : Value} {K : Nat → Rp AV → Bool} {zv : Value} (hr : HR P base ι H w) (hv : VR ι x xv)
    (hz : cellsR ι z zv.cells) (hes : zv.cells.size = es) (hpos : 0 < es) (h : appSrc H es bytes z zm x K = true) :
    ∃ n r cs, K n r = true ∧ cellsR ι r cs ∧ cs.size = n * es ∧ isApp P zm bytes xv n ∧
      (zm = true → cs = Builtin.zeroCells zv.cells n) ∧ (zm = false → ∀ w', w'.heap = w.heap → (Builtin.firstCells es n xv).run P w' = .ok cs w') := by
  unfold appSrc at h
  cases zm with
  | true =>
    dsimp only at h
    split at h
    · rename_i q n
      obtain ⟨h1, h2⟩ := cond_true_inv h
      obtain ⟨h3, h4⟩ := cond_true_inv h2
      rw [fN_eq] at h4
      have := hv.int_inv
      subst this
      exact ⟨n, zeros n z, _, h4, cellsR_zeros hz (by omega) n, by simp [hes], ⟨q, rfl, Nat.le_of_ble_eq_true h1, Nat.le_of_ble_eq_true h3⟩, ⟨fun _ => rfl, fun e => (by cases e)⟩⟩
    · cases h
  | false =>
    dsimp only at h
    obtain ⟨n, h1, hlen⟩ := srcLen_sound (P := P) hv h
    obtain ⟨r, cs, h2, hc, hsz, hrun⟩ := srcCells_sound hr hv h1
    exact ⟨n, r, cs, h2, hc, hsz, hlen, ⟨fun e => (by cases e), fun _ => hrun⟩⟩

def zmOf (ud : TypeDesc) : Bool := match ud with | .int _ => true | _ => false
/-- append where the model finds room: elements given -/
theorem run_app_fits0 {t u e : TypeId} {i : TypeInfo} {ud : TypeDesc} {sb : Option Addr} {sLen sCap n : Nat} {xv : Value} {cs : Array Value} {ty : TypeId} {w' : World} (ht : P.underlying t = some (.slice e)) (hu : P.underlying u = some ud) (hi : P.info? e = some i)
    (hud : ∀ q, ud = .int q → False) (hn : (Builtin.lenOf xv).run P w = .ok n w) (hc : (Builtin.firstCells i.size n xv).run P w = .ok cs w) (hfit : sLen + n ≤ sCap)
    (hst : ∀ a, sb = some a → (storeCells (a.add (sLen * i.size)) cs.toList).run P w = .ok () w') (hst0 : sb = none → w' = w) :
    (Builtin.append_ #[t, u] ty #[.slice sb sLen sCap, xv]).run P w = .ok (.slice sb (sLen + n) sCap) w' := by
  cases sb with
  | none => rw [hst0 rfl]; simp [Builtin.append_, run_und ht, run_und hu, run_size hi, hn, hc, hfit, hud]
  | some a => simp [Builtin.append_, run_und ht, run_und hu, run_size hi, hn, hc, hfit, hud, hst a rfl]
/-- append where the model finds room: a number of zero elements -/
theorem run_app_fits1 {t u e : TypeId} {i : TypeInfo} {q q' : IntKind} {sb : Option Addr} {sLen sCap n : Nat} {ty : TypeId} {zv : Value} {w' : World} (ht : P.underlying t = some (.slice e)) (hu : P.underlying u = some (.int q')) (hi : P.info? e = some i) (hzv : i.zero = some zv)
    (hb1 : IntKind.i64.wrap (n : Int) = (n : Int)) (hb2 : ¬ (281474976710656 < (n : Int) * (i.bytes : Int))) (hz : 0 < i.size) (hfit : sLen + n ≤ sCap)
    (hst : ∀ a, sb = some a → (storeCells (a.add (sLen * i.size)) (Builtin.zeroCells zv.cells n).toList).run P w = .ok () w') (hst0 : sb = none → w' = w) :
    (Builtin.append_ #[t, u] ty #[.slice sb sLen sCap, .int q n]).run P w = .ok (.slice sb (sLen + n) sCap) w' := by
  have hneg : ¬ ((n : Int) < 0) := by omega
  have hz' : ¬ (i.size = 0) := by omega
  by_cases hn0 : n = 0
  · subst hn0
    have hzc : Builtin.zeroCells zv.cells 0 = #[] := by simp [Builtin.zeroCells]
    rw [hzc] at hst
    have hw0 : IntKind.i64.wrap 0 = 0 := rfl
    have hfit' : sLen ≤ sCap := by omega
    cases sb with
    | none => rw [hst0 rfl]; simp [Builtin.append_, run_und ht, run_und hu, run_size hi, run_info hi, asInt, asIntOf, hw0, hfit', run_zero hi hzv]
    | some a =>
      have := hst a rfl
      simp at this
      simp [Builtin.append_, run_und ht, run_und hu, run_size hi, run_info hi, asInt, asIntOf, hw0, hfit', run_zero hi hzv, this]
  have hnn : ¬ (n * i.size = 0) := by rw [Nat.mul_eq_zero]; omega
  cases sb with
  | none => rw [hst0 rfl]; simp [Builtin.append_, run_und ht, run_und hu, run_size hi, run_info hi, asInt, asIntOf, hb1, hneg, hb2, hfit, run_zero hi hzv, hnn]
  | some a => simp [Builtin.append_, run_und ht, run_und hu, run_size hi, run_info hi, asInt, asIntOf, hb1, hneg, hb2, hfit, run_zero hi hzv, hnn, hst a rfl]
/-- append where the model finds no room: elements given -/
theorem run_app_grow0 {t u e : TypeId} {i : TypeInfo} {ud : TypeDesc} {sb : Option Addr} {sLen sCap n : Nat} {xv : Value} {cs old : Array Value} {ty : TypeId} {zv : Value} (ht : P.underlying t = some (.slice e)) (hu : P.underlying u = some ud) (hi : P.info? e = some i) (hzv : i.zero = some zv)
    (hud : ∀ q, ud = .int q → False) (hn : (Builtin.lenOf xv).run P w = .ok n w) (hc : (Builtin.firstCells i.size n xv).run P w.drew = .ok cs w.drew) (hfit : ¬ (sLen + n ≤ sCap)) (hby : i.bytes ≠ 0)
    (hb : ¬ (281474976710656 < Builtin.nextslicecap (sLen + n) sCap * i.bytes)) (hold : (Builtin.firstCells i.size sLen (.slice sb sLen sCap)).run P w.drew = .ok old w.drew) :
    ∃ nc, sLen + n ≤ nc ∧ (Builtin.append_ #[t, u] ty #[.slice sb sLen sCap, xv]).run P w = .ok (.slice (some ⟨w.heap.size, 0, none⟩) (sLen + n) nc) (w.drew.alloc (.cells (old ++ cs ++ Builtin.zeroCells zv.cells (nc - (sLen + n))) e)) := by
  refine ⟨(Question.appendCap (sLen + n) sCap e).cut (w.tape w.drawn (.appendCap (sLen + n) sCap e)), by simp [Question.cut], ?_⟩
  have hf : (Question.appendCap (sLen + n) sCap e).forced = false := rfl
  simp [Builtin.append_, run_und ht, run_und hu, run_size hi, run_info hi, hn, hc, hfit, hud, hby, hb, hf, hold, run_zero hi hzv, run_newRow]
/-- append where the model finds no room: a number of zero elements -/
theorem run_app_grow1 {t u e : TypeId} {i : TypeInfo} {q q' : IntKind} {sb : Option Addr} {sLen sCap n : Nat} {old : Array Value} {ty : TypeId} {zv : Value} (ht : P.underlying t = some (.slice e)) (hu : P.underlying u = some (.int q')) (hi : P.info? e = some i) (hzv : i.zero = some zv)
    (hb1 : IntKind.i64.wrap (n : Int) = (n : Int)) (hb2 : ¬ (281474976710656 < (n : Int) * (i.bytes : Int))) (hz : 0 < i.size) (hfit : ¬ (sLen + n ≤ sCap)) (hle : sLen ≤ sCap) (hby : i.bytes ≠ 0) (hmax : ¬ (9223372036854775807 < (sLen : Int) + (n : Int)))
    (hb : ¬ (281474976710656 < Builtin.nextslicecap (sLen + n) sCap * i.bytes)) (hold : (Builtin.firstCells i.size sLen (.slice sb sLen sCap)).run P w.drew = .ok old w.drew) :
    ∃ nc, sLen + n ≤ nc ∧ (Builtin.append_ #[t, u] ty #[.slice sb sLen sCap, .int q n]).run P w = .ok (.slice (some ⟨w.heap.size, 0, none⟩) (sLen + n) nc) (w.drew.alloc (.cells (old ++ Builtin.zeroCells zv.cells n ++ Builtin.zeroCells zv.cells (nc - (sLen + n))) e)) := by
  refine ⟨(Question.appendCap (sLen + n) sCap e).cut (w.tape w.drawn (.appendCap (sLen + n) sCap e)), by simp [Question.cut], ?_⟩
  have hf : (Question.appendCap (sLen + n) sCap e).forced = false := rfl
  have hneg : ¬ ((n : Int) < 0) := by omega
  have hnn : ¬ (n * i.size = 0) := by rw [Nat.mul_eq_zero]; omega
  have hmx : IntKind.i64.max = 9223372036854775807 := rfl
  simp [Builtin.append_, run_und ht, run_und hu, run_size hi, run_info hi, asInt, asIntOf, hb1, hneg, hb2, hfit, hby, hb, hf, hold, run_zero hi hzv, run_newRow, hnn, hmx, hmax]

/-- what an append comes to, whether the model finds room or not -/
def AppRun (P : Program) (w : World) (t u e : TypeId) (i : TypeInfo) (zv xv : Value) (n : Nat) (cs : Array Value) : Prop :=
  (∀ (ty : TypeId) (sb : Option Addr) (sLen sCap : Nat) (w' : World), sLen + n ≤ sCap → (∀ a, sb = some a → (storeCells (a.add (sLen * i.size)) cs.toList).run P w = .ok () w') → (sb = none → w' = w) →
    (Builtin.append_ #[t, u] ty #[.slice sb sLen sCap, xv]).run P w = .ok (.slice sb (sLen + n) sCap) w') ∧
  (∀ (ty : TypeId) (sb : Option Addr) (sLen sCap : Nat) (old : Array Value), ¬ (sLen + n ≤ sCap) → sLen ≤ sCap → roomy (sLen + n) i.bytes = true → (Builtin.firstCells i.size sLen (.slice sb sLen sCap)).run P w.drew = .ok old w.drew →
    ∃ nc, sLen + n ≤ nc ∧ (Builtin.append_ #[t, u] ty #[.slice sb sLen sCap, xv]).run P w = .ok (.slice (some ⟨w.heap.size, 0, none⟩) (sLen + n) nc) (w.drew.alloc (.cells (old ++ cs ++ Builtin.zeroCells zv.cells (nc - (sLen + n))) e)))
theorem roomy_cap {need cap bytes : Nat} (h : roomy need bytes = true) (hc : cap < need) : ¬ (281474976710656 < Builtin.nextslicecap need cap * bytes) := by
  unfold roomy at h
  have h1 := Nat.le_of_ble_eq_true h
  have h2 := Nat.mul_le_mul_right bytes (next_le hc)
  have h3 : (2 * need + 192) * bytes ≤ (2 * need + 200) * bytes := Nat.mul_le_mul_right bytes (by omega)
  omega
theorem appRun {t u e : TypeId} {i : TypeInfo} {ud : TypeDesc} {zv xv : Value} {n : Nat} {cs : Array Value} (ht : P.underlying t = some (.slice e)) (hu : P.underlying u = some ud) (hi : P.info? e = some i) (hzv : i.zero = some zv) (hz : 0 < i.size) (hby : i.bytes ≠ 0)
    (hn : isApp P (zmOf ud) i.bytes xv n) (hc1 : zmOf ud = true → cs = Builtin.zeroCells zv.cells n) (hc2 : zmOf ud = false → ∀ w', w'.heap = w.heap → (Builtin.firstCells i.size n xv).run P w' = .ok cs w') : AppRun P w t u e i zv xv n cs := by
  by_cases hud : ∃ q, ud = .int q
  · obtain ⟨q', rfl⟩ := hud
    obtain ⟨q, rfl, hb1, hb2⟩ := hn
    have hcs := hc1 rfl
    subst hcs
    have hw : IntKind.i64.wrap (n : Int) = (n : Int) := by rw [IntWalk.i64_in]; omega
    have hb : ¬ (281474976710656 < (n : Int) * (i.bytes : Int)) := by
      have h1 : ((n * i.bytes : Nat) : Int) ≤ 281474976710656 := Int.ofNat_le.2 hb2
      rw [Int.natCast_mul] at h1
      omega
    refine ⟨fun ty sb sLen sCap w' hfit hst hst0 => run_app_fits1 ht hu hi hzv hw hb hz hfit hst hst0, fun ty sb sLen sCap old hfit hle hroom hold => ?_⟩
    refine run_app_grow1 ht hu hi hzv hw hb hz hfit hle hby ?_ (roomy_cap hroom (by omega)) hold
    unfold roomy at hroom
    have h1 := Nat.le_of_ble_eq_true hroom
    have h2 : (2 * (sLen + n) + 200) * 1 ≤ (2 * (sLen + n) + 200) * i.bytes := Nat.mul_le_mul_left _ (by omega)
    omega
  · have hzm : zmOf ud = false := by
      unfold zmOf
      split
      · exact absurd ⟨_, rfl⟩ hud
      · rfl
    rw [hzm] at hn
    have hc := hc2 hzm
    have hud' : ∀ q, ud = .int q → False := fun q e => hud ⟨q, e⟩
    refine ⟨fun ty sb sLen sCap w' hfit hst hst0 => run_app_fits0 ht hu hi hud' (hn w) (hc w rfl) hfit hst hst0, fun ty sb sLen sCap old hfit hle hroom hold => ?_⟩
    exact run_app_grow0 ht hu hi hzv hud' (hn w) (hc _ rfl) hfit hby (roomy_cap hroom (by omega)) hold

/-! ### the rows -/
theorem cellsR_app {r r' : Rp AV} {c c' : Array Value} (h : cellsR ι r c) (h' : cellsR ι r' c') : cellsR ι (r.app r') (c ++ c') := by
  obtain ⟨o, e⟩ := Rp.app_spec r r' h.1 h'.1
  refine ⟨o, by rw [e]; simp [h.2.1, h'.2.1], fun i => ?_, fun i hi => ?_⟩
  · rw [e]
    by_cases hi : i < c.size
    · rw [List.getD_eq_getElem?_getD, List.getElem?_append_left (by rw [h.2.1]; exact hi), ← List.getD_eq_getElem?_getD, Array.getD_eq_getD_getElem?, Array.getElem?_append_left hi, ← Array.getD_eq_getD_getElem?]
      exact h.2.2.1 i
    · rw [List.getD_eq_getElem?_getD, List.getElem?_append_right (by rw [h.2.1]; omega), ← List.getD_eq_getElem?_getD, Array.getD_eq_getD_getElem?, Array.getElem?_append_right (by omega), ← Array.getD_eq_getD_getElem?, h.2.1]
      exact h'.2.2.1 _
  · by_cases hi' : i < c.size
    · rw [Array.getD_eq_getD_getElem?, Array.getElem?_append_left hi', ← Array.getD_eq_getD_getElem?]
      exact h.2.2.2 i hi'
    · rw [Array.getD_eq_getD_getElem?, Array.getElem?_append_right (by omega), ← Array.getD_eq_getD_getElem?]
      simp at hi
      exact h'.2.2.2 _ (by omega)
theorem OR_grow (ι' : Io) {r : Rp AV} {c rest : Array Value} (h : cellsR ι' r c) (hrest : ∀ i, i < rest.size → (rest.getD i Go.undef).oneCell' = true) (el : TypeId) (n : Nat) (st : Bool) (hb : base ≤ n) (sz : Nat) (hsz : (c ++ rest).size = sz) :
    OR P base ι' ⟨n, 0, sz⟩ (.cells r st false) (.cells (c ++ rest) el (0, 0)) := by
  refine .cells r st false (c ++ rest) el (0, 0) h.1 hsz (by simp only [h.2.1, ← hsz]; simp) (fun i hi => ?_) (fun i hi _ => ?_) (fun o ho => by simp) (fun _ => ⟨rfl, hb⟩) (fun _ => hb)
  · rw [h.2.1] at hi
    simp only [Nat.zero_add]
    rw [Array.getD_eq_getD_getElem?, Array.getElem?_append_left hi, ← Array.getD_eq_getD_getElem?]
    exact h.2.2.1 i
  · by_cases hi' : i < c.size
    · rw [Array.getD_eq_getD_getElem?, Array.getElem?_append_left hi', ← Array.getD_eq_getD_getElem?]
      exact h.2.2.2 i hi'
    · rw [Array.getD_eq_getD_getElem?, Array.getElem?_append_right (by omega), ← Array.getD_eq_getD_getElem?]
      simp at hi
      exact hrest _ (by omega)
/-- an abstract block is given up -/
theorem HR.killNx (h : HR P base ι H w) {b : Nat} {L : Loc} (hi : ι b = some L) : Nx P base ι H w ι (H.kill b) w := by
  refine ⟨Io.le_refl _, ⟨fun x hx => h.fresh x (by rw [AH.n_kill] at hx; exact hx), fun x y hx => ?_, h.bound, fun x y ox oy Lx Ly hx hy hix hiy he => ?_, fun x ox Lx hx hix => ?_, h.below, h.gl⟩, fun x hx hn => ⟨hn, ?_⟩, Nat.le_refl _, Below.refl _ _⟩
  · rw [AH.get_kill] at hx
    rw [AH.n_kill]
    split at hx
    · cases hx
    · exact h.dom _ _ hx
  · rw [AH.get_kill] at hx hy
    split at hx
    · cases hx
    · split at hy
      · cases hy
      · exact h.inj x y ox oy Lx Ly hx hy hix hiy he
  · rw [AH.get_kill] at hx
    split at hx
    · cases hx
    · exact h.obj x ox Lx hx hix
  · rw [AH.get_kill, if_neg]
    intro e
    subst e
    rw [hi] at hn; cases hn
theorem zeroCells_size (z : Array Value) (n : Nat) : (Builtin.zeroCells z n).size = n * z.size := by simp [Builtin.zeroCells]
end
end Go.Jt
