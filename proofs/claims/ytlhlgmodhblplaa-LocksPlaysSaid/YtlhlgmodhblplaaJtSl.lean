/-
  Slices: their elements wherever they lie; appended, made, copied.
-/
import Derived.Test.YtlhlgmodhblplaaJtOpen
set_option autoImplicit false
set_option linter.all false
namespace Go.Jt
noncomputable section
variable [Gl]

/-- a slice of n elements of es cells, in block b from o on -/
inductive SlV : AV → Nat → Nat → Nat → Nat → Prop
  | slc (b o n c es : Nat) : SlV (.slc b o n c) b o n es
  | slu (b o n es : Nat) : SlV (.slu b o n es) b o n es
section
variable {env : Env} {H : AH} {v : AV} {b o m es : Nat}
theorem sl_ixs {x i : Od} {n r : Nat} {q : IntKind} (h : SlV v b o m es) (hx : ev env x = v) (hi : ev env i = .int q (.ofNat n)) (hn : n < m) (hr : o + n * es = r) (K : AV → AH → Bool) : xop (.ixs es x i) env H K = K (.ptr b r) H := by
  cases h with
  | slc b o n c es => exact w_ixs hx hi hn hr K
  | slu b o n es => exact w_ixu hx hi hn hr K
theorem sl_len {x : Od} (h : SlV v b o m es) (hx : ev env x = v) (K : AV → AH → Bool) : xop (.len 1 x) env H K = K (.int .i64 (.ofNat m)) H := by
  cases h with
  | slc b o n c es => simp only [xop, hx, srcLen]
  | slu b o n es => simp only [xop, hx, srcLen]
theorem sl_same (h : SlV v b o m es) : same v v = true := by
  cases h with
  | slc b o n c es => exact same_slc
  | slu b o n es => exact same_slu
end
theorem sl_sc {v : AV} {b o m es : Nat} (h : SlV v b o m es) : v.sc = true := by cases h <;> rfl
theorem fill_nil {env : Env} {z : Rp AV} (K : Rp AV → Bool) : fillIn env z [] K = K z := rfl
theorem fill_s {env : Env} {z r : Rp AV} {off : Nat} {x : Od} {v : AV} {ps : List (Nat × Nat × Od)} (hx : ev env x = v) (hv : v.sc = true) (hl : Nat.ble (off + 1) z.len = true) (h : ∀ K : Rp AV → Bool, fillIn env (z.set off v) ps K = K r) (K : Rp AV → Bool) : fillIn env z ((off, 1, x) :: ps) K = K r := by
  refine Eq.trans ?_ (h K)
  show (match ev env x with
    | .agg r => cond (Nat.beq r.len 1) (cond (Nat.ble (off + 1) z.len) (fillIn env (z.put off 1 r) ps K) false) false
    | v => cond v.sc (cond (Nat.beq 1 1) (cond (Nat.ble (off + 1) z.len) (fillIn env (z.set off v) ps K) false) false) false) = _
  rw [hx]
  cases v <;> first | (cases hv; done) | (simp only [AV.sc, Nat.beq_refl, hl, cond_true])
theorem fill_a {env : Env} {z r q : Rp AV} {off n : Nat} {x : Od} {ps : List (Nat × Nat × Od)} (hx : ev env x = .agg q) (hn : Nat.beq q.len n = true) (hl : Nat.ble (off + n) z.len = true) (h : ∀ K : Rp AV → Bool, fillIn env (z.put off n q) ps K = K r) (K : Rp AV → Bool) : fillIn env z ((off, n, x) :: ps) K = K r := by
  refine Eq.trans ?_ (h K)
  show (match ev env x with
    | .agg r => cond (Nat.beq r.len n) (cond (Nat.ble (off + n) z.len) (fillIn env (z.put off n r) ps K) false) false
    | v => cond v.sc (cond (Nat.beq n 1) (cond (Nat.ble (off + 1) z.len) (fillIn env (z.set off v) ps K) false) false) false) = _
  rw [hx]
  simp only [hn, hl, cond_true]
/-! ### rows that are never written: of lists of elements -/
/-- a slice whose elements' cells are these -/
inductive Fl (Z : Fz) (es : Nat) : AV → List (List AV) → Prop
  | nil : Fl Z es .nils []
  | slz (b o e : Nat) : Fl Z es (.slz b o e) []
  | slc (b o c : Nat) (L : List AV) (xs : List (List AV)) (hc : xs.length ≤ c) (hz : Z b = some L) (ho : o + xs.length * es ≤ L.length) (hx : ∀ i x, xs[i]? = some x → x.length = es ∧ ∀ j v, x[j]? = some v → L[o + i * es + j]? = some v) : Fl Z es (.slc b o xs.length c) xs
  | slu (b o : Nat) (L : List AV) (xs : List (List AV)) (hz : Z b = some L) (ho : o + xs.length * es ≤ L.length) (hx : ∀ i x, xs[i]? = some x → x.length = es ∧ ∀ j v, x[j]? = some v → L[o + i * es + j]? = some v) : Fl Z es (.slu b o xs.length es) xs
theorem Fl.mono {Z Z' : Fz} {es : Nat} {v : AV} {xs : List (List AV)} (h : Fl Z es v xs) (hl : Z.le Z') : Fl Z' es v xs := by
  cases h with
  | nil => exact .nil
  | slz b o e => exact .slz b o e
  | slc b o c L xs hc hz ho hx => exact .slc b o c L xs hc (hl _ _ hz) ho hx
  | slu b o L xs hz ho hx => exact .slu b o L xs (hl _ _ hz) ho hx
theorem fl_len {Z : Fz} {es n : Nat} {v : AV} {xs : List (List AV)} (h : Fl Z es v xs) (hn : xs.length = n) {env : Env} {H : AH} {x : Od} (hx : ev env x = v) (K : AV → AH → Bool) : xop (.len 1 x) env H K = K (.int .i64 (.ofNat n)) H := by
  subst hn
  cases h with
  | nil => simp only [xop, hx, srcLen]; rfl
  | slz b o e => simp only [xop, hx, srcLen]; rfl
  | slc b o c L xs hc hz ho hx' => simp only [xop, hx, srcLen]
  | slu b o L xs hz ho hx' => simp only [xop, hx, srcLen]
theorem fl_ix {Z : Fz} {es : Nat} {v : AV} {xs : List (List AV)} (h : Fl Z es v xs) (i : Nat) {e : List AV} (hi : xs[i]? = some e) :
    ∃ b o L, Z b = some L ∧ (∀ j v, e[j]? = some v → L[o + j]? = some v) ∧ o + es ≤ L.length ∧ e.length = es ∧ ∀ {env : Env} {H : AH} {x y : Od} {q : IntKind} (hx : ev env x = v) (hy : ev env y = .int q (.ofNat i)) (K : AV → AH → Bool), xop (.ixs es x y) env H K = K (.ptr b o) H := by
  have hlt : i < xs.length := (List.getElem?_eq_some_iff.1 hi).1
  cases h with
  | nil => simp at hi
  | slz b o e => simp at hi
  | slc b o c L xs hc hz ho hx =>
    have h1 : o + i * es + es ≤ L.length := by
      have : (i + 1) * es ≤ xs.length * es := Nat.mul_le_mul_right _ hlt
      rw [Nat.add_mul] at this
      omega
    exact ⟨b, o + i * es, L, hz, (hx i e hi).2, h1, (hx i e hi).1, fun {env H x y q} h1 h2 K => w_ixs h1 h2 hlt rfl K⟩
  | slu b o L xs hz ho hx =>
    have h1 : o + i * es + es ≤ L.length := by
      have : (i + 1) * es ≤ xs.length * es := Nat.mul_le_mul_right _ hlt
      rw [Nat.add_mul] at this
      omega
    exact ⟨b, o + i * es, L, hz, (hx i e hi).2, h1, (hx i e hi).1, fun {env H x y q} h1 h2 K => w_ixu h1 h2 hlt rfl K⟩
theorem fl_sc {Z : Fz} {es : Nat} {v : AV} {xs : List (List AV)} (h : Fl Z es v xs) : v.sc = true := by cases h <;> rfl
theorem fl_take {e L : List AV} {o es : Nat} (hg : ∀ (j : Nat) (v : AV), e[j]? = some v → L[o + j]? = some v) (he : e.length = es) (hb : o + es ≤ L.length) : (L.drop o).take es = e := by
  apply List.ext_getElem?
  intro j
  by_cases hj : j < es
  · rw [List.getElem?_take_of_lt hj, List.getElem?_drop]
    obtain ⟨v, hv⟩ : ∃ v, e[j]? = some v := ⟨_, List.getElem?_eq_getElem (by omega)⟩
    rw [hv, hg j v hv]
  · rw [List.getElem?_eq_none (by simp; omega), List.getElem?_eq_none (by omega)]
theorem fl_same {Z : Fz} {es : Nat} {v : AV} {xs : List (List AV)} (h : Fl Z es v xs) : same v v = true := by
  cases h with
  | nil => rfl
  | slz b o e => exact same_slz
  | slc b o c L xs hc hz ho hx => exact same_slc
  | slu b o L xs hz ho hx => exact same_slu
/-- a function's values, as a list of elements -/
theorem ofFn_get {n i : Nat} (f : Nat → List AV) (h : i < n) : ((List.range n).map f)[i]? = some (f i) := by simp [h]
theorem ofFn_len (n : Nat) (f : Nat → List AV) : ((List.range n).map f).length = n := by simp

theorem sum_true {tbl : Nat → Option FT} {N d g : Nat} (hd : 1 ≤ d) (hf : tbl g = some (.sum sumTrue)) (H : AH) : DoesV (RUN tbl N d) (.fn (.fn (.func g)) [] []) [] H (.bool true) H := fun k => by
  obtain ⟨d, rfl⟩ : ∃ e, d = e + 1 := ⟨d - 1, by omega⟩
  show callF tbl (RUN tbl N d) N g ([] ++ [] ++ []) H k = _
  unfold callF
  rw [hf]
  rfl
/-! ### made, appended -/
theorem RL.zeros1 (c : Nat) (v : AV) : RL (zeros c (.one v)) (List.replicate c v) := ⟨trivial, rfl⟩
section
variable {H : AH} {Z : Fz} {l : List Hl}
theorem s_mks (hs : Sat H Z l) (bytes n c : Nat) (v : AV) (h1 : n ≤ c) (h2 : bytes * c ≤ 281474976710656) (h3 : c ≤ 9223372036854775807) : ∃ b H', Sat H' Z (.cells b (List.replicate c v) :: l) ∧
    ∀ {env : Env} {x y : Od} {q q' : IntKind} (hx : ev env x = .int q (.ofNat n)) (hy : ev env y = .int q' (.ofNat c)) (K : AV → AH → Bool), xop (.mks 1 bytes (.one v) x y) env H K = K (.slc b 0 n c) H' :=
  ⟨_, _, s_new hs (RL.zeros1 c v) false, fun {env x y q q'} hx hy K => w_mks hx hy (Nat.ble_eq_true_of_le h1) (Nat.ble_eq_true_of_le h2) (Nat.ble_eq_true_of_le h3) K⟩
theorem s_bsl {r : Rp AV} {L : List AV} (hs : Sat H Z l) (hr : RL r L) : ∃ b H', Sat H' Z (.cells b L :: l) ∧ ∀ {env : Env} {n : Nat} {z : Rp AV} {parts : List (Nat × Nat × Od)} (hf : ∀ K : Rp AV → Bool, fillIn env z parts K = K r) (K : AV → AH → Bool), xop (.bsl n z parts) env H K = K (.slc b 0 n n) H' :=
  ⟨_, _, s_new hs hr false, fun {env n z parts} hf K => by simp only [xop, hf, alc, anew_eq]⟩
theorem roomy_of {n bytes : Nat} (h : (2 * n + 200) * bytes ≤ 140737488355328) : roomy n bytes = true := Nat.ble_eq_true_of_le h
/-- behind an empty row of no room: a copy in new memory -/
theorem s_app0 {L : List AV} {b b' o n es bytes : Nat} {z : Rp AV} {xv : AV} (hs : Sat H Z l) (i j : Nat) (hx : SlV xv b o n es) (ho : o + n * es ≤ L.length) (hn : 0 < n) (hr : (2 * n + 200) * bytes ≤ 140737488355328) (hi : l[i]? = some (.cells b L) := by rfl) (hj : l[j]? = some (.cells b' []) := by rfl) :
    ∃ b2 H', Sat H' Z (.cells b2 ((L.drop o).take (n * es)) :: l) ∧ ∀ {env : Env} {s x : Od} (h1 : ev env s = .slc b' 0 0 0) (h2 : ev env x = xv) (K : AV → AH → Bool), xop (.app es bytes z false s x) env H K = K (.slu b2 0 n es) H' := by
  obtain ⟨R, st, r1, r2, r3⟩ := hs.getAt i hi
  obtain ⟨R', st', q1, q2, q3⟩ := hs.getAt j hj
  have h0 : RL (R'.sub 0 (0 * es)) [] := by
    have := RL.sub ⟨q1, q2⟩ 0 (0 * es)
    rw [Nat.zero_mul] at this ⊢
    exact this
  have hrl : RL ((R'.sub 0 (0 * es)).app (R.sub o (n * es))) ((L.drop o).take (n * es)) := by
    have := h0.app (RL.sub ⟨r1, r2⟩ o (n * es))
    rwa [List.nil_append] at this
  have hl : Nat.ble (o + n * es) R.len = true := Nat.ble_eq_true_of_le (by rw [Rp.len_eq R r1, r2]; exact ho)
  have hl' : Nat.ble (0 + 0 * es) R'.len = true := Nat.ble_eq_true_of_le (by simp)
  have hn0 : Nat.beq n 0 = false := by cases n <;> first | omega | rfl
  have hf : Nat.ble (0 + n) 0 = false := by rw [Nat.zero_add]; cases n <;> first | omega | rfl
  have hro : roomy (0 + n) bytes = true := by rw [Nat.zero_add]; exact roomy_of hr
  rw [Nat.zero_add] at hf hro hl'
  refine ⟨_, _, s_new hs hrl false, fun {env s x} h1 h2 K => ?_⟩
  cases hx with
  | slc b o n c es => simp only [xop, h1, h2, xapp, appSrc, srcLen, srcCells, gcell, r3, q3, hl, hl', hn0, hf, hro, cond_true, cond_false, anew_eq, fN_eq, Nat.zero_add]
  | slu b o n es => simp only [xop, h1, h2, xapp, appSrc, srcLen, srcCells, gcell, r3, q3, hl, hl', hn0, hf, hro, cond_true, cond_false, anew_eq, fN_eq, Nat.zero_add]
end
/-- a row of truths -/
def rowB (n : Nat) (p : Nat → Bool) : List AV := (List.range n).map fun i => .bool (p i)
theorem rowB_len (n : Nat) (p : Nat → Bool) : (rowB n p).length = n := by simp [rowB]
theorem rowB_get {n i : Nat} {p : Nat → Bool} (h : i < n) : (rowB n p)[i]? = some (.bool (p i)) := by simp [rowB, h]
theorem rowB_congr {n : Nat} {p q : Nat → Bool} (h : ∀ i, i < n → p i = q i) : rowB n p = rowB n q := by
  unfold rowB
  apply List.map_congr_left
  intro i hi
  rw [h i (by simpa using hi)]
theorem rowB_set {n i : Nat} {p : Nat → Bool} {x : Bool} : (rowB n p).set i (.bool x) = rowB n fun j => if j = i then x else p j := by
  apply List.ext_getElem?
  intro j
  rw [List.getElem?_set]
  by_cases hj : j < n
  · rw [rowB_get hj, rowB_len]
    by_cases e : i = j
    · subst e; rw [rowB_get hj]; simp [hj]
    · simp only [e, if_false]
      rw [rowB_get hj, if_neg (fun h => e h.symm)]
  · have e1 : (rowB n fun j => if j = i then x else p j)[j]? = none := List.getElem?_eq_none (by rw [rowB_len]; omega)
    have e2 : (rowB n p)[j]? = none := List.getElem?_eq_none (by rw [rowB_len]; omega)
    rw [e1, rowB_len]
    by_cases e : i = j
    · subst e; simp [hj]
    · simp [e, e2]
theorem rowB_rep (n : Nat) (x : Bool) : List.replicate n (AV.bool x) = rowB n fun _ => x := by
  unfold rowB
  rw [List.map_const', List.length_range]
end
end Go.Jt
