/-
  Slices that grow: nil, or one block of one's own, full; what is appended; what becomes frozen.
-/
import Derived.Test.YtlhlgmodhblplaaJtOp
set_option autoImplicit false
set_option linter.all false
namespace Go.Jt
noncomputable section
variable [Gl]

/-- a slice of one's own: n elements of es cells, all cells L, blocks hl -/
inductive Own (es : Nat) : AV → Nat → List AV → List Hl → Prop
  | nil : Own es .nils 0 [] []
  | slc (b n : Nat) (L : List AV) (h : L.length = n * es) : Own es (.slc b 0 n n) n L [.cells b L]
  | slu (b n : Nat) (L : List AV) (h : L.length = n * es) : Own es (.slu b 0 n es) n L [.cells b L]
theorem own_sc {es n : Nat} {v : AV} {L : List AV} {hl : List Hl} (h : Own es v n L hl) : v.sc = true := by cases h <;> rfl
theorem own_len {es n : Nat} {v : AV} {L : List AV} {hl : List Hl} (h : Own es v n L hl) {env : Env} {H : AH} {x : Od} (hx : ev env x = v) (K : AV → AH → Bool) : xop (.len 1 x) env H K = K (.int .i64 (.ofNat n)) H := by
  cases h with
  | nil => simp only [xop, hx, srcLen]
  | slc b n L h => simp only [xop, hx, srcLen]
  | slu b n L h => simp only [xop, hx, srcLen]
theorem own_same {es n : Nat} {v : AV} {L : List AV} {hl : List Hl} (h : Own es v n L hl) : same v v = true := by
  cases h with
  | nil => rfl
  | slc b n L h => exact same_slc
  | slu b n L h => exact same_slu
theorem own_size {es n : Nat} {v : AV} {L : List AV} {hl : List Hl} (h : Own es v n L hl) : L.length = n * es := by
  cases h with
  | nil => simp
  | slc b n L h => exact h
  | slu b n L h => exact h
/-- what is appended: m elements, the cells S -/
def Src (H : AH) (es : Nat) (x : AV) (m : Nat) (S : List AV) : Prop := (∀ K : Nat → Bool, srcLen x K = K m) ∧ S.length = m * es ∧ ∃ r, RL r S ∧ ∀ K : Rp AV → Bool, srcCells H es m x K = K r
section
variable {H : AH} {Z : Fz} {l : List Hl}
theorem src_str (s : List Nat) : Src H 1 (.str s) s.length (s.map byteV) := by
  refine ⟨fun K => by simp only [srcLen, fN_eq, llen_eq, Nat.add_zero], by simp, _, RL.ofL (s.map byteV), fun K => ?_⟩
  simp only [srcCells, Nat.beq_refl, cond_true, llen_eq, Nat.add_zero, List.take_length, Nat.ble_eq_true_of_le (Nat.le_refl _)]
  rfl
theorem src_sl {xv : AV} {b o m es : Nat} {L : List AV} (hs : Sat H Z l) (i : Nat) (hv : SlV xv b o m es) (ho : o + m * es ≤ L.length) (hi : l[i]? = some (.cells b L) := by rfl) : Src H es xv m ((L.drop o).take (m * es)) := by
  obtain ⟨R, st, h1, h2, h3⟩ := hs.getAt i hi
  have hl : Nat.ble (o + m * es) R.len = true := Nat.ble_eq_true_of_le (by rw [Rp.len_eq R h1, h2]; exact ho)
  refine ⟨fun K => by cases hv <;> simp only [srcLen], by simp; omega, _, RL.sub ⟨h1, h2⟩ o (m * es), fun K => ?_⟩
  cases hv with
  | slc b o n c es => simp only [srcCells, gcell, h3, hl, cond_true]
  | slu b o n es => simp only [srcCells, gcell, h3, hl, cond_true]
theorem src_fl {xv : AV} {es : Nat} {xs : List (List AV)} (hs : Sat H Z l) (hv : Fl Z es xv xs) : Src H es xv xs.length xs.flatten := by
  cases hv with
  | nil => exact ⟨fun K => rfl, by simp, .nil, RL.nil, fun K => by simp only [srcCells, List.length_nil, Nat.beq_refl, cond_true]⟩
  | slz b o e => exact ⟨fun K => rfl, by simp, .nil, RL.nil, fun K => by simp only [srcCells, List.length_nil, Nat.beq_refl, cond_true]⟩
  | slc b o c L xs hc hz ho hx =>
    obtain ⟨⟨R, st, ro, h1, h2, h3, _⟩, _⟩ := hs.fz b L hz
    have hl : Nat.ble (o + xs.length * es) R.len = true := Nat.ble_eq_true_of_le (by rw [Rp.len_eq R h1, h2]; exact ho)
    have e := flat_take hx ho
    refine ⟨fun K => by simp only [srcLen], by rw [← e]; simp; omega, _, (by have := RL.sub ⟨h1, h2⟩ o (xs.length * es); rw [e] at this; exact this), fun K => by simp only [srcCells, gcell, h3, hl, cond_true]⟩
  | slu b o L xs hz ho hx =>
    obtain ⟨⟨R, st, ro, h1, h2, h3, _⟩, _⟩ := hs.fz b L hz
    have hl : Nat.ble (o + xs.length * es) R.len = true := Nat.ble_eq_true_of_le (by rw [Rp.len_eq R h1, h2]; exact ho)
    have e := flat_take hx ho
    refine ⟨fun K => by simp only [srcLen], by rw [← e]; simp; omega, _, (by have := RL.sub ⟨h1, h2⟩ o (xs.length * es); rw [e] at this; exact this), fun K => by simp only [srcCells, gcell, h3, hl, cond_true]⟩
where
  flat_take {es o : Nat} {L : List AV} {xs : List (List AV)} (hx : ∀ (i : Nat) (x : List AV), xs[i]? = some x → x.length = es ∧ ∀ (j : Nat) (v : AV), x[j]? = some v → L[o + i * es + j]? = some v) (ho : o + xs.length * es ≤ L.length) : (L.drop o).take (xs.length * es) = xs.flatten := by
    induction xs generalizing o with
    | nil => simp
    | cons y ys ih =>
      have h0 := hx 0 y rfl
      rw [List.flatten_cons, List.length_cons, Nat.add_mul, Nat.one_mul, Nat.add_comm, List.take_add]
      rw [List.length_cons, Nat.add_mul, Nat.one_mul] at ho
      congr 1
      · refine fl_take (fun j v hj => ?_) h0.1 (by omega)
        have := h0.2 j v hj
        rwa [Nat.zero_mul, Nat.add_zero] at this
      · rw [List.drop_drop]
        refine ih (o := o + es) (fun i x hi => ?_) (by omega)
        have := hx (i + 1) x (by simpa using hi)
        refine ⟨this.1, fun j v hj => ?_⟩
        have := this.2 j v hj
        rwa [Nat.add_mul, Nat.one_mul, show o + (i * es + es) + j = o + es + i * es + j by omega] at this
theorem Sat.rot2 {p l₁ q F : List Hl} (h : Sat H Z (p ++ (l₁ ++ (q ++ F)))) : Sat H Z (q ++ (p ++ (l₁ ++ F))) := h.perm (by
  rw [← List.append_assoc, ← List.append_assoc, ← List.append_assoc p, ← List.append_assoc]
  exact List.Perm.append_right F List.perm_append_comm)
theorem Sat.rot {l₁ hl : List Hl} {F : List Hl} (h : Sat H Z (l₁ ++ (hl ++ F))) : Sat H Z (hl ++ (l₁ ++ F)) := h.perm (by
  rw [← List.append_assoc, ← List.append_assoc]
  exact List.Perm.append_right F List.perm_append_comm)
/-- appended to a slice of one's own -/
theorem s_own {v xv : AV} {n m es bytes : Nat} {L S : List AV} {hl : List Hl} (hs : Sat H Z (hl ++ l)) (ho : Own es v n L hl) (hx : Src H es xv m S) (hr : (2 * (n + m) + 200) * bytes ≤ 140737488355328) (hes : 0 < es) :
    ∃ v' hl' H', Own es v' (n + m) (L ++ S) hl' ∧ Sat H' Z (hl' ++ l) ∧ ∀ {env : Env} {z : Rp AV} {s x : Od} (h1 : ev env s = v) (h2 : ev env x = xv) (K : AV → AH → Bool), xop (.app es bytes z false s x) env H K = K v' H' := by
  obtain ⟨x1, x2, r, x3, x4⟩ := hx
  by_cases hm : m = 0
  · subst hm
    have hS : S = [] := List.eq_nil_of_length_eq_zero (by rw [x2, Nat.zero_mul])
    subst hS
    rw [List.append_nil, Nat.add_zero]
    refine ⟨v, hl, H, ho, hs, fun {env z s x} h1 h2 K => ?_⟩
    cases ho with
    | nil => simp only [xop, h1, h2, xapp, appSrc, x1, x4, Nat.beq_refl, cond_true]
    | slc b n L h => simp only [xop, h1, h2, xapp, appSrc, x1, x4, Nat.beq_refl, cond_true]
    | slu b n L h => simp only [xop, h1, h2, xapp, appSrc, x1, x4, Nat.beq_refl, cond_true]
  · have hm0 : Nat.beq m 0 = false := by cases m <;> first | omega | rfl
    have hro : roomy (n + m) bytes = true := roomy_of hr
    cases ho with
    | nil =>
      rw [Nat.zero_add] at hro
      rw [List.nil_append, Nat.zero_add]
      refine ⟨.slu H.n 0 m es, [.cells H.n S], _, .slu _ _ _ x2, s_new hs x3 false, fun {env z s x} h1 h2 K => ?_⟩
      simp only [xop, h1, h2, xapp, appSrc, x1, x4, hm0, hro, cond_true, cond_false, anew_eq]
    | slc b n L h =>
      obtain ⟨R, st, h1, h2, h3⟩ := hs.getAt 0 rfl
      have hl' : Nat.ble (0 + n * es) R.len = true := Nat.ble_eq_true_of_le (by rw [Rp.len_eq R h1, h2, h]; omega)
      have hf : Nat.ble (n + m) n = false := by
        cases hb : Nat.ble (n + m) n with
        | false => rfl
        | true => have := Nat.le_of_ble_eq_true hb; omega
      have hrl : RL ((R.sub 0 (n * es)).app r) (L ++ S) := by
        have := (RL.sub ⟨h1, h2⟩ 0 (n * es)).app x3
        rwa [List.drop_zero, List.take_of_length_le (by omega)] at this
      refine ⟨.slu H.n 0 (n + m) es, [.cells H.n (L ++ S)], _, .slu _ _ _ (by simp [h, x2, Nat.add_mul]), (s_new hs.tail hrl false), fun {env z s x} h1 h2 K => ?_⟩
      simp only [xop, h1, h2, xapp, appSrc, x1, x4, hm0, hf, hro, gcell, h3, hl', cond_true, cond_false, anew_eq, fN_eq]
    | slu b n L h =>
      obtain ⟨R, st, h1, h2, h3⟩ := hs.getAt 0 rfl
      have hl' : Nat.ble (0 + n * es) R.len = true := Nat.ble_eq_true_of_le (by rw [Rp.len_eq R h1, h2, h]; omega)
      have hf : Nat.ble (0 + (n + m) * es) R.len = false := by
        cases hb : Nat.ble (0 + (n + m) * es) R.len with
        | false => rfl
        | true =>
          have := Nat.le_of_ble_eq_true hb
          rw [Rp.len_eq R h1, h2, h, Nat.add_mul] at this
          have : 0 < m * es := Nat.mul_pos (by omega) hes
          omega
      have hrl : RL ((R.sub 0 (n * es)).app r) (L ++ S) := by
        have := (RL.sub ⟨h1, h2⟩ 0 (n * es)).app x3
        rwa [List.drop_zero, List.take_of_length_le (by omega)] at this
      have hk : Sat (H.kill b) Z l := Sat.kill (x := .cells b L) hs
      refine ⟨.slu H.n 0 (n + m) es, [.cells H.n (L ++ S)], _, .slu _ _ _ (by simp [h, x2, Nat.add_mul]), s_new hk hrl st, fun {env z s x} h1 h2 K => ?_⟩
      simp only [xop, h1, h2, xapp, appSrc, x1, x4, hm0, hf, hro, gcell, h3, hl', cond_true, cond_false, anew_eq, fN_eq, Nat.beq_refl]
      rfl
/-- a slice of one's own, lent -/
theorem own_lend {v : AV} {es n : Nat} {hl : List Hl} {xs : List (List AV)} (hx : ∀ x ∈ xs, x.length = es) (hs : Sat H Z (hl ++ l)) (ho : Own es v n xs.flatten hl) (hn : xs.length = n) : ∃ Z' : Fz, Z.le Z' ∧ Sat H Z' l ∧ Fl Z' es v xs ∧ ∀ (H' : AH) {l' : List Hl}, Sat H' Z' l' → Sat H' Z (hl ++ l') := by
  have hfl : ∀ i x, xs[i]? = some x → x.length = es ∧ ∀ j v, x[j]? = some v → xs.flatten[0 + i * es + j]? = some v := by
    clear ho hs hn
    intro i x hi
    have key : ∀ (xs : List (List AV)) (i : Nat), (∀ x ∈ xs, x.length = es) → xs[i]? = some x → ∀ j v, x[j]? = some v → xs.flatten[i * es + j]? = some v := by
      intro xs
      induction xs with
      | nil => intro i _ hi; simp at hi
      | cons y ys ih =>
        intro i hx hi j v hj
        rw [List.flatten_cons]
        have hy := hx y List.mem_cons_self
        cases i with
        | zero =>
          have e : y = x := by simpa using hi
          subst e
          rw [Nat.zero_mul, Nat.zero_add, List.getElem?_append_left (List.getElem?_eq_some_iff.1 hj).1]
          exact hj
        | succ i =>
          rw [List.getElem?_append_right (by rw [hy, Nat.add_mul]; omega), hy, Nat.add_mul, Nat.one_mul, show i * es + es + j - es = i * es + j by omega]
          exact ih i (fun z hz => hx z (List.mem_cons_of_mem _ hz)) (by simpa using hi) j v hj
    refine ⟨hx x (List.mem_of_getElem? hi), fun j v hj => ?_⟩
    rw [Nat.zero_add]
    exact key xs i hx hi j v hj
  generalize hL : xs.flatten = L at *
  cases ho with
  | nil =>
    have : xs = [] := List.eq_nil_of_length_eq_zero hn
    subst this
    exact ⟨Z, Fz.le_refl Z, hs, .nil, fun H' _ h => h⟩
  | slc b n L h =>
    subst hn
    obtain ⟨h1, h2, h3⟩ := Sat.lend hs
    exact ⟨_, h2, h1, .slc b 0 xs.length L xs (Nat.le_refl _) (Fz.add_here ..) (by omega) hfl, h3⟩
  | slu b n L h =>
    subst hn
    obtain ⟨h1, h2, h3⟩ := Sat.lend hs
    exact ⟨_, h2, h1, .slu b 0 L xs (Fz.add_here ..) (by omega) hfl, h3⟩
/-- a slice in one block of one's own, full -/
inductive Buf (es : Nat) : AV → Nat → Nat → Prop
  | slc (b n : Nat) : Buf es (.slc b 0 n n) b n
  | slu (b n : Nat) : Buf es (.slu b 0 n es) b n
theorem buf_sl {es n b : Nat} {v : AV} (h : Buf es v b n) : SlV v b 0 n es := by
  cases h with
  | slc b n => exact .slc b 0 n n es
  | slu b n => exact .slu b 0 n es
theorem buf_own {es n b : Nat} {v : AV} {L : List AV} (h : Buf es v b n) (hL : L.length = n * es) : Own es v n L [.cells b L] := by
  cases h with
  | slc b n => exact .slc b n L hL
  | slu b n => exact .slu b n L hL
theorem s_buf {v xv : AV} {b n m es bytes : Nat} {L S : List AV} (hs : Sat H Z (.cells b L :: l)) (hb : Buf es v b n) (hL : L.length = n * es) (hn : 0 < n) (hx : Src H es xv m S) (hr : (2 * (n + m) + 200) * bytes ≤ 140737488355328) (hes : 0 < es) :
    ∃ v' b' H', Buf es v' b' (n + m) ∧ Sat H' Z (.cells b' (L ++ S) :: l) ∧ ∀ {env : Env} {z : Rp AV} {s x : Od} (h1 : ev env s = v) (h2 : ev env x = xv) (K : AV → AH → Bool), xop (.app es bytes z false s x) env H K = K v' H' := by
  obtain ⟨v', hl', H', h1, h2, h3⟩ := s_own (l := l) (hl := [.cells b L]) hs (buf_own hb hL) hx hr hes
  generalize hk : n + m = k at h1
  generalize hM : L ++ S = M at h1 h2
  cases h1 with
  | nil => omega
  | slc b' k M h => exact ⟨_, b', H', .slc b' k, h2, h3⟩
  | slu b' k M h => exact ⟨_, b', H', .slu b' k, h2, h3⟩
theorem s_bytes {v xv : AV} {b : Nat} {B s : List Nat} (hs : Sat H Z (.cells b (B.map byteV) :: l)) (hb : Buf 1 v b B.length) (hn : 0 < B.length) (hx : Src H 1 xv s.length (s.map byteV)) (hr : B.length + s.length ≤ 70000000000000) :
    ∃ v' b' H', Buf 1 v' b' (B ++ s).length ∧ Sat H' Z (.cells b' ((B ++ s).map byteV) :: l) ∧ ∀ {env : Env} {z : Rp AV} {x y : Od} (h1 : ev env x = v) (h2 : ev env y = xv) (K : AV → AH → Bool), xop (.app 1 1 z false x y) env H K = K v' H' := by
  obtain ⟨v', b', H', h1, h2, h3⟩ := s_buf hs hb (by simp) hn hx (bytes := 1) (by omega) (by omega)
  exact ⟨v', b', H', by rw [List.length_append]; exact h1, by rw [List.map_append]; exact h2, h3⟩
end
end
end Go.Jt
