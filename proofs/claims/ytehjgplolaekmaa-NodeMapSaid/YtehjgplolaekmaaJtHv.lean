/-
  Laws for node's halves: windows of frozen slices, slices that were grown ahead.
-/
import Derived.Test.YtehjgplolaekmaaJtNo1
set_option autoImplicit false
set_option linter.all false
set_option maxRecDepth 10000
set_option maxHeartbeats 4000000
namespace Go.Jt
noncomputable section
variable [Gl]
/-- a window of a row -/
def win {α : Type} (l : List α) (i j : Nat) : List α := (l.drop i).take (j - i)
section
variable {H : AH} {Z : Fz} {l : List Hl} {env : Env}
theorem cut3_at {len cap i j m : Nat} {a b c : Od} (ha : ev env a = .int .i64 (.ofNat i)) (hb : ev env b = .int .i64 (.ofNat j)) (hc : ev env c = .int .i64 (.ofNat m)) (h1 : i ≤ j) (h2 : j ≤ m) (h3 : m ≤ cap) (K : Nat → Nat → Nat → Bool) : cut3 env len cap (some a) (some b) (some c) K = K i j m := by
  simp only [cut3, isOd, ha, hb, hc, fN_eq, Nat.ble_eq_true_of_le h1, Nat.ble_eq_true_of_le h2, Nat.ble_eq_true_of_le h3, cond_true]
/-- a window of a frozen slice -/
theorem fl_sll {v : AV} {es : Nat} {xs : List (List AV)} (h : Fl Z es v xs) (i j : Nat) (hij : i ≤ j) (hj : j ≤ xs.length) :
    ∃ v', Fl Z es v' ((xs.drop i).take (j - i)) ∧ ∀ {env : Env} {H : AH} {x a b c : Od}, ev env x = v → ev env a = .int .i64 (.ofNat i) → ev env b = .int .i64 (.ofNat j) → ev env c = .int .i64 (.ofNat j) → ∀ K : AV → AH → Bool, xop (.sll es x (some a) (some b) (some c)) env H K = K v' H := by
  have hlen : ((xs.drop i).take (j - i)).length = j - i := by simp; omega
  have hget : ∀ {L : List AV} {o : Nat}, (∀ i x, xs[i]? = some x → x.length = es ∧ ∀ j v, x[j]? = some v → L[o + i * es + j]? = some v) → ∀ q x, ((xs.drop i).take (j - i))[q]? = some x → x.length = es ∧ ∀ m v, x[m]? = some v → L[o + i * es + q * es + m]? = some v := by
    intro L o hx q x hq
    have hql : q < j - i := by have := (List.getElem?_eq_some_iff.1 hq).1; omega
    rw [List.getElem?_take_of_lt hql, List.getElem?_drop] at hq
    have := hx (i + q) x hq
    rw [Nat.add_mul] at this
    exact ⟨this.1, fun m v hm => by have := this.2 m v hm; rwa [← Nat.add_assoc] at this⟩
  have hmul : j * es ≤ xs.length * es := Nat.mul_le_mul_right _ hj
  have hij2 : i * es + (j - i) * es = j * es := by rw [← Nat.add_mul]; congr 1; omega
  cases h with
  | nil =>
    have : i = 0 ∧ j = 0 := by simp at hj; omega
    obtain ⟨rfl, rfl⟩ := this
    refine ⟨.nils, .nil, fun hx ha hb hc K => ?_⟩
    simp only [xop, hx, cut3_at ha hb hc (Nat.le_refl _) (Nat.le_refl _) (Nat.le_refl _)]
  | slz b o e =>
    have : i = 0 ∧ j = 0 := by simp at hj; omega
    obtain ⟨rfl, rfl⟩ := this
    refine ⟨.slz b o e, .slz b o e, fun hx ha hb hc K => ?_⟩
    simp only [xop, hx, cut3_at ha hb hc (Nat.le_refl _) (Nat.le_refl _) (Nat.le_refl _)]
  | slc b o c L xs hc hz ho hx =>
    by_cases e0 : j = i
    · refine ⟨.slc b o (j - i) (j - i), ?_, fun hx ha hb hc' K => ?_⟩
      · have e : (xs.drop i).take (j - i) = [] := by rw [e0, Nat.sub_self]; simp
        rw [e]
        have : j - i = 0 := by omega
        rw [this]
        exact .slc b o 0 L [] (Nat.le_refl _) hz (by simp; omega) (fun i x h => by simp at h)
      · simp only [xop, hx, cut3_at ha hb hc' hij (Nat.le_refl _) (show j ≤ c by omega), fN_eq, e0, Nat.beq_refl, cond_true]
    · refine ⟨.slc b (o + i * es) (j - i) (j - i), ?_, fun hx' ha hb hc' K => ?_⟩
      · have := Fl.slc (Z := Z) (es := es) b (o + i * es) (j - i) L ((xs.drop i).take (j - i)) (by omega) hz (by rw [hlen]; omega) (hget hx)
        rwa [hlen] at this
      · have hb0 : Nat.beq j i = false := by
          cases hb : Nat.beq j i with
          | false => rfl
          | true => exact absurd (Nat.eq_of_beq_eq_true hb) e0
        simp only [xop, hx', cut3_at ha hb hc' hij (Nat.le_refl _) (show j ≤ c by omega), fN_eq, hb0, cond_false]
  | slu b o L xs hz ho hx =>
    by_cases e0 : j = i
    · refine ⟨.slc b o (j - i) (j - i), ?_, fun hx ha hb hc' K => ?_⟩
      · have e : (xs.drop i).take (j - i) = [] := by rw [e0, Nat.sub_self]; simp
        rw [e]
        have : j - i = 0 := by omega
        rw [this]
        exact .slc b o 0 L [] (Nat.le_refl _) hz (by simp; omega) (fun i x h => by simp at h)
      · simp only [xop, hx, Nat.beq_refl, cond_true, cut3_at ha hb hc' hij (Nat.le_refl _) hj, fN_eq, e0]
    · refine ⟨.slc b (o + i * es) (j - i) (j - i), ?_, fun hx' ha hb hc' K => ?_⟩
      · have := Fl.slc (Z := Z) (es := es) b (o + i * es) (j - i) L ((xs.drop i).take (j - i)) (by omega) hz (by rw [hlen]; omega) (hget hx)
        rwa [hlen] at this
      · have hb0 : Nat.beq j i = false := by
          cases hb : Nat.beq j i with
          | false => rfl
          | true => exact absurd (Nat.eq_of_beq_eq_true hb) e0
        simp only [xop, hx', Nat.beq_refl, cond_true, cut3_at ha hb hc' hij (Nat.le_refl _) hj, fN_eq, hb0, cond_false]
theorem rpt_rl {z : Rp AV} {L : List AV} (hz : RL z L) (n : Nat) : ∃ M, RL (rpt n z) M ∧ M.length = n * L.length := by
  induction n with
  | zero => exact ⟨[], RL.nil, by simp⟩
  | succ n ih =>
    obtain ⟨M, h1, h2⟩ := ih
    exact ⟨L ++ M, hz.app h1, by rw [List.length_append, h2, Nat.add_mul]; omega⟩
theorem zeros_rl {z : Rp AV} {L : List AV} (hz : RL z L) (n : Nat) : ∃ M, RL (zeros n z) M ∧ M.length = n * L.length := by
  cases z with
  | one v =>
    have e : L = [v] := hz.2.symm
    subst e
    exact ⟨_, RL.rep n v, by simp⟩
  | nil => exact rpt_rl hz n
  | rep m v => exact rpt_rl hz n
  | cat m a b => exact rpt_rl hz n
/-- made longer by zero elements -/
theorem grow_app {es n bytes : Nat} {z : Rp AV} {L : List AV} (hs : Sat H Z l) (hz : RL z L) (he : L.length = es) (hn : 0 < n) (hb : (2 * n + 200) * bytes ≤ 140737488355328) (hn2 : n ≤ 140737488355328) :
    ∃ b M H', M.length = n * es ∧ Sat H' Z (.cells b M :: l) ∧ ∀ {env : Env} {s x : Od}, ev env s = .nils → ev env x = .int .i64 (.ofNat n) → ∀ K : AV → AH → Bool, xop (.app es bytes z true s x) env H K = K (.slu b 0 n es) H' := by
  obtain ⟨M, h1, h2⟩ := zeros_rl hz n
  have hb0 : Nat.beq n 0 = false := by
    cases h : Nat.beq n 0 with
    | false => rfl
    | true => have := Nat.eq_of_beq_eq_true h; omega
  have h3 : n * bytes ≤ 281474976710656 := by
    have : n * bytes ≤ (2 * n + 200) * bytes := Nat.mul_le_mul_right _ (by omega)
    omega
  refine ⟨H.n, M, _, by rw [h2, he], s_new hs h1 false, fun {env s x} g1 g2 K => ?_⟩
  simp only [xop, g1, g2, xapp, appSrc, roomy, Nat.ble_eq_true_of_le hn2, Nat.ble_eq_true_of_le h3, Nat.ble_eq_true_of_le hb, hb0, cond_true, cond_false, fN_eq, anew_eq]
theorem grow_sll {es n b : Nat} {M : List AV} (hs : Sat H Z (.cells b M :: l)) (hM : M.length = n * es) (hes : 0 < es) (hn : 0 < n) {env : Env} {x hi : Od} (hx : ev env x = .slu b 0 n es) (hh : ev env hi = .int .i64 (.ofNat 0)) (K : AV → AH → Bool) : xop (.sll es x none (some hi) none) env H K = K (.slu b 0 0 es) H := by
  obtain ⟨R, st, h1, h2, h3⟩ := hs.getAt 0 rfl
  have e : R.len / es = n := by rw [Rp.len_eq R h1, h2, hM, Nat.mul_div_cancel _ hes]
  have hb0 : Nat.beq n 0 = false := by
    cases h : Nat.beq n 0 with
    | false => rfl
    | true => have := Nat.eq_of_beq_eq_true h; omega
  simp only [xop, hx, Nat.beq_refl, cond_true, gcell, h3, Nat.sub_zero, e, cut3, isOd, hh, fN_eq, Nat.ble_eq_true_of_le (Nat.le_refl _), Nat.ble_eq_true_of_le (Nat.zero_le _), hb0, cond_false, Nat.sub_zero, Nat.zero_add, Nat.zero_mul]
/-- a slice that was grown ahead: n elements, cells L, room for more up to 'tot' -/
inductive OwnG (es tot : Nat) : AV → Nat → List AV → List Hl → Prop
  | nil (h : tot = 0) : OwnG es tot .nils 0 [] []
  | slu (b n : Nat) (L M : List AV) (h : L.length = n * es) (hM : (L ++ M).length = tot * es) : OwnG es tot (.slu b 0 n es) n L [.cells b (L ++ M)]
theorem OwnG.sc {es tot n : Nat} {v : AV} {L : List AV} {hl : List Hl} (h : OwnG es tot v n L hl) : v.sc = true := by cases h <;> rfl
theorem OwnG.own {es n : Nat} {v : AV} {L : List AV} {hl : List Hl} (h : OwnG es n v n L hl) : Own es v n L hl := by
  cases h with
  | nil h => exact .nil
  | slu b n L M h hM =>
    have : M = [] := by
      apply List.eq_nil_of_length_eq_zero
      rw [List.length_append] at hM
      omega
    subst this
    rw [List.append_nil]
    exact .slu b n L h
theorem g_app {v : AV} {es tot n m bytes : Nat} {L S : List AV} {hl : List Hl} {xv : AV} (hs : Sat H Z (hl ++ l)) (ho : OwnG es tot v n L hl) (hsrc : Src H es xv m S) (hm : n + m ≤ tot) :
    ∃ v' hl' H', OwnG es tot v' (n + m) (L ++ S) hl' ∧ Sat H' Z (hl' ++ l) ∧ ∀ {env : Env} {z : Rp AV} {s x : Od}, ev env s = v → ev env x = xv → ∀ K : AV → AH → Bool, xop (.app es bytes z false s x) env H K = K v' H' := by
  obtain ⟨x1, x2, r, x3, x4⟩ := hsrc
  by_cases hm0 : m = 0
  · subst hm0
    have hS : S = [] := List.eq_nil_of_length_eq_zero (by omega)
    subst hS
    refine ⟨v, hl, H, by rw [Nat.add_zero, List.append_nil]; exact ho, hs, fun {env z s x} h1 h2 K => ?_⟩
    cases ho with
    | nil h => simp only [xop, h1, h2, xapp, appSrc, x1, x4, Nat.beq_refl, cond_true]
    | slu b n L M h hM => simp only [xop, h1, h2, xapp, appSrc, x1, x4, Nat.beq_refl, cond_true]
  · have hb0 : Nat.beq m 0 = false := by
      cases hb : Nat.beq m 0 with
      | false => rfl
      | true => exact absurd (Nat.eq_of_beq_eq_true hb) hm0
    cases ho with
    | nil h => omega
    | slu b n L M h hM =>
      obtain ⟨R, st, h1, h2, h3⟩ := hs.getAt 0 rfl
      have hfit : (n + m) * es ≤ tot * es := Nat.mul_le_mul_right _ hm
      rw [Nat.add_mul] at hfit
      have hle : Nat.ble (0 + (n + m) * es) R.len = true := Nat.ble_eq_true_of_le (by rw [Rp.len_eq R h1, h2, hM, Nat.add_mul]; omega)
      have hMl : m * es ≤ M.length := by rw [List.length_append] at hM; omega
      have hput : RL (R.put (0 + n * es) (m * es) r) ((L ++ S) ++ M.drop (m * es)) := by
        have := (show RL R (L ++ M) from ⟨h1, h2⟩).put (o := 0 + n * es) (n := m * es) x3 x2 (by rw [hM]; omega)
        rw [Nat.zero_add] at this ⊢
        rw [List.take_append_of_le_length (by omega), List.take_of_length_le (by omega), List.drop_append, show List.drop (n * es + m * es) L = [] from List.drop_of_length_le (by omega), List.nil_append, h, show n * es + m * es - n * es = m * es by omega] at this
        rw [List.append_assoc]
        exact this
      refine ⟨.slu b 0 (n + m) es, [.cells b ((L ++ S) ++ M.drop (m * es))], H.set b (.cells (R.put (0 + n * es) (m * es) r) st false), .slu b (n + m) (L ++ S) (M.drop (m * es)) (by rw [List.length_append, h, x2, Nat.add_mul]) (by rw [List.length_append, List.length_append, List.length_drop, x2]; rw [List.length_append] at hM; omega), hs.upd rfl (fun c hc => get_set_ne hc) rfl ⟨_, st, hput.1, hput.2, get_set_here ..⟩, fun {env z s x} g1 g2 K => ?_⟩
      simp only [xop, g1, g2, xapp, appSrc, x1, x4, hb0, Nat.beq_refl, gcell, h3, hle, cond_true, cond_false, fN_eq]
end
/-! ### ropes whose leaves are plain, put together -/
theorem leaves_cat {n : Nat} {l r : Rp AV} (h1 : leavesB l = true) (h2 : leavesB r = true) : leavesB (.cat n l r) = true := by
  show (leavesB l && leavesB r) = true
  rw [h1, h2]; rfl
theorem leaves_cat' {n : Nat} {l r : Rp AV} (h : leavesB (.cat n l r) = true) : leavesB l = true ∧ leavesB r = true := by
  have h' : (leavesB l && leavesB r) = true := h
  rwa [Bool.and_eq_true] at h'
theorem leaves_app {l r : Rp AV} (h1 : leavesB l = true) (h2 : leavesB r = true) : leavesB (l.app r) = true := by
  cases l with
  | nil => exact h2
  | one x => exact leaves_cat h1 h2
  | rep n x => exact leaves_cat h1 h2
  | cat n a b => exact leaves_cat h1 h2
theorem leaves_sub {r : Rp AV} : ∀ (o n : Nat), leavesB r = true → leavesB (r.sub o n) = true := by
  induction r with
  | nil => intro o n h; rfl
  | one x =>
    intro o n h
    show leavesB (cond (Nat.beq o 0) (cond (Nat.beq n 0) .nil (.one x)) .nil) = true
    cases Nat.beq o 0 <;> cases Nat.beq n 0 <;> first | rfl | exact h
  | rep m x => intro o n h; exact h
  | cat m l r ihl ihr =>
    intro o n h
    obtain ⟨h1, h2⟩ := leaves_cat' h
    show leavesB (cond (Nat.ble m o) (r.sub (o - m) n)
      (cond (Nat.ble (o + n) m) (cond (Nat.beq o 0) (cond (Nat.beq n m) l (l.sub o n)) (l.sub o n))
        (cond (Nat.beq o 0)
          (cond (Nat.ble r.len (n - m)) (.cat m l r) (.cat m l (r.sub 0 (n - m))))
          (.cat (m - o) (l.sub o (m - o)) (cond (Nat.ble r.len (o + n - m)) r (r.sub 0 (o + n - m))))))) = true
    have a1 := ihl o n h1
    have a2 := fun o n => ihr o n h2
    have a3 := fun o n => ihl o n h1
    cases Nat.ble m o <;> simp only [cond_true, cond_false]
    · cases Nat.ble (o + n) m <;> simp only [cond_true, cond_false]
      · cases Nat.beq o 0 <;> simp only [cond_true, cond_false]
        · cases Nat.ble r.len (o + n - m) <;> simp only [cond_true, cond_false]
          · exact leaves_cat (a3 _ _) (a2 _ _)
          · exact leaves_cat (a3 _ _) h2
        · cases Nat.ble r.len (n - m) <;> simp only [cond_true, cond_false]
          · exact leaves_cat h1 (a2 _ _)
          · exact leaves_cat h1 h2
      · cases Nat.beq o 0 <;> cases Nat.beq n m <;> simp only [cond_true, cond_false] <;> first | exact h1 | exact a1
    · exact a2 _ _
theorem leaves_put {r : Rp AV} : ∀ (o n : Nat) {s : Rp AV}, leavesB r = true → leavesB s = true → leavesB (r.put o n s) = true := by
  induction r with
  | nil => intro o n s h hs; rfl
  | one x =>
    intro o n s h hs
    show leavesB (cond (Nat.beq o 0) (cond (Nat.beq n 1) s (.one x)) (.one x)) = true
    cases Nat.beq o 0 <;> cases Nat.beq n 1 <;> first | exact h | exact hs
  | rep m x => intro o n s h hs; exact leaves_app (l := .rep o x) h (leaves_app (r := .rep (m - (o + n)) x) hs h)
  | cat m l r ihl ihr =>
    intro o n s h hs
    obtain ⟨h1, h2⟩ := leaves_cat' h
    show leavesB (cond (Nat.ble m o) (.cat m l (r.put (o - m) n s))
      (cond (Nat.ble (o + n) m) (.cat m (l.put o n s) r)
        (cond (Nat.beq o 0) (cond (Nat.ble r.len (n - m)) s (.cat m (s.sub 0 m) (r.put 0 (n - m) (s.sub m (n - m)))))
          (.cat m (l.put o (m - o) (s.sub 0 (m - o))) (r.put 0 (o + n - m) (s.sub (m - o) (o + n - m))))))) = true
    cases Nat.ble m o <;> simp only [cond_true, cond_false]
    · cases Nat.ble (o + n) m <;> simp only [cond_true, cond_false]
      · cases Nat.beq o 0 <;> simp only [cond_true, cond_false]
        · exact leaves_cat (ihl _ _ h1 (leaves_sub _ _ hs)) (ihr _ _ h2 (leaves_sub _ _ hs))
        · cases Nat.ble r.len (n - m) <;> simp only [cond_true, cond_false]
          · exact leaves_cat (leaves_sub _ _ hs) (ihr _ _ h2 (leaves_sub _ _ hs))
          · exact hs
      · exact leaves_cat (ihl _ _ h1 hs) h2
    · exact leaves_cat h1 (ihr _ _ h2 hs)
theorem leaves_setRep (f : Nat) : ∀ (n : Nat) (x : AV) (i : Nat) (v : AV), plainV x = true → plainV v = true → leavesB (Rp.setRep f n x i v) = true := by
  induction f with
  | zero => intro n x i v hx hv; exact hx
  | succ f ih =>
    intro n x i v hx hv
    rw [Rp.setRep_succ]
    have a1 : ∀ k, leavesB (.rep k x) = true := fun _ => hx
    cases Nat.ble n 1 <;> simp only [cond_true, cond_false]
    · cases Nat.ble (n / 2) i <;> simp only [cond_true, cond_false]
      · exact leaves_cat (ih _ _ _ _ hx hv) (a1 _)
      · exact leaves_cat (a1 _) (ih _ _ _ _ hx hv)
    · cases Nat.beq n 1 <;> cases Nat.beq i 0 <;> simp only [cond_true, cond_false] <;> first | exact hx | exact hv
theorem leaves_set {r : Rp AV} : ∀ (i : Nat) {v : AV}, leavesB r = true → plainV v = true → leavesB (r.set i v) = true := by
  induction r with
  | nil => intro i v h hv; rfl
  | one x =>
    intro i v h hv
    show leavesB (cond (Nat.beq i 0) (.one v) (.one x)) = true
    cases Nat.beq i 0 <;> first | exact h | exact hv
  | rep n x => intro i v h hv; exact leaves_setRep _ _ _ _ _ h hv
  | cat n l r ihl ihr =>
    intro i v h hv
    obtain ⟨h1, h2⟩ := leaves_cat' h
    show leavesB (cond (Nat.ble n i) (.cat n l (r.set (i - n) v)) (.cat n (l.set i v) r)) = true
    cases Nat.ble n i <;> simp only [cond_true, cond_false]
    · exact leaves_cat (ihl _ h1 hv) h2
    · exact leaves_cat h1 (ihr _ h2 hv)
theorem fl_pl {Z : Fz} {es : Nat} {v : AV} {xs : List (List AV)} (h : Fl Z es v xs) : plainV v = true := by cases h <;> rfl
theorem own_pl {es n : Nat} {v : AV} {L : List AV} {hl : List Hl} (h : Own es v n L hl) : plainV v = true := by cases h <;> rfl
section
variable {H : AH} {Z : Fz} {l : List Hl} {fi : FnIR} {Q : AV → AH → Prop} {e : Ex} {env : Env}
theorem fin_cx {b off t n : Nat} {R : Rp AV} {st : Bool} (hs : Sat H Z l) (i : Nat) (h : Q (.agg (R.sub off n)) H) (hi : l[i]? = some (.obj b (.cells R st false)) := by rfl) (hr : fi.results = [.cell t n true] := by rfl) (hb : lget env t = .ptr b off := by rfl) (hl : Nat.ble (off + n) R.len = true := by rfl) (he : isExit e = false := by rfl) : Fin fi Q e env [] H := by
  have h3 : H.get b = some (.cells R st false) := hs.getAt i hi
  refine ⟨_, _, h, fun k => ?_⟩
  rw [finK_no he, hr]
  show rvs [.cell t n true] env H (fun l => k (oneOf l) H) = _
  simp only [rvs, hb, gcell, h3, cond_true, hl, oneOf]
/-- two results out of cells, each with one behind it -/
theorem fin_cc {b o t n u b' o' t' n' u' : Nat} {L L' : List AV} {w w' : AV} (hs : Sat H Z l) (i j : Nat) (h : ∀ r r', RL r ((L.drop o).take n) → RL r' ((L'.drop o').take n') → Q (.tup [.agg r, w, .agg r', w']) H)
    (hi : l[i]? = some (.cells b L) := by rfl) (hj : l[j]? = some (.cells b' L') := by rfl) (hr : fi.results = [.cell t n true, .tmp u, .cell t' n' true, .tmp u'] := by rfl) (hb : lget env t = .ptr b o := by rfl) (hb' : lget env t' = .ptr b' o' := by rfl)
    (hl : o + n ≤ L.length := by exact Nat.le_of_ble_eq_true rfl) (hl' : o' + n' ≤ L'.length := by exact Nat.le_of_ble_eq_true rfl) (hw : lget env u = w := by rfl) (hw' : lget env u' = w' := by rfl) (he : isExit e = false := by rfl) : Fin fi Q e env [] H := by
  obtain ⟨R, st, h1, h2, h3⟩ := hs.getAt i hi
  obtain ⟨R', st', h1', h2', h3'⟩ := hs.getAt j hj
  refine ⟨_, _, h _ _ (RL.sub ⟨h1, h2⟩ o n) (RL.sub ⟨h1', h2'⟩ o' n'), fun k => ?_⟩
  rw [finK_no he, hr]
  have e1 : Nat.ble (o + n) R.len = true := Nat.ble_eq_true_of_le (by rw [Rp.len_eq R h1, h2]; exact hl)
  have e2 : Nat.ble (o' + n') R'.len = true := Nat.ble_eq_true_of_le (by rw [Rp.len_eq R' h1', h2']; exact hl')
  show rvs [.cell t n true, .tmp u, .cell t' n' true, .tmp u'] env H (fun l => k (oneOf l) H) = _
  simp only [rvs, hb, hb', gcell, h3, h3', cond_true, e1, e2, hw, hw', oneOf]
end
end
end Go.Jt
