/-
  Laws for Put and Del: a copy in a block whose rope is known, a text put into it, windows told by two places.
-/
import Derived.Test.YtehjgplolaekmaaJtMp
import Derived.Test.YtehjgplolaekmaaJtIns
set_option autoImplicit false
set_option linter.all false
set_option maxHeartbeats 2000000
namespace Go.Jt
noncomputable section
variable [Gl]
/-- a copy: n elements, cells L; its block's rope is known -/
inductive OwnU (es : Nat) : AV → Nat → List AV → List Hl → Prop
  | nil : OwnU es .nils 0 [] []
  | emp (b : Nat) : OwnU es (.slc b 0 0 0) 0 [] [.cells b []]
  | slu (b n : Nat) (R : Rp AV) (L : List AV) (hR : RL R L) (h : L.length = n * es) (hn : 0 < n) : OwnU es (.slu b 0 n es) n L [.obj b (.cells R false false)]
theorem OwnU.sc {es n : Nat} {v : AV} {L : List AV} {hl : List Hl} (h : OwnU es v n L hl) : v.sc = true := by cases h <;> rfl
theorem OwnU.same {es n : Nat} {v : AV} {L : List AV} {hl : List Hl} (h : OwnU es v n L hl) : same v v = true := by
  cases h with
  | nil => rfl
  | emp b => exact same_slc
  | slu b n R L hR h hn => exact same_slu
theorem OwnU.ln {es n : Nat} {v : AV} {L : List AV} {hl : List Hl} (h : OwnU es v n L hl) {env : Env} {H : AH} {x : Od} (hx : ev env x = v) (K : AV → AH → Bool) : xop (.len 1 x) env H K = K (.int .i64 (.ofNat n)) H := by
  cases h with
  | nil => simp only [xop, hx, srcLen]
  | emp b => simp only [xop, hx, srcLen]
  | slu b n R L hR h hn => simp only [xop, hx, srcLen]
section
variable {H : AH} {Z : Fz} {l : List Hl}
/-- its words as a slice of one's own -/
theorem OwnU.own {es n : Nat} {v : AV} {L : List AV} {hl : List Hl} (h : OwnU es v n L hl) : ∃ hl', Own es v n L hl' ∧ ∀ {H : AH} {Z : Fz} {l : List Hl}, Sat H Z (hl ++ l) → Sat H Z (hl' ++ l) := by
  cases h with
  | nil => exact ⟨[], .nil, fun h => h⟩
  | emp b => exact ⟨[.cells b []], .slc b 0 [] (by simp), fun h => h⟩
  | slu b n R L hR h hn => exact ⟨[.cells b L], .slu b n L h, fun h => Sat.relax h hR⟩
theorem u_copy {xv : AV} {b n es bytes : Nat} {S : List AV} (hs : Sat H Z (.cells b [] :: l)) (hx : Src H es xv n S) (hr : (2 * n + 200) * bytes ≤ 140737488355328) (hes : 0 < es) :
    ∃ v' hl' H', OwnU es v' n S hl' ∧ Sat H' Z (hl' ++ l) ∧ ∀ {env : Env} {z : Rp AV} {s x : Od} (h1 : ev env s = .slc b 0 0 0) (h2 : ev env x = xv) (K : AV → AH → Bool), xop (.app es bytes z false s x) env H K = K v' H' := by
  obtain ⟨x1, x2, r, x3, x4⟩ := hx
  by_cases hn0 : n = 0
  · subst hn0
    have hS : S = [] := List.eq_nil_of_length_eq_zero (by omega)
    subst hS
    exact ⟨.slc b 0 0 0, [.cells b []], H, .emp b, hs, fun {env z s x} h1 h2 K => by simp only [xop, h1, h2, xapp, appSrc, x1, x4, Nat.beq_refl, cond_true]⟩
  · have hb0 : Nat.beq n 0 = false := by
      cases h : Nat.beq n 0 with
      | false => rfl
      | true => exact absurd (Nat.eq_of_beq_eq_true h) hn0
    have hro : roomy (0 + n) bytes = true := roomy_of (by rw [Nat.zero_add]; exact hr)
    obtain ⟨R, st, h1, h2, h3⟩ := hs.getAt 0 rfl
    have hl' : Nat.ble (0 + 0 * es) R.len = true := Nat.ble_eq_true_of_le (by omega)
    have hf : Nat.ble (0 + n) 0 = false := by
      cases hb : Nat.ble (0 + n) 0 with
      | false => rfl
      | true => have := Nat.le_of_ble_eq_true hb; omega
    have hrl : RL ((R.sub 0 (0 * es)).app r) S := by
      have := (RL.sub ⟨h1, h2⟩ 0 (0 * es)).app x3
      simpa using this
    refine ⟨.slu H.n 0 (0 + n) es, [.obj H.n (.cells ((R.sub 0 (0 * es)).app r) false false)], H.new (.cells ((R.sub 0 (0 * es)).app r) false false), by rw [Nat.zero_add]; exact .slu _ _ _ _ hrl x2 (by omega), x_new hs.tail _ false, fun {env z s x} g1 g2 K => ?_⟩
    simp only [xop, g1, g2, xapp, appSrc, x1, x4, hb0, hf, hro, gcell, h3, hl', cond_true, cond_false, anew_eq, fN_eq]
theorem x_bsl (hs : Sat H Z l) (r : Rp AV) : ∃ b H', Sat H' Z (.obj b (.cells r false false) :: l) ∧ ∀ {env : Env} {n : Nat} {z : Rp AV} {parts : List (Nat × Nat × Od)} (hf : ∀ K : Rp AV → Bool, fillIn env z parts K = K r) (K : AV → AH → Bool), xop (.bsl n z parts) env H K = K (.slc b 0 n n) H' :=
  ⟨_, _, x_new hs r false, fun {env n z parts} hf K => by simp only [xop, hf, alc, anew_eq]⟩
/-- a text put into a copy -/
theorem ins_u {v : AV} {n i vb : Nat} {L : List AV} {x : AV} {hl : List Hl} {V : Rp AV} (hs : Sat H Z (hl ++ (.obj vb (.cells V false false) :: l))) (hV : RL V [x]) (ho : OwnU 1 v n L hl) (hi : i ≤ n) (hn : n ≤ 1000000000) :
    ∃ v' hl' H', Own 1 v' (n + 1) (L.take i ++ x :: L.drop i) hl' ∧ Sat H' Z (hl' ++ (.obj vb (.cells V false false) :: l)) ∧ ∀ k : AV → AH → Bool, insOn [v, .int .i64 (.ofNat i), .slc vb 0 1 1] H k = k v' H' := by
  have hLn : L.length = n := by
    cases ho with
    | nil => rfl
    | emp b => rfl
    | slu b n R L hR h hn => simpa using h
  have hvb : H.get vb = some (.cells V false false) := hs.on (.obj vb (.cells V false false)) (by simp)
  have hend : endOf v = some n := by cases ho <;> rfl
  by_cases hin : i = n
  · subst hin
    obtain ⟨hl0, o0, c0⟩ := ho.own
    have hsrc : Src H 1 (.slc vb 0 1 1) 1 [x] := by
      have h1 : Nat.ble (0 + 1 * 1) V.len = true := Nat.ble_eq_true_of_le (by rw [hV.len]; simp)
      refine ⟨fun K => by simp only [srcLen], rfl, V.sub 0 (1 * 1), ?_, fun K => by simp only [srcCells, gcell, hvb, h1, cond_true]⟩
      have := hV.sub 0 (1 * 1)
      simpa using this
    obtain ⟨v', hl', H', h1, h2, h3⟩ := s_own (bytes := 16) (c0 hs) o0 hsrc (by omega) (by omega)
    refine ⟨v', hl', H', ?_, h2, fun k => ?_⟩
    · rw [List.take_of_length_le (by omega), List.drop_of_length_le (by omega)]
      exact h1
    · have h4 := h3 (env := [v, .slc vb 0 1 1]) (z := .one (.str [])) (s := .tmp 0) (x := .tmp 1) rfl rfl k
      simp only [insOn, hend, Nat.beq_refl, cond_true, show Nat.ble 1 1 = true from rfl]
      exact h4
  · have hlt : i < n := by omega
    have hbf : Nat.beq i n = false := by
      cases h : Nat.beq i n with
      | false => rfl
      | true => exact absurd (Nat.eq_of_beq_eq_true h) hin
    cases ho with
    | nil => omega
    | emp b => omega
    | slu b n R L hR h hn0 =>
      have hb : H.get b = some (.cells R false false) := hs.getAt 0 rfl
      have hne : Nat.beq vb b = false := by
        cases h : Nat.beq vb b with
        | false => rfl
        | true =>
          have e := Nat.eq_of_beq_eq_true h
          have := hs.nd
          simp [Hl.id] at this
          exact absurd e.symm this.1.1
      have a1 : Nat.ble (Nat.succ i) n = true := Nat.ble_eq_true_of_le (by omega)
      have a2 : Nat.ble (0 + n) R.len = true := Nat.ble_eq_true_of_le (by rw [hR.len]; omega)
      have a3 : Nat.ble (0 + 1) V.len = true := Nat.ble_eq_true_of_le (by rw [hV.len]; simp)
      have a4 : Nat.ble ((2 * (n + 1) + 200) * 16) 140737488355328 = true := Nat.ble_eq_true_of_le (by omega)
      have hrl : RL ((R.sub 0 i).app ((V.sub 0 1).app (R.sub (0 + i) (n - i)))) (L.take i ++ x :: L.drop i) := by
        have h1 := (hR.sub 0 i).app ((hV.sub 0 1).app (hR.sub (0 + i) (n - i)))
        rw [Nat.zero_add, List.drop_zero, List.drop_zero, List.take_of_length_le (l := List.drop i L) (by simp; omega)] at h1
        rw [Nat.zero_add]
        exact h1
      have hk : Sat (H.kill b) Z (.obj vb (.cells V false false) :: l) := Sat.kill (x := .obj b (.cells R false false)) hs
      refine ⟨.slu (H.kill b).n 0 (n + 1) 1, [.cells (H.kill b).n (L.take i ++ x :: L.drop i)], (H.kill b).new (.cells ((R.sub 0 i).app ((V.sub 0 1).app (R.sub (0 + i) (n - i)))) false false), .slu _ _ _ (by simp; omega), s_new hk hrl false, fun k => ?_⟩
      simp only [insOn, endOf, hbf, cond_false, insIn, Nat.beq_refl, cond_true, a1, show Nat.ble 1 1 = true from rfl, gcell, hb, hvb, hne, a2, a3, a4, anew_eq]
theorem sum_ins {tbl : Nat → Option FT} {N d g : Nat} (hd : 1 ≤ d) (hf : tbl g = some (.sum insOn)) {args : List AV} {H H' : AH} {v : AV} (h : ∀ k : AV → AH → Bool, insOn args H k = k v H') : DoesV (RUN tbl N d) (.fn (.fn (.func g)) [] []) args H v H' := fun k => by
  obtain ⟨d, rfl⟩ : ∃ e, d = e + 1 := ⟨d - 1, by omega⟩
  show callF tbl (RUN tbl N d) N g ([] ++ args ++ []) H k = _
  unfold callF
  rw [hf, List.nil_append, List.append_nil]
  exact h k
/-- windows of a frozen slice, told by one place -/
theorem fl_hi {v : AV} {es : Nat} {xs : List (List AV)} (hes : 0 < es) (h : Fl Z es v xs) (j : Nat) (hj : j ≤ xs.length) :
    ∃ v', Fl Z es v' (win xs 0 j) ∧ ∀ {env : Env} {H : AH} {l : List Hl} {x a : Od}, Sat H Z l → ev env x = v → ev env a = .int .i64 (.ofNat j) → ∀ K : AV → AH → Bool, xop (.sll es x none (some a) none) env H K = K v' H := by
  have hc : ∀ {env : Env} {a : Od} {len cap : Nat}, ev env a = .int .i64 (.ofNat j) → j ≤ cap → ∀ K : Nat → Nat → Nat → Bool, cut3 env len cap none (some a) none K = K 0 j cap := by
    intro env a len cap ha hcap K
    simp only [cut3, isOd, ha, fN_eq, Nat.ble_eq_true_of_le (Nat.le_refl _), Nat.ble_eq_true_of_le hcap, Nat.ble_eq_true_of_le (Nat.zero_le _), cond_true]
  have hw : ∀ {L : List AV} {o : Nat}, (∀ i x, xs[i]? = some x → x.length = es ∧ ∀ j v, x[j]? = some v → L[o + i * es + j]? = some v) → ∀ q x, (win xs 0 j)[q]? = some x → x.length = es ∧ ∀ m v, x[m]? = some v → L[o + q * es + m]? = some v := by
    intro L o hx q x hq
    have hql : q < j := by have := (List.getElem?_eq_some_iff.1 hq).1; rw [win_len (by omega) hj] at this; omega
    rw [win_get hj (by omega), Nat.zero_add] at hq
    exact hx q x hq
  have hlen : (win xs 0 j).length = j := by rw [win_len (by omega) hj]; omega
  have hmul : j * es ≤ xs.length * es := Nat.mul_le_mul_right _ hj
  cases h with
  | nil =>
    obtain rfl : j = 0 := by simpa using hj
    exact ⟨.nils, .nil, fun _ hx ha K => by simp only [xop, hx, hc ha (Nat.le_refl _)]⟩
  | slz b o e =>
    obtain rfl : j = 0 := by simpa using hj
    exact ⟨.slz b o e, .slz b o e, fun _ hx ha K => by simp only [xop, hx, hc ha (Nat.le_refl _)]⟩
  | slc b o c L xs hc' hz ho hx =>
    refine ⟨.slc b (cond (Nat.beq c 0) o (o + 0 * es)) (j - 0) (c - 0), ?_, fun _ hx' ha K => by simp only [xop, hx', hc ha (show j ≤ c by omega), fN_eq]⟩
    have e : cond (Nat.beq c 0) o (o + 0 * es) = o := by cases Nat.beq c 0 <;> simp
    rw [e, Nat.sub_zero, Nat.sub_zero]
    have := Fl.slc (Z := Z) (es := es) b o c L (win xs 0 j) (by omega) hz (by rw [hlen]; omega) (hw hx)
    rwa [hlen] at this
  | slu b o L xs hz ho hx =>
    by_cases hx0 : xs.length = 0
    · obtain rfl : j = 0 := by omega
      have hxs : xs = [] := List.eq_nil_of_length_eq_zero hx0
      subst hxs
      -- the room behind may be nothing
      by_cases hroom : (L.length - o) / es = 0
      · refine ⟨.slz b (o + 0 * es) es, .slz _ _ _, fun hs hx' ha K => ?_⟩
        obtain ⟨⟨R, st, ro, h1, h2, h3, _⟩, _⟩ := hs.fz b L hz
        have e : (R.len - o) / es = 0 := by rw [Rp.len_eq R h1, h2]; exact hroom
        simp only [xop, hx', Nat.beq_refl, cond_true, gcell, h3, e, hc ha (Nat.le_refl _), fN_eq, List.length_nil]
      · refine ⟨.slu b (o + 0 * es) (0 - 0) es, ?_, fun hs hx' ha K => ?_⟩
        · rw [Nat.zero_mul, Nat.add_zero]
          exact .slu b o L [] hz (by simpa using ho) (fun i x h => by simp at h)
        · obtain ⟨⟨R, st, ro, h1, h2, h3, _⟩, _⟩ := hs.fz b L hz
          have e : (R.len - o) / es = (L.length - o) / es := by rw [Rp.len_eq R h1, h2]
          have hb0 : Nat.beq ((L.length - o) / es) 0 = false := by
            cases h : Nat.beq ((L.length - o) / es) 0 with
            | false => rfl
            | true => exact absurd (Nat.eq_of_beq_eq_true h) hroom
          simp only [xop, hx', Nat.beq_refl, cond_true, gcell, h3, e, hc ha (Nat.zero_le _), fN_eq, hb0, cond_false, List.length_nil]
    · refine ⟨.slu b (o + 0 * es) (j - 0) es, ?_, fun hs hx' ha K => ?_⟩
      · rw [Nat.zero_mul, Nat.add_zero, Nat.sub_zero]
        have := Fl.slu (Z := Z) (es := es) b o L (win xs 0 j) hz (by rw [hlen]; omega) (hw hx)
        rwa [hlen] at this
      · obtain ⟨⟨R, st, ro, h1, h2, h3, _⟩, _⟩ := hs.fz b L hz
        have hle : xs.length ≤ (R.len - o) / es := by
          rw [Rp.len_eq R h1, h2]
          exact (Nat.le_div_iff_mul_le hes).2 (by omega)
        have hb0 : Nat.beq ((R.len - o) / es) 0 = false := by
          cases h : Nat.beq ((R.len - o) / es) 0 with
          | false => rfl
          | true => have := Nat.eq_of_beq_eq_true h; omega
        simp only [xop, hx', Nat.beq_refl, cond_true, gcell, h3, hc ha (show j ≤ (R.len - o) / es by omega), fN_eq, hb0, cond_false]
theorem fl_lo {v : AV} {es : Nat} {xs : List (List AV)} (hes : 0 < es) (h : Fl Z es v xs) (i : Nat) (hi : i ≤ xs.length) :
    ∃ v', Fl Z es v' (win xs i xs.length) ∧ ∀ {env : Env} {H : AH} {l : List Hl} {x a : Od}, Sat H Z l → ev env x = v → ev env a = .int .i64 (.ofNat i) → ∀ K : AV → AH → Bool, xop (.sll es x (some a) none none) env H K = K v' H := by
  have hc : ∀ {env : Env} {a : Od} {len cap : Nat}, ev env a = .int .i64 (.ofNat i) → i ≤ len → len ≤ cap → ∀ K : Nat → Nat → Nat → Bool, cut3 env len cap (some a) none none K = K i len cap := by
    intro env a len cap ha h1 h2 K
    simp only [cut3, isOd, ha, fN_eq, Nat.ble_eq_true_of_le (Nat.le_refl _), Nat.ble_eq_true_of_le h1, Nat.ble_eq_true_of_le h2, cond_true]
  have hw : ∀ {L : List AV} {o : Nat}, (∀ i x, xs[i]? = some x → x.length = es ∧ ∀ j v, x[j]? = some v → L[o + i * es + j]? = some v) → ∀ q x, (win xs i xs.length)[q]? = some x → x.length = es ∧ ∀ m v, x[m]? = some v → L[(o + i * es) + q * es + m]? = some v := by
    intro L o hx q x hq
    have hql : q < xs.length - i := by have := (List.getElem?_eq_some_iff.1 hq).1; rw [win_len hi (Nat.le_refl _)] at this; omega
    rw [win_get (Nat.le_refl _) hql] at hq
    have := hx (i + q) x hq
    rw [Nat.add_mul] at this
    exact ⟨this.1, fun m v hm => by have := this.2 m v hm; rwa [← Nat.add_assoc] at this⟩
  have hlen : (win xs i xs.length).length = xs.length - i := win_len hi (Nat.le_refl _)
  have hij2 : i * es + (xs.length - i) * es = xs.length * es := by rw [← Nat.add_mul]; congr 1; omega
  have nilw : ∀ {Z : Fz} {b o : Nat} {L : List AV}, xs.length - i = 0 → win xs i xs.length = [] := fun h => List.eq_nil_of_length_eq_zero (by omega)
  cases h with
  | nil =>
    obtain rfl : i = 0 := by simpa using hi
    exact ⟨.nils, .nil, fun _ hx ha K => by simp only [xop, hx, hc ha (Nat.le_refl _) (Nat.le_refl _)]⟩
  | slz b o e =>
    obtain rfl : i = 0 := by simpa using hi
    exact ⟨.slz b o e, .slz b o e, fun _ hx ha K => by simp only [xop, hx, hc ha (Nat.le_refl _) (Nat.le_refl _)]⟩
  | slc b o c L xs hc' hz ho hx =>
    by_cases e0 : c = i
    · have hn0 : xs.length - i = 0 := by omega
      refine ⟨.slc b o (xs.length - i) (c - i), ?_, fun _ hx' ha K => ?_⟩
      · rw [nilw (Z := Z) (b := b) (o := o) (L := L) hn0, hn0]
        exact .slc b o _ L [] (Nat.zero_le _) hz (by simp; omega) (fun i x h => by simp at h)
      · simp only [xop, hx']
        rw [hc ha hi hc']
        simp only [fN_eq, e0, Nat.beq_refl, cond_true]
    · refine ⟨.slc b (o + i * es) (xs.length - i) (c - i), ?_, fun _ hx' ha K => ?_⟩
      · have := Fl.slc (Z := Z) (es := es) b (o + i * es) (c - i) L (win xs i xs.length) (by omega) hz (by rw [hlen]; omega) (hw hx)
        rwa [hlen] at this
      · have hb0 : Nat.beq c i = false := by
          cases h : Nat.beq c i with
          | false => rfl
          | true => exact absurd (Nat.eq_of_beq_eq_true h) e0
        simp only [xop, hx', hc ha hi hc', fN_eq, hb0, cond_false]
  | slu b o L xs hz ho hx =>
    have hroom : ∀ {R : Rp AV}, R.ok → R.toL = L → xs.length ≤ (R.len - o) / es := by
      intro R h1 h2
      rw [Rp.len_eq R h1, h2]
      exact (Nat.le_div_iff_mul_le hes).2 (by omega)
    by_cases e0 : (L.length - o) / es = i
    · have hn0 : xs.length - i = 0 := by
        have : xs.length ≤ (L.length - o) / es := (Nat.le_div_iff_mul_le hes).2 (by omega)
        omega
      refine ⟨.slz b (o + i * es) es, by rw [nilw (Z := Z) (b := b) (o := o) (L := L) hn0]; exact .slz _ _ _, fun hs hx' ha K => ?_⟩
      obtain ⟨⟨R, st, ro, h1, h2, h3, _⟩, _⟩ := hs.fz b L hz
      have e : (R.len - o) / es = i := by rw [Rp.len_eq R h1, h2]; exact e0
      have := hroom h1 h2
      simp only [xop, hx', Nat.beq_refl, cond_true, gcell, h3]
      rw [hc ha hi this]
      simp only [fN_eq, e, Nat.beq_refl, cond_true]
    · refine ⟨.slu b (o + i * es) (xs.length - i) es, ?_, fun hs hx' ha K => ?_⟩
      · have := Fl.slu (Z := Z) (es := es) b (o + i * es) L (win xs i xs.length) hz (by rw [hlen]; omega) (hw hx)
        rwa [hlen] at this
      · obtain ⟨⟨R, st, ro, h1, h2, h3, _⟩, _⟩ := hs.fz b L hz
        have := hroom h1 h2
        have hb0 : Nat.beq ((R.len - o) / es) i = false := by
          cases h : Nat.beq ((R.len - o) / es) i with
          | false => rfl
          | true => have := Nat.eq_of_beq_eq_true h; rw [Rp.len_eq R h1, h2] at this; exact absurd this e0
        simp only [xop, hx', Nat.beq_refl, cond_true, gcell, h3, hc ha hi this, fN_eq, hb0, cond_false]
theorem own_set1 {v x : AV} {n i b : Nat} {L : List AV} {hl : List Hl} (hs : Sat H Z (hl ++ l)) (e : hl = [.cells b L]) (hb : i * 1 + 1 ≤ L.length) (hO : ∀ L', L'.length = L.length → Own 1 v n L' [.cells b L']) (hx : x.sc = true) :
    ∃ hl' H', Own 1 v n (L.set i x) hl' ∧ Sat H' Z (hl' ++ l) ∧ ∀ {env : Env} {a y : Od} (ha : ev env a = .ptr b (i * 1)) (hy : ev env y = x) (K : AV → AH → Bool), xop (.st 1 a y) env H K = K .undef H' := by
  subst e
  obtain ⟨H', h1, h2⟩ := s_st (b := b) (L := L) (l := l) hs (i * 1) x (by omega) hx
  rw [Nat.mul_one] at h1
  exact ⟨_, H', hO (L.set i x) (by simp), h1, h2⟩
end
/-! ### rows of texts as cells -/
theorem txC_map (ks : List (List Nat)) : txC ks = ks.map AV.str := by
  unfold txC strs
  induction ks with
  | nil => rfl
  | cons k ks ih => simp only [List.map_cons, List.flatten_cons, ih]; rfl
theorem txC_set (vs : List (List Nat)) (i : Nat) (v : List Nat) : txC (vs.set i v) = (txC vs).set i (.str v) := by rw [txC_map, txC_map, List.map_set]
theorem txC_ins (ks : List (List Nat)) (i : Nat) (k : List Nat) : txC (ks.take i ++ k :: ks.drop i) = (txC ks).take i ++ .str k :: (txC ks).drop i := by
  rw [txC_map, txC_map, List.map_append, List.map_cons, List.map_take, List.map_drop]
theorem win_hi {α : Type} (l : List α) (i : Nat) : win l 0 i = l.take i := by unfold win; rw [List.drop_zero, Nat.sub_zero]
theorem win_lo {α : Type} (l : List α) (i : Nat) : win l i l.length = l.drop i := by unfold win; rw [List.take_of_length_le (by simp)]
/-- where a key would stand -/
theorem srch_eq {ks : List (List Nat)} {s : List Nat} {i j : Nat} (hk : KeysOk ks) (hi : i < ks.length) (he : txt ks i = s) (hj : j ≤ ks.length) (hlo : ∀ q, q < j → slt (txt ks q) s = true) (hhi : ∀ q, j ≤ q → q < ks.length → slt (txt ks q) s = false) : j = i := by
  have hup : ∀ a b, a < b → b < ks.length → slt (txt ks a) (txt ks b) = true := by
    intro a b hab hb
    have h := List.pairwise_iff_getElem.1 (keys_iff.1 hk).2 a b (by omega) hb hab
    have ha : a < ks.length := by omega
    simpa [txt, ha, hb] using h
  have h1 : ¬ i < j := fun h => by have := hlo i h; rw [he, slt_irr] at this; cases this
  have h2 : ¬ j < i := fun h => by have h3 := hup j i h hi; rw [he, hhi j (Nat.le_refl _) (by omega)] at h3; cases h3
  omega
theorem srch_mono {ks : List (List Nat)} {s : List Nat} (hk : KeysOk ks) (i j : Nat) (hij : i ≤ j) (hj : j < ks.length) (h : (!slt (txt ks i) s) = true) : (!slt (txt ks j) s) = true := by
  have hup : ∀ a b, a < b → b < ks.length → slt (txt ks a) (txt ks b) = true := by
    intro a b hab hb
    have h := List.pairwise_iff_getElem.1 (keys_iff.1 hk).2 a b (by omega) hb hab
    have ha : a < ks.length := by omega
    simpa [txt, ha, hb] using h
  rw [Bool.not_eq_true'] at h ⊢
  rcases Nat.lt_or_eq_of_le hij with h1 | rfl
  · cases h2 : slt (txt ks j) s with
    | false => rfl
    | true => rw [slt_trans (hup i j h1 hj) h2] at h; cases h
  · exact h
theorem first_ix {ks : List (List Nat)} {s : List Nat} (h : ∃ i, i < ks.length ∧ txt ks i = s) : ∃ i, i < ks.length ∧ txt ks i = s ∧ ∀ j, j < i → ¬ txt ks j = s := by
  obtain ⟨i, hi, e⟩ := h
  induction i using Nat.strongRecOn with
  | ind i ih =>
    by_cases hx : ∃ j, j < i ∧ txt ks j = s
    · obtain ⟨j, hj, e2⟩ := hx
      exact ih j hj (by omega) e2
    · exact ⟨i, hi, e, fun j hj e2 => hx ⟨j, hj, e2⟩⟩
end
end Go.Jt
