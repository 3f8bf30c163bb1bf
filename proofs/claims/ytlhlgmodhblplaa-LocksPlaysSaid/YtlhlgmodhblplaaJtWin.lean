/-
  Windows of rows and of frozen slices.
-/
import Derived.Test.YtlhlgmodhblplaaJtOwn
set_option autoImplicit false
set_option linter.all false
set_option maxHeartbeats 2000000
namespace Go.Jt
noncomputable section
variable [Gl]
/-- a window of a row -/
def win {α : Type} (l : List α) (i j : Nat) : List α := (l.drop i).take (j - i)
section
variable {α : Type} {l : List α} {i j : Nat}
theorem win_len (hij : i ≤ j) (hj : j ≤ l.length) : (win l i j).length = j - i := by simp [win]; omega
theorem win_le : (win l i j).length ≤ l.length := by simp [win]; omega
theorem win_get (hj : j ≤ l.length) {q : Nat} (hq : q < j - i) : (win l i j)[q]? = l[i + q]? := by
  unfold win
  rw [List.getElem?_take_of_lt hq, List.getElem?_drop]
theorem win_split (l : List α) (i : Nat) (hi : i ≤ l.length) : win l 0 i ++ win l i l.length = l := by
  unfold win
  rw [List.drop_zero, Nat.sub_zero, List.take_of_length_le (l := l.drop i) (by simp)]
  exact List.take_append_drop i l
theorem win_three (l : List α) (i j : Nat) (hij : i ≤ j) (hj : j ≤ l.length) : l = win l 0 i ++ (win l i j ++ win l j l.length) := by
  have h1 := (win_split l i (by omega)).symm
  have h2 : win l i l.length = win l i j ++ win l j l.length := by
    unfold win
    have e : l.drop j = (l.drop i).drop (j - i) := by rw [List.drop_drop]; congr 1; omega
    rw [List.take_of_length_le (l := l.drop i) (by simp), List.take_of_length_le (l := l.drop j) (by simp), e, List.take_append_drop]
  rw [← h2]
  exact h1
theorem win_mem {x : α} (h : x ∈ win l i j) : x ∈ l := List.mem_of_mem_drop (List.mem_of_mem_take h)
end
section
variable {H : AH} {Z : Fz} {l : List Hl} {env : Env}
theorem cut3_at {len cap i j m : Nat} {a b c : Od} (ha : ev env a = .int .i64 (.ofNat i)) (hb : ev env b = .int .i64 (.ofNat j)) (hc : ev env c = .int .i64 (.ofNat m)) (h1 : i ≤ j) (h2 : j ≤ m) (h3 : m ≤ cap) (K : Nat → Nat → Nat → Bool) : cut3 env len cap (some a) (some b) (some c) K = K i j m := by
  simp only [cut3, isOd, ha, hb, hc, fN_eq, Nat.ble_eq_true_of_le h1, Nat.ble_eq_true_of_le h2, Nat.ble_eq_true_of_le h3, cond_true]
/-- a window of a frozen slice -/
theorem fl_sll {v : AV} {es : Nat} {xs : List (List AV)} (h : Fl Z es v xs) (i j : Nat) (hij : i ≤ j) (hj : j ≤ xs.length) :
    ∃ v', Fl Z es v' ((xs.drop i).take (j - i)) ∧ ∀ {env : Env} {H : AH} {x a b c : Od}, ev env x = v → ev env a = .int .i64 (.ofNat i) → ev env b = .int .i64 (.ofNat j) → ev env c = .int .i64 (.ofNat j) → ∀ K : AV → AH → Bool, xop (.sll es x (some a) (some b) (some c)) env H K = K v' H := by
  have hlen : ((xs.drop i).take (j - i)).length = j - i := by simp; omega
  have hget : ∀ {L : List AV} {o : Nat}, (∀ i x, xs[i]? = some x → x.length = es ∧ ∀ j v, x[j]? = some v → L[o + i * es + j]? = some v) → ∀ q x, ((xs.drop i).take (j - i))[q]? = some x → x.length = es ∧ ∀ m v, x[m]? = some v → L[o + i * es + q * es + m]? = some v := by
    intro L o hx q x hq
    have hql : q < j - i := by have := (List.getElem?_eq_some_iff.1 hq).1; omega
    rw [List.getElem?_take_of_lt hql, List.getElem?_drop] at hq
    have := hx (i + q) x hq
    rw [Nat.add_mul] at this
    exact ⟨this.1, fun m v hm => by have := this.2 m v hm; rwa [← Nat.add_assoc] at this⟩
  have hmul : j * es ≤ xs.length * es := Nat.mul_le_mul_right _ hj
  have hij2 : i * es + (j - i) * es = j * es := by rw [← Nat.add_mul]; congr 1; omega
  cases h with
  | nil =>
    have : i = 0 ∧ j = 0 := by simp at hj; omega
    obtain ⟨rfl, rfl⟩ := this
    refine ⟨.nils, .nil, fun hx ha hb hc K => ?_⟩
    simp only [xop, hx, cut3_at ha hb hc (Nat.le_refl _) (Nat.le_refl _) (Nat.le_refl _)]
  | slz b o e =>
    have : i = 0 ∧ j = 0 := by simp at hj; omega
    obtain ⟨rfl, rfl⟩ := this
    refine ⟨.slz b o e, .slz b o e, fun hx ha hb hc K => ?_⟩
    simp only [xop, hx, cut3_at ha hb hc (Nat.le_refl _) (Nat.le_refl _) (Nat.le_refl _)]
  | slc b o c L xs hc hz ho hx =>
    by_cases e0 : j = i
    · refine ⟨.slc b o (j - i) (j - i), ?_, fun hx ha hb hc' K => ?_⟩
      · have e : (xs.drop i).take (j - i) = [] := by rw [e0, Nat.sub_self]; simp
        rw [e]
        have : j - i = 0 := by omega
        rw [this]
        exact .slc b o 0 L [] (Nat.le_refl _) hz (by simp; omega) (fun i x h => by simp at h)
      · simp only [xop, hx, cut3_at ha hb hc' hij (Nat.le_refl _) (show j ≤ c by omega), fN_eq, e0, Nat.beq_refl, cond_true]
    · refine ⟨.slc b (o + i * es) (j - i) (j - i), ?_, fun hx' ha hb hc' K => ?_⟩
      · have := Fl.slc (Z := Z) (es := es) b (o + i * es) (j - i) L ((xs.drop i).take (j - i)) (by omega) hz (by rw [hlen]; omega) (hget hx)
        rwa [hlen] at this
      · have hb0 : Nat.beq j i = false := by
          cases hb : Nat.beq j i with
          | false => rfl
          | true => exact absurd (Nat.eq_of_beq_eq_true hb) e0
        simp only [xop, hx', cut3_at ha hb hc' hij (Nat.le_refl _) (show j ≤ c by omega), fN_eq, hb0, cond_false]
  | slu b o L xs hz ho hx =>
    by_cases e0 : j = i
    · refine ⟨.slc b o (j - i) (j - i), ?_, fun hx ha hb hc' K => ?_⟩
      · have e : (xs.drop i).take (j - i) = [] := by rw [e0, Nat.sub_self]; simp
        rw [e]
        have : j - i = 0 := by omega
        rw [this]
        exact .slc b o 0 L [] (Nat.le_refl _) hz (by simp; omega) (fun i x h => by simp at h)
      · simp only [xop, hx, Nat.beq_refl, cond_true, cut3_at ha hb hc' hij (Nat.le_refl _) hj, fN_eq, e0]
    · refine ⟨.slc b (o + i * es) (j - i) (j - i), ?_, fun hx' ha hb hc' K => ?_⟩
      · have := Fl.slc (Z := Z) (es := es) b (o + i * es) (j - i) L ((xs.drop i).take (j - i)) (by omega) hz (by rw [hlen]; omega) (hget hx)
        rwa [hlen] at this
      · have hb0 : Nat.beq j i = false := by
          cases hb : Nat.beq j i with
          | false => rfl
          | true => exact absurd (Nat.eq_of_beq_eq_true hb) e0
        simp only [xop, hx', Nat.beq_refl, cond_true, cut3_at ha hb hc' hij (Nat.le_refl _) hj, fN_eq, hb0, cond_false]
/-- windows of a frozen slice, told by one place -/
theorem fl_hi {v : AV} {es : Nat} {xs : List (List AV)} (hes : 0 < es) (h : Fl Z es v xs) (j : Nat) (hj : j ≤ xs.length) :
    ∃ v', Fl Z es v' (win xs 0 j) ∧ ∀ {env : Env} {H : AH} {l : List Hl} {x a : Od}, Sat H Z l → ev env x = v → ev env a = .int .i64 (.ofNat j) → ∀ K : AV → AH → Bool, xop (.sll es x none (some a) none) env H K = K v' H := by
  have hc : ∀ {env : Env} {a : Od} {len cap : Nat}, ev env a = .int .i64 (.ofNat j) → j ≤ cap → ∀ K : Nat → Nat → Nat → Bool, cut3 env len cap none (some a) none K = K 0 j cap := by
    intro env a len cap ha hcap K
    simp only [cut3, isOd, ha, fN_eq, Nat.ble_eq_true_of_le (Nat.le_refl _), Nat.ble_eq_true_of_le hcap, Nat.ble_eq_true_of_le (Nat.zero_le _), cond_true]
  have hw : ∀ {L : List AV} {o : Nat}, (∀ i x, xs[i]? = some x → x.length = es ∧ ∀ j v, x[j]? = some v → L[o + i * es + j]? = some v) → ∀ q x, (win xs 0 j)[q]? = some x → x.length = es ∧ ∀ m v, x[m]? = some v → L[o + q * es + m]? = some v := by
    intro L o hx q x hq
    have hql : q < j := by have := (List.getElem?_eq_some_iff.1 hq).1; rw [win_len (by omega) hj] at this; omega
    rw [win_get hj (by omega), Nat.zero_add] at hq
    exact hx q x hq
  have hlen : (win xs 0 j).length = j := by rw [win_len (by omega) hj]; omega
  have hmul : j * es ≤ xs.length * es := Nat.mul_le_mul_right _ hj
  cases h with
  | nil =>
    obtain rfl : j = 0 := by simpa using hj
    exact ⟨.nils, .nil, fun _ hx ha K => by simp only [xop, hx, hc ha (Nat.le_refl _)]⟩
  | slz b o e =>
    obtain rfl : j = 0 := by simpa using hj
    exact ⟨.slz b o e, .slz b o e, fun _ hx ha K => by simp only [xop, hx, hc ha (Nat.le_refl _)]⟩
  | slc b o c L xs hc' hz ho hx =>
    refine ⟨.slc b (cond (Nat.beq c 0) o (o + 0 * es)) (j - 0) (c - 0), ?_, fun _ hx' ha K => by simp only [xop, hx', hc ha (show j ≤ c by omega), fN_eq]⟩
    have e : cond (Nat.beq c 0) o (o + 0 * es) = o := by cases Nat.beq c 0 <;> simp
    rw [e, Nat.sub_zero, Nat.sub_zero]
    have := Fl.slc (Z := Z) (es := es) b o c L (win xs 0 j) (by omega) hz (by rw [hlen]; omega) (hw hx)
    rwa [hlen] at this
  | slu b o L xs hz ho hx =>
    by_cases hx0 : xs.length = 0
    · obtain rfl : j = 0 := by omega
      have hxs : xs = [] := List.eq_nil_of_length_eq_zero hx0
      subst hxs
      -- the room behind may be nothing
      by_cases hroom : (L.length - o) / es = 0
      · refine ⟨.slz b (o + 0 * es) es, .slz _ _ _, fun hs hx' ha K => ?_⟩
        obtain ⟨⟨R, st, ro, h1, h2, h3, _⟩, _⟩ := hs.fz b L hz
        have e : (R.len - o) / es = 0 := by rw [Rp.len_eq R h1, h2]; exact hroom
        simp only [xop, hx', Nat.beq_refl, cond_true, gcell, h3, e, hc ha (Nat.le_refl _), fN_eq, List.length_nil]
      · refine ⟨.slu b (o + 0 * es) (0 - 0) es, ?_, fun hs hx' ha K => ?_⟩
        · rw [Nat.zero_mul, Nat.add_zero]
          exact .slu b o L [] hz (by simpa using ho) (fun i x h => by simp at h)
        · obtain ⟨⟨R, st, ro, h1, h2, h3, _⟩, _⟩ := hs.fz b L hz
          have e : (R.len - o) / es = (L.length - o) / es := by rw [Rp.len_eq R h1, h2]
          have hb0 : Nat.beq ((L.length - o) / es) 0 = false := by
            cases h : Nat.beq ((L.length - o) / es) 0 with
            | false => rfl
            | true => exact absurd (Nat.eq_of_beq_eq_true h) hroom
          simp only [xop, hx', Nat.beq_refl, cond_true, gcell, h3, e, hc ha (Nat.zero_le _), fN_eq, hb0, cond_false, List.length_nil]
    · refine ⟨.slu b (o + 0 * es) (j - 0) es, ?_, fun hs hx' ha K => ?_⟩
      · rw [Nat.zero_mul, Nat.add_zero, Nat.sub_zero]
        have := Fl.slu (Z := Z) (es := es) b o L (win xs 0 j) hz (by rw [hlen]; omega) (hw hx)
        rwa [hlen] at this
      · obtain ⟨⟨R, st, ro, h1, h2, h3, _⟩, _⟩ := hs.fz b L hz
        have hle : xs.length ≤ (R.len - o) / es := by
          rw [Rp.len_eq R h1, h2]
          exact (Nat.le_div_iff_mul_le hes).2 (by omega)
        have hb0 : Nat.beq ((R.len - o) / es) 0 = false := by
          cases h : Nat.beq ((R.len - o) / es) 0 with
          | false => rfl
          | true => have := Nat.eq_of_beq_eq_true h; omega
        simp only [xop, hx', Nat.beq_refl, cond_true, gcell, h3, hc ha (show j ≤ (R.len - o) / es by omega), fN_eq, hb0, cond_false]
theorem fl_lo {v : AV} {es : Nat} {xs : List (List AV)} (hes : 0 < es) (h : Fl Z es v xs) (i : Nat) (hi : i ≤ xs.length) :
    ∃ v', Fl Z es v' (win xs i xs.length) ∧ ∀ {env : Env} {H : AH} {l : List Hl} {x a : Od}, Sat H Z l → ev env x = v → ev env a = .int .i64 (.ofNat i) → ∀ K : AV → AH → Bool, xop (.sll es x (some a) none none) env H K = K v' H := by
  have hc : ∀ {env : Env} {a : Od} {len cap : Nat}, ev env a = .int .i64 (.ofNat i) → i ≤ len → len ≤ cap → ∀ K : Nat → Nat → Nat → Bool, cut3 env len cap (some a) none none K = K i len cap := by
    intro env a len cap ha h1 h2 K
    simp only [cut3, isOd, ha, fN_eq, Nat.ble_eq_true_of_le (Nat.le_refl _), Nat.ble_eq_true_of_le h1, Nat.ble_eq_true_of_le h2, cond_true]
  have hw : ∀ {L : List AV} {o : Nat}, (∀ i x, xs[i]? = some x → x.length = es ∧ ∀ j v, x[j]? = some v → L[o + i * es + j]? = some v) → ∀ q x, (win xs i xs.length)[q]? = some x → x.length = es ∧ ∀ m v, x[m]? = some v → L[(o + i * es) + q * es + m]? = some v := by
    intro L o hx q x hq
    have hql : q < xs.length - i := by have := (List.getElem?_eq_some_iff.1 hq).1; rw [win_len hi (Nat.le_refl _)] at this; omega
    rw [win_get (Nat.le_refl _) hql] at hq
    have := hx (i + q) x hq
    rw [Nat.add_mul] at this
    exact ⟨this.1, fun m v hm => by have := this.2 m v hm; rwa [← Nat.add_assoc] at this⟩
  have hlen : (win xs i xs.length).length = xs.length - i := win_len hi (Nat.le_refl _)
  have hij2 : i * es + (xs.length - i) * es = xs.length * es := by rw [← Nat.add_mul]; congr 1; omega
  have nilw : ∀ {Z : Fz} {b o : Nat} {L : List AV}, xs.length - i = 0 → win xs i xs.length = [] := fun h => List.eq_nil_of_length_eq_zero (by omega)
  cases h with
  | nil =>
    obtain rfl : i = 0 := by simpa using hi
    exact ⟨.nils, .nil, fun _ hx ha K => by simp only [xop, hx, hc ha (Nat.le_refl _) (Nat.le_refl _)]⟩
  | slz b o e =>
    obtain rfl : i = 0 := by simpa using hi
    exact ⟨.slz b o e, .slz b o e, fun _ hx ha K => by simp only [xop, hx, hc ha (Nat.le_refl _) (Nat.le_refl _)]⟩
  | slc b o c L xs hc' hz ho hx =>
    by_cases e0 : c = i
    · have hn0 : xs.length - i = 0 := by omega
      refine ⟨.slc b o (xs.length - i) (c - i), ?_, fun _ hx' ha K => ?_⟩
      · rw [nilw (Z := Z) (b := b) (o := o) (L := L) hn0, hn0]
        exact .slc b o _ L [] (Nat.zero_le _) hz (by simp; omega) (fun i x h => by simp at h)
      · simp only [xop, hx']
        rw [hc ha hi hc']
        simp only [fN_eq, e0, Nat.beq_refl, cond_true]
    · refine ⟨.slc b (o + i * es) (xs.length - i) (c - i), ?_, fun _ hx' ha K => ?_⟩
      · have := Fl.slc (Z := Z) (es := es) b (o + i * es) (c - i) L (win xs i xs.length) (by omega) hz (by rw [hlen]; omega) (hw hx)
        rwa [hlen] at this
      · have hb0 : Nat.beq c i = false := by
          cases h : Nat.beq c i with
          | false => rfl
          | true => exact absurd (Nat.eq_of_beq_eq_true h) e0
        simp only [xop, hx', hc ha hi hc', fN_eq, hb0, cond_false]
  | slu b o L xs hz ho hx =>
    have hroom : ∀ {R : Rp AV}, R.ok → R.toL = L → xs.length ≤ (R.len - o) / es := by
      intro R h1 h2
      rw [Rp.len_eq R h1, h2]
      exact (Nat.le_div_iff_mul_le hes).2 (by omega)
    by_cases e0 : (L.length - o) / es = i
    · have hn0 : xs.length - i = 0 := by
        have : xs.length ≤ (L.length - o) / es := (Nat.le_div_iff_mul_le hes).2 (by omega)
        omega
      refine ⟨.slz b (o + i * es) es, by rw [nilw (Z := Z) (b := b) (o := o) (L := L) hn0]; exact .slz _ _ _, fun hs hx' ha K => ?_⟩
      obtain ⟨⟨R, st, ro, h1, h2, h3, _⟩, _⟩ := hs.fz b L hz
      have e : (R.len - o) / es = i := by rw [Rp.len_eq R h1, h2]; exact e0
      have := hroom h1 h2
      simp only [xop, hx', Nat.beq_refl, cond_true, gcell, h3]
      rw [hc ha hi this]
      simp only [fN_eq, e, Nat.beq_refl, cond_true]
    · refine ⟨.slu b (o + i * es) (xs.length - i) es, ?_, fun hs hx' ha K => ?_⟩
      · have := Fl.slu (Z := Z) (es := es) b (o + i * es) L (win xs i xs.length) hz (by rw [hlen]; omega) (hw hx)
        rwa [hlen] at this
      · obtain ⟨⟨R, st, ro, h1, h2, h3, _⟩, _⟩ := hs.fz b L hz
        have := hroom h1 h2
        have hb0 : Nat.beq ((R.len - o) / es) i = false := by
          cases h : Nat.beq ((R.len - o) / es) i with
          | false => rfl
          | true => have := Nat.eq_of_beq_eq_true h; rw [Rp.len_eq R h1, h2] at this; exact absurd this e0
        simp only [xop, hx', Nat.beq_refl, cond_true, gcell, h3, hc ha hi this, fN_eq, hb0, cond_false]
end
end
end Go.Jt
