/-
  Ropes (rows of cells with shared parts) and tries (maps from numbers), with the laws that the abstract heap uses. Plain data, no program in sight.
-/
set_option autoImplicit false
set_option linter.all false
namespace Go.Jt
noncomputable section

/-! ### ropes -/
inductive Rp (α : Type) where
  | nil
  | one (x : α)
  | rep (n : Nat) (x : α)
  | cat (n : Nat) (l r : Rp α)

namespace Rp
variable {α : Type}

def toL (r : Rp α) : List α := Rp.rec [] (fun x => [x]) (fun n x => List.replicate n x) (fun _ _ _ a b => a ++ b) r
@[simp] theorem toL_nil : (nil : Rp α).toL = [] := rfl
@[simp] theorem toL_one (x : α) : (one x).toL = [x] := rfl
@[simp] theorem toL_rep (n : Nat) (x : α) : (rep n x).toL = List.replicate n x := rfl
@[simp] theorem toL_cat (n : Nat) (l r : Rp α) : (cat n l r).toL = l.toL ++ r.toL := rfl

def ok : Rp α → Prop
  | cat n l r => n = l.toL.length ∧ l.ok ∧ r.ok
  | _ => True

def len (r : Rp α) : Nat := Rp.rec 0 (fun _ => 1) (fun n _ => n) (fun n _ _ _ b => n + b) r
theorem len_eq (r : Rp α) (h : r.ok) : r.len = r.toL.length := by
  induction r with
  | nil => rfl
  | one => rfl
  | rep n x => simp [len]
  | cat n l r ihl ihr =>
    obtain ⟨h1, h2, h3⟩ := h
    show n + r.len = _
    simp [h1, ihr h3]

def get (r : Rp α) : Nat → Option α :=
  Rp.rec (fun _ => none) (fun x i => Nat.rec (some x) (fun _ _ => none) i) (fun n x i => cond (Nat.ble n i) none (some x))
    (fun n _ _ gl gr i => cond (Nat.ble n i) (gr (i - n)) (gl i)) r
theorem get_eq (r : Rp α) (h : r.ok) (i : Nat) : r.get i = r.toL[i]? := by
  induction r generalizing i with
  | nil => rfl
  | one x => cases i <;> rfl
  | rep n x =>
    show cond (Nat.ble n i) none (some x) = _
    simp only [toL_rep, List.getElem?_replicate, Bool.cond_eq_ite, Nat.ble_eq]
    by_cases hi : i < n
    · rw [if_neg (by omega), if_pos hi]
    · rw [if_pos (by omega), if_neg hi]
  | cat n l r ihl ihr =>
    obtain ⟨h1, h2, h3⟩ := h
    show cond (Nat.ble n i) (r.get (i - n)) (l.get i) = _
    simp only [toL_cat, Bool.cond_eq_ite, Nat.ble_eq, ihl h2, ihr h3, List.getElem?_append, ← h1]
    by_cases hi : i < n
    · rw [if_neg (by omega), if_pos hi]
    · rw [if_pos (by omega), if_neg hi]

/-- write into a uniform stretch, cutting it in halves -/
def setRep (f : Nat) : Nat → α → Nat → α → Rp α :=
  Nat.rec (fun n x _ _ => rep n x) (fun _ ih n x i v =>
    cond (Nat.ble n 1) (cond (Nat.beq n 1) (cond (Nat.beq i 0) (one v) (rep n x)) (rep n x))
      (cond (Nat.ble (n / 2) i) (cat (n / 2) (rep (n / 2) x) (ih (n - n / 2) x (i - n / 2) v)) (cat (n / 2) (ih (n / 2) x i v) (rep (n - n / 2) x)))) f
theorem setRep_succ (f n : Nat) (x : α) (i : Nat) (v : α) : setRep (f + 1) n x i v =
    cond (Nat.ble n 1) (cond (Nat.beq n 1) (cond (Nat.beq i 0) (one v) (rep n x)) (rep n x))
      (cond (Nat.ble (n / 2) i) (cat (n / 2) (rep (n / 2) x) (setRep f (n - n / 2) x (i - n / 2) v)) (cat (n / 2) (setRep f (n / 2) x i v) (rep (n - n / 2) x))) := rfl
theorem setRep_spec (f : Nat) : ∀ (n : Nat) (x : α) (i : Nat) (v : α), n ≤ f →
    (setRep f n x i v).ok ∧ (setRep f n x i v).toL = (List.replicate n x).set i v := by
  induction f with
  | zero =>
    intro n x i v h
    obtain rfl : n = 0 := by omega
    refine ⟨trivial, ?_⟩
    show (rep 0 x).toL = _
    simp
  | succ f ih =>
    intro n x i v h
    rw [setRep_succ]
    simp only [Bool.cond_eq_ite, Nat.ble_eq, Nat.beq_eq]
    by_cases h1 : n ≤ 1
    · rw [if_pos h1]
      by_cases h2 : n = 1
      · subst h2
        rw [if_pos rfl]
        by_cases h3 : i = 0
        · subst h3; rw [if_pos rfl]; exact ⟨trivial, by simp⟩
        · rw [if_neg h3]
          refine ⟨trivial, ?_⟩
          rw [toL_rep, List.set_eq_of_length_le (by simp; omega)]
      · obtain rfl : n = 0 := by omega
        rw [if_neg (by omega)]
        exact ⟨trivial, by simp⟩
    · rw [if_neg h1]
      have hsum : List.replicate n x = List.replicate (n / 2) x ++ List.replicate (n - n / 2) x := by
        rw [List.replicate_append_replicate]; congr 1; omega
      by_cases h2 : n / 2 ≤ i
      · rw [if_pos h2]
        obtain ⟨o, e⟩ := ih (n - n / 2) x (i - n / 2) v (by omega)
        refine ⟨⟨by simp, trivial, o⟩, ?_⟩
        rw [toL_cat, e, toL_rep, hsum, List.set_append, if_neg (by simp; omega)]
        simp
      · rw [if_neg h2]
        obtain ⟨o, e⟩ := ih (n / 2) x i v (by omega)
        refine ⟨⟨by rw [e]; simp, o, trivial⟩, ?_⟩
        rw [toL_cat, e, toL_rep, hsum, List.set_append, if_pos (by simp; omega)]

def set (r : Rp α) : Nat → α → Rp α :=
  Rp.rec (fun _ _ => nil) (fun x i v => cond (Nat.beq i 0) (one v) (one x)) (fun n x i v => setRep n n x i v)
    (fun n l r sl sr i v => cond (Nat.ble n i) (cat n l (sr (i - n) v)) (cat n (sl i v) r)) r
theorem set_spec (r : Rp α) : ∀ (i : Nat) (v : α), r.ok → (r.set i v).ok ∧ (r.set i v).toL = r.toL.set i v := by
  induction r with
  | nil => intro i v _; exact ⟨trivial, by simp [set]⟩
  | one x =>
    intro i v _
    show (cond (Nat.beq i 0) (one v) (one x)).ok ∧ (cond (Nat.beq i 0) (one v) (one x)).toL = _
    simp only [Bool.cond_eq_ite, Nat.beq_eq]
    by_cases h : i = 0
    · subst h; rw [if_pos rfl]; exact ⟨trivial, by simp⟩
    · rw [if_neg h]; exact ⟨trivial, by rw [toL_one, List.set_eq_of_length_le (by simp; omega)]⟩
  | rep n x => intro i v _; exact setRep_spec n n x i v (Nat.le_refl _)
  | cat n l r ihl ihr =>
    intro i v h
    obtain ⟨h1, h2, h3⟩ := h
    show (cond (Nat.ble n i) (cat n l (r.set (i - n) v)) (cat n (l.set i v) r)).ok ∧ (cond (Nat.ble n i) (cat n l (r.set (i - n) v)) (cat n (l.set i v) r)).toL = _
    simp only [Bool.cond_eq_ite, Nat.ble_eq]
    by_cases hi : n ≤ i
    · rw [if_pos hi]
      obtain ⟨o, e⟩ := ihr (i - n) v h3
      refine ⟨⟨h1, h2, o⟩, ?_⟩
      rw [toL_cat, toL_cat, e, List.set_append, if_neg (by omega), h1]
    · rw [if_neg hi]
      obtain ⟨o, e⟩ := ihl i v h2
      refine ⟨⟨by rw [e]; simpa using h1, o, h3⟩, ?_⟩
      rw [toL_cat, toL_cat, e, List.set_append, if_pos (by omega)]

/-- put two rows together -/
def app (l r : Rp α) : Rp α := Rp.rec r (fun x => cat 1 (one x) r) (fun n x => cat n (rep n x) r) (fun n a b _ _ => cat (n + b.len) (cat n a b) r) l
theorem app_spec (l r : Rp α) (hl : l.ok) (hr : r.ok) : (l.app r).ok ∧ (l.app r).toL = l.toL ++ r.toL := by
  cases l with
  | nil => exact ⟨hr, rfl⟩
  | one x => exact ⟨⟨rfl, trivial, hr⟩, rfl⟩
  | rep n x => exact ⟨⟨by simp, trivial, hr⟩, rfl⟩
  | cat n a b =>
    refine ⟨⟨?_, hl, hr⟩, rfl⟩
    obtain ⟨h1, h2, h3⟩ := hl
    simp [h1, len_eq b h3]

/-- 'n' cells from 'off' on, of a row of 'tot' cells -/
def sub (r : Rp α) : Nat → Nat → Rp α :=
  Rp.rec (fun _ _ => nil) (fun x off n => cond (Nat.beq off 0) (cond (Nat.beq n 0) nil (one x)) nil)
    (fun m x off n => rep (Nat.min n (m - off)) x)
    (fun m l r sl sr off n => cond (Nat.ble m off) (sr (off - m) n)
      (cond (Nat.ble (off + n) m) (cond (Nat.beq off 0) (cond (Nat.beq n m) l (sl off n)) (sl off n))
        (cond (Nat.beq off 0)
          (cond (Nat.ble r.len (n - m)) (cat m l r) (cat m l (sr 0 (n - m))))
          (cat (m - off) (sl off (m - off)) (cond (Nat.ble r.len (off + n - m)) r (sr 0 (off + n - m))))))) r
theorem sub_spec (r : Rp α) : ∀ (off n : Nat), r.ok → (r.sub off n).ok ∧ (r.sub off n).toL = (r.toL.drop off).take n := by
  induction r with
  | nil => intro off n _; exact ⟨trivial, by simp [sub]⟩
  | one x =>
    intro off n _
    show (cond (Nat.beq off 0) (cond (Nat.beq n 0) nil (one x)) nil).ok ∧ (cond (Nat.beq off 0) (cond (Nat.beq n 0) nil (one x)) nil).toL = _
    simp only [Bool.cond_eq_ite, Nat.beq_eq]
    by_cases h : off = 0
    · subst h
      rw [if_pos rfl]
      by_cases h2 : n = 0
      · subst h2; rw [if_pos rfl]; exact ⟨trivial, by simp⟩
      · rw [if_neg h2]; refine ⟨trivial, ?_⟩
        obtain ⟨k, rfl⟩ : ∃ k, n = k + 1 := ⟨n - 1, by omega⟩
        simp
    · rw [if_neg h]; refine ⟨trivial, ?_⟩
      obtain ⟨k, rfl⟩ : ∃ k, off = k + 1 := ⟨off - 1, by omega⟩
      simp
  | rep m x =>
    intro off n _
    refine ⟨trivial, ?_⟩
    show List.replicate (Nat.min n (m - off)) x = _
    rw [toL_rep, List.drop_replicate, List.take_replicate]
  | cat m l r ihl ihr =>
    intro off n h
    obtain ⟨h1, h2, h3⟩ := h
    have hlen := len_eq r h3
    show (cond (Nat.ble m off) (r.sub (off - m) n)
      (cond (Nat.ble (off + n) m) (cond (Nat.beq off 0) (cond (Nat.beq n m) l (l.sub off n)) (l.sub off n))
        (cond (Nat.beq off 0)
          (cond (Nat.ble r.len (n - m)) (cat m l r) (cat m l (r.sub 0 (n - m))))
          (cat (m - off) (l.sub off (m - off)) (cond (Nat.ble r.len (off + n - m)) r (r.sub 0 (off + n - m))))))).ok ∧
      (cond (Nat.ble m off) (r.sub (off - m) n)
      (cond (Nat.ble (off + n) m) (cond (Nat.beq off 0) (cond (Nat.beq n m) l (l.sub off n)) (l.sub off n))
        (cond (Nat.beq off 0)
          (cond (Nat.ble r.len (n - m)) (cat m l r) (cat m l (r.sub 0 (n - m))))
          (cat (m - off) (l.sub off (m - off)) (cond (Nat.ble r.len (off + n - m)) r (r.sub 0 (off + n - m))))))).toL = _
    simp only [Bool.cond_eq_ite, Nat.beq_eq, Nat.ble_eq, toL_cat]
    by_cases a1 : m ≤ off
    · rw [if_pos a1]
      obtain ⟨o, e⟩ := ihr (off - m) n h3
      exact ⟨o, by rw [e, List.drop_append, List.drop_eq_nil_of_le (as := l.toL) (by omega), List.nil_append, h1]⟩
    · rw [if_neg a1]
      by_cases a2 : off + n ≤ m
      · rw [if_pos a2]
        have key : ((l.toL ++ r.toL).drop off).take n = (l.toL.drop off).take n := by
          rw [List.drop_append_of_le_length (by omega), List.take_append_of_le_length (by simp; omega)]
        rw [key]
        by_cases a3 : off = 0
        · rw [if_pos a3]
          by_cases a4 : n = m
          · rw [if_pos a4]
            refine ⟨h2, ?_⟩
            subst a3; rw [List.drop_zero, List.take_of_length_le (by omega)]
          · rw [if_neg a4]; exact ihl off n h2
        · rw [if_neg a3]; exact ihl off n h2
      · rw [if_neg a2]
        have key : ((l.toL ++ r.toL).drop off).take n = l.toL.drop off ++ r.toL.take (off + n - m) := by
          rw [List.drop_append_of_le_length (by omega), List.take_append, List.take_of_length_le (by simp; omega)]
          congr 2; simp; omega
        rw [key]
        by_cases a3 : off = 0
        · subst a3
          rw [if_pos rfl]
          have e0 : 0 + n - m = n - m := by omega
          rw [e0, List.drop_zero]
          by_cases a4 : r.len ≤ n - m
          · rw [if_pos a4]; exact ⟨⟨h1, h2, h3⟩, by rw [toL_cat, List.take_of_length_le (by omega)]⟩
          · rw [if_neg a4]
            obtain ⟨o, e⟩ := ihr 0 (n - m) h3
            exact ⟨⟨h1, h2, o⟩, by rw [toL_cat, e, List.drop_zero]⟩
        · rw [if_neg a3]
          obtain ⟨o, e⟩ := ihl off (m - off) h2
          have e2 : (l.toL.drop off).take (m - off) = l.toL.drop off := List.take_of_length_le (by simp; omega)
          by_cases a4 : r.len ≤ off + n - m
          · rw [if_pos a4]
            exact ⟨⟨by rw [e, e2]; simp; omega, o, h3⟩, by rw [toL_cat, e, e2, List.take_of_length_le (by omega)]⟩
          · rw [if_neg a4]
            obtain ⟨o', e'⟩ := ihr 0 (off + n - m) h3
            exact ⟨⟨by rw [e, e2]; simp; omega, o, o'⟩, by rw [toL_cat, e, e2, e', List.drop_zero]⟩

/-- the cells from 'off' on become those of 's' ('n' of them) -/
def put (r : Rp α) : Nat → Nat → Rp α → Rp α :=
  Rp.rec (fun _ _ _ => nil) (fun x off n s => cond (Nat.beq off 0) (cond (Nat.beq n 1) s (one x)) (one x))
    (fun m x off n s => (rep off x).app (s.app (rep (m - (off + n)) x)))
    (fun m l r pl pr off n s => cond (Nat.ble m off) (cat m l (pr (off - m) n s))
      (cond (Nat.ble (off + n) m) (cat m (pl off n s) r)
        (cond (Nat.beq off 0) (cond (Nat.ble r.len (n - m)) s (cat m (s.sub 0 m) (pr 0 (n - m) (s.sub m (n - m)))))
          (cat m (pl off (m - off) (s.sub 0 (m - off))) (pr 0 (off + n - m) (s.sub (m - off) (off + n - m))))))) r
theorem put_spec (r : Rp α) : ∀ (off n : Nat) (s : Rp α), r.ok → s.ok → s.toL.length = n → off + n ≤ r.toL.length →
    (r.put off n s).ok ∧ (r.put off n s).toL = r.toL.take off ++ (s.toL ++ r.toL.drop (off + n)) := by
  induction r with
  | nil =>
    intro off n s _ hs hn h
    simp at h
    obtain ⟨rfl, rfl⟩ := h
    refine ⟨trivial, ?_⟩
    have := List.eq_nil_of_length_eq_zero hn
    simp [put, this]
  | one x =>
    intro off n s _ hs hn h
    show (cond (Nat.beq off 0) (cond (Nat.beq n 1) s (one x)) (one x)).ok ∧ (cond (Nat.beq off 0) (cond (Nat.beq n 1) s (one x)) (one x)).toL = _
    simp only [Bool.cond_eq_ite, Nat.beq_eq]
    simp at h
    by_cases h1 : off = 0
    · subst h1
      rw [if_pos rfl]
      by_cases h2 : n = 1
      · subst h2; rw [if_pos rfl]; exact ⟨hs, by simp⟩
      · obtain rfl : n = 0 := by omega
        rw [if_neg h2]
        refine ⟨trivial, ?_⟩
        have := List.eq_nil_of_length_eq_zero hn
        simp [this]
    · obtain rfl : n = 0 := by omega
      obtain rfl : off = 1 := by omega
      rw [if_neg h1]
      refine ⟨trivial, ?_⟩
      have := List.eq_nil_of_length_eq_zero hn
      simp [this]
  | rep m x =>
    intro off n s _ hs hn h
    simp at h
    show ((rep off x).app (s.app (rep (m - (off + n)) x))).ok ∧ ((rep off x).app (s.app (rep (m - (off + n)) x))).toL = _
    obtain ⟨o1, e1⟩ := app_spec s (rep (m - (off + n)) x) hs trivial
    obtain ⟨o2, e2⟩ := app_spec (rep off x) _ trivial o1
    refine ⟨o2, ?_⟩
    rw [e2, e1]
    simp [List.take_replicate, List.drop_replicate]
    congr 1; omega
  | cat m l r ihl ihr =>
    intro off n s h hs hn hle
    obtain ⟨h1, h2, h3⟩ := h
    have hlen := len_eq r h3
    simp only [toL_cat, List.length_append] at hle
    show (cond (Nat.ble m off) (cat m l (r.put (off - m) n s))
      (cond (Nat.ble (off + n) m) (cat m (l.put off n s) r)
        (cond (Nat.beq off 0) (cond (Nat.ble r.len (n - m)) s (cat m (s.sub 0 m) (r.put 0 (n - m) (s.sub m (n - m)))))
          (cat m (l.put off (m - off) (s.sub 0 (m - off))) (r.put 0 (off + n - m) (s.sub (m - off) (off + n - m))))))).ok ∧
     (cond (Nat.ble m off) (cat m l (r.put (off - m) n s))
      (cond (Nat.ble (off + n) m) (cat m (l.put off n s) r)
        (cond (Nat.beq off 0) (cond (Nat.ble r.len (n - m)) s (cat m (s.sub 0 m) (r.put 0 (n - m) (s.sub m (n - m)))))
          (cat m (l.put off (m - off) (s.sub 0 (m - off))) (r.put 0 (off + n - m) (s.sub (m - off) (off + n - m))))))).toL = _
    simp only [Bool.cond_eq_ite, Nat.beq_eq, Nat.ble_eq, toL_cat]
    by_cases a1 : m ≤ off
    · rw [if_pos a1]
      obtain ⟨o, e⟩ := ihr (off - m) n s h3 hs hn (by omega)
      refine ⟨⟨h1, h2, o⟩, ?_⟩
      rw [toL_cat, e, List.take_append, List.take_of_length_le (l := l.toL) (by omega), List.drop_append, List.drop_eq_nil_of_le (as := l.toL) (by omega), List.append_assoc, ← h1]
      rw [List.nil_append, show off - m + n = off + n - m by omega]
    · rw [if_neg a1]
      by_cases a2 : off + n ≤ m
      · rw [if_pos a2]
        obtain ⟨o, e⟩ := ihl off n s h2 hs hn (by omega)
        refine ⟨⟨by rw [e]; simp; omega, o, h3⟩, ?_⟩
        rw [toL_cat, e, List.take_append_of_le_length (by omega), List.drop_append_of_le_length (by omega)]
        simp
      · rw [if_neg a2]
        by_cases a3 : off = 0
        · subst a3
          rw [if_pos rfl]
          by_cases a4 : r.len ≤ n - m
          · rw [if_pos a4]
            refine ⟨hs, ?_⟩
            rw [List.drop_eq_nil_of_le (by simp; omega)]
            simp
          · rw [if_neg a4]
            obtain ⟨o1, e1⟩ := sub_spec s 0 m hs
            obtain ⟨o2, e2⟩ := sub_spec s m (n - m) hs
            obtain ⟨o, e⟩ := ihr 0 (n - m) _ h3 o2 (by rw [e2]; simp; omega) (by omega)
            refine ⟨⟨by rw [e1]; simp; omega, o1, o⟩, ?_⟩
            rw [toL_cat, e, e1, e2, List.drop_append, List.drop_eq_nil_of_le (as := l.toL) (by omega)]
            rw [List.take_of_length_le (l := s.toL.drop m) (by simp; omega)]
            simp only [List.drop_zero, List.take_zero, List.nil_append, ← List.append_assoc]
            rw [List.take_append_drop]
            congr 2; omega
        · rw [if_neg a3]
          obtain ⟨o1, e1⟩ := sub_spec s 0 (m - off) hs
          obtain ⟨o2, e2⟩ := sub_spec s (m - off) (off + n - m) hs
          obtain ⟨o, e⟩ := ihr 0 (off + n - m) _ h3 o2 (by rw [e2]; simp; omega) (by omega)
          obtain ⟨o', e'⟩ := ihl off (m - off) _ h2 o1 (by rw [e1]; simp; omega) (by omega)
          refine ⟨⟨by rw [e', e1]; simp; omega, o', o⟩, ?_⟩
          rw [toL_cat, e, e', e1, e2, List.drop_append, List.drop_eq_nil_of_le (as := l.toL) (by omega)]
          rw [List.take_of_length_le (l := s.toL.drop (m - off)) (by simp; omega), List.take_append_of_le_length (by omega)]
          rw [List.drop_eq_nil_of_le (as := l.toL) (by omega)]
          simp only [List.drop_zero, List.take_zero, List.nil_append, List.append_nil, List.append_assoc]
          rw [← List.append_assoc (s.toL.take (m - off)), List.take_append_drop]
          congr 3; omega

/-- a row out of a list: a balanced tree -/
def pairUp (l : List (Nat × Rp α)) : List (Nat × Rp α) :=
  match l with
  | a :: b :: rest => (a.1 + b.1, cat a.1 a.2 b.2) :: pairUp rest
  | l => l
def itemsOk (l : List (Nat × Rp α)) : Prop := ∀ x ∈ l, x.1 = x.2.toL.length ∧ x.2.ok
theorem pairUp_spec : ∀ (l : List (Nat × Rp α)), itemsOk l → itemsOk (pairUp l) ∧ (pairUp l).flatMap (·.2.toL) = l.flatMap (·.2.toL)
  | [], h => ⟨h, rfl⟩
  | [a], h => ⟨h, rfl⟩
  | a :: b :: rest, h => by
    have ha := h a (by simp)
    have hb := h b (by simp)
    obtain ⟨h1, h2⟩ := pairUp_spec rest (fun x hx => h x (by simp [hx]))
    refine ⟨fun x hx => ?_, ?_⟩
    · simp only [pairUp, List.mem_cons] at hx
      rcases hx with rfl | hx
      · exact ⟨by simp [ha.1, hb.1], ha.1, ha.2, hb.2⟩
      · exact h1 x hx
    · simp [pairUp, h2]
def build (f : Nat) : List (Nat × Rp α) → Rp α :=
  Nat.rec (fun l => l.foldr (fun x r => x.2.app r) nil) (fun _ ih l => match l with | [] => nil | [a] => a.2 | l => ih (pairUp l)) f
theorem build_succ (f : Nat) (l : List (Nat × Rp α)) : build (f + 1) l = match l with | [] => nil | [a] => a.2 | l => build f (pairUp l) := rfl
theorem build_spec (f : Nat) : ∀ (l : List (Nat × Rp α)), itemsOk l → (build f l).ok ∧ (build f l).toL = l.flatMap (·.2.toL) := by
  induction f with
  | zero =>
    intro l
    show itemsOk l → (l.foldr (fun x r => x.2.app r) nil).ok ∧ (l.foldr (fun x r => x.2.app r) nil).toL = _
    induction l with
    | nil => intro _; exact ⟨trivial, rfl⟩
    | cons a l ih =>
      intro h
      obtain ⟨o, e⟩ := ih (fun x hx => h x (by simp [hx]))
      obtain ⟨o', e'⟩ := app_spec a.2 _ (h a (by simp)).2 o
      exact ⟨o', by simp only [List.foldr_cons]; rw [e', e]; simp⟩
  | succ f ih =>
    intro l h
    rw [build_succ]
    match l, h with
    | [], _ => exact ⟨trivial, rfl⟩
    | [a], h => exact ⟨(h a (by simp)).2, by simp⟩
    | a :: b :: rest, h =>
      obtain ⟨h1, h2⟩ := pairUp_spec _ h
      obtain ⟨o, e⟩ := ih _ h1
      exact ⟨o, by rw [← h2, ← e]⟩
def ofL (l : List α) : Rp α := build 40 (l.map fun x => (1, one x))
theorem ofL_spec (l : List α) : (ofL l).ok ∧ (ofL l).toL = l := by
  obtain ⟨o, e⟩ := build_spec 40 (l.map fun x => ((1, one x) : Nat × Rp α)) (fun x hx => by
    simp at hx; obtain ⟨y, _, rfl⟩ := hx; exact ⟨rfl, trivial⟩)
  refine ⟨o, ?_⟩
  unfold ofL
  rw [e]
  clear o e
  induction l with
  | nil => rfl
  | cons a l ih => simpa using ih
end Rp

/-! ### tries, eight ways at each step -/
inductive D8 where
  | d0 | d1 | d2 | d3 | d4 | d5 | d6 | d7
inductive Pth where
  | e
  | c (d : D8) (p : Pth)
def toD8 (n : Nat) : D8 := Nat.rec .d0 (fun n _ => Nat.rec .d1 (fun n _ => Nat.rec .d2 (fun n _ => Nat.rec .d3 (fun n _ => Nat.rec .d4 (fun n _ => Nat.rec .d5 (fun n _ => Nat.rec .d6 (fun _ _ => .d7) n) n) n) n) n) n) n
def D8.toN (d : D8) : Nat := D8.rec 0 1 2 3 4 5 6 7 d
theorem toN_toD8 (n : Nat) (h : n < 8) : (toD8 n).toN = n := by
  match n, h with
  | 0, _ => rfl
  | 1, _ => rfl
  | 2, _ => rfl
  | 3, _ => rfl
  | 4, _ => rfl
  | 5, _ => rfl
  | 6, _ => rfl
  | 7, _ => rfl
def pthF (f : Nat) : Nat → Pth := Nat.rec (fun _ => .e) (fun _ ih i => Nat.rec .e (fun k _ => .c (toD8 (k % 8)) (ih (k / 8))) i) f
theorem pthF_zero (i : Nat) : pthF 0 i = .e := rfl
theorem pthF_succ_zero (f : Nat) : pthF (f + 1) 0 = .e := rfl
theorem pthF_succ_succ (f k : Nat) : pthF (f + 1) (k + 1) = .c (toD8 (k % 8)) (pthF f (k / 8)) := rfl
def pth (i : Nat) : Pth := pthF i i
def Pth.num (p : Pth) : Nat := Pth.rec 0 (fun d _ n => 8 * n + d.toN + 1) p
theorem num_pthF (f : Nat) : ∀ i, i ≤ f → (pthF f i).num = i := by
  induction f with
  | zero => intro i h; obtain rfl : i = 0 := by omega
            rfl
  | succ f ih =>
    intro i h
    cases i with
    | zero => rfl
    | succ k =>
      rw [pthF_succ_succ]
      show 8 * (pthF f (k / 8)).num + (toD8 (k % 8)).toN + 1 = _
      rw [ih (k / 8) (by omega), toN_toD8 _ (by omega)]
      omega
theorem pth_inj {i j : Nat} (h : pth i = pth j) : i = j := by
  have h1 := num_pthF i i (Nat.le_refl _)
  have h2 := num_pthF j j (Nat.le_refl _)
  unfold pth at h
  rw [h] at h1
  rw [← h1, h2]

inductive T (α : Type) where
  | lf
  | nd (v : Option α) (k0 k1 k2 k3 k4 k5 k6 k7 : T α)
namespace T
variable {α : Type}
def getP (p : Pth) : T α → Option α :=
  Pth.rec (fun t => T.rec none (fun v _ _ _ _ _ _ _ _ _ _ _ _ _ _ _ _ => v) t) (fun d _ ih t => T.rec none (fun _ k0 k1 k2 k3 k4 k5 k6 k7 _ _ _ _ _ _ _ _ => ih (D8.rec k0 k1 k2 k3 k4 k5 k6 k7 d)) t) p
def get (t : T α) (i : Nat) : Option α := getP (pth i) t
def u0 (f : T α → T α) (t : T α) : T α := T.rec (nd none (f lf) lf lf lf lf lf lf lf) (fun w k0 k1 k2 k3 k4 k5 k6 k7 _ _ _ _ _ _ _ _ => nd w (f k0) k1 k2 k3 k4 k5 k6 k7) t
def u1 (f : T α → T α) (t : T α) : T α := T.rec (nd none lf (f lf) lf lf lf lf lf lf) (fun w k0 k1 k2 k3 k4 k5 k6 k7 _ _ _ _ _ _ _ _ => nd w k0 (f k1) k2 k3 k4 k5 k6 k7) t
def u2 (f : T α → T α) (t : T α) : T α := T.rec (nd none lf lf (f lf) lf lf lf lf lf) (fun w k0 k1 k2 k3 k4 k5 k6 k7 _ _ _ _ _ _ _ _ => nd w k0 k1 (f k2) k3 k4 k5 k6 k7) t
def u3 (f : T α → T α) (t : T α) : T α := T.rec (nd none lf lf lf (f lf) lf lf lf lf) (fun w k0 k1 k2 k3 k4 k5 k6 k7 _ _ _ _ _ _ _ _ => nd w k0 k1 k2 (f k3) k4 k5 k6 k7) t
def u4 (f : T α → T α) (t : T α) : T α := T.rec (nd none lf lf lf lf (f lf) lf lf lf) (fun w k0 k1 k2 k3 k4 k5 k6 k7 _ _ _ _ _ _ _ _ => nd w k0 k1 k2 k3 (f k4) k5 k6 k7) t
def u5 (f : T α → T α) (t : T α) : T α := T.rec (nd none lf lf lf lf lf (f lf) lf lf) (fun w k0 k1 k2 k3 k4 k5 k6 k7 _ _ _ _ _ _ _ _ => nd w k0 k1 k2 k3 k4 (f k5) k6 k7) t
def u6 (f : T α → T α) (t : T α) : T α := T.rec (nd none lf lf lf lf lf lf (f lf) lf) (fun w k0 k1 k2 k3 k4 k5 k6 k7 _ _ _ _ _ _ _ _ => nd w k0 k1 k2 k3 k4 k5 (f k6) k7) t
def u7 (f : T α → T α) (t : T α) : T α := T.rec (nd none lf lf lf lf lf lf lf (f lf)) (fun w k0 k1 k2 k3 k4 k5 k6 k7 _ _ _ _ _ _ _ _ => nd w k0 k1 k2 k3 k4 k5 k6 (f k7)) t
def updAt (d : D8) : (T α → T α) → T α → T α := D8.rec u0 u1 u2 u3 u4 u5 u6 u7 d
def updP (v : Option α) (p : Pth) : T α → T α :=
  Pth.rec (fun t => T.rec (nd v lf lf lf lf lf lf lf lf) (fun _ k0 k1 k2 k3 k4 k5 k6 k7 _ _ _ _ _ _ _ _ => nd v k0 k1 k2 k3 k4 k5 k6 k7) t) (fun d _ ih t => updAt d ih t) p
def upd (t : T α) (i : Nat) (v : Option α) : T α := updP v (pth i) t
def kidAt (d : D8) (t : T α) : T α := T.rec lf (fun _ k0 k1 k2 k3 k4 k5 k6 k7 _ _ _ _ _ _ _ _ => D8.rec k0 k1 k2 k3 k4 k5 k6 k7 d) t
theorem getP_lf (p : Pth) : getP p (lf : T α) = none := by cases p <;> rfl
theorem getP_c (d : D8) (p : Pth) (t : T α) : getP (.c d p) t = getP p (kidAt d t) := by
  cases t with
  | lf => exact (getP_lf p).symm
  | nd v k0 k1 k2 k3 k4 k5 k6 k7 => rfl
theorem kidAt_updAt (d d' : D8) (f : T α → T α) (t : T α) : (d' = d ∧ kidAt d' (updAt d f t) = f (kidAt d t)) ∨ (d' ≠ d ∧ kidAt d' (updAt d f t) = kidAt d' t) := by
  cases d <;> cases d' <;> cases t <;> first | exact Or.inl ⟨rfl, rfl⟩ | exact Or.inr ⟨fun h => (by cases h), rfl⟩
theorem getP_updP (v : Option α) : ∀ (p q : Pth) (t : T α), (q = p ∧ getP q (updP v p t) = v) ∨ (q ≠ p ∧ getP q (updP v p t) = getP q t)
  | .e, .e, t => by cases t <;> exact Or.inl ⟨rfl, rfl⟩
  | .e, .c d q, t => by
    refine Or.inr ⟨fun h => (by cases h), ?_⟩
    rw [getP_c, getP_c]
    cases t with
    | lf => cases d <;> rfl
    | nd w k0 k1 k2 k3 k4 k5 k6 k7 => rfl
  | .c d p, .e, t => by
    refine Or.inr ⟨fun h => (by cases h), ?_⟩
    show getP .e (updAt d (updP v p) t) = _
    cases t <;> cases d <;> rfl
  | .c d p, .c d' q, t => by
    have e : updP v (.c d p) t = updAt d (updP v p) t := rfl
    rw [e, getP_c, getP_c]
    rcases kidAt_updAt d d' (updP v p) t with ⟨h1, h2⟩ | ⟨h1, h2⟩
    · rw [h2]
      subst h1
      rcases getP_updP v p q (kidAt d' t) with ⟨h3, h4⟩ | ⟨h3, h4⟩
      · exact Or.inl ⟨by rw [h3], h4⟩
      · exact Or.inr ⟨fun h => h3 (by cases h; rfl), h4⟩
    · rw [h2]
      exact Or.inr ⟨fun h => h1 (by cases h; rfl), rfl⟩
theorem get_upd (t : T α) (i j : Nat) (v : Option α) : (t.upd i v).get j = if j = i then v else t.get j := by
  unfold get upd
  rcases getP_updP v (pth i) (pth j) t with ⟨h1, h2⟩ | ⟨h1, h2⟩
  · rw [if_pos (pth_inj h1), h2]
  · rw [if_neg (fun e => h1 (by rw [e])), h2]
theorem get_lf (i : Nat) : (lf : T α).get i = none := getP_lf _
end T
end
end Go.Jt
