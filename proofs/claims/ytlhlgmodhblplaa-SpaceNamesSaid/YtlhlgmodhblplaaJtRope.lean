/-
  Ropes (rows of cells with shared parts) and tries (maps from numbers), with the laws that the abstract heap uses. Plain data, no program in sight.
-/
set_option autoImplicit false
set_option linter.all false
namespace Go.Jt
noncomputable section

/-! ### ropes -/
inductive Rp (α : Type) where
  | nil
  | one (x : α)
  | rep (n : Nat) (x : α)
  | cat (n : Nat) (l r : Rp α)

namespace Rp
variable {α : Type}

def toL (r : Rp α) : List α := Rp.rec [] (fun x => [x]) (fun n x => List.replicate n x) (fun _ _ _ a b => a ++ b) r
@[simp] theorem toL_nil : (nil : Rp α).toL = [] := rfl
@[simp] theorem toL_one (x : α) : (one x).toL = [x] := rfl
@[simp] theorem toL_rep (n : Nat) (x : α) : (rep n x).toL = List.replicate n x := rfl
@[simp] theorem toL_cat (n : Nat) (l r : Rp α) : (cat n l r).toL = l.toL ++ r.toL := rfl

def ok : Rp α → Prop
  | cat n l r => n = l.toL.length ∧ l.ok ∧ r.ok
  | _ => True

def len (r : Rp α) : Nat := Rp.rec 0 (fun _ => 1) (fun n _ => n) (fun n _ _ _ b => n + b) r
theorem len_eq (r : Rp α) (h : r.ok) : r.len = r.toL.length := by
  induction r with
  | nil => rfl
  | one => rfl
  | rep n x => simp [len]
  | cat n l r ihl ihr =>
    obtain ⟨h1, h2, h3⟩ := h
    show n + r.len = _
    simp [h1, ihr h3]

def get (r : Rp α) : Nat → Option α :=
  Rp.rec (fun _ => none) (fun x i => Nat.rec (some x) (fun _ _ => none) i) (fun n x i => cond (Nat.ble n i) none (some x))
    (fun n _ _ gl gr i => cond (Nat.ble n i) (gr (i - n)) (gl i)) r
theorem get_eq (r : Rp α) (h : r.ok) (i : Nat) : r.get i = r.toL[i]? := by
  induction r generalizing i with
  | nil => rfl
  | one x => cases i <;> rfl
  | rep n x =>
    show cond (Nat.ble n i) none (some x) = _
    simp only [toL_rep, List.getElem?_replicate, Bool.cond_eq_ite, Nat.ble_eq]
    by_cases hi : i < n
    · rw [if_neg (by omega), if_pos hi]
    · rw [if_pos (by omega), if_neg hi]
  | cat n l r ihl ihr =>
    obtain ⟨h1, h2, h3⟩ := h
    show cond (Nat.ble n i) (r.get (i - n)) (l.get i) = _
    simp only [toL_cat, Bool.cond_eq_ite, Nat.ble_eq, ihl h2, ihr h3, List.getElem?_append, ← h1]
    by_cases hi : i < n
    · rw [if_neg (by omega), if_pos hi]
    · rw [if_pos (by omega), if_neg hi]

/-- write into a uniform stretch, cutting it in halves -/
def setRep (f : Nat) : Nat → α → Nat → α → Rp α :=
  Nat.rec (fun n x _ _ => rep n x) (fun _ ih n x i v =>
    cond (Nat.ble n 1) (cond (Nat.beq n 1) (cond (Nat.beq i 0) (one v) (rep n x)) (rep n x))
      (cond (Nat.ble (n / 2) i) (cat (n / 2) (rep (n / 2) x) (ih (n - n / 2) x (i - n / 2) v)) (cat (n / 2) (ih (n / 2) x i v) (rep (n - n / 2) x)))) f
theorem setRep_succ (f n : Nat) (x : α) (i : Nat) (v : α) : setRep (f + 1) n x i v =
    cond (Nat.ble n 1) (cond (Nat.beq n 1) (cond (Nat.beq i 0) (one v) (rep n x)) (rep n x))
      (cond (Nat.ble (n / 2) i) (cat (n / 2) (rep (n / 2) x) (setRep f (n - n / 2) x (i - n / 2) v)) (cat (n / 2) (setRep f (n / 2) x i v) (rep (n - n / 2) x))) := rfl
theorem setRep_spec (f : Nat) : ∀ (n : Nat) (x : α) (i : Nat) (v : α), n ≤ f →
    (setRep f n x i v).ok ∧ (setRep f n x i v).toL = (List.replicate n x).set i v := by
  induction f with
  | zero =>
    intro n x i v h
    obtain rfl : n = 0 := by omega
    refine ⟨trivial, ?_⟩
    show (rep 0 x).toL = _
    simp
  | succ f ih =>
    intro n x i v h
    rw [setRep_succ]
    simp only [Bool.cond_eq_ite, Nat.ble_eq, Nat.beq_eq]
    by_cases h1 : n ≤ 1
    · rw [if_pos h1]
      by_cases h2 : n = 1
      · subst h2
        rw [if_pos rfl]
        by_cases h3 : i = 0
        · subst h3; rw [if_pos rfl]; exact ⟨trivial, by simp⟩
        · rw [if_neg h3]
          refine ⟨trivial, ?_⟩
          rw [toL_rep, List.set_eq_of_length_le (by simp; omega)]
      · obtain rfl : n = 0 := by omega
        rw [if_neg (by omega)]
        exact ⟨trivial, by simp⟩
    · rw [if_neg h1]
      have hsum : List.replicate n x = List.replicate (n / 2) x ++ List.replicate (n - n / 2) x := by
        rw [List.replicate_append_replicate]; congr 1; omega
      by_cases h2 : n / 2 ≤ i
      · rw [if_pos h2]
        obtain ⟨o, e⟩ := ih (n - n / 2) x (i - n / 2) v (by omega)
        refine ⟨⟨by simp, trivial, o⟩, ?_⟩
        rw [toL_cat, e, toL_rep, hsum, List.set_append, if_neg (by simp; omega)]
        simp
      · rw [if_neg h2]
        obtain ⟨o, e⟩ := ih (n / 2) x i v (by omega)
        refine ⟨⟨by rw [e]; simp, o, trivial⟩, ?_⟩
        rw [toL_cat, e, toL_rep, hsum, List.set_append, if_pos (by simp; omega)]

def set (r : Rp α) : Nat → α → Rp α :=
  Rp.rec (fun _ _ => nil) (fun x i v => cond (Nat.beq i 0) (one v) (one x)) (fun n x i v => setRep n n x i v)
    (fun n l r sl sr i v => cond (Nat.ble n i) (cat n l (sr (i - n) v)) (cat n (sl i v) r)) r
theorem set_spec (r : Rp α) : ∀ (i : Nat) (v : α), r.ok → (r.set i v).ok ∧ (r.set i v).toL = r.toL.set i v := by
  induction r with
  | nil => intro i v _; exact ⟨trivial, by simp [set]⟩
  | one x =>
    intro i v _
    show (cond (Nat.beq i 0) (one v) (one x)).ok ∧ (cond (Nat.beq i 0) (one v) (one x)).toL = _
    simp only [Bool.cond_eq_ite, Nat.beq_eq]
    by_cases h : i = 0
    · subst h; rw [if_pos rfl]; exact ⟨trivial, by simp⟩
    · rw [if_neg h]; exact ⟨trivial, by rw [toL_one, List.set_eq_of_length_le (by simp; omega)]⟩
  | rep n x => intro i v _; exact setRep_spec n n x i v (Nat.le_refl _)
  | cat n l r ihl ihr =>
    intro i v h
    obtain ⟨h1, h2, h3⟩ := h
    show (cond (Nat.ble n i) (cat n l (r.set (i - n) v)) (cat n (l.set i v) r)).ok ∧ (cond (Nat.ble n i) (cat n l (r.set (i - n) v)) (cat n (l.set i v) r)).toL = _
    simp only [Bool.cond_eq_ite, Nat.ble_eq]
    by_cases hi : n ≤ i
    · rw [if_pos hi]
      obtain ⟨o, e⟩ := ihr (i - n) v h3
      refine ⟨⟨h1, h2, o⟩, ?_⟩
      rw [toL_cat, toL_cat, e, List.set_append, if_neg (by omega), h1]
    · rw [if_neg hi]
      obtain ⟨o, e⟩ := ihl i v h2
      refine ⟨⟨by rw [e]; simpa using h1, o, h3⟩, ?_⟩
      rw [toL_cat, toL_cat, e, List.set_append, if_pos (by omega)]

/-- put two rows together -/
def app (l r : Rp α) : Rp α := Rp.rec r (fun x => cat 1 (one x) r) (fun n x => cat n (rep n x) r) (fun n a b _ _ => cat (n + b.len) (cat n a b) r) l
theorem app_spec (l r : Rp α) (hl : l.ok) (hr : r.ok) : (l.app r).ok ∧ (l.app r).toL = l.toL ++ r.toL := by
  cases l with
  | nil => exact ⟨hr, rfl⟩
  | one x => exact ⟨⟨rfl, trivial, hr⟩, rfl⟩
  | rep n x => exact ⟨⟨by simp, trivial, hr⟩, rfl⟩
  | cat n a b =>
    refine ⟨⟨?_, hl, hr⟩, rfl⟩
    obtain ⟨h1, h2, h3⟩ := hl
    simp [h1, len_eq b h3]

/-- 'n' cells from 'off' on, of a row of 'tot' cells -/
def sub (r : Rp α) : Nat → Nat → Rp α :=
  Rp.rec (fun _ _ => nil) (fun x off n => cond (Nat.beq off 0) (cond (Nat.beq n 0) nil (one x)) nil)
    (fun m x off n => rep (Nat.min n (m - off)) x)
    (fun m l r sl sr off n => cond (Nat.ble m off) (sr (off - m) n)
      (cond (Nat.ble (off + n) m) (cond (Nat.beq off 0) (cond (Nat.beq n m) l (sl off n)) (sl off n))
        (cond (Nat.beq off 0)
          (cond (Nat.ble r.len (n - m)) (cat m l r) (cat m l (sr 0 (n - m))))
          (cat (m - off) (sl off (m - off)) (cond (Nat.ble r.len (off + n - m)) r (sr 0 (off + n - m))))))) r
theorem sub_spec (r : Rp α) : ∀ (off n : Nat), r.ok → (r.sub off n).ok ∧ (r.sub off n).toL = (r.toL.drop off).take n := by
  induction r with
  | nil => intro off n _; exact ⟨trivial, by simp [sub]⟩
  | one x =>
    intro off n _
    show (cond (Nat.beq off 0) (cond (Nat.beq n 0) nil (one x)) nil).ok ∧ (cond (Nat.beq off 0) (cond (Nat.beq n 0) nil (one x)) nil).toL = _
    simp only [Bool.cond_eq_ite, Nat.beq_eq]
    by_cases h : off = 0
    · subst h
      rw [if_pos rfl]
      by_cases h2 : n = 0
      · subst h2; rw [if_pos rfl]; exact ⟨trivial, by simp⟩
      · rw [if_neg h2]; refine ⟨trivial, ?_⟩
        obtain ⟨k, rfl⟩ : ∃ k, n = k + 1 := ⟨n - 1, by omega⟩
        simp
    · rw [if_neg h]; refine ⟨trivial, ?_⟩
      obtain ⟨k, rfl⟩ : ∃ k, off = k + 1 := ⟨off - 1, by omega⟩
      simp
  | rep m x =>
    intro off n _
    refine ⟨trivial, ?_⟩
    show List.replicate (Nat.min n (m - off)) x = _
    rw [toL_rep, List.drop_replicate, List.take_replicate]
  | cat m l r ihl ihr =>
    intro off n h
    obtain ⟨h1, h2, h3⟩ := h
    have hlen := len_eq r h3
    show (cond (Nat.ble m off) (r.sub (off - m) n)
      (cond (Nat.ble (off + n) m) (cond (Nat.beq off 0) (cond (Nat.beq n m) l (l.sub off n)) (l.sub off n))
        (cond (Nat.beq off 0)
          (cond (Nat.ble r.len (n - m)) (cat m l r) (cat m l (r.sub 0 (n - m))))
          (cat (m - off) (l.sub off (m - off)) (cond (Nat.ble r.len (off + n - m)) r (r.sub 0 (off + n - m))))))).ok ∧
      (cond (Nat.ble m off) (r.sub (off - m) n)
      (cond (Nat.ble (off + n) m) (cond (Nat.beq off 0) (cond (Nat.beq n m) l (l.sub off n)) (l.sub off n))
        (cond (Nat.beq off 0)
          (cond (Nat.ble r.len (n - m)) (cat m l r) (cat m l (r.sub 0 (n - m))))
          (cat (m - off) (l.sub off (m - off)) (cond (Nat.ble r.len (off + n - m)) r (r.sub 0 (off + n - m))))))).toL = _
    simp only [Bool.cond_eq_ite, Nat.beq_eq, Nat.ble_eq, toL_cat]
    by_cases a1 : m ≤ off
    · rw [if_pos a1]
      obtain ⟨o, e⟩ := ihr (off - m) n h3
      exact ⟨o, by rw [e, List.drop_append, List.drop_eq_nil_of_le (as := l.toL) (by omega), List.nil_append, h1]⟩
    · rw [if_neg a1]
      by_cases a2 : off + n ≤ m
      · rw [if_pos a2]
        have key : ((l.toL ++ r.toL).drop off).take n = (l.toL.drop off).take n := by
          rw [List.drop_append_of_le_length (by omega), List.take_append_of_le_length (by simp; omega)]
        rw [key]
        by_cases a3 : off = 0
        · rw [if_pos a3]
          by_cases a4 : n = m
          · rw [if_pos a4]
            refine ⟨h2, ?_⟩
            subst a3; rw [List.drop_zero, List.take_of_length_le (by omega)]
          · rw [if_neg a4]; exact ihl off n h2
        · rw [if_neg a3]; exact ihl off n h2
      · rw [if_neg a2]
        have key : ((l.toL ++ r.toL).drop off).take n = l.toL.drop off ++ r.toL.take (off + n - m) := by
          rw [List.drop_append_of_le_length (by omega), List.take_append, List.take_of_length_le (by simp; omega)]
          congr 2; simp; omega
        rw [key]
        by_cases a3 : off = 0
        · subst a3
          rw [if_pos rfl]
          have e0 : 0 + n - m = n - m := by omega
          rw [e0, List.drop_zero]
          by_cases a4 : r.len ≤ n - m
          · rw [if_pos a4]; exact ⟨⟨h1, h2, h3⟩, by rw [toL_cat, List.take_of_length_le (by omega)]⟩
          · rw [if_neg a4]
            obtain ⟨o, e⟩ := ihr 0 (n - m) h3
            exact ⟨⟨h1, h2, o⟩, by rw [toL_cat, e, List.drop_zero]⟩
        · rw [if_neg a3]
          obtain ⟨o, e⟩ := ihl off (m - off) h2
          have e2 : (l.toL.drop off).take (m - off) = l.toL.drop off := List.take_of_length_le (by simp; omega)
          by_cases a4 : r.len ≤ off + n - m
          · rw [if_pos a4]
            exact ⟨⟨by rw [e, e2]; simp; omega, o, h3⟩, by rw [toL_cat, e, e2, List.take_of_length_le (by omega)]⟩
          · rw [if_neg a4]
            obtain ⟨o', e'⟩ := ihr 0 (off + n - m) h3
            exact ⟨⟨by rw [e, e2]; simp; omega, o, o'⟩, by rw [toL_cat, e, e2, e', List.drop_zero]⟩

/-- the cells from 'off' on become those of 's' ('n' of them) -/
def put (r : Rp α) : Nat → Nat → Rp α → Rp α :=
  Rp.rec (fun _ _ _ => nil) (fun x off n s => cond (Nat.beq off 0) (cond (Nat.beq n 1) s (one x)) (one x))
    (fun m x off n s => (rep off x).app (s.app (rep (m - (off + n)) x)))
    (fun m l r pl pr off n s => cond (Nat.ble m off) (cat m l (pr (off - m) n s))
      (cond (Nat.ble (off + n) m) (cat m (pl off n s) r)
        (cond (Nat.beq off 0) (cond (Nat.ble r.len (n - m)) s (cat m (s.sub 0 m) (pr 0 (n - m) (s.sub m (n - m)))))
          (cat m (pl off (m - off) (s.sub 0 (m - off))) (pr 0 (off + n - m) (s.sub (m - off) (off + n - m))))))) r
theorem put_spec (r : Rp α) : ∀ (off n : Nat) (s : Rp α), r.ok → s.ok → s.toL.length = n → off + n ≤ r.toL.length →
    (r.put off n s).ok ∧ (r.put off n s).toL = r.toL.take off ++ (s.toL ++ r.toL.drop (off + n)) := by
  induction r with
  | nil =>
    intro off n s _ hs hn h
    simp at h
    obtain ⟨rfl, rfl⟩ := h
    refine ⟨trivial, ?_⟩
    have := List.eq_nil_of_length_eq_zero hn
    simp [put, this]
  | one x =>
    intro off n s _ hs hn h
    show (cond (Nat.beq off 0) (cond (Nat.beq n 1) s (one x)) (one x)).ok ∧ (cond (Nat.beq off 0) (cond (Nat.beq n 1) s (one x)) (one x)).toL = _
    simp only [Bool.cond_eq_ite, Nat.beq_eq]
    simp at h
    by_cases h1 : off = 0
    · subst h1
      rw [if_pos rfl]
      by_cases h2 : n = 1
      · subst h2; rw [if_pos rfl]; exact ⟨hs, by simp⟩
      · obtain rfl : n = 0 := by omega
        rw [if_neg h2]
        refine ⟨trivial, ?_⟩
        have := List.eq_nil_of_length_eq_zero hn
        simp [this]
    · obtain rfl : n = 0 := by omega
      obtain rfl : off = 1 := by omega
      rw [if_neg h1]
      refine ⟨trivial, ?_⟩
      have := List.eq_nil_of_length_eq_zero hn
      simp [this]
  | rep m x =>
    intro off n s _ hs hn h
    simp at h
    show ((rep off x).app (s.app (rep (m - (off + n)) x))).ok ∧ ((rep off x).app (s.app (rep (m - (off + n)) x))).toL = _
    obtain ⟨o1, e1⟩ := app_spec s (rep (m - (off + n)) x) hs trivial
    obtain ⟨o2, e2⟩ := app_spec (rep off x) _ trivial o1
    refine ⟨o2, ?_⟩
    rw [e2, e1]
    simp [List.take_replicate, List.drop_replicate]
    congr 1; omega
  | cat m l r ihl ihr =>
    intro off n s h hs hn hle
    obtain ⟨h1, h2, h3⟩ := h
    have hlen := len_eq r h3
    simp only [toL_cat, List.length_append] at hle
    show (cond (Nat.ble m off) (cat m l (r.put (off - m) n s))
      (cond (Nat.ble (off + n) m) (cat m (l.put off n s) r)
        (cond (Nat.beq off 0) (cond (Nat.ble r.len (n - m)) s (cat m (s.sub 0 m) (r.put 0 (n - m) (s.sub m (n - m)))))
          (cat m (l.put off (m - off) (s.sub 0 (m - off))) (r.put 0 (off + n - m) (s.sub (m - off) (off + n - m))))))).ok ∧
     (cond (Nat.ble m off) (cat m l (r.put (off - m) n s))
      (cond (Nat.ble (off + n) m) (cat m (l.put off n s) r)
        (cond (Nat.beq off 0) (cond (Nat.ble r.len (n - m)) s (cat m (s.sub 0 m) (r.put 0 (n - m) (s.sub m (n - m)))))
          (cat m (l.put off (m - off) (s.sub 0 (m - off))) (r.put 0 (off + n - m) (s.sub (m - off) (off + n - m))))))).toL = _
    simp only [Bool.cond_eq_ite, Nat.beq_eq, Nat.ble_eq, toL_cat]
    by_cases a1 : m ≤ off
    · rw [if_pos a1]
      obtain ⟨o, e⟩ := ihr (off - m) n s h3 hs hn (by omega)
      refine ⟨⟨h1, h2, o⟩, ?_⟩
      rw [toL_cat, e, List.take_append, List.take_of_length_le (l := l.toL) (by omega), List.drop_append, List.drop_eq_nil_of_le (as := l.toL) (by omega), List.append_assoc, ← h1]
      rw [List.nil_append, show off - m + n = off + n - m by omega]
    · rw [if_neg a1]
      by_cases a2 : off + n ≤ m
      · rw [if_pos a2]
        obtain ⟨o, e⟩ := ihl off n s h2 hs hn (by omega)
        refine ⟨⟨by rw [e]; simp; omega, o, h3⟩, ?_⟩
        rw [toL_cat, e, List.take_append_of_le_length (by omega), List.drop_append_of_le_length (by omega)]
        simp
      · rw [if_neg a2]
        by_cases a3 : off = 0
        · subst a3
          rw [if_pos rfl]
          by_cases a4 : r.len ≤ n - m
          · rw [if_pos a4]
            refine ⟨hs, ?_⟩
            rw [List.drop_eq_nil_of_le (by simp; omega)]
            simp
          · rw [if_neg a4]
            obtain ⟨o1, e1⟩ := sub_spec s 0 m hs
            obtain ⟨o2, e2⟩ := sub_spec s m (n - m) hs
            obtain ⟨o, e⟩ := ihr 0 (n - m) _ h3 o2 (by rw [e2]; simp; omega) (by omega)
            refine ⟨⟨by rw [e1]; simp; omega, o1, o⟩, ?_⟩
            rw [toL_cat, e, e1, e2, List.drop_append, List.drop_eq_nil_of_le (as := l.toL) (by omega)]
            rw [List.take_of_length_le (l := s.toL.drop m) (by simp; omega)]
            simp only [List.drop_zero, List.take_zero, List.nil_append, ← List.append_assoc]
            rw [List.take_append_drop]
            congr 2; omega
        · rw [if_neg a3]
          obtain ⟨o1, e1⟩ := sub_spec s 0 (m - off) hs
          obtain ⟨o2, e2⟩ := sub_spec s (m - off) (off + n - m) hs
          obtain ⟨o, e⟩ := ihr 0 (off + n - m) _ h3 o2 (by rw [e2]; simp; omega) (by omega)
          obtain ⟨o', e'⟩ := ihl off (m - off) _ h2 o1 (by rw [e1]; simp; omega) (by omega)
          refine ⟨⟨by rw [e', e1]; simp; omega, o', o⟩, ?_⟩
          rw [toL_cat, e, e', e1, e2, List.drop_append, List.drop_eq_nil_of_le (as := l.toL) (by omega)]
          rw [List.take_of_length_le (l := s.toL.drop (m - off)) (by simp; omega), List.take_append_of_le_length (by omega)]
          rw [List.drop_eq_nil_of_le (as := l.toL) (by omega)]
          simp only [List.drop_zero, List.take_zero, List.nil_append, List.append_nil, List.append_assoc]
          rw [← List.append_assoc (s.toL.take (m - off)), List.take_append_drop]
          congr 3; omega

/-- a row out of a list: a balanced tree -/
def pairUp (l : List (Nat × Rp α)) : List (Nat × Rp α) :=
  match l with
  | a :: b :: rest => (a.1 + b.1, cat a.1 a.2 b.2) :: pairUp rest
  | l => l
def itemsOk (l : List (Nat × Rp α)) : Prop := ∀ x ∈ l, x.1 = x.2.toL.length ∧ x.2.ok
theorem pairUp_spec : ∀ (l : List (Nat × Rp α)), itemsOk l → itemsOk (pairUp l) ∧ (pairUp l).flatMap (·.2.toL) = l.flatMap (·.2.toL)
  | [], h => ⟨h, rfl⟩
  | [a], h => ⟨h, rfl⟩
  | a :: b :: rest, h => by
    have ha := h a (by simp)
    have hb := h b (by simp)
    obtain ⟨h1, h2⟩ := pairUp_spec rest (fun x hx => h x (by simp [hx]))
    refine ⟨fun x hx => ?_, ?_⟩
    · simp only [pairUp, List.mem_cons] at hx
      rcases hx with rfl | hx
      · exact ⟨by simp [ha.1, hb.1], ha.1, ha.2, hb.2⟩
      · exact h1 x hx
    · simp [pairUp, h2]
def build (f : Nat) : List (Nat × Rp α) → Rp α :=
  Nat.rec (fun l => l.foldr (fun x r => x.2.app r) nil) (fun _ ih l => match l with | [] => nil | [a] => a.2 | l => ih (pairUp l)) f
theorem build_succ (f : Nat) (l : List (Nat × Rp α)) : build (f + 1) l = match l with | [] => nil | [a] => a.2 | l => build f (pairUp l) := rfl
theorem build_spec (f : Nat) : ∀ (l : List (Nat × Rp α)), itemsOk l → (build f l).ok ∧ (build f l).toL = l.flatMap (·.2.toL) := by
  induction f with
  | zero =>
    intro l
    show itemsOk l → (l.foldr (fun x r => x.2.app r) nil).ok ∧ (l.foldr (fun x r => x.2.app r) nil).toL = _
    induction l with
    | nil => intro _; exact ⟨trivial, rfl⟩
    | cons a l ih =>
      intro h
      obtain ⟨o, e⟩ := ih (fun x hx => h x (by simp [hx]))
      obtain ⟨o', e'⟩ := app_spec a.2 _ (h a (by simp)).2 o
      exact ⟨o', by simp only [List.foldr_cons]; rw [e', e]; simp⟩
  | succ f ih =>
    intro l h
    rw [build_succ]
    match l, h with
    | [], _ => exact ⟨trivial, rfl⟩
    | [a], h => exact ⟨(h a (by simp)).2, by simp⟩
    | a :: b :: rest, h =>
      obtain ⟨h1, h2⟩ := pairUp_spec _ h
      obtain ⟨o, e⟩ := ih _ h1
      exact ⟨o, by rw [← h2, ← e]⟩
def ofL (l : List α) : Rp α := build 40 (l.map fun x => (1, one x))
theorem ofL_spec (l : List α) : (ofL l).ok ∧ (ofL l).toL = l := by
  obtain ⟨o, e⟩ := build_spec 40 (l.map fun x => ((1, one x) : Nat × Rp α)) (fun x hx => by
    simp at hx; obtain ⟨y, _, rfl⟩ := hx; exact ⟨rfl, trivial⟩)
  refine ⟨o, ?_⟩
  unfold ofL
  rw [e]
  clear o e
  induction l with
  | nil => rfl
  | cons a l ih => simpa using ih
end Rp

/-! ### tries -/
inductive T (α : Type) where
  | lf
  | nd (l : T α) (v : Option α) (r : T α)
namespace T
variable {α : Type}
def get (t : T α) : Nat → Option α :=
  T.rec (fun _ => none) (fun _ v _ gl gr i => Nat.rec v (fun k _ => cond (Nat.beq (k % 2) 0) (gl (k / 2)) (gr (k / 2))) i) t
def sing (v : Option α) (f : Nat) : Nat → T α :=
  Nat.rec (fun _ => .nd .lf v .lf) (fun _ ih i => Nat.rec (.nd .lf v .lf) (fun k _ => cond (Nat.beq (k % 2) 0) (.nd (ih (k / 2)) none .lf) (.nd .lf none (ih (k / 2)))) i) f
def upd (t : T α) : Nat → Option α → T α :=
  T.rec (fun i v => sing v i i) (fun l w r ul ur i v => Nat.rec (.nd l v r) (fun k _ => cond (Nat.beq (k % 2) 0) (.nd (ul (k / 2) v) w r) (.nd l w (ur (k / 2) v))) i) t
theorem get_nd_zero (l : T α) (v : Option α) (r : T α) : (nd l v r).get 0 = v := rfl
theorem get_nd_succ (l : T α) (v : Option α) (r : T α) (k : Nat) : (nd l v r).get (k + 1) = cond (Nat.beq (k % 2) 0) (l.get (k / 2)) (r.get (k / 2)) := rfl
theorem get_lf (i : Nat) : (lf : T α).get i = none := rfl
theorem sing_zero (v : Option α) (i : Nat) : sing v 0 i = .nd .lf v .lf := rfl
theorem sing_succ_zero (v : Option α) (f : Nat) : sing v (f + 1) 0 = .nd .lf v .lf := rfl
theorem sing_succ_succ (v : Option α) (f k : Nat) : sing v (f + 1) (k + 1) = cond (Nat.beq (k % 2) 0) (.nd (sing v f (k / 2)) none .lf) (.nd .lf none (sing v f (k / 2))) := rfl
theorem upd_lf (i : Nat) (v : Option α) : (lf : T α).upd i v = sing v i i := rfl
theorem upd_nd_zero (l : T α) (w : Option α) (r : T α) (v : Option α) : (nd l w r).upd 0 v = nd l v r := rfl
theorem upd_nd_succ (l : T α) (w : Option α) (r : T α) (k : Nat) (v : Option α) : (nd l w r).upd (k + 1) v = cond (Nat.beq (k % 2) 0) (.nd (l.upd (k / 2) v) w r) (.nd l w (r.upd (k / 2) v)) := rfl
theorem get_sing (v : Option α) (f : Nat) : ∀ (i j : Nat), i ≤ f → (sing v f i).get j = if j = i then v else none := by
  induction f with
  | zero =>
    intro i j h
    obtain rfl : i = 0 := by omega
    rw [sing_zero]
    cases j with
    | zero => simp [get_nd_zero]
    | succ k => rw [get_nd_succ, if_neg (by omega)]; cases Nat.beq (k % 2) 0 <;> rfl
  | succ f ih =>
    intro i j h
    cases i with
    | zero =>
      rw [sing_succ_zero]
      cases j with
      | zero => simp [get_nd_zero]
      | succ k => rw [get_nd_succ, if_neg (by omega)]; cases Nat.beq (k % 2) 0 <;> rfl
    | succ i =>
      rw [sing_succ_succ]
      have hI := fun m => ih (i / 2) m (by omega)
      cases j with
      | zero => rw [if_neg (by omega)]; cases Nat.beq (i % 2) 0 <;> rfl
      | succ k =>
        cases h1 : Nat.beq (i % 2) 0 <;> cases h2 : Nat.beq (k % 2) 0 <;> simp only [cond_true, cond_false, get_nd_succ, h2, hI, get_lf]
        · have a1 : i % 2 ≠ 0 := fun e => by rw [e] at h1; cases h1
          have a2 : k % 2 ≠ 0 := fun e => by rw [e] at h2; cases h2
          by_cases hk : k = i
          · subst hk; simp
          · rw [if_neg (by omega), if_neg (by omega)]
        · have a1 : i % 2 ≠ 0 := fun e => by rw [e] at h1; cases h1
          have a2 : k % 2 = 0 := Nat.eq_of_beq_eq_true h2
          rw [if_neg (by omega)]
        · have a1 : i % 2 = 0 := Nat.eq_of_beq_eq_true h1
          have a2 : k % 2 ≠ 0 := fun e => by rw [e] at h2; cases h2
          rw [if_neg (by omega)]
        · have a1 : i % 2 = 0 := Nat.eq_of_beq_eq_true h1
          have a2 : k % 2 = 0 := Nat.eq_of_beq_eq_true h2
          by_cases hk : k = i
          · subst hk; simp
          · rw [if_neg (by omega), if_neg (by omega)]
theorem get_upd (t : T α) : ∀ (i j : Nat) (v : Option α), (t.upd i v).get j = if j = i then v else t.get j := by
  induction t with
  | lf => intro i j v; rw [upd_lf, get_sing v i i j (Nat.le_refl _)]; rfl
  | nd l w r ihl ihr =>
    intro i j v
    cases i with
    | zero =>
      rw [upd_nd_zero]
      cases j with
      | zero => simp [get_nd_zero]
      | succ k => rw [if_neg (by omega)]; rfl
    | succ i =>
      rw [upd_nd_succ]
      cases j with
      | zero => rw [if_neg (by omega)]; cases Nat.beq (i % 2) 0 <;> rfl
      | succ k =>
        cases h1 : Nat.beq (i % 2) 0 <;> cases h2 : Nat.beq (k % 2) 0 <;> simp only [cond_true, cond_false, get_nd_succ, h2, ihl, ihr]
        · have a1 : i % 2 ≠ 0 := fun e => by rw [e] at h1; cases h1
          have a2 : k % 2 ≠ 0 := fun e => by rw [e] at h2; cases h2
          by_cases hk : k = i
          · subst hk; simp
          · rw [if_neg (by omega), if_neg (by omega)]
        · have a1 : i % 2 ≠ 0 := fun e => by rw [e] at h1; cases h1
          have a2 : k % 2 = 0 := Nat.eq_of_beq_eq_true h2
          rw [if_neg (by omega)]
        · have a1 : i % 2 = 0 := Nat.eq_of_beq_eq_true h1
          have a2 : k % 2 ≠ 0 := fun e => by rw [e] at h2; cases h2
          rw [if_neg (by omega)]
        · have a1 : i % 2 = 0 := Nat.eq_of_beq_eq_true h1
          have a2 : k % 2 = 0 := Nat.eq_of_beq_eq_true h2
          by_cases hk : k = i
          · subst hk; simp
          · rw [if_neg (by omega), if_neg (by omega)]
end T
end
end Go.Jt
