/-
  Rows of tasks that point to the next one; wants.
-/
import Derived.Test.YtlhlgmodhblplaaJtOwn2
import Derived.Test.YtlhlgmodhblplaaJtWin
set_option autoImplicit false
set_option linter.all false
set_option maxHeartbeats 2000000
namespace Go.Jt
noncomputable section
variable [Gl]
abbrev Wt := Int × Bool
def wAt (ws : List Wt) (i : Nat) : Wt := ws.getD i (0, false)
def wrow (ws : List Wt) : List (List AV) := ws.map fun w => [.int .i64 w.1, .bool w.2]
theorem wrow_len (ws : List Wt) : (wrow ws).length = ws.length := by simp [wrow]
theorem wAt_get {ws : List Wt} {i : Nat} (h : i < ws.length) : ws[i]? = some (wAt ws i) := by simp [wAt, h]
theorem wrow_get {ws : List Wt} {i : Nat} (h : i < ws.length) : (wrow ws)[i]? = some [.int .i64 (wAt ws i).1, .bool (wAt ws i).2] := by simp [wrow, wAt_get h]
theorem wrow_two {ws : List Wt} : ∀ x ∈ wrow ws, x.length = 2 := by
  intro x hx
  obtain ⟨w, _, rfl⟩ := List.mem_map.1 hx
  rfl
theorem wAt_mem {ws : List Wt} {i : Nat} (h : i < ws.length) : wAt ws i ∈ ws := List.mem_of_getElem? (wAt_get h)
theorem mem_wAt {ws : List Wt} {w : Wt} (h : w ∈ ws) : ∃ i, i < ws.length ∧ wAt ws i = w := by
  obtain ⟨i, hi, e⟩ := List.getElem_of_mem h
  exact ⟨i, hi, by simp [wAt, hi, e]⟩
/-- does a want clash with another one? -/
def clw (w x : Wt) : Bool := decide (w.1 = x.1) && (w.2 || x.2)
theorem clw_comm (w x : Wt) : clw w x = clw x w := by
  unfold clw
  rw [Bool.or_comm, show decide (w.1 = x.1) = decide (x.1 = w.1) from decide_eq_decide.2 ⟨Eq.symm, Eq.symm⟩]
/-- do wants of two tasks clash? -/
def Cls (a b : List Wt) : Prop := ∃ w ∈ a, ∃ x ∈ b, clw w x = true
theorem Cls.comm {a b : List Wt} (h : Cls a b) : Cls b a := by
  obtain ⟨w, hw, x, hx, h⟩ := h
  exact ⟨x, hx, w, hw, by rw [clw_comm]; exact h⟩
/-- one that stands in the row -/
structure Tk where
  b : Nat
  n : Int
  v : AV
  ws : List Wt
  has : Bool
def hdQ : List Tk → AV → AV
  | [], t => t
  | x :: _, _ => .ptr x.b 0
def Tk.C (x : Tk) (nx : AV) : List AV := [.int .i64 x.n, x.v, .bool x.has, nx]
def rowS : List Tk → AV → List Hl
  | [], _ => []
  | x :: xs, t => .loc x.b (x.C (hdQ xs t)) :: rowS xs t
theorem hdQ_app (a b : List Tk) (t : AV) : hdQ (a ++ b) t = hdQ a (hdQ b t) := by cases a <;> rfl
theorem rowS_app (a b : List Tk) (t : AV) : rowS (a ++ b) t = rowS a (hdQ b t) ++ rowS b t := by
  induction a with
  | nil => rfl
  | cons x a ih =>
    show .loc x.b (x.C (hdQ (a ++ b) t)) :: rowS (a ++ b) t = .loc x.b (x.C (hdQ a (hdQ b t))) :: (rowS a (hdQ b t) ++ rowS b t)
    rw [hdQ_app, ih]
def tkAt (l : List Tk) (i : Nat) : Tk := l.getD i ⟨0, 0, .nils, [], false⟩
theorem tkAt_get {l : List Tk} {i : Nat} (h : i < l.length) : l[i]? = some (tkAt l i) := by simp [tkAt, h]
theorem row_split {l : List Tk} {i : Nat} (h : i < l.length) : l = l.take i ++ tkAt l i :: l.drop (i + 1) := by
  have e : tkAt l i = l[i] := by simp [tkAt, h]
  rw [e, ← List.drop_eq_getElem_cons h, List.take_append_drop]
theorem row_mem {l : List Tk} {i : Nat} (h : i < l.length) (t : AV) : Hl.loc (tkAt l i).b ((tkAt l i).C (hdQ (l.drop (i + 1)) t)) ∈ rowS l t := by
  have e := row_split h
  have e2 : rowS l t = rowS (l.take i ++ tkAt l i :: l.drop (i + 1)) t := by rw [← e]
  rw [e2, rowS_app]
  exact List.mem_append_right _ List.mem_cons_self
theorem hdQ_drop {l : List Tk} {i : Nat} (t : AV) : hdQ (l.drop i) t = if i < l.length then .ptr (tkAt l i).b 0 else t := by
  by_cases h : i < l.length
  · have e : tkAt l i = l[i] := by simp [tkAt, h]
    rw [if_pos h, List.drop_eq_getElem_cons h, e]
    rfl
  · rw [if_neg h, List.drop_of_length_le (by omega)]
    rfl
section
variable {H : AH} {Z : Fz} {l : List Hl} {env : Env}
/-- a cell of a block that is somewhere in the heap -/
theorem s_ldm {a : Od} {b off : Nat} {L : List AV} {v : AV} (hs : Sat H Z l) (hm : Hl.cells b L ∈ l) (hv : L[off]? = some v) (ha : ev env a = .ptr b off := by rfl) (K : AV → AH → Bool) : xop (.ld1 a) env H K = K v H := by
  obtain ⟨R, st, h1, h2, h3⟩ := hs.on _ hm
  exact w_ld1 ha h3 (by rw [Rp.get_eq R h1, h2]; exact hv) K
/-- what stands in a cell -/
def Rd (H : AH) (b off : Nat) (v : AV) : Prop := ∀ {env : Env} {a : Od}, ev env a = .ptr b off → ∀ K : AV → AH → Bool, xop (.ld1 a) env H K = K v H
theorem Sat.rd {b off : Nat} {L : List AV} {v : AV} (hs : Sat H Z l) (hm : Hl.cells b L ∈ l) (hv : L[off]? = some v) : Rd H b off v := fun ha K => s_ldm hs hm hv ha K
theorem o_ldm {a : Od} {b off : Nat} {L : List AV} {v : AV} (hs : Sat H Z l) (hm : Hl.loc b L ∈ l) (hv : L[off]? = some v) (ha : ev env a = .ptr b off := by rfl) (K : AV → AH → Bool) : xop (.ld1 a) env H K = K v H := by
  obtain ⟨R, h1, h2, h3⟩ := hs.on _ hm
  exact w_ld1 ha h3 (by rw [Rp.get_eq R h1, h2]; exact hv) K
theorem Sat.rdo {b off : Nat} {L : List AV} {v : AV} (hs : Sat H Z l) (hm : Hl.loc b L ∈ l) (hv : L[off]? = some v) : Rd H b off v := fun ha K => o_ldm hs hm hv ha K
theorem o_stm {l₁ l₂ : List Hl} {b off : Nat} {L : List AV} (hs : Sat H Z (l₁ ++ (.loc b L :: l₂))) (v : AV) (ho : off < L.length) (hv : v.sc = true) :
    ∃ H', Sat H' Z (l₁ ++ (.loc b (L.set off v) :: l₂)) ∧ ∀ {env : Env} {a x : Od}, ev env a = .ptr b off → ev env x = v → ∀ K : AV → AH → Bool, xop (.st 1 a x) env H K = K .undef H' := by
  have h1 : Sat H Z (.loc b L :: (l₁ ++ l₂)) := hs.perm List.perm_middle
  obtain ⟨R, g1, g2, g3⟩ := h1.getAt 0 rfl
  obtain ⟨q1, q2⟩ := Rp.set_spec R off v g1
  have h2 : Sat (H.set b (.cells (R.set off v) false false)) Z (.loc b (L.set off v) :: (l₁ ++ l₂)) := h1.upd rfl (fun c hc => get_set_ne hc) rfl ⟨_, q1, by rw [q2, g2], get_set_here ..⟩
  refine ⟨_, h2.perm List.perm_middle.symm, fun {env a x} ha hx K => ?_⟩
  exact w_st1 ha hx hv g3 (Nat.ble_eq_true_of_le (by rw [Rp.len_eq R g1, g2]; exact ho)) K
/-- a new block of one's own -/
theorem o_boxn {r : Rp AV} {L : List AV} (hs : Sat H Z l) (hr : RL r L) : ∃ b H', Sat H' Z (.loc b L :: l) ∧ ∀ {env : Env} {x : Od} (hx : ev env x = .agg r) (K : AV → AH → Bool), xop (.box x) env H K = K (.ptr b 0) H' :=
  ⟨_, H.new (.cells r false false), hs.new rfl ⟨r, hr.1, hr.2, get_new_here ..⟩, fun {env x} hx K => by simp only [xop, hx, boxed, alc, anew_eq]⟩
/-- a cell written, of a block that is somewhere in the heap -/
theorem s_stm {l₁ l₂ : List Hl} {b off : Nat} {L : List AV} (hs : Sat H Z (l₁ ++ (.cells b L :: l₂))) (v : AV) (ho : off < L.length) (hv : v.sc = true) :
    ∃ H', Sat H' Z (l₁ ++ (.cells b (L.set off v) :: l₂)) ∧ ∀ {env : Env} {a x : Od}, ev env a = .ptr b off → ev env x = v → ∀ K : AV → AH → Bool, xop (.st 1 a x) env H K = K .undef H' := by
  have h1 : Sat H Z (.cells b L :: (l₁ ++ l₂)) := hs.perm List.perm_middle
  obtain ⟨H', h2, h3⟩ := s_st h1 off v ho hv
  exact ⟨H', h2.perm List.perm_middle.symm, fun ha hx K => h3 ha hx K⟩
end
/-- a block that is no other one's -/
def NS (H : AH) (b : Nat) : Prop := ∃ R, H.get b = some (.cells R false false)
theorem Sat.ns {H : AH} {Z : Fz} {l : List Hl} {b : Nat} {L : List AV} (hs : Sat H Z l) (hm : Hl.loc b L ∈ l) : NS H b := by
  obtain ⟨R, _, _, h⟩ := hs.on _ hm
  exact ⟨R, h⟩
theorem beqF {a b : Nat} (h : ¬ a = b) : Nat.beq a b = false := by
  cases hb : Nat.beq a b with
  | false => rfl
  | true => exact absurd (Nat.eq_of_beq_eq_true hb) h
theorem ptr_eqlF {H : AH} {a b o : Nat} (ha : NS H a) (hb : NS H b) (h : ¬ a = b) (K : AV → Bool) : bin .eql 2 H (.ptr a o) (.ptr b o) K = K (.bool false) := by
  obtain ⟨R, ha⟩ := ha
  obtain ⟨S, hb⟩ := hb
  show cond (Nat.beq 2 2) (eqv H (.ptr a o) (.ptr b o) fun t => K (.bool t)) false = _
  simp only [Nat.beq_refl, cond_true, eqv, beqF h, cond_false, gcell, ha, hb]
theorem ptr_eqlT {H : AH} {a o : Nat} (K : AV → Bool) : bin .eql 2 H (.ptr a o) (.ptr a o) K = K (.bool true) := by
  show cond (Nat.beq 2 2) (eqv H (.ptr a o) (.ptr a o) fun t => K (.bool t)) false = _
  simp only [Nat.beq_refl, cond_true, eqv]
theorem ptr_neqF {H : AH} {a b o : Nat} (ha : NS H a) (hb : NS H b) (h : ¬ a = b) (K : AV → Bool) : bin .neq 2 H (.ptr a o) (.ptr b o) K = K (.bool true) := by
  obtain ⟨R, ha⟩ := ha
  obtain ⟨S, hb⟩ := hb
  show cond (Nat.beq 2 2) (eqv H (.ptr a o) (.ptr b o) fun t => K (.bool (!t))) false = _
  simp only [Nat.beq_refl, cond_true, eqv, beqF h, cond_false, gcell, ha, hb]
  rfl
theorem ptr_neqT {H : AH} {a o : Nat} (K : AV → Bool) : bin .neq 2 H (.ptr a o) (.ptr a o) K = K (.bool false) := by
  show cond (Nat.beq 2 2) (eqv H (.ptr a o) (.ptr a o) fun t => K (.bool (!t))) false = _
  simp only [Nat.beq_refl, cond_true, eqv]
  rfl
/-- the pointers of a row -/
def atP (ids : List Nat) (j : Nat) : AV := if j < ids.length then .ptr (ids.getD j 0) 0 else .nilp
theorem atP_lt {ids : List Nat} {j : Nat} (h : j < ids.length) : atP ids j = .ptr (ids.getD j 0) 0 := if_pos h
theorem atP_ge {ids : List Nat} {j : Nat} (h : ¬ j < ids.length) : atP ids j = .nilp := if_neg h
def idsOf (l : List Tk) : List Nat := l.map (·.b)
theorem ids_len (l : List Tk) : (idsOf l).length = l.length := by simp [idsOf]
theorem ids_at {l : List Tk} {j : Nat} (h : j < l.length) : (idsOf l).getD j 0 = (tkAt l j).b := by simp [idsOf, tkAt, h]
theorem atP_row (l : List Tk) (j : Nat) : atP (idsOf l) j = hdQ (l.drop j) .nilp := by
  rw [hdQ_drop]
  unfold atP
  rw [ids_len]
  by_cases h : j < l.length
  · rw [if_pos h, if_pos h, ids_at h]
  · rw [if_neg h, if_neg h]
/-! ### at the row's end -/
def atQ (t : Nat) (row : List Tk) : Nat → AV
  | 0 => .ptr t 0
  | j + 1 => .ptr (tkAt row j).b 3
theorem atQ_sc (t : Nat) (row : List Tk) (j : Nat) : (atQ t row j).sc = true := by cases j <;> rfl
theorem hdQ_sc (row : List Tk) {t : AV} (ht : t.sc = true) : (hdQ row t).sc = true := by cases row <;> first | exact ht | rfl
section
variable {H : AH} {Z : Fz} {F : List Hl} {t : Nat} {row : List Tk} {c tl : AV}
theorem rd_at {l : List Hl} (hs : Sat H Z l) (ht : Hl.cells t [hdQ row tl, c] ∈ l) (hr : ∀ x ∈ rowS row tl, x ∈ l) {j : Nat} (hj : j ≤ row.length) {env : Env} {a : Od} (ha : ev env a = atQ t row j) (K : AV → AH → Bool) : xop (.ld1 a) env H K = K (hdQ (row.drop j) tl) H := by
  cases j with
  | zero => exact s_ldm hs ht rfl ha K
  | succ j => exact o_ldm hs (hr _ (row_mem (by omega) tl)) rfl ha K
theorem take_last {row : List Tk} {j : Nat} (h : row.length = j + 1) : row = row.take j ++ [tkAt row j] := by
  have := row_split (l := row) (i := j) (by omega)
  rwa [List.drop_of_length_le (by omega)] at this
/-- the last one's pointer (or the table's) becomes another one -/
theorem link_at (hs : Sat H Z (.cells t [hdQ row tl, c] :: (rowS row tl ++ F))) (p : AV) (hp : p.sc = true) :
    ∃ H', Sat H' Z (.cells t [hdQ row p, c] :: (rowS row p ++ F)) ∧ ∀ {env : Env} {a x : Od}, ev env a = atQ t row row.length → ev env x = p → ∀ K : AV → AH → Bool, xop (.st 1 a x) env H K = K .undef H' := by
  cases h : row.length with
  | zero =>
    have : row = [] := List.eq_nil_of_length_eq_zero h
    subst this
    obtain ⟨H', h1, h2⟩ := s_st (L := [tl, c]) hs 0 p (by simp) hp
    exact ⟨H', h1, fun ha hx K => h2 ha hx K⟩
  | succ j =>
    have e := take_last h
    have e1 : ∀ q, rowS row q = rowS (row.take j) (.ptr (tkAt row j).b 0) ++ [.loc (tkAt row j).b ((tkAt row j).C q)] := by
      intro q
      have : rowS row q = rowS (row.take j ++ [tkAt row j]) q := by rw [← e]
      rw [this, rowS_app]
      rfl
    have e2 : ∀ q, hdQ row q = hdQ row .nilp := by
      intro q
      cases row with
      | nil => cases h
      | cons x xs => rfl
    rw [e1 tl, e2 tl] at hs
    rw [e1 p, e2 p]
    have h1 : Sat H Z ((.cells t [hdQ row .nilp, c] :: rowS (row.take j) (.ptr (tkAt row j).b 0)) ++ (.loc (tkAt row j).b ((tkAt row j).C tl) :: F)) := by
      have := hs
      simp only [List.append_assoc, List.cons_append, List.nil_append] at this ⊢
      exact this
    obtain ⟨H', h2, h3⟩ := o_stm (off := 3) h1 p (by simp [Tk.C]) hp
    refine ⟨H', ?_, fun ha hx K => h3 ha hx K⟩
    simp only [List.append_assoc, List.cons_append, List.nil_append] at h2 ⊢
    exact h2
end
theorem bin_nlT {H : AH} {x y : Od} {env : Env} {v : AV} (hv : v = .nils) (hx : ev env x = v) (hy : ev env y = .nils) (K : AV → AH → Bool) : xop (.bin .eql 3 x y) env H K = K (.bool true) H := by
  subst hv
  simp only [xop, hx, hy]
  rfl
theorem bin_nlF {Z : Fz} {es : Nat} {xs : List (List AV)} {H : AH} {x y : Od} {env : Env} {v : AV} (h : Fl Z es v xs) (hv : ¬ v = .nils) (hx : ev env x = v) (hy : ev env y = .nils) (K : AV → AH → Bool) : xop (.bin .eql 3 x y) env H K = K (.bool false) H := by
  simp only [xop, hx, hy]
  cases h with
  | nil => exact absurd rfl hv
  | slz b o e => rfl
  | slc b o c L xs hc hz ho hx => rfl
  | slu b o L xs hz ho hx => rfl
theorem nils_w {Z : Fz} {v : AV} {ws : List Wt} (h : Fl Z 2 v (wrow ws)) (hv : v = .nils) : Own 2 .nils ws.length (wrow ws).flatten [] := by
  subst hv
  generalize e : wrow ws = xs at h
  cases h
  cases ws with
  | nil => exact .nil
  | cons k ks => cases e
theorem src_w {H : AH} {Z : Fz} {l : List Hl} {v : AV} {ws : List Wt} (hs : Sat H Z l) (h : Fl Z 2 v (wrow ws)) : Src H 2 v ws.length (wrow ws).flatten := by
  have := src_fl hs h
  rw [wrow_len] at this
  exact this
/-- what Ask tells -/
inductive AskP (row : List Tk) (n : Int) (ws : List Wt) : Nat → Prop
  | arg (h : n < 0 ∨ 4 < ws.length) : AskP row n ws 1
  | bad (h0 : 0 ≤ n) (h4 : ws.length ≤ 4) (i : Nat) (hi : i < ws.length) (h : (wAt ws i).1 < 1 ∨ ∃ k, k < i ∧ (wAt ws k).1 = (wAt ws i).1) : AskP row n ws 1
  | twice (h0 : 0 ≤ n) (h4 : ws.length ≤ 4) (hg : ∀ i, i < ws.length → 1 ≤ (wAt ws i).1 ∧ ∀ k, k < i → ¬ (wAt ws k).1 = (wAt ws i).1) (j : Nat) (hj : j < row.length) (h : (tkAt row j).n = n) : AskP row n ws 6
  | full (h0 : 0 ≤ n) (h4 : ws.length ≤ 4) (hg : ∀ i, i < ws.length → 1 ≤ (wAt ws i).1 ∧ ∀ k, k < i → ¬ (wAt ws k).1 = (wAt ws i).1) (hn : ∀ j, j < row.length → ¬ (tkAt row j).n = n) (h : 16 ≤ row.length) : AskP row n ws 3
  | ok (h0 : 0 ≤ n) (h4 : ws.length ≤ 4) (hg : ∀ i, i < ws.length → 1 ≤ (wAt ws i).1 ∧ ∀ k, k < i → ¬ (wAt ws k).1 = (wAt ws i).1) (hn : ∀ j, j < row.length → ¬ (tkAt row j).n = n) (h : row.length < 16) : AskP row n ws 0
end
end Go.Jt
