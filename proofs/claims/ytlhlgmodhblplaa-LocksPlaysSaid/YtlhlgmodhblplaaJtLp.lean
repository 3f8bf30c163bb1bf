/-
  A task that is taken out of the row; those that have their wants by it.
-/
import Derived.Test.YtlhlgmodhblplaaJtLa
set_option autoImplicit false
set_option linter.all false
set_option maxHeartbeats 2000000
namespace Go.Jt
noncomputable section
variable [Gl]
def setHas (R : List Tk) (j : Nat) (b : Bool) : List Tk := R.set j { tkAt R j with has := b }
theorem setHas_len (R : List Tk) (j : Nat) (b : Bool) : (setHas R j b).length = R.length := by simp [setHas]
theorem setHas_at {R : List Tk} {j : Nat} (hj : j < R.length) (b : Bool) (q : Nat) : tkAt (setHas R j b) q = if q = j then { tkAt R j with has := b } else tkAt R q := by
  unfold setHas
  by_cases h : q = j
  · subst h
    rw [if_pos rfl]
    conv => lhs; unfold tkAt
    rw [List.getD_eq_getElem?_getD, List.getElem?_set_self hj]
    rfl
  · rw [if_neg h]
    unfold tkAt
    rw [List.getD_eq_getElem?_getD, List.getElem?_set_ne (fun e => h e.symm), List.getD_eq_getElem?_getD]
section
variable {H : AH} {Z : Fz} {F l : List Hl} {R : List Tk} {tl : AV} {j : Nat}
theorem set_has (hs : Sat H Z (l ++ (rowS R tl ++ F))) (hj : j < R.length) (b : Bool) :
    ∃ H', Sat H' Z (l ++ (rowS (setHas R j b) tl ++ F)) ∧ ∀ {env : Env} {a x : Od}, ev env a = .ptr (tkAt R j).b 2 → ev env x = .bool b → ∀ K : AV → AH → Bool, xop (.st 1 a x) env H K = K .undef H' := by
  have e := row_split hj
  have e2 : setHas R j b = R.take j ++ { tkAt R j with has := b } :: R.drop (j + 1) := by
    unfold setHas
    generalize tkAt R j = y at e
    conv => lhs; rw [e]
    rw [List.set_append, if_neg (by simp; omega), show j - (R.take j).length = 0 by simp; omega]
    rfl
  have r1 : rowS R tl = rowS (R.take j) (.ptr (tkAt R j).b 0) ++ (.loc (tkAt R j).b ((tkAt R j).C (hdQ (R.drop (j + 1)) tl)) :: rowS (R.drop (j + 1)) tl) := by
    have : rowS R tl = rowS (R.take j ++ tkAt R j :: R.drop (j + 1)) tl := by rw [← e]
    rw [this, rowS_app]
    rfl
  have r2 : rowS (setHas R j b) tl = rowS (R.take j) (.ptr (tkAt R j).b 0) ++ (.loc (tkAt R j).b (((tkAt R j).C (hdQ (R.drop (j + 1)) tl)).set 2 (.bool b)) :: rowS (R.drop (j + 1)) tl) := by
    rw [e2, rowS_app]
    rfl
  rw [r1] at hs
  have h1 : Sat H Z ((l ++ rowS (R.take j) (.ptr (tkAt R j).b 0)) ++ (.loc (tkAt R j).b ((tkAt R j).C (hdQ (R.drop (j + 1)) tl)) :: (rowS (R.drop (j + 1)) tl ++ F))) := by
    simp only [List.append_assoc, List.cons_append] at hs ⊢
    exact hs
  obtain ⟨H', h2, h3⟩ := o_stm (off := 2) h1 (.bool b) (by simp [Tk.C]) rfl
  refine ⟨H', ?_, fun ha hx K => h3 ha hx K⟩
  rw [r2]
  simp only [List.append_assoc, List.cons_append] at h2 ⊢
  exact h2
/-- one is taken out -/
theorem unlink {t : Nat} {c : AV} (hs : Sat H Z (.cells t [hdQ R .nilp, c] :: (rowS R .nilp ++ F))) (hj : j < R.length) :
    ∃ H', Sat H' Z (.cells t [hdQ (R.take j ++ R.drop (j + 1)) .nilp, c] :: (rowS (R.take j ++ R.drop (j + 1)) .nilp ++ F)) ∧ ∀ {env : Env} {a x : Od}, ev env a = atQ t R j → ev env x = hdQ (R.drop (j + 1)) .nilp → ∀ K : AV → AH → Bool, xop (.st 1 a x) env H K = K .undef H' := by
  have e := row_split hj
  have r1 : rowS R .nilp = rowS (R.take j) (.ptr (tkAt R j).b 0) ++ (.loc (tkAt R j).b ((tkAt R j).C (hdQ (R.drop (j + 1)) .nilp)) :: rowS (R.drop (j + 1)) .nilp) := by
    have : rowS R .nilp = rowS (R.take j ++ tkAt R j :: R.drop (j + 1)) .nilp := by rw [← e]
    rw [this, rowS_app]
    rfl
  have r0 : hdQ R .nilp = hdQ (R.take j) (.ptr (tkAt R j).b 0) := by
    have : hdQ R .nilp = hdQ (R.take j ++ tkAt R j :: R.drop (j + 1)) .nilp := by rw [← e]
    rw [this, hdQ_app]
    rfl
  rw [r1, r0, List.append_assoc] at hs
  obtain ⟨H', h1, h2⟩ := link_at hs (hdQ (R.drop (j + 1)) .nilp) (hdQ_sc _ rfl)
  have hlen : (R.take j).length = j := by simp; omega
  have hat : atQ t (R.take j) (R.take j).length = atQ t R j := by
    rw [hlen]
    cases j with
    | zero => rfl
    | succ q =>
      show AV.ptr (tkAt (R.take (q + 1)) q).b 3 = AV.ptr (tkAt R q).b 3
      have : tkAt (R.take (q + 1)) q = tkAt R q := by
        unfold tkAt
        rw [List.getD_eq_getElem?_getD, List.getD_eq_getElem?_getD, List.getElem?_take_of_lt (by omega)]
      rw [this]
  rw [hat] at h2
  refine ⟨H', ?_, fun ha hx K => h2 ha hx K⟩
  rw [hdQ_app, rowS_app, List.append_assoc]
  refine h1.sub (List.Sublist.cons₂ _ (List.Sublist.append_left ?_ _))
  exact List.sublist_cons_self _ _
end
/-! ### who has its wants by it -/
def gets (R : List Tk) (j : Nat) : Prop := (tkAt R j).has = false ∧ FreeT R j
open Classical in
def prom (R : List Tk) : Nat → List Tk
  | 0 => R
  | j + 1 => if gets R j then setHas (prom R j) j true else prom R j
open Classical in
def outs (R : List Tk) : Nat → List Int
  | 0 => []
  | j + 1 => if gets R j then outs R j ++ [(tkAt R j).n] else outs R j
section
variable {R : List Tk}
theorem prom_len (R : List Tk) (j : Nat) : (prom R j).length = R.length := by
  induction j with
  | zero => rfl
  | succ j ih => unfold prom; split <;> simp [setHas_len, ih]
theorem prom_at (R : List Tk) (j : Nat) (hj : j ≤ R.length) (q : Nat) : (tkAt (prom R j) q).b = (tkAt R q).b ∧ (tkAt (prom R j) q).n = (tkAt R q).n ∧ (tkAt (prom R j) q).v = (tkAt R q).v ∧ (tkAt (prom R j) q).ws = (tkAt R q).ws ∧ ((tkAt (prom R j) q).has = true ↔ (tkAt R q).has = true ∨ (q < j ∧ FreeT R q)) := by
  induction j with
  | zero => exact ⟨rfl, rfl, rfl, rfl, ⟨fun h => .inl h, fun h => h.resolve_right fun h => by omega⟩⟩
  | succ j ih =>
    obtain ⟨h1, h2, h3, h4, h5⟩ := ih (by omega)
    unfold prom
    by_cases hg : gets R j
    · rw [if_pos hg, setHas_at (by rw [prom_len]; omega)]
      by_cases hq : q = j
      · subst hq
        rw [if_pos rfl]
        exact ⟨h1, h2, h3, h4, ⟨fun _ => .inr ⟨by omega, hg.2⟩, fun _ => rfl⟩⟩
      · rw [if_neg hq]
        refine ⟨h1, h2, h3, h4, h5.trans ⟨fun h => h.imp_right fun ⟨a, b⟩ => ⟨by omega, b⟩, fun h => h.imp_right fun ⟨a, b⟩ => ⟨by omega, b⟩⟩⟩
    · rw [if_neg hg]
      refine ⟨h1, h2, h3, h4, h5.trans ⟨fun h => h.imp_right fun ⟨a, b⟩ => ⟨by omega, b⟩, fun h => ?_⟩⟩
      rcases h with h | ⟨a, b⟩
      · exact .inl h
      · by_cases hq : q = j
        · subst hq
          left
          cases hh : (tkAt R q).has with
          | true => rfl
          | false => exact absurd ⟨hh, b⟩ hg
        · exact .inr ⟨by omega, b⟩
theorem prom_has {j q : Nat} (hj : j ≤ R.length) (hq : j ≤ q) : (tkAt (prom R j) q).has = (tkAt R q).has := by
  have := (prom_at R j hj q).2.2.2.2
  cases h1 : (tkAt (prom R j) q).has <;> cases h2 : (tkAt R q).has <;> simp [h1, h2] at this ⊢ <;> omega
theorem prom_free {j q : Nat} (hj : j ≤ R.length) : FreeT (prom R j) q ↔ FreeT R q := by
  unfold FreeT
  constructor
  · intro h i hi
    have := h i hi
    rwa [(prom_at R j hj i).2.2.2.1, (prom_at R j hj q).2.2.2.1] at this
  · intro h i hi
    rw [(prom_at R j hj i).2.2.2.1, (prom_at R j hj q).2.2.2.1]
    exact h i hi
theorem prom_ids {j : Nat} (hj : j ≤ R.length) : idsOf (prom R j) = idsOf R := by
  apply List.ext_getElem?
  intro q
  by_cases hq : q < R.length
  · have e1 : (idsOf (prom R j))[q]? = some (tkAt (prom R j) q).b := by simp [idsOf, tkAt_get (show q < (prom R j).length by rw [prom_len]; exact hq)]
    have e2 : (idsOf R)[q]? = some (tkAt R q).b := by simp [idsOf, tkAt_get hq]
    rw [e1, e2, (prom_at R j hj q).1]
  · rw [List.getElem?_eq_none (by rw [ids_len, prom_len]; omega), List.getElem?_eq_none (by rw [ids_len]; omega)]
theorem tks_prom {Z : Fz} {j : Nat} (h : Tks Z R) (hj : j ≤ R.length) : Tks Z (prom R j) := by
  refine ⟨fun i hi => ?_, fun i hi => ?_, fun a b ha hb hab => ?_⟩
  · rw [prom_len] at hi
    rw [(prom_at R j hj i).2.2.1, (prom_at R j hj i).2.2.2.1]
    exact h.fl i hi
  · rw [prom_len] at hi
    rw [(prom_at R j hj i).2.2.2.1]
    exact h.le i hi
  · rw [prom_len] at ha hb
    rw [(prom_at R j hj a).1, (prom_at R j hj b).1]
    exact h.ne a b ha hb hab
theorem tkAt_cut {R : List Tk} {i : Nat} (hi : i < R.length) (q : Nat) : tkAt (R.take i ++ R.drop (i + 1)) q = if q < i then tkAt R q else tkAt R (q + 1) := by
  unfold tkAt
  rw [List.getD_eq_getElem?_getD, List.getElem?_append]
  have hl : (R.take i).length = i := by simp; omega
  rw [hl]
  by_cases h : q < i
  · rw [if_pos h, if_pos h, List.getElem?_take_of_lt h, List.getD_eq_getElem?_getD]
  · rw [if_neg h, if_neg h, List.getElem?_drop, show i + 1 + (q - i) = q + 1 by omega, List.getD_eq_getElem?_getD]
theorem cut_len {R : List Tk} {i : Nat} (hi : i < R.length) : (R.take i ++ R.drop (i + 1)).length = R.length - 1 := by simp; omega
theorem tks_cut {Z : Fz} {i : Nat} (h : Tks Z R) (hi : i < R.length) : Tks Z (R.take i ++ R.drop (i + 1)) := by
  refine ⟨fun q hq => ?_, fun q hq => ?_, fun a b ha hb hab => ?_⟩
  · rw [cut_len hi] at hq
    rw [tkAt_cut hi]
    split <;> exact h.fl _ (by omega)
  · rw [cut_len hi] at hq
    rw [tkAt_cut hi]
    split <;> exact h.le _ (by omega)
  · rw [cut_len hi] at ha hb
    rw [tkAt_cut hi, tkAt_cut hi]
    split <;> split <;> exact h.ne _ _ (by omega) (by omega) (by omega)
end
end
end Go.Jt
