/-
  The abstract run of an operation is true to the model's: all operations.
-/
import Derived.Test.YtlhlgmodhblplaaJtOps11
import Derived.Test.YtlhlgmodhblplaaJtEq
set_option autoImplicit false
set_option linter.all false
namespace Go.Jt
open Go.RowKit (Below)
variable [Gl]

section
variable {P : Program} {base : Nat} {ι : Io} {H : AH} {w : World} {k : AV → AH → Bool} {env : Env} {a : Act}

theorem xbad {p : Prop} (h : xop .bad env H k = true) : p := by cases h
theorem arr1 {α : Type} {c : Array α} {x : α} (h : c.toList = [x]) : c = #[x] := by rw [← Array.toArray_toList (xs := c), h]
theorem arr2 {α : Type} {c : Array α} {x y : α} (h : c.toList = [x, y]) : c = #[x, y] := by rw [← Array.toArray_toList (xs := c), h]
theorem beq_ff {a b : Nat} (h : ¬ (Nat.beq a b = true)) : a ≠ b := fun e => h (by subst e; exact Nat.beq_refl a)
theorem beq_tt {a b : Nat} (h : Nat.beq a b = true) : a = b := Nat.eq_of_beq_eq_true h

theorem sound_builtin (o : Oper) (c : Call) (b : Builtin) (ho : o.op = .call c) (hc : c.callee = .builtin b) (hr : HR P base ι H w) (he : rowR ι env a.tmps) (hx : xop (compOp P o) env H k = true) : Res P base ι H w k ((execOp a.eval o).run P w) := by
  cases b
  case len =>
    simp only [compOp, ho, hc] at hx
    split at hx
    · rename_i t x h1 h2
      split at hx
      · rename_i hu; exact sound_len o c t x 0 _ ho hc (arr1 h1) (arr1 h2) hu (Or.inl ⟨rfl, rfl⟩) hr he hx
      · rename_i hu; exact sound_len o c t x 1 _ ho hc (arr1 h1) (arr1 h2) hu (Or.inr (Or.inl ⟨rfl, _, rfl⟩)) hr he hx
      · rename_i hu; exact sound_len o c t x 2 _ ho hc (arr1 h1) (arr1 h2) hu (Or.inr (Or.inr ⟨rfl, _, _, rfl⟩)) hr he hx
      · exact xbad hx
    · exact xbad hx
  case cap =>
    simp only [compOp, ho, hc] at hx
    split at hx
    · rename_i t x h1 h2
      split at hx
      · rename_i hu; exact sound_capo o c t _ x ho hc (arr1 h1) (arr1 h2) hu hr he hx
      · exact xbad hx
    · exact xbad hx
  case append =>
    simp only [compOp, ho, hc] at hx
    split at hx
    · rename_i t u s x h1 h2
      split at hx
      · rename_i e ud hu1 hu2
        split at hx
        · rename_i z i hz hi
          simp only [Bool.cond_eq_ite] at hx
          split at hx
          · rename_i hl
            split at hx
            · exact xbad hx
            · rename_i hl0
              split at hx
              · exact xbad hx
              · rename_i hby
                exact sound_app o c t u e s x z i ud ho hc (arr2 h1) (arr2 h2) hu1 hu2 hz hi (beq_tt hl) (beq_ff hl0) (beq_ff hby) hr he hx
          · exact xbad hx
        · exact xbad hx
      · exact xbad hx
    · exact xbad hx
  case copy =>
    simp only [compOp, ho, hc] at hx
    split at hx
    · rename_i t ts d s h1 h2
      split at hx
      · rename_i e hu
        split at hx
        · rename_i i hi
          exact sound_copy o c t ts e d s i ho hc h1 (arr2 h2) hu hi hr he hx
        · exact xbad hx
      · exact xbad hx
    · exact xbad hx
  case delete =>
    simp only [compOp, ho, hc] at hx
    split at hx
    · rename_i t ts m key h1 h2
      split at hx
      · rename_i kt e hu
        split at hx
        · rename_i kk hkk
          exact sound_del o c t kt _ ts m key kk ho hc h1 (arr2 h2) hu hkk hr he hx
        · exact xbad hx
      · exact xbad hx
    · exact xbad hx
  case clear =>
    simp only [compOp, ho, hc] at hx
    split at hx
    · rename_i t m h1 h2
      split at hx
      · rename_i kt e hu
        exact sound_clrm o c t _ _ m ho hc (arr1 h1) (arr1 h2) hu hr he hx
      · rename_i e hu
        split at hx
        · rename_i z i hz hi
          simp only [Bool.cond_eq_ite] at hx
          split at hx
          · rename_i hl
            split at hx
            · exact xbad hx
            · rename_i hl0
              exact sound_clrs o c t e m z i ho hc (arr1 h1) (arr1 h2) hu hz hi (beq_tt hl) (beq_ff hl0) hr he hx
          · exact xbad hx
        · exact xbad hx
      · exact xbad hx
    · exact xbad hx
  case max =>
    simp only [compOp, ho, hc] at hx
    split at hx
    · rename_i x y h2
      exact sound_mx o c x y ho hc (arr2 h2) hr he hx
    · exact xbad hx
  case min =>
    simp only [compOp, ho, hc] at hx
    split at hx
    · rename_i x y h2
      exact sound_mn o c x y ho hc (arr2 h2) hr he hx
    · exact xbad hx
  all_goals (simp only [compOp, ho, hc] at hx; exact xbad hx)

theorem sound_op (o : Oper) (hr : HR P base ι H w) (he : rowR ι env a.tmps) (hx : xop (compOp P o) env H k = true) : Res P base ι H w k ((execOp a.eval o).run P w) := by
  cases ho : o.op
  case move x => simp only [compOp, ho] at hx; exact sound_move o x (Or.inl ho) hr he hx
  case assign x => simp only [compOp, ho] at hx; exact sound_move o x (Or.inr ho) hr he hx
  case pick c x y => simp only [compOp, ho] at hx; exact sound_pick o c x y ho hr he hx
  case alloc t =>
    simp only [compOp, ho] at hx
    split at hx
    · rename_i z hz; exact sound_alloc o t z ho hz hr hx
    · exact xbad hx
  case box t x => simp only [compOp, ho] at hx; exact sound_box o t x ho hr he hx
  case build t ps => exact sound_build o t ps ho hr he hx
  case buildSlice t n ps => exact sound_bsl o t n ps ho hr he hx
  case load t x =>
    simp only [compOp, ho] at hx
    split at hx
    · rename_i d i hd hi
      split at hx
      · rename_i g
        exact sound_ldg o t g d i ho hd hi hr he hx
      · cases hag : isAggT P t with
        | true => rw [hag] at hx; exact sound_ldn o t x d i ho hd hi hag hr he hx
        | false => rw [hag] at hx; exact sound_ld1 o t x d ho hd hag hr he hx
    · exact xbad hx
  case store t x y =>
    simp only [compOp, ho] at hx
    split at hx
    · rename_i i hi; exact sound_st o t x y i ho hi hr he hx
    · exact xbad hx
  case nilCheck x => simp only [compOp, ho] at hx; exact sound_nck o x ho hr he hx
  case binOp op t x y u =>
    simp only [compOp, ho] at hx
    cases hag : (isEq op && isAggT P t) with
    | true =>
      rw [hag] at hx
      simp only [Bool.and_eq_true] at hag
      simp only [cond_true] at hx
      split at hx
      · rename_i sh hsh
        cases hg : P.eqGuardType P.depth t with
        | true => rw [hg] at hx; exact xbad hx
        | false => rw [hg] at hx; simp only [cond_false] at hx; exact sound_eqa o op t u x y sh ho hag.1 hag.2 hsh hg hr he hx
      · exact xbad hx
    | false => rw [hag] at hx; exact sound_bin o op t u x y ho hr he hx
  case unOp op t x =>
    cases op
    case not => simp only [compOp, ho] at hx; exact sound_not o t x ho hr he hx
    case neg => simp only [compOp, ho] at hx; exact sound_neg o t x ho hr he hx
    case xor => simp only [compOp, ho] at hx; exact sound_xorn o t x ho hr he hx
    all_goals (simp only [compOp, ho] at hx; exact xbad hx)
  case convert s d x =>
    simp only [compOp, ho] at hx
    split at hx
    · rename_i u q hs hd; exact sound_cvi o s d x q ho u hs hd hr he hx
    · rename_i hs hd; exact sound_cvs o s d x ho hs hd hr he hx
    · rename_i e hs hd
      split at hx
      · rename_i hee; exact sound_s2b o s d e x _ ho hs hd hee hr he hx
      · exact xbad hx
    · rename_i e hs hd
      split at hx
      · rename_i hee; exact sound_b2s o s d e x ho hs hd hee hr he hx
      · exact xbad hx
    · exact xbad hx
  case sliceToArrayPointer d x =>
    simp only [compOp, ho] at hx
    split at hx
    · rename_i n e hd; exact sound_s2a o d x n e ho hd hr he hx
    · exact xbad hx
  case makeInterface t x =>
    simp only [compOp, ho] at hx
    split at hx
    · exact xbad hx
    · rename_i u hu hni; exact sound_mki o t x ho u hni hu hr he hx
    · exact xbad hx
  case typeAssert x xT t ok =>
    simp only [compOp, ho] at hx
    cases ok with
    | true => exact xbad hx
    | false =>
    simp only [cond_false] at hx
    split at hx
    · exact xbad hx
    · rename_i u hu hni; exact sound_tas o t xT x ho u hni hu hr he hx
    · exact xbad hx
  case makeFunc f x y =>
    simp only [compOp, ho] at hx
    cases hf : isYield f with
    | true => rw [hf] at hx; exact xbad hx
    | false => rw [hf] at hx; exact sound_mkf o f x y ho hf hr he hx
  case makeMap t r =>
    cases r with
    | none => simp only [compOp, ho] at hx; exact sound_mkm o t ho hr hx
    | some r => simp only [compOp, ho] at hx; exact xbad hx
  case makeSlice t l c =>
    simp only [compOp, ho] at hx
    split at hx
    · rename_i e hu
      split at hx
      · rename_i z i hz hi
        simp only [Bool.cond_eq_ite] at hx
        split at hx
        · rename_i hl
          split at hx
          · exact xbad hx
          · rename_i hl0
            exact sound_mks o t e l c z i ho hu hz hi (beq_tt hl) (beq_ff hl0) hr he hx
        · exact xbad hx
      · exact xbad hx
    · exact xbad hx
  case slice t x lo hi mx =>
    simp only [compOp, ho] at hx
    split at hx
    · rename_i hu
      split at hx
      · exact sound_sls o t x lo hi ho hu hr he hx
      · exact xbad hx
    · rename_i e hu
      split at hx
      · rename_i i hi'
        simp only [Bool.cond_eq_ite] at hx
        split at hx
        · exact xbad hx
        · rename_i hz; exact sound_sll o t x lo hi mx e i ho hu hi' (beq_ff hz) hr he hx
      · exact xbad hx
    · rename_i n e hu
      split at hx
      · rename_i i hi'
        exact sound_sla o t x lo hi mx n e i ho hu hi' hr he hx
      · exact xbad hx
    · exact xbad hx
  case fieldAddr s x f =>
    simp only [compOp, ho] at hx
    split at hx
    · rename_i fs hu
      split at hx
      · rename_i fl hf
        split at hx
        · rename_i i hi
          simp only [Bool.cond_eq_ite] at hx
          split at hx
          · exact xbad hx
          · rename_i hz; exact sound_fla o s x f fs fl i ho hu hf hi (beq_ff hz) hr he hx
        · exact xbad hx
      · exact xbad hx
    · exact xbad hx
  case field t x f =>
    simp only [compOp, ho] at hx
    split at hx
    · rename_i fs hu
      split at hx
      · rename_i fl hf
        split at hx
        · rename_i i d hi hd
          exact sound_fld o t x f fs fl i d ho hu hf hi hd hr he hx
        · exact xbad hx
      · exact xbad hx
    · exact xbad hx
  case indexAddr t x y =>
    simp only [compOp, ho] at hx
    split at hx
    · rename_i n e hu
      split at hx
      · rename_i i hi; exact sound_ixa o t x y n e i ho hu hi hr he hx
      · exact xbad hx
    · rename_i e hu
      split at hx
      · rename_i i hi; exact sound_ixs o t x y e i ho hu hi hr he hx
      · exact xbad hx
    · exact xbad hx
  case index t x y =>
    simp only [compOp, ho] at hx
    split at hx
    · rename_i n e hu
      split at hx
      · rename_i i d hi hd; exact sound_iag o t x y n e i d ho hu hi hd hr he hx
      · exact xbad hx
    · rename_i hu; exact sound_ist o t x y ho hu hr he hx
    · exact xbad hx
  case lookup t m key ok =>
    simp only [compOp, ho] at hx
    split at hx
    · rename_i kt e hu
      split at hx
      · rename_i kk z hkk hz; exact sound_lkp o t kt e m key z kk ok ho hu hkk hz hr he hx
      · exact xbad hx
    · exact xbad hx
  case mapUpdate t m key x =>
    simp only [compOp, ho] at hx
    split at hx
    · rename_i kt e hu
      split at hx
      · rename_i kk hkk; exact sound_mup o t kt _ m key x kk ho hu hkk hr he hx
      · exact xbad hx
    · exact xbad hx
  case extract x i => simp only [compOp, ho] at hx; exact sound_ext o x i ho hr he hx
  case range t x =>
    simp only [compOp, ho] at hx
    split at hx
    · rename_i hu; exact sound_rng o t x ho hu hr he hx
    · exact xbad hx
  case call c =>
    cases hc : c.callee with
    | value f => simp only [compOp, ho, hc] at hx; cases hx
    | invoke r n => simp only [compOp, ho, hc] at hx; exact xbad hx
    | builtin b => exact sound_builtin o c b ho hc hr he hx
  all_goals (simp only [compOp, ho] at hx; exact xbad hx)
end
end Go.Jt
