/-
  What an operation that only reads tells, and what one that lays a block lays, hangs on what it reads.
-/
import Derived.Test.YtlhlgmodhblplaaJtDraw1
set_option autoImplicit false
set_option linter.all false
namespace Go.Jt
open Go.RowKit (Below)
variable [Gl]

theorem xop_read {o : XOp} {env : Env} {H : AH} {k : AV → AH → Bool} (hk : kindX o ≤ 1) (h : xop o env H k = true) :
    ∃ v, k v H = true ∧ ∀ (H' : AH) (k' : AV → AH → Bool), (kindX o = 0 ∨ H.sub H') → xop o env H' k' = k' v H' := by
  cases o <;> first | (exfalso; revert hk; simp [kindX]; done) | skip
  case mv x => exact ⟨_, h, fun _ _ _ => rfl⟩
  case pick c x y =>
    simp only [xop] at h
    split at h
    · rename_i t e; exact ⟨_, h, fun _ _ _ => by simp only [xop, e]⟩
    · cases h
  case build z ps =>
    simp only [xop] at h
    obtain ⟨r, h1, e⟩ := fillIn_det ps z h
    exact ⟨_, h1, fun _ _ _ => by simp only [xop, e]⟩
  case nck x =>
    simp only [xop] at h
    split at h <;> first
      | (cases h; done)
      | (rename_i e; exact ⟨_, h, fun _ _ _ => by simp only [xop, e]⟩)
  case fla off x =>
    simp only [xop] at h
    split at h
    · rename_i b o e; rw [fN_eq] at h; exact ⟨_, h, fun _ _ _ => by simp only [xop, e, fN_eq]⟩
    · cases h
  case ixa len es x i =>
    simp only [xop] at h
    split at h
    · rename_i b o q n e1 e2
      obtain ⟨c, h1⟩ := cond_false_inv h
      rw [fN_eq] at h1
      exact ⟨_, h1, fun _ _ _ => by simp only [xop, e1, e2, c, cond_false, fN_eq]⟩
    · cases h
  case ixs es x i =>
    simp only [xop] at h
    split at h
    · rename_i b o len cap q n e1 e2
      obtain ⟨c, h1⟩ := cond_false_inv h
      rw [fN_eq] at h1
      exact ⟨_, h1, fun _ _ _ => by simp only [xop, e1, e2, c, cond_false, fN_eq]⟩
    · rename_i b o len es' q n e1 e2
      obtain ⟨c, h1⟩ := cond_false_inv h
      rw [fN_eq] at h1
      exact ⟨_, h1, fun _ _ _ => by simp only [xop, e1, e2, c, cond_false, fN_eq]⟩
    · cases h
  case iag len es ag x i =>
    simp only [xop] at h
    split at h
    · rename_i r q n e1 e2
      obtain ⟨c, h1⟩ := cond_false_inv h
      cases ag with
      | true =>
        obtain ⟨c2, h2⟩ := cond_true_inv (show cond (Nat.ble (n * es + es) r.len) (k (.agg (r.sub (n * es) es)) H) false = true from h1)
        exact ⟨_, h2, fun _ _ _ => by simp only [xop, e1, e2, c, cond_false, cond_true, c2]⟩
      | false =>
        simp only [cond_false] at h1
        split at h1
        · rename_i v ev'; exact ⟨_, h1, fun _ _ _ => by simp only [xop, e1, e2, c, cond_false, ev']⟩
        · cases h1
    · cases h
  case ist x i =>
    simp only [xop] at h
    split at h
    · rename_i s q n e1 e2
      split at h
      · rename_i c ec; rw [fN_eq] at h; exact ⟨_, h, fun _ _ _ => by simp only [xop, e1, e2, ec, fN_eq]⟩
      · cases h
    · cases h
  case fld off n ag x =>
    simp only [xop] at h
    split at h
    · rename_i r e1
      cases ag with
      | true =>
        obtain ⟨c2, h2⟩ := cond_true_inv (show cond (Nat.ble (off + n) r.len) (k (.agg (r.sub off n)) H) false = true from h)
        exact ⟨_, h2, fun _ _ _ => by simp only [xop, e1, cond_true, c2]⟩
      | false =>
        simp only [cond_false] at h
        split at h
        · rename_i v ev'; exact ⟨_, h, fun _ _ _ => by simp only [xop, e1, cond_false, ev']⟩
        · cases h
    · cases h
  case bin op ek x y =>
    simp only [xop] at h
    obtain ⟨v, h1, e⟩ := bin_det h
    exact ⟨v, h1, fun H' k' hs => by
      rcases hs with hs | hs
      · cases hs
      · exact e H' _ hs⟩
  case eqa neg sh x y =>
    simp only [xop] at h
    split at h
    · rename_i a b e1 e2
      obtain ⟨c1, h1⟩ := cond_true_inv h
      obtain ⟨c2, h2⟩ := cond_true_inv h1
      obtain ⟨t, h3, e⟩ := eqS_det _ _ _ h2
      exact ⟨_, h3, fun _ _ _ => by simp only [xop, e1, e2, c1, c2, cond_true, e]⟩
    · cases h
  case not x =>
    simp only [xop] at h
    split at h
    · rename_i b e; exact ⟨_, h, fun _ _ _ => by simp only [xop, e]⟩
    · cases h
  case neg x =>
    simp only [xop] at h
    split at h
    · rename_i q n e; rw [fI_eq] at h; exact ⟨_, h, fun _ _ _ => by simp only [xop, e, fI_eq]⟩
    · cases h
  case xorn x =>
    simp only [xop] at h
    split at h
    · rename_i q n e; rw [fI_eq] at h; exact ⟨_, h, fun _ _ _ => by simp only [xop, e, fI_eq]⟩
    · cases h
  case cvi q x =>
    simp only [xop] at h
    split at h
    · rename_i q n e; rw [fI_eq] at h; exact ⟨_, h, fun _ _ _ => by simp only [xop, e, fI_eq]⟩
    · cases h
  case cvs x =>
    simp only [xop] at h
    split at h
    · rename_i s e; exact ⟨_, h, fun _ _ _ => by simp only [xop, e]⟩
    · cases h
  case s2a n x =>
    simp only [xop] at h
    split at h
    · rename_i b o len cap e
      obtain ⟨c, h1⟩ := cond_true_inv h
      exact ⟨_, h1, fun _ _ _ => by simp only [xop, e, c, cond_true]⟩
    · rename_i b o len cap e
      obtain ⟨c, h1⟩ := cond_true_inv h
      exact ⟨_, h1, fun _ _ _ => by simp only [xop, e, c, cond_true]⟩
    · cases h
  case mki t x => exact ⟨_, h, fun _ _ _ => rfl⟩
  case tas t x =>
    simp only [xop] at h
    split at h
    · rename_i u v e
      obtain ⟨c, h1⟩ := cond_true_inv h
      exact ⟨_, h1, fun _ _ _ => by simp only [xop, e, c, cond_true]⟩
    · cases h
  case mkf f x y => exact ⟨_, h, fun _ _ _ => rfl⟩
  case sls x lo hi =>
    simp only [xop] at h
    split at h
    · rename_i s e
      rw [fN_eq] at h
      obtain ⟨l, r, m, h1, e1⟩ := cut3_det h
      exact ⟨_, h1, fun _ _ _ => by simp only [xop, e, fN_eq, e1]⟩
    · cases h
  case sla n es x lo hi mx =>
    simp only [xop] at h
    split at h
    · rename_i b o e
      obtain ⟨l, r, m, h1, e1⟩ := cut3_det h
      simp only [fN_eq] at h1
      exact ⟨_, h1, fun _ _ _ => by simp only [xop, e, e1, fN_eq]⟩
    · cases h
  case ext x i =>
    simp only [xop] at h
    split at h
    · rename_i vs e
      split at h
      · rename_i v ev'; exact ⟨_, h, fun _ _ _ => by simp only [xop, e, ev']⟩
      · cases h
    · cases h
  case capo x =>
    simp only [xop] at h
    split at h
    · rename_i e; exact ⟨_, h, fun _ _ _ => by simp only [xop, e]⟩
    · rename_i e; exact ⟨_, h, fun _ _ _ => by simp only [xop, e]⟩
    · cases h
  case mx x y =>
    simp only [xop] at h
    split at h
    · rename_i q a r b e1 e2; exact ⟨_, h, fun _ _ _ => by simp only [xop, e1, e2]⟩
    · cases h
  case mn x y =>
    simp only [xop] at h
    split at h
    · rename_i q a r b e1 e2; exact ⟨_, h, fun _ _ _ => by simp only [xop, e1, e2]⟩
    · cases h
  case ld1 x =>
    simp only [xop] at h
    split at h
    · rename_i b off e
      obtain ⟨c, st, ro, hb, h1⟩ := gcell_inv h
      split at h1
      · rename_i v ev'
        exact ⟨v, h1, fun H' k' hs => by
          rcases hs with hs | hs
          · cases hs
          · simp only [xop, e]; rw [gcell_mk (hs _ _ hb)]; simp only [ev']⟩
      · cases h1
    · cases h
  case ldn n x =>
    simp only [xop] at h
    split at h
    · rename_i b off e
      obtain ⟨c, st, ro, hb, h1⟩ := gcell_inv h
      obtain ⟨c2, h2⟩ := cond_true_inv h1
      exact ⟨_, h2, fun H' k' hs => by
        rcases hs with hs | hs
        · cases hs
        · simp only [xop, e]; rw [gcell_mk (hs _ _ hb)]; simp only [c2, cond_true]⟩
    · cases h
  case b2s x =>
    simp only [xop] at h
    by_cases hn : ev env x = .nils
    · rw [hn] at h
      exact ⟨_, h, fun H' k' hs => by simp only [xop, hn]⟩
    by_cases hst : ∃ s, ev env x = .str s
    · obtain ⟨s, hst⟩ := hst
      rw [hst] at h
      simp only [srcLen, fN_eq] at h
      cases h
    have go : ∀ (H : AH) (k : AV → AH → Bool), xop (.b2s x) env H k = srcLen (ev env x) fun n => srcCells H 1 n (ev env x) fun r => bytesL r.toL fun l => k (.str l) H := fun H k => by
      simp only [xop]
      split
      · rename_i s e; exact absurd ⟨s, e⟩ hst
      · rfl
    have h0 := (go H k).symm.trans (show xop (.b2s x) env H k = true from h)
    obtain ⟨n, h1, e1⟩ := srcLen_det h0
    obtain ⟨r, h2, e2⟩ := srcCells_det h1
    obtain ⟨l, h3, e3⟩ := bytesL_det _ h2
    exact ⟨_, h3, fun H' k' hs => by
      rcases hs with hs | hs
      · cases hs
      · rw [go, e1, e2 H' _ hs, e3]⟩
  case sll es x lo hi mx =>
    simp only [xop] at h
    split at h
    · rename_i e
      obtain ⟨l, r, m, h1, e1⟩ := cut3_det h
      exact ⟨_, h1, fun _ _ _ => by simp only [xop, e, e1]⟩
    · rename_i b o len cap e
      obtain ⟨l, r, m, h1, e1⟩ := cut3_det h
      simp only [fN_eq] at h1
      exact ⟨_, h1, fun _ _ _ => by simp only [xop, e, e1, fN_eq]⟩
    · rename_i b o len es' e
      obtain ⟨c, h1⟩ := cond_true_inv h
      cases mx with
      | some mm =>
        simp only at h1
        obtain ⟨l, r, m, h2, e1⟩ := cut3_det h1
        simp only [fN_eq] at h2
        exact ⟨_, h2, fun _ _ _ => by simp only [xop, e, c, cond_true, e1, fN_eq]⟩
      | none =>
        simp only at h1
        obtain ⟨cc, st, ro, hb, h2⟩ := gcell_inv h1
        obtain ⟨l, r, m, h3, e1⟩ := cut3_det h2
        cases hml : Nat.beq m l with
        | true =>
          rw [hml] at h3
          simp only [cond_true, fN_eq] at h3
          exact ⟨_, h3, fun H' k' hs => by
            rcases hs with hs | hs
            · cases hs
            · simp only [xop, e, c, cond_true]; rw [gcell_mk (hs _ _ hb), e1, hml]; simp only [cond_true, fN_eq]⟩
        | false =>
          rw [hml] at h3
          simp only [cond_false, fN_eq] at h3
          exact ⟨_, h3, fun H' k' hs => by
            rcases hs with hs | hs
            · cases hs
            · simp only [xop, e, c, cond_true]; rw [gcell_mk (hs _ _ hb), e1, hml]; simp only [cond_false, fN_eq]⟩
    · rename_i b o es' e
      obtain ⟨l, r, m, h1, e1⟩ := cut3_det h
      exact ⟨_, h1, fun _ _ _ => by simp only [xop, e, e1]⟩
    · cases h
  case lkp z ok kk m key =>
    simp only [xop] at h
    obtain ⟨c, h1⟩ := cond_true_inv h
    split at h1
    · rename_i e
      exact ⟨_, h1, fun _ _ _ => by simp only [xop, e, c, cond_true]⟩
    · rename_i r e
      obtain ⟨es, ck, hb, h2⟩ := gmap_inv h1
      rcases mfind_det es 0 h2 with ⟨j, v, h3, e3⟩ | ⟨h3, e3⟩
      · exact ⟨_, h3, fun H' k' hs => by
          rcases hs with hs | hs
          · cases hs
          · simp only [xop, e, c, cond_true]; rw [gmap_mk (hs _ _ hb), e3]⟩
      · exact ⟨_, h3, fun H' k' hs => by
          rcases hs with hs | hs
          · cases hs
          · simp only [xop, e, c, cond_true]; rw [gmap_mk (hs _ _ hb), e3]⟩
    · cases h1
  case len lk x =>
    match lk, hk, h with
    | 0, hk, h =>
      simp only [xop] at h
      split at h
      · rename_i s e; rw [fN_eq] at h; exact ⟨_, h, fun _ _ _ => by simp only [xop, e, fN_eq]⟩
      · cases h
    | 1, hk, h =>
      simp only [xop] at h
      split at h
      · cases h
      · rename_i hns
        obtain ⟨n, h1, e1⟩ := srcLen_det h
        refine ⟨_, h1, fun H' k' _ => ?_⟩
        simp only [xop]
        exact e1 _
    | lk + 2, hk, h =>
      simp only [xop] at h
      split at h
      · rename_i r e
        obtain ⟨es, ck, hb, h2⟩ := gmap_inv h
        rw [fN_eq] at h2
        refine ⟨_, h2, fun H' k' hs => ?_⟩
        rcases hs with hs | hs
        · cases hs
        · simp only [xop, e]
          rw [gmap_mk (hs _ _ hb), fN_eq]
      · rename_i e
        exact ⟨_, h, fun H' k' hs => by simp only [xop, e]⟩
      · cases h
end Go.Jt
