/-
  A new node behind the copied ones; values written over arrays of one's own.
-/
import Derived.Test.YtlhlgmodhblplaaJtCp
set_option autoImplicit false
set_option linter.all false
set_option maxHeartbeats 2000000
namespace Go.Jt
noncomputable section
variable [Gl]
section
variable {H : AH} {Z : Fz} {F l : List Hl}
theorem link_new {NR : List Tk} {nd : Tk} {B : List AV} {bo o : Nat} {c : AV} (hs : Sat H Z (.loc nd.b (nd.C .nilp) :: .cells bo B :: .cells o [hdQ NR .nilp, c] :: (rowS NR .nilp ++ F))) :
    ∃ H', Sat H' Z (.cells bo B :: .cells o [hdQ (NR ++ [nd]) .nilp, c] :: (rowS (NR ++ [nd]) .nilp ++ F)) ∧ ∀ {env : Env} {a x : Od}, ev env a = atQ o NR NR.length → ev env x = .ptr nd.b 0 → ∀ K : AV → AH → Bool, xop (.st 1 a x) env H K = K .undef H' := by
  have h0 : Sat H Z (.cells o [hdQ NR .nilp, c] :: (rowS NR .nilp ++ ([.loc nd.b (nd.C .nilp), .cells bo B] ++ F))) :=
    hs.perm (by have h := List.perm_append_comm_assoc [Hl.loc nd.b (nd.C .nilp), Hl.cells bo B] (Hl.cells o [hdQ NR .nilp, c] :: rowS NR .nilp) F; exact h)
  obtain ⟨H', h1, h2⟩ := link_at h0 (.ptr nd.b 0) rfl
  refine ⟨H', ?_, h2⟩
  rw [hdQ_app, rowS_app, List.append_assoc]
  have h3 : Sat H' Z (.cells o [hdQ NR (.ptr nd.b 0), c] :: (rowS NR (.ptr nd.b 0) ++ (.cells bo B :: .loc nd.b (nd.C .nilp) :: F))) := h1.perm (List.Perm.cons _ (List.Perm.append_left _ (List.Perm.swap _ _ _)))
  exact h3.perm (show ((.cells o [hdQ NR (.ptr nd.b 0), c] :: rowS NR (.ptr nd.b 0)) ++ (.cells bo B :: (.loc nd.b (nd.C .nilp) :: F))).Perm _ from List.perm_middle)
/-- a value of one's own written to, one cell -/
theorem own_set1 {v x : AV} {n i b : Nat} {L : List AV} {hl : List Hl} (hs : Sat H Z (hl ++ l)) (e : hl = [.cells b L]) (hb : i * 1 + 1 ≤ L.length) (hO : ∀ L', L'.length = L.length → Own 1 v n L' [.cells b L']) (hx : x.sc = true) :
    ∃ hl' L' H', Own 1 v n L' hl' ∧ Sat H' Z (hl' ++ l) ∧ ∀ {env : Env} {a y : Od} (ha : ev env a = .ptr b (i * 1)) (hy : ev env y = x) (K : AV → AH → Bool), xop (.st 1 a y) env H K = K .undef H' := by
  subst e
  obtain ⟨H', h1, h2⟩ := s_st (b := b) (L := L) (l := l) hs (i * 1) x (by omega) hx
  exact ⟨_, _, H', hO (L.set (i * 1) x) (by simp), h1, h2⟩
theorem own_set2 {v : AV} {n i b : Nat} {L M : List AV} {hl : List Hl} {r : Rp AV} (hs : Sat H Z (hl ++ l)) (e : hl = [.cells b L]) (hb : i * 2 + 2 ≤ L.length) (hO : ∀ L', L'.length = L.length → Own 2 v n L' [.cells b L']) (hr : RL r M) (hM : M.length = 2) :
    ∃ hl' L' H', Own 2 v n L' hl' ∧ Sat H' Z (hl' ++ l) ∧ ∀ {env : Env} {a y : Od} (ha : ev env a = .ptr b (i * 2)) (hy : ev env y = .agg r) (K : AV → AH → Bool), xop (.st 2 a y) env H K = K .undef H' := by
  subst e
  obtain ⟨H', h1, h2⟩ := s_stn (b := b) (L := L) (l := l) hs hr (i * 2) 2 hM hb
  refine ⟨_, _, H', hO _ ?_, h1, h2⟩
  simp [hM]
  omega
end
end
end Go.Jt
