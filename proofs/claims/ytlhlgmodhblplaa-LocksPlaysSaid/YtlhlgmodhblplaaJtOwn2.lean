/-
  JtOwn2: slices of one's own: copied, written to.
-/
import Derived.Test.YtlhlgmodhblplaaJtDec2
set_option autoImplicit false
set_option linter.all false
namespace Go.Jt
variable [Gl]
section
variable {H : AH} {Z : Fz} {l : List Hl}
theorem src_own {v : AV} {es n : Nat} {L : List AV} {hl : List Hl} (hs : Sat H Z (hl ++ l)) (ho : Own es v n L hl) : Src H es v n L := by
  cases ho with
  | nil => exact ⟨fun K => rfl, by simp, .nil, RL.nil, fun K => by simp only [srcCells, List.length_nil, Nat.beq_refl, cond_true]⟩
  | slc b n L h =>
    have := src_sl (es := es) (L := L) hs 0 (.slc b 0 n n es) (by omega) rfl
    rw [List.drop_zero, List.take_of_length_le (by omega)] at this
    exact this
  | slu b n L h =>
    have := src_sl (es := es) (L := L) hs 0 (.slu b 0 n es) (by omega) rfl
    rw [List.drop_zero, List.take_of_length_le (by omega)] at this
    exact this
/-- appended to an empty slice of no room: a copy -/
theorem s_copy {xv : AV} {b n es bytes : Nat} {S : List AV} (hs : Sat H Z (.cells b [] :: l)) (hx : Src H es xv n S) (hr : (2 * n + 200) * bytes ≤ 140737488355328) (hes : 0 < es) :
    ∃ v' hl' H', Own es v' n S hl' ∧ Sat H' Z (hl' ++ l) ∧ ∀ {env : Env} {z : Rp AV} {s x : Od} (h1 : ev env s = .slc b 0 0 0) (h2 : ev env x = xv) (K : AV → AH → Bool), xop (.app es bytes z false s x) env H K = K v' H' := by
  obtain ⟨v', hl', H', h1, h2, h3⟩ := s_own (n := 0) (hl := [.cells b []]) hs (.slc b 0 [] (by simp)) hx (by rw [Nat.zero_add]; exact hr) hes
  rw [Nat.zero_add] at h1
  exact ⟨v', hl', H', h1, h2, h3⟩
theorem own_ix {v : AV} {es n : Nat} {L : List AV} {hl : List Hl} (h : Own es v n L hl) (i : Nat) (hi : i < n) :
    ∃ b, hl = [.cells b L] ∧ i * es + es ≤ L.length ∧ (∀ L', L'.length = L.length → Own es v n L' [.cells b L']) ∧ ∀ {env : Env} {H : AH} {x y : Od} {q : IntKind} (hx : ev env x = v) (hy : ev env y = .int q (.ofNat i)) (K : AV → AH → Bool), xop (.ixs es x y) env H K = K (.ptr b (i * es)) H := by
  have hb : L.length = n * es → i * es + es ≤ L.length := fun e => by
    have : (i + 1) * es ≤ n * es := Nat.mul_le_mul_right _ hi
    rw [Nat.add_mul] at this
    omega
  cases h with
  | nil => omega
  | slc b n L h => exact ⟨b, rfl, hb h, fun L' e => .slc b n L' (by omega), fun hx hy K => w_ixs hx hy hi (Nat.zero_add _) K⟩
  | slu b n L h => exact ⟨b, rfl, hb h, fun L' e => .slu b n L' (by omega), fun hx hy K => w_ixu hx hy hi (Nat.zero_add _) K⟩
theorem own_st1 {v x : AV} {n i b : Nat} {L : List AV} {hl : List Hl} (hs : Sat H Z (hl ++ l)) (e : hl = [.cells b L]) (hb : i * 1 + 1 ≤ L.length) (hO : ∀ L', L'.length = L.length → Own 1 v n L' [.cells b L']) (hx : x.sc = true) :
    ∃ L' hl' H', Own 1 v n L' hl' ∧ Sat H' Z (hl' ++ l) ∧ ∀ {env : Env} {a y : Od} (ha : ev env a = .ptr b (i * 1)) (hy : ev env y = x) (K : AV → AH → Bool), xop (.st 1 a y) env H K = K .undef H' := by
  subst e
  obtain ⟨H', h1, h2⟩ := s_st (b := b) (L := L) (l := l) hs (i * 1) x (by omega) hx
  exact ⟨_, _, H', hO (L.set (i * 1) x) (by simp), h1, h2⟩
theorem own_stn {v : AV} {es n i b : Nat} {L M : List AV} {r : Rp AV} {hl : List Hl} (hs : Sat H Z (hl ++ l)) (e : hl = [.cells b L]) (hb : i * es + es ≤ L.length) (hO : ∀ L', L'.length = L.length → Own es v n L' [.cells b L']) (hr : RL r M) (hM : M.length = es) :
    ∃ L' hl' H', Own es v n L' hl' ∧ Sat H' Z (hl' ++ l) ∧ ∀ {env : Env} {a y : Od} (ha : ev env a = .ptr b (i * es)) (hy : ev env y = .agg r) (K : AV → AH → Bool), xop (.st es a y) env H K = K .undef H' := by
  subst e
  obtain ⟨H', h1, h2⟩ := s_stn (b := b) (L := L) (l := l) hs hr (i * es) es hM hb
  exact ⟨_, _, H', hO _ (by simp; omega), h1, h2⟩
end
end Go.Jt
