/-
  LocksFair: steps of the walk.
-/
import Derived.Test.YtlhlgmodhblplaaJtLg
set_option autoImplicit false
set_option linter.all false
set_option maxHeartbeats 2000000
namespace Go.Jt
noncomputable section
variable [Gl]
theorem wp_seqj {cl : Cl} {N : Nat} {rd : Option Nat} {a b : IR} {env : Env} {ds : List Nat} {H : AH} {Q : Kq} (R : Env → List Nat → AH → Prop) (h1 : Wp cl N rd a env ds H (thn R Q)) (h2 : ∀ env ds H, R env ds H → Wp cl N rd b env ds H Q) : Wp cl N rd (.seq a b) env ds H Q :=
  wp_seq (wp_imp h1 fun e env ds H h => by
    cases e with
    | normal => exact h2 _ _ _ h
    | exit i => exact h
    | ret => exact h)
/-! ### rows of numbers -/
def iG (G : List Int) : List (List AV) := G.map fun z => [.int .i64 z]
def iAt (G : List Int) (i : Nat) : Int := G.getD i 0
theorem iG_len (G : List Int) : (iG G).length = G.length := by simp [iG]
theorem iG_get {G : List Int} {i : Nat} (h : i < G.length) : (iG G)[i]? = some [.int .i64 (iAt G i)] := by simp [iG, iAt, h]
theorem iG_one {G : List Int} : ∀ x ∈ iG G, x.length = 1 := by
  intro x hx
  obtain ⟨w, _, rfl⟩ := List.mem_map.1 hx
  rfl
theorem iG_flat (G : List Int) : (iG G).flatten = G.map (.int .i64) := by
  induction G with
  | nil => rfl
  | cons x G ih => show [AV.int .i64 x] ++ (iG G).flatten = _; rw [ih]; rfl
theorem fl_tail {Z : Fz} {x : Int} {G : List Int} {v : AV} (h : Fl Z 1 v (iG (x :: G))) :
    ∃ v', Fl Z 1 v' (iG G) ∧ ∀ {env : Env} {H : AH} {l : List Hl} {y a : Od}, Sat H Z l → ev env y = v → ev env a = .int .i64 (.ofNat 1) → ∀ K : AV → AH → Bool, xop (.sll 1 y (some a) none none) env H K = K v' H := by
  obtain ⟨v', h1, h2⟩ := fl_lo (by decide) h 1 (by rw [iG_len]; simp)
  refine ⟨v', ?_, h2⟩
  have e : win (iG (x :: G)) 1 (iG (x :: G)).length = iG G := by
    unfold win
    rw [List.take_of_length_le (by simp)]
    rfl
  rwa [e] at h1
section
variable {R : List Tk} {S : List Sd} {k n : Nat}
theorem mix_get0 (hn : n < S.length) (hk : k ≤ S.length) : (sdC (mixS R S k))[n * 3 + 0]? = some (.int .i64 (sdAt S n).n) := by
  rw [sdC_get (by rw [mixS_len]; exact hn) 0 (by decide)]
  show some (AV.int .i64 (sdAt (mixS R S k) n).n) = _
  rw [(mixS_at R S hk n).1]
theorem mix_get1 (hn : n < S.length) (hk : k ≤ S.length) : (sdC (mixS R S k))[n * 3 + 1]? = some (sdAt S n).v := by
  rw [sdC_get (by rw [mixS_len]; exact hn) 1 (by decide)]
  show some (sdAt (mixS R S k) n).v = _
  rw [(mixS_at R S hk n).2.1]
theorem mix_get2 (hn : n < S.length) (hk : k ≤ S.length) (hnk : k ≤ n) : (sdC (mixS R S k))[n * 3 + 2]? = some (.bool (sdAt S n).has) := by
  rw [sdC_get (by rw [mixS_len]; exact hn) 2 (by decide)]
  show some (AV.bool (sdAt (mixS R S k) n).has) = _
  rw [(mixS_at R S hk n).2.2.2, if_neg (by omega)]
theorem sd_get0 (hn : n < S.length) : (sdC S)[n * 3 + 0]? = some (.int .i64 (sdAt S n).n) := by
  rw [sdC_get hn 0 (by decide)]
  rfl
end
theorem own_set3 {H : AH} {Z : Fz} {l : List Hl} {v x : AV} {n i b : Nat} {L : List AV} {hl : List Hl} (hs : Sat H Z (hl ++ l)) (e : hl = [.cells b L]) (hb : i * 3 + 3 ≤ L.length) (hO : ∀ L', L'.length = L.length → Own 3 v n L' [.cells b L']) (hx : x.sc = true) :
    ∃ hl' H', Own 3 v n (L.set (i * 3 + 2) x) hl' ∧ Sat H' Z (hl' ++ l) ∧ ∀ {env : Env} {a y : Od} (ha : ev env a = .ptr b (i * 3 + 2)) (hy : ev env y = x) (K : AV → AH → Bool), xop (.st 1 a y) env H K = K .undef H' := by
  subst e
  obtain ⟨H', h1, h2⟩ := s_st (b := b) (L := L) (l := l) hs (i * 3 + 2) x (by omega) hx
  exact ⟨_, H', hO (L.set (i * 3 + 2) x) (by simp), h1, h2⟩
/-- one more in the row -/
theorem own_snoc {S : List Sd} {x : Sd} {v : AV} {hl : List Hl} (h : Own 3 v (S.length + 1) (sdC S ++ x.C) hl) : Own 3 v (S ++ [x]).length (sdC (S ++ [x])) hl := by
  rw [sdC_app, List.length_append]
  have e : sdC [x] = x.C := by simp [sdC, sdr]
  rw [e]
  exact h
theorem AskP.eq {row : List Tk} {n : Int} {ws : List Wt} {e : Nat} (h : AskP row n ws e) (h0 : AskP row n ws 0) : e = 0 := by
  cases h0 with
  | ok a0 a4 ag an al =>
    cases h with
    | arg h => omega
    | bad _ _ i hi h =>
      rcases h with h | ⟨k, hk, h⟩
      · have := (ag i hi).1; omega
      · exact absurd h ((ag i hi).2 k hk)
    | twice _ _ _ j hj h => exact absurd h (an j hj)
    | full _ _ _ _ h => omega
    | ok => rfl
section
variable [LkN] {tbl : Nat → Option FT} {t : Nat} {row : List Tk} {n : Int} {ws : List Wt} {v0 : AV} {N d : Nat} {Z : Fz} {F : List Hl} {H : AH}
theorem askN_ok (T : LkT tbl) (h0 : ¬ AskP row n ws 0) (hd : 8 ≤ d) (hs : Sat H Z (.cells t [hdQ row .nilp, .int .i64 (.ofNat row.length)] :: (rowS row .nilp ++ F))) (hv0 : Fl Z 2 v0 (wrow ws)) (hW : Tks Z row) (hlr : row.length ≤ 1000) (hlw : ws.length ≤ 1000) (hN : 2000 < N) :
    Ct (RUN tbl N d) (.fn (.fn (.func LkN.ask)) [] []) [.ptr t 0, .int .i64 n, v0] H fun v H' => ∃ e : Nat, 0 < e ∧ v = .tup [.bool false, .int .i64 (.ofNat e)] ∧ Sat H' Z (.cells t [hdQ row .nilp, .int .i64 (.ofNat row.length)] :: (rowS row .nilp ++ F)) := by
  refine (ask_ok T hd hs hv0 hW hlr hlw hN).imp fun v H' ⟨e, hA, h⟩ => ?_
  rcases h with ⟨h1, h2, h3⟩ | ⟨h1, _⟩
  · exact ⟨e, by omega, h2, h3⟩
  · subst h1
    exact absurd hA h0
theorem askY_ok (T : LkT tbl) (h0 : AskP row n ws 0) (hd : 8 ≤ d) (hs : Sat H Z (.cells t [hdQ row .nilp, .int .i64 (.ofNat row.length)] :: (rowS row .nilp ++ F))) (hv0 : Fl Z 2 v0 (wrow ws)) (hW : Tks Z row) (hlr : row.length ≤ 1000) (hlw : ws.length ≤ 1000) (hN : 2000 < N) :
    Ct (RUN tbl N d) (.fn (.fn (.func LkN.ask)) [] []) [.ptr t 0, .int .i64 n, v0] H fun v H' => ∃ xb xv Z', Z.le Z' ∧ Fl Z' 2 xv (wrow ws) ∧ v = .tup [.bool (dB (FreeW row ws)), .int .i64 0] ∧ Tks Z' (row ++ [⟨xb, n, xv, ws, dB (FreeW row ws)⟩]) ∧
      Sat H' Z' (.cells t [hdQ (row ++ [⟨xb, n, xv, ws, dB (FreeW row ws)⟩]) .nilp, .int .i64 (.ofNat (row ++ [(⟨xb, n, xv, ws, dB (FreeW row ws)⟩ : Tk)]).length)] :: (rowS (row ++ [⟨xb, n, xv, ws, dB (FreeW row ws)⟩]) .nilp ++ F)) := by
  refine (ask_ok T hd hs hv0 hW hlr hlw hN).imp fun v H' ⟨e, hA, h⟩ => ?_
  have he := hA.eq h0
  rcases h with ⟨h1, _⟩ | ⟨_, xb, xv, Z', hl, hf, hv, s⟩
  · exact absurd he h1
  · have h4 : ws.length ≤ 1000 := hlw
    refine ⟨xb, xv, Z', hl, hf, hv, tks_snoc (l := [_]) (hW.mono hl) hf h4 s, ?_⟩
    rw [List.length_append]
    exact s
theorem ask_size (h0 : AskP row n ws 0) : row.length < 16 ∧ ∀ j, j < row.length → ¬ (tkAt row j).n = n := by
  cases h0 with
  | ok a0 a4 ag an al => exact ⟨al, an⟩
end
/-- the rows of wants that the law's row points to -/
def SOk (Z : Fz) (S : List Sd) : Prop := ∀ k, k < S.length → Fl Z 2 (sdAt S k).v (wrow (sdAt S k).ws) ∧ (sdAt S k).ws.length ≤ 50
theorem SOk.mono {Z Z' : Fz} {S : List Sd} (h : SOk Z S) (hl : Z.le Z') : SOk Z' S := fun k hk => ⟨(h k hk).1.mono hl, (h k hk).2⟩
theorem SOk.snoc {Z : Fz} {S : List Sd} {x : Sd} (h : SOk Z S) (hf : Fl Z 2 x.v (wrow x.ws)) (hl : x.ws.length ≤ 50) : SOk Z (S ++ [x]) := by
  intro k hk
  by_cases h1 : k < S.length
  · rw [sdAt_left h1]; exact h k h1
  · have : k = S.length := by simp at hk; omega
    subst this
    rw [sdAt_last]
    exact ⟨hf, hl⟩
theorem SOk.cut {Z : Fz} {S : List Sd} {i : Nat} (h : SOk Z S) (hi : i < S.length) : SOk Z (S.take i ++ S.drop (i + 1)) := by
  intro k hk
  have : (S.take i ++ S.drop (i + 1)).length = S.length - 1 := by simp; omega
  rw [sdAt_cut hi]
  split <;> exact h _ (by omega)
theorem SOk.mix {Z : Fz} {R : List Tk} {S : List Sd} {m : Nat} (h : SOk Z S) (hm : m ≤ S.length) : SOk Z (mixS R S m) := by
  intro k hk
  rw [mixS_len] at hk
  rw [(mixS_at R S hm k).2.1, (mixS_at R S hm k).2.2.1]
  exact h k hk
theorem SOk.nil (Z : Fz) : SOk Z [] := fun k hk => by simp at hk
theorem Tks.nil (Z : Fz) : Tks Z [] := ⟨fun i hi => by simp at hi, fun i hi => by simp at hi, fun i j hi => by simp at hi⟩
theorem known_nil : Known [] [] := fun k hk => by simp at hk
theorem Fair.hno {R : List Tk} {S : List Sd} (h : Fair R S) {n : Nat} (hn : n < R.length) : ∀ j, j < n → ¬ (tkAt R j).n = (sdAt S n).n := fun j hj => by
  rw [h.n n hn]
  exact h.dis j n (by omega) hn (by omega)
theorem newL_end {R : List Tk} {S : List Sd} {k : Nat} (h : R.length ≤ k) : newL (R.drop k) (S.drop k) = [] := by
  rw [List.drop_of_length_le h]
  cases S.drop k <;> rfl
end
end Go.Jt
