/-
  The two tables in one heap; each contract over both.
-/
import Derived.Test.YtlhlgmodhblplaaJtCy
import Derived.Test.YtlhlgmodhblplaaJtLo
import Derived.Test.YtlhlgmodhblplaaJtDa
import Derived.Test.YtlhlgmodhblplaaJtDd
set_option autoImplicit false
set_option linter.all false
set_option maxHeartbeats 2000000
namespace Go.Jt
noncomputable section
variable [Gl]
theorem bool_eqlS {H : AH} {b : Bool} (K : AV → Bool) : bin .eql 1 H (.bool b) (.bool b) K = K (.bool true) := by cases b <;> rfl
theorem bool_neqS {H : AH} {b : Bool} (K : AV → Bool) : bin .neq 1 H (.bool b) (.bool b) K = K (.bool false) := by cases b <;> rfl
/-! ### rearranged lists -/
open Classical in
def cn (a : Hl) (l : List Hl) : Nat := l.count a
open Classical in
def c1 (a x : Hl) : Nat := if x = a then 1 else 0
open Classical in
theorem cn_nil (a : Hl) : cn a [] = 0 := by simp [cn]
open Classical in
theorem cn_app (a : Hl) (l m : List Hl) : cn a (l ++ m) = cn a l + cn a m := by simp [cn]
open Classical in
theorem cn_cons (a x : Hl) (l : List Hl) : cn a (x :: l) = c1 a x + cn a l := by
  unfold cn c1
  rw [List.count_cons]
  by_cases h : x = a <;> simp [h] <;> omega
open Classical in
theorem perm_cn {l m : List Hl} (h : ∀ a, cn a l = cn a m) : l.Perm m := List.perm_iff_count.2 fun a => h a
/-- both tables -/
def PT (t x : Nat) (R : List Tk) (rv : AV) (rl : List Hl) : List Hl := .cells t [hdQ R .nilp, .int .i64 (.ofNat R.length)] :: .cells x [rv] :: (rowS R .nilp ++ rl)
theorem cn_PT (a : Hl) (t x : Nat) (R : List Tk) (rv : AV) (rl : List Hl) : cn a (PT t x R rv rl) = c1 a (.cells t [hdQ R .nilp, .int .i64 (.ofNat R.length)]) + (c1 a (.cells x [rv]) + (cn a (rowS R .nilp) + cn a rl)) := by
  unfold PT
  rw [cn_cons, cn_cons, cn_app]
section
variable [LpN] [LfN] [LkN] {tbl : Nat → Option FT} {t x : Nat} {R : List Tk} {D : List Dk} {rv v0 gv : AV} {rl gl F : List Hl} {n : Int} {ws : List Wt} {N d : Nat} {Z : Fz} {H : AH}
theorem AskP.det {e e' : Nat} (h : AskP R n ws e) (h' : AskP R n ws e') : e = e' := by
  have bad : ∀ {i : Nat}, i < ws.length → ((wAt ws i).1 < 1 ∨ ∃ k, k < i ∧ (wAt ws k).1 = (wAt ws i).1) → (∀ i, i < ws.length → 1 ≤ (wAt ws i).1 ∧ ∀ k, k < i → ¬ (wAt ws k).1 = (wAt ws i).1) → False := fun {i} hi hc hg => by
    rcases hc with hc | ⟨k, hk, hc⟩
    · have := (hg i hi).1; omega
    · exact (hg i hi).2 k hk hc
  cases h with
  | arg a => cases h' with
    | arg => rfl
    | bad => rfl
    | twice => omega
    | full => omega
    | ok => omega
  | bad a0 a4 i hi hc => cases h' with
    | arg => rfl
    | bad => rfl
    | twice _ _ hg => exact (bad hi hc hg).elim
    | full _ _ hg => exact (bad hi hc hg).elim
    | ok _ _ hg => exact (bad hi hc hg).elim
  | twice a0 a4 ag j hj hc => cases h' with
    | arg => omega
    | bad _ _ i hi h => exact (bad hi h ag).elim
    | twice => rfl
    | full _ _ _ hn => exact (hn j hj hc).elim
    | ok _ _ _ hn => exact (hn j hj hc).elim
  | full a0 a4 ag an al => cases h' with
    | arg => omega
    | bad _ _ i hi h => exact (bad hi h ag).elim
    | twice _ _ _ j hj hc => exact (an j hj hc).elim
    | full => rfl
    | ok => omega
  | ok a0 a4 ag an al => cases h' with
    | arg => omega
    | bad _ _ i hi h => exact (bad hi h ag).elim
    | twice _ _ _ j hj hc => exact (an j hj hc).elim
    | full => omega
    | ok => rfl
theorem askN_p (T : LkT tbl) (h0 : ¬ AskP R n ws 0) (hd : 8 ≤ d) (hs : Sat H Z (PT t x R rv rl ++ (gl ++ F))) (hP : Pl Z R D) (ho : Own 2 gv ws.length (wrow ws).flatten gl) (hlw : ws.length ≤ 50) (hN : 2000 < N) :
    Ct (RUN tbl N d) (.fn (.fn (.func LkN.ask)) [] []) [.ptr t 0, .int .i64 n, gv] H fun v H' => ∃ e : Nat, AskP R n ws e ∧ 0 < e ∧ v = .tup [.bool false, .int .i64 (.ofNat e)] ∧ Sat H' Z (PT t x R rv rl ++ (gl ++ F)) := by
  have s1 : Sat H Z (gl ++ (.cells t [hdQ R .nilp, .int .i64 (.ofNat R.length)] :: (rowS R .nilp ++ ([.cells x [rv]] ++ (rl ++ F))))) := hs.perm (by exact perm_cn fun a => by (simp only [cn_PT, cn_app, cn_cons, cn_nil] <;> omega))
  obtain ⟨Z1, l1, s2, f1, g1⟩ := own_lend (xs := wrow ws) wrow_two s1 ho (wrow_len ws)
  refine (askO_ok T hd s2 f1 (hP.tk.mono l1) (by have := hP.sz; omega) (by omega) hN).imp fun v H' ⟨e, hA, h⟩ => ?_
  rcases h with ⟨h1, h2, h3⟩ | ⟨h1, _⟩
  · exact ⟨e, hA, by omega, h2, (g1 _ h3).perm (by exact perm_cn fun a => by (simp only [cn_PT, cn_app, cn_cons, cn_nil] <;> omega))⟩
  · subst h1; exact absurd hA h0
theorem askY_p (T : LkT tbl) (h0 : AskP R n ws 0) (hd : 8 ≤ d) (hs : Sat H Z (PT t x R rv rl ++ (gl ++ F))) (hP : Pl Z R D) (ho : Own 2 gv ws.length (wrow ws).flatten gl) (hlw : ws.length ≤ 50) (hN : 2000 < N) :
    Ct (RUN tbl N d) (.fn (.fn (.func LkN.ask)) [] []) [.ptr t 0, .int .i64 n, gv] H fun v H' => ∃ xb xv Z', Z.le Z' ∧ Tks Z' (R ++ [⟨xb, n, xv, ws, dB (FreeW R ws)⟩]) ∧ v = .tup [.bool (dB (FreeW R ws)), .int .i64 0] ∧ Sat H' Z' (PT t x (R ++ [⟨xb, n, xv, ws, dB (FreeW R ws)⟩]) rv rl ++ (gl ++ F)) := by
  have s1 : Sat H Z (gl ++ (.cells t [hdQ R .nilp, .int .i64 (.ofNat R.length)] :: (rowS R .nilp ++ ([.cells x [rv]] ++ (rl ++ F))))) := hs.perm (by exact perm_cn fun a => by (simp only [cn_PT, cn_app, cn_cons, cn_nil] <;> omega))
  obtain ⟨Z1, l1, s2, f1, g1⟩ := own_lend (xs := wrow ws) wrow_two s1 ho (wrow_len ws)
  refine (askO_ok T hd s2 f1 (hP.tk.mono l1) (by have := hP.sz; omega) (by omega) hN).imp fun v H' ⟨e, hA, h⟩ => ?_
  have he := hA.eq h0
  rcases h with ⟨h1, _⟩ | ⟨_, xb, xv, xl, hx, hv, s⟩
  · exact absurd he h1
  · have s3 : Sat H' Z (xl ++ (gl ++ (.cells t [hdQ (R ++ [⟨xb, n, xv, ws, dB (FreeW R ws)⟩]) .nilp, .int .i64 (.ofNat (R.length + 1))] :: (rowS (R ++ [⟨xb, n, xv, ws, dB (FreeW R ws)⟩]) .nilp ++ ([.cells x [rv]] ++ (rl ++ F)))))) := (g1 _ s).perm (by exact perm_cn fun a => by (simp only [cn_PT, cn_app, cn_cons, cn_nil] <;> omega))
    obtain ⟨Z2, l2, s4, f2, _⟩ := own_lend (xs := wrow ws) wrow_two s3 hx (wrow_len ws)
    rw [show R.length + 1 = (R ++ [(⟨xb, n, xv, ws, dB (FreeW R ws)⟩ : Tk)]).length by simp] at s4
    have s5 : Sat H' Z2 (PT t x (R ++ [⟨xb, n, xv, ws, dB (FreeW R ws)⟩]) rv rl ++ (gl ++ F)) := s4.perm (by exact perm_cn fun a => by (simp only [cn_PT, cn_app, cn_cons, cn_nil] <;> omega))
    have s6 := s4.perm (l' := [.cells t [hdQ (R ++ [⟨xb, n, xv, ws, dB (FreeW R ws)⟩]) .nilp, .int .i64 (.ofNat (R ++ [(⟨xb, n, xv, ws, dB (FreeW R ws)⟩ : Tk)]).length)]] ++ (rowS (R ++ [⟨xb, n, xv, ws, dB (FreeW R ws)⟩]) .nilp ++ (gl ++ ([.cells x [rv]] ++ (rl ++ F))))) (by exact perm_cn fun a => by (simp only [cn_PT, cn_app, cn_cons, cn_nil] <;> omega))
    exact ⟨xb, xv, Z2, l2, tks_snoc (x := ⟨xb, n, xv, ws, dB (FreeW R ws)⟩) (hP.tk.mono l2) f2 (show ws.length ≤ 1000 by omega) s6, hv, s5⟩
theorem daskN_p (T : LpT tbl) (TK : LkT tbl) (TL : LfT tbl) {e : Nat} (h0 : AskP R n ws e) (hne : 0 < e) (hd : 4 ≤ d) (hs : Sat H Z (PT t x R rv rl ++ F)) (hP : Pl Z R D) (hr : Own 2 rv D.length (dC D) rl) (hv0 : Fl Z 2 v0 (wrow ws)) (hlw : ws.length ≤ 50) (hN : 2000 < N) :
    Ct (RUN tbl N d) (.fn (.fn (.func LpN.dask)) [] []) [.ptr x 0, .int .i64 n, v0] H fun v H' => v = .tup [.bool false, .int .i64 (.ofNat e)] ∧ Sat H' Z (PT t x R rv rl ++ F) := by
  have s1 : Sat H Z (.cells x [rv] :: (rl ++ ([.cells t [hdQ R .nilp, .int .i64 (.ofNat R.length)]] ++ (rowS R .nilp ++ F)))) := hs.perm (by exact perm_cn fun a => by (simp only [cn_PT, cn_app, cn_cons, cn_nil] <;> omega))
  refine (dask_ok T TK TL hd s1 hv0 (by omega) hr hP.dk hP.mt (by have := hP.sz; have := hP.mt.len; omega) hN).imp fun v H' ⟨e', hA, h⟩ => ?_
  have he := hA.det h0
  subst he
  rcases h with ⟨h1, h2, h3⟩ | ⟨h1, _⟩
  · exact ⟨h2, h3.perm (by exact perm_cn fun a => by (simp only [cn_PT, cn_app, cn_cons, cn_nil] <;> omega))⟩
  · omega
theorem daskY_p (T : LpT tbl) (TK : LkT tbl) (TL : LfT tbl) {b : Nat} {xv : AV} (h0 : AskP R n ws 0) (hd : 4 ≤ d) (hs : Sat H Z (PT t x (R ++ [⟨b, n, xv, ws, dB (FreeW R ws)⟩]) rv rl ++ F)) (hP : Pl Z R D) (ht : Tks Z (R ++ [⟨b, n, xv, ws, dB (FreeW R ws)⟩])) (hr : Own 2 rv D.length (dC D) rl) (hv0 : Fl Z 2 v0 (wrow ws)) (hlw : ws.length ≤ 50) (hN : 2000 < N) :
    Ct (RUN tbl N d) (.fn (.fn (.func LpN.dask)) [] []) [.ptr x 0, .int .i64 n, v0] H fun v H' => ∃ D' rv' rl' Z', Z.le Z' ∧ Pl Z' (R ++ [⟨b, n, xv, ws, dB (FreeW R ws)⟩]) D' ∧ Own 2 rv' D'.length (dC D') rl' ∧ v = .tup [.bool (dB (FreeW R ws)), .int .i64 0] ∧ Sat H' Z' (PT t x (R ++ [⟨b, n, xv, ws, dB (FreeW R ws)⟩]) rv' rl' ++ F) := by
  have s1 : Sat H Z (.cells x [rv] :: (rl ++ ([.cells t [hdQ (R ++ [⟨b, n, xv, ws, dB (FreeW R ws)⟩]) .nilp, .int .i64 (.ofNat (R ++ [(⟨b, n, xv, ws, dB (FreeW R ws)⟩ : Tk)]).length)]] ++ (rowS (R ++ [⟨b, n, xv, ws, dB (FreeW R ws)⟩]) .nilp ++ F)))) := hs.perm (by exact perm_cn fun a => by (simp only [cn_PT, cn_app, cn_cons, cn_nil] <;> omega))
  refine (dask_ok T TK TL hd s1 hv0 (by omega) hr hP.dk hP.mt (by have := hP.sz; have := hP.mt.len; omega) hN).imp fun v H' ⟨e', hA, h⟩ => ?_
  have he := hA.det h0
  subst he
  rcases h with ⟨h1, _⟩ | ⟨_, xv', rv', rl', Z', l, f, o, hv, s⟩
  · exact absurd rfl h1
  · have hm : Mt (R ++ [⟨b, n, xv, ws, dB (FreeW R ws)⟩]) (D ++ [⟨n, xv', ws⟩]) := hP.mt.ask
    have hl := hP.mt.len
    rw [show (D ++ [(⟨n, xv', ws⟩ : Dk)]).length - 1 = R.length by simp [hl], dB_congr (hm.free (i := R.length) (by simp)), dB_congr freeT_last] at hv
    exact ⟨_, rv', rl', Z', l, (hP.mono l).ask h0 (ht.mono l) f hlw, o, hv, s.perm (by exact perm_cn fun a => by (simp only [cn_PT, cn_app, cn_cons, cn_nil] <;> omega))⟩
theorem dropN_p (T : LkT tbl) (h0 : ¬ ∃ j, j < R.length ∧ (tkAt R j).n = n) (hd : 10 ≤ d) (hs : Sat H Z (PT t x R rv rl ++ F)) (hP : Pl Z R D) (hN : 2000 < N) :
    Ct (RUN tbl N d) (.fn (.fn (.func LkN.drop)) [] []) [.ptr t 0, .int .i64 n] H fun v H' => v = .tup [.nils, .int .i64 5] ∧ Sat H' Z (PT t x R rv rl ++ F) := by
  have s1 : Sat H Z (.cells t [hdQ R .nilp, .int .i64 (.ofNat R.length)] :: (rowS R .nilp ++ ([.cells x [rv]] ++ (rl ++ F)))) := hs.perm (by exact perm_cn fun a => by (simp only [cn_PT, cn_app, cn_cons, cn_nil] <;> omega))
  exact (dropN_ok T hd s1 hP.tk (by have := hP.sz; omega) hN fun j hj e => h0 ⟨j, hj, e⟩).imp fun v H' ⟨h1, h2⟩ => ⟨h1, h2.perm (by exact perm_cn fun a => by (simp only [cn_PT, cn_app, cn_cons, cn_nil] <;> omega))⟩
theorem ddropN_p (T : LpT tbl) (TK : LkT tbl) (TL : LfT tbl) (h0 : ¬ ∃ j, j < R.length ∧ (tkAt R j).n = n) (hd : 4 ≤ d) (hs : Sat H Z (PT t x R rv rl ++ F)) (hP : Pl Z R D) (hr : Own 2 rv D.length (dC D) rl) (hN : 2000 < N) :
    Ct (RUN tbl N d) (.fn (.fn (.func LpN.ddrop)) [] []) [.ptr x 0, .int .i64 n] H fun v H' => v = .tup [.nils, .int .i64 5] ∧ Sat H' Z (PT t x R rv rl ++ F) := by
  have s1 : Sat H Z (.cells x [rv] :: (rl ++ ([.cells t [hdQ R .nilp, .int .i64 (.ofNat R.length)]] ++ (rowS R .nilp ++ F)))) := hs.perm (by exact perm_cn fun a => by (simp only [cn_PT, cn_app, cn_cons, cn_nil] <;> omega))
  exact (ddropN_ok T TK TL hd s1 hr hP.dk hP.mt (by have := hP.sz; have := hP.mt.len; omega) hN fun j hj e => h0 ⟨j, hj, e⟩).imp fun v H' ⟨h1, h2⟩ => ⟨h1, h2.perm (by exact perm_cn fun a => by (simp only [cn_PT, cn_app, cn_cons, cn_nil] <;> omega))⟩
/-- the row without one of it, those who then have their wants marked -/
def cutR (R : List Tk) (i : Nat) : List Tk := R.take i ++ R.drop (i + 1)
def PR (R : List Tk) (i : Nat) : List Tk := prom (R.take i ++ R.drop (i + 1)) (R.take i ++ R.drop (i + 1)).length
def OU (R : List Tk) (i : Nat) : List Int := outs (R.take i ++ R.drop (i + 1)) (R.take i ++ R.drop (i + 1)).length
theorem dropY_p {i : Nat} (T : LkT tbl) (hi : i < R.length) (he : (tkAt R i).n = n) (hno : ∀ j, j < i → ¬ (tkAt R j).n = n) (hd : 10 ≤ d) (hs : Sat H Z (PT t x R rv rl ++ F)) (hP : Pl Z R D) (hN : 2000 < N) :
    Ct (RUN tbl N d) (.fn (.fn (.func LkN.drop)) [] []) [.ptr t 0, .int .i64 n] H fun v H' => ∃ wv lw, Own 1 wv (OU R i).length ((OU R i).map (.int .i64)) lw ∧ v = .tup [wv, .int .i64 0] ∧ Sat H' Z (PT t x (PR R i) rv rl ++ (lw ++ F)) := by
  have s1 : Sat H Z (.cells t [hdQ R .nilp, .int .i64 (.ofNat R.length)] :: (rowS R .nilp ++ ([.cells x [rv]] ++ (rl ++ F)))) := hs.perm (by exact perm_cn fun a => by (simp only [cn_PT, cn_app, cn_cons, cn_nil] <;> omega))
  refine (dropY_ok T hd s1 hP.tk (by have := hP.sz; omega) hN hi he hno).imp fun v H' ⟨wv, lw, h1, h2, h3⟩ => ⟨wv, lw, h2, h1, ?_⟩
  rw [show R.length - 1 = (PR R i).length by unfold PR; rw [prom_len, cut_len hi]] at h3
  exact Sat.perm (l := .cells t [hdQ (PR R i) .nilp, .int .i64 (.ofNat (PR R i).length)] :: (lw ++ (rowS (PR R i) .nilp ++ ([.cells x [rv]] ++ (rl ++ F))))) h3 (by exact perm_cn fun a => by (simp only [cn_PT, cn_app, cn_cons, cn_nil] <;> omega))
theorem ddropY_p {i : Nat} (T : LpT tbl) (TK : LkT tbl) (TL : LfT tbl) (hi : i < R.length) (he : (tkAt R i).n = n) (hno : ∀ j, j < i → ¬ (tkAt R j).n = n) (hd : 4 ≤ d) (hs : Sat H Z (PT t x (PR R i) rv rl ++ F)) (hP : Pl Z R D) (hr : Own 2 rv D.length (dC D) rl) (hN : 2000 < N) :
    Ct (RUN tbl N d) (.fn (.fn (.func LpN.ddrop)) [] []) [.ptr x 0, .int .i64 n] H fun v H' => ∃ wv lw D' rv' rl' Z', Z.le Z' ∧ Pl Z' (PR R i) D' ∧ Own 1 wv (OU R i).length ((OU R i).map (.int .i64)) lw ∧ Own 2 rv' D'.length (dC D') rl' ∧ v = .tup [wv, .int .i64 0] ∧ Sat H' Z' (PT t x (PR R i) rv' rl' ++ (lw ++ F)) := by
  have s1 : Sat H Z (.cells x [rv] :: (rl ++ ([.cells t [hdQ (PR R i) .nilp, .int .i64 (.ofNat (PR R i).length)]] ++ (rowS (PR R i) .nilp ++ F)))) := hs.perm (by exact perm_cn fun a => by (simp only [cn_PT, cn_app, cn_cons, cn_nil] <;> omega))
  refine (ddropY_ok T TK TL hd s1 hr hP.dk hP.mt (by have := hP.sz; have := hP.mt.len; omega) hN hi he hno hP.fr).imp fun v H' ⟨wv, lw, rv', rl', Z', l, o1, o2, hv, s⟩ => ⟨wv, lw, _, rv', rl', Z', l, (hP.mono l).drop hi, o1, o2, hv, s.perm (by exact perm_cn fun a => by (simp only [cn_PT, cn_app, cn_cons, cn_nil] <;> omega))⟩
/-! ### what is told -/
theorem own_ints {v : AV} {G : List Int} {hl : List Hl} (hs : Sat H Z (hl ++ F)) (ho : Own 1 v G.length (G.map (.int .i64)) hl) :
    ∃ Z' : Fz, Z.le Z' ∧ Sat H Z' F ∧ Fl Z' 1 v (iG G) ∧ ∀ (H' : AH) {F' : List Hl}, Sat H' Z' F' → Sat H' Z (hl ++ F') :=
  own_lend (xs := iG G) iG_one hs (by rw [iG_flat]; exact ho) (iG_len G)
theorem ig_get {G : List Int} {i : Nat} (h : i < G.length) : (G.map (AV.int .i64))[i * 1]? = some (.int .i64 (iAt G i)) := by simp [iAt, h]
theorem same_p {va vb : AV} {G : List Int} {la lb : List Hl} (T : LpT tbl) (hd : 1 ≤ d) (hs : Sat H Z (la ++ (lb ++ F))) (ha : Own 1 va G.length (G.map (.int .i64)) la) (hb : Own 1 vb G.length (G.map (.int .i64)) lb) (hl : G.length ≤ 1000) (hN : 2000 < N) :
    Ct (RUN tbl N d) (.fn (.fn (.func LpN.same)) [] []) [va, vb] H fun v H' => v = .bool true ∧ Sat H' Z (la ++ (lb ++ F)) := by
  obtain ⟨Z1, l1, s1, f1, g1⟩ := own_ints hs ha
  obtain ⟨Z2, l2, s2, f2, g2⟩ := own_ints s1 hb
  exact (same_ok T hd s2 (f1.mono l2) f2 hl hN).imp fun v H' ⟨h1, h2⟩ => ⟨h1, g1 _ (g2 _ h2)⟩
theorem tbl_PT : Tbl t R (PT t x R rv rl ++ F) :=
  ⟨⟨_, List.mem_cons_self⟩, fun i hi => List.mem_append_left _ (List.mem_cons_of_mem _ (List.mem_cons_of_mem _ (List.mem_append_left _ (row_mem hi .nilp))))⟩
theorem row_p (T : LkT tbl) (hd : 4 ≤ d) (hs : Sat H Z (PT t x R rv rl ++ F)) (hP : Pl Z R D) (hN : 2000 < N) :
    Ct (RUN tbl N d) (.fn (.fn (.func LkN.row)) [] []) [.ptr t 0] H fun v H' => ∃ lw, Own 1 v (R.map fun x => x.n).length ((R.map fun x => x.n).map (.int .i64)) lw ∧ Sat H' Z (PT t x R rv rl ++ (lw ++ F)) := by
  refine (row_ok T hd hs tbl_PT (by have := hP.sz; omega) (by have := hP.sz; omega)).imp fun v H' ⟨lw, h1, h2⟩ => ⟨lw, ?_, h2.perm (by exact perm_cn fun a => by (simp only [cn_PT, cn_app, cn_cons, cn_nil] <;> omega))⟩
  rw [List.length_map, List.map_map]
  exact h1
theorem drow_p (T : LpT tbl) (hd : 1 ≤ d) (hs : Sat H Z (PT t x R rv rl ++ F)) (hP : Pl Z R D) (hr : Own 2 rv D.length (dC D) rl) (hN : 2000 < N) :
    Ct (RUN tbl N d) (.fn (.fn (.func LpN.drow)) [] []) [.ptr x 0] H fun v H' => ∃ lw, Own 1 v (R.map fun x => x.n).length ((R.map fun x => x.n).map (.int .i64)) lw ∧ Sat H' Z (PT t x R rv rl ++ (lw ++ F)) := by
  have s1 : Sat H Z (rl ++ (.cells x [rv] :: ([.cells t [hdQ R .nilp, .int .i64 (.ofNat R.length)]] ++ (rowS R .nilp ++ F)))) := hs.perm (by exact perm_cn fun a => by (simp only [cn_PT, cn_app, cn_cons, cn_nil] <;> omega))
  refine (drow_own T hd s1 hr List.mem_cons_self hP.dk (by have := hP.sz; have := hP.mt.len; omega) hN).imp fun v H' ⟨lw, h1, h2⟩ => ⟨lw, ?_, h2.perm (by exact perm_cn fun a => by (simp only [cn_PT, cn_app, cn_cons, cn_nil] <;> omega))⟩
  rw [← hP.mt.nums, List.length_map, List.map_map]
  exact h1
theorem has_p (T : LpT tbl) (TK : LkT tbl) (TL : LfT tbl) (hP : Pl Z R D) (hr : Own 2 rv D.length (dC D) rl) (hN : 2000 < N) (n : Int) : ∃ b : Bool,
    (∀ {d : Nat} {H : AH} {F : List Hl}, 4 ≤ d → Sat H Z (PT t x R rv rl ++ F) → Ct (RUN tbl N d) (.fn (.fn (.func LkN.has)) [] []) [.ptr t 0, .int .i64 n] H fun v H' => v = .bool b ∧ Sat H' Z (PT t x R rv rl ++ F)) ∧
    (∀ {d : Nat} {H : AH} {F : List Hl}, 4 ≤ d → Sat H Z (PT t x R rv rl ++ F) → Ct (RUN tbl N d) (.fn (.fn (.func LpN.dhas)) [] []) [.ptr x 0, .int .i64 n] H fun v H' => v = .bool b ∧ Sat H' Z (PT t x R rv rl ++ F)) := by
  have hsz := hP.sz
  have hl := hP.mt.len
  by_cases h : ∃ j, j < R.length ∧ (tkAt R j).n = n
  · obtain ⟨j, h1, h2, h3⟩ := first_tk h
    have e : (tkAt R j).has = dB (FreeD D j) := by rw [dB_congr (hP.mt.free h1), ← dB_congr (hP.fr j h1)]; cases (tkAt R j).has <;> simp [dB]
    refine ⟨(tkAt R j).has, fun {d H F} hd hs => hasY_ok TK hd hs tbl_PT (by omega) h1 h2 h3, fun {d H F} hd hs => ?_⟩
    have s1 : Sat H Z (rl ++ (.cells x [rv] :: ([.cells t [hdQ R .nilp, .int .i64 (.ofNat R.length)]] ++ (rowS R .nilp ++ F)))) := hs.perm (by exact perm_cn fun a => by (simp only [cn_PT, cn_app, cn_cons, cn_nil] <;> omega))
    rw [e]
    exact (dhasY_own T TK TL hd s1 hr List.mem_cons_self hP.dk (by omega) hN (by omega) ((hP.mt.n j h1).trans h2) fun q hq e => h3 q hq ((hP.mt.n q (by omega)).symm.trans e)).imp fun v H' ⟨h1, h2⟩ => ⟨h1, h2.perm (by exact perm_cn fun a => by (simp only [cn_PT, cn_app, cn_cons, cn_nil] <;> omega))⟩
  · refine ⟨false, fun {d H F} hd hs => hasN_ok TK hd hs tbl_PT (by omega) fun j hj e => h ⟨j, hj, e⟩, fun {d H F} hd hs => ?_⟩
    have s1 : Sat H Z (rl ++ (.cells x [rv] :: ([.cells t [hdQ R .nilp, .int .i64 (.ofNat R.length)]] ++ (rowS R .nilp ++ F)))) := hs.perm (by exact perm_cn fun a => by (simp only [cn_PT, cn_app, cn_cons, cn_nil] <;> omega))
    exact (dhasN_own T TK TL hd s1 hr List.mem_cons_self hP.dk (by omega) hN fun q hq e => h ⟨q, by omega, (hP.mt.n q (by omega)).symm.trans e⟩).imp fun v H' ⟨h1, h2⟩ => ⟨h1, h2.perm (by exact perm_cn fun a => by (simp only [cn_PT, cn_app, cn_cons, cn_nil] <;> omega))⟩
/-! ### copies -/
theorem copy_p (T : LpT tbl) (TK : LkT tbl) (hd : 4 ≤ d) (hs : Sat H Z (PT t x R rv rl ++ F)) (hP : Pl Z R D) (hN : 2000 < N) :
    Ct (RUN tbl N d) (.fn (.fn (.func LpN.copy)) [] []) [.ptr t 0] H fun v H' => ∃ o NR, v = .ptr o 0 ∧ Pl Z NR D ∧ Sat H' Z (PT t x R rv rl ++ (.cells o [hdQ NR .nilp, .int .i64 (.ofNat NR.length)] :: (rowS NR .nilp ++ F))) := by
  refine (copy_ok T TK hd hs List.mem_cons_self tbl_PT hP.tk (by have := hP.sz; omega) hN).imp fun v H' ⟨o, NR, h1, h2, h3⟩ => ?_
  rw [← h2.len] at h3
  exact ⟨o, NR, h1, hP.copy h2 (row_ne (l := [_]) h3), h3.perm (by exact perm_cn fun a => by (simp only [cn_PT, cn_app, cn_cons, cn_nil] <;> omega))⟩
theorem dcopy_p (T : LpT tbl) {c : Nat} {NR : List Tk} (hd : 1 ≤ d) (hs : Sat H Z (PT t x R rv rl ++ (.cells c [hdQ NR .nilp, .int .i64 (.ofNat NR.length)] :: (rowS NR .nilp ++ F)))) (hP : Pl Z R D) (hr : Own 2 rv D.length (dC D) rl) (hN : 2000 < N) :
    Ct (RUN tbl N d) (.fn (.fn (.func LpN.dcopy)) [] []) [.ptr x 0] H fun v H' => ∃ y rv' rl', v = .ptr y 0 ∧ Own 2 rv' D.length (dC D) rl' ∧ Sat H' Z (PT t x R rv rl ++ (PT c y NR rv' rl' ++ F)) := by
  have s1 : Sat H Z (rl ++ (.cells x [rv] :: ([.cells t [hdQ R .nilp, .int .i64 (.ofNat R.length)]] ++ (rowS R .nilp ++ ([.cells c [hdQ NR .nilp, .int .i64 (.ofNat NR.length)]] ++ (rowS NR .nilp ++ F)))))) := hs.perm (by exact perm_cn fun a => by (simp only [cn_PT, cn_app, cn_cons, cn_nil] <;> omega))
  obtain ⟨Z1, l1, s2, f1, g1⟩ := d_lend s1 hr
  exact (dcopy_ok T hd s2 List.mem_cons_self f1 (hP.dk.mono l1) (by have := hP.sz; have := hP.mt.len; omega) hN).imp fun v H' ⟨y, rv', rl', h1, h2, h3⟩ => ⟨y, rv', rl', h1, h2, (g1 _ h3).perm (by exact perm_cn fun a => by (simp only [cn_PT, cn_app, cn_cons, cn_nil] <;> omega))⟩
end
end
end Go.Jt
