/-
  The abstract run of an operation is true to the model's: append, copy, clear of slices, len, cap, min, max.
-/
import Derived.Test.YtlhlgmodhblplaaJtOps7
set_option autoImplicit false
set_option linter.all false
namespace Go.Jt
open Go.RowKit (Below)
variable [Gl]

section
variable {P : Program} {base : Nat} {ι : Io} {H : AH} {w : World} {k : AV → AH → Bool} {env : Env} {a : Act}

/-- what a word that gives a value comes to -/
def ResV (P : Program) (base : Nat) (ι : Io) (H : AH) (w : World) (k : AV → AH → Bool) (r : Result Value) : Prop :=
  ∃ v H' ι' cv w', r = .ok cv w' ∧ Nx P base ι H w ι' H' w' ∧ VR ι' v cv ∧ k v H' = true
theorem ResV.pure {r : Result Value} (hr : HR P base ι H w) {v : AV} {cv : Value} (hrun : r = .ok cv w) (hv : VR ι v cv) (hk : k v H = true) : ResV P base ι H w k r :=
  ⟨v, H, ι, cv, w, hrun, Nx.refl hr, hv, hk⟩
theorem ResV.builtin {o : Oper} {c : Call} {b : Builtin} {f : Array TypeId → TypeId → Array Value → Sem Value} (ho : o.op = .call c) (hc : c.callee = .builtin b)
    (hf : ∀ at' ty cs as, Go.builtin b at' ty cs as = (do Pure.pure (Next.value (← f at' ty as)))) (h : ResV P base ι H w k ((f c.argTypes o.type (c.args.map a.eval)).run P w)) : Res P base ι H w k ((execOp a.eval o).run P w) := by
  obtain ⟨v, H', ι', cv, w', hrun, hnx, hv, hk⟩ := h
  refine ⟨v, H', ι', .value cv, w', ?_, hnx, hv, hk⟩
  simp [execOp, ho, resolve, hc, invoke, hf, hrun]

theorem store_none (e : Addr) : (storeCells e ([] : List Value)).run P w = .ok () w := by simp [storeCells]
/-- a new block, longer than what is known of it -/
theorem growNew {H1 : AH} (hn : Nx P base ι H w ι H1 w) {r : Rp AV} {c rest : Array Value} (hc : cellsR ι r c) (hrest : ∀ i, i < rest.size → (rest.getD i Go.undef).oneCell' = true) (el : TypeId) (st : Bool) (sz : Nat) (hsz : (c ++ rest).size = sz) :
    Nx P base ι H w (ι.ext H1.n ⟨w.heap.size, 0, sz⟩) (H1.new (.cells r st false)) (w.drew.alloc (.cells (c ++ rest) el)) := by
  have h1 : HR P base ι H1 w := hn.hr
  exact hn.trans (h1.newNx sz rfl rfl rfl rfl (OR_grow _ (hc.mono (ext_le_new h1 _)) hrest el _ st h1.below sz hsz))

/-- a row put behind a part of a block, of which nothing else is looked at from now on -/
theorem moveRow (hr : HR P base ι H w) {b off p : Nat} {c r r' : Rp AV} {st : Bool} {L : Loc} {vs : Array Value} (hb : H.get b = some (.cells c st false)) (hL : ι b = some L) (hrow : cellsR ι r vs) (hp : p = 0 ∨ off + p ≤ c.toL.length) (hfit : L.sh + off + p + vs.size ≤ L.sz)
    (hok' : r'.ok) (ht' : r'.toL = (c.toL.drop off).take p ++ r.toL) :
    ∃ w', (storeCells ⟨L.blk, L.sh + off + p, none⟩ vs.toList).run P w = .ok () w' ∧ Nx P base ι H w (ι.ext H.n ⟨L.blk, L.sh + off, L.sz⟩) ((H.kill b).new (.cells r' st false)) w' := by
  obtain ⟨cc, el, fr, hw, hor⟩ := hr.cells hb hL
  cases hor with
  | cells _ _ _ _ _ _ hok hz' hl hcc h1' hf hs' hro =>
  have hbase := hro rfl
  obtain ⟨w', cc', hrun, hup, hcsz, hg⟩ := run_storeCells (P := P) (off := L.sh + off + p) vs.toList 0 cc w hw (fun v hv => by
    obtain ⟨j, hj, rfl⟩ := List.getElem_of_mem hv
    have := hrow.2.2.2 j (by simpa using hj)
    simpa [show j < vs.size by simpa using hj] using this) (by simp; omega) (fun o ho => hf o ho (.inl rfl))
  have hvl : vs.toList.length = vs.size := by simp
  have hpl : ((c.toL.drop off).take p).length = p := by
    rcases hp with hp | hp
    · subst hp; simp
    · simp; omega
  have hrl : r'.toL.length = p + vs.size := by rw [ht', List.length_append, hpl, hrow.2.1]
  have hle := Io.ext_le ι H.n ⟨L.blk, L.sh + off, L.sz⟩ (hr.fresh _ (Nat.le_refl _))
  refine ⟨w', hrun, hr.move (L' := ⟨L.blk, L.sh + off, L.sz⟩) (o' := .cells r' st false) hb hL rfl hup ?_ hbase⟩
  refine .cells r' st false cc' el fr hok' (by rw [hcsz, hz']) (by simp only; omega) (fun j hj => ?_) (fun j hj _ => ?_) (by rw [hcsz]; exact fun o ho _ => hf o ho (.inl rfl)) hs' (fun _ => hbase)
  · rw [hg]
    simp only
    rw [hvl, ht']
    by_cases hjp : j < p
    · rw [if_neg (by omega), List.getD_eq_getElem?_getD, List.getElem?_append_left (by omega), List.getElem?_take_of_lt hjp, List.getElem?_drop, ← List.getD_eq_getElem?_getD]
      have h3 := hcc (off + j) (by omega)
      rw [show L.sh + off + j = L.sh + (off + j) by omega]
      exact h3.mono hle
    · rw [if_pos (by omega), List.getD_eq_getElem?_getD, List.getElem?_append_right (by omega), ← List.getD_eq_getElem?_getD, hpl]
      have h3 := hrow.2.2.1 (j - p)
      rw [show L.sh + off + j - (L.sh + off + p + 0) = j - p by omega]
      simpa using h3.mono hle
  · rw [hg]
    split
    · have h3 := hrow.2.2.2 (j - (L.sh + off + p + 0)) (by omega)
      simpa using h3
    · exact h1' j (by omega) (.inl rfl)

theorem xapp_sound {t u e : TypeId} {i : TypeInfo} {ud : TypeDesc} {z : Rp AV} {zv : Value} {s x : AV} {sv xv : Value} (ht : P.underlying t = some (.slice e)) (hu : P.underlying u = some ud) (hi : P.info? e = some i) (hzv : i.zero = some zv) (hz : cellsR ι z zv.cells) (hzs : zv.cells.size = i.size)
    (hpos : 0 < i.size) (hby : i.bytes ≠ 0) (hr : HR P base ι H w) (hs : VR ι s sv) (hxv : VR ι x xv) (ty : TypeId) (h : xapp i.size i.bytes z (zmOf ud) H s x k = true) : ResV P base ι H w k ((Builtin.append_ #[t, u] ty #[sv, xv]).run P w) := by
  unfold xapp at h
  obtain ⟨n, r, cs, h, hrow, hsz, hisa, hc1, hc2⟩ := appSrc_sound hr hxv hz hzs hpos h
  obtain ⟨hF, hG⟩ := appRun (w := w) ht hu hi hzv hpos hby hisa hc1 hc2
  have hzr : ∀ m i', i' < (Builtin.zeroCells zv.cells m).size → ((Builtin.zeroCells zv.cells m).getD i' Go.undef).oneCell' = true := fun m => (cellsR_zeros hz (by omega) m).2.2.2
  cases hn : Nat.beq n 0 with
  | true =>
    rw [hn] at h
    have hn0 := Nat.eq_of_beq_eq_true hn
    subst hn0
    have hcs : cs = #[] := Array.eq_empty_of_size_eq_zero (by simpa using hsz)
    subst hcs
    have go : ∀ sb sLen sCap, sLen ≤ sCap → (Builtin.append_ #[t, u] ty #[.slice sb sLen sCap, xv]).run P w = .ok (.slice sb sLen sCap) w := fun sb sLen sCap hle =>
      hF ty sb sLen sCap w hle (fun _ _ => store_none _) (fun _ => rfl)
    simp only [cond_true] at h
    split at h
    · cases hs
      exact ResV.pure hr (go _ _ _ (Nat.le_refl _)) .nils h
    · cases hs with
      | slc _ _ _ _ L hL hl => exact ResV.pure hr (go _ _ _ hl) (.slc _ _ _ _ L hL hl) h
    · cases hs with
      | slu _ _ _ _ cap L hL hl he hc => exact ResV.pure hr (go _ _ _ hl) (.slu _ _ _ _ cap L hL hl he hc) h
    · cases hs with
      | slz _ _ _ o cap L hL he hc => exact ResV.pure hr (go _ _ _ (Nat.zero_le _)) (.slz _ _ _ o cap L hL he hc) h
      | slz0 aa => exact ResV.pure hr (go _ _ _ (Nat.le_refl _)) (.slz0 aa) h
    · cases h
  | false =>
    rw [hn] at h
    have hn0 : n ≠ 0 := fun e => by subst e; cases hn
    simp only [cond_false] at h
    split at h
    · -- an empty part at a block's end
      rename_i b off e' _
      obtain ⟨h1, h2⟩ := cond_true_inv h
      have := Nat.eq_of_beq_eq_true h1
      subst this
      obtain ⟨hroom, h3⟩ := cond_true_inv h2
      obtain ⟨c, st, ro, hb, h4⟩ := gcell_inv h3
      obtain ⟨hro, h5⟩ := cond_false_inv h4
      subst hro
      rw [anew_eq, AH.n_kill] at h5
      obtain ⟨o', cap, L, rfl, hL, hc⟩ := hs.slz_inv hpos
      have he := hpos
      by_cases hfit : 0 + n ≤ cap
      · have hcap : o' = L.sh + off ∧ L.sh + off + cap * i.size = L.sz := by
          rcases hc with hc | hc
          · omega
          · exact hc
        obtain ⟨rfl, hend⟩ := hcap
        have hmul : n * i.size ≤ cap * i.size := Nat.mul_le_mul_right _ (by omega)
        obtain ⟨w', hrun, hnx⟩ := moveRow (P := P) (off := off) (r' := r) (p := 0) hr hb hL hrow (Or.inl rfl) (by omega) hrow.1 (by simp)
        refine ⟨_, _, _, _, w', hF ty _ _ _ w' hfit (fun a ea => ?_) (fun en => (by cases en)), hnx, ?_, h5⟩
        · cases ea
          rw [add_none, Nat.zero_mul]
          exact hrun
        · rw [Nat.zero_add]
          exact .slu _ _ _ _ cap _ (Io.ext_self _ _ _) (by omega) he (by simp only; omega)
      · obtain ⟨nc, hnc, hrun⟩ := hG ty (some ⟨L.blk, o', none⟩) 0 cap #[] hfit (Nat.zero_le _) (by rw [Nat.zero_add]; exact hroom) (by simp [Builtin.firstCells, loadCells, loadCellsFrom])
        rw [Array.empty_append] at hrun
        have hmul : n * i.size + (nc - (0 + n)) * i.size = nc * i.size := by rw [← Nat.add_mul]; congr 1; omega
        refine ⟨_, _, _, _, _, hrun, growNew (hr.killNx hL) hrow (hzr _) e st (nc * i.size) (by rw [Array.size_append, zeroCells_size, hsz, hzs, hmul]), ?_, h5⟩
        rw [Nat.zero_add]
        exact .slu _ _ _ _ nc _ (Io.ext_self _ _ _) (by omega) he (by simp only; omega)
    · -- none as yet
      obtain ⟨hroom, h2⟩ := cond_true_inv h
      rw [anew_eq] at h2
      cases hs
      obtain ⟨nc, hnc, hrun⟩ := hG ty none 0 0 #[] (by omega) (Nat.zero_le _) (by rw [Nat.zero_add]; exact hroom) (by simp [Builtin.firstCells])
      rw [Array.empty_append] at hrun
      have hmul : n * i.size + (nc - (0 + n)) * i.size = nc * i.size := by rw [← Nat.add_mul]; congr 1; omega
      refine ⟨_, _, _, _, _, hrun, growNew (Nx.refl hr) hrow (hzr _) e false (nc * i.size) (by rw [Array.size_append, zeroCells_size, hsz, hzs, hmul]), ?_, h2⟩
      rw [Nat.zero_add]
      exact .slu _ _ _ _ nc _ (Io.ext_self _ _ _) (by omega) hpos (by simp only; omega)
    · -- a part whose room is known
      rename_i b off len cap _
      cases hs with
      | slc _ _ _ _ L hL hl =>
      cases hfit : Nat.ble (len + n) cap with
      | true =>
        rw [hfit] at h
        have hfit' := Nat.le_of_ble_eq_true hfit
        simp only [cond_true] at h
        obtain ⟨c, st, ro, hb, h4⟩ := gcell_inv h
        obtain ⟨hro, h5⟩ := cond_false_inv h4
        subst hro
        obtain ⟨hin, h6⟩ := cond_true_inv h5
        rw [fN_eq] at h6
        have hin' := Nat.le_of_ble_eq_true hin
        have hok : c.ok := by
          obtain ⟨cc, el, fr, hw, hor⟩ := hr.cells hb hL
          cases hor; assumption
        rw [Rp.len_eq c hok, Nat.add_mul, ← Nat.add_assoc] at hin'
        obtain ⟨o1, e1⟩ := Rp.put_spec c (off + len * i.size) (n * i.size) r hok hrow.1 (by rw [hrow.2.1, hsz]) hin'
        obtain ⟨w', hw', hnx⟩ := putRow (P := P) (off := off + len * i.size) hr hb hL hrow (by rw [hsz]; exact hin') o1 (by rw [e1, hsz])
        refine ⟨_, _, _, _, w', hF ty _ _ _ w' hfit' (fun a ea => ?_) (fun en => (by cases en)), hnx, .slc _ _ _ _ L hL hfit', h6⟩
        cases ea
        rw [add_none, Nat.add_assoc]
        exact hw'
      | false =>
        rw [hfit] at h
        simp only [cond_false] at h
        have hfit' := lt_of_ble_false hfit
        obtain ⟨hroom, h2⟩ := cond_true_inv h
        obtain ⟨c, st, ro, hb, h3⟩ := gcell_inv h2
        obtain ⟨hin, h4⟩ := cond_true_inv h3
        rw [anew_eq, fN_eq] at h4
        obtain ⟨old, holdR, holdS, hold⟩ := run_firstCells (P := P) (es := i.size) (n := len) (len := len) (cap := cap) hr hb hL (Nat.le_of_ble_eq_true hin)
        obtain ⟨nc, hnc, hrun⟩ := hG ty (some ⟨L.blk, L.sh + off, none⟩) len cap old (by omega) hl hroom (hold _ rfl)
        have hmul : len * i.size + n * i.size + (nc - (len + n)) * i.size = nc * i.size := by rw [← Nat.add_mul, ← Nat.add_mul]; congr 1; omega
        refine ⟨_, _, _, _, _, hrun, growNew (Nx.refl hr) (cellsR_app holdR hrow) (hzr _) e false (nc * i.size) (by rw [Array.size_append, Array.size_append, zeroCells_size, hsz, hzs, holdS, hmul]), ?_, h4⟩
        exact .slu _ _ _ _ nc _ (Io.ext_self _ _ _) hnc hpos (by simp only; omega)
    · -- a part that goes on to its block's end
      rename_i b off len e' _
      obtain ⟨h1, h2⟩ := cond_true_inv h
      have := Nat.eq_of_beq_eq_true h1
      subst this
      obtain ⟨c, st, ro, hb, h4⟩ := gcell_inv h2
      obtain ⟨hro, h5⟩ := cond_false_inv h4
      subst hro
      cases hs with
      | slu _ _ _ _ cap L hL hl he hc =>
      obtain ⟨cc, el, fr, hw, hor⟩ := hr.cells hb hL
      have hbnd : c.ok ∧ L.sh + c.toL.length ≤ L.sz := by
        cases hor; exact ⟨by assumption, by assumption⟩
      obtain ⟨hok, hbd⟩ := hbnd
      cases hin : Nat.ble (off + (len + n) * i.size) c.len with
      | true =>
        rw [hin] at h5
        simp only [cond_true, fN_eq] at h5
        have hin' := Nat.le_of_ble_eq_true hin
        rw [Rp.len_eq c hok] at hin'
        have hfit' : len + n ≤ cap := by
          have : (len + n) * i.size ≤ cap * i.size := by omega
          exact Nat.le_of_mul_le_mul_right this he
        rw [Nat.add_mul, ← Nat.add_assoc] at hin'
        obtain ⟨o1, e1⟩ := Rp.put_spec c (off + len * i.size) (n * i.size) r hok hrow.1 (by rw [hrow.2.1, hsz]) hin'
        obtain ⟨w', hw', hnx⟩ := putRow (P := P) (off := off + len * i.size) hr hb hL hrow (by rw [hsz]; exact hin') o1 (by rw [e1, hsz])
        refine ⟨_, _, _, _, w', hF ty _ _ _ w' hfit' (fun a ea => ?_) (fun en => (by cases en)), hnx, .slu _ _ _ _ cap L hL hfit' he hc, h5⟩
        cases ea
        rw [add_none, Nat.add_assoc]
        exact hw'
      | false =>
        rw [hin] at h5
        simp only [cond_false] at h5
        obtain ⟨hroom, h6⟩ := cond_true_inv h5
        obtain ⟨hlen, h7⟩ := cond_true_inv h6
        rw [anew_eq, AH.n_kill, fN_eq] at h7
        have hlen' := Nat.le_of_ble_eq_true hlen
        by_cases hfit : len + n ≤ cap
        · have hmul : (len + n) * i.size ≤ cap * i.size := Nat.mul_le_mul_right _ hfit
          rw [Nat.add_mul] at hmul
          obtain ⟨os, es⟩ := Rp.sub_spec c off (len * i.size) hok
          obtain ⟨oa, ea⟩ := Rp.app_spec (c.sub off (len * i.size)) r os hrow.1
          have hlen2 : off + len * i.size ≤ c.toL.length := by rw [← Rp.len_eq c hok]; exact hlen'
          obtain ⟨w', hrun, hnx⟩ := moveRow (P := P) (off := off) (r' := (c.sub off (len * i.size)).app r) (p := len * i.size) hr hb hL hrow (Or.inr hlen2) (by omega) oa (by rw [ea, es])
          refine ⟨_, _, _, _, w', hF ty _ _ _ w' hfit (fun a ea => ?_) (fun en => (by cases en)), hnx, ?_, h7⟩
          · cases ea
            rw [add_none]
            exact hrun
          · exact .slu _ _ _ _ cap _ (Io.ext_self _ _ _) (by omega) he (by simp only; omega)
        · obtain ⟨old, holdR, holdS, hold⟩ := run_firstCells (P := P) (es := i.size) (n := len) (len := len) (cap := cap) hr hb hL hlen'
          obtain ⟨nc, hnc, hrun⟩ := hG ty (some ⟨L.blk, L.sh + off, none⟩) len cap old (by omega) hl hroom (hold _ rfl)
          have hmul : len * i.size + n * i.size + (nc - (len + n)) * i.size = nc * i.size := by rw [← Nat.add_mul, ← Nat.add_mul]; congr 1; omega
          refine ⟨_, _, _, _, _, hrun, growNew (hr.killNx hL) (cellsR_app holdR hrow) (hzr _) e st (nc * i.size) (by rw [Array.size_append, Array.size_append, zeroCells_size, hsz, hzs, holdS, hmul]), ?_, h7⟩
          exact .slu _ _ _ _ nc _ (Io.ext_self _ _ _) hnc hpos (by simp only; omega)
    · cases h
end
end Go.Jt
