/-
  Blocks of one's own written to; a row of tasks copied.
-/
import Derived.Test.YtlhlgmodhblplaaJtDo
set_option autoImplicit false
set_option linter.all false
set_option maxHeartbeats 2000000
namespace Go.Jt
noncomputable section
variable [Gl]
section
variable {H : AH} {Z : Fz} {l : List Hl}
theorem l_alloc {z : Rp AV} {L : List AV} (hs : Sat H Z l) (hz : RL z L) : ∃ b H', Sat H' Z (.loc b L :: l) ∧ ∀ {env : Env} (K : AV → AH → Bool), xop (.alloc z) env H K = K (.ptr b 0) H' :=
  ⟨H.n, H.new (.cells z false false), hs.new rfl ⟨z, hz.1, hz.2, get_new_here ..⟩, fun {env} K => w_alloc K⟩
theorem o_st1 {b off : Nat} {L : List AV} (hs : Sat H Z (.loc b L :: l)) (v : AV) (ho : off < L.length) (hv : v.sc = true) :
    ∃ H', Sat H' Z (.loc b (L.set off v) :: l) ∧ ∀ {env : Env} {a x : Od}, ev env a = .ptr b off → ev env x = v → ∀ K : AV → AH → Bool, xop (.st 1 a x) env H K = K .undef H' :=
  o_stm (l₁ := []) hs v ho hv
theorem o_st4 {b : Nat} {L M : List AV} {r : Rp AV} (hs : Sat H Z (.loc b L :: l)) (hr : RL r M) (hM : M.length = 4) (hL : L.length = 4) :
    ∃ H', Sat H' Z (.loc b M :: l) ∧ ∀ {env : Env} {a x : Od}, ev env a = .ptr b 0 → ev env x = .agg r → ∀ K : AV → AH → Bool, xop (.st 4 a x) env H K = K .undef H' := by
  obtain ⟨R, h1, h2, h3⟩ := hs.getAt 0 rfl
  have hp := RL.put (o := 0) (n := 4) ⟨h1, h2⟩ hr hM (by omega)
  rw [List.take_zero, List.drop_of_length_le (by omega), List.append_nil, List.nil_append] at hp
  refine ⟨H.set b (.cells (R.put 0 4 r) false false), hs.upd rfl (fun c hc => get_set_ne hc) rfl ⟨_, hp.1, hp.2, get_set_here ..⟩, fun {env a x} ha hx K => ?_⟩
  exact w_sta ha hx h3 (by rw [hr.len, hM, Nat.beq_refl]) (Nat.ble_eq_true_of_le (by rw [Rp.len_eq R h1, h2]; omega)) K
theorem o_ldnm {b : Nat} {L : List AV} (hs : Sat H Z l) (hm : Hl.loc b L ∈ l) (hL : L.length = 4) : ∃ r, RL r L ∧ ∀ {env : Env} {a : Od}, ev env a = .ptr b 0 → ∀ K : AV → AH → Bool, xop (.ldn 4 a) env H K = K (.agg r) H := by
  obtain ⟨R, h1, h2, h3⟩ := hs.on _ hm
  have hr : RL (R.sub 0 4) L := by
    have := RL.sub (r := R) (L := L) ⟨h1, h2⟩ 0 4
    rwa [List.drop_zero, List.take_of_length_le (by omega)] at this
  refine ⟨_, hr, fun {env a} ha K => ?_⟩
  have hb : Nat.ble (0 + 4) R.len = true := Nat.ble_eq_true_of_le (by rw [Rp.len_eq R h1, h2]; omega)
  simp only [xop, ha, gcell, h3, hb, cond_true]
end
/-- a copy of a row -/
structure Cpy (R' R : List Tk) : Prop where
  len : R'.length = R.length
  n : ∀ k, k < R.length → (tkAt R' k).n = (tkAt R k).n
  v : ∀ k, k < R.length → (tkAt R' k).v = (tkAt R k).v
  ws : ∀ k, k < R.length → (tkAt R' k).ws = (tkAt R k).ws
  has : ∀ k, k < R.length → (tkAt R' k).has = (tkAt R k).has
theorem Cpy.nil (R : List Tk) : Cpy [] (R.take 0) := ⟨by simp, fun k hk => by simp at hk, fun k hk => by simp at hk, fun k hk => by simp at hk, fun k hk => by simp at hk⟩
theorem tkAt_take {R : List Tk} {j k : Nat} (h : k < j) : tkAt (R.take j) k = tkAt R k := by
  unfold tkAt
  rw [List.getD_eq_getElem?_getD, List.getD_eq_getElem?_getD, List.getElem?_take_of_lt h]
theorem Cpy.snoc {R' R : List Tk} {j b : Nat} (h : Cpy R' (R.take j)) (hj : j < R.length) : Cpy (R' ++ [⟨b, (tkAt R j).n, (tkAt R j).v, (tkAt R j).ws, (tkAt R j).has⟩]) (R.take (j + 1)) := by
  have hl : R'.length = j := by have := h.len; simp at this; omega
  have key : ∀ k, k < (R.take (j + 1)).length → k < j ∨ k = j := fun k hk => by simp at hk; omega
  have ht : ∀ k, k < j → k < (R.take j).length := fun k hk => by simp; omega
  refine ⟨by simp [hl]; omega, ?_, ?_, ?_, ?_⟩ <;> intro k hk <;> rcases key k hk with h1 | h1
  · rw [tkAt_left (by omega), tkAt_take (by omega), h.n k (ht k h1), tkAt_take h1]
  · subst h1; rw [← hl, tkAt_last, hl, tkAt_take (by omega)]
  · rw [tkAt_left (by omega), tkAt_take (by omega), h.v k (ht k h1), tkAt_take h1]
  · subst h1; rw [← hl, tkAt_last, hl, tkAt_take (by omega)]
  · rw [tkAt_left (by omega), tkAt_take (by omega), h.ws k (ht k h1), tkAt_take h1]
  · subst h1; rw [← hl, tkAt_last, hl, tkAt_take (by omega)]
  · rw [tkAt_left (by omega), tkAt_take (by omega), h.has k (ht k h1), tkAt_take h1]
  · subst h1; rw [← hl, tkAt_last, hl, tkAt_take (by omega)]
variable [LkN]
/-- the two tables: the program's and the document's -/
structure Pl (Z : Fz) (R : List Tk) (D : List Dk) : Prop where
  mt : Mt R D
  fr : ∀ k, k < R.length → ((tkAt R k).has = true ↔ FreeT R k)
  dis : ∀ j k, j < R.length → k < R.length → j ≠ k → ¬ (tkAt R j).n = (tkAt R k).n
  tk : Tks Z R
  dk : DOk Z D
  sz : R.length ≤ 16
theorem Pl.nil (Z : Fz) : Pl Z [] [] := ⟨Mt.nil, fun k h => by simp at h, fun j k h => by simp at h, Tks.nil Z, DOk.nil Z, by simp⟩
theorem Pl.mono {Z Z' : Fz} {R : List Tk} {D : List Dk} (h : Pl Z R D) (hl : Z.le Z') : Pl Z' R D := ⟨h.mt, h.fr, h.dis, h.tk.mono hl, h.dk.mono hl, h.sz⟩
theorem Pl.copy {Z : Fz} {R R' : List Tk} {D : List Dk} (h : Pl Z R D) (c : Cpy R' R) (hne : ∀ i j, i < R'.length → j < R'.length → i ≠ j → ¬ (tkAt R' i).b = (tkAt R' j).b) : Pl Z R' D := by
  have hl := c.len
  have hf : ∀ k, k < R.length → (FreeT R' k ↔ FreeT R k) := by
    intro k hk
    unfold FreeT
    exact ⟨fun hh j hj => by have := hh j hj; rwa [c.ws j (by omega), c.ws k hk] at this, fun hh j hj => by rw [c.ws j (by omega), c.ws k hk]; exact hh j hj⟩
  refine ⟨⟨by rw [hl]; exact h.mt.len, fun k hk => ?_, fun k hk => ?_⟩, fun k hk => ?_, fun j k hj hk hjk => ?_, ⟨fun k hk => ?_, fun k hk => ?_, hne⟩, h.dk, by rw [hl]; exact h.sz⟩
  · rw [c.n k (by omega)]; exact h.mt.n k (by omega)
  · rw [c.ws k (by omega)]; exact h.mt.ws k (by omega)
  · rw [c.has k (by omega), hf k (by omega)]; exact h.fr k (by omega)
  · rw [c.n j (by omega), c.n k (by omega)]; exact h.dis j k (by omega) (by omega) hjk
  · rw [c.v k (by omega), c.ws k (by omega)]; exact h.tk.fl k (by omega)
  · rw [c.ws k (by omega)]; exact h.tk.le k (by omega)
/-- as the fair law has it, without its own row -/
theorem pl_fair {Z : Fz} {R : List Tk} {D : List Dk} (h : Pl Z R D) : ∃ S, Fair R S ∧ Known R S := by
  refine ⟨R.map fun x => ⟨x.n, x.v, x.ws, x.has⟩, ?_, ?_⟩
  · have e : ∀ k, k < R.length → sdAt (R.map fun x => (⟨x.n, x.v, x.ws, x.has⟩ : Sd)) k = ⟨(tkAt R k).n, (tkAt R k).v, (tkAt R k).ws, (tkAt R k).has⟩ := fun k hk => by
      unfold sdAt
      rw [List.getD_eq_getElem?_getD, List.getElem?_map, tkAt_get hk]
      rfl
    exact ⟨by simp, fun k hk => by rw [e k hk], fun k hk => by rw [e k hk], h.fr, h.dis, fun k hk => by rw [e k hk]; exact id⟩
  · intro k hk
    unfold sdAt
    rw [List.getD_eq_getElem?_getD, List.getElem?_map, tkAt_get hk]
    rfl
theorem Pl.ask {Z : Fz} {R : List Tk} {D : List Dk} {b : Nat} {n : Int} {v v' : AV} {ws : List Wt} (h : Pl Z R D) (ha : AskP R n ws 0) (ht : Tks Z (R ++ [⟨b, n, v, ws, dB (FreeW R ws)⟩])) (hf : Fl Z 2 v' (wrow ws)) (hl : ws.length ≤ 50) : Pl Z (R ++ [⟨b, n, v, ws, dB (FreeW R ws)⟩]) (D ++ [⟨n, v', ws⟩]) := by
  obtain ⟨S, h1, h2⟩ := pl_fair h
  have h3 := h1.ask (b := b) (n := n) (v := v) (l := v) (ws := ws) (ask_size ha).2
  exact ⟨h.mt.ask, h3.fr, h3.dis, ht, h.dk.snoc hf hl, by have := (ask_size ha).1; simp; omega⟩
theorem Pl.drop {Z : Fz} {R : List Tk} {D : List Dk} {i : Nat} (h : Pl Z R D) (hi : i < R.length) : Pl Z (prom (R.take i ++ R.drop (i + 1)) (R.take i ++ R.drop (i + 1)).length) (D.take i ++ D.drop (i + 1)) := by
  obtain ⟨S, h1, h2⟩ := pl_fair h
  have h3 := h1.drop h2 hi
  exact ⟨(h.mt.cut hi).prom (Nat.le_refl _), h3.fr, h3.dis, tks_prom (tks_cut h.tk hi) (Nat.le_refl _), h.dk.cut (by have := h.mt.len; omega), by rw [prom_len, cut_len hi]; have := h.sz; omega⟩
end
end Go.Jt
