/-
  Arguments opened: whatever a row's slice holds becomes windows on the world's memory, and abstract values.
-/
import Derived.Test.YtlhlgmodhblplaaJtSl
import Derived.Deep.Slices
import Derived.OpenShut
import Derived.Carry
set_option autoImplicit false
set_option linter.all false
namespace Go.Jt
noncomputable section
variable [Gl]

/-- windows that are as told -/
def WOK (W : World) (ws : Wins) : Prop := ∀ (b : Nat) (L : Loc) (l : List AV), ws[b]? = some (L, l) → WinOK W (ioW ws) L l
theorem ioW_le (ws new : Wins) : (ioW ws).le (ioW (ws ++ new)) := by
  intro b L h
  unfold ioW at h ⊢
  cases hb : ws[b]? with
  | none => rw [hb] at h; cases h
  | some x =>
    rw [List.getElem?_append_left (List.getElem?_eq_some_iff.1 hb).1]
    exact h
theorem fzW_le (ws new : Wins) : (fzW ws).le (fzW (ws ++ new)) := by
  intro b L h
  simp only [fzW] at h ⊢
  cases hb : ws[b]? with
  | none => rw [hb] at h; cases h
  | some x =>
    rw [List.getElem?_append_left (List.getElem?_eq_some_iff.1 hb).1]
    exact h
theorem WinOK.mono {W : World} {ι ι' : Io} {L : Loc} {l : List AV} (h : WinOK W ι L l) (hl : ι.le ι') : WinOK W ι' L l := by
  obtain ⟨h1, c, el, fr, h2, h3, h4, h5⟩ := h
  exact ⟨h1, c, el, fr, h2, h3, h4, fun i hi => ⟨(h5 i hi).1.mono hl, (h5 i hi).2⟩⟩
theorem WOK.nil (W : World) : WOK W [] := fun b L l h => by simp at h
theorem WOK.snoc {W : World} {ws : Wins} (h : WOK W ws) {L : Loc} {l : List AV} (hw : WinOK W (ioW ws) L l) : WOK W (ws ++ [(L, l)]) := by
  intro b M m hb
  rw [List.getElem?_append] at hb
  split at hb
  · exact (h b M m hb).mono (ioW_le _ _)
  · have : b - ws.length = 0 := by
      cases hn : b - ws.length with
      | zero => rfl
      | succ n => rw [hn] at hb; simp at hb
    rw [this] at hb
    simp at hb
    obtain ⟨rfl, rfl⟩ := hb
    exact hw.mono (ioW_le _ _)

/-- what an abstract value is, whatever more is known of memory -/
structure Kn where
  p : Fz → AV → Prop
  mono : ∀ {Z Z' : Fz} {v : AV}, p Z v → Z.le Z' → p Z' v
def Kn.int (k : IntKind) : Kn := ⟨fun _ v => ∃ n, v = .int k n ∧ k.min ≤ n ∧ n ≤ k.max, fun h _ => h⟩
def Kn.bool : Kn := ⟨fun _ v => ∃ b, v = .bool b, fun h _ => h⟩
def Kn.str : Kn := ⟨fun _ v => ∃ s : List Nat, v = .str s ∧ s.length ≤ 9223372036854775807 ∧ ∀ c ∈ s, c ≤ 255, fun h _ => h⟩
def Kn.sl (es : Nat) (G : Nat → Kn) : Kn := ⟨fun Z v => ∃ xs, Fl Z es v xs ∧ (∀ x ∈ xs, x.length = es ∧ ∀ j, j < es → ∃ a, x[j]? = some a ∧ (G j).p Z a) ∧ xs.length ≤ 9223372036854775807,
  fun {Z Z' v} ⟨xs, h1, h2, h5⟩ hl => ⟨xs, h1.mono hl, fun x hx => ⟨(h2 x hx).1, fun j hj => let ⟨a, h3, h4⟩ := (h2 x hx).2 j hj; ⟨a, h3, (G j).mono h4 hl⟩⟩, h5⟩⟩
/-- a type whose values are opened so -/
def Opn {H : Type} (enc : TypeId × Value → H) (P : Program) (W : World) (t : TypeId) (K : Kn) : Prop :=
  ∀ (n : Nat) (v : Value) (x : DataW H × List MemPlace) (ws : Wins), DataW.trod enc P W 0 (fun _ => true) true n t [v] = some x → W.noneFrozen x.2 → WOK W ws →
    ∃ (new : Wins) (a : AV), WOK W (ws ++ new) ∧ VR (ioW (ws ++ new)) a v ∧ a.sc = true ∧ K.p (fzW (ws ++ new)) a
section
variable {H : Type} {enc : TypeId × Value → H} {P : Program} {W : World} {t e : TypeId}
theorem opn_int {k : IntKind} (ht : P.underlying t = some (.int k)) : Opn enc P W t (.int k) := by
  intro n v x ws h hz hw
  obtain ⟨z, hv, _, hwf⟩ := DataW.trod_int ht h
  cases hv
  refine ⟨[], .int k z, by rw [List.append_nil]; exact hw, .int k z, rfl, z, rfl, ?_⟩
  simpa [Lit.wf] using hwf
theorem opn_bool (ht : P.underlying t = some .bool) : Opn enc P W t .bool := by
  intro n v x ws h hz hw
  obtain ⟨b, hv, _⟩ := DataW.trod_bool ht h
  cases hv
  exact ⟨[], .bool b, by rw [List.append_nil]; exact hw, .bool b, rfl, b, rfl⟩
theorem opn_str (ht : P.underlying t = some .string) : Opn enc P W t .str := by
  intro n v x ws h hz hw
  obtain ⟨s, hv, _, hs⟩ := DataW.trod_string ht h
  cases hv
  refine ⟨[], .str (bytesOf s), by rw [List.append_nil]; exact hw, .str s, rfl, bytesOf s, rfl, ?_, ?_⟩
  · have : (bytesOf s).length = s.size := bytesOf_len s
    have h2 : maxLen ≤ 9223372036854775807 := by decide
    omega
  · intro c hc
    unfold bytesOf at hc
    obtain ⟨b, _, rfl⟩ := List.mem_map.1 hc
    have := b.toNat_lt
    omega
/-- a slice's element: its cells' types -/
def Elem (enc : TypeId × Value → H) (P : Program) (W : World) (e : TypeId) (tys : List TypeId) : Prop :=
  P.cellsOf e = tys.length ∧ ∀ (n : Nat) (cs : List Value) (x : DataW H × List MemPlace), DataW.trod enc P W 0 (fun _ => true) true n e cs = some x → ∀ (j : Nat) (u : TypeId), tys[j]? = some u → ∃ (n' : Nat) (y : DataW H × List MemPlace) (v : Value), cs[j]? = some v ∧ DataW.trod enc P W 0 (fun _ => true) true n' u [v] = some y ∧ ∀ p ∈ y.2, p ∈ x.2
theorem elem_one (h1 : P.cellsOf e = 1) (h : ∀ n cs x, DataW.trod enc P W 0 (fun _ => true) true n e cs = some x → cs.length = 1) : Elem enc P W e [e] := by
  refine ⟨h1, fun n cs x hx j u hj => ?_⟩
  have hj0 : j = 0 := by
    cases j with
    | zero => rfl
    | succ j => simp at hj
  subst hj0
  have hu : e = u := by simpa using hj
  subst hu
  have hl := h n cs x hx
  match cs, hl with
  | [v], _ => exact ⟨n, x, v, rfl, hx, fun p hp => hp⟩
theorem elem_int {k : IntKind} (h1 : P.cellsOf e = 1) (ht : P.underlying e = some (.int k)) : Elem enc P W e [e] := elem_one h1 fun n cs x h => by
  obtain ⟨z, hv, _⟩ := DataW.trod_int ht h
  rw [hv]; rfl
theorem elem_bool (h1 : P.cellsOf e = 1) (ht : P.underlying e = some .bool) : Elem enc P W e [e] := elem_one h1 fun n cs x h => by
  obtain ⟨z, hv, _⟩ := DataW.trod_bool ht h
  rw [hv]; rfl
theorem elem_str (h1 : P.cellsOf e = 1) (ht : P.underlying e = some .string) : Elem enc P W e [e] := elem_one h1 fun n cs x h => by
  obtain ⟨z, hv, _⟩ := DataW.trod_string ht h
  rw [hv]; rfl
theorem elem_struct {fs : Array Field} (ht : P.underlying e = some (.struct fs)) (hc : P.cellsOf e = fs.size) (hf : (fs.toList.zipIdx.all fun p => Nat.beq p.1.offset p.2 && Nat.beq (P.cellsOf p.1.type) 1) = true) : Elem enc P W e (fs.toList.map (·.type)) := by
  refine ⟨by simp [hc], fun n cs x h j u hj => ?_⟩
  obtain ⟨xs, m, rfl, rfl, hl, hlen, hx⟩ := DataW.trod_struct ht h
  rw [List.getElem?_map] at hj
  cases hfj : fs.toList[j]? with
  | none => rw [hfj] at hj; cases hj
  | some f =>
    rw [hfj] at hj
    have hu : f.type = u := Option.some.inj hj
    subst hu
    have hj' : j < fs.size := by simpa using (List.getElem?_eq_some_iff.1 hfj).1
    have hfa : fs[j]? = some f := by rw [← Array.getElem?_toList]; exact hfj
    have h1 := hx j f hfa
    have h2 := List.all_eq_true.1 hf (f, j) (by
      rw [List.mem_zipIdx_iff_getElem?]
      exact hfj)
    simp only [Bool.and_eq_true] at h2
    have e1 := Nat.eq_of_beq_eq_true h2.1
    have e2 := Nat.eq_of_beq_eq_true h2.2
    rw [e1, e2] at h1
    have hlt : j < cs.length := by rw [hl, hc]; exact hj'
    have h3 : (cs.drop j).take 1 = [cs[j]] := by rw [List.drop_eq_getElem_cons hlt]; rfl
    rw [h3] at h1
    have hxj : j < xs.length := by rw [hlen]; exact hj'
    rw [List.getElem?_eq_getElem hxj] at h1
    exact ⟨m, xs[j], cs[j], List.getElem?_eq_getElem hlt, h1, fun p hp => List.mem_flatMap.2 ⟨xs[j], List.getElem_mem hxj, hp⟩⟩
/-- a row of cells, one behind the other -/
theorem opn_row {tys : List TypeId} {G : Nat → Kn} (a : Addr) (D : Nat → Value) (T : Nat → TypeId) (K : Nat → Kn) (pl : List MemPlace) (hz : W.noneFrozen pl) (m : Nat)
    (hO : ∀ q, q < m → Opn enc P W (T q) (K q)) (hx : ∀ q, q < m → ∃ n y, DataW.trod enc P W 0 (fun _ => true) true n (T q) [D q] = some y ∧ ∀ p ∈ y.2, p ∈ pl) (ws : Wins) (hw : WOK W ws) :
    ∃ (new : Wins) (l : List AV), WOK W (ws ++ new) ∧ l.length = m ∧ ∀ q, q < m → ∃ b, l[q]? = some b ∧ VR (ioW (ws ++ new)) b (D q) ∧ b.sc = true ∧ (K q).p (fzW (ws ++ new)) b := by
  induction m with
  | zero => exact ⟨[], [], by rw [List.append_nil]; exact hw, rfl, fun q hq => by omega⟩
  | succ m ih =>
    obtain ⟨new, l, h1, h2, h3⟩ := ih (fun q hq => hO q (by omega)) (fun q hq => hx q (by omega))
    obtain ⟨n, y, h4, h5⟩ := hx m (by omega)
    obtain ⟨new2, b, h6, h7, h8, h9⟩ := hO m (by omega) n (D m) y (ws ++ new) h4 (fun b off hp => hz b off (h5 _ hp)) h1
    rw [List.append_assoc] at h6 h7 h9
    refine ⟨new ++ new2, l ++ [b], h6, by simp [h2], fun q hq => ?_⟩
    by_cases hqm : q < m
    · obtain ⟨b', g1, g2, g3, g4⟩ := h3 q hqm
      have l1 := ioW_le (ws ++ new) new2
      have l2 := fzW_le (ws ++ new) new2
      rw [List.append_assoc] at l1 l2
      exact ⟨b', by rw [List.getElem?_append_left (by omega)]; exact g1, g2.mono l1, g3, (K q).mono g4 l2⟩
    · have e : q = m := by omega
      subst e
      exact ⟨b, by rw [List.getElem?_append_right (by omega), h2]; simp, h7, h8, h9⟩
theorem opn_slice {tys : List TypeId} {G : Nat → Kn} (ht : P.underlying t = some (.slice e)) (he : Elem enc P W e tys) (hpos : 0 < tys.length) (hG : ∀ j u, tys[j]? = some u → Opn enc P W u (G j)) : Opn enc P W t (.sl tys.length G) := by
  intro n v x ws h hz hw
  obtain ⟨hce, hel⟩ := he
  rcases Go.Deep.open_slice ht h with ⟨hv, hx⟩ | ⟨a, len, cap, m, n', D, Pl, hv, hb, hl, hm, hmm, rfl, hx⟩
  · cases hv
    exact ⟨[], .nils, by rw [List.append_nil]; exact hw, .nils, rfl, [], .nil, fun x hx => (List.not_mem_nil hx).elim, Nat.zero_le _⟩
  · cases hv
    simp only [if_true] at hmm
    subst hmm
    rw [hce] at hx
    generalize hes : tys.length = es at *
    by_cases hc0 : m = 0
    · subst hc0
      obtain rfl : len = 0 := by omega
      exact ⟨[], .slz 0 0 0, by rw [List.append_nil]; exact hw, .slz0 a, rfl, [], .slz 0 0 0, fun x hx => (List.not_mem_nil hx).elim, Nat.zero_le _⟩
    · -- the cells
      have hcell : ∀ q, q < m * es → ∃ y : Value × TypeId, W.cell? (a.add q) = some y.1 ∧ tys[q % es]? = some y.2 ∧ ∃ n' z, DataW.trod enc P W 0 (fun _ => true) true n' y.2 [y.1] = some z ∧ ∀ p ∈ z.2, p ∈ MemPlace.row a (m * P.cellsOf e) ++ (List.range m).flatMap Pl := by
        intro q hq
        have hes0 : 0 < es := hpos
        have hi : q / es < m := Nat.div_lt_of_lt_mul (by rw [Nat.mul_comm]; exact hq)
        have hj : q % es < es := Nat.mod_lt _ hes0
        obtain ⟨cs, h1, h2⟩ := hx (q / es) hi
        obtain ⟨_, hlen, hget⟩ := World.cells?_some h1
        obtain ⟨u, hu⟩ : ∃ u, tys[q % es]? = some u := ⟨_, List.getElem?_eq_getElem (by rw [hes]; exact hj)⟩
        obtain ⟨n2, y, v, h3, h4, h5⟩ := hel _ _ _ h2 (q % es) u hu
        refine ⟨(v, u), ?_, hu, n2, y, h4, fun p hp => List.mem_append_right _ (List.mem_flatMap.2 ⟨q / es, by simpa using hi, h5 p hp⟩)⟩
        have h6 := hget (q % es) hj
        rw [h3] at h6
        rw [← h6]
        congr 1
        have hq2 : q = q / es * es + q % es := by have := Nat.div_add_mod q es; rw [Nat.mul_comm] at this; omega
        have : (a.add (q / es * es)).add (q % es) = a.add (q / es * es + q % es) := by
          unfold Addr.add
          by_cases h1 : q / es * es = 0 <;> by_cases h2 : q % es = 0 <;> simp [h1, h2] <;> omega
        rw [this, ← hq2]
      obtain ⟨V, hV⟩ := Go.Deep.choose_lt (α := Value × TypeId) (n := m * es) (p := fun q y => W.cell? (a.add q) = some y.1 ∧ tys[q % es]? = some y.2 ∧ ∃ n' z, DataW.trod enc P W 0 (fun _ => true) true n' y.2 [y.1] = some z ∧ ∀ p ∈ z.2, p ∈ MemPlace.row a (m * P.cellsOf e) ++ (List.range m).flatMap Pl) hcell
      obtain ⟨new, l, g1, g2, g3⟩ := opn_row (enc := enc) (P := P) (tys := tys) (G := G) a (fun q => (V q).1) (fun q => (V q).2) (fun q => G (q % es)) _ hz (m * es) (fun q hq => hG _ _ (hV q hq).2.1) (fun q hq => (hV q hq).2.2) ws hw
      -- the block
      have hmes : 0 < m * es := Nat.mul_pos (by omega) hpos
      have h0 := (hV 0 hmes).1
      have hadd0 : a.add 0 = a := by simp [Addr.add]
      rw [hadd0] at h0
      have hspot : a.spot = none ∧ ∃ c el fr, W.heap[a.block]? = some (.cells c el fr) := by
        unfold World.cell? at h0
        split at h0
        · rename_i c el fr hc
          split at h0
          · cases h0
          · rename_i hs
            exact ⟨by simpa using hs, c, el, fr, hc⟩
        · cases h0
      obtain ⟨hs0, c, el, fr, hcb⟩ := hspot
      have hat : ∀ q, q < m * es → c[a.off + q]? = some (V q).1 := by
        intro q hq
        have h1 := (hV q hq).1
        unfold World.cell? at h1
        by_cases hq0 : q = 0
        · subst hq0
          rw [hadd0] at h1
          rw [hcb] at h1
          simp only [hs0, Option.isSome_none, Bool.false_eq_true, if_false] at h1
          simpa using h1
        · have e1 : (a.add q) = ⟨a.block, a.off + q, none⟩ := by
            unfold Addr.add
            simp [hq0, hs0]
          rw [e1] at h1
          simp only [hcb, Option.isSome_none, Bool.false_eq_true, if_false] at h1
          exact h1
      have hsz : a.off + m * es ≤ c.size := by
        have h1 := hat (m * es - 1) (by omega)
        have := (Array.getElem?_eq_some_iff.1 h1).1
        omega
      have hlow : a.block < W.heap.size := (Array.getElem?_eq_some_iff.1 hcb).1
      have hwin : WinOK W (ioW (ws ++ new)) ⟨a.block, a.off, c.size⟩ l := by
        refine ⟨hlow, c, el, fr, hcb, rfl, by rw [g2]; exact hsz, fun q hq => ?_⟩
        rw [g2] at hq
        obtain ⟨b, k1, k2, k3, k4⟩ := g3 q hq
        have e1 : l.getD q .undef = b := by rw [List.getD_eq_getElem?_getD, k1]; rfl
        have e2 : c.getD (a.off + q) Go.undef = (V q).1 := by rw [Array.getD_eq_getD_getElem?, hat q hq]; rfl
        refine ⟨by rw [e1]; simp only [e2]; exact k2, by simp only [e2]; exact k2.one k3, ?_⟩
        refine hz _ _ (List.mem_append_left _ ?_)
        unfold MemPlace.row
        rw [List.mem_map]
        exact ⟨q, by rw [hce]; simpa using hq, rfl⟩
      have hw2 := g1.snoc hwin
      have hid : (ws ++ new ++ [((⟨a.block, a.off, c.size⟩ : Loc), l)])[(ws ++ new).length]? = some (⟨a.block, a.off, c.size⟩, l) := by
        rw [List.getElem?_append_right (Nat.le_refl _)]; simp
      have hio : ioW (ws ++ new ++ [((⟨a.block, a.off, c.size⟩ : Loc), l)]) (ws ++ new).length = some ⟨a.block, a.off, c.size⟩ := by unfold ioW; rw [hid]; rfl
      have hfz : fzW (ws ++ new ++ [((⟨a.block, a.off, c.size⟩ : Loc), l)]) (ws ++ new).length = some l := by simp only [fzW]; rw [hid]; rfl
      have ha : a = ⟨a.block, a.off, none⟩ := by cases a; simp only at hs0; subst hs0; rfl
      refine ⟨new ++ [(⟨a.block, a.off, c.size⟩, l)], .slc (ws ++ new).length 0 len m, by rw [← List.append_assoc]; exact hw2, ?_, rfl, ?_⟩
      · rw [← List.append_assoc]
        have := VR.slc (ι := ioW (ws ++ new ++ [((⟨a.block, a.off, c.size⟩ : Loc), l)])) (ws ++ new).length 0 len m _ hio hl
        rw [ha]
        exact this
      · rw [← List.append_assoc]
        -- the elements
        let xs : List (List AV) := (List.range len).map fun i => (l.drop (i * es)).take es
        have hxl : xs.length = len := by simp [xs]
        have hle : len * es ≤ m * es := Nat.mul_le_mul_right _ hl
        have hxi : ∀ i y, xs[i]? = some y → i < len ∧ y = (l.drop (i * es)).take es := by
          intro i y hy
          have hi : i < len := by have := (List.getElem?_eq_some_iff.1 hy).1; omega
          simp only [xs, List.getElem?_map, List.getElem?_range hi, Option.map_some] at hy
          exact ⟨hi, (Option.some.inj hy).symm⟩
        have hin : ∀ i, i < len → i * es + es ≤ m * es := by
          intro i hi
          have : (i + 1) * es ≤ m * es := Nat.mul_le_mul_right _ (by omega)
          rw [Nat.add_mul] at this
          omega
        refine ⟨xs, ?_, fun y hy => ?_, by rw [hxl]; exact Nat.le_trans hl (Nat.le_trans hm (by decide))⟩
        · have := Fl.slc (Z := fzW (ws ++ new ++ [((⟨a.block, a.off, c.size⟩ : Loc), l)])) (es := es) (ws ++ new).length 0 m l xs (by omega) hfz (by rw [hxl, g2]; omega) (fun i y hy => by
            obtain ⟨hi, rfl⟩ := hxi i y hy
            have := hin i hi
            refine ⟨by simp; omega, fun j v hj => ?_⟩
            have hjl : j < es := by have := (List.getElem?_eq_some_iff.1 hj).1; simp at this; omega
            rw [List.getElem?_take_of_lt hjl, List.getElem?_drop] at hj
            rw [Nat.zero_add]
            exact hj)
          rw [hxl] at this
          exact this
        · obtain ⟨i, hi, hy'⟩ := List.getElem_of_mem hy
          obtain ⟨hil, rfl⟩ := hxi i y (by rw [List.getElem?_eq_getElem hi, hy'])
          have hii := hin i hil
          refine ⟨by simp; omega, fun j hj => ?_⟩
          obtain ⟨b, k1, k2, k3, k4⟩ := g3 (i * es + j) (by omega)
          refine ⟨b, by rw [List.getElem?_take_of_lt hj, List.getElem?_drop]; exact k1, ?_⟩
          have e1 : (i * es + j) % es = j := by rw [Nat.mul_comm, Nat.mul_add_mod, Nat.mod_eq_of_lt hj]
          rw [e1] at k4
          exact (G j).mono k4 (fzW_le _ _)
/-- a struct whose fields are of one cell each -/
theorem opn_agg {fs : Array Field} {G : Nat → Kn} (ht : P.underlying t = some (.struct fs)) (hc : P.cellsOf t = fs.size) (hf : (fs.toList.zipIdx.all fun p => Nat.beq p.1.offset p.2 && Nat.beq (P.cellsOf p.1.type) 1) = true) (hG : ∀ j u, (fs.toList.map (·.type))[j]? = some u → Opn enc P W u (G j))
    (n : Nat) (cs : Array Value) (x : DataW H × List MemPlace) (ws : Wins) (h : DataW.trod enc P W 0 (fun _ => true) true n t cs.toList = some x) (hz : W.noneFrozen x.2) (hw : WOK W ws) :
    ∃ (new : Wins) (l : List AV), WOK W (ws ++ new) ∧ VR (ioW (ws ++ new)) (.agg (Rp.ofL l)) (.agg cs) ∧ l.length = fs.size ∧ ∀ q, q < fs.size → ∃ b, l[q]? = some b ∧ (G q).p (fzW (ws ++ new)) b := by
  obtain ⟨hce, hel⟩ := elem_struct (enc := enc) (W := W) ht hc hf
  obtain ⟨xs, m, _, _, hl, _, _⟩ := DataW.trod_struct ht h
  have hsz : cs.size = fs.size := by rw [← hc, ← hl]; simp
  have hT : ∀ q, q < fs.size → (fs.toList.map (·.type))[q]? = some ((fs.toList.map (·.type)).getD q 0) := fun q hq => by
    rw [List.getD_eq_getElem?_getD, List.getElem?_eq_getElem (by simpa using hq)]; rfl
  obtain ⟨new, l, h1, h2, h3⟩ := opn_row (enc := enc) (P := P) (tys := []) (G := G) ⟨0, 0, none⟩ (fun q => cs.getD q Go.undef) (fun q => (fs.toList.map (·.type)).getD q 0) G x.2 hz fs.size (fun q hq => hG q _ (hT q hq)) (fun q hq => by
    obtain ⟨n', y, v, g1, g2, g3⟩ := hel n cs.toList x h q _ (hT q hq)
    have e : cs.getD q Go.undef = v := by
      rw [Array.getD_eq_getD_getElem?, ← Array.getElem?_toList, g1]; rfl
    exact ⟨n', y, by rw [e]; exact g2, g3⟩) ws hw
  obtain ⟨r1, r2⟩ := Rp.ofL_spec l
  refine ⟨new, l, h1, .agg _ _ r1 (by rw [r2, h2, hsz]) (fun i => ?_) (fun i hi => ?_), h2, fun q hq => ?_⟩
  · rw [r2]
    by_cases hi : i < fs.size
    · obtain ⟨b, g1, g2, _⟩ := h3 i hi
      have e : l.getD i .undef = b := by rw [List.getD_eq_getElem?_getD, g1]; rfl
      rw [e]
      exact g2
    · have e : l.getD i .undef = .undef := by rw [List.getD_eq_getElem?_getD, List.getElem?_eq_none (by omega)]; rfl
      rw [e]
      exact .undef _
  · obtain ⟨b, g1, g2, g3, _⟩ := h3 i (by omega)
    exact g2.one g3
  · obtain ⟨b, g1, _, _, g4⟩ := h3 q hq
    exact ⟨b, g1, g4⟩
end
/-! ### behind the call -/
theorem trodAll_below {H : Type} {enc : TypeId × Value → H} {P : Program} {W W' : World} (hl : laidOutB P = true) (hb : Go.RowKit.Below W.heap.size W W') : ∀ (ts : List TypeId) (vs : List Value) (ds : List (DataW H)) (ps : List MemPlace),
    (∀ t ∈ ts, P.readableRec t = true ∧ t < P.types.size) → DataW.TrodAll enc P W 0 (fun _ => true) true ts vs ds ps → (∀ x ∈ ps, x.block < W.heap.size) → DataW.TrodAll enc P W' 0 (fun b => decide (b < W.heap.size)) true ts vs ds ps
  | [], [], [], ps, _, h, _ => h
  | t :: ts, v :: vs, d :: ds, ps, ht, ⟨p, q, h1, h2, h3⟩, hlt => by
    subst h3
    exact ⟨p, q, Go.RowKit.Below.trod hl (ht t List.mem_cons_self).1 (ht t List.mem_cons_self).2 h1 hb (fun x hx => hlt x (List.mem_append_left _ hx)),
      trodAll_below hl hb ts vs ds q (fun u hu => ht u (List.mem_cons_of_mem _ hu)) h2 (fun x hx => hlt x (List.mem_append_right _ hx)), rfl⟩
end
end Go.Jt
