/-
  The abstract run of an operation is true to the model's: maps, strings turned to bytes, len, cap, min, max.
-/
import Derived.Test.YtlhlgmodhblplaaJtEq
import Derived.MapKept
import Derived.Lib.SlicesS
set_option autoImplicit false
set_option linter.all false
namespace Go.Jt
open Go.RowKit (Below)
variable [Gl]

section
variable {P : Program} {base : Nat} {ι : Io} {H : AH} {w : World} {k : AV → AH → Bool} {env : Env} {a : Act}

/-! ### maps -/
def KeyD (P : Program) (t : TypeId) (kk : Nat) (d : TypeDesc) : Prop := (kk = 0 ∧ ∃ q, d = .int q) ∨ (kk = 1 ∧ d = .string) ∨ (∃ fs sh i, d = .struct fs ∧ flatFs P fs.toList 0 = some sh ∧ shapeT P 20 t = some sh ∧ P.info? t = some i ∧ i.size = sh.length ∧ shOf kk = sh ∧ 2 ≤ kk)
theorem keyT_inv {t : TypeId} {kk : Nat} (h : keyT P t = some kk) : ∃ d, P.underlying t = some d ∧ KeyD P t kk d := by
  unfold keyT at h
  split at h
  · rename_i q hq; cases h; exact ⟨_, hq, Or.inl ⟨rfl, q, rfl⟩⟩
  · rename_i hq; cases h; exact ⟨_, hq, Or.inr (Or.inl ⟨rfl, rfl⟩)⟩
  · rename_i fs hq
    split at h
    · rename_i s s' i h1 h2 h3
      cases e1 : seq s s' with
      | false => rw [e1] at h; cases h
      | true =>
        rw [e1] at h
        simp only [cond_true] at h
        cases e2 : seq (shOf (2 + encSh s)) s with
        | false => rw [e2] at h; cases h
        | true =>
          rw [e2] at h
          simp only [cond_true] at h
          cases e3 : Nat.beq i.size s.length with
          | false => rw [e3] at h; cases h
          | true =>
            rw [e3] at h
            cases h
            rw [seq_eq, beq_iff_eq] at e1 e2
            subst e1
            exact ⟨_, hq, Or.inr (Or.inr ⟨fs, s, i, rfl, h1, h2, h3, Nat.eq_of_beq_eq_true e3, e2, by omega⟩)⟩
    · cases h
  · cases h
theorem hasSh_len : ∀ (sh : List Nat) (a : List AV), hasSh sh a = true → a.length = sh.length
  | [], [], _ => rfl
  | [], _ :: _, h => by cases h
  | c :: sh, [], h => by cases h
  | c :: sh, x :: a, h => by
    cases x <;> first | (cases h; done) | skip
    all_goals
      have h' := (cond_true_inv (show cond (Nat.beq c _) (hasSh sh a) false = true from h)).2
      simp [hasSh_len sh a h']
theorem flat_check (w : World) (em : Bool) {sz n : Nat} {cs : Array Value} : ∀ (fs : List Field) (off : Nat) (sh : List Nat), flatFs P fs off = some sh → off + sh.length ≤ cs.size →
    (forIn fs PUnit.unit fun f _ => (if f.name ≠ "_" then (do let v ← part f.type cs f.offset; Instr.checkKey em (n + 1) f.type v; pure (ForInStep.yield PUnit.unit)) else pure (ForInStep.yield PUnit.unit) : Sem (ForInStep PUnit))).run P w = .ok PUnit.unit w
  | [], off, sh, _, _ => by simp
  | f :: fs, off, sh, h, hl => by
    unfold flatFs at h
    cases hn : (f.name == "_") with
    | true => rw [hn] at h; cases h
    | false =>
    rw [hn] at h
    cases ho : Nat.beq f.offset off with
    | false => rw [ho] at h; cases h
    | true =>
    rw [ho] at h
    simp only [cond_true, cond_false] at h
    have hoff := Nat.eq_of_beq_eq_true ho
    have hne : f.name ≠ "_" := fun e => by rw [e] at hn; simp at hn
    split at h
    all_goals first
      | (cases h; done)
      | (rename_i r hu hr
         cases h
         simp only [List.length_cons] at hl
         have hag : isAggT P f.type = false := by simp [isAggT, hu]
         have hp : (part f.type cs f.offset).run P w = .ok (cs.getD off Go.undef) w := by
           simp only [part, Sem.run_bind, run_isAgg hu, hag, Result.andThen_ok, Bool.false_eq_true, if_false, hoff]
           rw [getD_in cs off (by omega)]
           rfl
         have hck : (Instr.checkKey em (n + 1) f.type (cs.getD off Go.undef)).run P w = .ok () w := by
           unfold Instr.checkKey
           simp only [Sem.run_bind, run_und hu, Result.andThen_ok]
           simp
         have ih := flat_check w em (sz := sz) (n := n) (cs := cs) fs (off + 1) r hr (by omega)
         rw [List.forIn_cons]
         simp only [if_pos hne, Sem.run_bind, hp, hck, Result.andThen_ok, Sem.run_pure]
         exact ih)
theorem run_check {t : TypeId} {kk : Nat} {key : AV} {kv : Value} (h : keyT P t = some kk) (hk : isKey kk key = true) (hv : VR ι key kv) (em : Bool) : (Instr.checkKey em 10000 t kv).run P w = .ok () w := by
  obtain ⟨d, hd, hd'⟩ := keyT_inv h
  rw [show (10000 : Nat) = 9998 + 1 + 1 from rfl]
  unfold Instr.checkKey
  simp only [Sem.run_bind, run_und hd, Result.andThen_ok]
  rcases hd' with ⟨_, q, rfl⟩ | ⟨_, rfl⟩ | ⟨fs, sh, i, rfl, hf, hs, hi, hsz, hsh, h2⟩
  · simp
  · simp
  · cases hv <;> first | (exfalso; revert hk; unfold isKey; intro hk; first | (cases hk; done) | (have := Nat.eq_of_beq_eq_true hk; omega)) | skip
    rename_i r cs hro hrl hrv hr1
    have hk' := (cond_true_inv (show cond (Nat.ble 2 kk) (hasSh (shOf kk) r.toL) false = true from hk)).2
    have hlen := hasSh_len _ _ hk'
    rw [hsh] at hlen
    simp only [← Array.forIn_toList, Sem.run_bind]
    rw [flat_check w em (sz := 0) (n := 9998) (cs := cs) fs.toList 0 sh hf (by omega)]
    rfl
/-- two keys of such cells: all alike, or seen to be unlike -/
theorem eqL_inv : ∀ (sh : List Nat) (a b : List AV) {yes no : Unit → Bool}, hasSh sh a = true → eqL a b yes no = true →
    (a = b ∧ yes () = true ∧ eqS sh a b (fun t => t) = true) ∨ (no () = true ∧ eqS sh a b (fun t => !t) = true)
  | [], [], [], yes, no, _, h => Or.inl ⟨rfl, h, rfl⟩
  | [], [], _ :: _, yes, no, _, h => by cases h
  | [], _ :: _, _, yes, no, hs, h => by cases hs
  | c :: sh, [], b, yes, no, hs, h => by cases hs
  | c :: sh, x :: a, [], yes, no, hs, h => by cases x <;> cases h
  | c :: sh, x :: a, y :: b, yes, no, hs, h => by
    have ih := @eqL_inv sh a b yes no
    cases x <;> cases y <;> first | (cases h; done) | skip
    · rename_i q m r n
      obtain ⟨hc, hs'⟩ := cond_true_inv (show cond (Nat.beq c 0) (hasSh sh a) false = true from hs)
      obtain ⟨c1, h1⟩ := cond_true_inv (show cond (Nat.beq (ikN q) (ikN r)) (cond (ieq m n) (eqL a b yes no) (no ())) false = true from h)
      have go : ∀ k, eqS (c :: sh) (.int q m :: a) (.int r n :: b) k = cond (ieq m n) (eqS sh a b k) (k false) := fun k => by
        rw [eqS_cons]; simp only [hc, c1, cond_true]
      cases hb : ieq m n with
      | true =>
        rw [hb] at h1
        rw [ieq_eq, beq_iff_eq] at hb
        subst hb
        have := ikN_inj c1
        subst this
        rcases ih hs' h1 with ⟨g1, g2, g3⟩ | ⟨g1, g2⟩
        · exact Or.inl ⟨by rw [g1], g2, by rw [go, ieq_eq]; simpa using g3⟩
        · exact Or.inr ⟨g1, by rw [go, ieq_eq]; simpa using g2⟩
      | false => rw [hb] at h1; exact Or.inr ⟨h1, by rw [go, hb]; rfl⟩
    · rename_i m n
      obtain ⟨hc, hs'⟩ := cond_true_inv (show cond (Nat.beq c 2) (hasSh sh a) false = true from hs)
      have h1 : cond (cond m n (!n)) (eqL a b yes no) (no ()) = true := h
      have go : ∀ k, eqS (c :: sh) (.bool m :: a) (.bool n :: b) k = cond (cond m n (!n)) (eqS sh a b k) (k false) := fun k => by
        rw [eqS_cons]; simp only [hc, cond_true]
      cases hb : cond m n (!n) with
      | true =>
        rw [hb] at h1
        have hmn : m = n := by cases m <;> cases n <;> first | rfl | (cases hb)
        rcases ih hs' h1 with ⟨g1, g2, g3⟩ | ⟨g1, g2⟩
        · exact Or.inl ⟨by rw [g1, hmn], g2, by rw [go, hb]; exact g3⟩
        · exact Or.inr ⟨g1, by rw [go, hb]; exact g2⟩
      | false => rw [hb] at h1; exact Or.inr ⟨h1, by rw [go, hb]; rfl⟩
    · rename_i m n
      obtain ⟨hc, hs'⟩ := cond_true_inv (show cond (Nat.beq c 1) (hasSh sh a) false = true from hs)
      have h1 : cond (seq m n) (eqL a b yes no) (no ()) = true := h
      have go : ∀ k, eqS (c :: sh) (.str m :: a) (.str n :: b) k = cond (seq m n) (eqS sh a b k) (k false) := fun k => by
        rw [eqS_cons]; simp only [hc, cond_true]
      cases hb : seq m n with
      | true =>
        rw [hb] at h1
        have hmn : m = n := by rw [seq_eq, beq_iff_eq] at hb; exact hb
        rcases ih hs' h1 with ⟨g1, g2, g3⟩ | ⟨g1, g2⟩
        · exact Or.inl ⟨by rw [g1, hmn], g2, by rw [go, hb]; exact g3⟩
        · exact Or.inr ⟨g1, by rw [go, hb]; exact g2⟩
      | false => rw [hb] at h1; exact Or.inr ⟨h1, by rw [go, hb]; rfl⟩
/-- cells of a key: the value is known to the last bit -/
theorem hasSh_at : ∀ (sh : List Nat) (a : List AV) (i : Nat), hasSh sh a = true → i < a.length → (∃ q n, a.getD i .undef = .int q n) ∨ (∃ s, a.getD i .undef = .str s) ∨ (∃ b, a.getD i .undef = .bool b)
  | [], [], i, _, h => by simp at h
  | [], _ :: _, _, h, _ => by cases h
  | c :: sh, [], _, h, _ => by cases h
  | c :: sh, x :: a, i, h, hi => by
    cases i with
    | zero => cases x <;> first | (cases h; done) | skip
              · exact Or.inl ⟨_, _, rfl⟩
              · exact Or.inr (Or.inr ⟨_, rfl⟩)
              · exact Or.inr (Or.inl ⟨_, rfl⟩)
    | succ i =>
      have h' : hasSh sh a = true := by cases x <;> first | (cases h; done) | exact (cond_true_inv (show cond (Nat.beq c _) (hasSh sh a) false = true from h)).2
      exact hasSh_at sh a i h' (by simpa using hi)
theorem key_same {sh : List Nat} {r r2 : Rp AV} {xs ys : Array Value} (hs : hasSh sh r.toL = true) (he : r.toL = r2.toL) (hx : VR ι (.agg r) (.agg xs)) (hy : VR ι (.agg r2) (.agg ys)) : xs = ys := by
  cases hx with
  | agg _ _ ho hl h h1 =>
  cases hy with
  | agg _ _ ho' hl' h' h1' =>
  apply Array.ext
  · rw [← hl, ← hl', he]
  · intro i hi hi'
    have g1 := h i
    have g2 := h' i
    rw [← he] at g2
    have e1 : xs.getD i Go.undef = xs[i] := by simp [Array.getD_eq_getD_getElem?, hi]
    have e2 : ys.getD i Go.undef = ys[i] := by simp [Array.getD_eq_getD_getElem?, hi']
    rw [e1] at g1
    rw [e2] at g2
    rcases hasSh_at sh r.toL i hs (by omega) with ⟨q, n, e⟩ | ⟨s, e⟩ | ⟨b, e⟩
    · rw [e] at g1 g2; rw [g1.int_inv, g2.int_inv]
    · rw [e] at g1 g2
      obtain ⟨s1, z1, k1⟩ := g1.str_inv
      obtain ⟨s2, z2, k2⟩ := g2.str_inv
      rw [z1, z2]
      have h2 := bytesOf_eq s1 s2
      rw [← k1, ← k2, seq_eq, beq_self_eq_true] at h2
      rw [(Lib.bytes_beq_iff s1 s2).1 h2.symm]
    · rw [e] at g1 g2; rw [g1.bool_inv, g2.bool_inv]
theorem key_bits {sh : List Nat} {r : Rp AV} {xs : Array Value} (hs : hasSh sh r.toL = true) (hx : VR ι (.agg r) (.agg xs)) : Instr.sameBits 10000 (.agg xs) (.agg xs) = true := by
  cases hx with
  | agg _ _ ho hl h h1 =>
  show Instr.sameBits (9999 + 1) (.agg xs) (.agg xs) = true
  simp only [Instr.sameBits, beq_self_eq_true, Bool.true_and, List.all_eq_true]
  intro p hp
  obtain ⟨i, hi, rfl⟩ := List.mem_iff_getElem.1 hp
  simp only [List.getElem_zip, Array.getElem_toList]
  have hi' : i < xs.size := by simpa using hi
  have g1 := h i
  have e1 : xs.getD i Go.undef = xs[i] := by simp [Array.getD_eq_getD_getElem?, hi']
  rw [e1] at g1
  rcases hasSh_at sh r.toL i hs (by omega) with ⟨q, n, e⟩ | ⟨s, e⟩ | ⟨b, e⟩
  · rw [e] at g1; rw [g1.int_inv]; simp [Instr.sameBits]
  · rw [e] at g1
    obtain ⟨s1, z1, k1⟩ := g1.str_inv
    rw [z1]; simp [Instr.sameBits, MapKept.bytes_beq]
  · rw [e] at g1; rw [g1.bool_inv]; simp [Instr.sameBits]
theorem keyEq_inv {key e : AV} {kv ev' : Value} {kk : Nat} {d : TypeDesc} {yes no : Unit → Bool} (hd : (kk = 0 ∧ ∃ q, d = .int q) ∨ (kk = 1 ∧ d = .string)) (hk : isKey kk key = true) (hv : VR ι key kv) (he : VR ι e ev')
    (h : keyEq key e yes no = true) : (Instr.sameNow d kv ev' = some true ∧ ev' = kv ∧ yes () = true) ∨ (Instr.sameNow d kv ev' = some false ∧ no () = true) := by
  unfold keyEq at h
  split at h
  · rename_i q m r n
    cases hv
    cases he
    obtain ⟨h1, h'⟩ := cond_true_inv h
    have := ikN_inj h1
    subst this
    have hkk : kk = 0 := Nat.eq_of_beq_eq_true hk
    rcases hd with ⟨_, q', rfl⟩ | ⟨h', _⟩
    · cases hmn : ieq m n with
      | true =>
        rw [hmn] at h'
        rw [ieq_eq, beq_iff_eq] at hmn
        subst hmn
        exact Or.inl ⟨by simp [Instr.sameNow], rfl, h'⟩
      | false =>
        rw [hmn] at h'
        rw [ieq_eq, beq_eq_false_iff_ne] at hmn
        exact Or.inr ⟨by simp [Instr.sameNow, hmn], h'⟩
    · omega
  · rename_i m n
    obtain ⟨s1, rfl, rfl⟩ := hv.str_inv
    obtain ⟨s2, rfl, rfl⟩ := he.str_inv
    have hkk : kk = 1 := Nat.eq_of_beq_eq_true hk
    rcases hd with ⟨h', _⟩ | ⟨_, rfl⟩
    · omega
    · have h2 := bytesOf_eq s1 s2
      cases hs : seq (bytesOf s1) (bytesOf s2) with
      | true =>
        rw [hs] at h h2
        have h4 : s1 = s2 := (Lib.bytes_beq_iff s1 s2).1 h2.symm
        subst h4
        exact Or.inl ⟨by simp [Instr.sameNow, MapKept.bytes_beq], rfl, h⟩
      | false =>
        rw [hs] at h h2
        have h4 : ¬ ((s1 == s2) = true) := fun e => by
          have e' := (MapKept.bytes_beq s1 s2).1 e
          subst e'
          rw [(Lib.bytes_beq_iff s1 s1).2 rfl] at h2
          cases h2
        refine Or.inr ⟨?_, h⟩
        simp [Instr.sameNow, h4]
  · rename_i x y
    have h2 := Nat.le_of_ble_eq_true (cond_true_inv (show cond (Nat.ble 2 kk) (hasSh (shOf kk) x.toL) false = true from hk)).1
    rcases hd with ⟨h', _⟩ | ⟨h', _⟩ <;> omega
  · cases h
theorem mfind_sound {key : AV} {kv : Value} {kk : Nat} {d : TypeDesc} (hd : (kk = 0 ∧ ∃ q, d = .int q) ∨ (kk = 1 ∧ d = .string)) (hk : isKey kk key = true) (hv : VR ι key kv) {yes : Nat → AV → Bool} {no : Unit → Bool} :
    ∀ (es : List (AV × AV × Nat)) (cs : List MapEntry) (i : Nat), es.length = cs.length → (∀ (j : Nat) (x : AV × AV × Nat) (e : MapEntry), es[j]? = some x → cs[j]? = some e → entR ι x e) → mfind key es yes no i = true →
    (∃ j x e, es[j]? = some x ∧ cs[j]? = some e ∧ Instr.findNow d kv cs i = some (some (i + j, e.val)) ∧ e.key = kv ∧ VR ι x.2.1 e.val ∧ yes (i + j) x.2.1 = true) ∨ (Instr.findNow d kv cs i = some none ∧ no () = true)
  | [], cs, i, hl, _, h => by
    cases cs with
    | nil => exact Or.inr ⟨rfl, h⟩
    | cons c cs => cases hl
  | x :: es, [], i, hl, _, h => by cases hl
  | x :: es, e :: cs, i, hl, he, h => by
    have h0 := he 0 x e rfl rfl
    rcases keyEq_inv hd hk hv h0.1 (show keyEq key x.1 (fun _ => yes i x.2.1) (fun _ => mfind key es yes no (Nat.succ i)) = true from h) with ⟨h1, h2, h3⟩ | ⟨h1, h3⟩
    · exact Or.inl ⟨0, x, e, rfl, rfl, by simp [Instr.findNow, h1], h2, h0.2.1, h3⟩
    · rcases mfind_sound hd hk hv es cs (Nat.succ i) (by simpa using hl) (fun j y f h4 h5 => he (j + 1) y f (by simpa using h4) (by simpa using h5)) h3 with ⟨j, y, f, g1, g2, g3, g4, g5, g6⟩ | ⟨g1, g2⟩
      · refine Or.inl ⟨j + 1, y, f, by simpa using g1, by simpa using g2, ?_, g4, g5, ?_⟩
        · simp only [Instr.findNow, h1]
          rw [show i + (j + 1) = i.succ + j by omega]
          exact g3
        · rw [show i + (j + 1) = i.succ + j by omega]; exact g6
      · exact Or.inr ⟨by simpa [Instr.findNow, h1] using g1, g2⟩
theorem run_find {t : TypeId} {d : TypeDesc} {kv : Value} {cs : List MapEntry} {r : Option (Nat × Value)} (hd : P.underlying t = some d) (h : Instr.findNow d kv cs 0 = some r) : (Instr.findKey t kv cs).run P w = .ok r w := by
  simp [Instr.findKey, run_und hd, h]
/-- the keys of structs are asked for one by one -/
theorem mask_sound {t : TypeId} {r : Rp AV} {xs : Array Value} {kk : Nat} {fs : Array Field} {sh : List Nat} {i : TypeInfo} (hd : P.underlying t = some (.struct fs)) (hsh : shapeT P 20 t = some sh) (hi : P.info? t = some i) (hsz : i.size = sh.length) (hs : hasSh sh r.toL = true) (hv : VR ι (.agg r) (.agg xs)) {yes : Nat → AV → Bool} {no : Unit → Bool} :
    ∀ (es : List (AV × AV × Nat)) (cs : List MapEntry) (i : Nat), es.length = cs.length → (∀ (j : Nat) (x : AV × AV × Nat) (e : MapEntry), es[j]? = some x → cs[j]? = some e → entR ι x e) → mfind (.agg r) es yes no i = true →
    (∃ j x e, es[j]? = some x ∧ cs[j]? = some e ∧ (Instr.findAsking t (.agg xs) cs i).run P w = .ok (some (i + j, e.val)) w ∧ e.key = .agg xs ∧ VR ι x.2.1 e.val ∧ yes (i + j) x.2.1 = true) ∨ ((Instr.findAsking t (.agg xs) cs i).run P w = .ok none w ∧ no () = true)
  | [], cs, i, hl, _, h => by
    cases cs with
    | nil => exact Or.inr ⟨by simp [Instr.findAsking], h⟩
    | cons c cs => cases hl
  | x :: es, [], i, hl, _, h => by cases hl
  | x :: es, e :: cs, ix, hl, he, h => by
    have h0 := he 0 x e rfl rfl
    have h' : keyEq (.agg r) x.1 (fun _ => yes ix x.2.1) (fun _ => mfind (.agg r) es yes no (Nat.succ ix)) = true := h
    have hxk := h0.1
    unfold keyEq at h'
    split at h' <;> first | (rename_i heq; cases heq; done) | (cases h'; done) | skip
    all_goals try (rename_i e1 e2; cases e1; done)
    rename_i r' r2 e1 e2
    cases e1
    rw [e2] at hxk
    obtain ⟨ys, hys, hyr⟩ := hxk.agg_inv
    obtain ⟨hlen, hq⟩ := cond_true_inv h'
    have hlen' := Nat.eq_of_beq_eq_true hlen
    have hvr := hv
    cases hvr with
    | agg _ _ ho hl2 hvv h1 =>
    rw [Rp.len_eq r ho, Rp.len_eq r2 hyr.1] at hlen'
    have hrl := hasSh_len _ _ hs
    have hag : isAggT P t = true := by simp [isAggT, hd]
    have rp : ∀ c : Array Value, c.size = sh.length → (part t c 0).run P w = .ok (.agg c) w := fun c hc => by
      simp only [part, Sem.run_bind, run_isAgg hd, hag, Result.andThen_ok, if_true, run_size hi, Sem.run_pure, Nat.zero_add]
      rw [hsz, ← hc, Array.extract_size]
    have eqr : ∀ K : Bool → Bool, eqS sh r.toL r2.toL K = true → ∃ b, (Op.equal t (.agg xs) (.agg ys)).run P w = .ok b w ∧ K b = true := fun K hK => by
      obtain ⟨v1, v2, b, p1, p2, p3, p4⟩ := eqIn_sound w 20 t sh hsh 10000 (by omega) 0 xs ys r.toL r2.toL K ⟨by omega, fun i hi => by rw [Nat.zero_add]; exact hvv i⟩ ⟨by have := hyr.2.1; omega, fun i hi => by rw [Nat.zero_add]; exact hyr.2.2.1 i⟩ hK
      rw [rp xs (by omega)] at p1
      rw [rp ys (by have := hyr.2.1; omega)] at p2
      cases p1
      cases p2
      exact ⟨b, p3, p4⟩
    rcases eqL_inv sh _ _ hs hq with ⟨g1, g2, g3⟩ | ⟨g2, g3⟩
    · obtain ⟨b, p1, p2⟩ := eqr _ g3
      have hb : b = true := p2
      subst hb
      have hsame : xs = ys := key_same hs g1 hv (by rw [← hys]; exact hxk)
      refine Or.inl ⟨0, x, e, rfl, rfl, ?_, by rw [hys, hsame], h0.2.1, g2⟩
      simp only [Instr.findAsking, hys, Sem.run_bind, p1, Result.andThen_ok, if_true, Sem.run_pure, Nat.add_zero]
    · obtain ⟨b, p1, p2⟩ := eqr _ g3
      have hb : b = false := by simpa using p2
      subst hb
      have step : (Instr.findAsking t (.agg xs) (e :: cs) ix).run P w = (Instr.findAsking t (.agg xs) cs (ix + 1)).run P w := by
        simp only [Instr.findAsking, hys, Sem.run_bind, p1, Result.andThen_ok, Bool.false_eq_true, if_false]
      rcases mask_sound (kk := kk) (i := i) hd hsh hi hsz hs hv es cs (Nat.succ ix) (by simpa using hl) (fun j y f h4 h5 => he (j + 1) y f (by simpa using h4) (by simpa using h5)) g2 with ⟨j, y, f, k1, k2, k3, k4, k5, k6⟩ | ⟨k1, k2⟩
      · refine Or.inl ⟨j + 1, y, f, by simpa using k1, by simpa using k2, ?_, k4, k5, ?_⟩
        · rw [step, show ix + (j + 1) = ix.succ + j by omega]; exact k3
        · rw [show ix + (j + 1) = ix.succ + j by omega]; exact k6
      · exact Or.inr ⟨by rw [step]; exact k1, k2⟩
theorem find_sound {t : TypeId} {key : AV} {kv : Value} {kk : Nat} (h : keyT P t = some kk) (hk : isKey kk key = true) (hv : VR ι key kv) {yes : Nat → AV → Bool} {no : Unit → Bool} (es : List (AV × AV × Nat)) (cs : List MapEntry) (hl : es.length = cs.length)
    (he : ∀ (j : Nat) (x : AV × AV × Nat) (e : MapEntry), es[j]? = some x → cs[j]? = some e → entR ι x e) (hx : mfind key es yes no 0 = true) :
    (∃ j x e, es[j]? = some x ∧ cs[j]? = some e ∧ (Instr.findKey t kv cs).run P w = .ok (some (j, e.val)) w ∧ e.key = kv ∧ VR ι x.2.1 e.val ∧ yes j x.2.1 = true) ∨ ((Instr.findKey t kv cs).run P w = .ok none w ∧ no () = true) := by
  obtain ⟨d, hd, hd'⟩ := keyT_inv h
  have plain : ((kk = 0 ∧ ∃ q, d = .int q) ∨ (kk = 1 ∧ d = .string)) → (∃ j x e, es[j]? = some x ∧ cs[j]? = some e ∧ (Instr.findKey t kv cs).run P w = .ok (some (j, e.val)) w ∧ e.key = kv ∧ VR ι x.2.1 e.val ∧ yes j x.2.1 = true) ∨ ((Instr.findKey t kv cs).run P w = .ok none w ∧ no () = true) := fun hd' => by
    rcases mfind_sound hd' hk hv es cs 0 hl he hx with ⟨j, x, e, g1, g2, g3, g4, g5, g6⟩ | ⟨g1, g2⟩
    · rw [Nat.zero_add] at g3 g6
      exact Or.inl ⟨j, x, e, g1, g2, run_find hd g3, g4, g5, g6⟩
    · exact Or.inr ⟨run_find hd g1, g2⟩
  rcases hd' with hd' | hd' | ⟨fs, sh, i, rfl, hf, hs, hi, hsz, hsh, h2⟩
  · exact plain (Or.inl hd')
  · exact plain (Or.inr hd')
  · cases hv <;> first | (exfalso; revert hk; unfold isKey; intro hk; first | (cases hk; done) | (have := Nat.eq_of_beq_eq_true hk; omega)) | skip
    rename_i r xs hro hrl hrv hr1
    have hk' := (cond_true_inv (show cond (Nat.ble 2 kk) (hasSh (shOf kk) r.toL) false = true from hk)).2
    rw [hsh] at hk'
    cases cs with
    | nil =>
      cases es with
      | nil => exact Or.inr ⟨by simp [Instr.findKey, run_und hd, Instr.findNow], hx⟩
      | cons _ _ => cases hl
    | cons c cs =>
      have hn : Instr.findNow (.struct fs) (.agg xs) (c :: cs) 0 = none := by simp [Instr.findNow, Instr.sameNow]
      have e1 : (Instr.findKey t (.agg xs) (c :: cs)).run P w = (Instr.findAsking t (.agg xs) (c :: cs) 0).run P w := by simp [Instr.findKey, run_und hd, hn]
      rw [e1]
      rcases mask_sound (w := w) (kk := kk) hd hs hi hsz hk' (.agg r xs hro hrl hrv hr1) es (c :: cs) 0 hl he hx with ⟨j, x, e, g1, g2, g3, g4, g5, g6⟩ | ⟨g1, g2⟩
      · rw [Nat.zero_add] at g3 g6
        exact Or.inl ⟨j, x, e, g1, g2, g3, g4, g5, g6⟩
      · exact Or.inr ⟨g1, g2⟩
theorem key_stays {t : TypeId} {key : AV} {kv : Value} {kk : Nat} (h : keyT P t = some kk) (hk : isKey kk key = true) (hv : VR ι key kv) : (Instr.keyThatStays kv kv).run P w = .ok kv w := by
  have hsb : Instr.sameBits 10000 kv kv = true := by
    cases hv with
    | int k n => simp [Instr.sameBits]
    | str s => simp [Instr.sameBits, MapKept.bytes_beq]
    | agg r xs ho hl hvv h1 => exact key_bits (cond_true_inv (show cond (Nat.ble 2 kk) (hasSh (shOf kk) r.toL) false = true from hk)).2 (.agg r xs ho hl hvv h1)
    | _ => cases hk
  simp [Instr.keyThatStays, hsb]
theorem run_getMap {r : Nat} {es : Array MapEntry} {ck : Nat} (hb : w.heap[r]? = some (.map es ck)) : (getObj r).run P w = .ok (.map es ck) w := by
  simp [getObj, Sem.run, hb]
theorem run_setMap {r : Nat} {es : Array MapEntry} {ck : Nat} (o : Obj) (hb : w.heap[r]? = some (.map es ck)) : (setObj r o).run P w = .ok () { w with heap := w.heap.setIfInBounds r o } := by
  simp [setObj, Sem.run, hb]
/-- a map's block -/
theorem HR.mapAt (h : HR P base ι H w) {b : Nat} {es : List (AV × AV × Nat)} {ck : Nat} {L : Loc} (hb : H.get b = some (.mp es ck)) (hi : ι b = some L) :
    ∃ ents, w.heap[L.blk]? = some (.map ents ck) ∧ es.length = ents.toList.length ∧ (∀ (j : Nat) (x : AV × AV × Nat) (e : MapEntry), es[j]? = some x → ents.toList[j]? = some e → entR ι x e) ∧ base ≤ L.blk := by
  obtain ⟨c, hc, ho⟩ := h.obj b _ L hb hi
  cases ho with
  | mp _ _ ents hl he hbase => exact ⟨ents, hc, by simpa using hl, fun j x e h1 h2 => he j x e h1 (by rw [Array.getElem?_toList] at h2; exact h2), hbase⟩
theorem sound_lkp (o : Oper) (t kt e : TypeId) (m key : Operand) (z : AV) (kk : Nat) (ok : Bool) (ho : o.op = .lookup t m key ok) (ht : P.underlying t = some (.map kt e)) (hkt : keyT P kt = some kk) (hz : zeroAV P e = some z) (hr : HR P base ι H w) (he : rowR ι env a.tmps)
    (hx : xop (.lkp z ok kk (od m) (od key)) env H k = true) : Res P base ι H w k ((execOp a.eval o).run P w) := by
  simp only [xop] at hx
  have hm := ev_sound he m
  have hk := ev_sound he key
  generalize hmv : a.eval m = mv at hm
  generalize hkv : a.eval key = kv at hk
  generalize ev env (od m) = mx at hm hx
  generalize ev env (od key) = kx at hk hx
  obtain ⟨hik, hx⟩ := cond_true_inv hx
  obtain ⟨d, hd, hd'⟩ := keyT_inv hkt
  unfold zeroAV at hz
  cases hi : P.info? e with
  | none => rw [hi] at hz; cases hz
  | some i =>
  rw [hi] at hz
  simp only [Option.bind_some] at hz
  cases hzv : i.zero with
  | none => rw [hzv] at hz; cases hz
  | some zv =>
  rw [hzv] at hz
  cases hz
  have hzr := VR_ofV ι zv
  have htup : ∀ {x : AV} {xv : Value} (b : Bool), VR ι x xv → VR ι (cond ok (.tup [x, .bool b]) x) (if ok then .tuple #[xv, .bool b] else xv) := fun {x xv} b h => by
    cases ok
    · exact h
    · exact .tup _ _ rfl (fun i => match i with
        | 0 => h
        | 1 => .bool _
        | i + 2 => by
          have e1 : [x, AV.bool b].getD (i + 2) .undef = .undef := by simp
          rw [e1]; exact .undef _)
  split at hx
  · cases hm
    refine Res.pure hr (cv := if ok then .tuple #[zv, .bool false] else zv) ?_ (htup _ hzr) hx
    have hf : (Instr.findKey kt kv []).run P w = .ok none w := run_find hd rfl
    have hc := run_check (w := w) hkt hik hk true
    simp [execOp, ho, hmv, hkv, Instr.lookup, run_und ht, hc, hf, run_zero hi hzv]
  · rename_i r
    obtain ⟨es, ck, hb, hx⟩ := gmap_inv hx
    cases hm with
    | map _ L hL =>
    obtain ⟨ents, hw, hl, hent, _⟩ := hr.mapAt hb hL
    have hc := fun em => run_check (w := w) hkt hik hk em
    rcases find_sound (w := w) hkt hik hk es ents.toList hl hent hx with ⟨j, x, f, g1, g2, g3, g4, g5, g6⟩ | ⟨g3, g6⟩
    · refine Res.pure hr (cv := if ok then .tuple #[f.val, .bool true] else f.val) ?_ (htup _ g5) g6
      simp [execOp, ho, hmv, hkv, Instr.lookup, run_und ht, hc, g3, run_getMap hw]
    · refine Res.pure hr (cv := if ok then .tuple #[zv, .bool false] else zv) ?_ (htup _ hzr) g6
      simp [execOp, ho, hmv, hkv, Instr.lookup, run_und ht, hc, g3, run_getMap hw, run_zero hi hzv]
  · cases hx
theorem sound_mup (o : Oper) (t kt e : TypeId) (m key x : Operand) (kk : Nat) (ho : o.op = .mapUpdate t m key x) (ht : P.underlying t = some (.map kt e)) (hkt : keyT P kt = some kk) (hr : HR P base ι H w) (he : rowR ι env a.tmps)
    (hx : xop (.mup kk (od m) (od key) (od x)) env H k = true) : Res P base ι H w k ((execOp a.eval o).run P w) := by
  simp only [xop] at hx
  have hm := ev_sound he m
  have hk := ev_sound he key
  have hv := ev_sound he x
  generalize hmv : a.eval m = mv at hm
  generalize hkv : a.eval key = kv at hk
  generalize hxv : a.eval x = xv at hv
  generalize ev env (od m) = mx at hm hx
  generalize ev env (od key) = kx at hk hx
  generalize ev env (od x) = vx at hv hx
  obtain ⟨hik, hx⟩ := cond_true_inv hx
  obtain ⟨d, hd, hd'⟩ := keyT_inv hkt
  split at hx
  · rename_i r
    obtain ⟨es, ck, hb, hx⟩ := gmap_inv hx
    cases hm with
    | map _ L hL =>
    obtain ⟨ents, hw, hl, hent, hbase⟩ := hr.mapAt hb hL
    have hc := fun em => run_check (w := w) hkt hik hk em
    have hl' : es.length = ents.size := by simpa using hl
    rcases find_sound (w := w) hkt hik hk es ents.toList hl hent hx with ⟨j, y, f, g1, g2, g3, g4, g5, g6⟩ | ⟨g3, g6⟩
    · have g2' : ents[j]? = some f := by rw [Array.getElem?_toList] at g2; exact g2
      have hstay := key_stays (w := w) hkt hik hk
      have hrun : (execOp a.eval o).run P w = .ok .skip { w with heap := w.heap.setIfInBounds L.blk (.map (ents.modify j fun e => { e with key := kv, val := xv }) ck) } := by
        simp [execOp, ho, hmv, hkv, hxv, Instr.mapUpdate, run_und ht, hc, g3, run_getMap hw, g2', g4, hstay, run_setMap _ hw]
      refine ⟨.undef, _, ι, _, _, hrun, hr.updNx hb hL (up_setObj _ _ _ hw) (.mp _ _ _ (by simp [hl']) (fun l u v h1 h2 => ?_) hbase) hbase, .undef _, g6⟩
      rw [List.getElem?_modify] at h1
      rw [Array.getElem?_modify] at h2
      by_cases hjl : j = l
      · subst hjl
        rw [g1] at h1
        rw [if_pos rfl, g2'] at h2
        simp at h1 h2
        subst h1
        subst h2
        have := hent j y f g1 g2
        exact ⟨hk, hv, this.2.2⟩
      · rw [if_neg hjl] at h2
        simp [hjl] at h1
        exact hent l u v h1 (by rw [Array.getElem?_toList]; exact h2)
    · have hrun : (execOp a.eval o).run P w = .ok .skip { w with heap := w.heap.setIfInBounds L.blk (.map (ents.push { key := kv, val := xv, born := ck }) (ck + 1)) } := by
        simp [execOp, ho, hmv, hkv, hxv, Instr.mapUpdate, run_und ht, hc, g3, run_getMap hw, run_setMap _ hw]
      refine ⟨.undef, _, ι, _, _, hrun, hr.updNx hb hL (up_setObj _ _ _ hw) (.mp _ _ _ (by simp [hl']) (fun l u v h1 h2 => ?_) hbase) hbase, .undef _, g6⟩
      rw [Array.getElem?_push] at h2
      by_cases hll : l = ents.size
      · subst hll
        rw [if_pos rfl] at h2
        rw [List.getElem?_append_right (by omega)] at h1
        simp [hl'] at h1
        cases h2
        subst h1
        exact ⟨hk, hv, rfl⟩
      · rw [if_neg hll] at h2
        have hlt : l < ents.size := (Array.getElem?_eq_some_iff.1 h2).1
        rw [List.getElem?_append_left (by omega)] at h1
        exact hent l u v h1 (by rw [Array.getElem?_toList]; exact h2)
  · cases hx
theorem sound_del (o : Oper) (c : Call) (t kt e : TypeId) (ts : List TypeId) (m key : Operand) (kk : Nat) (ho : o.op = .call c) (hc : c.callee = .builtin .delete) (hat : c.argTypes.toList = t :: ts) (ha : c.args = #[m, key])
    (ht : P.underlying t = some (.map kt e)) (hkt : keyT P kt = some kk) (hr : HR P base ι H w) (he : rowR ι env a.tmps)
    (hx : xop (.del kk (od m) (od key)) env H k = true) : Res P base ι H w k ((execOp a.eval o).run P w) := by
  simp only [xop] at hx
  refine ResV.builtin ho hc (f := Builtin.delete_) (fun _ _ _ _ => rfl) ?_
  rw [ha]
  have hm := ev_sound he m
  have hk := ev_sound he key
  simp only [List.map_toArray, List.map_cons, List.map_nil]
  generalize a.eval m = mv at hm
  generalize a.eval key = kv at hk
  generalize ev env (od m) = mx at hm hx
  generalize ev env (od key) = kx at hk hx
  obtain ⟨hik, hx⟩ := cond_true_inv hx
  obtain ⟨d, hd, hd'⟩ := keyT_inv hkt
  have h0 : c.argTypes[0]? = some t := by rw [← Array.getElem?_toList, hat]; rfl
  have htup : VR ι (.tup []) (.tuple #[]) := .tup _ _ rfl (fun i => by simp only [List.getD_nil]; exact .undef _)
  have hck := fun em => run_check (w := w) hkt hik hk em
  split at hx
  · cases hm
    exact ResV.pure hr (by simp [Builtin.delete_, h0, run_und ht, hck]) htup hx
  · rename_i r
    obtain ⟨es, ck, hb, hx⟩ := gmap_inv hx
    cases hm with
    | map _ L hL =>
    obtain ⟨ents, hw, hl, hent, hbase⟩ := hr.mapAt hb hL
    have hl' : es.length = ents.size := by simpa using hl
    rcases find_sound (w := w) hkt hik hk es ents.toList hl hent hx with ⟨j, y, f, g1, g2, g3, g4, g5, g6⟩ | ⟨g3, g6⟩
    · have hj : j < ents.size := by
        rw [Array.getElem?_toList] at g2
        exact (Array.getElem?_eq_some_iff.1 g2).1
      refine ⟨.tup [], _, ι, .tuple #[], { w with heap := w.heap.setIfInBounds L.blk (.map (ents.eraseIdxIfInBounds j) ck) }, by simp [Builtin.delete_, h0, run_und ht, hck, run_getMap hw, g3, run_setMap _ hw],
        hr.updNx hb hL (up_setObj _ _ _ hw) (.mp _ _ _ ?_ (fun l u v h1 h2 => ?_) hbase) hbase, htup, g6⟩
      · rw [← Array.length_toList, Array.toList_eraseIdxIfInBounds, List.length_eraseIdx, List.length_eraseIdx, hl]
      · rw [← Array.getElem?_toList, Array.toList_eraseIdxIfInBounds] at h2
        rw [List.getElem?_eraseIdx] at h1 h2
        split at h1
        · rename_i hlt
          rw [if_pos hlt] at h2
          exact hent l u v h1 h2
        · rename_i hlt
          rw [if_neg hlt] at h2
          exact hent _ u v h1 h2
    · refine ⟨.tup [], H, ι, .tuple #[], { w with heap := w.heap.setIfInBounds L.blk (.map ents ck) }, by simp [Builtin.delete_, h0, run_und ht, hck, run_getMap hw, g3, run_setMap _ hw], ?_, htup, g6⟩
      have hself : w.heap.setIfInBounds L.blk (.map ents ck) = w.heap := by
        apply Array.ext_getElem?
        intro j
        rw [Array.getElem?_setIfInBounds]
        by_cases hj : L.blk = j
        · subst hj
          rw [if_pos rfl, hw]
          split
          · rfl
          · rename_i h; exact absurd (Array.getElem?_eq_some_iff.1 hw).1 h
        · rw [if_neg hj]
      rw [hself]
      exact Nx.refl hr
  · cases hx
theorem sound_clrm (o : Oper) (c : Call) (t kt e : TypeId) (m : Operand) (ho : o.op = .call c) (hc : c.callee = .builtin .clear) (hat : c.argTypes = #[t]) (ha : c.args = #[m])
    (ht : P.underlying t = some (.map kt e)) (hr : HR P base ι H w) (he : rowR ι env a.tmps) (hx : xop (.clrm (od m)) env H k = true) : Res P base ι H w k ((execOp a.eval o).run P w) := by
  simp only [xop] at hx
  refine ResV.builtin ho hc (f := Builtin.clear_) (fun _ _ _ _ => rfl) ?_
  rw [hat, ha]
  have hm := ev_sound he m
  simp only [List.map_toArray, List.map_cons, List.map_nil]
  generalize a.eval m = mv at hm
  generalize ev env (od m) = mx at hm hx
  have htup : VR ι (.tup []) (.tuple #[]) := .tup _ _ rfl (fun i => by simp only [List.getD_nil]; exact .undef _)
  split at hx
  · cases hm
    exact ResV.pure hr (by simp [Builtin.clear_, run_und ht]) htup hx
  · rename_i r
    obtain ⟨es, ck, hb, hx⟩ := gmap_inv hx
    cases hm with
    | map _ L hL =>
    obtain ⟨ents, hw, hl, hent, hbase⟩ := hr.mapAt hb hL
    exact ⟨.tup [], _, ι, .tuple #[], { w with heap := w.heap.setIfInBounds L.blk (.map #[] ck) }, by simp [Builtin.clear_, run_und ht, run_getMap hw, run_setMap _ hw],
        hr.updNx hb hL (up_setObj _ _ _ hw) (.mp _ _ _ rfl (fun l u v h1 h2 => by simp at h1) hbase) hbase, htup, hx⟩
  · cases hx
end
end Go.Jt
