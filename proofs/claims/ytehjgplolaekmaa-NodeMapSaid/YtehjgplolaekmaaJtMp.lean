/-
  A map of texts, and a leaf that holds the same.
-/
import Derived.Test.YtehjgplolaekmaaJtHp
set_option autoImplicit false
set_option linter.all false
set_option maxHeartbeats 2000000
namespace Go.Jt
noncomputable section
variable [Gl]
/-- an entry: key, value, when it was born -/
abbrev ME := List Nat × List Nat × Nat
def mpE (E : List ME) : List (AV × AV × Nat) := E.map fun e => (.str e.1, .agg (.one (.str e.2.1)), e.2.2)
def lookE : List ME → List Nat → Option (Nat × List Nat)
  | [], _ => none
  | e :: E, k => if e.1 = k then some (0, e.2.1) else (lookE E k).map fun p => (p.1 + 1, p.2)
theorem lookE_cons (e : ME) (E : List ME) (k : List Nat) : lookE (e :: E) k = if e.1 = k then some (0, e.2.1) else (lookE E k).map fun p => (p.1 + 1, p.2) := rfl
def mfR (yes : Nat → AV → Bool) (no : Unit → Bool) (n : Nat) : Option (Nat × List Nat) → Bool
  | some (i, v) => yes (n + i) (.agg (.one (.str v)))
  | none => no ()
theorem mf_look (E : List ME) (k : List Nat) (yes : Nat → AV → Bool) (no : Unit → Bool) : ∀ n : Nat, mfind (.str k) (mpE E) yes no n = mfR yes no n (lookE E k) := by
  induction E with
  | nil => intro n; rfl
  | cons e E ih =>
    intro n
    show cond (seq k e.1) (yes n (.agg (.one (.str e.2.1)))) (mfind (.str k) (mpE E) yes no (Nat.succ n)) = _
    rw [seq_eq, ih, lookE_cons]
    by_cases h : e.1 = k
    · rw [if_pos h, h]
      simp [mfR]
    · rw [if_neg h]
      have h2 : (k == e.1) = false := by simp; exact fun e' => h e'.symm
      rw [h2]
      cases lookE E k with
      | none => rfl
      | some p => obtain ⟨i, v⟩ := p; show yes (n + 1 + i) _ = yes (n + (i + 1)) _; rw [show n + 1 + i = n + (i + 1) by omega]
section
variable {H : AH} {Z : Fz} {l : List Hl} {env : Env} {E : List ME} {b c : Nat} {k v w : List Nat} {m key x : Od}
theorem s_mkm (hs : Sat H Z l) : ∃ b H', Sat H' Z (.mp b (mpE []) 0 :: l) ∧ ∀ {env : Env} (K : AV → AH → Bool), xop .mkm env H K = K (.map b) H' :=
  ⟨H.n, H.new (.mp [] 0), hs.new rfl (get_new_here ..), fun {env} K => by simp only [xop, alc, anew_eq]⟩
theorem s_lkpY (hs : Sat H Z l) (i : Nat) {j : Nat} (h : lookE E k = some (j, v)) (zero : AV) (hi : l[i]? = some (.mp b (mpE E) c) := by rfl) (hm : ev env m = .map b := by rfl) (hk : ev env key = .str k := by rfl) (K : AV → AH → Bool) : xop (.lkp zero true 1 m key) env H K = K (.tup [.agg (.one (.str v)), .bool true]) H := by
  have h3 : H.get b = some (.mp (mpE E) c) := hs.getAt i hi
  simp only [xop, hm, hk, isKey, Nat.beq_refl, cond_true, gmap, h3, mf_look, h, mfR]
theorem s_lkpN (hs : Sat H Z l) (i : Nat) (h : lookE E k = none) (zero : AV) (hi : l[i]? = some (.mp b (mpE E) c) := by rfl) (hm : ev env m = .map b := by rfl) (hk : ev env key = .str k := by rfl) (K : AV → AH → Bool) : xop (.lkp zero true 1 m key) env H K = K (.tup [zero, .bool false]) H := by
  have h3 : H.get b = some (.mp (mpE E) c) := hs.getAt i hi
  simp only [xop, hm, hk, isKey, Nat.beq_refl, cond_true, gmap, h3, mf_look, h, mfR]
theorem s_lkp1 (hs : Sat H Z l) (i : Nat) {j : Nat} (h : lookE E k = some (j, v)) (zero : AV) (hi : l[i]? = some (.mp b (mpE E) c) := by rfl) (hm : ev env m = .map b := by rfl) (hk : ev env key = .str k := by rfl) (K : AV → AH → Bool) : xop (.lkp zero false 1 m key) env H K = K (.agg (.one (.str v))) H := by
  have h3 : H.get b = some (.mp (mpE E) c) := hs.getAt i hi
  simp only [xop, hm, hk, isKey, Nat.beq_refl, cond_true, cond_false, gmap, h3, mf_look, h, mfR]
theorem s_mlen (hs : Sat H Z l) (i : Nat) (hi : l[i]? = some (.mp b (mpE E) c) := by rfl) (hm : ev env m = .map b := by rfl) (K : AV → AH → Bool) : xop (.len 2 m) env H K = K (.int .i64 (.ofNat E.length)) H := by
  have h3 : H.get b = some (.mp (mpE E) c) := hs.getAt i hi
  have e : (mpE E).length = E.length := by simp [mpE]
  simp only [xop, hm, gmap, h3, llen_eq, Nat.add_zero, e, fN_eq]
theorem mpE_modify (E : List ME) (k v : List Nat) : ∀ j : Nat, mpE (E.modify j fun e => (k, v, e.2.2)) = (mpE E).modify j fun e => (.str k, .agg (.one (.str v)), e.2.2) := by
  induction E with
  | nil => intro j; cases j <;> rfl
  | cons e E ih =>
    intro j
    cases j with
    | zero => rfl
    | succ j =>
      show _ :: mpE (E.modify j _) = _ :: (mpE E).modify j _
      rw [ih j]
theorem mpE_erase (E : List ME) : ∀ j : Nat, mpE (E.eraseIdx j) = (mpE E).eraseIdx j := by
  induction E with
  | nil => intro j; cases j <;> rfl
  | cons e E ih =>
    intro j
    cases j with
    | zero => rfl
    | succ j =>
      show _ :: mpE (E.eraseIdx j) = _ :: (mpE E).eraseIdx j
      rw [ih j]
theorem s_mupY (hs : Sat H Z (.mp b (mpE E) c :: l)) {j : Nat} (h : lookE E k = some (j, w)) (v : List Nat) :
    ∃ H', Sat H' Z (.mp b (mpE (E.modify j fun e => (k, v, e.2.2))) c :: l) ∧ ∀ {env : Env} {m key x : Od}, ev env m = .map b → ev env key = .str k → ev env x = .agg (.one (.str v)) → ∀ K : AV → AH → Bool, xop (.mup 1 m key x) env H K = K .undef H' := by
  have h3 : H.get b = some (.mp (mpE E) c) := hs.getAt 0 rfl
  refine ⟨H.set b (.mp ((mpE E).modify j fun e => (.str k, .agg (.one (.str v)), e.2.2)) c), hs.upd rfl (fun c hc => get_set_ne hc) rfl (by rw [mpE_modify]; exact get_set_here ..), fun {env m key x} hm hk hx K => ?_⟩
  simp only [xop, hm, hk, hx, isKey, Nat.beq_refl, cond_true, gmap, h3, mf_look, h, mfR, Nat.zero_add]
theorem s_mupN (hs : Sat H Z (.mp b (mpE E) c :: l)) (h : lookE E k = none) (v : List Nat) :
    ∃ H', Sat H' Z (.mp b (mpE (E ++ [(k, v, c)])) (c + 1) :: l) ∧ ∀ {env : Env} {m key x : Od}, ev env m = .map b → ev env key = .str k → ev env x = .agg (.one (.str v)) → ∀ K : AV → AH → Bool, xop (.mup 1 m key x) env H K = K .undef H' := by
  have h3 : H.get b = some (.mp (mpE E) c) := hs.getAt 0 rfl
  have e : mpE (E ++ [(k, v, c)]) = mpE E ++ [(.str k, .agg (.one (.str v)), c)] := by simp [mpE]
  refine ⟨H.set b (.mp (mpE E ++ [(.str k, .agg (.one (.str v)), c)]) (c + 1)), hs.upd rfl (fun c hc => get_set_ne hc) rfl (by rw [e]; exact get_set_here ..), fun {env m key x} hm hk hx K => ?_⟩
  simp only [xop, hm, hk, hx, isKey, Nat.beq_refl, cond_true, gmap, h3, mf_look, h, mfR]
theorem s_delY (hs : Sat H Z (.mp b (mpE E) c :: l)) {j : Nat} (h : lookE E k = some (j, w)) :
    ∃ H', Sat H' Z (.mp b (mpE (E.eraseIdx j)) c :: l) ∧ ∀ {env : Env} {m key : Od}, ev env m = .map b → ev env key = .str k → ∀ K : AV → AH → Bool, xop (.del 1 m key) env H K = K (.tup []) H' := by
  have h3 : H.get b = some (.mp (mpE E) c) := hs.getAt 0 rfl
  refine ⟨H.set b (.mp ((mpE E).eraseIdx j) c), hs.upd rfl (fun c hc => get_set_ne hc) rfl (by rw [mpE_erase]; exact get_set_here ..), fun {env m key} hm hk K => ?_⟩
  simp only [xop, hm, hk, isKey, Nat.beq_refl, cond_true, gmap, h3, mf_look, h, mfR, Nat.zero_add]
end
/-! ### what a row of pairs holds -/
def val : List (List Nat × List Nat) → List Nat → Option (List Nat)
  | [], _ => none
  | p :: l, k => if p.1 = k then some p.2 else val l k
def vE (E : List ME) : List (List Nat × List Nat) := E.map fun e => (e.1, e.2.1)
section
variable {E : List ME} {k v w : List Nat} {j : Nat}
theorem look_val (E : List ME) (k : List Nat) : (lookE E k).map (·.2) = val (vE E) k := by
  induction E with
  | nil => rfl
  | cons e E ih =>
    show (lookE (e :: E) k).map (·.2) = if e.1 = k then some e.2.1 else val (vE E) k
    rw [lookE_cons]
    by_cases h : e.1 = k
    · rw [if_pos h, if_pos h]; rfl
    · rw [if_neg h, if_neg h, ← ih]
      cases lookE E k <;> rfl
theorem look_split (h : lookE E k = some (j, v)) : ∃ A e B, E = A ++ e :: B ∧ A.length = j ∧ e.1 = k ∧ e.2.1 = v ∧ ∀ x ∈ A, x.1 ≠ k := by
  induction E generalizing j with
  | nil => cases h
  | cons e E ih =>
    rw [lookE_cons] at h
    by_cases h1 : e.1 = k
    · rw [if_pos h1] at h
      cases h
      exact ⟨[], e, E, rfl, rfl, h1, rfl, fun x hx => (List.not_mem_nil hx).elim⟩
    · rw [if_neg h1] at h
      cases h2 : lookE E k with
      | none => rw [h2] at h; cases h
      | some p =>
        obtain ⟨i, u⟩ := p
        rw [h2] at h
        cases h
        obtain ⟨A, f, B, e1, e2, e3, e4, e5⟩ := ih h2
        refine ⟨e :: A, f, B, by rw [e1]; rfl, by simp [e2], e3, e4, fun x hx => ?_⟩
        rcases List.mem_cons.1 hx with rfl | hx
        · exact h1
        · exact e5 x hx
theorem look_none (h : lookE E k = none) : ∀ x ∈ E, x.1 ≠ k := by
  induction E with
  | nil => intro x hx; exact (List.not_mem_nil hx).elim
  | cons e E ih =>
    intro x hx
    rw [lookE_cons] at h
    by_cases h1 : e.1 = k
    · rw [if_pos h1] at h; cases h
    · rw [if_neg h1] at h
      cases h2 : lookE E k with
      | some p => rw [h2] at h; cases h
      | none =>
        rcases List.mem_cons.1 hx with rfl | hx
        · exact h1
        · exact ih h2 x hx
theorem val_none {A : List (List Nat × List Nat)} (h : ∀ p ∈ A, p.1 ≠ k) : val A k = none := by
  induction A with
  | nil => rfl
  | cons p A ih =>
    unfold val
    rw [if_neg (h p List.mem_cons_self)]
    exact ih fun q hq => h q (List.mem_cons_of_mem _ hq)
/-- a pair in the middle -/
theorem val_mid {A B : List (List Nat × List Nat)} (h : ∀ p ∈ A, p.1 ≠ k) (v q : List Nat) : val (A ++ (k, v) :: B) q = if k = q then some v else val (A ++ B) q := by
  induction A with
  | nil => rfl
  | cons p A ih =>
    have ih := ih fun q hq => h q (List.mem_cons_of_mem _ hq)
    show (if p.1 = q then some p.2 else val (A ++ (k, v) :: B) q) = _
    rw [ih]
    show _ = if k = q then some v else (if p.1 = q then some p.2 else val (A ++ B) q)
    by_cases h1 : p.1 = q
    · have : ¬ k = q := fun e => h p List.mem_cons_self (by rw [h1, e])
      rw [if_pos h1, if_neg this, if_pos h1]
    · rw [if_neg h1, if_neg h1]
end
/-! ### rising keys -/
abbrev Up_ (ks : List (List Nat)) : Prop := ks.Pairwise fun a b => slt a b = true
theorem keys_iff {ks : List (List Nat)} : KeysOk ks ↔ (∀ k ∈ ks, KeyOk k) ∧ Up_ ks := by
  constructor
  · intro h
    refine ⟨fun k hk => ?_, ?_⟩
    · obtain ⟨i, hi, e⟩ := mem_txt hk
      rw [← e]
      exact (h i hi).1
    · refine List.pairwise_iff_getElem.2 ?_
      intro i j hi hj hij
      have key : ∀ d, i + d + 1 < ks.length → slt (txt ks i) (txt ks (i + d + 1)) = true := by
        intro d
        induction d with
        | zero => intro hd; exact (h (i + 1) hd).2 (by omega)
        | succ d ih => intro hd; exact slt_trans (ih (by omega)) ((h (i + (d + 1) + 1) hd).2 (by omega))
      have := key (j - i - 1) (by omega)
      rw [show i + (j - i - 1) + 1 = j by omega] at this
      simpa [txt, hi, hj] using this
  · rintro ⟨h1, h2⟩ i hi
    refine ⟨h1 _ (txt_mem hi), fun h0 => ?_⟩
    have h2 := List.pairwise_iff_getElem.1 h2
    have := h2 (i - 1) i (by omega) hi (by omega)
    have hi' : i - 1 < ks.length := by omega
    simpa [txt, hi, hi'] using this
theorem up_ne {A B : List (List Nat)} {k : List Nat} (h : Up_ (A ++ k :: B)) : (∀ a ∈ A, a ≠ k) ∧ ∀ b ∈ B, b ≠ k := by
  obtain ⟨_, h2, h3⟩ := List.pairwise_append.1 h
  refine ⟨fun a ha e => ?_, fun b hb e => ?_⟩
  · have := h3 a ha k List.mem_cons_self
    rw [e, slt_irr] at this
    cases this
  · have := (List.pairwise_cons.1 h2).1 b hb
    rw [e, slt_irr] at this
    cases this
theorem slt_tot {a b : List Nat} (h : slt a b = false) (hne : a ≠ b) : slt b a = true := by
  cases hb : slt b a with
  | true => rfl
  | false => exact absurd (slt_total h hb) hne
/-! ### a leaf and a map that hold the same -/
structure NMap (ks vs : List (List Nat)) (E : List ME) : Prop where
  form : FormN true ks vs []
  nd : (E.map (·.1)).Nodup
  len : E.length = ks.length
  val : ∀ k, val (vE E) k = val (ks.zip vs) k
section
variable {ks vs A B A' B' : List (List Nat)} {E : List ME} {k v w : List Nat} {i j c : Nat}
theorem form_iff : FormN true ks vs [] ↔ (∀ k ∈ ks, KeyOk k) ∧ Up_ ks ∧ vs.length = ks.length ∧ ∀ v ∈ vs, v.length ≤ 200 := by
  constructor
  · rintro ⟨h1, h2, _⟩
    obtain ⟨_, e, h3⟩ := h2 rfl
    obtain ⟨a, b⟩ := keys_iff.1 h1
    refine ⟨a, b, e, fun v hv => ?_⟩
    obtain ⟨i, hi, e⟩ := mem_txt hv
    rw [← e]
    exact h3 i hi
  · rintro ⟨a, b, e, h3⟩
    exact ⟨keys_iff.2 ⟨a, b⟩, fun _ => ⟨rfl, e, fun i hi => h3 _ (txt_mem hi)⟩, fun h => by cases h⟩
theorem NMap.nil : NMap [] [] [] := ⟨form_iff.2 ⟨fun k hk => (List.not_mem_nil hk).elim, List.Pairwise.nil, rfl, fun v hv => (List.not_mem_nil hv).elim⟩, List.nodup_nil, rfl, fun k => rfl⟩
theorem at_split (hi : i < ks.length) : ks = ks.take i ++ txt ks i :: ks.drop (i + 1) := by
  have e : txt ks i = ks[i] := by simp [txt, hi]
  rw [e, ← List.drop_eq_getElem_cons hi, List.take_append_drop]
theorem zip_mid (h : A.length = A'.length) : (A ++ k :: B).zip (A' ++ v :: B') = A.zip A' ++ (k, v) :: B.zip B' := by
  rw [List.zip_append h]; rfl
theorem zip_fst {p : List Nat × List Nat} (h : p ∈ A.zip B) : p.1 ∈ A := (List.of_mem_zip (a := p.1) (b := p.2) h).1
/-- the node's value of a key that is there -/
theorem node_val (hf : FormN true ks vs []) (hi : i < ks.length) : val (ks.zip vs) (txt ks i) = some (txt vs i) := by
  obtain ⟨_, h2, h3, _⟩ := form_iff.1 hf
  have e1 := at_split hi
  have e2 := at_split (ks := vs) (i := i) (by omega)
  rw [e1] at h2
  have hne := (up_ne h2).1
  have e : ks.zip vs = (ks.take i).zip (vs.take i) ++ (txt ks i, txt vs i) :: (ks.drop (i + 1)).zip (vs.drop (i + 1)) := by
    rw [← zip_mid (by simp; omega), ← e1, ← e2]
  rw [e, val_mid (fun p hp => hne _ (zip_fst hp)), if_pos rfl]
theorem NMap.there (h : NMap ks vs E) (hi : i < ks.length) (hk : txt ks i = k) : ∃ j, lookE E k = some (j, txt vs i) := by
  have h1 := look_val E k
  rw [h.val, ← hk, node_val h.form hi] at h1
  rw [hk] at h1
  cases h2 : lookE E k with
  | none => rw [h2] at h1; cases h1
  | some p =>
    obtain ⟨j, u⟩ := p
    rw [h2] at h1
    have : u = txt vs i := Option.some.inj h1
    subst this
    exact ⟨j, rfl⟩
theorem NMap.away (h : NMap ks vs E) (hk : ∀ j, j < ks.length → ¬ txt ks j = k) : lookE E k = none := by
  have h1 := look_val E k
  rw [h.val, val_none] at h1
  · cases h2 : lookE E k with
    | none => rfl
    | some p => rw [h2] at h1; cases h1
  · intro p hp e
    obtain ⟨i, hi, e2⟩ := mem_txt (zip_fst hp)
    exact hk i hi (by rw [e2, e])
theorem vE_app (A B : List ME) : vE (A ++ B) = vE A ++ vE B := by simp [vE]
theorem vE_cons (e : ME) (B : List ME) : vE (e :: B) = (e.1, e.2.1) :: vE B := rfl
theorem vE_ne {A : List ME} (h : ∀ x ∈ A, x.1 ≠ k) : ∀ p ∈ vE A, p.1 ≠ k := by
  intro p hp
  obtain ⟨e, he, rfl⟩ := List.mem_map.1 hp
  exact h e he
theorem mod_at (A : List ME) (e : ME) (B : List ME) (f : ME → ME) : (A ++ e :: B).modify A.length f = A ++ f e :: B := by
  induction A with
  | nil => rfl
  | cons a A ih => show a :: (A ++ e :: B).modify A.length f = _; rw [ih]; rfl
theorem era_at (A : List ME) (e : ME) (B : List ME) : (A ++ e :: B).eraseIdx A.length = A ++ B := by
  induction A with
  | nil => rfl
  | cons a A ih => show a :: (A ++ e :: B).eraseIdx A.length = _; rw [ih]; rfl
/-- another value at a key that is there -/
theorem NMap.put (h : NMap ks vs E) (hi : i < ks.length) (hk : txt ks i = k) (hv : v.length ≤ 200) (hl : lookE E k = some (j, w)) : NMap ks (vs.set i v) (E.modify j fun e => (k, v, e.2.2)) := by
  obtain ⟨f1, f2, f3, f4⟩ := form_iff.1 h.form
  obtain ⟨A, e, B, rfl, rfl, rfl, _, hA⟩ := look_split hl
  rw [mod_at]
  have e1 := at_split hi
  have e2 := at_split (ks := vs) (i := i) (by omega)
  have hs : vs.set i v = vs.take i ++ v :: vs.drop (i + 1) := by
    conv => lhs; rw [e2]
    rw [List.set_append, if_neg (by simp; omega), show i - (vs.take i).length = 0 by simp; omega]
    rfl
  have f2' := f2
  rw [e1] at f2'
  have hne := (up_ne f2').1
  refine ⟨form_iff.2 ⟨f1, f2, by simpa using f3, fun u hu => ?_⟩, by simpa using h.nd, by simpa using h.len, fun q => ?_⟩
  · rcases List.mem_or_eq_of_mem_set hu with hu | rfl
    · exact f4 u hu
    · exact hv
  · have h1 := h.val q
    have z1 : ks.zip vs = (ks.take i).zip (vs.take i) ++ (txt ks i, txt vs i) :: (ks.drop (i + 1)).zip (vs.drop (i + 1)) := by
      rw [← zip_mid (by simp; omega), ← e1, ← e2]
    have z2 : ks.zip (vs.set i v) = (ks.take i).zip (vs.take i) ++ (txt ks i, v) :: (ks.drop (i + 1)).zip (vs.drop (i + 1)) := by
      rw [hs, ← zip_mid (by simp; omega), ← e1]
    rw [vE_app, vE_cons, val_mid (vE_ne hA), z1, val_mid (fun p hp => hne _ (zip_fst hp)), hk] at h1
    rw [vE_app, vE_cons, val_mid (vE_ne hA), z2, val_mid (fun p hp => hne _ (zip_fst hp)), hk]
    by_cases hq : e.1 = q
    · rw [if_pos hq, if_pos hq]
    · rw [if_neg hq, if_neg hq] at h1
      rw [if_neg hq, if_neg hq]
      exact h1
/-- a key that was not there -/
theorem NMap.ins (h : NMap ks vs E) (hko : KeyOk k) (hv : v.length ≤ 200) (hi : i ≤ ks.length) (hlo : ∀ j, j < i → slt (txt ks j) k = true) (hhi : ∀ j, i ≤ j → j < ks.length → slt (txt ks j) k = false) (hne : ∀ j, j < ks.length → ¬ txt ks j = k) (hl : lookE E k = none) :
    NMap (ks.take i ++ k :: ks.drop i) (vs.take i ++ v :: vs.drop i) (E ++ [(k, v, c)]) := by
  obtain ⟨f1, f2, f3, f4⟩ := form_iff.1 h.form
  have e1 := (List.take_append_drop i ks).symm
  have e2 := (List.take_append_drop i vs).symm
  have ha : ∀ a ∈ ks.take i, slt a k = true := by
    intro a ha
    obtain ⟨q, hq, e⟩ := mem_txt ha
    have hq' : q < i := by simp at hq; omega
    have e3 : txt (ks.take i) q = txt ks q := by unfold txt; rw [List.getD_eq_getElem?_getD, List.getD_eq_getElem?_getD, List.getElem?_take_of_lt hq']
    rw [← e, e3]
    exact hlo q hq'
  have hb : ∀ b ∈ ks.drop i, slt k b = true := by
    intro b hb
    obtain ⟨q, hq, e⟩ := mem_txt hb
    have hq' : i + q < ks.length := by simp at hq; omega
    have e3 : txt (ks.drop i) q = txt ks (i + q) := by unfold txt; rw [List.getD_eq_getElem?_getD, List.getD_eq_getElem?_getD, List.getElem?_drop]
    rw [← e, e3]
    exact slt_tot (hhi _ (by omega) hq') (hne _ hq')
  have f2' := f2
  rw [e1] at f2'
  obtain ⟨p1, p2, p3⟩ := List.pairwise_append.1 f2'
  have hup : Up_ (ks.take i ++ k :: ks.drop i) := List.pairwise_append.2 ⟨p1, List.pairwise_cons.2 ⟨hb, p2⟩, fun a ha' b hb' => by
    rcases List.mem_cons.1 hb' with rfl | hb'
    · exact ha a ha'
    · exact p3 a ha' b hb'⟩
  have hA := look_none hl
  refine ⟨form_iff.2 ⟨fun a ha' => ?_, hup, by simp; omega, fun u hu => ?_⟩, ?_, by simp [h.len]; omega, fun q => ?_⟩
  · rcases List.mem_append.1 ha' with h1 | h1
    · exact f1 a (List.mem_of_mem_take h1)
    · rcases List.mem_cons.1 h1 with rfl | h1
      · exact hko
      · exact f1 a (List.mem_of_mem_drop h1)
  · rcases List.mem_append.1 hu with h1 | h1
    · exact f4 u (List.mem_of_mem_take h1)
    · rcases List.mem_cons.1 h1 with rfl | h1
      · exact hv
      · exact f4 u (List.mem_of_mem_drop h1)
  · rw [List.map_append, List.nodup_append]
    refine ⟨h.nd, by simp, fun a ha' b hb' e => ?_⟩
    obtain ⟨x, hx, rfl⟩ := List.mem_map.1 ha'
    have : b = k := by simpa using hb'
    exact hA x hx (by rw [e, this])
  · have h1 := h.val q
    have z1 : ks.zip vs = (ks.take i).zip (vs.take i) ++ (ks.drop i).zip (vs.drop i) := by
      rw [← List.zip_append (by simp; omega), ← e1, ← e2]
    have hne2 := (up_ne hup).1
    rw [vE_app, show vE [(k, v, c)] = (k, v) :: [] from rfl, val_mid (vE_ne hA), List.append_nil, zip_mid (by simp; omega), val_mid (fun p hp => hne2 _ (zip_fst hp)), h1, z1]
/-- a key taken away -/
theorem NMap.del (h : NMap ks vs E) (hi : i < ks.length) (hk : txt ks i = k) (hl : lookE E k = some (j, w)) : NMap (ks.take i ++ ks.drop (i + 1)) (vs.take i ++ vs.drop (i + 1)) (E.eraseIdx j) := by
  obtain ⟨f1, f2, f3, f4⟩ := form_iff.1 h.form
  obtain ⟨A, e, B, rfl, rfl, rfl, _, hA⟩ := look_split hl
  rw [era_at]
  have e1 := at_split hi
  have e2 := at_split (ks := vs) (i := i) (by omega)
  have f2' := f2
  rw [e1] at f2'
  obtain ⟨p1, p2, p3⟩ := List.pairwise_append.1 f2'
  obtain ⟨n1, n2⟩ := up_ne f2'
  have hnd := h.nd
  rw [List.map_append, List.map_cons, List.nodup_append] at hnd
  obtain ⟨d1, d2, d3⟩ := hnd
  have d2' := List.nodup_cons.1 d2
  have hB : ∀ x ∈ B, x.1 ≠ e.1 := fun x hx e' => d2'.1 (by rw [← e']; exact List.mem_map_of_mem hx)
  refine ⟨form_iff.2 ⟨fun a ha' => ?_, List.pairwise_append.2 ⟨p1, (List.pairwise_cons.1 p2).2, fun a ha b hb => p3 a ha b (List.mem_cons_of_mem _ hb)⟩, by simp; omega, fun u hu => ?_⟩, ?_, ?_, fun q => ?_⟩
  · rcases List.mem_append.1 ha' with h1 | h1
    · exact f1 a (List.mem_of_mem_take h1)
    · exact f1 a (List.mem_of_mem_drop h1)
  · rcases List.mem_append.1 hu with h1 | h1
    · exact f4 u (List.mem_of_mem_take h1)
    · exact f4 u (List.mem_of_mem_drop h1)
  · rw [List.map_append, List.nodup_append]
    exact ⟨d1, d2'.2, fun a ha b hb => d3 a ha b (List.mem_cons_of_mem _ hb)⟩
  · have := h.len
    simp at this ⊢
    omega
  · have h1 := h.val q
    have z1 : ks.zip vs = (ks.take i).zip (vs.take i) ++ (txt ks i, txt vs i) :: (ks.drop (i + 1)).zip (vs.drop (i + 1)) := by
      rw [← zip_mid (by simp; omega), ← e1, ← e2]
    rw [vE_app, vE_cons, val_mid (vE_ne hA), z1, val_mid (fun p hp => n1 _ (zip_fst hp)), hk] at h1
    rw [vE_app, List.zip_append (by simp; omega)]
    by_cases hq : e.1 = q
    · rw [val_none, val_none]
      · intro p hp
        rw [← hq, ← hk]
        rcases List.mem_append.1 hp with h2 | h2
        · exact n1 _ (zip_fst h2)
        · exact n2 _ (zip_fst h2)
      · intro p hp
        rw [← hq]
        rcases List.mem_append.1 hp with h2 | h2
        · exact vE_ne hA p h2
        · exact vE_ne hB p h2
    · rw [if_neg hq, if_neg hq] at h1
      exact h1
end
end
end Go.Jt
