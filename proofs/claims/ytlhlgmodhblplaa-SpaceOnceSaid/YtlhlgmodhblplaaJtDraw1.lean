/-
  What an operation's abstract run hangs on: the temporaries that it looks at; and, by its kind, the heap.
-/
import Derived.Test.YtlhlgmodhblplaaJtRun5
set_option autoImplicit false
set_option linter.all false
namespace Go.Jt
variable [Gl]

/-- the two agree on what an operand looks at -/
def agr (l : List Nat) (env env' : Env) : Prop := ∀ t, t ∈ l → lget env t = lget env' t
theorem agr.left {l l' : List Nat} {env env' : Env} (h : agr (l ++ l') env env') : agr l env env' := fun t ht => h t (List.mem_append_left _ ht)
theorem agr.right {l l' : List Nat} {env env' : Env} (h : agr (l ++ l') env env') : agr l' env env' := fun t ht => h t (List.mem_append_right _ ht)
theorem ev_loc {o : Od} {env env' : Env} (h : agr (odT o) env env') : ev env o = ev env' o := by
  cases o with
  | tmp t => exact h t (by simp [odT])
  | cst v => rfl
  | bad => rfl
theorem evs_loc {l : List Od} {env env' : Env} (h : agr (l.flatMap odT) env env') : l.map (ev env) = l.map (ev env') := by
  apply List.map_congr_left
  intro o ho
  exact ev_loc (fun t ht => h t (List.mem_flatMap.2 ⟨o, ho, ht⟩))
theorem isOd_loc {o : Option Od} {env env' : Env} (h : agr (optT o) env env') (d : Nat) (k : Nat → Bool) : isOd o env d k = isOd o env' d k := by
  cases o with
  | none => rfl
  | some o => simp only [isOd, ev_loc (o := o) h]
theorem cut3_loc {len cap : Nat} {lo hi mx : Option Od} {env env' : Env} (h1 : agr (optT lo) env env') (h2 : agr (optT hi) env env') (h3 : agr (optT mx) env env') (k : Nat → Nat → Nat → Bool) : cut3 env len cap lo hi mx k = cut3 env' len cap lo hi mx k := by
  unfold cut3
  simp only [isOd_loc h1, isOd_loc h2, isOd_loc h3]
theorem fillIn_loc {env env' : Env} (k : Rp AV → Bool) : ∀ (l : List (Nat × Nat × Od)) (z : Rp AV), agr (l.flatMap fun p => odT p.2.2) env env' → fillIn env z l k = fillIn env' z l k
  | [], z, h => rfl
  | p :: l, z, h => by
    have h1 : ev env p.2.2 = ev env' p.2.2 := ev_loc (fun t ht => h t (by simp [ht]))
    have h2 : agr (l.flatMap fun p => odT p.2.2) env env' := fun t ht => h t (by
      rw [List.flatMap_cons]; exact List.mem_append_right _ ht)
    show (match ev env p.2.2 with
      | .agg r => cond (Nat.beq r.len p.2.1) (cond (Nat.ble (p.1 + p.2.1) z.len) (fillIn env (z.put p.1 p.2.1 r) l k) false) false
      | v => cond v.sc (cond (Nat.beq p.2.1 1) (cond (Nat.ble (p.1 + 1) z.len) (fillIn env (z.set p.1 v) l k) false) false) false) =
      (match ev env' p.2.2 with
      | .agg r => cond (Nat.beq r.len p.2.1) (cond (Nat.ble (p.1 + p.2.1) z.len) (fillIn env' (z.put p.1 p.2.1 r) l k) false) false
      | v => cond v.sc (cond (Nat.beq p.2.1 1) (cond (Nat.ble (p.1 + 1) z.len) (fillIn env' (z.set p.1 v) l k) false) false) false)
    simp only [h1, fillIn_loc k l _ h2]
/-- an operation looks at no other temporaries -/
theorem xop_loc {o : XOp} {env env' : Env} (h : agr (readsX o) env env') (H : AH) (k : AV → AH → Bool) : xop o env H k = xop o env' H k := by
  cases o <;> simp only [readsX] at h <;> simp only [xop] <;> (first
    | rfl
    | (rw [ev_loc h]; done)
    | (rw [ev_loc h.left, ev_loc h.right]; done)
    | (rw [ev_loc h.left.left, ev_loc h.left.right, ev_loc h.right]; done)
    | (rw [fillIn_loc _ _ _ h]; done)
    | (rw [evs_loc h.left, evs_loc h.right]; done)
    | (simp only [ev_loc h.left.left, cut3_loc (mx := none) h.left.right h.right (fun _ h => by cases h)]; done)
    | (simp only [ev_loc h.left.left.left, cut3_loc h.left.left.right h.left.right h.right]; done)
    | skip)
  rename_i es x lo hi mx
  rw [ev_loc h.left.left.left]
  split <;> first
    | rfl
    | (simp only [cut3_loc h.left.left.right h.left.right h.right]; done)
    | skip
  cases mx with
  | some m => simp only [cut3_loc h.left.left.right h.left.right h.right]
  | none => simp only [cut3_loc (mx := none) h.left.left.right h.left.right (fun _ h => by cases h)]

/-! ### what an operation tells hangs on what it reads -/
/-- whatever lies there, lies there -/
def AH.sub (H H' : AH) : Prop := ∀ b o, H.get b = some o → H'.get b = some o
theorem AH.sub_refl (H : AH) : H.sub H := fun _ _ h => h
theorem AH.sub_trans {H H' H'' : AH} (h : H.sub H') (h' : H'.sub H'') : H.sub H'' := fun b o e => h' b o (h b o e)
theorem gcell_mk {H : AH} {b : Nat} {a : Rp AV} {s r : Bool} (h : H.get b = some (.cells a s r)) (k : Rp AV → Bool → Bool → Bool) : gcell H b k = k a s r := by simp [gcell, h]
theorem gmap_mk {H : AH} {b : Nat} {es : List (AV × AV × Nat)} {c : Nat} (h : H.get b = some (.mp es c)) (k : List (AV × AV × Nat) → Nat → Bool) : gmap H b k = k es c := by simp [gmap, h]
theorem isOd_det {o : Option Od} {env : Env} {d : Nat} {k : Nat → Bool} (h : isOd o env d k = true) : ∃ n, k n = true ∧ ∀ k' : Nat → Bool, isOd o env d k' = k' n := by
  cases o with
  | none => exact ⟨d, h, fun _ => rfl⟩
  | some o =>
    unfold isOd at h
    simp only at h
    split at h
    · rename_i n e
      rw [fN_eq] at h
      exact ⟨n, h, fun k' => by simp only [isOd, e, fN_eq]⟩
    · cases h
def cutOk (hi mx : Option Od) : Bool := match hi, mx with
  | none, some _ => false
  | _, _ => true
theorem cut3_eq {env : Env} {len cap : Nat} {lo hi mx : Option Od} (hne : cutOk hi mx = true) (k : Nat → Nat → Nat → Bool) :
    cut3 env len cap lo hi mx k = isOd mx env cap fun m => cond (Nat.ble m cap) (isOd hi env len fun h => cond (Nat.ble h m) (isOd lo env 0 fun l => cond (Nat.ble l h) (k l h m) false) false) false := by
  cases hi <;> cases mx <;> first | (cases hne; done) | rfl
theorem cut3_ok {env : Env} {len cap : Nat} {lo hi mx : Option Od} {k : Nat → Nat → Nat → Bool} (h : cut3 env len cap lo hi mx k = true) : cutOk hi mx = true := by
  cases hi <;> cases mx <;> first | rfl | skip
  have h' : isOd (some ‹Od›) env cap (fun m => cond (Nat.ble m cap) false false) = true := h
  obtain ⟨m, h1, _⟩ := isOd_det h'
  cases hb : Nat.ble m cap <;> rw [hb] at h1 <;> cases h1
theorem cut3_det {env : Env} {len cap : Nat} {lo hi mx : Option Od} {k : Nat → Nat → Nat → Bool} (h : cut3 env len cap lo hi mx k = true) : ∃ l r m, k l r m = true ∧ ∀ k' : Nat → Nat → Nat → Bool, cut3 env len cap lo hi mx k' = k' l r m := by
  have hok := cut3_ok h
  rw [cut3_eq hok] at h
  obtain ⟨m, h1, e1⟩ := isOd_det h
  obtain ⟨c1, h2⟩ := cond_true_inv h1
  obtain ⟨r, h4, e4⟩ := isOd_det h2
  obtain ⟨c4, h5⟩ := cond_true_inv h4
  obtain ⟨l, h6, e6⟩ := isOd_det h5
  obtain ⟨c6, h7⟩ := cond_true_inv h6
  refine ⟨l, r, m, h7, fun k' => ?_⟩
  rw [cut3_eq hok, e1, c1]
  simp only [cond_true]
  rw [e4, c4]
  simp only [cond_true]
  rw [e6, c6]
  rfl
theorem srcLen_det {x : AV} {k : Nat → Bool} (h : srcLen x k = true) : ∃ n, k n = true ∧ ∀ k' : Nat → Bool, srcLen x k' = k' n := by
  unfold srcLen at h
  split at h <;> first
    | (cases h; done)
    | exact ⟨_, h, fun _ => rfl⟩
    | (rw [fN_eq] at h; exact ⟨_, h, fun _ => by simp only [srcLen, fN_eq]⟩)
theorem srcCells_det {H : AH} {es n : Nat} {x : AV} {k : Rp AV → Bool} (h : srcCells H es n x k = true) : ∃ r, k r = true ∧ ∀ (H' : AH) (k' : Rp AV → Bool), H.sub H' → srcCells H' es n x k' = k' r := by
  unfold srcCells at h
  split at h
  · obtain ⟨c, h1⟩ := cond_true_inv h
    exact ⟨_, h1, fun _ _ _ => by simp only [srcCells, c, cond_true]⟩
  · obtain ⟨c, h1⟩ := cond_true_inv h
    exact ⟨_, h1, fun _ _ _ => by simp only [srcCells, c, cond_true]⟩
  · obtain ⟨a, st, ro, hb, h1⟩ := gcell_inv h
    obtain ⟨c, h2⟩ := cond_true_inv h1
    exact ⟨_, h2, fun H' k' hs => by simp only [srcCells]; rw [gcell_mk (hs _ _ hb)]; simp only [c, cond_true]⟩
  · obtain ⟨a, st, ro, hb, h1⟩ := gcell_inv h
    obtain ⟨c, h2⟩ := cond_true_inv h1
    exact ⟨_, h2, fun H' k' hs => by simp only [srcCells]; rw [gcell_mk (hs _ _ hb)]; simp only [c, cond_true]⟩
  · obtain ⟨c, h1⟩ := cond_true_inv h
    obtain ⟨c2, h2⟩ := cond_true_inv h1
    exact ⟨_, h2, fun _ _ _ => by simp only [srcCells, c, c2, cond_true]⟩
  · cases h
theorem bytesL_go (x : AV) (l : List AV) (k : List Nat → Bool) : bytesL (x :: l) k = (match x with
      | .int .u8 (.ofNat n) => cond (Nat.ble n 255) (bytesL l fun l => k (n :: l)) false
      | _ => false) := rfl
theorem bytesL_det (l : List AV) : ∀ {k : List Nat → Bool}, bytesL l k = true → ∃ ns, k ns = true ∧ ∀ k' : List Nat → Bool, bytesL l k' = k' ns := by
  induction l with
  | nil => intro k h; exact ⟨[], h, fun _ => rfl⟩
  | cons x l ih =>
    intro k h
    rw [bytesL_go] at h
    split at h
    · rename_i n
      obtain ⟨c, h1⟩ := cond_true_inv h
      obtain ⟨ns, h2, e⟩ := ih h1
      exact ⟨_, h2, fun k' => by rw [bytesL_go]; simp only [c, cond_true]; exact e _⟩
    · cases h
theorem eqL_det : ∀ (a b : List AV) {yes no : Unit → Bool}, eqL a b yes no = true → (yes () = true ∧ ∀ yes' no' : Unit → Bool, eqL a b yes' no' = yes' ()) ∨ (no () = true ∧ ∀ yes' no' : Unit → Bool, eqL a b yes' no' = no' ())
  | [], [], yes, no, h => Or.inl ⟨h, fun _ _ => rfl⟩
  | [], _ :: _, yes, no, h => by cases h
  | x :: a, [], yes, no, h => by cases x <;> cases h
  | x :: a, y :: b, yes, no, h => by
    have ih := @eqL_det a b yes no
    cases x <;> cases y <;> first | (cases h; done) | skip
    · rename_i q m r n
      have h' : cond (Nat.beq (ikN q) (ikN r)) (cond (ieq m n) (eqL a b yes no) (no ())) false = true := h
      have go : ∀ yes no : Unit → Bool, eqL (.int q m :: a) (.int r n :: b) yes no = cond (Nat.beq (ikN q) (ikN r)) (cond (ieq m n) (eqL a b yes no) (no ())) false := fun _ _ => rfl
      obtain ⟨c, h1⟩ := cond_true_inv h'
      cases hb : ieq m n with
      | true =>
        rw [hb] at h1
        rcases ih h1 with ⟨g1, g2⟩ | ⟨g1, g2⟩
        · exact Or.inl ⟨g1, fun y n' => by rw [go, c, hb]; exact g2 y n'⟩
        · exact Or.inr ⟨g1, fun y n' => by rw [go, c, hb]; exact g2 y n'⟩
      | false => rw [hb] at h1; exact Or.inr ⟨h1, fun y n' => by rw [go, c, hb]; rfl⟩
    · rename_i m n
      have h' : cond (cond m n (!n)) (eqL a b yes no) (no ()) = true := h
      have go : ∀ yes no : Unit → Bool, eqL (.bool m :: a) (.bool n :: b) yes no = cond (cond m n (!n)) (eqL a b yes no) (no ()) := fun _ _ => rfl
      cases hb : cond m n (!n) with
      | true =>
        rw [hb] at h'
        rcases ih h' with ⟨g1, g2⟩ | ⟨g1, g2⟩
        · exact Or.inl ⟨g1, fun y n' => by rw [go, hb]; exact g2 y n'⟩
        · exact Or.inr ⟨g1, fun y n' => by rw [go, hb]; exact g2 y n'⟩
      | false => rw [hb] at h'; exact Or.inr ⟨h', fun y n' => by rw [go, hb]; rfl⟩
    · rename_i m n
      have h' : cond (seq m n) (eqL a b yes no) (no ()) = true := h
      have go : ∀ yes no : Unit → Bool, eqL (.str m :: a) (.str n :: b) yes no = cond (seq m n) (eqL a b yes no) (no ()) := fun _ _ => rfl
      cases hb : seq m n with
      | true =>
        rw [hb] at h'
        rcases ih h' with ⟨g1, g2⟩ | ⟨g1, g2⟩
        · exact Or.inl ⟨g1, fun y n' => by rw [go, hb]; exact g2 y n'⟩
        · exact Or.inr ⟨g1, fun y n' => by rw [go, hb]; exact g2 y n'⟩
      | false => rw [hb] at h'; exact Or.inr ⟨h', fun y n' => by rw [go, hb]; rfl⟩
theorem keyEq_det {a b : AV} {yes no : Unit → Bool} (h : keyEq a b yes no = true) : (yes () = true ∧ ∀ yes' no' : Unit → Bool, keyEq a b yes' no' = yes' ()) ∨ (no () = true ∧ ∀ yes' no' : Unit → Bool, keyEq a b yes' no' = no' ()) := by
  unfold keyEq at h
  split at h
  · obtain ⟨c, h1⟩ := cond_true_inv h
    rename_i q m r n
    cases hb : ieq m n with
    | true => rw [hb] at h1; exact Or.inl ⟨h1, fun _ _ => by simp only [keyEq, c, hb, cond_true]⟩
    | false => rw [hb] at h1; exact Or.inr ⟨h1, fun _ _ => by simp only [keyEq, c, hb, cond_true, cond_false]⟩
  · rename_i m n
    cases hb : seq m n with
    | true => rw [hb] at h; exact Or.inl ⟨h, fun _ _ => by simp only [keyEq, hb, cond_true]⟩
    | false => rw [hb] at h; exact Or.inr ⟨h, fun _ _ => by simp only [keyEq, hb, cond_false]⟩
  · obtain ⟨c, h1⟩ := cond_true_inv h
    rcases eqL_det _ _ h1 with ⟨g1, g2⟩ | ⟨g1, g2⟩
    · exact Or.inl ⟨g1, fun y n' => by simp only [keyEq, c, cond_true]; exact g2 y n'⟩
    · exact Or.inr ⟨g1, fun y n' => by simp only [keyEq, c, cond_true]; exact g2 y n'⟩
  · cases h
theorem mfind_det {key : AV} : ∀ (es : List (AV × AV × Nat)) (i : Nat) {yes : Nat → AV → Bool} {no : Unit → Bool}, mfind key es yes no i = true →
    (∃ j v, yes j v = true ∧ ∀ (yes' : Nat → AV → Bool) (no' : Unit → Bool), mfind key es yes' no' i = yes' j v) ∨ (no () = true ∧ ∀ (yes' : Nat → AV → Bool) (no' : Unit → Bool), mfind key es yes' no' i = no' ())
  | [], i, yes, no, h => Or.inr ⟨h, fun _ _ => rfl⟩
  | e :: es, i, yes, no, h => by
    have go : ∀ (yes : Nat → AV → Bool) (no : Unit → Bool), mfind key (e :: es) yes no i = keyEq key e.1 (fun _ => yes i e.2.1) (fun _ => mfind key es yes no (Nat.succ i)) := fun _ _ => rfl
    rw [go] at h
    rcases keyEq_det h with ⟨h1, e1⟩ | ⟨h1, e1⟩
    · exact Or.inl ⟨i, e.2.1, h1, fun y n => by rw [go, e1]⟩
    · rcases mfind_det es (Nat.succ i) h1 with ⟨j, v, h2, e2⟩ | ⟨h2, e2⟩
      · exact Or.inl ⟨j, v, h2, fun y n => by rw [go, e1, e2]⟩
      · exact Or.inr ⟨h2, fun y n => by rw [go, e1, e2]⟩
theorem fillIn_det {env : Env} : ∀ (l : List (Nat × Nat × Od)) (z : Rp AV) {k : Rp AV → Bool}, fillIn env z l k = true → ∃ r, k r = true ∧ ∀ k' : Rp AV → Bool, fillIn env z l k' = k' r
  | [], z, k, h => ⟨z, h, fun _ => rfl⟩
  | p :: l, z, k, h => by
    have go : ∀ k : Rp AV → Bool, fillIn env z (p :: l) k = (match ev env p.2.2 with
      | .agg r => cond (Nat.beq r.len p.2.1) (cond (Nat.ble (p.1 + p.2.1) z.len) (fillIn env (z.put p.1 p.2.1 r) l k) false) false
      | v => cond v.sc (cond (Nat.beq p.2.1 1) (cond (Nat.ble (p.1 + 1) z.len) (fillIn env (z.set p.1 v) l k) false) false) false) := fun _ => rfl
    rw [go] at h
    split at h
    · rename_i r hr
      obtain ⟨c1, h1⟩ := cond_true_inv h
      obtain ⟨c2, h2⟩ := cond_true_inv h1
      obtain ⟨r', h3, e3⟩ := fillIn_det l _ h2
      exact ⟨r', h3, fun k' => by rw [go, hr]; simp only [c1, c2, cond_true]; exact e3 k'⟩
    · rename_i hno
      obtain ⟨c1, h1⟩ := cond_true_inv h
      obtain ⟨c2, h2⟩ := cond_true_inv h1
      obtain ⟨c3, h3⟩ := cond_true_inv h2
      obtain ⟨r', h4, e4⟩ := fillIn_det l _ h3
      refine ⟨r', h4, fun k' => ?_⟩
      rw [go]
      split
      · rename_i r hr; exact absurd hr (hno r)
      · simp only [c1, c2, c3, cond_true]; exact e4 k'
theorem eqS_det : ∀ (sh : List Nat) (a b : List AV) {k : Bool → Bool}, eqS sh a b k = true → ∃ t, k t = true ∧ ∀ k' : Bool → Bool, eqS sh a b k' = k' t
  | [], a, b, k, h => ⟨true, h, fun _ => rfl⟩
  | c :: sh, [], b, k, h => by cases h
  | c :: sh, x :: a, [], k, h => by cases h
  | c :: sh, x :: a, y :: b, k, h => by
    rw [eqS_cons] at h
    simp only at h
    split at h
    · rename_i q m r n
      obtain ⟨c1, h1⟩ := cond_true_inv h
      obtain ⟨c2, h2⟩ := cond_true_inv h1
      cases hb : ieq m n with
      | true =>
        rw [hb] at h2
        obtain ⟨t, h3, e3⟩ := eqS_det sh a b h2
        exact ⟨t, h3, fun k' => by rw [eqS_cons]; simp only [c1, c2, hb, cond_true]; exact e3 k'⟩
      | false => rw [hb] at h2; exact ⟨false, h2, fun k' => by rw [eqS_cons]; simp only [c1, c2, hb, cond_true, cond_false]⟩
    · rename_i m n
      obtain ⟨c1, h2⟩ := cond_true_inv h
      cases hb : seq m n with
      | true =>
        rw [hb] at h2
        obtain ⟨t, h3, e3⟩ := eqS_det sh a b h2
        exact ⟨t, h3, fun k' => by rw [eqS_cons]; simp only [c1, hb, cond_true]; exact e3 k'⟩
      | false => rw [hb] at h2; exact ⟨false, h2, fun k' => by rw [eqS_cons]; simp only [c1, hb, cond_true, cond_false]⟩
    · rename_i m n
      obtain ⟨c1, h2⟩ := cond_true_inv h
      cases hb : cond m n (!n) with
      | true =>
        rw [hb] at h2
        obtain ⟨t, h3, e3⟩ := eqS_det sh a b h2
        exact ⟨t, h3, fun k' => by rw [eqS_cons]; simp only [c1, hb, cond_true]; exact e3 k'⟩
      | false => rw [hb] at h2; exact ⟨false, h2, fun k' => by rw [eqS_cons]; simp only [c1, hb, cond_true, cond_false]⟩
    · cases h
theorem ishift_det {left : Bool} {q : IntKind} {x y : Int} {k : AV → Bool} (h : ishift left q x y k = true) : ∃ v, k v = true ∧ ∀ k' : AV → Bool, ishift left q x y k' = k' v := by
  cases y with
  | negSucc b => cases h
  | ofNat b =>
    have go : ∀ k : AV → Bool, ishift left q x (.ofNat b) k = fN (Nat.min b q.bits) fun n => cond left (fI (wrapF q (x * Int.ofNat (Nat.pow 2 n))) fun z => k (.int q z))
      (Int.rec (fun a => fN (a / Nat.pow 2 n) fun m => k (.int q (Int.ofNat m))) (fun _ => fI (x.fdiv (2 ^ n)) fun z => k (.int q z)) x) := fun _ => rfl
    rw [go, fN_eq] at h
    cases left with
    | true =>
      simp only [cond_true, fI_eq] at h
      exact ⟨_, h, fun k' => by rw [go, fN_eq]; simp only [cond_true, fI_eq]⟩
    | false =>
      simp only [cond_false] at h
      cases x with
      | ofNat a =>
        simp only [fN_eq] at h
        exact ⟨_, h, fun k' => by rw [go, fN_eq]; simp only [cond_false, fN_eq]⟩
      | negSucc a =>
        simp only [fI_eq] at h
        exact ⟨_, h, fun k' => by rw [go, fN_eq]; simp only [cond_false, fI_eq]⟩
theorem ibin_det {op : BinOp} {q : IntKind} {x y : Int} {k : AV → Bool} (h : ibin op q x y k = true) : ∃ v, k v = true ∧ ∀ k' : AV → Bool, ibin op q x y k' = k' v := by
  cases op <;> simp only [ibin, fI_eq] at h <;> first
    | (cases h; done)
    | exact ⟨_, h, fun k' => by simp only [ibin, fI_eq]⟩
    | (obtain ⟨c, h1⟩ := cond_false_inv h; exact ⟨_, h1, fun k' => by simp only [ibin, fI_eq, c, cond_false]⟩)
theorem sbin_det {op : BinOp} {x y : List Nat} {k : AV → Bool} (h : sbin op x y k = true) : ∃ v, k v = true ∧ ∀ k' : AV → Bool, sbin op x y k' = k' v := by
  cases op <;> simp only [sbin] at h <;> first
    | (cases h; done)
    | exact ⟨_, h, fun k' => by simp only [sbin]⟩
    | (obtain ⟨c, h1⟩ := cond_true_inv h; exact ⟨_, h1, fun k' => by simp only [sbin, c, cond_true]⟩)
theorem eqv_det {H : AH} {a b : AV} {k : Bool → Bool} (h : eqv H a b k = true) : ∃ t, k t = true ∧ ∀ (H' : AH) (k' : Bool → Bool), H.sub H' → eqv H' a b k' = k' t := by
  unfold eqv at h
  split at h <;> first
    | (cases h; done)
    | exact ⟨_, h, fun _ _ _ => rfl⟩
    | skip
  rename_i x o y p
  cases hb : Nat.beq x y with
  | true => rw [hb] at h; exact ⟨_, h, fun _ _ _ => by simp only [eqv, hb, cond_true]⟩
  | false =>
    rw [hb] at h
    simp only [cond_false] at h
    obtain ⟨a1, s1, r1, g1, h1⟩ := gcell_inv h
    obtain ⟨c1, h2⟩ := cond_false_inv h1
    obtain ⟨a2, s2, r2, g2, h3⟩ := gcell_inv h2
    obtain ⟨c2, h4⟩ := cond_false_inv h3
    exact ⟨_, h4, fun H' k' hs => by simp only [eqv, hb, cond_false]; rw [gcell_mk (hs _ _ g1), c1]; simp only [cond_false]; rw [gcell_mk (hs _ _ g2), c2]; rfl⟩
theorem bin_int {op : BinOp} (n1 : op ≠ .shl) (n2 : op ≠ .shr) (ek : Nat) (H : AH) (q r : IntKind) (x y : Int) (k : AV → Bool) : bin op ek H (.int q x) (.int r y) k = cond (Nat.beq (ikN q) (ikN r)) (ibin op q x y k) false := by
  cases op <;> first | (exact absurd rfl n1) | (exact absurd rfl n2) | rfl
theorem bin_oth {a b : AV} (n1 : ∀ q x r y, a = .int q x → b = .int r y → False) (n2 : ∀ x y, a = .str x → b = .str y → False) (op : BinOp) (ek : Nat) (H : AH) (k : AV → Bool) : bin op ek H a b k = (match op with
      | .eql => cond (Nat.beq (eqk a b) ek) (eqv H a b fun t => k (.bool t)) false
      | .neq => cond (Nat.beq (eqk a b) ek) (eqv H a b fun t => k (.bool (!t))) false
      | _ => false) := by
  unfold bin
  split
  · exact (n1 _ _ _ _ rfl rfl).elim
  · exact (n2 _ _ rfl rfl).elim
  · rfl
theorem bin_det {op : BinOp} {ek : Nat} {H : AH} {a b : AV} {k : AV → Bool} (h : bin op ek H a b k = true) : ∃ v, k v = true ∧ ∀ (H' : AH) (k' : AV → Bool), H.sub H' → bin op ek H' a b k' = k' v := by
  by_cases hi : ∃ q x r y, a = .int q x ∧ b = .int r y
  · obtain ⟨q, x, r, y, rfl, rfl⟩ := hi
    by_cases n1 : op = .shl
    · subst n1
      obtain ⟨v, h1, e1⟩ := ishift_det (show ishift true q x y k = true from h)
      exact ⟨v, h1, fun _ k' _ => e1 k'⟩
    by_cases n2 : op = .shr
    · subst n2
      obtain ⟨v, h1, e1⟩ := ishift_det (show ishift false q x y k = true from h)
      exact ⟨v, h1, fun _ k' _ => e1 k'⟩
    rw [bin_int n1 n2] at h
    obtain ⟨c, h0⟩ := cond_true_inv h
    obtain ⟨v, h1, e1⟩ := ibin_det h0
    exact ⟨v, h1, fun _ k' _ => by rw [bin_int n1 n2, c]; exact e1 k'⟩
  by_cases hs : ∃ x y, a = .str x ∧ b = .str y
  · obtain ⟨x, y, rfl, rfl⟩ := hs
    obtain ⟨v, h1, e1⟩ := sbin_det (show sbin op x y k = true from h)
    exact ⟨v, h1, fun _ k' _ => e1 k'⟩
  have go := bin_oth (a := a) (b := b) (fun q x r y h1 h2 => hi ⟨q, x, r, y, h1, h2⟩) (fun x y h1 h2 => hs ⟨x, y, h1, h2⟩)
  rw [go] at h
  split at h
  · obtain ⟨c, h0⟩ := cond_true_inv h
    obtain ⟨t, h1, e1⟩ := eqv_det h0
    exact ⟨_, h1, fun H' k' hs => by rw [go]; simp only [c, cond_true]; exact e1 H' _ hs⟩
  · obtain ⟨c, h0⟩ := cond_true_inv h
    obtain ⟨t, h1, e1⟩ := eqv_det h0
    exact ⟨_, h1, fun H' k' hs => by rw [go]; simp only [c, cond_true]; exact e1 H' _ hs⟩
  · cases h
end Go.Jt
