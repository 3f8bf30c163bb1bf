/-
  What an operation's abstract run hangs on: the temporaries that it looks at; and, by its kind, the heap.
-/
import Derived.Test.YtlhlgmodhblplaaJtRunA
import Derived.OrdersIn
set_option autoImplicit false
set_option linter.all false
namespace Go.Jt
variable [Gl]

/-- the two agree on what an operand looks at -/
def agr (l : List Nat) (env env' : Env) : Prop := ∀ t, t ∈ l → lget env t = lget env' t
theorem agr.left {l l' : List Nat} {env env' : Env} (h : agr (l ++ l') env env') : agr l env env' := fun t ht => h t (List.mem_append_left _ ht)
theorem agr.right {l l' : List Nat} {env env' : Env} (h : agr (l ++ l') env env') : agr l' env env' := fun t ht => h t (List.mem_append_right _ ht)
theorem ev_loc {o : Od} {env env' : Env} (h : agr (odT o) env env') : ev env o = ev env' o := by
  cases o with
  | tmp t => exact h t (by simp [odT])
  | cst v => rfl
  | bad => rfl
theorem evs_loc {l : List Od} {env env' : Env} (h : agr (l.flatMap odT) env env') : l.map (ev env) = l.map (ev env') := by
  apply List.map_congr_left
  intro o ho
  exact ev_loc (fun t ht => h t (List.mem_flatMap.2 ⟨o, ho, ht⟩))
theorem isOd_loc {o : Option Od} {env env' : Env} (h : agr (optT o) env env') (d : Nat) (k : Nat → Bool) : isOd o env d k = isOd o env' d k := by
  cases o with
  | none => rfl
  | some o => simp only [isOd, ev_loc (o := o) h]
theorem cut3_loc {len cap : Nat} {lo hi mx : Option Od} {env env' : Env} (h1 : agr (optT lo) env env') (h2 : agr (optT hi) env env') (h3 : agr (optT mx) env env') (k : Nat → Nat → Nat → Bool) : cut3 env len cap lo hi mx k = cut3 env' len cap lo hi mx k := by
  unfold cut3
  simp only [isOd_loc h1, isOd_loc h2, isOd_loc h3]
theorem fillIn_loc {env env' : Env} (k : Rp AV → Bool) : ∀ (l : List (Nat × Nat × Od)) (z : Rp AV), agr (l.flatMap fun p => odT p.2.2) env env' → fillIn env z l k = fillIn env' z l k
  | [], z, h => rfl
  | p :: l, z, h => by
    have h1 : ev env p.2.2 = ev env' p.2.2 := ev_loc (fun t ht => h t (by simp [ht]))
    have h2 : agr (l.flatMap fun p => odT p.2.2) env env' := fun t ht => h t (by
      rw [List.flatMap_cons]; exact List.mem_append_right _ ht)
    show (match ev env p.2.2 with
      | .agg r => cond (Nat.beq r.len p.2.1) (cond (Nat.ble (p.1 + p.2.1) z.len) (fillIn env (z.put p.1 p.2.1 r) l k) false) false
      | v => cond v.sc (cond (Nat.beq p.2.1 1) (cond (Nat.ble (p.1 + 1) z.len) (fillIn env (z.set p.1 v) l k) false) false) false) =
      (match ev env' p.2.2 with
      | .agg r => cond (Nat.beq r.len p.2.1) (cond (Nat.ble (p.1 + p.2.1) z.len) (fillIn env' (z.put p.1 p.2.1 r) l k) false) false
      | v => cond v.sc (cond (Nat.beq p.2.1 1) (cond (Nat.ble (p.1 + 1) z.len) (fillIn env' (z.set p.1 v) l k) false) false) false)
    simp only [h1, fillIn_loc k l _ h2]
/-- an operation looks at no other temporaries -/
theorem xop_loc {o : XOp} {env env' : Env} (h : agr (readsX o) env env') (H : AH) (k : AV → AH → Bool) : xop o env H k = xop o env' H k := by
  cases o <;> simp only [readsX] at h <;> simp only [xop] <;> (first
    | rfl
    | (rw [ev_loc h]; done)
    | (rw [ev_loc h.left, ev_loc h.right]; done)
    | (rw [ev_loc h.left.left, ev_loc h.left.right, ev_loc h.right]; done)
    | (rw [fillIn_loc _ _ _ h]; done)
    | (rw [evs_loc h.left, evs_loc h.right]; done)
    | (simp only [ev_loc h.left.left, cut3_loc (mx := none) h.left.right h.right (fun _ h => by cases h)]; done)
    | (simp only [ev_loc h.left.left.left, cut3_loc h.left.left.right h.left.right h.right]; done)
    | skip)
  rename_i es x lo hi mx
  rw [ev_loc h.left.left.left]
  split <;> first
    | rfl
    | (simp only [cut3_loc h.left.left.right h.left.right h.right]; done)
    | skip
  cases mx with
  | some m => simp only [cut3_loc h.left.left.right h.left.right h.right]
  | none => simp only [cut3_loc (mx := none) h.left.left.right h.left.right (fun _ h => by cases h)]

/-! ### what an operation tells hangs on what it reads -/
/-- whatever lies there, lies there -/
def AH.sub (H H' : AH) : Prop := ∀ b o, H.get b = some o → H'.get b = some o
theorem AH.sub_refl (H : AH) : H.sub H := fun _ _ h => h
theorem AH.sub_trans {H H' H'' : AH} (h : H.sub H') (h' : H'.sub H'') : H.sub H'' := fun b o e => h' b o (h b o e)
theorem gcell_mk {H : AH} {b : Nat} {a : Rp AV} {s r : Bool} (h : H.get b = some (.cells a s r)) (k : Rp AV → Bool → Bool → Bool) : gcell H b k = k a s r := by simp [gcell, h]
theorem gmap_mk {H : AH} {b : Nat} {es : List (AV × AV × Nat)} {c : Nat} (h : H.get b = some (.mp es c)) (k : List (AV × AV × Nat) → Nat → Bool) : gmap H b k = k es c := by simp [gmap, h]
theorem isOd_det {o : Option Od} {env : Env} {d : Nat} {k : Nat → Bool} (h : isOd o env d k = true) : ∃ n, k n = true ∧ ∀ k' : Nat → Bool, isOd o env d k' = k' n := by
  cases o with
  | none => exact ⟨d, h, fun _ => rfl⟩
  | some o =>
    unfold isOd at h
    simp only at h
    split at h
    · rename_i n e
      rw [fN_eq] at h
      exact ⟨n, h, fun k' => by simp only [isOd, e, fN_eq]⟩
    · cases h
def cutOk (hi mx : Option Od) : Bool := match hi, mx with
  | none, some _ => false
  | _, _ => true
theorem cut3_eq {env : Env} {len cap : Nat} {lo hi mx : Option Od} (hne : cutOk hi mx = true) (k : Nat → Nat → Nat → Bool) :
    cut3 env len cap lo hi mx k = isOd mx env cap fun m => cond (Nat.ble m cap) (isOd hi env len fun h => cond (Nat.ble h m) (isOd lo env 0 fun l => cond (Nat.ble l h) (k l h m) false) false) false := by
  cases hi <;> cases mx <;> first | (cases hne; done) | rfl
theorem cut3_ok {env : Env} {len cap : Nat} {lo hi mx : Option Od} {k : Nat → Nat → Nat → Bool} (h : cut3 env len cap lo hi mx k = true) : cutOk hi mx = true := by
  cases hi <;> cases mx <;> first | rfl | skip
  have h' : isOd (some ‹Od›) env cap (fun m => cond (Nat.ble m cap) false false) = true := h
  obtain ⟨m, h1, _⟩ := isOd_det h'
  cases hb : Nat.ble m cap <;> rw [hb] at h1 <;> cases h1
theorem cut3_det {env : Env} {len cap : Nat} {lo hi mx : Option Od} {k : Nat → Nat → Nat → Bool} (h : cut3 env len cap lo hi mx k = true) : ∃ l r m, k l r m = true ∧ ∀ k' : Nat → Nat → Nat → Bool, cut3 env len cap lo hi mx k' = k' l r m := by
  have hok := cut3_ok h
  rw [cut3_eq hok] at h
  obtain ⟨m, h1, e1⟩ := isOd_det h
  obtain ⟨c1, h2⟩ := cond_true_inv h1
  obtain ⟨r, h4, e4⟩ := isOd_det h2
  obtain ⟨c4, h5⟩ := cond_true_inv h4
  obtain ⟨l, h6, e6⟩ := isOd_det h5
  obtain ⟨c6, h7⟩ := cond_true_inv h6
  refine ⟨l, r, m, h7, fun k' => ?_⟩
  rw [cut3_eq hok, e1, c1]
  simp only [cond_true]
  rw [e4, c4]
  simp only [cond_true]
  rw [e6, c6]
  rfl
theorem srcLen_det {x : AV} {k : Nat → Bool} (h : srcLen x k = true) : ∃ n, k n = true ∧ ∀ k' : Nat → Bool, srcLen x k' = k' n := by
  unfold srcLen at h
  split at h <;> first
    | (cases h; done)
    | exact ⟨_, h, fun _ => rfl⟩
    | (rw [fN_eq] at h; exact ⟨_, h, fun _ => by simp only [srcLen, fN_eq]⟩)
theorem srcCells_det {H : AH} {es n : Nat} {x : AV} {k : Rp AV → Bool} (h : srcCells H es n x k = true) : ∃ r, k r = true ∧ ∀ (H' : AH) (k' : Rp AV → Bool), H.sub H' → srcCells H' es n x k' = k' r := by
  unfold srcCells at h
  split at h
  · obtain ⟨c, h1⟩ := cond_true_inv h
    exact ⟨_, h1, fun _ _ _ => by simp only [srcCells, c, cond_true]⟩
  · obtain ⟨c, h1⟩ := cond_true_inv h
    exact ⟨_, h1, fun _ _ _ => by simp only [srcCells, c, cond_true]⟩
  · obtain ⟨a, st, ro, hb, h1⟩ := gcell_inv h
    obtain ⟨c, h2⟩ := cond_true_inv h1
    exact ⟨_, h2, fun H' k' hs => by simp only [srcCells]; rw [gcell_mk (hs _ _ hb)]; simp only [c, cond_true]⟩
  · obtain ⟨a, st, ro, hb, h1⟩ := gcell_inv h
    obtain ⟨c, h2⟩ := cond_true_inv h1
    exact ⟨_, h2, fun H' k' hs => by simp only [srcCells]; rw [gcell_mk (hs _ _ hb)]; simp only [c, cond_true]⟩
  · obtain ⟨c, h1⟩ := cond_true_inv h
    obtain ⟨c2, h2⟩ := cond_true_inv h1
    exact ⟨_, h2, fun _ _ _ => by simp only [srcCells, c, c2, cond_true]⟩
  · cases h
theorem bytesL_go (x : AV) (l : List AV) (k : List Nat → Bool) : bytesL (x :: l) k = (match x with
      | .int .u8 (.ofNat n) => cond (Nat.ble n 255) (bytesL l fun l => k (n :: l)) false
      | _ => false) := rfl
theorem bytesL_det (l : List AV) : ∀ {k : List Nat → Bool}, bytesL l k = true → ∃ ns, k ns = true ∧ ∀ k' : List Nat → Bool, bytesL l k' = k' ns := by
  induction l with
  | nil => intro k h; exact ⟨[], h, fun _ => rfl⟩
  | cons x l ih =>
    intro k h
    rw [bytesL_go] at h
    split at h
    · rename_i n
      obtain ⟨c, h1⟩ := cond_true_inv h
      obtain ⟨ns, h2, e⟩ := ih h1
      exact ⟨_, h2, fun k' => by rw [bytesL_go]; simp only [c, cond_true]; exact e _⟩
    · cases h
theorem eqL_det : ∀ (a b : List AV) {yes no : Unit → Bool}, eqL a b yes no = true → (yes () = true ∧ ∀ yes' no' : Unit → Bool, eqL a b yes' no' = yes' ()) ∨ (no () = true ∧ ∀ yes' no' : Unit → Bool, eqL a b yes' no' = no' ())
  | [], [], yes, no, h => Or.inl ⟨h, fun _ _ => rfl⟩
  | [], _ :: _, yes, no, h => by cases h
  | x :: a, [], yes, no, h => by cases x <;> cases h
  | x :: a, y :: b, yes, no, h => by
    have ih := @eqL_det a b yes no
    cases x <;> cases y <;> first | (cases h; done) | skip
    · rename_i q m r n
      have h' : cond (Nat.beq (ikN q) (ikN r)) (cond (ieq m n) (eqL a b yes no) (no ())) false = true := h
      have go : ∀ yes no : Unit → Bool, eqL (.int q m :: a) (.int r n :: b) yes no = cond (Nat.beq (ikN q) (ikN r)) (cond (ieq m n) (eqL a b yes no) (no ())) false := fun _ _ => rfl
      obtain ⟨c, h1⟩ := cond_true_inv h'
      cases hb : ieq m n with
      | true =>
        rw [hb] at h1
        rcases ih h1 with ⟨g1, g2⟩ | ⟨g1, g2⟩
        · exact Or.inl ⟨g1, fun y n' => by rw [go, c, hb]; exact g2 y n'⟩
        · exact Or.inr ⟨g1, fun y n' => by rw [go, c, hb]; exact g2 y n'⟩
      | false => rw [hb] at h1; exact Or.inr ⟨h1, fun y n' => by rw [go, c, hb]; rfl⟩
    · rename_i m n
      have h' : cond (cond m n (!n)) (eqL a b yes no) (no ()) = true := h
      have go : ∀ yes no : Unit → Bool, eqL (.bool m :: a) (.bool n :: b) yes no = cond (cond m n (!n)) (eqL a b yes no) (no ()) := fun _ _ => rfl
      cases hb : cond m n (!n) with
      | true =>
        rw [hb] at h'
        rcases ih h' with ⟨g1, g2⟩ | ⟨g1, g2⟩
        · exact Or.inl ⟨g1, fun y n' => by rw [go, hb]; exact g2 y n'⟩
        · exact Or.inr ⟨g1, fun y n' => by rw [go, hb]; exact g2 y n'⟩
      | false => rw [hb] at h'; exact Or.inr ⟨h', fun y n' => by rw [go, hb]; rfl⟩
    · rename_i m n
      have h' : cond (seq m n) (eqL a b yes no) (no ()) = true := h
      have go : ∀ yes no : Unit → Bool, eqL (.str m :: a) (.str n :: b) yes no = cond (seq m n) (eqL a b yes no) (no ()) := fun _ _ => rfl
      cases hb : seq m n with
      | true =>
        rw [hb] at h'
        rcases ih h' with ⟨g1, g2⟩ | ⟨g1, g2⟩
        · exact Or.inl ⟨g1, fun y n' => by rw [go, hb]; exact g2 y n'⟩
        · exact Or.inr ⟨g1, fun y n' => by rw [go, hb]; exact g2 y n'⟩
      | false => rw [hb] at h'; exact Or.inr ⟨h', fun y n' => by rw [go, hb]; rfl⟩
theorem keyEq_det {a b : AV} {yes no : Unit → Bool} (h : keyEq a b yes no = true) : (yes () = true ∧ ∀ yes' no' : Unit → Bool, keyEq a b yes' no' = yes' ()) ∨ (no () = true ∧ ∀ yes' no' : Unit → Bool, keyEq a b yes' no' = no' ()) := by
  unfold keyEq at h
  split at h
  · obtain ⟨c, h1⟩ := cond_true_inv h
    rename_i q m r n
    cases hb : ieq m n with
    | true => rw [hb] at h1; exact Or.inl ⟨h1, fun _ _ => by simp only [keyEq, c, hb, cond_true]⟩
    | false => rw [hb] at h1; exact Or.inr ⟨h1, fun _ _ => by simp only [keyEq, c, hb, cond_true, cond_false]⟩
  · rename_i m n
    cases hb : seq m n with
    | true => rw [hb] at h; exact Or.inl ⟨h, fun _ _ => by simp only [keyEq, hb, cond_true]⟩
    | false => rw [hb] at h; exact Or.inr ⟨h, fun _ _ => by simp only [keyEq, hb, cond_false]⟩
  · obtain ⟨c, h1⟩ := cond_true_inv h
    rcases eqL_det _ _ h1 with ⟨g1, g2⟩ | ⟨g1, g2⟩
    · exact Or.inl ⟨g1, fun y n' => by simp only [keyEq, c, cond_true]; exact g2 y n'⟩
    · exact Or.inr ⟨g1, fun y n' => by simp only [keyEq, c, cond_true]; exact g2 y n'⟩
  · cases h
theorem mfind_det {key : AV} : ∀ (es : List (AV × AV × Nat)) (i : Nat) {yes : Nat → AV → Bool} {no : Unit → Bool}, mfind key es yes no i = true →
    (∃ j v, yes j v = true ∧ ∀ (yes' : Nat → AV → Bool) (no' : Unit → Bool), mfind key es yes' no' i = yes' j v) ∨ (no () = true ∧ ∀ (yes' : Nat → AV → Bool) (no' : Unit → Bool), mfind key es yes' no' i = no' ())
  | [], i, yes, no, h => Or.inr ⟨h, fun _ _ => rfl⟩
  | e :: es, i, yes, no, h => by
    have go : ∀ (yes : Nat → AV → Bool) (no : Unit → Bool), mfind key (e :: es) yes no i = keyEq key e.1 (fun _ => yes i e.2.1) (fun _ => mfind key es yes no (Nat.succ i)) := fun _ _ => rfl
    rw [go] at h
    rcases keyEq_det h with ⟨h1, e1⟩ | ⟨h1, e1⟩
    · exact Or.inl ⟨i, e.2.1, h1, fun y n => by rw [go, e1]⟩
    · rcases mfind_det es (Nat.succ i) h1 with ⟨j, v, h2, e2⟩ | ⟨h2, e2⟩
      · exact Or.inl ⟨j, v, h2, fun y n => by rw [go, e1, e2]⟩
      · exact Or.inr ⟨h2, fun y n => by rw [go, e1, e2]⟩
theorem fillIn_det {env : Env} : ∀ (l : List (Nat × Nat × Od)) (z : Rp AV) {k : Rp AV → Bool}, fillIn env z l k = true → ∃ r, k r = true ∧ ∀ k' : Rp AV → Bool, fillIn env z l k' = k' r
  | [], z, k, h => ⟨z, h, fun _ => rfl⟩
  | p :: l, z, k, h => by
    have go : ∀ k : Rp AV → Bool, fillIn env z (p :: l) k = (match ev env p.2.2 with
      | .agg r => cond (Nat.beq r.len p.2.1) (cond (Nat.ble (p.1 + p.2.1) z.len) (fillIn env (z.put p.1 p.2.1 r) l k) false) false
      | v => cond v.sc (cond (Nat.beq p.2.1 1) (cond (Nat.ble (p.1 + 1) z.len) (fillIn env (z.set p.1 v) l k) false) false) false) := fun _ => rfl
    rw [go] at h
    split at h
    · rename_i r hr
      obtain ⟨c1, h1⟩ := cond_true_inv h
      obtain ⟨c2, h2⟩ := cond_true_inv h1
      obtain ⟨r', h3, e3⟩ := fillIn_det l _ h2
      exact ⟨r', h3, fun k' => by rw [go, hr]; simp only [c1, c2, cond_true]; exact e3 k'⟩
    · rename_i hno
      obtain ⟨c1, h1⟩ := cond_true_inv h
      obtain ⟨c2, h2⟩ := cond_true_inv h1
      obtain ⟨c3, h3⟩ := cond_true_inv h2
      obtain ⟨r', h4, e4⟩ := fillIn_det l _ h3
      refine ⟨r', h4, fun k' => ?_⟩
      rw [go]
      split
      · rename_i r hr; exact absurd hr (hno r)
      · simp only [c1, c2, c3, cond_true]; exact e4 k'
theorem eqS_det : ∀ (sh : List Nat) (a b : List AV) {k : Bool → Bool}, eqS sh a b k = true → ∃ t, k t = true ∧ ∀ k' : Bool → Bool, eqS sh a b k' = k' t
  | [], a, b, k, h => ⟨true, h, fun _ => rfl⟩
  | c :: sh, [], b, k, h => by cases h
  | c :: sh, x :: a, [], k, h => by cases h
  | c :: sh, x :: a, y :: b, k, h => by
    rw [eqS_cons] at h
    simp only at h
    split at h
    · rename_i q m r n
      obtain ⟨c1, h1⟩ := cond_true_inv h
      obtain ⟨c2, h2⟩ := cond_true_inv h1
      cases hb : ieq m n with
      | true =>
        rw [hb] at h2
        obtain ⟨t, h3, e3⟩ := eqS_det sh a b h2
        exact ⟨t, h3, fun k' => by rw [eqS_cons]; simp only [c1, c2, hb, cond_true]; exact e3 k'⟩
      | false => rw [hb] at h2; exact ⟨false, h2, fun k' => by rw [eqS_cons]; simp only [c1, c2, hb, cond_true, cond_false]⟩
    · rename_i m n
      obtain ⟨c1, h2⟩ := cond_true_inv h
      cases hb : seq m n with
      | true =>
        rw [hb] at h2
        obtain ⟨t, h3, e3⟩ := eqS_det sh a b h2
        exact ⟨t, h3, fun k' => by rw [eqS_cons]; simp only [c1, hb, cond_true]; exact e3 k'⟩
      | false => rw [hb] at h2; exact ⟨false, h2, fun k' => by rw [eqS_cons]; simp only [c1, hb, cond_true, cond_false]⟩
    · rename_i m n
      obtain ⟨c1, h2⟩ := cond_true_inv h
      cases hb : cond m n (!n) with
      | true =>
        rw [hb] at h2
        obtain ⟨t, h3, e3⟩ := eqS_det sh a b h2
        exact ⟨t, h3, fun k' => by rw [eqS_cons]; simp only [c1, hb, cond_true]; exact e3 k'⟩
      | false => rw [hb] at h2; exact ⟨false, h2, fun k' => by rw [eqS_cons]; simp only [c1, hb, cond_true, cond_false]⟩
    · cases h
theorem ishift_det {left : Bool} {q : IntKind} {x y : Int} {k : AV → Bool} (h : ishift left q x y k = true) : ∃ v, k v = true ∧ ∀ k' : AV → Bool, ishift left q x y k' = k' v := by
  cases y with
  | negSucc b => cases h
  | ofNat b =>
    have go : ∀ k : AV → Bool, ishift left q x (.ofNat b) k = fN (Nat.min b q.bits) fun n => cond left (fI (wrapF q (x * Int.ofNat (Nat.pow 2 n))) fun z => k (.int q z))
      (Int.rec (fun a => fN (a / Nat.pow 2 n) fun m => k (.int q (Int.ofNat m))) (fun _ => fI (x.fdiv (2 ^ n)) fun z => k (.int q z)) x) := fun _ => rfl
    rw [go, fN_eq] at h
    cases left with
    | true =>
      simp only [cond_true, fI_eq] at h
      exact ⟨_, h, fun k' => by rw [go, fN_eq]; simp only [cond_true, fI_eq]⟩
    | false =>
      simp only [cond_false] at h
      cases x with
      | ofNat a =>
        simp only [fN_eq] at h
        exact ⟨_, h, fun k' => by rw [go, fN_eq]; simp only [cond_false, fN_eq]⟩
      | negSucc a =>
        simp only [fI_eq] at h
        exact ⟨_, h, fun k' => by rw [go, fN_eq]; simp only [cond_false, fI_eq]⟩
theorem ibin_det {op : BinOp} {q : IntKind} {x y : Int} {k : AV → Bool} (h : ibin op q x y k = true) : ∃ v, k v = true ∧ ∀ k' : AV → Bool, ibin op q x y k' = k' v := by
  cases op <;> simp only [ibin, fI_eq] at h <;> first
    | (cases h; done)
    | exact ⟨_, h, fun k' => by simp only [ibin, fI_eq]⟩
    | (obtain ⟨c, h1⟩ := cond_false_inv h; exact ⟨_, h1, fun k' => by simp only [ibin, fI_eq, c, cond_false]⟩)
theorem sbin_det {op : BinOp} {x y : List Nat} {k : AV → Bool} (h : sbin op x y k = true) : ∃ v, k v = true ∧ ∀ k' : AV → Bool, sbin op x y k' = k' v := by
  cases op <;> simp only [sbin] at h <;> first
    | (cases h; done)
    | exact ⟨_, h, fun k' => by simp only [sbin]⟩
    | (obtain ⟨c, h1⟩ := cond_true_inv h; exact ⟨_, h1, fun k' => by simp only [sbin, c, cond_true]⟩)
theorem eqv_det {H : AH} {a b : AV} {k : Bool → Bool} (h : eqv H a b k = true) : ∃ t, k t = true ∧ ∀ (H' : AH) (k' : Bool → Bool), H.sub H' → eqv H' a b k' = k' t := by
  unfold eqv at h
  split at h <;> first
    | (cases h; done)
    | exact ⟨_, h, fun _ _ _ => rfl⟩
    | skip
  rename_i x o y p
  cases hb : Nat.beq x y with
  | true => rw [hb] at h; exact ⟨_, h, fun _ _ _ => by simp only [eqv, hb, cond_true]⟩
  | false =>
    rw [hb] at h
    simp only [cond_false] at h
    obtain ⟨a1, s1, r1, g1, h1⟩ := gcell_inv h
    obtain ⟨c1, h2⟩ := cond_false_inv h1
    obtain ⟨a2, s2, r2, g2, h3⟩ := gcell_inv h2
    obtain ⟨c2, h4⟩ := cond_false_inv h3
    exact ⟨_, h4, fun H' k' hs => by simp only [eqv, hb, cond_false]; rw [gcell_mk (hs _ _ g1), c1]; simp only [cond_false]; rw [gcell_mk (hs _ _ g2), c2]; rfl⟩
theorem bin_int {op : BinOp} (n1 : op ≠ .shl) (n2 : op ≠ .shr) (ek : Nat) (H : AH) (q r : IntKind) (x y : Int) (k : AV → Bool) : bin op ek H (.int q x) (.int r y) k = cond (Nat.beq (ikN q) (ikN r)) (ibin op q x y k) false := by
  cases op <;> first | (exact absurd rfl n1) | (exact absurd rfl n2) | rfl
theorem bin_oth {a b : AV} (n1 : ∀ q x r y, a = .int q x → b = .int r y → False) (n2 : ∀ x y, a = .str x → b = .str y → False) (op : BinOp) (ek : Nat) (H : AH) (k : AV → Bool) : bin op ek H a b k = (match op with
      | .eql => cond (Nat.beq (eqk a b) ek) (eqv H a b fun t => k (.bool t)) false
      | .neq => cond (Nat.beq (eqk a b) ek) (eqv H a b fun t => k (.bool (!t))) false
      | _ => false) := by
  unfold bin
  split
  · exact (n1 _ _ _ _ rfl rfl).elim
  · exact (n2 _ _ rfl rfl).elim
  · rfl
theorem bin_det {op : BinOp} {ek : Nat} {H : AH} {a b : AV} {k : AV → Bool} (h : bin op ek H a b k = true) : ∃ v, k v = true ∧ ∀ (H' : AH) (k' : AV → Bool), H.sub H' → bin op ek H' a b k' = k' v := by
  by_cases hi : ∃ q x r y, a = .int q x ∧ b = .int r y
  · obtain ⟨q, x, r, y, rfl, rfl⟩ := hi
    by_cases n1 : op = .shl
    · subst n1
      obtain ⟨v, h1, e1⟩ := ishift_det (show ishift true q x y k = true from h)
      exact ⟨v, h1, fun _ k' _ => e1 k'⟩
    by_cases n2 : op = .shr
    · subst n2
      obtain ⟨v, h1, e1⟩ := ishift_det (show ishift false q x y k = true from h)
      exact ⟨v, h1, fun _ k' _ => e1 k'⟩
    rw [bin_int n1 n2] at h
    obtain ⟨c, h0⟩ := cond_true_inv h
    obtain ⟨v, h1, e1⟩ := ibin_det h0
    exact ⟨v, h1, fun _ k' _ => by rw [bin_int n1 n2, c]; exact e1 k'⟩
  by_cases hs : ∃ x y, a = .str x ∧ b = .str y
  · obtain ⟨x, y, rfl, rfl⟩ := hs
    obtain ⟨v, h1, e1⟩ := sbin_det (show sbin op x y k = true from h)
    exact ⟨v, h1, fun _ k' _ => e1 k'⟩
  have go := bin_oth (a := a) (b := b) (fun q x r y h1 h2 => hi ⟨q, x, r, y, h1, h2⟩) (fun x y h1 h2 => hs ⟨x, y, h1, h2⟩)
  rw [go] at h
  split at h
  · obtain ⟨c, h0⟩ := cond_true_inv h
    obtain ⟨t, h1, e1⟩ := eqv_det h0
    exact ⟨_, h1, fun H' k' hs => by rw [go]; simp only [c, cond_true]; exact e1 H' _ hs⟩
  · obtain ⟨c, h0⟩ := cond_true_inv h
    obtain ⟨t, h1, e1⟩ := eqv_det h0
    exact ⟨_, h1, fun H' k' hs => by rw [go]; simp only [c, cond_true]; exact e1 H' _ hs⟩
  · cases h
end Go.Jt
set_option autoImplicit false
set_option linter.all false
namespace Go.Jt
open Go.RowKit (Below)
variable [Gl]

theorem xop_read {o : XOp} {env : Env} {H : AH} {k : AV → AH → Bool} (hk : kindX o ≤ 1) (h : xop o env H k = true) :
    ∃ v, k v H = true ∧ ∀ (H' : AH) (k' : AV → AH → Bool), (kindX o = 0 ∨ H.sub H') → xop o env H' k' = k' v H' := by
  cases o <;> first | (exfalso; revert hk; simp [kindX]; done) | skip
  case mv x => exact ⟨_, h, fun _ _ _ => rfl⟩
  case pick c x y =>
    simp only [xop] at h
    split at h
    · rename_i t e; exact ⟨_, h, fun _ _ _ => by simp only [xop, e]⟩
    · cases h
  case build z ps =>
    simp only [xop] at h
    obtain ⟨r, h1, e⟩ := fillIn_det ps z h
    exact ⟨_, h1, fun _ _ _ => by simp only [xop, e]⟩
  case nck x =>
    simp only [xop] at h
    split at h <;> first
      | (cases h; done)
      | (rename_i e; exact ⟨_, h, fun _ _ _ => by simp only [xop, e]⟩)
  case fla off x =>
    simp only [xop] at h
    split at h
    · rename_i b o e; rw [fN_eq] at h; exact ⟨_, h, fun _ _ _ => by simp only [xop, e, fN_eq]⟩
    · cases h
  case ixa len es x i =>
    simp only [xop] at h
    split at h
    · rename_i b o q n e1 e2
      obtain ⟨c, h1⟩ := cond_false_inv h
      rw [fN_eq] at h1
      exact ⟨_, h1, fun _ _ _ => by simp only [xop, e1, e2, c, cond_false, fN_eq]⟩
    · cases h
  case ixs es x i =>
    simp only [xop] at h
    split at h
    · rename_i b o len cap q n e1 e2
      obtain ⟨c, h1⟩ := cond_false_inv h
      rw [fN_eq] at h1
      exact ⟨_, h1, fun _ _ _ => by simp only [xop, e1, e2, c, cond_false, fN_eq]⟩
    · rename_i b o len es' q n e1 e2
      obtain ⟨c, h1⟩ := cond_false_inv h
      rw [fN_eq] at h1
      exact ⟨_, h1, fun _ _ _ => by simp only [xop, e1, e2, c, cond_false, fN_eq]⟩
    · cases h
  case iag len es ag x i =>
    simp only [xop] at h
    split at h
    · rename_i r q n e1 e2
      obtain ⟨c, h1⟩ := cond_false_inv h
      cases ag with
      | true =>
        obtain ⟨c2, h2⟩ := cond_true_inv (show cond (Nat.ble (n * es + es) r.len) (k (.agg (r.sub (n * es) es)) H) false = true from h1)
        exact ⟨_, h2, fun _ _ _ => by simp only [xop, e1, e2, c, cond_false, cond_true, c2]⟩
      | false =>
        simp only [cond_false] at h1
        split at h1
        · rename_i v ev'; exact ⟨_, h1, fun _ _ _ => by simp only [xop, e1, e2, c, cond_false, ev']⟩
        · cases h1
    · cases h
  case ist x i =>
    simp only [xop] at h
    split at h
    · rename_i s q n e1 e2
      split at h
      · rename_i c ec; rw [fN_eq] at h; exact ⟨_, h, fun _ _ _ => by simp only [xop, e1, e2, ec, fN_eq]⟩
      · cases h
    · cases h
  case fld off n ag x =>
    simp only [xop] at h
    split at h
    · rename_i r e1
      cases ag with
      | true =>
        obtain ⟨c2, h2⟩ := cond_true_inv (show cond (Nat.ble (off + n) r.len) (k (.agg (r.sub off n)) H) false = true from h)
        exact ⟨_, h2, fun _ _ _ => by simp only [xop, e1, cond_true, c2]⟩
      | false =>
        simp only [cond_false] at h
        split at h
        · rename_i v ev'; exact ⟨_, h, fun _ _ _ => by simp only [xop, e1, cond_false, ev']⟩
        · cases h
    · cases h
  case bin op ek x y =>
    simp only [xop] at h
    obtain ⟨v, h1, e⟩ := bin_det h
    exact ⟨v, h1, fun H' k' hs => by
      rcases hs with hs | hs
      · cases hs
      · exact e H' _ hs⟩
  case eqa neg sh x y =>
    simp only [xop] at h
    split at h
    · rename_i a b e1 e2
      obtain ⟨c1, h1⟩ := cond_true_inv h
      obtain ⟨c2, h2⟩ := cond_true_inv h1
      obtain ⟨t, h3, e⟩ := eqS_det _ _ _ h2
      exact ⟨_, h3, fun _ _ _ => by simp only [xop, e1, e2, c1, c2, cond_true, e]⟩
    · cases h
  case not x =>
    simp only [xop] at h
    split at h
    · rename_i b e; exact ⟨_, h, fun _ _ _ => by simp only [xop, e]⟩
    · cases h
  case neg x =>
    simp only [xop] at h
    split at h
    · rename_i q n e; rw [fI_eq] at h; exact ⟨_, h, fun _ _ _ => by simp only [xop, e, fI_eq]⟩
    · cases h
  case xorn x =>
    simp only [xop] at h
    split at h
    · rename_i q n e; rw [fI_eq] at h; exact ⟨_, h, fun _ _ _ => by simp only [xop, e, fI_eq]⟩
    · cases h
  case cvi q x =>
    simp only [xop] at h
    split at h
    · rename_i q n e; rw [fI_eq] at h; exact ⟨_, h, fun _ _ _ => by simp only [xop, e, fI_eq]⟩
    · cases h
  case cvs x =>
    simp only [xop] at h
    split at h
    · rename_i s e; exact ⟨_, h, fun _ _ _ => by simp only [xop, e]⟩
    · cases h
  case s2a n x =>
    simp only [xop] at h
    split at h
    · rename_i b o len cap e
      obtain ⟨c, h1⟩ := cond_true_inv h
      exact ⟨_, h1, fun _ _ _ => by simp only [xop, e, c, cond_true]⟩
    · rename_i b o len cap e
      obtain ⟨c, h1⟩ := cond_true_inv h
      exact ⟨_, h1, fun _ _ _ => by simp only [xop, e, c, cond_true]⟩
    · cases h
  case mki t x => exact ⟨_, h, fun _ _ _ => rfl⟩
  case tas t x =>
    simp only [xop] at h
    split at h
    · rename_i u v e
      obtain ⟨c, h1⟩ := cond_true_inv h
      exact ⟨_, h1, fun _ _ _ => by simp only [xop, e, c, cond_true]⟩
    · cases h
  case mkf f x y => exact ⟨_, h, fun _ _ _ => rfl⟩
  case sls x lo hi =>
    simp only [xop] at h
    split at h
    · rename_i s e
      rw [fN_eq] at h
      obtain ⟨l, r, m, h1, e1⟩ := cut3_det h
      exact ⟨_, h1, fun _ _ _ => by simp only [xop, e, fN_eq, e1]⟩
    · cases h
  case sla n es x lo hi mx =>
    simp only [xop] at h
    split at h
    · rename_i b o e
      obtain ⟨l, r, m, h1, e1⟩ := cut3_det h
      simp only [fN_eq] at h1
      exact ⟨_, h1, fun _ _ _ => by simp only [xop, e, e1, fN_eq]⟩
    · cases h
  case ext x i =>
    simp only [xop] at h
    split at h
    · rename_i vs e
      split at h
      · rename_i v ev'; exact ⟨_, h, fun _ _ _ => by simp only [xop, e, ev']⟩
      · cases h
    · cases h
  case capo x =>
    simp only [xop] at h
    split at h
    · rename_i e; exact ⟨_, h, fun _ _ _ => by simp only [xop, e]⟩
    · rename_i e; exact ⟨_, h, fun _ _ _ => by simp only [xop, e]⟩
    · cases h
  case mx x y =>
    simp only [xop] at h
    split at h
    · rename_i q a r b e1 e2; exact ⟨_, h, fun _ _ _ => by simp only [xop, e1, e2]⟩
    · cases h
  case mn x y =>
    simp only [xop] at h
    split at h
    · rename_i q a r b e1 e2; exact ⟨_, h, fun _ _ _ => by simp only [xop, e1, e2]⟩
    · cases h
  case ld1 x =>
    simp only [xop] at h
    split at h
    · rename_i b off e
      obtain ⟨c, st, ro, hb, h1⟩ := gcell_inv h
      split at h1
      · rename_i v ev'
        exact ⟨v, h1, fun H' k' hs => by
          rcases hs with hs | hs
          · cases hs
          · simp only [xop, e]; rw [gcell_mk (hs _ _ hb)]; simp only [ev']⟩
      · cases h1
    · cases h
  case ldn n x =>
    simp only [xop] at h
    split at h
    · rename_i b off e
      obtain ⟨c, st, ro, hb, h1⟩ := gcell_inv h
      obtain ⟨c2, h2⟩ := cond_true_inv h1
      exact ⟨_, h2, fun H' k' hs => by
        rcases hs with hs | hs
        · cases hs
        · simp only [xop, e]; rw [gcell_mk (hs _ _ hb)]; simp only [c2, cond_true]⟩
    · cases h
  case b2s x =>
    simp only [xop] at h
    by_cases hn : ev env x = .nils
    · rw [hn] at h
      exact ⟨_, h, fun H' k' hs => by simp only [xop, hn]⟩
    by_cases hst : ∃ s, ev env x = .str s
    · obtain ⟨s, hst⟩ := hst
      rw [hst] at h
      simp only [srcLen, fN_eq] at h
      cases h
    have go : ∀ (H : AH) (k : AV → AH → Bool), xop (.b2s x) env H k = srcLen (ev env x) fun n => srcCells H 1 n (ev env x) fun r => bytesL r.toL fun l => k (.str l) H := fun H k => by
      simp only [xop]
      split
      · rename_i s e; exact absurd ⟨s, e⟩ hst
      · rfl
    have h0 := (go H k).symm.trans (show xop (.b2s x) env H k = true from h)
    obtain ⟨n, h1, e1⟩ := srcLen_det h0
    obtain ⟨r, h2, e2⟩ := srcCells_det h1
    obtain ⟨l, h3, e3⟩ := bytesL_det _ h2
    exact ⟨_, h3, fun H' k' hs => by
      rcases hs with hs | hs
      · cases hs
      · rw [go, e1, e2 H' _ hs, e3]⟩
  case sll es x lo hi mx =>
    simp only [xop] at h
    split at h
    · rename_i e
      obtain ⟨l, r, m, h1, e1⟩ := cut3_det h
      exact ⟨_, h1, fun _ _ _ => by simp only [xop, e, e1]⟩
    · rename_i b o len cap e
      obtain ⟨l, r, m, h1, e1⟩ := cut3_det h
      simp only [fN_eq] at h1
      exact ⟨_, h1, fun _ _ _ => by simp only [xop, e, e1, fN_eq]⟩
    · rename_i b o len es' e
      obtain ⟨c, h1⟩ := cond_true_inv h
      cases mx with
      | some mm =>
        simp only at h1
        obtain ⟨l, r, m, h2, e1⟩ := cut3_det h1
        simp only [fN_eq] at h2
        exact ⟨_, h2, fun _ _ _ => by simp only [xop, e, c, cond_true, e1, fN_eq]⟩
      | none =>
        simp only at h1
        obtain ⟨cc, st, ro, hb, h2⟩ := gcell_inv h1
        obtain ⟨l, r, m, h3, e1⟩ := cut3_det h2
        cases hml : Nat.beq m l with
        | true =>
          rw [hml] at h3
          simp only [cond_true, fN_eq] at h3
          exact ⟨_, h3, fun H' k' hs => by
            rcases hs with hs | hs
            · cases hs
            · simp only [xop, e, c, cond_true]; rw [gcell_mk (hs _ _ hb), e1, hml]; simp only [cond_true, fN_eq]⟩
        | false =>
          rw [hml] at h3
          simp only [cond_false, fN_eq] at h3
          exact ⟨_, h3, fun H' k' hs => by
            rcases hs with hs | hs
            · cases hs
            · simp only [xop, e, c, cond_true]; rw [gcell_mk (hs _ _ hb), e1, hml]; simp only [cond_false, fN_eq]⟩
    · rename_i b o es' e
      obtain ⟨l, r, m, h1, e1⟩ := cut3_det h
      exact ⟨_, h1, fun _ _ _ => by simp only [xop, e, e1]⟩
    · cases h
  case lkp z ok kk m key =>
    simp only [xop] at h
    obtain ⟨c, h1⟩ := cond_true_inv h
    split at h1
    · rename_i e
      exact ⟨_, h1, fun _ _ _ => by simp only [xop, e, c, cond_true]⟩
    · rename_i r e
      obtain ⟨es, ck, hb, h2⟩ := gmap_inv h1
      rcases mfind_det es 0 h2 with ⟨j, v, h3, e3⟩ | ⟨h3, e3⟩
      · exact ⟨_, h3, fun H' k' hs => by
          rcases hs with hs | hs
          · cases hs
          · simp only [xop, e, c, cond_true]; rw [gmap_mk (hs _ _ hb), e3]⟩
      · exact ⟨_, h3, fun H' k' hs => by
          rcases hs with hs | hs
          · cases hs
          · simp only [xop, e, c, cond_true]; rw [gmap_mk (hs _ _ hb), e3]⟩
    · cases h1
  case len lk x =>
    match lk, hk, h with
    | 0, hk, h =>
      simp only [xop] at h
      split at h
      · rename_i s e; rw [fN_eq] at h; exact ⟨_, h, fun _ _ _ => by simp only [xop, e, fN_eq]⟩
      · cases h
    | 1, hk, h =>
      simp only [xop] at h
      split at h
      · cases h
      · rename_i hns
        obtain ⟨n, h1, e1⟩ := srcLen_det h
        refine ⟨_, h1, fun H' k' _ => ?_⟩
        simp only [xop]
        exact e1 _
    | lk + 2, hk, h =>
      simp only [xop] at h
      split at h
      · rename_i r e
        obtain ⟨es, ck, hb, h2⟩ := gmap_inv h
        rw [fN_eq] at h2
        refine ⟨_, h2, fun H' k' hs => ?_⟩
        rcases hs with hs | hs
        · cases hs
        · simp only [xop, e]
          rw [gmap_mk (hs _ _ hb), fN_eq]
      · rename_i e
        exact ⟨_, h, fun H' k' hs => by simp only [xop, e]⟩
      · cases h
end Go.Jt
set_option autoImplicit false
set_option linter.all false
namespace Go.Jt
open Go.RowKit (Below)
variable [Gl]

section
variable {P : Program} {base : Nat} {ι : Io} {H : AH} {w : World} {k : AV → AH → Bool} {env : Env} {a : Act}

def Alc (o : XOp) (env : Env) (ob : AObj) (f : Nat → AV) : Prop := ∀ (H : AH) (k : AV → AH → Bool), xop o env H k = k (f H.n) (H.new ob)
def Laid (P : Program) (base : Nat) (ι : Io) (w : World) (ob : AObj) (f : Nat → AV) (res : Result Next) : Prop := ∃ (cv : Value) (c : Obj) (sz : Nat) (w' : World),
  res = .ok (.value cv) w' ∧ w'.heap = w.heap.push c ∧ w'.os = w.os ∧ w'.tape = w.tape ∧ w'.output = w.output ∧ (∀ ι', ι.le ι' → OR P base ι' ⟨w.heap.size, 0, sz⟩ ob c) ∧ (∀ ι' b, ι' b = some ⟨w.heap.size, 0, sz⟩ → VR ι' (f b) cv)
theorem Laid.cells {r : Rp AV} {c : Array Value} {el : TypeId} {f : Nat → AV} {cv : Value} {res : Result Next} (hb : base ≤ w.heap.size) (hc : cellsR ι r c) (hrun : res = .ok (.value cv) (w.alloc (.cells c el)))
    (hv : ∀ ι' b, ι' b = some ⟨w.heap.size, 0, c.size⟩ → VR ι' (f b) cv) : Laid P base ι w (.cells r false false) f res :=
  ⟨cv, _, c.size, _, hrun, rfl, rfl, rfl, rfl, fun ι' hle => OR_new _ (hc.mono hle) el _ hb, hv⟩
theorem alc_alc (x : AObj) (f : Nat → AV) (H : AH) (k : AV → AH → Bool) : alc (some (x, f)) H k = k (f H.n) (H.new x) := anew_eq H x _
theorem Alc.same {o : XOp} {ob ob' : AObj} {f f' : Nat → AV} (h : Alc o env ob f) (h' : Alc o env ob' f') : ob = ob' ∧ f = f' := by
  have key : ∀ n : Nat, f n = f' n ∧ (⟨.lf, n⟩ : AH).new ob = (⟨.lf, n⟩ : AH).new ob' := fun n => by
    classical
    have h1 := h ⟨.lf, n⟩ (fun v H => decide (v = f n ∧ H = (⟨.lf, n⟩ : AH).new ob))
    rw [h' ⟨.lf, n⟩] at h1
    have h2 : decide (f' n = f n ∧ (⟨.lf, n⟩ : AH).new ob' = (⟨.lf, n⟩ : AH).new ob) = decide (f n = f n ∧ (⟨.lf, n⟩ : AH).new ob = (⟨.lf, n⟩ : AH).new ob) := h1
    simp at h2
    exact ⟨h2.1.symm, h2.2.symm⟩
  refine ⟨?_, funext fun n => (key n).1⟩
  have h0 := (key 0).2
  have g : ((⟨.lf, 0⟩ : AH).new ob).get 0 = ((⟨.lf, 0⟩ : AH).new ob').get 0 := by rw [h0]
  rw [AH.get_new, AH.get_new] at g
  simpa using g
theorem Laid.to {ob ob' : AObj} {f f' : Nat → AV} {res : Result Next} {o : XOp} (h : Laid P base ι w ob f res) (h1 : Alc o env ob f) : Alc o env ob f ∧ Laid P base ι w ob f res := ⟨h1, h⟩

theorem laid_alloc (o : Oper) (t : TypeId) (z : Rp AV) (ho : o.op = .alloc t) (hz : zeroRow P t = some z) (hb : base ≤ w.heap.size) :
    Laid P base ι w (.cells z false false) (fun b => .ptr b 0) ((execOp a.eval o).run P w) := by
  obtain ⟨i, zv, hi, hzv, hc⟩ := cellsR_zero ι hz
  refine Laid.cells hb hc (el := t) (cv := .pointer (some ⟨w.heap.size, 0, none⟩)) ?_ (fun ι' b hl => .ptr _ _ _ hl)
  simp [execOp, ho, Instr.alloc, run_zero hi hzv, run_newVar]
theorem laid_box (o : Oper) (t : TypeId) (x : Operand) (ho : o.op = .box t x) (hb : base ≤ w.heap.size) (he : rowR ι env a.tmps) {ob : AObj} {f : Nat → AV} (h : boxed (ev env (od x)) = some (ob, f)) :
    Laid P base ι w ob f ((execOp a.eval o).run P w) := by
  have hv := ev_sound he x
  generalize hxv : a.eval x = xv at hv
  have run : (execOp a.eval o).run P w = .ok (.value (.pointer (some ⟨w.heap.size, 0, none⟩))) (w.alloc (.cells xv.cells t)) := by
    simp [execOp, ho, Instr.box, run_newVar, hxv]
  unfold boxed at h
  split at h
  · rename_i r er
    rw [er] at hv
    obtain ⟨c, rfl, hc⟩ := hv.agg_inv
    cases h
    exact Laid.cells hb hc run (fun ι' b hl => .ptr _ _ _ hl)
  · cases hs : (ev env (od x)).sc with
    | false => rw [hs] at h; cases h
    | true =>
      rw [hs] at h
      cases h
      have hc := cellsR_one hv hs
      rw [hv.sc_cells hs] at run
      exact Laid.cells hb hc run (fun ι' b hl => .ptr _ _ _ hl)
theorem laid_mkm (o : Oper) (t : TypeId) (ho : o.op = .makeMap t none) (hb : base ≤ w.heap.size) : Laid P base ι w (.mp [] 0) (fun b => .map b) ((execOp a.eval o).run P w) :=
  ⟨.map (some w.heap.size), .map #[] 0, 0, w.alloc (.map #[] 0), by simp [execOp, ho, Instr.makeMap], rfl, rfl, rfl, rfl, fun ι' hle => .mp _ _ _ rfl (fun i x y h => by simp at h) hb, fun ι' b hl => .map _ _ hl⟩
theorem laid_rng (o : Oper) (t : TypeId) (x : Operand) (ho : o.op = .range t x) (ht : P.underlying t = some .string) (hb : base ≤ w.heap.size) (he : rowR ι env a.tmps) {l : List Nat} (hl : ev env (od x) = .str l) :
    Laid P base ι w (.sit l 0) (fun b => .ptr b 0) ((execOp a.eval o).run P w) := by
  have hv := ev_sound he x
  generalize hxv : a.eval x = xv at hv
  rw [hl] at hv
  obtain ⟨s, rfl, rfl⟩ := hv.str_inv
  exact ⟨.pointer (some ⟨w.heap.size, 0, none⟩), .stringIter s 0, 0, w.alloc (.stringIter s 0), by simp [execOp, ho, hxv, Instr.range, run_und ht], rfl, rfl, rfl, rfl, fun ι' hle => .sit s 0 hb, fun ι' b hl => .ptr _ 0 _ hl⟩
theorem laid_s2b (o : Oper) (s d e : TypeId) (x : Operand) (u : TypeDesc) (ho : o.op = .convert s d x) (hs : P.underlying s = some u) (hd : P.underlying d = some (.slice e)) (hee : P.underlying e = some (.int .u8)) (hb : base ≤ w.heap.size) (he : rowR ι env a.tmps) {l : List Nat} (hl : ev env (od x) = .str l) :
    Laid P base ι w (.cells (Rp.ofL (l.map fun c => .int .u8 (Int.ofNat c))) true false) (fun b => .slu b 0 l.length 1) ((execOp a.eval o).run P w) := by
  have hv := ev_sound he x
  generalize hxv : a.eval x = xv at hv
  rw [hl] at hv
  obtain ⟨b, rfl, rfl⟩ := hv.str_inv
  have hrow := cellsR_str ι b b.size
  have htk : (bytesOf b).take b.size = bytesOf b := List.take_of_length_le (by rw [bytesOf_len]; omega)
  rw [htk] at hrow
  have hex : b.extract 0 b.size = b := by
    apply ByteArray.ext
    apply Array.toList_inj.1
    rw [Lib.extract_data]
    simp only [Nat.sub_zero, List.drop_zero]
    exact List.take_of_length_le (by rw [Array.length_toList]; exact Nat.le_refl _)
  rw [hex] at hrow
  have hcells : Lib.bytesCells w e b = (b.data.map fun b => Value.int .u8 b.toNat) ++ Array.replicate (grownCap w b.size 0 e - b.size) (.int .u8 0) := rfl
  have hge := grownCap_ge (w := w) b.size e
  have hdsz : b.data.size = b.size := rfl
  have hsz : (Lib.bytesCells w e b).size = grownCap w b.size 0 e * 1 := by
    rw [hcells, Array.size_append, Array.size_map, Array.size_replicate]
    omega
  refine ⟨.slice (some ⟨w.heap.size, 0, none⟩) b.size (grownCap w b.size 0 e), _, grownCap w b.size 0 e * 1, Lib.bytesWorld w e b, by simp [execOp, ho, hxv, run_str2bytes s d e b u hs hd hee], bytesWorld_push e b, rfl, rfl, rfl, fun ι' hle => ?_, fun ι' bb hll => ?_⟩
  · have hr2 := hrow.mono hle
    refine .cells _ true false _ e _ hr2.1 hsz ?_ (fun i hi => ?_) (fun i hi _ => ?_) (fun o ho _ => by simp only; omega) (fun h => by cases h) (fun _ => hb)
    · simp only [hr2.2.1, Array.size_map]
      omega
    · rw [hr2.2.1] at hi
      simp only [Nat.zero_add]
      rw [hcells, Array.getD_eq_getD_getElem?, Array.getElem?_append_left hi, ← Array.getD_eq_getD_getElem?]
      exact hr2.2.2.1 i
    · rw [hcells] at hi ⊢
      by_cases hi' : i < (b.data.map fun b => Value.int .u8 b.toNat).size
      · rw [Array.getD_eq_getD_getElem?, Array.getElem?_append_left hi', ← Array.getD_eq_getD_getElem?]
        exact hr2.2.2.2 i hi'
      · rw [Array.getD_eq_getD_getElem?, Array.getElem?_append_right (by omega)]
        rw [Array.size_append] at hi
        rw [Array.getElem?_eq_getElem (by omega)]
        simp [Value.oneCell']
  · rw [bytesOf_len]
    exact .slu _ 0 _ 1 _ ⟨w.heap.size, 0, grownCap w b.size 0 e * 1⟩ hll hge (by omega) (by simp only; omega)
theorem laid_mks (o : Oper) (t e : TypeId) (l c : Operand) (z : Rp AV) (i : TypeInfo) (ho : o.op = .makeSlice t l c) (ht : P.underlying t = some (.slice e)) (hz : zeroRow P e = some z) (hi : P.info? e = some i) (hl : z.len = i.size) (hl0 : z.len ≠ 0)
    (hb : base ≤ w.heap.size) (he : rowR ι env a.tmps) {q q' : IntKind} {m n : Nat} (e1 : ev env (od l) = .int q (.ofNat m)) (e2 : ev env (od c) = .int q' (.ofNat n)) (h1' : m ≤ n) (h3' : i.bytes * n ≤ 281474976710656) (h5' : n ≤ 9223372036854775807) :
    Laid P base ι w (.cells (zeros n z) false false) (fun b => .slc b 0 m n) ((execOp a.eval o).run P w) := by
  have hv := ev_sound he l
  have hu := ev_sound he c
  generalize hlv : a.eval l = lv at hv
  generalize hcv : a.eval c = cv at hu
  obtain ⟨i', zv, hi', hzv, hzr⟩ := cellsR_zero ι hz
  rw [hi] at hi'
  cases hi'
  have hsz : zv.cells.size = i.size := by rw [← hl, Rp.len_eq z hzr.1, hzr.2.1]
  rw [e1] at hv
  rw [e2] at hu
  have hlv' := hv.int_inv
  have hcv' := hu.int_inv
  subst hlv'
  subst hcv'
  have hrow := cellsR_zeros hzr (by omega : 0 < zv.cells.size) n
  have hw1 : IntKind.i64.wrap (m : Int) = (m : Int) := by rw [IntWalk.i64_in]; omega
  have hw2 : IntKind.i64.wrap (n : Int) = (n : Int) := by rw [IntWalk.i64_in]; omega
  have hb1 : ¬ (281474976710656 < (i.bytes : Int) * (n : Int)) := by
    have h7 : ((i.bytes * n : Nat) : Int) ≤ 281474976710656 := Int.ofNat_le.2 h3'
    rw [Int.natCast_mul] at h7
    omega
  have hneg : ¬ ((n : Int) < 0) := by omega
  have hneg' : ¬ ((m : Int) < 0) := by omega
  have hle : ¬ ((n : Int) < (m : Int)) := by omega
  refine Laid.cells hb hrow (el := e) (cv := .slice (some ⟨w.heap.size, 0, none⟩) m n) ?_ (fun ι' b hll => .slc _ 0 _ _ ⟨w.heap.size, 0, _⟩ hll h1')
  by_cases hn0 : n = 0
  · subst hn0
    have hm0 : m = 0 := by omega
    subst hm0
    have hw0 : IntKind.i64.wrap 0 = 0 := rfl
    simp [execOp, ho, hlv, hcv, Instr.makeSlice, run_und ht, asInt, asIntOf, run_info hi, hw0, run_size hi, run_zero hi hzv, run_newRow]
    have hr0 : Array.range 0 = #[] := rfl
    simp [hr0]
  · have hnn : ¬ (n * i.size = 0) := by rw [Nat.mul_eq_zero]; omega
    have hnn' : ¬ (n = 0 ∨ i.size = 0) := by omega
    simp [execOp, ho, hlv, hcv, Instr.makeSlice, run_und ht, asInt, asIntOf, run_info hi, hw1, hw2, hb1, hneg, hneg', hle, run_size hi, run_zero hi hzv, run_newRow, hnn, hnn', hsz, hn0, h1']
theorem comp_alloc {o : Oper} {z : Rp AV} (h : compOp P o = .alloc z) : ∃ t, o.op = .alloc t ∧ zeroRow P t = some z := by
  unfold compOp at h
  split at h <;> try (cases h; done)
  all_goals try (repeat' split at h) <;> try first | (exact (readG_no h (fun e => by cases e) (fun v e => by cases e)).elim) | (cases h; done)
  all_goals first
    | (exact (readG_no h (fun e => by cases e) (fun v e => by cases e)).elim)
    | (exfalso; revert h; simp only [Bool.cond_eq_ite]; (repeat' split) <;> (intro h; cases h); done)
    | skip
  cases h
  exact ⟨_, by assumption, by assumption⟩
theorem comp_box {o : Oper} {x : Od} (h : compOp P o = .box x) : ∃ t y, o.op = .box t y ∧ x = od y := by
  unfold compOp at h
  split at h <;> try (cases h; done)
  all_goals try (repeat' split at h) <;> try first | (exact (readG_no h (fun e => by cases e) (fun v e => by cases e)).elim) | (cases h; done)
  all_goals first
    | (exact (readG_no h (fun e => by cases e) (fun v e => by cases e)).elim)
    | (exfalso; revert h; simp only [Bool.cond_eq_ite]; (repeat' split) <;> (intro h; cases h); done)
    | skip
  cases h
  exact ⟨_, _, by assumption, rfl⟩
theorem comp_mkm {o : Oper} (h : compOp P o = .mkm) : ∃ t, o.op = .makeMap t none := by
  unfold compOp at h
  split at h <;> try (cases h; done)
  all_goals try (repeat' split at h) <;> try first | (exact (readG_no h (fun e => by cases e) (fun v e => by cases e)).elim) | (cases h; done)
  all_goals first
    | (exact (readG_no h (fun e => by cases e) (fun v e => by cases e)).elim)
    | (exfalso; revert h; simp only [Bool.cond_eq_ite]; (repeat' split) <;> (intro h; cases h); done)
    | skip
  exact ⟨_, by assumption⟩
theorem comp_rng {o : Oper} {x : Od} (h : compOp P o = .rng x) : ∃ t y, o.op = .range t y ∧ x = od y ∧ P.underlying t = some .string := by
  unfold compOp at h
  split at h <;> try (cases h; done)
  all_goals try (repeat' split at h) <;> try first | (exact (readG_no h (fun e => by cases e) (fun v e => by cases e)).elim) | (cases h; done)
  all_goals first
    | (exact (readG_no h (fun e => by cases e) (fun v e => by cases e)).elim)
    | (exfalso; revert h; simp only [Bool.cond_eq_ite]; (repeat' split) <;> (intro h; cases h); done)
    | skip
  cases h
  exact ⟨_, _, by assumption, rfl, by assumption⟩
theorem comp_s2b {o : Oper} {x : Od} (h : compOp P o = .s2b x) : ∃ s d e y u, o.op = .convert s d y ∧ x = od y ∧ P.underlying s = some u ∧ P.underlying d = some (.slice e) ∧ P.underlying e = some (.int .u8) := by
  unfold compOp at h
  split at h <;> try (cases h; done)
  all_goals try (repeat' split at h) <;> try first | (exact (readG_no h (fun e => by cases e) (fun v e => by cases e)).elim) | (cases h; done)
  all_goals first
    | (exact (readG_no h (fun e => by cases e) (fun v e => by cases e)).elim)
    | (exfalso; revert h; simp only [Bool.cond_eq_ite]; (repeat' split) <;> (intro h; cases h); done)
    | skip
  cases h
  exact ⟨_, _, _, _, _, by assumption, rfl, by assumption, by assumption, by assumption⟩
theorem comp_mks {o : Oper} {es bytes : Nat} {z : Rp AV} {l c : Od} (h : compOp P o = .mks es bytes z l c) : ∃ t e l' c' i, o.op = .makeSlice t l' c' ∧ l = od l' ∧ c = od c' ∧ P.underlying t = some (.slice e) ∧ zeroRow P e = some z ∧ P.info? e = some i ∧ z.len = i.size ∧ z.len ≠ 0 ∧ es = i.size ∧ bytes = i.bytes := by
  unfold compOp at h
  split at h <;> try (cases h; done)
  all_goals try (repeat' split at h) <;> try first | (exact (readG_no h (fun e => by cases e) (fun v e => by cases e)).elim) | (cases h; done)
  all_goals first
    | (exact (readG_no h (fun e => by cases e) (fun v e => by cases e)).elim)
    | (exfalso; revert h; simp only [Bool.cond_eq_ite]; (repeat' split) <;> (intro h; cases h); done)
    | skip
  simp only [Bool.cond_eq_ite] at h
  split at h
  · rename_i hl
    split at h
    · cases h
    · rename_i hl0
      cases h
      exact ⟨_, _, _, _, _, by assumption, rfl, rfl, by assumption, by assumption, by assumption, beq_tt hl, beq_ff hl0, rfl, rfl⟩
  · cases h
theorem comp_bsl {o : Oper} {n : Nat} {z : Rp AV} {l : List (Nat × Nat × Od)} (h : compOp P o = .bsl n z l) : ∃ t ps e z0 ie, o.op = .buildSlice t n ps ∧ P.underlying t = some (.slice e) ∧ zeroRow P e = some z0 ∧ P.info? e = some ie ∧ parts (fun i => some (i * ie.size, ie.size)) ps.toList = some l ∧ z0.len = ie.size ∧ z0.len ≠ 0 ∧ n * ie.size ≤ 16777216 ∧ z = zeros n z0 := by
  unfold compOp at h
  split at h <;> try (cases h; done)
  all_goals try (repeat' split at h) <;> try first | (exact (readG_no h (fun e => by cases e) (fun v e => by cases e)).elim) | (cases h; done)
  all_goals first
    | (exact (readG_no h (fun e => by cases e) (fun v e => by cases e)).elim)
    | (exfalso; revert h; simp only [Bool.cond_eq_ite]; (repeat' split) <;> (intro h; cases h); done)
    | skip
  simp only [Bool.cond_eq_ite] at h
  split at h
  · rename_i hl
    split at h
    · cases h
    · rename_i hl0
      split at h
      · rename_i h3
        cases h
        exact ⟨_, _, _, _, _, by assumption, by assumption, by assumption, by assumption, by assumption, beq_tt hl, beq_ff hl0, Nat.le_of_ble_eq_true h3, rfl⟩
      · cases h
  · cases h
/-- an operation that lays a block: what it lays, and that the model lays the like -/
theorem laid_op (o : Oper) (hk : kindX (compOp P o) = 2) (hb : base ≤ w.heap.size) (he : rowR ι env a.tmps) (hx : xop (compOp P o) env H k = true) :
    ∃ ob f, Alc (compOp P o) env ob f ∧ Laid P base ι w ob f ((execOp a.eval o).run P w) := by
  generalize hX : compOp P o = X at hk hx
  cases X <;> first | (exfalso; revert hk; simp [kindX]; done) | skip
  case alloc z =>
    obtain ⟨t, ho, hz⟩ := comp_alloc hX
    exact ⟨.cells z false false, fun b => .ptr b 0, fun H k => alc_alc _ _ H k, laid_alloc o t z ho hz hb⟩
  case box x =>
    obtain ⟨t, y, ho, rfl⟩ := comp_box hX
    obtain ⟨ob, f, e, hk'⟩ := alc_inv (show alc (boxed (ev env (od y))) H k = true from hx)
    exact ⟨ob, f, fun H k => by show alc (boxed (ev env (od y))) H k = _; rw [e, alc_alc], laid_box o t y ho hb he e⟩
  case mkm =>
    obtain ⟨t, ho⟩ := comp_mkm hX
    exact ⟨.mp [] 0, fun b => .map b, fun H k => alc_alc _ _ H k, laid_mkm o t ho hb⟩
  case rng x =>
    obtain ⟨t, y, ho, rfl, hu⟩ := comp_rng hX
    simp only [xop] at hx
    split at hx
    · rename_i l e
      refine ⟨_, _, fun H k => ?_, laid_rng o t y ho hu hb he e⟩
      simp only [xop, e]
      exact alc_alc _ _ H k
    · cases hx
  case s2b x =>
    obtain ⟨s, d, e, y, u, ho, rfl, hs, hd, hee⟩ := comp_s2b hX
    simp only [xop] at hx
    split at hx
    · rename_i l el
      refine ⟨_, _, fun H k => ?_, laid_s2b o s d e y _ ho hs hd hee hb he el⟩
      simp only [xop, el, fN_eq, llen_eq]
      exact alc_alc _ _ H k
    · cases hx
  case mks es bytes z l c =>
    obtain ⟨t, e, l', c', i, ho, rfl, rfl, hu, hz, hi, hl, hl0, rfl, rfl⟩ := comp_mks hX
    simp only [xop] at hx
    split at hx
    · rename_i q m q' n e1 e2
      rw [fN_eq, fN_eq] at hx
      obtain ⟨h1, h2⟩ := cond_true_inv hx
      obtain ⟨h3, h4⟩ := cond_true_inv h2
      obtain ⟨h5, h6⟩ := cond_true_inv h4
      refine ⟨_, _, fun H k => ?_, laid_mks o t e l' c' z i ho hu hz hi hl hl0 hb he e1 e2 (Nat.le_of_ble_eq_true h1) (Nat.le_of_ble_eq_true h3) (Nat.le_of_ble_eq_true h5)⟩
      simp only [xop, e1, e2, fN_eq, h1, h3, h5, cond_true]
      exact alc_alc _ _ H k
    · cases hx
  case bsl n z l =>
    obtain ⟨t, ps, e, z0, ie, ho, hu, hz, hie, hl, h1, h2, h3, rfl⟩ := comp_bsl hX
    simp only [xop] at hx
    obtain ⟨rr, hrr, hdet⟩ := fillIn_det l (zeros n z0) hx
    obtain ⟨it, zv, hi, hzv, hc⟩ := cellsR_zero ι hz
    rw [hie] at hi
    cases hi
    have e1 : zv.cells.size = ie.size := by rw [← hc.2.1, ← Rp.len_eq z0 hc.1]; exact h1
    have e2 : ie.size ≠ 0 := by rw [← h1]; exact h2
    classical
    have hx2 : fillIn env (zeros n z0) l (fun r => decide (r = rr)) = true := by rw [hdet]; simp
    obtain ⟨r, c, f1, f2, f3, f4⟩ := fill_sound he _ _ ps.toList l _ _ hl (cellsR_zeros hc (by omega) n) hx2
    have hr' : r = rr := by simpa using f4
    subst hr'
    have hrun : (execOp a.eval o).run P w = .ok (.value (.slice (some ⟨w.heap.size, 0, none⟩) n n)) (w.alloc (.cells c e)) := by
      simp only [execOp, ho, Instr.buildSlice, Sem.run_bind, run_und hu, Result.andThen_ok, run_size hie]
      rw [if_neg (by omega)]
      by_cases h0 : n * ie.size = 0
      · simp only [h0, if_true, Sem.run_bind, Sem.run_pure, Result.andThen_ok]
        have e0 : ((Array.range 0).map fun i => (#[] : Array Value)[i % (#[] : Array Value).size]!) = (Array.range (n * zv.cells.size)).map fun i => zv.cells[i % zv.cells.size]! := by
          rw [e1, h0]; simp
        rw [e0, map_pairs, f1]
        simp [run_newRow]
      · simp only [h0, if_false, Sem.run_bind, run_zero hie hzv, Result.andThen_ok, Sem.run_pure]
        rw [← e1] at f1 ⊢
        rw [map_pairs, f1]
        simp [run_newRow]
    refine ⟨_, _, fun H k => ?_, Laid.cells hb f2 hrun (f := fun b => .slc b 0 n n) (fun ι' b hll => .slc _ 0 _ _ ⟨w.heap.size, 0, _⟩ hll (Nat.le_refl _))⟩
    simp only [xop]
    rw [hdet]
    exact alc_alc _ _ H k
end
end Go.Jt
set_option autoImplicit false
set_option linter.all false
namespace Go.Jt
open Go.RowKit (Below)
variable [Gl]

/-! ### what was checked -/
structure Okd (P : Program) (ops : Array Oper) (X : List XOper) (b E : List Nat) : Prop where
  len : X.length = ops.size
  at_ : ∀ i o, ops[i]? = some o → compO P ops o = some (opAt X i)
  lt : ∀ i o, ops[i]? = some o → ∀ e ∈ o.after, Region.binds .any e = true → e.on < i
  edge : ∀ i o, ops[i]? = some o → ∀ j, j < ops.size → pre b j i = true → ∃ e ∈ o.after, Region.binds .any e = true ∧ (e.on = j ∨ pre b j e.on = true)
  one : ∀ j d, j < ops.size → (opAt X j).dst = some d → ∀ i, i < ops.size → i ≠ j → (opAt X i).dst ≠ some d
  look : ∀ j d, j < ops.size → (opAt X j).dst = some d → ∀ i, i < ops.size → d ∈ looks (opAt X i) → i ≠ j ∧ ((pre b j i = true ∧ ahead b E j i = true) ∨ (pre b i j = true ∧ j ∈ E))
  row : ∀ (m m' e e' : Nat), m < m' → E[m]? = some e → E[m']? = some e' → pre b e e' = true
  inE : ∀ i, i ∈ E → i < ops.size
  notE : ∀ i, i < ops.size → i ∉ E → kindX (opAt X i).op ≠ 3
  nodup : E.Nodup
theorem compL_len {P : Program} {ops : Array Oper} : ∀ (l : List Oper) (X : List XOper), compL P ops l = some X → X.length = l.length ∧ ∀ i o, l[i]? = some o → compO P ops o = some (opAt X i)
  | [], X, h => by cases h; exact ⟨rfl, fun i o h => by simp at h⟩
  | o :: l, X, h => by
    unfold compL at h
    split at h
    · rename_i x r h1 h2
      cases h
      obtain ⟨g1, g2⟩ := compL_len l r h2
      refine ⟨by simp [g1], fun i o' h' => ?_⟩
      cases i with
      | zero => simp at h'; subst h'; exact h1
      | succ i => exact g2 i o' (by simpa using h')
    · cases h
theorem okF_spec {b : List Nat} : ∀ (E : List Nat), okF b E = true → ∀ (m m' e e' : Nat), m < m' → E[m]? = some e → E[m']? = some e' → pre b e e' = true
  | [], _, m, m', e, e', _, h, _ => by simp at h
  | x :: E, h, m, m', e, e', hm, h1, h2 => by
    simp only [okF, Bool.and_eq_true, List.all_eq_true] at h
    cases m' with
    | zero => omega
    | succ m' =>
      have h2' : E[m']? = some e' := by simpa using h2
      cases m with
      | zero =>
        have : x = e := by simpa using h1
        subst this
        exact h.1 e' (List.mem_of_getElem? h2')
      | succ m => exact okF_spec E h.2 m m' e e' (by omega) (by simpa using h1) h2'
theorem opAt_some {X : List XOper} {i : Nat} {o : XOper} (h : X[i]? = some o) : opAt X i = o := by simp [opAt, h]
theorem opAt_lt {X : List XOper} {i : Nat} (h : i < X.length) : X[i]? = some (opAt X i) := by simp [opAt, h]
theorem okd {P : Program} {ops : Array Oper} {X : List XOper} (hc : compL P ops ops.toList = some X) (h : okX ops X (Region.before ops).toList (effs X (Region.before ops).toList) = true) : Okd P ops X (Region.before ops).toList (effs X (Region.before ops).toList) := by
  obtain ⟨hl, hat⟩ := compL_len _ _ hc
  have hl' : X.length = ops.size := by simpa using hl
  simp only [okX, Bool.and_eq_true] at h
  obtain ⟨⟨h1, h2⟩, h3⟩ := h
  generalize (Region.before ops).toList = b at *
  simp only [okE, List.all_eq_true, List.mem_range] at h1
  simp only [okW, List.all_eq_true, List.mem_range] at h2
  have hE : ∀ i o, ops[i]? = some o → (∀ e ∈ o.after, Region.binds .any e = true → e.on < i) ∧ ∀ j, j < ops.size → pre b j i = true → ∃ e ∈ o.after, Region.binds .any e = true ∧ (e.on = j ∨ pre b j e.on = true) := fun i o ho => by
    have h0 := h1 i (Array.getElem?_eq_some_iff.1 ho).1
    rw [ho] at h0
    simp only [Bool.and_eq_true, List.all_eq_true, List.mem_range] at h0
    refine ⟨fun e he hb => ?_, fun j hj hp => ?_⟩
    · have := h0.1 e (by simpa using he)
      rw [hb] at this
      simp at this
      exact this
    · have := h0.2 j hj
      rw [hp] at this
      simp only [Bool.not_true, Bool.false_or, List.any_eq_true, Bool.and_eq_true, Bool.or_eq_true] at this
      obtain ⟨e, he, hb, hor⟩ := this
      refine ⟨e, by simpa using he, hb, ?_⟩
      rcases hor with hor | hor
      · exact Or.inl (Nat.eq_of_beq_eq_true hor)
      · exact Or.inr hor
  have hW : ∀ j d, j < ops.size → (opAt X j).dst = some d → ∀ i, i < ops.size → (i ≠ j → (opAt X i).dst ≠ some d) ∧ (d ∈ looks (opAt X i) → i ≠ j ∧ ((pre b j i = true ∧ ahead b (effs X b) j i = true) ∨ (pre b i j = true ∧ j ∈ effs X b))) := fun j d hj hd i hi => by
    have h0 := h2 j (by omega)
    rw [opAt_lt (by omega : j < X.length)] at h0
    simp only [hd, List.all_eq_true, List.mem_range] at h0
    have h4 := h0 i (by omega)
    rw [opAt_lt (by omega : i < X.length)] at h4
    simp only [Bool.and_eq_true, Bool.or_eq_true, Bool.not_eq_true', List.contains_eq_mem, decide_eq_true_eq, decide_eq_false_iff_not] at h4
    refine ⟨fun hne he => ?_, fun hlk => ?_⟩
    · rcases h4.1 with h5 | h5
      · exact hne (Nat.eq_of_beq_eq_true h5)
      · rw [he] at h5
        simp at h5
    · rcases h4.2 with (h5 | h5) | h5
      · exact absurd hlk h5
      · refine ⟨fun e => ?_, Or.inl ⟨h5.1.2, h5.2⟩⟩
        subst e
        have := h5.1.1
        rw [Nat.beq_refl] at this
        cases this
      · refine ⟨fun e => ?_, Or.inr ⟨h5.1.2, h5.2⟩⟩
        subst e
        have := h5.1.1
        rw [Nat.beq_refl] at this
        cases this
  refine ⟨hl', fun i o ho => hat i o (by simpa using ho), fun i o ho => (hE i o ho).1, fun i o ho => (hE i o ho).2, fun j d hj hd i hi hne => (hW j d hj hd i hi).1 hne, fun j d hj hd i hi hlk => (hW j d hj hd i hi).2 hlk, okF_spec _ h3, fun i hi => ?_, fun i hi hn h3 => ?_, ?_⟩
  · simp only [effs, List.mem_filter, List.mem_range] at hi
    omega
  · refine hn ?_
    simp only [effs, List.mem_filter, List.mem_range]
    have g1' : i < X.length := by omega
    refine ⟨g1', ?_⟩
    rw [opAt_lt g1']
    simp only [h3]
    rfl
  · exact List.Pairwise.filter _ List.nodup_range

/-! ### places -/
theorem placeE_none {i : Nat} : ∀ (E : List Nat) (m : Nat), i ∉ E → placeE i E m = none
  | [], _, _ => rfl
  | e :: l, m, h => by
    have h1 : Nat.beq e i = false := by
      cases hb : Nat.beq e i with
      | true => exact absurd (Nat.eq_of_beq_eq_true hb) (fun e' => h (by simp [e']))
      | false => rfl
    simp only [placeE, h1, cond_false]
    exact placeE_none l _ (fun h' => h (List.mem_cons_of_mem _ h'))
theorem placeE_some {i : Nat} : ∀ (E : List Nat) (m n : Nat), E.Nodup → E[n]? = some i → placeE i E m = some (m + n)
  | [], _, _, _, h => by simp at h
  | e :: l, m, n, hn, h => by
    cases n with
    | zero =>
      have : e = i := by simpa using h
      subst this
      simp [placeE]
    | succ n =>
      have h' : l[n]? = some i := by simpa using h
      have hne : e ≠ i := fun e' => by
        subst e'
        exact (List.nodup_cons.1 hn).1 (List.mem_of_getElem? h')
      have h1 : Nat.beq e i = false := by
        cases hb : Nat.beq e i with
        | true => exact absurd (Nat.eq_of_beq_eq_true hb) hne
        | false => rfl
      simp only [placeE, h1, cond_false]
      rw [placeE_some l (m + 1) n (List.nodup_cons.1 hn).2 h']
      congr 1; omega
theorem filter_bound {p : Nat → Bool} : ∀ (E : List Nat) (k : Nat), (∀ m e, E[m]? = some e → p e = true → m < k) → (E.filter p).length ≤ k
  | [], k, _ => by simp
  | e :: l, k, h => by
    cases k with
    | zero =>
      have h1 : p e = false := by
        cases hb : p e with
        | true => exact absurd (h 0 e rfl hb) (by omega)
        | false => rfl
      rw [List.filter_cons_of_neg (by simp [h1])]
      exact filter_bound l 0 (fun m e' h2 h3 => by have := h (m + 1) e' (by simpa using h2) h3; omega)
    | succ k =>
      have := filter_bound l k (fun m e' h2 h3 => by have := h (m + 1) e' (by simpa using h2) h3; omega)
      rw [List.filter_cons]
      split <;> simp <;> omega
theorem filter_least {p : Nat → Bool} : ∀ (E : List Nat) (k : Nat), k ≤ E.length → (∀ m e, E[m]? = some e → m < k → p e = true) → k ≤ (E.filter p).length
  | [], k, hk, _ => by simpa using hk
  | e :: l, k, hk, h => by
    cases k with
    | zero => omega
    | succ k =>
      have h1 := h 0 e rfl (by omega)
      rw [List.filter_cons_of_pos h1]
      have := filter_least l k (by simpa using hk) (fun m e' h2 h3 => h (m + 1) e' (by simpa using h2) (by omega))
      simp; omega
end Go.Jt
set_option autoImplicit false
set_option linter.all false
namespace Go.Jt
open Go.RowKit (Below)
variable [Gl]

noncomputable def wantsB (g : Option (Nat × Bool)) (env : Env) : Option Bool := match g with
  | none => some true
  | some (t, w) => match lget env t with
    | .bool b => some (cond b w (!w))
    | .tup [] => some false
    | _ => none
theorem wants_eq (g : Option (Nat × Bool)) (env : Env) (yes no : Unit → Bool) : wants g env yes no = (match wantsB g env with
    | some true => yes ()
    | some false => no ()
    | none => false) := by
  unfold wants wantsB
  cases g with
  | none => rfl
  | some p =>
    obtain ⟨t, w⟩ := p
    simp only
    generalize lget env t = v
    cases v <;> first
      | rfl
      | (rename_i b; cases b <;> cases w <;> rfl)
      | (rename_i l; cases l <;> rfl)
theorem wantsB_loc {x : XOper} {env env' : Env} (h : agr (looks x) env env') : wantsB x.guard env = wantsB x.guard env' := by
  cases hg : x.guard with
  | none => rfl
  | some p =>
    obtain ⟨t, w⟩ := p
    have : lget env t = lget env' t := h t (by simp [looks, hg])
    simp only [wantsB, this]
theorem looks_op {x : XOper} {env env' : Env} (h : agr (looks x) env env') : agr (readsX x.op) env env' := h.left
theorem act_loc {cl : Cl} {o : XOp} {env env' : Env} (h : agr (readsX o) env env') (H : AH) (k : AV → AH → Bool) : act cl o env H k = act cl o env' H k := by
  by_cases hc : ∃ f as, o = .call f as
  · obtain ⟨f, as, rfl⟩ := hc
    show cl (ev env f) (as.map (ev env)) H k = cl (ev env' f) (as.map (ev env')) H k
    rw [ev_loc (o := f) h.left, evs_loc (l := as) h.right]
  · have e : ∀ env, act cl o env H k = xop o env H k := fun env => by
      unfold act
      split
      · exact absurd ⟨_, _, rfl⟩ hc
      · rfl
    rw [e, e]
    exact xop_loc h H k
theorem act_xop {cl : Cl} {o : XOp} (h : kindX o ≠ 3) (env : Env) (H : AH) (k : AV → AH → Bool) : act cl o env H k = xop o env H k := by
  unfold act
  split
  · exact absurd rfl h
  · rfl

/-- what is known of an operation that was run ahead: 'n0': the first block that is the region's own; 'p': the block that it laid -/
def Cert (n0 p : Nat) (x : XOper) (env : Env) (H : AH) (ι : Io) : Prop := ∃ v, (∀ d, x.dst = some d → d < env.length → lget env d = v) ∧
  ((wantsB x.guard env = some false ∧ v = .tup []) ∨ (wantsB x.guard env = some true ∧
    ((kindX x.op ≤ 1 ∧ ∀ k', xop x.op env H k' = k' v H) ∨
     (kindX x.op = 2 ∧ ∃ ob f, Alc x.op env ob f ∧ v = f p ∧ n0 ≤ p ∧ p < H.n ∧ H.get p = some ob ∧ ι p = none))))

theorem Cert.env {n0 p : Nat} {x : XOper} {env env' : Env} {H : AH} {ι : Io} (h : Cert n0 p x env H ι) (hl : env'.length = env.length) (h1 : agr (looks x) env env') (h2 : ∀ d, x.dst = some d → lget env' d = lget env d) : Cert n0 p x env' H ι := by
  obtain ⟨v, hv, hc⟩ := h
  refine ⟨v, fun d hd hlt => by rw [h2 d hd]; exact hv d hd (by omega), ?_⟩
  rcases hc with ⟨g1, g2⟩ | ⟨g1, g2⟩
  · exact Or.inl ⟨by rw [← wantsB_loc h1]; exact g1, g2⟩
  · refine Or.inr ⟨by rw [← wantsB_loc h1]; exact g1, ?_⟩
    rcases g2 with ⟨k1, k2⟩ | ⟨k1, ob, f, k2, k3⟩
    · exact Or.inl ⟨k1, fun k' => by rw [← xop_loc (looks_op h1)]; exact k2 k'⟩
    · exact Or.inr ⟨k1, ob, f, fun H k => by rw [← xop_loc (looks_op h1)]; exact k2 H k, k3⟩
theorem read_same {o : XOp} {env : Env} {H H' : AH} {v : AV} (hk : kindX o ≤ 1) (h : ∀ k', xop o env H k' = k' v H) (hs : kindX o = 0 ∨ H.sub H') : ∀ k', xop o env H' k' = k' v H' := by
  obtain ⟨v', _, h2⟩ := xop_read (k := fun _ _ => true) hk (h _)
  classical
  have e := h2 H (fun x _ => decide (x = v)) (Or.inr (AH.sub_refl H))
  rw [h] at e
  have : v' = v := by simpa using e.symm
  subst this
  exact fun k' => h2 H' k' hs
/-- some blocks more -/
theorem Cert.heap {n0 p : Nat} {x : XOper} {env : Env} {H H' : AH} {ι : Io} (h : Cert n0 p x env H ι) (hs : H.sub H') (hn : H.n ≤ H'.n) : Cert n0 p x env H' ι := by
  obtain ⟨v, hv, hc⟩ := h
  refine ⟨v, hv, ?_⟩
  rcases hc with hc | ⟨g1, g2⟩
  · exact Or.inl hc
  · refine Or.inr ⟨g1, ?_⟩
    rcases g2 with ⟨k1, k2⟩ | ⟨k1, ob, f, k2, k3, k4, k5, k6, k7⟩
    · exact Or.inl ⟨k1, read_same k1 k2 (Or.inr hs)⟩
    · exact Or.inr ⟨k1, ob, f, k2, k3, k4, by omega, hs _ _ k6, k7⟩
/-- behind a step, told of what does not read, or was looked at again -/
theorem Cert.step {P : Program} {base n0 p : Nat} {x : XOper} {env : Env} {H H' : AH} {ι ι' : Io} {w w' : World} (h : Cert n0 p x env H ι) (hnx : Nx P base ι H w ι' H' w')
    (hre : kindX x.op = 1 → wantsB x.guard env = some true → ∃ d v, x.dst = some d ∧ v = lget env d ∧ ∀ k', xop x.op env H' k' = k' v H') : Cert n0 p x env H' ι' := by
  obtain ⟨v, hv, hc⟩ := h
  rcases hc with hc | ⟨g1, g2⟩
  · exact ⟨v, hv, Or.inl hc⟩
  · rcases g2 with ⟨k1, k2⟩ | ⟨k1, ob, f, k2, k3, k4, k5, k6, k7⟩
    · by_cases h1 : kindX x.op = 1
      · obtain ⟨d, v', hd, hv', hx⟩ := hre h1 g1
        exact ⟨v', fun d' hd' _ => by rw [hd] at hd'; cases hd'; exact hv'.symm, Or.inr ⟨g1, Or.inl ⟨k1, hx⟩⟩⟩
      · exact ⟨v, hv, Or.inr ⟨g1, Or.inl ⟨k1, read_same k1 k2 (Or.inl (by omega))⟩⟩⟩
    · obtain ⟨s1, s2⟩ := hnx.stay p k5 k7
      exact ⟨v, hv, Or.inr ⟨g1, Or.inr ⟨k1, ob, f, k2, k3, k4, by have := hnx.n; omega, s2.trans k6, s1⟩⟩⟩
theorem Cert.io {n0 p : Nat} {x : XOper} {env : Env} {H : AH} {ι ι' : Io} (h : Cert n0 p x env H ι) (hi : kindX x.op = 2 → wantsB x.guard env = some true → ι p = none → ι' p = none) : Cert n0 p x env H ι' := by
  obtain ⟨v, hv, hc⟩ := h
  refine ⟨v, hv, ?_⟩
  rcases hc with hc | ⟨g1, g2⟩
  · exact Or.inl hc
  · refine Or.inr ⟨g1, ?_⟩
    rcases g2 with g2 | ⟨k1, ob, f, k2, k3, k4, k5, k6, k7⟩
    · exact Or.inl g2
    · exact Or.inr ⟨k1, ob, f, k2, k3, k4, k5, k6, hi k1 g1 k7⟩

/-! ### a segment, run in the abstract -/
theorem run_agains {cl : Cl} {X : List XOper} {env : Env} {H : AH} : ∀ (js : List Nat) (rest : List DStep) (K : Env → AH → Bool), (∀ i ∈ js, kindX (opAt X i).op = 1) → runD cl ((js.map fun i => DStep.again (opAt X i)) ++ rest) env H K = true →
    runD cl rest env H K = true ∧ ∀ i ∈ js, wantsB (opAt X i).guard env = some true → kindX (opAt X i).op = 1 → ∃ d v, (opAt X i).dst = some d ∧ v = lget env d ∧ ∀ k', xop (opAt X i).op env H k' = k' v H
  | [], rest, K, _, h => ⟨h, fun i hi => by cases hi⟩
  | j :: js, rest, K, hjs, h => by
    have h' : wants (opAt X j).guard env (fun _ => match (opAt X j).dst with
      | some d => xop (opAt X j).op env H fun v _ => cond (same v (lget env d)) (runD cl ((js.map fun i => DStep.again (opAt X i)) ++ rest) env H K) false
      | none => false) (fun _ => runD cl ((js.map fun i => DStep.again (opAt X i)) ++ rest) env H K) = true := h
    rw [wants_eq] at h'
    split at h'
    · rename_i hw
      split at h'
      · rename_i d hd
        have hk : kindX (opAt X j).op ≤ 1 := by rw [hjs j (by simp)]; omega
        · obtain ⟨v, h1, h2⟩ := xop_read hk h'
          obtain ⟨h3, h4⟩ := cond_true_inv h1
          have hv := same_eq h3
          obtain ⟨g1, g2⟩ := run_agains js rest K (fun i hi => hjs i (List.mem_cons_of_mem _ hi)) h4
          refine ⟨g1, fun i hi hw' hk' => ?_⟩
          rcases List.mem_cons.1 hi with rfl | hi
          · exact ⟨d, v, hd, hv, fun k' => h2 H k' (Or.inr (AH.sub_refl H))⟩
          · exact g2 i hi hw' hk'
      · cases h'
    · rename_i hw
      obtain ⟨g1, g2⟩ := run_agains js rest K (fun i hi => hjs i (List.mem_cons_of_mem _ hi)) h'
      refine ⟨g1, fun i hi hw' hk' => ?_⟩
      rcases List.mem_cons.1 hi with rfl | hi
      · rw [hw] at hw'; cases hw'
      · exact g2 i hi hw' hk'
    · cases h'
end Go.Jt
set_option autoImplicit false
set_option linter.all false
namespace Go.Jt
open Go.RowKit (Below)
variable [Gl]

theorem xop_alloc {o : XOp} {env : Env} {H : AH} {k : AV → AH → Bool} (hk : kindX o = 2) (h : xop o env H k = true) : ∃ ob f, Alc o env ob f := by
  cases o <;> first | (exfalso; revert hk; simp [kindX]; done) | skip
  case alloc z => exact ⟨.cells z false false, fun b => .ptr b 0, fun H k => alc_alc _ _ H k⟩
  case box x =>
    obtain ⟨ob, f, e, hk'⟩ := alc_inv (show alc (boxed (ev env x)) H k = true from h)
    exact ⟨ob, f, fun H k => by show alc (boxed (ev env x)) H k = _; rw [e, alc_alc]⟩
  case mkm => exact ⟨.mp [] 0, fun b => .map b, fun H k => alc_alc _ _ H k⟩
  case rng x =>
    simp only [xop] at h
    split at h
    · rename_i l e
      exact ⟨.sit l 0, fun b => .ptr b 0, fun H k => by simp only [xop, e]; exact alc_alc _ _ H k⟩
    · cases h
  case s2b x =>
    simp only [xop] at h
    split at h
    · rename_i l e
      exact ⟨.cells (Rp.ofL (l.map fun c => .int .u8 (Int.ofNat c))) true false, fun b => .slu b 0 (llen l 0) 1, fun H k => by simp only [xop, e, fN_eq]; exact alc_alc _ _ H k⟩
    · cases h
  case mks es bytes z l c =>
    simp only [xop] at h
    split at h
    · rename_i q m q' n e1 e2
      rw [fN_eq, fN_eq] at h
      obtain ⟨h1, h2⟩ := cond_true_inv h
      obtain ⟨h3, h4⟩ := cond_true_inv h2
      obtain ⟨h5, h6⟩ := cond_true_inv h4
      exact ⟨.cells (zeros n z) false false, fun b => .slc b 0 m n, fun H k => by simp only [xop, e1, e2, fN_eq, h1, h3, h5, cond_true]; exact alc_alc _ _ H k⟩
    · cases h
  case bsl n z l =>
    simp only [xop] at h
    obtain ⟨r, h1, e⟩ := fillIn_det l z h
    exact ⟨.cells r false false, fun b => .slc b 0 n n, fun H k => by simp only [xop]; rw [e]; exact alc_alc _ _ H k⟩

section
variable {P : Program} {base : Nat} {ops : Array Oper} {X : List XOper} {b E : List Nat} {cl : Cl}

theorem Nx.idle {ι : Io} {H : AH} {w : World} (h : HR P base ι H w) (o : AObj) : Nx P base ι H w ι (H.new o) w :=
  ⟨Io.le_refl _, h.idle o, fun x hx hn => ⟨hn, by rw [AH.get_new, if_neg (by omega)]⟩, by rw [AH.n_new]; omega, Below.refl _ _⟩
theorem sub_new {ι : Io} {H : AH} {w : World} (h : HR P base ι H w) (o : AObj) : H.sub (H.new o) := fun x ox hx => by
  have := h.dom x ox hx
  rw [AH.get_new, if_neg (by omega)]; exact hx
theorem setd_len (d : Option Nat) (v : AV) (env : Env) : (setd d v env).length = env.length := by
  cases d with
  | none => rfl
  | some d => show (lset env d v).length = _; rw [lset_eq]; simp
theorem setd_other {d : Option Nat} {v : AV} {env : Env} {t : Nat} (h : d ≠ some t) : lget (setd d v env) t = lget env t := by
  cases d with
  | none => rfl
  | some d =>
    show lget (lset env d v) t = _
    have hne : d ≠ t := fun e => h (by rw [e])
    rw [lset_eq, lget_eq, lget_eq, List.getD_eq_getElem?_getD, List.getElem?_set, if_neg hne, List.getD_eq_getElem?_getD]
theorem setd_here {d : Nat} {v : AV} {env : Env} (h : d < env.length) : lget (setd (some d) v env) d = v := by
  show lget (lset env d v) d = _
  rw [lset_eq, lget_eq, List.getD_eq_getElem?_getD, List.getElem?_set, if_pos rfl, if_pos h]; rfl
theorem Cert.pend_lt {n0 p : Nat} {x : XOper} {env : Env} {H : AH} {ι : Io} (h : Cert n0 p x env H ι) (hk : kindX x.op = 2) (hw : wantsB x.guard env = some true) : p < H.n := by
  obtain ⟨v, _, ⟨g1, _⟩ | ⟨_, ⟨k1, _⟩ | ⟨_, ob, f, _, _, _, k5, _⟩⟩⟩ := h
  · rw [hw] at g1; cases g1
  · omega
  · exact k5

/-- the blocks laid ahead are unlike -/
def Unlike (X : List XOper) (A : Nat → Prop) (env : Env) (pend : Nat → Nat) : Prop := ∀ i i', A i → A i' → kindX (opAt X i).op = 2 → kindX (opAt X i').op = 2 → wantsB (opAt X i).guard env = some true → wantsB (opAt X i').guard env = some true → pend i = pend i' → i = i'

theorem run_runs (hO : Okd P ops X b E) (k n0 : Nat) : ∀ (js : List Nat) (A : Nat → Prop) (env : Env) (H : AH) (ι : Io) (w : World) (K : Env → AH → Bool) (pend : Nat → Nat), js.Pairwise (· < ·) →
    (∀ j ∈ js, j < ops.size ∧ j ∉ E ∧ lo b E j = k) → (∀ i, A i → i < ops.size ∧ i ∉ E ∧ (lo b E i < k ∨ (lo b E i = k ∧ ∀ j ∈ js, i < j))) →
    HR P base ι H w → n0 ≤ H.n → (∀ i, A i → Cert n0 (pend i) (opAt X i) env H ι) → Unlike X A env pend → runD cl (js.map fun i => DStep.run (opAt X i)) env H K = true →
    ∃ env' H' pend', K env' H' = true ∧ Nx P base ι H w ι H' w ∧ env'.length = env.length ∧ (∀ i, A i ∨ i ∈ js → Cert n0 (pend' i) (opAt X i) env' H' ι) ∧ Unlike X (fun i => A i ∨ i ∈ js) env' pend' ∧
      ∀ t, (∀ j ∈ js, (opAt X j).dst ≠ some t) → lget env' t = lget env t
  | [], A, env, H, ι, w, K, pend, _, _, _, hr, _, hc, hu, h => ⟨env, H, pend, h, Nx.refl hr, rfl, fun i hi => hc i (hi.resolve_right (by simp)), fun i i' h1 h2 => hu i i' (h1.resolve_right (by simp)) (h2.resolve_right (by simp)), fun _ _ => rfl⟩
  | j :: js, A, env, H, ι, w, K, pend, hs, hj, hA, hr, hn0, hc, hu, h => by
    obtain ⟨hs1, hs2⟩ := List.pairwise_cons.1 hs
    obtain ⟨hjn, hj3, hjk⟩ := hj j (by simp)
    -- place of j in the abstract run, and of those that were run ahead
    have hplace : ∀ i, i < ops.size → i ∉ E → keyX b E i = 2 * lo b E i := fun i hi h3 => by
      unfold keyX
      rw [placeE_none E 0 h3]
    have quiet : ∀ i, A i ∨ i = j → ∀ d, (opAt X j).dst = some d → d ∉ looks (opAt X i) := fun i hi d hd hl => by
      have hin : i < ops.size := by
        rcases hi with hi | hi
        · exact (hA i hi).1
        · rw [hi]; exact hjn
      obtain ⟨hne, hlk⟩ := hO.look j d hjn hd i hin hl
      have hah : ahead b E j i = true := hlk.elim (fun h => h.2) (fun h => absurd h.2 hj3)
      rcases hi with hi | hi
      · obtain ⟨_, hi3, hik⟩ := hA i hi
        unfold ahead at hah
        rw [hplace j hjn hj3, hplace i hin hi3, hjk] at hah
        simp only [Bool.or_eq_true, Bool.and_eq_true] at hah
        rcases hah with hah | ⟨hah1, hah2⟩
        · have h1 : 2 * k < 2 * lo b E i := Nat.le_of_ble_eq_true hah
          rcases hik with hik | ⟨hik, _⟩ <;> omega
        · have h1 := Nat.eq_of_beq_eq_true hah1
          have h2 : j < i := Nat.le_of_ble_eq_true hah2
          rcases hik with hik | ⟨_, hik⟩
          · omega
          · have := hik j (by simp); omega
      · exact hne hi
    have apart : ∀ i, A i → ∀ d, (opAt X i).dst = some d → (opAt X j).dst ≠ some d := fun i hi d hd => by
      obtain ⟨hin, _, hik⟩ := hA i hi
      refine hO.one i d hin hd j hjn (fun e => ?_)
      subst e
      rcases hik with hik | ⟨_, hik⟩
      · omega
      · have := hik j (by simp); omega
    have agj : ∀ v i, A i ∨ i = j → agr (looks (opAt X i)) env (setd (opAt X j).dst v env) := fun v i hi t ht => (setd_other (fun hd => quiet i hi t hd ht)).symm
    -- on with the rest
    have next : ∀ (v : AV) (H' : AH) (p : Nat), Nx P base ι H w ι H' w → H.sub H' → Cert n0 p (opAt X j) (setd (opAt X j).dst v env) H' ι → (kindX (opAt X j).op = 2 → wantsB (opAt X j).guard env = some true → p = H.n) →
        runD cl (js.map fun i => DStep.run (opAt X i)) (setd (opAt X j).dst v env) H' K = true → ∃ env' H' pend', K env' H' = true ∧ Nx P base ι H w ι H' w ∧ env'.length = env.length ∧ (∀ i, A i ∨ i ∈ j :: js → Cert n0 (pend' i) (opAt X i) env' H' ι) ∧ Unlike X (fun i => A i ∨ i ∈ j :: js) env' pend' ∧
          ∀ t, (∀ i ∈ j :: js, (opAt X i).dst ≠ some t) → lget env' t = lget env t := fun v H' p hnx hsub hcj hp hK => by
      have notA : ¬ A j := fun hAj => by
        rcases (hA j hAj).2.2 with h1 | ⟨_, h1⟩
        · omega
        · have := h1 j (by simp); omega
      obtain ⟨env2, H2, pend2, r1, r2, r3, r4, r5, r6⟩ := run_runs hO k n0 js (fun i => A i ∨ i = j) (setd (opAt X j).dst v env) H' ι w K (fun i => if i = j then p else pend i) hs2 (fun i hi => hj i (List.mem_cons_of_mem _ hi)) (fun i hi => by
          rcases hi with hi | hi
          · obtain ⟨a1, a2, a3⟩ := hA i hi
            refine ⟨a1, a2, ?_⟩
            rcases a3 with a3 | ⟨a3, a4⟩
            · exact Or.inl a3
            · exact Or.inr ⟨a3, fun j' hj' => a4 j' (List.mem_cons_of_mem _ hj')⟩
          · subst hi
            exact ⟨hjn, hj3, Or.inr ⟨hjk, fun j' hj' => hs1 j' hj'⟩⟩) hnx.hr (by have := hnx.n; omega) (fun i hi => by
          by_cases hij : i = j
          · subst hij; simp only [if_true]; exact hcj
          · simp only [if_neg hij]
            have hAi := hi.resolve_right hij
            exact ((hc i hAi).heap hsub hnx.n).env (setd_len _ _ _) (agj v i hi) (fun d hd => setd_other (apart i hAi d hd))) (fun i i' hi hi' k1 k2 w1 w2 hpp => by
          have u1 : ∀ i, A i ∨ i = j → wantsB (opAt X i).guard (setd (opAt X j).dst v env) = wantsB (opAt X i).guard env := fun i hi => (wantsB_loc (agj v i hi)).symm
          rw [u1 i hi] at w1
          rw [u1 i' hi'] at w2
          dsimp only at hpp
          by_cases hij : i = j
          · by_cases hij' : i' = j
            · rw [hij, hij']
            · exfalso
              have hAi' := hi'.resolve_right hij'
              rw [if_pos hij, if_neg hij'] at hpp
              have := (hc i' hAi').pend_lt k2 w2
              rw [hij] at k1 w1
              have := hp k1 w1
              omega
          · by_cases hij' : i' = j
            · exfalso
              have hAi := hi.resolve_right hij
              rw [if_neg hij, if_pos hij'] at hpp
              have := (hc i hAi).pend_lt k1 w1
              rw [hij'] at k2 w2
              have := hp k2 w2
              omega
            · rw [if_neg hij, if_neg hij'] at hpp
              exact hu i i' (hi.resolve_right hij) (hi'.resolve_right hij') k1 k2 w1 w2 hpp) hK
      refine ⟨env2, H2, pend2, r1, hnx.trans r2, r3.trans (setd_len _ _ _), fun i hi => r4 i ?_, fun i i' h1 h2 => r5 i i' ?_ ?_, fun t ht => ?_⟩
      · rcases hi with hi | hi
        · exact Or.inl (Or.inl hi)
        · rcases List.mem_cons.1 hi with hi | hi
          · exact Or.inl (Or.inr hi)
          · exact Or.inr hi
      · rcases h1 with hi | hi
        · exact Or.inl (Or.inl hi)
        · rcases List.mem_cons.1 hi with hi | hi
          · exact Or.inl (Or.inr hi)
          · exact Or.inr hi
      · rcases h2 with hi | hi
        · exact Or.inl (Or.inl hi)
        · rcases List.mem_cons.1 hi with hi | hi
          · exact Or.inl (Or.inr hi)
          · exact Or.inr hi
      · rw [r6 t (fun i hi => ht i (List.mem_cons_of_mem _ hi))]
        exact setd_other (ht j (by simp))
    have h' : wants (opAt X j).guard env (fun _ => act cl (opAt X j).op env H fun v H => runD cl (js.map fun i => DStep.run (opAt X i)) (setd (opAt X j).dst v env) H K)
      (fun _ => runD cl (js.map fun i => DStep.run (opAt X i)) (setd (opAt X j).dst (.tup []) env) H K) = true := h
    rw [wants_eq] at h'
    have here : ∀ v d, (opAt X j).dst = some d → d < (setd (opAt X j).dst v env).length → lget (setd (opAt X j).dst v env) d = v := fun v d hd hl => by
      rw [setd_len] at hl
      rw [hd]; exact setd_here hl
    split at h'
    · rename_i hw
      rw [act_xop (hO.notE j hjn hj3)] at h'
      have hw' : ∀ v, wantsB (opAt X j).guard (setd (opAt X j).dst v env) = some true := fun v => by rw [← wantsB_loc (agj v j (Or.inr rfl))]; exact hw
      by_cases hk1 : kindX (opAt X j).op ≤ 1
      · obtain ⟨v, h1, h2⟩ := xop_read hk1 h'
        exact next v H 0 (Nx.refl hr) (AH.sub_refl H) ⟨v, here v, Or.inr ⟨hw' v, Or.inl ⟨hk1, fun k' => by rw [← xop_loc (looks_op (agj v j (Or.inr rfl)))]; exact h2 H k' (Or.inr (AH.sub_refl H))⟩⟩⟩ (fun h2 => by omega) h1
      · have hk2 : kindX (opAt X j).op = 2 := by
          have : kindX (opAt X j).op ≤ 3 := by unfold kindX; split <;> omega
          have := hO.notE j hjn hj3
          omega
        obtain ⟨ob, f, hal⟩ := xop_alloc hk2 h'
        rw [hal] at h'
        refine next (f H.n) (H.new ob) H.n (Nx.idle hr ob) (sub_new hr ob) ⟨f H.n, here _, Or.inr ⟨hw' _, Or.inr ⟨hk2, ob, f, fun H k => by rw [← xop_loc (looks_op (agj _ j (Or.inr rfl)))]; exact hal H k, rfl, hn0, by rw [AH.n_new]; omega, by rw [AH.get_new, if_pos rfl], hr.fresh _ (Nat.le_refl _)⟩⟩⟩ (fun _ _ => rfl) h'
    · rename_i hw
      exact next (.tup []) H 0 (Nx.refl hr) (AH.sub_refl H) ⟨.tup [], here _, Or.inl ⟨by rw [← wantsB_loc (agj _ j (Or.inr rfl))]; exact hw, rfl⟩⟩ (fun _ hw2 => by rw [hw] at hw2; cases hw2) h'
    · cases h'
end
end Go.Jt
set_option autoImplicit false
set_option linter.all false
namespace Go.Jt
open Go.RowKit (Below)
variable [Gl]

section
variable {P : Program} {base : Nat} {ops : Array Oper} {X : List XOper} {b E : List Nat} {cl : Cl} {ro : Option Nat}

/-- 'listed': what the model has done; 'k': so many effects of these; env, H: the abstract run just ahead of effect k -/
structure Inv (P : Program) (base : Nat) (ops : Array Oper) (X : List XOper) (b E : List Nat) (cl : Cl) (kk : Env → AH → Bool) (ι0 : Io) (H0 : AH) (w0 : World) (ds0 : List Deferred) (listed : Array Bool) (k : Nat) (env : Env) (H : AH) (ι : Io) (a : Act) (w : World) (pend : Nat → Nat) : Prop where
  size : listed.size = ops.size
  nx : Nx P base ι0 H0 w0 ι H w
  df : a.defers = ds0
  clo : ∀ i j, listed.getD i false = true → j < ops.size → pre b j i = true → listed.getD j false = true
  eff : ∀ (m e : Nat), E[m]? = some e → (listed.getD e false = true ↔ m < k)
  tm : ∃ envc, rowR ι envc a.tmps ∧ envc.length = env.length ∧ ∀ t, (∀ j, j < ops.size → listed.getD j false = false → j ∉ E → (opAt X j).dst ≠ some t) → lget envc t = lget env t
  cert : ∀ i, (i < ops.size ∧ listed.getD i false = false ∧ i ∉ E ∧ lo b E i ≤ k) → Cert H0.n (pend i) (opAt X i) env H ι
  unl : Unlike X (fun i => i < ops.size ∧ listed.getD i false = false ∧ i ∉ E ∧ lo b E i ≤ k) env pend
  go : runS cl (restOf X b E (E.drop k) k) env H kk = true
  kle : k ≤ E.length

theorem getD_set_self {l : Array Bool} {i : Nat} (h : i < l.size) (d : Bool) : (l.setIfInBounds i true).getD i d = true := by simp [Array.getD, h]
theorem getD_set_not {l : Array Bool} {i j : Nat} (h : i ≠ j) (d : Bool) : (l.setIfInBounds i true).getD j d = l.getD j d := by
  rw [Array.getD_eq_getD_getElem?, Array.getD_eq_getD_getElem?, Array.getElem?_setIfInBounds, if_neg h]
theorem filter_less {p q : Nat → Bool} : ∀ (l : List Nat), (∀ x, q x = true → p x = true) → (∃ x ∈ l, p x = true ∧ q x = false) → (l.filter q).length < (l.filter p).length
  | [], _, h => by obtain ⟨x, hx, _⟩ := h; cases hx
  | y :: l, hq, h => by
    have le : ∀ l : List Nat, (l.filter q).length ≤ (l.filter p).length := fun l => by
      induction l with
      | nil => simp
      | cons z l ih =>
        rw [List.filter_cons, List.filter_cons]
        cases h1 : q z with
        | true => rw [hq z h1]; simpa using ih
        | false => cases p z <;> simp <;> omega
    obtain ⟨x, hx, h1, h2⟩ := h
    rw [List.filter_cons, List.filter_cons]
    rcases List.mem_cons.1 hx with rfl | hx
    · rw [h1, h2]
      have := le l
      simp; omega
    · have := filter_less l hq ⟨x, hx, h1, h2⟩
      cases h3 : q y with
      | true => rw [hq y h3]; simpa using this
      | false => cases p y <;> simp <;> omega
def open_ (ops : Array Oper) (listed : Array Bool) : Nat := ((List.range ops.size).filter fun i => !(listed.getD i false)).length

variable {kk : Env → AH → Bool} {ι0 : Io} {H0 : AH} {w0 : World} {ds0 : List Deferred}

/-- what may come next has all behind it that comes ahead of it -/
theorem ready_clo (hO : Okd P ops X b E) {listed : Array Bool} {k : Nat} {env : Env} {H : AH} {ι : Io} {a : Act} {w : World} {pend : Nat → Nat} (hI : Inv P base ops X b E cl kk ι0 H0 w0 ds0 listed k env H ι a w pend) {i : Nat} (hi : i ∈ Region.ready .any ops listed) :
    i < ops.size ∧ listed.getD i false = false ∧ (∃ o, ops[i]? = some o) ∧ ∀ j, j < ops.size → pre b j i = true → listed.getD j false = true := by
  obtain ⟨h1, o, ho, h2⟩ := mem_ready.1 hi
  have hin : i < ops.size := (Array.getElem?_eq_some_iff.1 ho).1
  refine ⟨hin, ?_, ⟨o, ho⟩, fun j hj hp => ?_⟩
  · have hs : i < listed.size := by rw [hI.size]; exact hin
    simp only [Array.getD, hs, dif_pos] at h1 ⊢
    exact h1
  · obtain ⟨e, he, hb, hor⟩ := hO.edge i o ho j hj hp
    have h3 := h2 e he hb
    rcases hor with hor | hor
    · rw [← hor]; exact h3
    · exact hI.clo _ j h3 hj hor
theorem agr_of (hO : Okd P ops X b E) {listed : Array Bool} {env envc : Env} {i : Nat} (hin : i < ops.size) (hpre : ∀ j, j < ops.size → pre b j i = true → listed.getD j false = true)
    (h : ∀ t, (∀ j, j < ops.size → listed.getD j false = false → j ∉ E → (opAt X j).dst ≠ some t) → lget envc t = lget env t) : agr (looks (opAt X i)) envc env := fun t ht => h t (fun j hj hl hnE hd => by
  have := hpre j hj ((hO.look j t hj hd i hin ht).2.elim (fun h => h.1) (fun h => absurd h.2 hnE))
  rw [hl] at this; cases this)
theorem lo_le (hO : Okd P ops X b E) {listed : Array Bool} {k i : Nat} (hpre : ∀ j, j < ops.size → pre b j i = true → listed.getD j false = true) (heff : ∀ (m e : Nat), E[m]? = some e → (listed.getD e false = true ↔ m < k)) : lo b E i ≤ k :=
  filter_bound E k (fun m e hm hp => (heff m e hm).1 (hpre e (hO.inE e (List.mem_of_getElem? hm)) hp))

/-- one that is no effect is done -/
theorem inv_step (hO : Okd P ops X b E) {listed : Array Bool} {k : Nat} {env : Env} {H : AH} {ι : Io} {a : Act} {w : World} {pend : Nat → Nat} (hI : Inv P base ops X b E cl kk ι0 H0 w0 ds0 listed k env H ι a w pend) {i : Nat} (hin : i < ops.size) (hl : listed.getD i false = false)
    (hpre : ∀ j, j < ops.size → pre b j i = true → listed.getD j false = true) (h3 : i ∉ E) {v : AV} (hv : ∀ d, (opAt X i).dst = some d → d < env.length → lget env d = v) {ι' : Io} {w' : World} {cv : Value} (hnx : Nx P base ι0 H0 w0 ι' H w') (hle : ι.le ι') (hvr : VR ι' v cv)
    (hpend : ∀ i', i' < ops.size → listed.getD i' false = false → kindX (opAt X i').op = 2 → wantsB (opAt X i').guard env = some true → i' ≠ i → i' ∉ E → lo b E i' ≤ k → ι (pend i') = none → ι' (pend i') = none) :
    Inv P base ops X b E cl kk ι0 H0 w0 ds0 (listed.setIfInBounds i true) k env H ι' (a.put (opAt X i).dst cv) w' pend := by
  have hs : i < listed.size := by rw [hI.size]; exact hin
  have un : ∀ i', (listed.setIfInBounds i true).getD i' false = false → i' ≠ i ∧ listed.getD i' false = false := fun i' h => by
    by_cases e : i = i'
    · subst e; rw [getD_set_self hs] at h; cases h
    · rw [getD_set_not e] at h; exact ⟨fun e' => e e'.symm, h⟩
  have ls : ∀ i', listed.getD i' false = true → (listed.setIfInBounds i true).getD i' false = true := fun i' h => by
    by_cases e : i = i'
    · subst e; exact getD_set_self hs _
    · rw [getD_set_not e]; exact h
  obtain ⟨envc, t1, t2, t3⟩ := hI.tm
  refine ⟨by simp [hI.size], hnx, (put_defers _ _).trans hI.df, fun i' j h1 h2 h4 => ?_, fun m e hm => ?_, ⟨setd (opAt X i).dst v envc, rowR_put (t1.mono hle) hvr, by rw [setd_len]; exact t2, fun t ht => ?_⟩, fun i' hi' => ?_, fun i1 i2 g1 g2 => ?_, hI.go, hI.kle⟩
  · by_cases e : i = i'
    · subst e; exact ls j (hpre j h2 h4)
    · rw [getD_set_not e] at h1
      exact ls j (hI.clo i' j h1 h2 h4)
  · have hne : i ≠ e := fun e' => by
      subst e'
      exact h3 (List.mem_of_getElem? hm)
    rw [getD_set_not hne]
    exact hI.eff m e hm
  · by_cases hd : (opAt X i).dst = some t
    · rw [hd]
      by_cases hlt : t < env.length
      · rw [setd_here (by rw [t2]; exact hlt), hv t hd hlt]
      · show lget (lset envc t v) t = _
        have e1 : ¬ t < (lset envc t v).length := by rw [lset_eq]; simp; omega
        rw [lget_eq, lget_eq, getD_over _ _ (by omega), getD_over _ _ (by omega)]
    · rw [setd_other hd]
      refine t3 t (fun j hj hlj hnE => ?_)
      by_cases e : i = j
      · subst e; exact hd
      · exact ht j hj (by rw [getD_set_not e]; exact hlj) hnE
  · obtain ⟨c1, c2, c3, c4⟩ := hi'
    obtain ⟨n1, n2⟩ := un i' c2
    exact (hI.cert i' ⟨c1, n2, c3, c4⟩).io (fun q1 q2 q3 => hpend i' c1 n2 q1 q2 n1 c3 c4 q3)
  · exact hI.unl i1 i2 ⟨g1.1, (un i1 g1.2.1).2, g1.2.2⟩ ⟨g2.1, (un i2 g2.2.1).2, g2.2.2⟩

theorem wp_step (hO : Okd P ops X b E) {listed : Array Bool} {k : Nat} {env : Env} {H : AH} {ι : Io} {a : Act} {w : World} {pend : Nat → Nat} (hI : Inv P base ops X b E cl kk ι0 H0 w0 ds0 listed k env H ι a w pend) {i : Nat} (hi : i ∈ Region.ready .any ops listed) (h3 : i ∉ E)
    {K : Act → World → Prop} {Q : Exit → Act → World → Prop} (hcl : ClS P cl) (hK : ∀ ι' a' w' pend', Inv P base ops X b E cl kk ι0 H0 w0 ds0 (listed.setIfInBounds i true) k env H ι' a' w' pend' → K a' w') : wpOpIn (FW ro) 0 P ops Q i K a w := by
  obtain ⟨hin, hl, ⟨o, ho⟩, hpre⟩ := ready_clo hO hI hi
  have hlo := lo_le hO hpre hI.eff
  obtain ⟨v, hv, hc⟩ := hI.cert i ⟨hin, hl, h3, hlo⟩
  obtain ⟨envc, t1, t2, t3⟩ := hI.tm
  have hag := agr_of hO hin hpre t3
  have hcomp := hO.at_ i o ho
  obtain ⟨g, hg, hx⟩ := compO_inv hcomp
  have hop : (opAt X i).op = compOp P o := by rw [hx]
  have hdst : (opAt X i).dst = o.dst := by rw [hx]
  have hgd : (opAt X i).guard = g := by rw [hx]
  unfold wpOpIn
  simp only [ho]
  have hw : ∀ yes no : Unit → Bool, wants g envc yes no = wants g env yes no := fun yes no => by
    rw [wants_eq, wants_eq, ← hgd, wantsB_loc hag]
  rcases hc with ⟨c1, c2⟩ | ⟨c1, c2⟩
  · have h4 : wants g envc (fun _ => false) (fun _ => true) = true := by rw [hw, wants_eq, ← hgd, c1]
    rcases wants_sound hg t1 h4 with ⟨_, h5⟩ | ⟨h5, _⟩
    · cases h5
    · rw [if_neg (by rw [h5]; exact Bool.false_ne_true)]
      refine ⟨fun f _ => FW_fn ro f, ?_⟩
      rw [← hdst]
      refine hK ι _ w pend (inv_step hO hI hin hl hpre h3 hv hI.nx (Io.le_refl _) (by rw [c2]; exact VR_skip ι) (fun _ _ _ _ _ _ _ _ h => h))
  · have h4 : wants g envc (fun _ => true) (fun _ => false) = true := by rw [hw, wants_eq, ← hgd, c1]
    rcases wants_sound hg t1 h4 with ⟨h5, _⟩ | ⟨_, h5⟩
    · rw [if_pos h5]
      rcases c2 with ⟨k1, k2⟩ | ⟨k1, ob, f, k2, k3, k4, k5, k6, k7⟩
      · classical
        have h6 : act cl (compOp P o) envc H (fun v' H' => decide (v' = v ∧ H' = H)) = true := by
          rw [← hop, act_xop (hO.notE i hin h3), xop_loc (looks_op hag), k2]
          simp
        refine act_sound hcl hI.nx.hr t1 h6 (fun v' H' ι' cv w' hnx hvr hk => ?_)
        simp at hk
        obtain ⟨rfl, rfl⟩ := hk
        rw [← hdst]
        refine hK ι' _ w' pend (inv_step hO hI hin hl hpre h3 hv (hI.nx.trans hnx) hnx.le hvr (fun i' q1 q2 q3 q4 q5 qE q6 q7 => ?_))
        exact (hnx.stay _ ((hI.cert i' ⟨q1, q2, qE, q6⟩).pend_lt q3 q4) q7).1
      · have hk2 : kindX (compOp P o) = 2 := by rw [← hop]; exact k1
        have h6 : xop (compOp P o) envc H (fun _ _ => true) = true := by
          rw [← hop, xop_loc (looks_op hag), k2]
        obtain ⟨ob', f', al, cv, c, sz, w', hrun, hheap, e1, e2, e3, hor, hvr⟩ := laid_op o hk2 hI.nx.hr.below t1 h6
        have hsame := Alc.same (o := (opAt X i).op) (env := env) k2 (fun H k => by rw [← xop_loc (looks_op hag), hop]; exact al H k)
        obtain ⟨rfl, rfl⟩ := hsame
        refine ⟨fun f _ => FW_fn ro f, ?_⟩
        have hd : ∀ c, o.op ≠ .defer c := fun c h => by rw [compOp_defer h] at hk2; cases hk2
        rw [Oper.semAt_eq _ _ _ hd, hrun, Oper.uponIn_value, ← hdst]
        have hle := Io.ext_le ι (pend i) ⟨w.heap.size, 0, sz⟩ k7
        have hhr := hI.nx.hr.lay (sz := sz) k6 k7 hheap (hor _ hle)
        have hnx : Nx P base ι0 H0 w0 (ι.ext (pend i) ⟨w.heap.size, 0, sz⟩) H w' := by
          refine ⟨Io.le_trans hI.nx.le hle, hhr, fun x hx hn => ?_, hI.nx.n, hI.nx.below.trans (below_push hheap e1 e2 e3 hI.nx.hr.below)⟩
          obtain ⟨s1, s2⟩ := hI.nx.stay x hx hn
          refine ⟨?_, s2⟩
          unfold Io.ext
          rw [if_neg (by omega)]
          exact s1
        refine hK _ _ w' pend (inv_step hO hI hin hl hpre h3 hv hnx hle (by rw [k3]; exact hvr _ _ (Io.ext_self _ _ _)) (fun i' q1 q2 q3 q4 q5 qE q6 q7 => ?_))
        unfold Io.ext
        rw [if_neg (fun e => q5 (hI.unl i' i ⟨q1, q2, qE, q6⟩ ⟨hin, hl, h3, hlo⟩ q3 k1 q4 c1 e))]
        exact q7
    · cases h5
end
end Go.Jt
set_option autoImplicit false
set_option linter.all false
namespace Go.Jt
open Go.RowKit (Below)
variable [Gl]

section
variable {P : Program} {base : Nat} {ops : Array Oper} {X : List XOper} {b E : List Nat} {cl : Cl} {ro : Option Nat}
variable {kk : Env → AH → Bool} {ι0 : Io} {H0 : AH} {w0 : World} {ds0 : List Deferred}

/-- the steps up to the next effect are run in the abstract -/
theorem mem_runL (hO : Okd P ops X b E) (k j : Nat) : j ∈ runL X b E k ↔ j < ops.size ∧ j ∉ E ∧ lo b E j = k := by
  unfold runL
  rw [List.mem_filter, List.mem_range, hO.len]
  simp only [Bool.and_eq_true, Bool.not_eq_true', List.contains_eq_mem, decide_eq_false_iff_not]
  constructor
  · rintro ⟨h1, h2, h3⟩
    exact ⟨h1, h2, Nat.eq_of_beq_eq_true h3⟩
  · rintro ⟨h1, h2, h3⟩
    exact ⟨h1, h2, by rw [h3]; exact Nat.beq_refl k⟩
theorem seg_inv (hO : Okd P ops X b E) {listed : Array Bool} {k : Nat} {env : Env} {H : AH} {ι : Io} {a : Act} {w : World} {pend : Nat → Nat} (size : listed.size = ops.size) (nx : Nx P base ι0 H0 w0 ι H w) (df : a.defers = ds0)
    (clo : ∀ i j, listed.getD i false = true → j < ops.size → pre b j i = true → listed.getD j false = true) (eff : ∀ (m e : Nat), E[m]? = some e → (listed.getD e false = true ↔ m < k))
    (tm : ∃ envc, rowR ι envc a.tmps ∧ envc.length = env.length ∧ ∀ t, (∀ j, j < ops.size → listed.getD j false = false → j ∉ E → (opAt X j).dst ≠ some t) → lget envc t = lget env t)
    (cert : ∀ i, (i < ops.size ∧ listed.getD i false = false ∧ i ∉ E ∧ lo b E i < k) → Cert H0.n (pend i) (opAt X i) env H ι)
    (unl : Unlike X (fun i => i < ops.size ∧ listed.getD i false = false ∧ i ∉ E ∧ lo b E i < k) env pend) (kle : k ≤ E.length) (un : ∀ j, j ∈ runL X b E k → listed.getD j false = false)
    (run : runD cl ((runL X b E k).map fun i => DStep.run (opAt X i)) env H (fun env H => runS cl (restOf X b E (E.drop k) k) env H kk) = true) :
    ∃ env' H' pend', Inv P base ops X b E cl kk ι0 H0 w0 ds0 listed k env' H' ι a w pend' := by
  obtain ⟨env2, H2, pend2, r1, r2, r3, r4, r5, r6⟩ := run_runs hO k H0.n (runL X b E k) (fun i => i < ops.size ∧ listed.getD i false = false ∧ i ∉ E ∧ lo b E i < k) env H ι w _ pend
    (List.Pairwise.filter _ List.pairwise_lt_range) (fun j hj => (mem_runL hO k j).1 hj) (fun i hi => ⟨hi.1, hi.2.2.1, Or.inl hi.2.2.2⟩) nx.hr nx.n cert unl run
  have split : ∀ i, (i < ops.size ∧ listed.getD i false = false ∧ i ∉ E ∧ lo b E i ≤ k) → ((i < ops.size ∧ listed.getD i false = false ∧ i ∉ E ∧ lo b E i < k) ∨ i ∈ runL X b E k) := fun i ⟨h1, h2, h3, h4⟩ => by
    by_cases h5 : lo b E i < k
    · exact Or.inl ⟨h1, h2, h3, h5⟩
    · exact Or.inr ((mem_runL hO k i).2 ⟨h1, h3, by omega⟩)
  obtain ⟨envc, t1, t2, t3⟩ := tm
  exact ⟨env2, H2, pend2, size, nx.trans r2, df, clo, eff, ⟨envc, t1, by rw [t2, r3], fun t ht => (t3 t ht).trans (r6 t (fun j hj => ht j ((mem_runL hO k j).1 hj).1 (un j hj) ((mem_runL hO k j).1 hj).2.1)).symm⟩,
    fun i hi => r4 i (split i hi), fun i i' h1 h2 => r5 i i' (split i h1) (split i' h2), r1, kle⟩

/-- an effect is done -/
theorem eff_inv (hO : Okd P ops X b E) {listed : Array Bool} {k : Nat} {env : Env} {H : AH} {ι : Io} {a : Act} {w : World} {pend : Nat → Nat} (hI : Inv P base ops X b E cl kk ι0 H0 w0 ds0 listed k env H ι a w pend) {i : Nat} (hin : i < ops.size) (hl : listed.getD i false = false)
    (hpre : ∀ j, j < ops.size → pre b j i = true → listed.getD j false = true) (hE : E[k]? = some i) {v : AV} {H' : AH} {ι' : Io} {w' : World} {cv : Value} (hnx : Nx P base ι H w ι' H' w') (hvr : VR ι' v cv)
    (hrun : runD cl (seg X b E (k + 1)) (setd (opAt X i).dst v env) H' (fun env H => runS cl (restOf X b E (E.drop (k + 1)) (k + 1)) env H kk) = true) :
    ∃ env' H2 pend', Inv P base ops X b E cl kk ι0 H0 w0 ds0 (listed.setIfInBounds i true) (k + 1) env' H2 ι' (a.put (opAt X i).dst cv) w' pend' := by
  have hs : i < listed.size := by rw [hI.size]; exact hin
  have hk3 : i ∈ E := List.mem_of_getElem? hE
  have hkl : k < E.length := (List.getElem?_eq_some_iff.1 hE).1
  have un : ∀ i', (listed.setIfInBounds i true).getD i' false = false → i' ≠ i ∧ listed.getD i' false = false := fun i' h => by
    by_cases e : i = i'
    · subst e; rw [getD_set_self hs] at h; cases h
    · rw [getD_set_not e] at h; exact ⟨fun e' => e e'.symm, h⟩
  have ls : ∀ i', listed.getD i' false = true → (listed.setIfInBounds i true).getD i' false = true := fun i' h => by
    by_cases e : i = i'
    · subst e; exact getD_set_self hs _
    · rw [getD_set_not e]; exact h
  have clo' : ∀ i1 j, (listed.setIfInBounds i true).getD i1 false = true → j < ops.size → pre b j i1 = true → (listed.setIfInBounds i true).getD j false = true := fun i1 j h1 h2 h4 => by
    by_cases e : i = i1
    · subst e; exact ls j (hpre j h2 h4)
    · rw [getD_set_not e] at h1
      exact ls j (hI.clo i1 j h1 h2 h4)
  have eff' : ∀ (m e : Nat), E[m]? = some e → ((listed.setIfInBounds i true).getD e false = true ↔ m < k + 1) := fun m e hm => by
    by_cases he : i = e
    · subst he
      have hmk : m = k := (List.getElem?_inj (List.getElem?_eq_some_iff.1 hm).1 hO.nodup).1 (hm.trans hE.symm)
      subst hmk
      exact ⟨fun _ => by omega, fun _ => getD_set_self hs _⟩
    · rw [getD_set_not he, hI.eff m e hm]
      have hmk : m ≠ k := fun h => by subst h; rw [hE] at hm; cases hm; exact he rfl
      omega
  -- those that are open still, and what the effect writes
  have keyi : keyX b E i = 2 * k + 1 := by
    unfold keyX
    rw [placeE_some E 0 k hO.nodup hE, Nat.zero_add]
  have keyo : ∀ j, j < ops.size → j ∉ E → keyX b E j = 2 * lo b E j := fun j hj h3 => by
    unfold keyX
    rw [placeE_none E 0 h3]
  have quiet : ∀ j, j < ops.size → listed.getD j false = false → j ∉ E → lo b E j ≤ k → ∀ d, (opAt X i).dst = some d → d ∉ looks (opAt X j) := fun j hj hlj h3 hlo d hd hlk => by
    obtain ⟨_, hor⟩ := hO.look i d hin hd j hj hlk
    have hah : ahead b E i j = true := hor.elim (fun h => h.2) (fun h => by
      have := hpre j hj h.1
      rw [hlj] at this; cases this)
    unfold ahead at hah
    rw [keyi, keyo j hj h3] at hah
    simp only [Bool.or_eq_true, Bool.and_eq_true] at hah
    rcases hah with hah | ⟨hah, _⟩
    · have : 2 * k + 1 < 2 * lo b E j := Nat.le_of_ble_eq_true hah
      omega
    · have := Nat.eq_of_beq_eq_true hah
      omega
  have hseg : runD cl (((againL X b E (k + 1)).map fun i => DStep.again (opAt X i)) ++ ((runL X b E (k + 1)).map fun i => DStep.run (opAt X i))) (setd (opAt X i).dst v env) H' (fun env H => runS cl (restOf X b E (E.drop (k + 1)) (k + 1)) env H kk) = true := hrun
  obtain ⟨hruns, hre⟩ := run_agains _ _ _ (fun j hj => by
    unfold againL at hj
    rw [List.mem_filter] at hj
    simp only [Bool.and_eq_true] at hj
    exact Nat.eq_of_beq_eq_true hj.2.1.1) hseg
  have agi : ∀ j, j < ops.size → listed.getD j false = false → j ∉ E → lo b E j ≤ k → agr (looks (opAt X j)) env (setd (opAt X i).dst v env) := fun j hj hlj h3 hlo t ht => (setd_other (fun hd => quiet j hj hlj h3 hlo t hd ht)).symm
  have dsti : ∀ j, j < ops.size → j ≠ i → ∀ d, (opAt X j).dst = some d → (opAt X i).dst ≠ some d := fun j hj hne d hd => hO.one j d hj hd i hin (fun e => hne e.symm)
  obtain ⟨envc, t1, t2, t3⟩ := hI.tm
  refine seg_inv hO (pend := pend) (by simp [hI.size]) (hI.nx.trans hnx) ((put_defers _ _).trans hI.df) clo' eff' ⟨setd (opAt X i).dst v envc, rowR_put (t1.mono hnx.le) hvr, by rw [setd_len, setd_len]; exact t2, fun t ht => ?_⟩ (fun j hj => ?_) (fun i1 i2 g1 g2 k1 k2 w1 w2 hpp => ?_) (by omega) (fun j hj => ?_) hruns
  · by_cases hd : (opAt X i).dst = some t
    · rw [hd]
      by_cases hlt : t < env.length
      · rw [setd_here (by rw [t2]; exact hlt), setd_here hlt]
      · show lget (lset envc t v) t = lget (lset env t v) t
        rw [lget_eq, lget_eq, getD_over _ _ (by rw [lset_eq]; simp; omega), getD_over _ _ (by rw [lset_eq]; simp; omega)]
    · rw [setd_other hd, setd_other hd]
      refine t3 t (fun j hj hlj hnE => ?_)
      by_cases e : i = j
      · subst e; exact hd
      · exact ht j hj (by rw [getD_set_not e]; exact hlj) hnE
  · obtain ⟨c1, c2, c3, c4⟩ := hj
    obtain ⟨n1, n2⟩ := un j c2
    have hlo : lo b E j ≤ k := by omega
    have c0 := (hI.cert j ⟨c1, n2, c3, hlo⟩).env (setd_len _ _ _) (agi j c1 n2 c3 hlo) (fun d hd => setd_other (dsti j c1 n1 d hd))
    refine c0.step hnx (fun h1 hw => hre j ?_ hw h1)
    unfold againL
    rw [List.mem_filter, List.mem_range, hO.len]
    simp only [Bool.and_eq_true]
    refine ⟨c1, ⟨by rw [h1]; rfl, Nat.ble_eq_true_of_le (by omega)⟩, Nat.ble_eq_true_of_le ?_⟩
    refine filter_least E (k + 1) (by omega) (fun m e hm hmk => ?_)
    cases hp : pre b j e with
    | false => rfl
    | true =>
      exfalso
      have := clo' e j ((eff' m e hm).2 hmk) c1 hp
      rw [c2] at this; cases this
  · have hlo1 : lo b E i1 ≤ k := by have := g1.2.2.2; omega
    have hlo2 : lo b E i2 ≤ k := by have := g2.2.2.2; omega
    rw [← wantsB_loc (agi i1 g1.1 (un i1 g1.2.1).2 g1.2.2.1 hlo1)] at w1
    rw [← wantsB_loc (agi i2 g2.1 (un i2 g2.2.1).2 g2.2.2.1 hlo2)] at w2
    exact hI.unl i1 i2 ⟨g1.1, (un i1 g1.2.1).2, g1.2.2.1, hlo1⟩ ⟨g2.1, (un i2 g2.2.1).2, g2.2.2.1, hlo2⟩ k1 k2 w1 w2 hpp
  · obtain ⟨m1, m2, m3⟩ := (mem_runL hO (k + 1) j).1 hj
    have hne : i ≠ j := fun e => by subst e; exact m2 hk3
    rw [getD_set_not hne]
    cases hb : listed.getD j false with
    | false => rfl
    | true =>
      exfalso
      have := lo_le hO (fun j' h4 h5 => hI.clo j j' hb h4 h5) hI.eff
      omega

theorem wants_loc {x : XOper} {env env' : Env} (h : agr (looks x) env env') (yes no : Unit → Bool) : wants x.guard env yes no = wants x.guard env' yes no := by
  rw [wants_eq, wants_eq, wantsB_loc h]
theorem wp_eff (hO : Okd P ops X b E) {listed : Array Bool} {k : Nat} {env : Env} {H : AH} {ι : Io} {a : Act} {w : World} {pend : Nat → Nat} (hI : Inv P base ops X b E cl kk ι0 H0 w0 ds0 listed k env H ι a w pend) {i : Nat} (hi : i ∈ Region.ready .any ops listed) (h3 : i ∈ E)
    {K : Act → World → Prop} {Q : Exit → Act → World → Prop} (hcl : ClS P cl) (hK : ∀ env' H' ι' a' w' pend', Inv P base ops X b E cl kk ι0 H0 w0 ds0 (listed.setIfInBounds i true) (k + 1) env' H' ι' a' w' pend' → K a' w') : wpOpIn (FW ro) 0 P ops Q i K a w := by
  obtain ⟨hin, hl, ⟨o, ho⟩, hpre⟩ := ready_clo hO hI hi
  obtain ⟨envc, t1, t2, t3⟩ := hI.tm
  have hag := agr_of hO hin hpre t3
  -- it is the next one
  have hmem := h3
  obtain ⟨m, hm⟩ := List.getElem?_of_mem hmem
  have hmk : m = k := by
    have h1 : ¬ m < k := fun h => by
      have := (hI.eff m i hm).2 h
      rw [hl] at this; cases this
    by_cases h2 : k < m
    · exfalso
      have hkl : k < E.length := by have := (List.getElem?_eq_some_iff.1 hm).1; omega
      have hke : E[k]? = some E[k] := List.getElem?_eq_getElem hkl
      have hp := hO.row k m _ i h2 hke hm
      have := (hI.eff k _ hke).1 (hpre _ (hO.inE _ (List.mem_of_getElem? hke)) hp)
      omega
    · omega
  subst hmk
  have hml : m < E.length := (List.getElem?_eq_some_iff.1 hm).1
  have hdrop : E.drop m = i :: E.drop (m + 1) := by
    rw [List.drop_eq_getElem_cons hml]
    congr 1
    have := List.getElem?_eq_getElem hml
    rw [hm] at this
    exact (Option.some.inj this).symm
  have hgo := hI.go
  rw [hdrop] at hgo
  have hgo' : wants (opAt X i).guard env (fun _ => act cl (opAt X i).op env H fun v H => runD cl (seg X b E (m + 1)) (setd (opAt X i).dst v env) H (fun env H => runS cl (restOf X b E (E.drop (m + 1)) (m + 1)) env H kk))
      (fun _ => runD cl (seg X b E (m + 1)) (setd (opAt X i).dst (.tup []) env) H (fun env H => runS cl (restOf X b E (E.drop (m + 1)) (m + 1)) env H kk)) = true := hgo
  rw [← wants_loc hag, ← act_loc (looks_op hag)] at hgo'
  have hcomp := hO.at_ i o ho
  obtain ⟨g, hg, hx⟩ := compO_inv hcomp
  have hop : (opAt X i).op = compOp P o := by rw [hx]
  have hdst : (opAt X i).dst = o.dst := by rw [hx]
  have hgd : (opAt X i).guard = g := by rw [hx]
  rw [hgd] at hgo'
  unfold wpOpIn
  simp only [ho]
  rcases wants_sound hg t1 hgo' with ⟨h5, h6⟩ | ⟨h5, h6⟩
  · rw [if_pos h5]
    rw [hop] at h6
    refine act_sound hcl hI.nx.hr t1 h6 (fun v H' ι' cv w' hnx hvr hk => ?_)
    obtain ⟨env', H2, pend', hI'⟩ := eff_inv hO hI hin hl hpre hm hnx hvr hk
    rw [← hdst]
    exact hK env' H2 ι' _ w' pend' hI'
  · rw [if_neg (by rw [h5]; exact Bool.false_ne_true)]
    refine ⟨fun f _ => FW_fn ro f, ?_⟩
    obtain ⟨env', H2, pend', hI'⟩ := eff_inv hO hI hin hl hpre hm (Nx.refl hI.nx.hr) (VR_skip ι) h6
    rw [← hdst]
    exact hK env' H2 ι _ w pend' hI'

/-- behind all -/
theorem wp_end (hO : Okd P ops X b E) {listed : Array Bool} {k : Nat} {env : Env} {H : AH} {ι : Io} {a : Act} {w : World} {pend : Nat → Nat} (hI : Inv P base ops X b E cl kk ι0 H0 w0 ds0 listed k env H ι a w pend) (hr : Region.ready .any ops listed = []) :
    rowR ι env a.tmps ∧ kk env H = true ∧ Nx P base ι0 H0 w0 ι H w ∧ a.defers = ds0 := by
  have all : ∀ i, i < ops.size → listed.getD i false = true := by
    intro i
    induction i using Nat.strongRecOn with
    | _ i ih =>
      intro hi
      cases hb : listed.getD i false with
      | true => rfl
      | false =>
        exfalso
        have hs : i < listed.size := by rw [hI.size]; exact hi
        have ho : ops[i]? = some ops[i] := Array.getElem?_eq_getElem hi
        have hmem : i ∈ Region.ready .any ops listed := mem_ready.2 ⟨by
          simp only [Array.getD, hs, dif_pos] at hb ⊢
          exact hb, ops[i], ho, fun e he hbd => ih e.on (hO.lt i _ ho e he hbd) (by have := hO.lt i _ ho e he hbd; omega)⟩
        rw [hr] at hmem
        cases hmem
  have hk : k = E.length := by
    have := hI.kle
    by_cases h : k < E.length
    · exfalso
      have hke : E[k]? = some E[k] := List.getElem?_eq_getElem h
      have := (hI.eff k _ hke).1 (all _ (hO.inE _ (List.mem_of_getElem? hke)))
      omega
    · omega
  obtain ⟨envc, t1, t2, t3⟩ := hI.tm
  have hgo := hI.go
  rw [hk, List.drop_length] at hgo
  refine ⟨⟨t2.symm.trans t1.1, fun t => ?_⟩, hgo, hI.nx, hI.df⟩
  have := t1.2 t
  rw [← lget_eq, t3 t (fun j hj hl _ => by rw [all j hj] at hl; cases hl), lget_eq] at this
  exact this

theorem wp_any (hO : Okd P ops X b E) (hcl : ClS P cl) {Q : Exit → Act → World → Prop} (hQ : ∀ env' H' ι' a' w', Nx P base ι0 H0 w0 ι' H' w' → rowR ι' env' a'.tmps → a'.defers = ds0 → kk env' H' = true → Q .normal a' w') :
    ∀ (fuel : Nat) (listed : Array Bool) (k : Nat) (env : Env) (H : AH) (ι : Io) (a : Act) (w : World) (pend : Nat → Nat), Inv P base ops X b E cl kk ι0 H0 w0 ds0 listed k env H ι a w pend → open_ ops listed ≤ fuel → wpAnyIn (FW ro) 0 P .any ops Q fuel listed a w
  | 0, listed, k, env, H, ι, a, w, pend, hI, hf => by
    have hr : Region.ready .any ops listed = [] := by
      cases hr : Region.ready .any ops listed with
      | nil => rfl
      | cons i l =>
        exfalso
        obtain ⟨h1, h2, _, _⟩ := ready_clo hO hI (i := i) (by rw [hr]; simp)
        unfold open_ at hf
        have hm : i ∈ (List.range ops.size).filter fun i => !(listed.getD i false) := by
          rw [List.mem_filter, List.mem_range]
          exact ⟨h1, by rw [h2]; rfl⟩
        have := List.length_pos_of_mem hm
        omega
    obtain ⟨h1, h2, h3, h4⟩ := wp_end hO hI hr
    exact ⟨hr, hQ env H ι a w h3 h1 h4 h2⟩
  | fuel + 1, listed, k, env, H, ι, a, w, pend, hI, hf => by
    refine ⟨fun hr => ?_, fun i hi => ?_⟩
    · obtain ⟨h1, h2, h3, h4⟩ := wp_end hO hI hr
      exact hQ env H ι a w h3 h1 h4 h2
    · obtain ⟨hin, hl, _, _⟩ := ready_clo hO hI hi
      have hs : i < listed.size := by rw [hI.size]; exact hin
      have hless : open_ ops (listed.setIfInBounds i true) ≤ fuel := by
        have : open_ ops (listed.setIfInBounds i true) < open_ ops listed := by
          refine filter_less _ (fun x hx => ?_) ⟨i, List.mem_range.2 hin, by rw [hl]; rfl, by rw [getD_set_self hs]; rfl⟩
          by_cases e : i = x
          · subst e; rw [hl]; rfl
          · rw [getD_set_not e] at hx; exact hx
        omega
      by_cases h3 : i ∈ E
      · exact wp_eff hO hI hi h3 hcl (fun env' H' ι' a' w' pend' hI' => wp_any hO hcl hQ fuel _ _ env' H' ι' a' w' pend' hI' hless)
      · exact wp_step hO hI hi h3 hcl (fun ι' a' w' pend' hI' => wp_any hO hcl hQ fuel _ _ env H ι' a' w' pend' hI' hless)

theorem compD_inv {first : List DStep} {rest : List (XOper × List DStep)} (h : compD P ops = .dreg first rest) : ∃ X, compL P ops ops.toList = some X ∧ okX ops X (Region.before ops).toList (effs X (Region.before ops).toList) = true ∧ first = seg X (Region.before ops).toList (effs X (Region.before ops).toList) 0 ∧ rest = restOf X (Region.before ops).toList (effs X (Region.before ops).toList) (effs X (Region.before ops).toList) 0 := by
  unfold compD at h
  split at h
  · cases h
  · rename_i X hX
    cases hk : okX ops X (Region.before ops).toList (effs X (Region.before ops).toList) with
    | false => rw [hk] at h; cases h
    | true =>
      rw [hk] at h
      cases h
      exact ⟨X, hX, hk, rfl, rfl⟩
/-- REGIONS WHOSE ORDER IS OPEN -/
theorem dreg_sound (hm : P.follows .mixedOrders = true) (hcl : ClS P cl) : DregS P cl := by
  intro ops first rest base ι H w env a ro id Q kk hcd hr he hx hk
  obtain ⟨X, hc, hok, rfl, rfl⟩ := compD_inv hcd
  have hO := okd hc hok
  generalize (Region.before ops).toList = b at *
  generalize effs X b = E at *
  let w0 : World := { w with drawn := w.drawn + 1 }
  have hr0 : HR P base ι H w0 := hr.heap rfl
  refine wpIn_region_any hm ?_
  have hseg : runD cl (((againL X b E 0).map fun i => DStep.again (opAt X i)) ++ ((runL X b E 0).map fun i => DStep.run (opAt X i))) env H (fun env H => runS cl (restOf X b E E 0) env H kk) = true := hx
  obtain ⟨hruns, _⟩ := run_agains _ _ _ (fun j hj => by
    unfold againL at hj
    rw [List.mem_filter] at hj
    simp only [Bool.and_eq_true] at hj
    exact Nat.eq_of_beq_eq_true hj.2.1.1) hseg
  have none0 : ∀ i, (Array.replicate ops.size false).getD i false = false := fun i => by
    rw [Array.getD_eq_getD_getElem?, Array.getElem?_replicate]
    split <;> rfl
  obtain ⟨env', H', pend', hI⟩ := seg_inv (kk := kk) (P := P) (base := base) (cl := cl) hO (listed := Array.replicate ops.size false) (k := 0) (env := env) (H := H) (ι := ι) (a := a) (w := w0) (pend := fun _ => 0) (ι0 := ι) (H0 := H) (w0 := w0) (ds0 := a.defers) (by simp) (Nx.refl hr0) rfl
    (fun i j h => by rw [none0] at h; cases h) (fun m e hme => ⟨fun h => (by rw [none0] at h; cases h), fun h => (by omega)⟩) ⟨env, he, rfl, fun _ _ => rfl⟩ (fun i hi => by omega) (fun i i' h1 => by omega) (by omega) (fun j _ => none0 j) hruns
  refine wp_any hO hcl (fun env2 H2 ι2 a2 w2 hnx he2 hd2 hk2 => hk env2 H2 ι2 a2 w2 ?_ he2 hd2 hk2) ops.size _ 0 env' H' ι a w0 pend' hI ?_
  · exact ⟨hnx.le, hnx.hr, hnx.stay, hnx.n, Below.trans (b := w0) ⟨rfl, rfl, rfl, Nat.le_refl _, fun _ _ => rfl⟩ hnx.below⟩
  · unfold open_
    refine Nat.le_trans (List.length_filter_le _ _) (by simp)
end
end Go.Jt
