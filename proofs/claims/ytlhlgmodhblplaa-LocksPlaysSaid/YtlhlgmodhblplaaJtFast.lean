/-
  The abstract run once more, laid for the kernel: temporaries in a trie, one small function for each operation; and that it is the same run. (Printed by wip/tools/mkfast.py.)
-/
import Derived.Test.YtlhlgmodhblplaaJtTop
set_option autoImplicit false
set_option linter.all false
namespace Go.Jt
noncomputable section

theorem bool_rec {β : Type} (c : Bool) (a b : β) : (@Bool.rec (fun _ => β) a b c) = cond c b a := by cases c <;> rfl
theorem opt_rec {α : Type} (o : Option α) (f : α → Bool) : (@Option.rec _ (fun _ => Bool) false f o) = match o with | some v => f v | none => false := by cases o <;> rfl
abbrev FE := T AV
def getT (e : FE) (t : Nat) : AV := @Option.rec _ (fun _ => AV) .undef (fun v => v) (T.get e t)
def gv (e : FE) (o : Od) : AV := Od.rec (fun t => getT e t) (fun v => v) .undef o
/-- a trie of temporaries stands for a row of them -/
def RT (n : Nat) (e : FE) (env : Env) : Prop := env.length = n ∧ ∀ t, T.get e t = env[t]?
theorem getT_eq {n : Nat} {e : FE} {env : Env} (h : RT n e env) (t : Nat) : getT e t = lget env t := by
  unfold getT
  rw [h.2, lget_eq, List.getD_eq_getElem?_getD]
  cases env[t]? <;> rfl
theorem gv_eq {n : Nat} {e : FE} {env : Env} (h : RT n e env) (o : Od) : gv e o = ev env o := by
  cases o with
  | tmp t => exact getT_eq h t
  | cst v => rfl
  | bad => rfl
def toLs (n : Nat) (e : FE) : List AV := (List.range n).map (getT e)
theorem toLs_eq {n : Nat} {e : FE} {env : Env} (h : RT n e env) : toLs n e = env := by
  apply List.ext_getElem?
  intro i
  unfold toLs
  rw [List.getElem?_map]
  by_cases hi : i < n
  · rw [List.getElem?_range hi]
    simp only [Option.map_some]
    rw [getT_eq h, lget_eq, List.getD_eq_getElem?_getD, List.getElem?_eq_getElem (by rw [h.1]; exact hi)]
    rfl
  · rw [List.getElem?_eq_none (by simpa using hi), List.getElem?_eq_none (by rw [h.1]; omega)]
    rfl
def lnth {α : Type} (l : List α) : Nat → Option α := List.rec (fun _ => none) (fun x _ ih i => Nat.rec (some x) (fun k _ => ih k) i) l
theorem lnth_eq {α : Type} (l : List α) : ∀ i, lnth l i = l[i]? := by
  induction l with
  | nil => intro i; rfl
  | cons x l ih =>
    intro i
    cases i with
    | zero => rfl
    | succ k => show lnth l k = _; rw [ih]; rfl
def mapE (e : FE) (l : List Od) : List AV := List.rec [] (fun x _ ih => gv e x :: ih) l
theorem mapE_eq {n : Nat} {e : FE} {env : Env} (h : RT n e env) (l : List Od) : mapE e l = l.map (ev env) := by
  induction l with
  | nil => rfl
  | cons x l ih => show gv e x :: mapE e l = _; rw [ih, gv_eq h]; rfl

/-! ### looking at a value -/
def asPtr (v : AV) (k : Nat → Nat → Bool) : Bool := AV.rec (motive_1 := fun _ => Bool) (motive_2 := fun _ => Unit) (motive_3 := fun _ => Unit) false (fun _ _ => false) (fun _ => false) (fun _ => false) false (k) false (fun _ _ _ _ => false) (fun _ _ _ _ => false) (fun _ _ _ => false) false (fun _ => false) false (fun _ _ _ _ _ => false) false (fun _ _ _ => false) (fun _ _ => false) (fun _ _ => false) () (fun _ _ _ _ => ()) () (fun _ _ => ()) (fun _ _ _ => ()) (fun _ _ _ _ _ => ()) v
def asInt (v : AV) (k : IntKind → Int → Bool) : Bool := AV.rec (motive_1 := fun _ => Bool) (motive_2 := fun _ => Unit) (motive_3 := fun _ => Unit) false (k) (fun _ => false) (fun _ => false) false (fun _ _ => false) false (fun _ _ _ _ => false) (fun _ _ _ _ => false) (fun _ _ _ => false) false (fun _ => false) false (fun _ _ _ _ _ => false) false (fun _ _ _ => false) (fun _ _ => false) (fun _ _ => false) () (fun _ _ _ _ => ()) () (fun _ _ => ()) (fun _ _ _ => ()) (fun _ _ _ _ _ => ()) v
def asNat (v : AV) (k : Nat → Bool) : Bool := AV.rec (motive_1 := fun _ => Bool) (motive_2 := fun _ => Unit) (motive_3 := fun _ => Unit) false (fun _ n => Int.rec k (fun _ => false) n) (fun _ => false) (fun _ => false) false (fun _ _ => false) false (fun _ _ _ _ => false) (fun _ _ _ _ => false) (fun _ _ _ => false) false (fun _ => false) false (fun _ _ _ _ _ => false) false (fun _ _ _ => false) (fun _ _ => false) (fun _ _ => false) () (fun _ _ _ _ => ()) () (fun _ _ => ()) (fun _ _ _ => ()) (fun _ _ _ _ _ => ()) v
def asBool (v : AV) (k : Bool → Bool) : Bool := AV.rec (motive_1 := fun _ => Bool) (motive_2 := fun _ => Unit) (motive_3 := fun _ => Unit) false (fun _ _ => false) (k) (fun _ => false) false (fun _ _ => false) false (fun _ _ _ _ => false) (fun _ _ _ _ => false) (fun _ _ _ => false) false (fun _ => false) false (fun _ _ _ _ _ => false) false (fun _ _ _ => false) (fun _ _ => false) (fun _ _ => false) () (fun _ _ _ _ => ()) () (fun _ _ => ()) (fun _ _ _ => ()) (fun _ _ _ _ _ => ()) v
def asStr (v : AV) (k : List Nat → Bool) : Bool := AV.rec (motive_1 := fun _ => Bool) (motive_2 := fun _ => Unit) (motive_3 := fun _ => Unit) false (fun _ _ => false) (fun _ => false) (k) false (fun _ _ => false) false (fun _ _ _ _ => false) (fun _ _ _ _ => false) (fun _ _ _ => false) false (fun _ => false) false (fun _ _ _ _ _ => false) false (fun _ _ _ => false) (fun _ _ => false) (fun _ _ => false) () (fun _ _ _ _ => ()) () (fun _ _ => ()) (fun _ _ _ => ()) (fun _ _ _ _ _ => ()) v
def asAgg (v : AV) (k : Rp AV → Bool) : Bool := AV.rec (motive_1 := fun _ => Bool) (motive_2 := fun _ => Unit) (motive_3 := fun _ => Unit) false (fun _ _ => false) (fun _ => false) (fun _ => false) false (fun _ _ => false) false (fun _ _ _ _ => false) (fun _ _ _ _ => false) (fun _ _ _ => false) false (fun _ => false) false (fun _ _ _ _ _ => false) false (fun _ _ _ => false) (fun r _ => k r) (fun _ _ => false) () (fun _ _ _ _ => ()) () (fun _ _ => ()) (fun _ _ _ => ()) (fun _ _ _ _ _ => ()) v
def asTup (v : AV) (k : List AV → Bool) : Bool := AV.rec (motive_1 := fun _ => Bool) (motive_2 := fun _ => Unit) (motive_3 := fun _ => Unit) false (fun _ _ => false) (fun _ => false) (fun _ => false) false (fun _ _ => false) false (fun _ _ _ _ => false) (fun _ _ _ _ => false) (fun _ _ _ => false) false (fun _ => false) false (fun _ _ _ _ _ => false) false (fun _ _ _ => false) (fun _ _ => false) (fun r _ => k r) () (fun _ _ _ _ => ()) () (fun _ _ => ()) (fun _ _ _ => ()) (fun _ _ _ _ _ => ()) v
def asSlc (v : AV) (k : Nat → Nat → Nat → Bool) : Bool := AV.rec (motive_1 := fun _ => Bool) (motive_2 := fun _ => Unit) (motive_3 := fun _ => Unit) false (fun _ _ => false) (fun _ => false) (fun _ => false) false (fun _ _ => false) false (fun b o n _ => k b o n) (fun b o n _ => k b o n) (fun _ _ _ => false) false (fun _ => false) false (fun _ _ _ _ _ => false) false (fun _ _ _ => false) (fun _ _ => false) (fun _ _ => false) () (fun _ _ _ _ => ()) () (fun _ _ => ()) (fun _ _ _ => ()) (fun _ _ _ _ _ => ()) v
def asLen (v : AV) (k : Nat → Bool) : Bool := AV.rec (motive_1 := fun _ => Bool) (motive_2 := fun _ => Unit) (motive_3 := fun _ => Unit) false (fun _ _ => false) (fun _ => false) (fun _ => false) false (fun _ _ => false) (k 0) (fun _ _ n _ => k n) (fun _ _ n _ => k n) (fun _ _ _ => k 0) false (fun _ => false) false (fun _ _ _ _ _ => false) false (fun _ _ _ => false) (fun _ _ => false) (fun _ _ => false) () (fun _ _ _ _ => ()) () (fun _ _ => ()) (fun _ _ _ => ()) (fun _ _ _ _ _ => ()) v
def asMapN (v : AV) (z : Bool) (k : Nat → Bool) : Bool := AV.rec (motive_1 := fun _ => Bool) (motive_2 := fun _ => Unit) (motive_3 := fun _ => Unit) false (fun _ _ => false) (fun _ => false) (fun _ => false) false (fun _ _ => false) false (fun _ _ _ _ => false) (fun _ _ _ _ => false) (fun _ _ _ => false) (z) (k) false (fun _ _ _ _ _ => false) false (fun _ _ _ => false) (fun _ _ => false) (fun _ _ => false) () (fun _ _ _ _ => ()) () (fun _ _ => ()) (fun _ _ _ => ()) (fun _ _ _ _ _ => ()) v
def onKind (v : AV) (g : Rp AV → Bool) (o : Bool) : Bool := AV.rec (motive_1 := fun _ => Bool) (motive_2 := fun _ => Unit) (motive_3 := fun _ => Unit) false ((fun _ _ => o)) ((fun _ => o)) ((fun _ => o)) (o) ((fun _ _ => o)) (o) ((fun _ _ _ _ => o)) ((fun _ _ _ _ => o)) ((fun _ _ _ => o)) (o) ((fun _ => o)) (o) ((fun _ _ _ _ _ => o)) (o) ((fun _ _ _ => o)) (fun r _ => g r) (fun _ _ => false) () (fun _ _ _ _ => ()) () (fun _ _ => ()) (fun _ _ _ => ()) (fun _ _ _ _ _ => ()) v
def gcellF (H : AH) (b : Nat) (k : Rp AV → Bool → Bool → Bool) : Bool := @Option.rec _ (fun _ => Bool) false (fun o => AObj.rec k (fun _ _ => false) (fun _ => false) (fun _ => false) (fun _ _ => false) o) (H.get b)
theorem gcellF_eq (H : AH) (b : Nat) (k : Rp AV → Bool → Bool → Bool) : gcellF H b k = gcell H b k := by
  unfold gcellF gcell
  cases H.get b with
  | none => rfl
  | some o => cases o <;> rfl
def gmapF (H : AH) (b : Nat) (k : List (AV × AV × Nat) → Nat → Bool) : Bool := @Option.rec _ (fun _ => Bool) false (fun o => AObj.rec (fun _ _ _ => false) k (fun _ => false) (fun _ => false) (fun _ _ => false) o) (H.get b)
theorem gmapF_eq (H : AH) (b : Nat) (k : List (AV × AV × Nat) → Nat → Bool) : gmapF H b k = gmap H b k := by
  unfold gmapF gmap
  cases H.get b with
  | none => rfl
  | some o => cases o <;> rfl
def fillF (e : FE) (parts : List (Nat × Nat × Od)) (z : Rp AV) (k : Rp AV → Bool) : Bool :=
  List.rec (fun z => k z) (fun p _ ih z => Prod.rec (fun o q => Prod.rec (fun n x => onKind (gv e x)
    (fun r => @Bool.rec (fun _ => Bool) false (@Bool.rec (fun _ => Bool) false (ih (z.put o n r)) (Nat.ble (Nat.add o n) z.len)) (Nat.beq r.len n))
    (@Bool.rec (fun _ => Bool) false (@Bool.rec (fun _ => Bool) false (ih (z.set o (gv e x))) (Nat.ble (Nat.succ o) z.len)) (Nat.beq n 1))) q) p) parts z
theorem fillF_eq {n : Nat} {e : FE} {env : Env} (h : RT n e env) (k : Rp AV → Bool) : ∀ (ps : List (Nat × Nat × Od)) (z : Rp AV), fillF e ps z k = fillIn env z ps k
  | [], z => rfl
  | (o, m, x) :: ps, z => by
    have ih := fillF_eq h k ps
    show onKind (gv e x) (fun r => @Bool.rec (fun _ => Bool) false (@Bool.rec (fun _ => Bool) false (fillF e ps (z.put o m r) k) (Nat.ble (Nat.add o m) z.len)) (Nat.beq r.len m))
      (@Bool.rec (fun _ => Bool) false (@Bool.rec (fun _ => Bool) false (fillF e ps (z.set o (gv e x)) k) (Nat.ble (Nat.succ o) z.len)) (Nat.beq m 1)) = (match ev env x with
    | .agg r => cond (Nat.beq r.len m) (cond (Nat.ble (o + m) z.len) (fillIn env (z.put o m r) ps k) false) false
    | v => cond v.sc (cond (Nat.beq m 1) (cond (Nat.ble (o + 1) z.len) (fillIn env (z.set o v) ps k) false) false) false)
    rw [gv_eq h]
    simp only [ih, bool_rec]
    cases ev env x <;> rfl

/-! ### numbers -/
def limK (q : IntKind) : Nat := IntKind.rec 127 32767 2147483647 9223372036854775807 255 65535 4294967295 18446744073709551615 q
def putN (q : IntKind) (m : Nat) (slow : Bool) (k : AV → Bool) : Bool := fN m fun m => @Bool.rec (fun _ => Bool) slow (k (.int q (Int.ofNat m))) (Nat.ble m (limK q))
theorem wrap_lim (q : IntKind) (m : Nat) (h : Nat.ble m (limK q) = true) : wrapF q (Int.ofNat m) = Int.ofNat m := by
  have h' := Nat.le_of_ble_eq_true h
  rw [wrapF_eq]
  cases q <;> simp only [limK] at h' <;> simp [IntKind.wrap, IntKind.signed, IntKind.bits] <;> omega
theorem putN_eq (q : IntKind) (m : Nat) (slow : Bool) (k : AV → Bool) (h : fI (wrapF q (Int.ofNat m)) (fun z => k (.int q z)) = slow) : putN q m slow k = slow := by
  unfold putN
  rw [fN_eq]
  cases hb : Nat.ble m (limK q) with
  | false => rfl
  | true =>
    rw [wrap_lim q m hb, fI_eq] at h
    exact h
def iN (x y : Int) (slow : Bool) (k : Nat → Nat → Bool) : Bool := Int.rec (fun a => Int.rec (fun b => k a b) (fun _ => slow) y) (fun _ => slow) x
theorem iN_eq (x y : Int) (slow : Bool) (k : Nat → Nat → Bool) (h : ∀ a b, x = Int.ofNat a → y = Int.ofNat b → k a b = slow) : iN x y slow k = slow := by
  cases x with
  | ofNat a => cases y with
    | ofNat b => exact h a b rfl rfl
    | negSucc b => rfl
  | negSucc a => rfl
abbrev Op2 := IntKind → IntKind → Int → Int → (AV → Bool) → Bool
def same2 (q r : IntKind) (slow : Bool) (b : Bool) : Bool := @Bool.rec (fun _ => Bool) slow b (Nat.beq (ikN q) (ikN r))
def slowB (op : BinOp) (ek : Nat) (H : AH) (q r : IntKind) (x y : Int) (k : AV → Bool) : Bool := bin op ek H (.int q x) (.int r y) k
def fadd (H : AH) : Op2 := fun q r x y k => same2 q r (slowB .add 0 H q r x y k) (iN x y (slowB .add 0 H q r x y k) fun a b => putN q (Nat.add a b) (slowB .add 0 H q r x y k) k)
def fsub (H : AH) : Op2 := fun q r x y k => same2 q r (slowB .sub 0 H q r x y k) (iN x y (slowB .sub 0 H q r x y k) fun a b => @Bool.rec (fun _ => Bool) (slowB .sub 0 H q r x y k) (putN q (Nat.sub a b) (slowB .sub 0 H q r x y k) k) (Nat.ble b a))
def fmul (H : AH) : Op2 := fun q r x y k => same2 q r (slowB .mul 0 H q r x y k) (iN x y (slowB .mul 0 H q r x y k) fun a b => putN q (Nat.mul a b) (slowB .mul 0 H q r x y k) k)
def fB (b : Bool) (k : AV → Bool) : Bool := @Bool.rec (fun _ => Bool) (k (.bool false)) (k (.bool true)) b
theorem fB_eq (b : Bool) (k : AV → Bool) : fB b k = k (.bool b) := by cases b <;> rfl
def feql (H : AH) : Op2 := fun q r x y k => same2 q r (slowB .eql 0 H q r x y k) (iN x y (slowB .eql 0 H q r x y k) fun a b => fB (Nat.beq a b) k)
def fneq (H : AH) : Op2 := fun q r x y k => same2 q r (slowB .neq 0 H q r x y k) (iN x y (slowB .neq 0 H q r x y k) fun a b => @Bool.rec (fun _ => Bool) (k (.bool true)) (k (.bool false)) (Nat.beq a b))
def flss (H : AH) : Op2 := fun q r x y k => same2 q r (slowB .lss 0 H q r x y k) (iN x y (slowB .lss 0 H q r x y k) fun a b => @Bool.rec (fun _ => Bool) (k (.bool true)) (k (.bool false)) (Nat.ble b a))
def fleq (H : AH) : Op2 := fun q r x y k => same2 q r (slowB .leq 0 H q r x y k) (iN x y (slowB .leq 0 H q r x y k) fun a b => fB (Nat.ble a b) k)
def fgtr (H : AH) : Op2 := fun q r x y k => same2 q r (slowB .gtr 0 H q r x y k) (iN x y (slowB .gtr 0 H q r x y k) fun a b => @Bool.rec (fun _ => Bool) (k (.bool true)) (k (.bool false)) (Nat.ble a b))
def fgeq (H : AH) : Op2 := fun q r x y k => same2 q r (slowB .geq 0 H q r x y k) (iN x y (slowB .geq 0 H q r x y k) fun a b => fB (Nat.ble b a) k)
def foth (op : BinOp) (H : AH) : Op2 := fun q r x y k => slowB op 0 H q r x y k
def op2 (op : BinOp) (H : AH) : Op2 := BinOp.rec (motive := fun _ => AH → Op2) fadd fsub fmul (foth .quo) (foth .rem) (foth .and) (foth .or) (foth .xor) (foth .shl) (foth .shr) (foth .andNot) feql fneq flss fleq fgtr fgeq op H
theorem slowB_ek (op : BinOp) (ek ek' : Nat) (H : AH) (q r : IntKind) (x y : Int) (k : AV → Bool) : slowB op ek H q r x y k = slowB op ek' H q r x y k := by cases op <;> rfl
theorem same2_eq (q r : IntKind) (slow b : Bool) (h : q = r → b = slow) : same2 q r slow b = slow := by
  unfold same2
  cases hb : Nat.beq (ikN q) (ikN r) with
  | false => rfl
  | true => exact h (ikN_inj hb)
theorem ikN_self (q : IntKind) : Nat.beq (ikN q) (ikN q) = true := Nat.beq_refl _
theorem op2_eq (op : BinOp) (ek : Nat) (H : AH) (q r : IntKind) (x y : Int) (k : AV → Bool) : op2 op H q r x y k = bin op ek H (.int q x) (.int r y) k := by
  show _ = slowB op ek H q r x y k
  rw [slowB_ek op ek 0]
  have hb : ∀ (op : BinOp), op ≠ .shl → op ≠ .shr → slowB op 0 H q q x y k = ibin op q x y k := fun op h1 h2 => by
    cases op <;> first | (exact absurd rfl h1) | (exact absurd rfl h2) | (show cond (Nat.beq (ikN q) (ikN q)) _ false = _; rw [ikN_self]; rfl)
  cases op <;> try rfl
  all_goals
    refine same2_eq q r _ _ (fun e => ?_)
    subst e
    refine iN_eq x y _ _ (fun a b ha hb' => ?_)
    subst ha
    subst hb'
    rw [hb _ (by intro h; cases h) (by intro h; cases h)]
  · exact putN_eq q _ _ k rfl
  · cases h : Nat.ble b a with
    | false => rfl
    | true =>
      refine putN_eq q _ _ k ?_
      show _ = fI (wrapF q (Int.ofNat a - Int.ofNat b)) fun z => k (.int q z)
      rw [show Int.ofNat a - Int.ofNat b = Int.ofNat (Nat.sub a b) from (by
        have h2 := Nat.le_of_ble_eq_true h
        show (a : Int) - (b : Int) = ((a - b : Nat) : Int)
        omega)]
  · exact putN_eq q _ _ k rfl
  · rw [fB_eq]; rfl
  · show @Bool.rec (fun _ => Bool) (k (.bool true)) (k (.bool false)) (Nat.beq a b) = k (.bool (!(Nat.beq a b))); cases Nat.beq a b <;> rfl
  · show @Bool.rec (fun _ => Bool) (k (.bool true)) (k (.bool false)) (Nat.ble b a) = k (.bool (!(Nat.ble b a))); cases Nat.ble b a <;> rfl
  · rw [fB_eq]; rfl
  · show @Bool.rec (fun _ => Bool) (k (.bool true)) (k (.bool false)) (Nat.ble a b) = k (.bool (!(Nat.ble a b))); cases Nat.ble a b <;> rfl
  · rw [fB_eq]; rfl
def binS (op : BinOp) (ek : Nat) (H : AH) (v w : AV) (k : AV → AH → Bool) : Bool := bin op ek H v w fun v => k v H
def binF (op : BinOp) (ek : Nat) (H : AH) (v w : AV) (k : AV → AH → Bool) : Bool := AV.rec (motive_1 := fun _ => Bool) (motive_2 := fun _ => Unit) (motive_3 := fun _ => Unit) (binS op ek H v w k) (fun q x => AV.rec (motive_1 := fun _ => Bool) (motive_2 := fun _ => Unit) (motive_3 := fun _ => Unit) (binS op ek H v w k) (fun r y => op2 op H q r x y fun v => k v H) (fun _ => (binS op ek H v w k)) (fun _ => (binS op ek H v w k)) (binS op ek H v w k) (fun _ _ => (binS op ek H v w k)) (binS op ek H v w k) (fun _ _ _ _ => (binS op ek H v w k)) (fun _ _ _ _ => (binS op ek H v w k)) (fun _ _ _ => (binS op ek H v w k)) (binS op ek H v w k) (fun _ => (binS op ek H v w k)) (binS op ek H v w k) (fun _ _ _ _ _ => (binS op ek H v w k)) (binS op ek H v w k) (fun _ _ _ => (binS op ek H v w k)) (fun _ _ => (binS op ek H v w k)) (fun _ _ => (binS op ek H v w k)) () (fun _ _ _ _ => ()) () (fun _ _ => ()) (fun _ _ _ => ()) (fun _ _ _ _ _ => ()) w) (fun _ => (binS op ek H v w k)) (fun _ => (binS op ek H v w k)) (binS op ek H v w k) (fun _ _ => (binS op ek H v w k)) (binS op ek H v w k) (fun _ _ _ _ => (binS op ek H v w k)) (fun _ _ _ _ => (binS op ek H v w k)) (fun _ _ _ => (binS op ek H v w k)) (binS op ek H v w k) (fun _ => (binS op ek H v w k)) (binS op ek H v w k) (fun _ _ _ _ _ => (binS op ek H v w k)) (binS op ek H v w k) (fun _ _ _ => (binS op ek H v w k)) (fun _ _ => (binS op ek H v w k)) (fun _ _ => (binS op ek H v w k)) () (fun _ _ _ _ => ()) () (fun _ _ => ()) (fun _ _ _ => ()) (fun _ _ _ _ _ => ()) v
theorem binF_eq (op : BinOp) (ek : Nat) (H : AH) (v w : AV) (k : AV → AH → Bool) : binF op ek H v w k = bin op ek H v w fun v => k v H := by
  cases v with
  | int q x => cases w with
    | int r y => exact op2_eq op ek H q r x y _
    | _ => rfl
  | _ => rfl

/-! ### more words -/
def nckS (v : AV) (H : AH) (k : AV → AH → Bool) : Bool := match v with
    | .fn (.fn (.func f)) a b => k (.fn (.fn (.func f)) a b) H
    | .fn (.yld l) a b => k (.fn (.yld l) a b) H
    | _ => false
def nckF (v : AV) (H : AH) (k : AV → AH → Bool) : Bool := AV.rec (motive_1 := fun _ => Bool) (motive_2 := fun _ => Unit) (motive_3 := fun _ => Unit) false (fun _ _ => false) (fun _ => false) (fun _ => false) false (fun b o => k (.ptr b o) H) false (fun _ _ _ _ => false) (fun _ _ _ _ => false) (fun _ _ _ => false) false (fun _ => false) false (fun f a b _ _ => nckS (.fn f a b) H k) false (fun _ _ _ => false) (fun _ _ => false) (fun _ _ => false) () (fun _ _ _ _ => ()) () (fun _ _ => ()) (fun _ _ _ => ()) (fun _ _ _ _ _ => ()) v
def b2sF (H : AH) (v : AV) (k : AV → AH → Bool) : Bool := match v with
    | .nils => k (.str []) H
    | x => srcLen x fun n => match x with
      | .str _ => false
      | x => srcCells H 1 n x fun r => bytesL r.toL fun l => k (.str l) H
def lenM (H : AH) (v : AV) (k : Nat → Bool) : Bool := asMapN v (k 0) fun r => gmapF H r fun es _ => fN (llen es 0) k
def appF (es bytes : Nat) (z : Rp AV) (zm : Bool) (H : AH) (s x : AV) (k : AV → AH → Bool) : Bool := xapp es bytes z zm H s x k
def keyI (q : IntKind) (m : Int) (b : AV) (yes no : Unit → Bool) : Bool := asInt b fun r n => @Bool.rec (fun _ => Bool) false (@Bool.rec (fun _ => Bool) (no ()) (yes ()) (ieq m n)) (Nat.beq (ikN q) (ikN r))
def keyS (m : List Nat) (b : AV) (yes no : Unit → Bool) : Bool := asStr b fun n => @Bool.rec (fun _ => Bool) (no ()) (yes ()) (seq m n)
def keyA (x : Rp AV) (b : AV) (yes no : Unit → Bool) : Bool := asAgg b fun y => @Bool.rec (fun _ => Bool) false (eqL x.toL y.toL yes no) (Nat.beq x.len y.len)
def keyF (a b : AV) (yes no : Unit → Bool) : Bool := AV.rec (motive_1 := fun _ => Bool) (motive_2 := fun _ => Unit) (motive_3 := fun _ => Unit) false (fun q m => keyI q m b yes no) (fun _ => false) (fun m => keyS m b yes no) false (fun _ _ => false) false (fun _ _ _ _ => false) (fun _ _ _ _ => false) (fun _ _ _ => false) false (fun _ => false) false (fun _ _ _ _ _ => false) false (fun _ _ _ => false) (fun x _ => keyA x b yes no) (fun _ _ => false) () (fun _ _ _ _ => ()) () (fun _ _ => ()) (fun _ _ _ => ()) (fun _ _ _ _ _ => ()) a
theorem keyF_eq (a b : AV) (yes no : Unit → Bool) : keyF a b yes no = keyEq a b yes no := by
  cases a with
  | int q m => cases b with
    | int r n => show @Bool.rec (fun _ => Bool) false (@Bool.rec (fun _ => Bool) (no ()) (yes ()) (ieq m n)) (Nat.beq (ikN q) (ikN r)) = cond (Nat.beq (ikN q) (ikN r)) (cond (ieq m n) (yes ()) (no ())) false; cases Nat.beq (ikN q) (ikN r) <;> cases ieq m n <;> rfl
    | _ => rfl
  | str m => cases b with
    | str n => show @Bool.rec (fun _ => Bool) (no ()) (yes ()) (seq m n) = cond (seq m n) (yes ()) (no ()); cases seq m n <;> rfl
    | _ => rfl
  | agg x => cases b with
    | agg y => show @Bool.rec (fun _ => Bool) false (eqL x.toL y.toL yes no) (Nat.beq x.len y.len) = cond (Nat.beq x.len y.len) (eqL x.toL y.toL yes no) false; cases Nat.beq x.len y.len <;> rfl
    | _ => rfl
  | _ => rfl
def mfindF (key : AV) (es : List (AV × AV × Nat)) (yes : Nat → AV → Bool) (no : Unit → Bool) : Nat → Bool :=
  List.rec (fun _ => no ()) (fun e _ ih i => Prod.rec (fun a q => keyF key a (fun _ => Prod.rec (fun v _ => yes i v) q) (fun _ => ih (Nat.succ i))) e) es
theorem mfindF_eq (key : AV) (yes : Nat → AV → Bool) (no : Unit → Bool) : ∀ (es : List (AV × AV × Nat)) (i : Nat), mfindF key es yes no i = mfind key es yes no i
  | [], i => rfl
  | (a, v, c) :: es, i => by
    show keyF key a (fun _ => yes i v) (fun _ => mfindF key es yes no (Nat.succ i)) = keyEq key a (fun _ => yes i v) (fun _ => mfind key es yes no (Nat.succ i))
    rw [keyF_eq, mfindF_eq key yes no es]
def isOdF (o : Option Od) (e : FE) (d : Nat) (k : Nat → Bool) : Bool := @Option.rec _ (fun _ => Bool) (k d) (fun o => asNat (gv e o) fun n => fN n k) o
theorem isOdF_eq {n : Nat} {e : FE} {env : Env} (h : RT n e env) (o : Option Od) (d : Nat) (k : Nat → Bool) : isOdF o e d k = isOd o env d k := by
  cases o with
  | none => rfl
  | some o =>
    show asNat (gv e o) (fun n => fN n k) = (match ev env o with
    | .int _ (.ofNat n) => fN n k
    | _ => false)
    rw [gv_eq h]
    cases ev env o with
    | int q m => cases m <;> rfl
    | _ => rfl
def cutB (e : FE) (len m : Nat) (lo hi : Option Od) (k : Nat → Nat → Nat → Bool) : Bool :=
  isOdF hi e len fun h => @Bool.rec (fun _ => Bool) false (isOdF lo e 0 fun l => @Bool.rec (fun _ => Bool) false (k l h m) (Nat.ble l h)) (Nat.ble h m)
def cutF (e : FE) (len cap : Nat) (lo hi mx : Option Od) (k : Nat → Nat → Nat → Bool) : Bool :=
  isOdF mx e cap fun m => @Bool.rec (fun _ => Bool) false (@Option.rec _ (fun _ => Bool) (@Option.rec _ (fun _ => Bool) (cutB e len m lo hi k) (fun _ => false) mx) (fun _ => cutB e len m lo hi k) hi) (Nat.ble m cap)
theorem cutF_eq {n : Nat} {e : FE} {env : Env} (h : RT n e env) (len cap : Nat) (lo hi mx : Option Od) (k : Nat → Nat → Nat → Bool) : cutF e len cap lo hi mx k = cut3 env len cap lo hi mx k := by
  unfold cutF cut3
  rw [isOdF_eq h]
  congr 1
  funext m
  have hB : cutB e len m lo hi k = isOd hi env len fun h => cond (Nat.ble h m) (isOd lo env 0 fun l => cond (Nat.ble l h) (k l h m) false) false := by
    unfold cutB
    rw [isOdF_eq h]
    congr 1
    funext h'
    rw [isOdF_eq h]
    simp only [bool_rec]
  rw [hB]
  cases Nat.ble m cap with
  | false => rfl
  | true => cases hi <;> cases mx <;> rfl
def sllS (es : Nat) (e : FE) (b o len e2 : Nat) (lo hi mx : Option Od) (H : AH) (k : AV → AH → Bool) : Bool := @Bool.rec (fun _ => Bool) false (@Option.rec _ (fun _ => Bool) (gcellF H b fun a _ _ => cutF e len (Nat.div (Nat.sub a.len o) es) lo hi .none fun l h m => @Bool.rec (fun _ => Bool) (fN (Nat.sub h l) fun n => fN (Nat.add o (Nat.mul l es)) fun o => k (.slu b o n es) H) (fN (Nat.add o (Nat.mul l es)) fun o => k (.slz b o es) H) (Nat.beq m l)) (fun _ => cutF e len len lo hi mx fun l h m => fN (Nat.sub h l) fun n => fN (Nat.sub m l) fun c => fN (@Bool.rec (fun _ => Nat) (Nat.add o (Nat.mul l es)) o (Nat.beq m l)) fun o => k (.slc b o n c) H) mx) (Nat.beq e2 es)
def sllF (es : Nat) (e : FE) (v : AV) (lo hi mx : Option Od) (H : AH) (k : AV → AH → Bool) : Bool := AV.rec (motive_1 := fun _ => Bool) (motive_2 := fun _ => Unit) (motive_3 := fun _ => Unit) false (fun _ _ => false) (fun _ => false) (fun _ => false) false (fun _ _ => false) (cutF e 0 0 lo hi mx fun _ _ _ => k .nils H) (fun b o len cap => cutF e len cap lo hi mx fun l h m => fN (Nat.sub h l) fun n => fN (Nat.sub m l) fun c => fN (@Bool.rec (fun _ => Nat) (Nat.add o (Nat.mul l es)) o (Nat.beq m l)) fun o => k (.slc b o n c) H) (fun b o len e2 => sllS es e b o len e2 lo hi mx H k) (fun b o e2 => cutF e 0 0 lo hi mx fun _ _ _ => k (.slz b o e2) H) false (fun _ => false) false (fun _ _ _ _ _ => false) false (fun _ _ _ => false) (fun _ _ => false) (fun _ _ => false) () (fun _ _ _ _ => ()) () (fun _ _ => ()) (fun _ _ _ => ()) (fun _ _ _ _ _ => ()) v
def eqVI (c : Nat) (q : IntKind) (m : Int) (y : AV) (on off : Bool) : Bool := asInt y fun r n => @Bool.rec (fun _ => Bool) false (@Bool.rec (fun _ => Bool) false (@Bool.rec (fun _ => Bool) off on (ieq m n)) (Nat.beq (ikN q) (ikN r))) (Nat.beq c 0)
def eqVS (c : Nat) (m : List Nat) (y : AV) (on off : Bool) : Bool := asStr y fun n => @Bool.rec (fun _ => Bool) false (@Bool.rec (fun _ => Bool) off on (seq m n)) (Nat.beq c 1)
def eqVB (c : Nat) (m : Bool) (y : AV) (on off : Bool) : Bool := asBool y fun n => @Bool.rec (fun _ => Bool) false (@Bool.rec (fun _ => Bool) off on (@Bool.rec (fun _ => Bool) (@Bool.rec (fun _ => Bool) true false n) n m)) (Nat.beq c 2)
def eqVF (c : Nat) (x y : AV) (on off : Bool) : Bool := AV.rec (motive_1 := fun _ => Bool) (motive_2 := fun _ => Unit) (motive_3 := fun _ => Unit) false (fun q m => eqVI c q m y on off) (fun m => eqVB c m y on off) (fun m => eqVS c m y on off) false (fun _ _ => false) false (fun _ _ _ _ => false) (fun _ _ _ _ => false) (fun _ _ _ => false) false (fun _ => false) false (fun _ _ _ _ _ => false) false (fun _ _ _ => false) (fun _ _ => false) (fun _ _ => false) () (fun _ _ _ _ => ()) () (fun _ _ => ()) (fun _ _ _ => ()) (fun _ _ _ _ _ => ()) x
def eqSF (sh : List Nat) : List AV → List AV → (Bool → Bool) → Bool :=
  List.rec (fun _ _ k => k true) (fun c _ ih a b k => List.rec false (fun x a _ => List.rec false (fun y b _ => eqVF c x y (ih a b k) (k false)) b) a) sh
theorem eqS_c (c : Nat) (sh : List Nat) (x y : AV) (a b : List AV) (k : Bool → Bool) : eqS (c :: sh) (x :: a) (y :: b) k = (match x, y with
      | .int q m, .int r n => cond (Nat.beq c 0) (cond (Nat.beq (ikN q) (ikN r)) (cond (ieq m n) (eqS sh a b k) (k false)) false) false
      | .str m, .str n => cond (Nat.beq c 1) (cond (seq m n) (eqS sh a b k) (k false)) false
      | .bool m, .bool n => cond (Nat.beq c 2) (cond (cond m n (!n)) (eqS sh a b k) (k false)) false
      | _, _ => false) := rfl
theorem eqSF_eq : ∀ (sh : List Nat) (a b : List AV) (k : Bool → Bool), eqSF sh a b k = eqS sh a b k
  | [], a, b, k => rfl
  | c :: sh, a, b, k => by
    cases a with
    | nil => rfl
    | cons x a =>
      cases b with
      | nil => cases x <;> rfl
      | cons y b =>
        have e : eqSF (c :: sh) (x :: a) (y :: b) k = eqVF c x y (eqSF sh a b k) (k false) := rfl
        rw [e, eqSF_eq sh a b k, eqS_c]
        cases x with
        | int q m => cases y with
          | int r n =>
            show @Bool.rec (fun _ => Bool) false (@Bool.rec (fun _ => Bool) false (@Bool.rec (fun _ => Bool) (k false) (eqS sh a b k) (ieq m n)) (Nat.beq (ikN q) (ikN r))) (Nat.beq c 0) = cond (Nat.beq c 0) (cond (Nat.beq (ikN q) (ikN r)) (cond (ieq m n) (eqS sh a b k) (k false)) false) false
            cases Nat.beq c 0 <;> cases Nat.beq (ikN q) (ikN r) <;> cases ieq m n <;> rfl
          | _ => rfl
        | str m => cases y with
          | str n =>
            show @Bool.rec (fun _ => Bool) false (@Bool.rec (fun _ => Bool) (k false) (eqS sh a b k) (seq m n)) (Nat.beq c 1) = cond (Nat.beq c 1) (cond (seq m n) (eqS sh a b k) (k false)) false
            cases Nat.beq c 1 <;> cases seq m n <;> rfl
          | _ => rfl
        | bool m => cases y with
          | bool n =>
            show @Bool.rec (fun _ => Bool) false (@Bool.rec (fun _ => Bool) (k false) (eqS sh a b k) (@Bool.rec (fun _ => Bool) (@Bool.rec (fun _ => Bool) true false n) n m)) (Nat.beq c 2) = cond (Nat.beq c 2) (cond (cond m n (!n)) (eqS sh a b k) (k false)) false
            cases Nat.beq c 2 <;> cases m <;> cases n <;> rfl
          | _ => rfl
        | _ => rfl

/-! ### operations -/
def o_bad  (n : Nat) (e : FE) (H : AH) (k : AV → AH → Bool) : Bool := xop (.bad) (toLs n e) H k
def o_mv (x : Od) (n : Nat) (e : FE) (H : AH) (k : AV → AH → Bool) : Bool := k (gv e x) H
def o_pick (c a b : Od) (n : Nat) (e : FE) (H : AH) (k : AV → AH → Bool) : Bool := asBool (gv e c) fun t => k (@Bool.rec (fun _ => AV) (gv e b) (gv e a) t) H
def o_alloc (z : Rp AV) (n : Nat) (e : FE) (H : AH) (k : AV → AH → Bool) : Bool := anew H (.cells z false false) fun b H => k (.ptr b 0) H
def o_box (x : Od) (n : Nat) (e : FE) (H : AH) (k : AV → AH → Bool) : Bool := onKind (gv e x) (fun r => anew H (.cells r false false) fun b H => k (.ptr b 0) H) (anew H (.cells (.one (gv e x)) false false) fun b H => k (.ptr b 0) H)
def o_build (z : Rp AV) (ps : List (Nat × Nat × Od)) (n : Nat) (e : FE) (H : AH) (k : AV → AH → Bool) : Bool := fillF e ps z fun r => k (.agg r) H
def o_bsl (m : Nat) (z : Rp AV) (ps : List (Nat × Nat × Od)) (n : Nat) (e : FE) (H : AH) (k : AV → AH → Bool) : Bool := fillF e ps z fun r => anew H (.cells r false false) fun b H => k (.slc b 0 m m) H
def o_ld1 (a : Od) (n : Nat) (e : FE) (H : AH) (k : AV → AH → Bool) : Bool := asPtr (gv e a) fun b off => gcellF H b fun c _ _ => @Option.rec _ (fun _ => Bool) false (fun v => k v H) (c.get off)
def o_ldn (m : Nat) (a : Od) (n : Nat) (e : FE) (H : AH) (k : AV → AH → Bool) : Bool := asPtr (gv e a) fun b off => gcellF H b fun c _ _ => @Bool.rec (fun _ => Bool) false (k (.agg (c.sub off m)) H) (Nat.ble (Nat.add off m) c.len)
def o_st (m : Nat) (a x : Od) (n : Nat) (e : FE) (H : AH) (k : AV → AH → Bool) : Bool := asPtr (gv e a) fun b off => gcellF H b fun c st ro => @Bool.rec (fun _ => Bool) (onKind (gv e x) (fun r => @Bool.rec (fun _ => Bool) false (@Bool.rec (fun _ => Bool) false (k .undef (H.set b (.cells (c.put off m r) st ro))) (Nat.ble (Nat.add off m) c.len)) (Nat.beq r.len m)) (@Bool.rec (fun _ => Bool) false (@Bool.rec (fun _ => Bool) false (k .undef (H.set b (.cells (c.set off (gv e x)) st ro))) (Nat.ble (Nat.succ off) c.len)) (Nat.beq m 1))) false ro
def o_nck (x : Od) (n : Nat) (e : FE) (H : AH) (k : AV → AH → Bool) : Bool := nckF (gv e x) H k
def o_fla (off : Nat) (x : Od) (n : Nat) (e : FE) (H : AH) (k : AV → AH → Bool) : Bool := asPtr (gv e x) fun b o => fN (Nat.add o off) fun o => k (.ptr b o) H
def o_ixa (len es : Nat) (x i : Od) (n : Nat) (e : FE) (H : AH) (k : AV → AH → Bool) : Bool := asPtr (gv e x) fun b o => asNat (gv e i) fun n => @Bool.rec (fun _ => Bool) (fN (Nat.add o (Nat.mul n es)) fun o => k (.ptr b o) H) false (Nat.ble len n)
def o_ixs (es : Nat) (x i : Od) (n : Nat) (e : FE) (H : AH) (k : AV → AH → Bool) : Bool := asSlc (gv e x) fun b o len => asNat (gv e i) fun n => @Bool.rec (fun _ => Bool) (fN (Nat.add o (Nat.mul n es)) fun o => k (.ptr b o) H) false (Nat.ble len n)
def o_iag (len es : Nat) (g : Bool) (x i : Od) (n : Nat) (e : FE) (H : AH) (k : AV → AH → Bool) : Bool := asAgg (gv e x) fun r => asNat (gv e i) fun n => @Bool.rec (fun _ => Bool) (@Bool.rec (fun _ => Bool) (@Option.rec _ (fun _ => Bool) false (fun v => k v H) (r.get (Nat.mul n es))) (@Bool.rec (fun _ => Bool) false (k (.agg (r.sub (Nat.mul n es) es)) H) (Nat.ble (Nat.add (Nat.mul n es) es) r.len)) g) false (Nat.ble len n)
def o_ist (x i : Od) (n : Nat) (e : FE) (H : AH) (k : AV → AH → Bool) : Bool := asStr (gv e x) fun s => asNat (gv e i) fun n => @Option.rec _ (fun _ => Bool) false (fun c => fN c fun c => k (.int .u8 (Int.ofNat c)) H) (lnth s n)
def o_fld (off m : Nat) (g : Bool) (x : Od) (n : Nat) (e : FE) (H : AH) (k : AV → AH → Bool) : Bool := asAgg (gv e x) fun r => @Bool.rec (fun _ => Bool) (@Option.rec _ (fun _ => Bool) false (fun v => k v H) (r.get off)) (@Bool.rec (fun _ => Bool) false (k (.agg (r.sub off m)) H) (Nat.ble (Nat.add off m) r.len)) g
def o_bin (op : BinOp) (ek : Nat) (x y : Od) (n : Nat) (e : FE) (H : AH) (k : AV → AH → Bool) : Bool := binF op ek H (gv e x) (gv e y) k
def o_eqa (g : Bool) (sh : List Nat) (x y : Od) (n : Nat) (e : FE) (H : AH) (k : AV → AH → Bool) : Bool := asAgg (gv e x) fun a => asAgg (gv e y) fun b => @Bool.rec (fun _ => Bool) false (@Bool.rec (fun _ => Bool) false (eqSF sh a.toL b.toL fun t => k (.bool (@Bool.rec (fun _ => Bool) t (@Bool.rec (fun _ => Bool) true false t) g)) H) (Nat.beq b.len (llen sh 0))) (Nat.beq a.len (llen sh 0))
def o_not (x : Od) (n : Nat) (e : FE) (H : AH) (k : AV → AH → Bool) : Bool := asBool (gv e x) fun b => @Bool.rec (fun _ => Bool) (k (.bool true) H) (k (.bool false) H) b
def o_neg (x : Od) (n : Nat) (e : FE) (H : AH) (k : AV → AH → Bool) : Bool := xop (.neg x) (toLs n e) H k
def o_xorn (x : Od) (n : Nat) (e : FE) (H : AH) (k : AV → AH → Bool) : Bool := xop (.xorn x) (toLs n e) H k
def o_cvi (q : IntKind) (x : Od) (n : Nat) (e : FE) (H : AH) (k : AV → AH → Bool) : Bool := asInt (gv e x) fun _ z => Int.rec (fun m => putN q m (fI (wrapF q (Int.ofNat m)) fun z => k (.int q z) H) fun v => k v H) (fun m => fI (wrapF q (Int.negSucc m)) fun z => k (.int q z) H) z
def o_cvs (x : Od) (n : Nat) (e : FE) (H : AH) (k : AV → AH → Bool) : Bool := asStr (gv e x) fun s => k (.str s) H
def o_s2b (x : Od) (n : Nat) (e : FE) (H : AH) (k : AV → AH → Bool) : Bool := xop (.s2b x) (toLs n e) H k
def o_b2s (x : Od) (n : Nat) (e : FE) (H : AH) (k : AV → AH → Bool) : Bool := b2sF H (gv e x) k
def o_s2a (m : Nat) (x : Od) (n : Nat) (e : FE) (H : AH) (k : AV → AH → Bool) : Bool := xop (.s2a m x) (toLs n e) H k
def o_mki (t : TypeId) (x : Od) (n : Nat) (e : FE) (H : AH) (k : AV → AH → Bool) : Bool := k (.ifc t (gv e x)) H
def o_tas (t : TypeId) (x : Od) (n : Nat) (e : FE) (H : AH) (k : AV → AH → Bool) : Bool := xop (.tas t x) (toLs n e) H k
def o_mkf (f : AFn) (a b : List Od) (n : Nat) (e : FE) (H : AH) (k : AV → AH → Bool) : Bool := k (.fn f (mapE e a) (mapE e b)) H
def o_mkm  (n : Nat) (e : FE) (H : AH) (k : AV → AH → Bool) : Bool := xop (.mkm) (toLs n e) H k
def o_mks (es bytes : Nat) (z : Rp AV) (l c : Od) (n : Nat) (e : FE) (H : AH) (k : AV → AH → Bool) : Bool := xop (.mks es bytes z l c) (toLs n e) H k
def o_sls (x : Od) (lo hi : Option Od) (n : Nat) (e : FE) (H : AH) (k : AV → AH → Bool) : Bool := asStr (gv e x) fun s => fN (llen s 0) fun n => cutF e n n lo hi .none fun l h _ => k (.str ((s.drop l).take (Nat.sub h l))) H
def o_sll (es : Nat) (x : Od) (lo hi mx : Option Od) (n : Nat) (e : FE) (H : AH) (k : AV → AH → Bool) : Bool := sllF es e (gv e x) lo hi mx H k
def o_sla (m es : Nat) (x : Od) (lo hi mx : Option Od) (n : Nat) (e : FE) (H : AH) (k : AV → AH → Bool) : Bool := asPtr (gv e x) fun b o => cutF e m m lo hi mx fun l h m => fN (Nat.sub h l) fun n => fN (Nat.sub m l) fun c => fN (@Bool.rec (fun _ => Nat) (Nat.add o (Nat.mul l es)) o (Nat.beq m l)) fun o => k (.slc b o n c) H
def o_lkp (z : AV) (ok : Bool) (kk : Nat) (m key : Od) (n : Nat) (e : FE) (H : AH) (k : AV → AH → Bool) : Bool := @Bool.rec (fun _ => Bool) false (asMapN (gv e m) (k (@Bool.rec (fun _ => AV) z (.tup [z, .bool false]) ok) H) fun r => gmapF H r fun es _ => mfindF (gv e key) es (fun _ v => k (@Bool.rec (fun _ => AV) v (.tup [v, .bool true]) ok) H) (fun _ => k (@Bool.rec (fun _ => AV) z (.tup [z, .bool false]) ok) H) 0) (isKey kk (gv e key))
def o_mup (kk : Nat) (m key x : Od) (n : Nat) (e : FE) (H : AH) (k : AV → AH → Bool) : Bool := xop (.mup kk m key x) (toLs n e) H k
def o_ext (x : Od) (i : Nat) (n : Nat) (e : FE) (H : AH) (k : AV → AH → Bool) : Bool := asTup (gv e x) fun vs => @Option.rec _ (fun _ => Bool) false (fun v => k v H) (lnth vs i)
def o_len (lk : Nat) (x : Od) (n : Nat) (e : FE) (H : AH) (k : AV → AH → Bool) : Bool := Nat.rec (asStr (gv e x) fun s => fN (llen s 0) fun n => k (.int .i64 (Int.ofNat n)) H) (fun lk _ => Nat.rec (asLen (gv e x) fun n => k (.int .i64 (Int.ofNat n)) H) (fun _ _ => lenM H (gv e x) fun n => k (.int .i64 (Int.ofNat n)) H) lk) lk
def o_capo (x : Od) (n : Nat) (e : FE) (H : AH) (k : AV → AH → Bool) : Bool := xop (.capo x) (toLs n e) H k
def o_app (es bytes : Nat) (z : Rp AV) (zm : Bool) (s x : Od) (n : Nat) (e : FE) (H : AH) (k : AV → AH → Bool) : Bool := appF es bytes z zm H (gv e s) (gv e x) k
def o_copy (es : Nat) (d s : Od) (n : Nat) (e : FE) (H : AH) (k : AV → AH → Bool) : Bool := xop (.copy es d s) (toLs n e) H k
def o_del (kk : Nat) (m key : Od) (n : Nat) (e : FE) (H : AH) (k : AV → AH → Bool) : Bool := xop (.del kk m key) (toLs n e) H k
def o_clrm (m : Od) (n : Nat) (e : FE) (H : AH) (k : AV → AH → Bool) : Bool := xop (.clrm m) (toLs n e) H k
def o_clrs (es : Nat) (z : Rp AV) (s : Od) (n : Nat) (e : FE) (H : AH) (k : AV → AH → Bool) : Bool := xop (.clrs es z s) (toLs n e) H k
def o_mx (x y : Od) (n : Nat) (e : FE) (H : AH) (k : AV → AH → Bool) : Bool := xop (.mx x y) (toLs n e) H k
def o_mn (x y : Od) (n : Nat) (e : FE) (H : AH) (k : AV → AH → Bool) : Bool := xop (.mn x y) (toLs n e) H k
def o_call (f : Od) (as : List Od) (n : Nat) (e : FE) (H : AH) (k : AV → AH → Bool) : Bool := xop (.call f as) (toLs n e) H k
def o_rng (x : Od) (n : Nat) (e : FE) (H : AH) (k : AV → AH → Bool) : Bool := xop (.rng x) (toLs n e) H k
def o_nxt (x : Od) (n : Nat) (e : FE) (H : AH) (k : AV → AH → Bool) : Bool := xop (.nxt x) (toLs n e) H k
def fop (o : XOp) : Nat → FE → AH → (AV → AH → Bool) → Bool := XOp.rec (motive := fun _ => Nat → FE → AH → (AV → AH → Bool) → Bool) o_bad o_mv o_pick o_alloc o_box o_build o_bsl o_ld1 o_ldn o_st o_nck o_fla o_ixa o_ixs o_iag o_ist o_fld o_bin o_eqa o_not o_neg o_xorn o_cvi o_cvs o_s2b o_b2s o_s2a o_mki o_tas o_mkf o_mkm o_mks o_sls o_sll o_sla o_lkp o_mup o_ext o_len o_capo o_app o_copy o_del o_clrm o_clrs o_mx o_mn o_call o_rng o_nxt o
section
variable {n : Nat} {e : FE} {env : Env} (h : RT n e env) (H : AH) (k : AV → AH → Bool)
include h
theorem fop_eq (o : XOp) : fop o n e H k = xop o env H k := by
  cases o
  case bad =>
    show xop (.bad) (toLs n e) H k = _
    rw [toLs_eq h]
  case mv x =>
    show o_mv x n e H k = _
    unfold o_mv
    rw [gv_eq h]; rfl
  case pick c a b =>
    show o_pick c a b n e H k = _
    unfold o_pick
    simp only [gv_eq h]
    show _ = (match ev env c with | .bool t => k (cond t (ev env a) (ev env b)) H | _ => false)
    cases ev env c with
    | bool t => cases t <;> rfl
    | _ => rfl
  case alloc z =>
    show o_alloc z n e H k = _
    unfold o_alloc
    rfl
  case box x =>
    show o_box x n e H k = _
    unfold o_box
    rw [gv_eq h]
    show _ = alc (boxed (ev env x)) H k
    cases ev env x <;> rfl
  case build z ps =>
    show o_build z ps n e H k = _
    unfold o_build
    rw [fillF_eq h]; rfl
  case bsl m z ps =>
    show o_bsl m z ps n e H k = _
    unfold o_bsl
    rw [fillF_eq h]; rfl
  case ld1 a =>
    show o_ld1 a n e H k = _
    unfold o_ld1
    rw [gv_eq h]
    show _ = (match ev env a with | .ptr b off => gcell H b fun c _ _ => (match c.get off with | some v => k v H | none => false) | _ => false)
    cases ev env a with
    | ptr b off => show gcellF H b _ = _; rw [gcellF_eq]; congr 1; funext c _ _; cases c.get off <;> rfl
    | _ => rfl
  case ldn m a =>
    show o_ldn m a n e H k = _
    unfold o_ldn
    rw [gv_eq h]
    show _ = (match ev env a with | .ptr b off => gcell H b fun c _ _ => cond (Nat.ble (off + m) c.len) (k (.agg (c.sub off m)) H) false | _ => false)
    cases ev env a with
    | ptr b off => show gcellF H b _ = _; rw [gcellF_eq]; simp only [bool_rec]; rfl
    | _ => rfl
  case st m a x =>
    show o_st m a x n e H k = _
    unfold o_st
    simp only [gv_eq h]
    show _ = (match ev env a with
    | .ptr b off => gcell H b fun c st ro => cond ro false (match ev env x with
      | .agg r => cond (Nat.beq r.len m) (cond (Nat.ble (off + m) c.len) (k .undef (H.set b (.cells (c.put off m r) st ro))) false) false
      | v => cond v.sc (cond (Nat.beq m 1) (cond (Nat.ble (off + 1) c.len) (k .undef (H.set b (.cells (c.set off v) st ro))) false) false) false)
    | _ => false)
    cases ev env a with
    | ptr b off =>
      show gcellF H b _ = _
      rw [gcellF_eq]
      simp only [bool_rec]
      cases ev env x <;> rfl
    | _ => rfl
  case nck x =>
    show o_nck x n e H k = _
    unfold o_nck
    rw [gv_eq h]
    show _ = (match ev env x with | .ptr b off => k (.ptr b off) H | .fn (.fn (.func f)) a b => k (.fn (.fn (.func f)) a b) H | .fn (.yld l) a b => k (.fn (.yld l) a b) H | _ => false)
    cases ev env x with
    | fn f a b => cases f with
      | fn g => cases g <;> rfl
      | yld l => rfl
    | _ => rfl
  case fla off x =>
    show o_fla off x n e H k = _
    unfold o_fla
    rw [gv_eq h]
    show _ = (match ev env x with | .ptr b o => fN (o + off) fun o => k (.ptr b o) H | _ => false)
    cases ev env x <;> rfl
  case ixa len es x i =>
    show o_ixa len es x i n e H k = _
    unfold o_ixa
    simp only [gv_eq h]
    show _ = (match ev env x, ev env i with
    | .ptr b o, .int _ (.ofNat n) => cond (Nat.ble len n) false (fN (o + n * es) fun o => k (.ptr b o) H)
    | _, _ => false)
    cases ev env x with
    | ptr b o => cases ev env i with
      | int q z => cases z with
        | ofNat z => show @Bool.rec (fun _ => Bool) _ false (Nat.ble len z) = _; rw [bool_rec]; rfl
        | negSucc z => rfl
      | _ => rfl
    | _ => rfl
  case ixs es x i =>
    show o_ixs es x i n e H k = _
    unfold o_ixs
    simp only [gv_eq h]
    show _ = (match ev env x, ev env i with
    | .slc b o len _, .int _ (.ofNat n) => cond (Nat.ble len n) false (fN (o + n * es) fun o => k (.ptr b o) H)
    | .slu b o len _, .int _ (.ofNat n) => cond (Nat.ble len n) false (fN (o + n * es) fun o => k (.ptr b o) H)
    | _, _ => false)
    cases ev env x with
    | slc b o l c => cases ev env i with
      | int q z => cases z with
        | ofNat z => show @Bool.rec (fun _ => Bool) _ false (Nat.ble l z) = _; rw [bool_rec]; rfl
        | negSucc z => rfl
      | _ => rfl
    | slu b o l c => cases ev env i with
      | int q z => cases z with
        | ofNat z => show @Bool.rec (fun _ => Bool) _ false (Nat.ble l z) = _; rw [bool_rec]; rfl
        | negSucc z => rfl
      | _ => rfl
    | _ => rfl
  case iag len es g x i =>
    show o_iag len es g x i n e H k = _
    unfold o_iag
    simp only [gv_eq h]
    show _ = (match ev env x, ev env i with
    | .agg r, .int _ (.ofNat n) => cond (Nat.ble len n) false (cond g (cond (Nat.ble (n * es + es) r.len) (k (.agg (r.sub (n * es) es)) H) false) (match r.get (n * es) with
      | some v => k v H
      | none => false))
    | _, _ => false)
    cases ev env x with
    | agg r => cases ev env i with
      | int q z => cases z with
        | ofNat z =>
          show @Bool.rec (fun _ => Bool) (@Bool.rec (fun _ => Bool) (@Option.rec _ (fun _ => Bool) false (fun v => k v H) (r.get (z * es))) (@Bool.rec (fun _ => Bool) false (k (.agg (r.sub (z * es) es)) H) (Nat.ble (z * es + es) r.len)) g) false (Nat.ble len z) = _
          simp only [bool_rec]
          cases r.get (z * es) <;> rfl
        | negSucc z => rfl
      | _ => rfl
    | _ => rfl
  case ist x i =>
    show o_ist x i n e H k = _
    unfold o_ist
    simp only [gv_eq h]
    show _ = (match ev env x, ev env i with
    | .str s, .int _ (.ofNat n) => (match s[n]? with
      | some c => fN c fun c => k (.int .u8 (Int.ofNat c)) H
      | none => false)
    | _, _ => false)
    cases ev env x with
    | str s => cases ev env i with
      | int q z => cases z with
        | ofNat z =>
          show @Option.rec _ (fun _ => Bool) false _ (lnth s z) = (match s[z]? with
            | some c => fN c fun c => k (.int .u8 (Int.ofNat c)) H
            | none => false)
          rw [lnth_eq]
          cases s[z]? <;> rfl
        | negSucc z => rfl
      | _ => rfl
    | _ => rfl
  case fld off m g x =>
    show o_fld off m g x n e H k = _
    unfold o_fld
    rw [gv_eq h]
    show _ = (match ev env x with
    | .agg r => cond g (cond (Nat.ble (off + m) r.len) (k (.agg (r.sub off m)) H) false) (match r.get off with
      | some v => k v H
      | none => false)
    | _ => false)
    cases ev env x with
    | agg r =>
      show @Bool.rec (fun _ => Bool) (@Option.rec _ (fun _ => Bool) false (fun v => k v H) (r.get off)) (@Bool.rec (fun _ => Bool) false (k (.agg (r.sub off m)) H) (Nat.ble (off + m) r.len)) g = _
      simp only [bool_rec]
      cases r.get off <;> rfl
    | _ => rfl
  case bin op ek x y =>
    show o_bin op ek x y n e H k = _
    unfold o_bin
    rw [binF_eq, gv_eq h, gv_eq h]; rfl
  case eqa g sh x y =>
    show o_eqa g sh x y n e H k = _
    unfold o_eqa
    simp only [gv_eq h, bool_rec]
    show _ = (match ev env x, ev env y with
    | .agg a, .agg b => cond (Nat.beq a.len (llen sh 0)) (cond (Nat.beq b.len (llen sh 0)) (eqS sh a.toL b.toL fun t => k (.bool (cond g (!t) t)) H) false) false
    | _, _ => false)
    cases ev env x with
    | agg a => cases ev env y with
      | agg b =>
        show cond (Nat.beq a.len (llen sh 0)) (cond (Nat.beq b.len (llen sh 0)) (eqSF sh a.toL b.toL _) false) false = _
        rw [eqSF_eq]
        have e : ∀ t : Bool, (cond g (cond t false true) t) = cond g (!t) t := fun t => by cases t <;> rfl
        simp only [e]
      | _ => rfl
    | _ => rfl
  case not x =>
    show o_not x n e H k = _
    unfold o_not
    rw [gv_eq h]
    show _ = (match ev env x with | .bool b => k (.bool (!b)) H | _ => false)
    cases ev env x with
    | bool b => cases b <;> rfl
    | _ => rfl
  case neg x =>
    show xop (.neg x) (toLs n e) H k = _
    rw [toLs_eq h]
  case xorn x =>
    show xop (.xorn x) (toLs n e) H k = _
    rw [toLs_eq h]
  case cvi q x =>
    show o_cvi q x n e H k = _
    unfold o_cvi
    rw [gv_eq h]
    show _ = (match ev env x with | .int _ n => fI (wrapF q n) fun z => k (.int q z) H | _ => false)
    cases ev env x with
    | int q' z => cases z with
      | ofNat m => exact putN_eq q m _ (fun v => k v H) rfl
      | negSucc m => rfl
    | _ => rfl
  case cvs x =>
    show o_cvs x n e H k = _
    unfold o_cvs
    rw [gv_eq h]
    show _ = (match ev env x with | .str s => k (.str s) H | _ => false)
    cases ev env x <;> rfl
  case s2b x =>
    show xop (.s2b x) (toLs n e) H k = _
    rw [toLs_eq h]
  case b2s x =>
    show o_b2s x n e H k = _
    unfold o_b2s
    rw [gv_eq h]; rfl
  case s2a m x =>
    show xop (.s2a m x) (toLs n e) H k = _
    rw [toLs_eq h]
  case mki t x =>
    show o_mki t x n e H k = _
    unfold o_mki
    rw [gv_eq h]; rfl
  case tas t x =>
    show xop (.tas t x) (toLs n e) H k = _
    rw [toLs_eq h]
  case mkf f a b =>
    show o_mkf f a b n e H k = _
    unfold o_mkf
    rw [mapE_eq h, mapE_eq h]; rfl
  case mkm =>
    show xop (.mkm) (toLs n e) H k = _
    rw [toLs_eq h]
  case mks es bytes z l c =>
    show xop (.mks es bytes z l c) (toLs n e) H k = _
    rw [toLs_eq h]
  case sls x lo hi =>
    show o_sls x lo hi n e H k = _
    unfold o_sls
    simp only [gv_eq h, cutF_eq h]
    show _ = (match ev env x with | .str s => fN (llen s 0) fun n => cut3 env n n lo hi none fun l h _ => k (.str ((s.drop l).take (h - l))) H | _ => false)
    cases ev env x <;> rfl
  case sll es x lo hi mx =>
    show o_sll es x lo hi mx n e H k = _
    unfold o_sll
    unfold sllF sllS
    simp only [gv_eq h, cutF_eq h, gcellF_eq, bool_rec]
    show _ = (match ev env x with
    | .nils => cut3 env 0 0 lo hi mx fun _ _ _ => k .nils H
    | .slc b o len cap => cut3 env len cap lo hi mx fun l h m => fN (h - l) fun n => fN (m - l) fun c => fN (cond (Nat.beq m l) o (o + l * es)) fun o => k (.slc b o n c) H
    | .slu b o len e => cond (Nat.beq e es) (match mx with
      | some _ => cut3 env len len lo hi mx fun l h m => fN (h - l) fun n => fN (m - l) fun c => fN (cond (Nat.beq m l) o (o + l * es)) fun o => k (.slc b o n c) H
      | none => gcell H b fun a _ _ => cut3 env len ((a.len - o) / es) lo hi none fun l h m => cond (Nat.beq m l) (fN (o + l * es) fun o => k (.slz b o es) H) (fN (h - l) fun n => fN (o + l * es) fun o => k (.slu b o n es) H)) false
    | .slz b o e => cut3 env 0 0 lo hi mx fun _ _ _ => k (.slz b o e) H
    | _ => false)
    cases ev env x <;> cases mx <;> rfl
  case sla m es x lo hi mx =>
    show o_sla m es x lo hi mx n e H k = _
    unfold o_sla
    simp only [gv_eq h, cutF_eq h, bool_rec]
    show _ = (match ev env x with
    | .ptr b o => cut3 env m m lo hi mx fun l h m => fN (h - l) fun n => fN (m - l) fun c => fN (cond (Nat.beq m l) o (o + l * es)) fun o => k (.slc b o n c) H
    | _ => false)
    cases ev env x with
    | ptr b o => rfl
    | _ => rfl
  case lkp z ok kk m key =>
    show o_lkp z ok kk m key n e H k = _
    unfold o_lkp
    simp only [gv_eq h, bool_rec, gmapF_eq, mfindF_eq]
    show _ = cond (isKey kk (ev env key)) (match ev env m with
    | .nilm => k (cond ok (.tup [z, .bool false]) z) H
    | .map r => gmap H r fun es _ => mfind (ev env key) es (fun _ v => k (cond ok (.tup [v, .bool true]) v) H) (fun _ => k (cond ok (.tup [z, .bool false]) z) H) 0
    | _ => false) false
    cases isKey kk (ev env key) with
    | false => rfl
    | true =>
      simp only [cond_true]
      cases ev env m with
      | map r => rfl
      | _ => rfl
  case mup kk m key x =>
    show xop (.mup kk m key x) (toLs n e) H k = _
    rw [toLs_eq h]
  case ext x i =>
    show o_ext x i n e H k = _
    unfold o_ext
    rw [gv_eq h]
    show _ = (match ev env x with | .tup vs => (match vs[i]? with | some v => k v H | none => false) | _ => false)
    cases ev env x with
    | tup vs => show @Option.rec _ (fun _ => Bool) false _ (lnth vs i) = (match vs[i]? with | some v => k v H | none => false); rw [lnth_eq]; cases vs[i]? <;> rfl
    | _ => rfl
  case len lk x =>
    show o_len lk x n e H k = _
    unfold o_len
    rw [gv_eq h]
    match lk with
    | 0 =>
      show asStr (ev env x) _ = (match ev env x with | .str s => fN (llen s 0) fun n => k (.int .i64 (Int.ofNat n)) H | _ => false)
      cases ev env x <;> rfl
    | 1 =>
      show asLen (ev env x) _ = (match ev env x with | .str _ => false | x => srcLen x fun n => k (.int .i64 (Int.ofNat n)) H)
      cases ev env x <;> rfl
    | _ + 2 =>
      show lenM H (ev env x) _ = (match ev env x with | .map r => gmap H r fun es _ => fN (llen es 0) fun n => k (.int .i64 (Int.ofNat n)) H | .nilm => k (.int .i64 0) H | _ => false)
      cases ev env x with
      | map r => show gmapF H r _ = _; rw [gmapF_eq]
      | _ => rfl
  case capo x =>
    show xop (.capo x) (toLs n e) H k = _
    rw [toLs_eq h]
  case app es bytes z zm s x =>
    show o_app es bytes z zm s x n e H k = _
    unfold o_app
    rw [gv_eq h, gv_eq h]; rfl
  case copy es d s =>
    show xop (.copy es d s) (toLs n e) H k = _
    rw [toLs_eq h]
  case del kk m key =>
    show xop (.del kk m key) (toLs n e) H k = _
    rw [toLs_eq h]
  case clrm m =>
    show xop (.clrm m) (toLs n e) H k = _
    rw [toLs_eq h]
  case clrs es z s =>
    show xop (.clrs es z s) (toLs n e) H k = _
    rw [toLs_eq h]
  case mx x y =>
    show xop (.mx x y) (toLs n e) H k = _
    rw [toLs_eq h]
  case mn x y =>
    show xop (.mn x y) (toLs n e) H k = _
    rw [toLs_eq h]
  case call f as =>
    show xop (.call f as) (toLs n e) H k = _
    rw [toLs_eq h]
  case rng x =>
    show xop (.rng x) (toLs n e) H k = _
    rw [toLs_eq h]
  case nxt x =>
    show xop (.nxt x) (toLs n e) H k = _
    rw [toLs_eq h]
end

/-! ### code -/
def setF (n : Nat) (d : Option Nat) (v : AV) (e : FE) : FE := @Option.rec _ (fun _ => FE) e (fun d => @Bool.rec (fun _ => FE) e (T.upd e d (some v)) (Nat.ble (Nat.succ d) n)) d
theorem setF_eq {n : Nat} {e : FE} {env : Env} (h : RT n e env) (d : Option Nat) (v : AV) : RT n (setF n d v e) (setd d v env) := by
  cases d with
  | none => exact h
  | some d =>
    show RT n (@Bool.rec (fun _ => FE) e (T.upd e d (some v)) (Nat.ble (Nat.succ d) n)) (lset env d v)
    rw [lset_eq]
    cases hb : Nat.ble (Nat.succ d) n with
    | false =>
      have : ¬ d < env.length := fun hlt => by
        rw [h.1] at hlt
        rw [Nat.ble_eq_true_of_le hlt] at hb; cases hb
      rw [List.set_eq_of_length_le (by omega)]
      exact h
    | true =>
      have hlt := Nat.le_of_ble_eq_true hb
      refine ⟨by rw [List.length_set]; exact h.1, fun t => ?_⟩
      show T.get (T.upd e d (some v)) t = _
      rw [T.get_upd, List.getElem?_set, h.2]
      have := h.1
      by_cases ht : t = d
      · subst ht; rw [if_pos rfl, if_pos rfl, if_pos (by omega)]
      · rw [if_neg ht, if_neg (fun e => ht e.symm)]
abbrev Kf := FE → AH → Bool
def wantV (w : Bool) (v : AV) (yes no : Unit → Bool) : Bool := AV.rec (motive_1 := fun _ => Bool) (motive_2 := fun _ => Unit) (motive_3 := fun _ => Unit) false (fun _ _ => false) (fun b => @Bool.rec (fun _ => Bool) (no ()) (yes ()) (@Bool.rec (fun _ => Bool) (@Bool.rec (fun _ => Bool) true false w) w b)) (fun _ => false) false (fun _ _ => false) false (fun _ _ _ _ => false) (fun _ _ _ _ => false) (fun _ _ _ => false) false (fun _ => false) false (fun _ _ _ _ _ => false) false (fun _ _ _ => false) (fun _ _ => false) (fun l _ => List.rec (no ()) (fun _ _ _ => false) l) () (fun _ _ _ _ => ()) () (fun _ _ => ()) (fun _ _ _ => ()) (fun _ _ _ _ _ => ()) v
def wantsF (g : Option (Nat × Bool)) (e : FE) (yes no : Unit → Bool) : Bool := @Option.rec _ (fun _ => Bool) (yes ()) (fun p => Prod.rec (fun t w => wantV w (getT e t) yes no) p) g
theorem wantsF_eq {n : Nat} {e : FE} {env : Env} (h : RT n e env) (g : Option (Nat × Bool)) (yes no : Unit → Bool) : wantsF g e yes no = wants g env yes no := by
  cases g with
  | none => rfl
  | some p =>
    obtain ⟨t, w⟩ := p
    show wantV w (getT e t) yes no = (match lget env t with
    | .bool b => cond (cond b w (!w)) (yes ()) (no ())
    | .tup [] => no ()
    | _ => false)
    rw [getT_eq h]
    cases lget env t with
    | bool b => cases b <;> cases w <;> rfl
    | tup l => cases l <;> rfl
    | _ => rfl
abbrev Op4 := Nat → FE → AH → (AV → AH → Bool) → Bool
def callO (cl : Cl) (f : Od) (as : List Od) : Op4 := fun _ e H k => cl (gv e f) (mapE e as) H k
def actF (cl : Cl) (o : XOp) : Op4 := XOp.rec (motive := fun _ => Op4) o_bad o_mv o_pick o_alloc o_box o_build o_bsl o_ld1 o_ldn o_st o_nck o_fla o_ixa o_ixs o_iag o_ist o_fld o_bin o_eqa o_not o_neg o_xorn o_cvi o_cvs o_s2b o_b2s o_s2a o_mki o_tas o_mkf o_mkm o_mks o_sls o_sll o_sla o_lkp o_mup o_ext o_len o_capo o_app o_copy o_del o_clrm o_clrs o_mx o_mn (callO cl) o_rng o_nxt o
theorem actF_eq {n : Nat} {e : FE} {env : Env} (h : RT n e env) (cl : Cl) (o : XOp) (H : AH) (k : AV → AH → Bool) : actF cl o n e H k = act cl o env H k := by
  cases o
  case call f as => show cl (gv e f) (mapE e as) H k = cl (ev env f) (as.map (ev env)) H k; rw [gv_eq h, mapE_eq h]
  case bad => exact fop_eq h H k (.bad)
  case mv x0 => exact fop_eq h H k (.mv x0)
  case pick x0 x1 x2 => exact fop_eq h H k (.pick x0 x1 x2)
  case alloc x0 => exact fop_eq h H k (.alloc x0)
  case box x0 => exact fop_eq h H k (.box x0)
  case build x0 x1 => exact fop_eq h H k (.build x0 x1)
  case bsl x0 x1 x2 => exact fop_eq h H k (.bsl x0 x1 x2)
  case ld1 x0 => exact fop_eq h H k (.ld1 x0)
  case ldn x0 x1 => exact fop_eq h H k (.ldn x0 x1)
  case st x0 x1 x2 => exact fop_eq h H k (.st x0 x1 x2)
  case nck x0 => exact fop_eq h H k (.nck x0)
  case fla x0 x1 => exact fop_eq h H k (.fla x0 x1)
  case ixa x0 x1 x2 x3 => exact fop_eq h H k (.ixa x0 x1 x2 x3)
  case ixs x0 x1 x2 => exact fop_eq h H k (.ixs x0 x1 x2)
  case iag x0 x1 x2 x3 x4 => exact fop_eq h H k (.iag x0 x1 x2 x3 x4)
  case ist x0 x1 => exact fop_eq h H k (.ist x0 x1)
  case fld x0 x1 x2 x3 => exact fop_eq h H k (.fld x0 x1 x2 x3)
  case bin x0 x1 x2 x3 => exact fop_eq h H k (.bin x0 x1 x2 x3)
  case eqa x0 x1 x2 x3 => exact fop_eq h H k (.eqa x0 x1 x2 x3)
  case not x0 => exact fop_eq h H k (.not x0)
  case neg x0 => exact fop_eq h H k (.neg x0)
  case xorn x0 => exact fop_eq h H k (.xorn x0)
  case cvi x0 x1 => exact fop_eq h H k (.cvi x0 x1)
  case cvs x0 => exact fop_eq h H k (.cvs x0)
  case s2b x0 => exact fop_eq h H k (.s2b x0)
  case b2s x0 => exact fop_eq h H k (.b2s x0)
  case s2a x0 x1 => exact fop_eq h H k (.s2a x0 x1)
  case mki x0 x1 => exact fop_eq h H k (.mki x0 x1)
  case tas x0 x1 => exact fop_eq h H k (.tas x0 x1)
  case mkf x0 x1 x2 => exact fop_eq h H k (.mkf x0 x1 x2)
  case mkm => exact fop_eq h H k (.mkm)
  case mks x0 x1 x2 x3 x4 => exact fop_eq h H k (.mks x0 x1 x2 x3 x4)
  case sls x0 x1 x2 => exact fop_eq h H k (.sls x0 x1 x2)
  case sll x0 x1 x2 x3 x4 => exact fop_eq h H k (.sll x0 x1 x2 x3 x4)
  case sla x0 x1 x2 x3 x4 x5 => exact fop_eq h H k (.sla x0 x1 x2 x3 x4 x5)
  case lkp x0 x1 x2 x3 x4 => exact fop_eq h H k (.lkp x0 x1 x2 x3 x4)
  case mup x0 x1 x2 x3 => exact fop_eq h H k (.mup x0 x1 x2 x3)
  case ext x0 x1 => exact fop_eq h H k (.ext x0 x1)
  case len x0 x1 => exact fop_eq h H k (.len x0 x1)
  case capo x0 => exact fop_eq h H k (.capo x0)
  case app x0 x1 x2 x3 x4 x5 => exact fop_eq h H k (.app x0 x1 x2 x3 x4 x5)
  case copy x0 x1 x2 => exact fop_eq h H k (.copy x0 x1 x2)
  case del x0 x1 x2 => exact fop_eq h H k (.del x0 x1 x2)
  case clrm x0 => exact fop_eq h H k (.clrm x0)
  case clrs x0 x1 x2 => exact fop_eq h H k (.clrs x0 x1 x2)
  case mx x0 x1 => exact fop_eq h H k (.mx x0 x1)
  case mn x0 x1 => exact fop_eq h H k (.mn x0 x1)
  case rng x0 => exact fop_eq h H k (.rng x0)
  case nxt x0 => exact fop_eq h H k (.nxt x0)
def stepF (cl : Cl) (n : Nat) (o : XOper) (e : FE) (H : AH) (k : Kf) : Bool :=
  XOper.rec (fun d op g => @Option.rec _ (fun _ => Bool) (actF cl op n e H fun v H => k (setF n d v e) H) (fun _ => wantsF g e (fun _ => actF cl op n e H fun v H => k (setF n d v e) H) (fun _ => k (setF n d (.tup []) e) H)) g) o
/-- two continuations alike -/
def KR (n : Nat) (k : Kf) (k' : Env → AH → Bool) : Prop := ∀ e env H, RT n e env → k e H = k' env H
theorem stepF_eq {n : Nat} {e : FE} {env : Env} (h : RT n e env) (cl : Cl) (o : XOper) (H : AH) {k : Kf} {k' : Env → AH → Bool} (hk : KR n k k') : stepF cl n o e H k = stepOp cl o env H k' := by
  obtain ⟨d, op, g⟩ := o
  have h1 : (actF cl op n e H fun v H => k (setF n d v e) H) = act cl op env H fun v H => k' (setd d v env) H := by
    rw [actF_eq h]
    congr 1
    funext v H
    exact hk _ _ _ (setF_eq h d v)
  have h2 : (fun _ : Unit => k (setF n d (.tup []) e) H) = fun _ => k' (setd d (.tup []) env) H := by
    funext _
    exact hk _ _ _ (setF_eq h d _)
  cases g with
  | none => exact h1
  | some p =>
    show wantsF (some p) e (fun _ => actF cl op n e H fun v H => k (setF n d v e) H) (fun _ => k (setF n d (.tup []) e) H) = wants (some p) env (fun _ => act cl op env H fun v H => k' (setd d v env) H) (fun _ => k' (setd d (.tup []) env) H)
    rw [wantsF_eq h, h2]
    congr 1
    funext _
    exact h1
def runF (cl : Cl) (n : Nat) (l : List XOper) : FE → AH → Kf → Bool := List.rec (fun e H k => k e H) (fun o _ ih e H k => stepF cl n o e H fun e H => ih e H k) l
theorem runF_eq {n : Nat} (cl : Cl) : ∀ (l : List XOper) {e : FE} {env : Env} (h : RT n e env) (H : AH) {k : Kf} {k' : Env → AH → Bool} (hk : KR n k k'), runF cl n l e H k = runOps cl l env H k'
  | [], e, env, h, H, k, k', hk => hk _ _ _ h
  | o :: l, e, env, h, H, k, k', hk => stepF_eq h cl o H (fun e env H h => runF_eq cl l h H hk)
def stepDF (cl : Cl) (n : Nat) (s : DStep) (e : FE) (H : AH) (k : Kf) : Bool :=
  DStep.rec (fun o => stepF cl n o e H k) (fun o => XOper.rec (fun d op g => wantsF g e (fun _ => @Option.rec _ (fun _ => Bool) false (fun d => fop op n e H fun v _ => @Bool.rec (fun _ => Bool) false (k e H) (same v (getT e d))) d) (fun _ => k e H)) o) s
theorem stepDF_eq {n : Nat} {e : FE} {env : Env} (h : RT n e env) (cl : Cl) (s : DStep) (H : AH) {k : Kf} {k' : Env → AH → Bool} (hk : KR n k k') : stepDF cl n s e H k = stepD cl s env H k' := by
  cases s with
  | run o => exact stepF_eq h cl o H hk
  | again o =>
    obtain ⟨d, op, g⟩ := o
    show wantsF g e (fun _ => @Option.rec _ (fun _ => Bool) false (fun d => fop op n e H fun v _ => @Bool.rec (fun _ => Bool) false (k e H) (same v (getT e d))) d) (fun _ => k e H) = wants g env (fun _ => match d with
      | some d => xop op env H fun v _ => cond (same v (lget env d)) (k' env H) false
      | none => false) (fun _ => k' env H)
    rw [wantsF_eq h, hk _ _ H h]
    congr 1
    funext _
    cases d with
    | none => rfl
    | some d =>
      show fop op n e H _ = _
      rw [fop_eq h]
      congr 1
      funext v _
      rw [getT_eq h, bool_rec]
def runDF (cl : Cl) (n : Nat) (l : List DStep) : FE → AH → Kf → Bool := List.rec (fun e H k => k e H) (fun o _ ih e H k => stepDF cl n o e H fun e H => ih e H k) l
theorem runDF_eq {n : Nat} (cl : Cl) : ∀ (l : List DStep) {e : FE} {env : Env} (h : RT n e env) (H : AH) {k : Kf} {k' : Env → AH → Bool} (hk : KR n k k'), runDF cl n l e H k = runD cl l env H k'
  | [], e, env, h, H, k, k', hk => hk _ _ _ h
  | o :: l, e, env, h, H, k, k', hk => stepDF_eq h cl o H (fun e env H h => runDF_eq cl l h H hk)
def runSF (cl : Cl) (n : Nat) (l : List (XOper × List DStep)) : FE → AH → Kf → Bool :=
  List.rec (fun e H k => k e H) (fun p _ ih e H k => Prod.rec (fun o s => stepF cl n o e H fun e H => runDF cl n s e H fun e H => ih e H k) p) l
theorem runSF_eq {n : Nat} (cl : Cl) : ∀ (l : List (XOper × List DStep)) {e : FE} {env : Env} (h : RT n e env) (H : AH) {k : Kf} {k' : Env → AH → Bool} (hk : KR n k k'), runSF cl n l e H k = runS cl l env H k'
  | [], e, env, h, H, k, k', hk => hk _ _ _ h
  | (o, s) :: l, e, env, h, H, k, k', hk => stepF_eq h cl o H (fun e env H h => runDF_eq cl s h H (fun e env H h => runSF_eq cl l h H hk))

abbrev Kcf := Ex → FE → List Nat → AH → Bool
abbrev DF := FE → List Nat → AH → Kcf → Bool
def KcR (n : Nat) (k : Kcf) (k' : Kc) : Prop := ∀ x e env ds H, RT n e env → k x e ds H = k' x env ds H
def DR (n : Nat) (d : DF) (d' : Env → List Nat → AH → Kc → Bool) : Prop := ∀ e env ds H k k', RT n e env → KcR n k k' → d e ds H k = d' env ds H k'
def seqK (db : DF) (k : Kcf) (x : Ex) (e : FE) (ds : List Nat) (H : AH) : Bool := Ex.rec (db e ds H k) (fun i => k (.exit i) e ds H) (k .ret e ds H) x
def blkK (id : Nat) (k : Kcf) (x : Ex) (e : FE) (ds : List Nat) (H : AH) : Bool := Ex.rec (k .normal e ds H) (fun j => @Bool.rec (fun _ => Bool) (k (.exit j) e ds H) (k .normal e ds H) (Nat.beq j id)) (k .ret e ds H) x
def iterF (body : DF) (f : Nat) : DF := Nat.rec (fun _ _ _ _ => false) (fun _ ih e ds H k => body e ds H (seqK ih k)) f
theorem iterF_eq {n : Nat} {d : DF} {d' : Env → List Nat → AH → Kc → Bool} (hd : DR n d d') : ∀ f, DR n (iterF d f) (iter d' f)
  | 0, _, _, _, _, _, _, _, _ => rfl
  | f + 1, e, env, ds, H, k, k', h, hk => hd e env ds H _ _ h (fun x e env ds H h => by
    cases x with
    | normal => exact iterF_eq hd f e env ds H k k' h hk
    | exit i => exact hk _ _ _ _ _ h
    | ret => exact hk _ _ _ _ _ h)
def condV (v : AV) (a b : Unit → Bool) : Bool := asBool v fun t => @Bool.rec (fun _ => Bool) (b ()) (a ()) t
def dSkip : DF := fun e ds H k => k .normal e ds H
def dBad : DF := fun _ _ _ _ => false
def dReg (cl : Cl) (n : Nat) (ops : List XOper) : DF := fun e ds H k => runF cl n ops e H fun e H => k .normal e ds H
def dDreg (cl : Cl) (n : Nat) (first : List DStep) (rest : List (XOper × List DStep)) : DF := fun e ds H k => runDF cl n first e H fun e H => runSF cl n rest e H fun e H => k .normal e ds H
def dSeq (da db : DF) : DF := fun e ds H k => da e ds H (seqK db k)
def dCond (c : Od) (da db : DF) : DF := fun e ds H k => condV (gv e c) (fun _ => da e ds H k) (fun _ => db e ds H k)
def dBlock (id : Nat) (dc : DF) : DF := fun e ds H k => dc e ds H (blkK id k)
def dExit (id : Nat) : DF := fun e ds H k => k (.exit id) e ds H
def dRet : DF := fun e ds H k => k .ret e ds H
def endR (l : Nat) (H : AH) (k : Ex → AH → Bool) : Bool := match H.get l with
  | some (.lp r) => match r.state with
    | .busy => false
    | _ => (match r.pending with
      | none => k .normal (H.set l (.lp { r with state := .exhausted }))
      | some x => k x (H.set l (.lp { r with state := .exhausted })))
  | _ => false
def dRfn (cl : Cl) (n : Nat) (rd : Option Nat) (f : Od) (ps : List Nat) (asg body : IR) : DF := fun e ds H k => match rd with
  | none => anew H (.dfd true) fun d H => anew H (.lp ⟨.ready, none, toLs n e, ps, asg, body, d⟩) fun l H =>
      cond (isFn (gv e f)) (cl (gv e f) [.fn (.yld l) [] []] H fun _ H => endR l H fun x H => k x e (d :: ds) H) false
  | some l0 => match H.get l0 with
    | some (.lp r0) => anew H (.lp ⟨.ready, none, toLs n e, ps, asg, body, r0.defers⟩) fun l H =>
      cond (isFn (gv e f)) (cl (gv e f) [.fn (.yld l) [] []] H fun _ H => endR l H fun x H => k x e ds H) false
    | _ => false
def denF (cl : Cl) (N n : Nat) (rd : Option Nat) (c : IR) : DF :=
  IR.rec dSkip dBad (dReg cl n) (dDreg cl n) (fun _ _ => dSeq) (fun c _ _ => dCond c) (fun id _ => dBlock id) (fun _ dc => iterF dc N) dExit dRet (fun f ps asg body _ _ => dRfn cl n rd f ps asg body) c
theorem denF_eq (cl : Cl) (N n : Nat) (rd : Option Nat) : ∀ (c : IR), DR n (denF cl N n rd c) (den cl N rd c)
  | .skip => fun e env ds H k k' h hk => hk _ _ _ _ _ h
  | .bad => fun e env ds H k k' h hk => rfl
  | .reg ops => fun e env ds H k k' h hk => runF_eq cl ops h H (fun e env H h => hk _ _ _ _ _ h)
  | .dreg first rest => fun e env ds H k k' h hk => runDF_eq cl first h H (fun e env H h => runSF_eq cl rest h H (fun e env H h => hk _ _ _ _ _ h))
  | .seq a b => fun e env ds H k k' h hk => denF_eq cl N n rd a e env ds H _ _ h (fun x e env ds H h => by
    cases x with
    | normal => exact denF_eq cl N n rd b e env ds H k k' h hk
    | exit i => exact hk _ _ _ _ _ h
    | ret => exact hk _ _ _ _ _ h)
  | .cond c a b => fun e env ds H k k' h hk => by
    have ha := denF_eq cl N n rd a e env ds H k k' h hk
    have hb := denF_eq cl N n rd b e env ds H k k' h hk
    show condV (gv e c) (fun _ => denF cl N n rd a e ds H k) (fun _ => denF cl N n rd b e ds H k) = (match ev env c with
      | .bool t => cond t (den cl N rd a env ds H k') (den cl N rd b env ds H k')
      | _ => false)
    rw [gv_eq h, ha, hb]
    cases ev env c with
    | bool t => cases t <;> rfl
    | _ => rfl
  | .block id c => fun e env ds H k k' h hk => denF_eq cl N n rd c e env ds H _ _ h (fun x e env ds H h => by
    cases x with
    | normal => exact hk _ _ _ _ _ h
    | exit i =>
      show @Bool.rec (fun _ => Bool) (k (.exit i) e ds H) (k .normal e ds H) (Nat.beq i id) = cond (Nat.beq i id) (k' .normal env ds H) (k' (.exit i) env ds H)
      rw [bool_rec, hk _ _ _ _ _ h, hk _ _ _ _ _ h]
    | ret => exact hk _ _ _ _ _ h)
  | .loop c => iterF_eq (denF_eq cl N n rd c) N
  | .exit id => fun e env ds H k k' h hk => hk _ _ _ _ _ h
  | .ret => fun e env ds H k k' h hk => hk _ _ _ _ _ h
  | .rfn f ps asg body => fun e env ds H k k' h hk => by
    have hend : ∀ (l : Nat) (H : AH) (ds : List Nat), endR l H (fun x H => k x e ds H) = (match H.get l with
      | some (.lp r) => match r.state with
        | .busy => false
        | _ => (match r.pending with
          | none => k' .normal env ds (H.set l (.lp { r with state := .exhausted }))
          | some x => k' x env ds (H.set l (.lp { r with state := .exhausted })))
      | _ => false) := fun l H ds => by
      unfold endR
      simp only [fun x ds H => hk x e env ds H h]
    show dRfn cl n rd f ps asg body e ds H k = _
    unfold dRfn
    simp only [toLs_eq h, gv_eq h, hend]
    rfl

/-! ### calls -/
def rvsF (rs : List RV) (e : FE) (H : AH) : (List AV → Bool) → Bool :=
  List.rec (fun k => k []) (fun r _ ih k => RV.rec (fun t => ih fun l => k (getT e t :: l)) (fun t m g => asPtr (getT e t) fun b off => gcellF H b fun c _ _ => @Bool.rec (fun _ => Bool) (@Option.rec _ (fun _ => Bool) false (fun v => ih fun l => k (v :: l)) (c.get off)) (@Bool.rec (fun _ => Bool) false (ih fun l => k (.agg (c.sub off m) :: l)) (Nat.ble (Nat.add off m) c.len)) g) r) rs
theorem rvsF_eq {n : Nat} {e : FE} {env : Env} (h : RT n e env) (H : AH) : ∀ (rs : List RV) (k : List AV → Bool), rvsF rs e H k = rvs rs env H k
  | [], k => rfl
  | r :: rs, k => by
    have ih := rvsF_eq h H rs
    cases r with
    | tmp t => show rvsF rs e H (fun l => k (getT e t :: l)) = rvs rs env H (fun l => k (lget env t :: l)); rw [ih, getT_eq h]
    | cell t m g =>
      show asPtr (getT e t) (fun b off => gcellF H b fun c _ _ => @Bool.rec (fun _ => Bool) (@Option.rec _ (fun _ => Bool) false (fun v => rvsF rs e H fun l => k (v :: l)) (c.get off)) (@Bool.rec (fun _ => Bool) false (rvsF rs e H fun l => k (.agg (c.sub off m) :: l)) (Nat.ble (Nat.add off m) c.len)) g) = (match lget env t with
      | .ptr b off => gcell H b fun c _ _ => cond g (cond (Nat.ble (off + m) c.len) (rvs rs env H fun l => k (.agg (c.sub off m) :: l)) false) (match c.get off with
        | some v => rvs rs env H fun l => k (v :: l)
        | none => false)
      | _ => false)
      rw [getT_eq h]
      cases lget env t with
      | ptr b off =>
        show gcellF H b _ = _
        rw [gcellF_eq]
        simp only [bool_rec, ih]
        congr 1
        funext c _ _
        cases c.get off <;> rfl
      | _ => rfl
def oneOfF (l : List AV) : AV := List.rec (.tup []) (fun v t _ => List.rec v (fun _ _ _ => .tup l) t) l
theorem oneOfF_eq (l : List AV) : oneOfF l = oneOf l := by
  cases l with
  | nil => rfl
  | cons a l => cases l <;> rfl
/-- 'n' temporaries that hold nothing -/
def blankT (n : Nat) : FE := Nat.rec .lf (fun m ih => T.upd ih m (some (.tup []))) n
theorem blankT_eq (n : Nat) : ∀ t, T.get (blankT n) t = if t < n then some (.tup []) else none := by
  induction n with
  | zero => intro t; exact T.get_lf t
  | succ m ih =>
    intro t
    show T.get (T.upd (blankT m) m (some (.tup []))) t = _
    rw [T.get_upd, ih]
    by_cases h : t = m
    · rw [if_pos h, if_pos (by omega)]
    · rw [if_neg h]
      by_cases h2 : t < m
      · rw [if_pos h2, if_pos (by omega)]
      · rw [if_neg h2, if_neg (by omega)]
def putL (l : List AV) : Nat → FE → FE := List.rec (fun _ e => e) (fun v _ ih i e => ih (Nat.succ i) (T.upd e i (some v))) l
theorem putL_eq : ∀ (l : List AV) (i : Nat) (e : FE) (t : Nat), T.get (putL l i e) t = if i ≤ t ∧ t < i + l.length then l[t - i]? else T.get e t
  | [], i, e, t => by
    have : ¬ (i ≤ t ∧ t < i + ([] : List AV).length) := by simp
    rw [if_neg this]; rfl
  | v :: l, i, e, t => by
    show T.get (putL l (Nat.succ i) (T.upd e i (some v))) t = _
    rw [putL_eq l]
    simp only [List.length_cons]
    by_cases h1 : t = i
    · subst h1
      rw [if_neg (by omega), if_pos (by omega), T.get_upd, if_pos rfl]
      simp
    · by_cases h2 : i ≤ t ∧ t < i + (l.length + 1)
      · rw [if_pos (by omega), if_pos h2]
        obtain ⟨j, hj⟩ : ∃ j, t - i = j + 1 := ⟨t - i - 1, by omega⟩
        rw [hj, List.getElem?_cons_succ]
        congr 1; omega
      · rw [if_neg (by omega), if_neg h2, T.get_upd, if_neg h1]
def enterT (n : Nat) (args : List AV) : FE := putL args 0 (blankT n)
theorem enterT_eq (n : Nat) (args : List AV) (h : args.length ≤ n) : RT n (enterT n args) (args ++ List.replicate (n - args.length) (.tup [])) := by
  refine ⟨by simp; omega, fun t => ?_⟩
  unfold enterT
  rw [putL_eq, blankT_eq, List.getElem?_append, List.getElem?_replicate]
  by_cases h1 : t < args.length
  · rw [if_pos (by omega), if_pos h1]; rfl
  · rw [if_neg (by omega), if_neg h1]
    by_cases h2 : t < n
    · rw [if_pos h2, if_pos (by omega)]
    · rw [if_neg h2, if_neg (by omega)]
def rowT (l : List AV) : FE := putL l 0 .lf
theorem rowT_eq (l : List AV) : RT l.length (rowT l) l := by
  refine ⟨rfl, fun t => ?_⟩
  unfold rowT
  rw [putL_eq, T.get_lf]
  by_cases h : t < l.length
  · rw [if_pos (by omega)]; rfl
  · rw [if_neg (by omega), List.getElem?_eq_none (by omega)]
def retK (rs : List RV) (k : AV → AH → Bool) (x : Ex) (e : FE) (ds : List Nat) (H : AH) : Bool :=
  Ex.rec (closeAll ds H fun H => rvsF rs e H fun l => k (oneOfF l) H) (fun _ => false) (closeAll ds H fun H => rvsF rs e H fun l => k (oneOfF l) H) x
def codeF (slow : Bool) (cl : Cl) (N : Nat) (fi : FnIR) (args : List AV) (H : AH) (k : AV → AH → Bool) : Bool :=
  FnIR.rec (fun n rs body => @Bool.rec (fun _ => Bool) slow (denF cl N n none body (enterT n args) [] H (retK rs k)) (Nat.ble (llen args 0) n)) fi
def cloneF (args : List AV) (H : AH) (k : AV → AH → Bool) : Bool := match args with
    | [.ifc t (.map r)] => gmap H r fun es c => anew H (.mp es c) fun b H => k (.ifc t (.map b)) H
    | _ => false
def callFF (tbl : Nat → Option FT) (cl : Cl) (N : Nat) (f : Nat) (args : List AV) (H : AH) (k : AV → AH → Bool) : Bool :=
  @Option.rec _ (fun _ => Bool) false (fun t => FT.rec (fun fi => codeF (callF tbl cl N f args H k) cl N fi args H k) (cloneF args H k) (fun g => g args H k) (fun g => g args H k) t) (tbl f)
theorem callFF_eq (tbl : Nat → Option FT) (cl : Cl) (N : Nat) (f : Nat) (args : List AV) (H : AH) (k : AV → AH → Bool) : callFF tbl cl N f args H k = callF tbl cl N f args H k := by
  unfold callFF
  cases ht : tbl f with
  | none => unfold callF; rw [ht]
  | some t =>
    cases t with
    | code fi =>
      obtain ⟨n, rs, body⟩ := fi
      show (@Bool.rec (fun _ => Bool) (callF tbl cl N f args H k) (denF cl N n none body (enterT n args) [] H (retK rs k)) (Nat.ble (llen args 0) n) : Bool) = _
      cases hb : Nat.ble (llen args 0) n with
      | false => rfl
      | true =>
        have hle := Nat.le_of_ble_eq_true hb
        rw [llen_eq, Nat.add_zero] at hle
        show denF cl N n none body (enterT n args) [] H (retK rs k) = _
        have hk : KcR n (retK rs k) (fun e env ds H => match e with
          | .exit _ => false
          | _ => closeAll ds H fun H => rvs rs env H fun l => k (oneOf l) H) := fun x e env ds H h => by
            have hr : (fun H => rvsF rs e H fun l => k (oneOfF l) H) = fun H => rvs rs env H fun l => k (oneOf l) H := by
              funext H
              rw [rvsF_eq h]
              simp only [oneOfF_eq]
            cases x with
            | normal => show closeAll ds H _ = closeAll ds H _; rw [hr]
            | exit i => rfl
            | ret => show closeAll ds H _ = closeAll ds H _; rw [hr]
        rw [denF_eq cl N n none body _ _ _ _ _ _ (enterT_eq n args hle) hk]
        unfold callF
        rw [ht]
        rfl
    | clone => unfold callF; rw [ht]; rfl
    | sum g => unfold callF; rw [ht]
    | ext g => unfold callF; rw [ht]
def roundK (l : Nat) (k : AV → AH → Bool) (x : Ex) (H : AH) : Bool := match H.get l with
  | some (.lp r) => match x with
    | .normal => k (.bool true) (H.set l (.lp { r with state := .ready, pending := none }))
    | e => k (.bool false) (H.set l (.lp { r with state := .done, pending := some e }))
  | _ => false
def roundB (cl : Cl) (N n : Nat) (l : Nat) (body : IR) (k : AV → AH → Bool) (x : Ex) (e : FE) (ds : List Nat) (H : AH) : Bool := match x with
  | .normal => (match H.get l with
    | some (.lp r) => match r.state with
      | .ready => denF cl N n (some l) body e ds (H.set l (.lp { r with state := .busy })) fun x _ _ H => roundK l k x H
      | _ => false
    | _ => false)
  | _ => false
def roundF (cl : Cl) (N : Nat) (l : Nat) (args : List AV) (H : AH) (k : AV → AH → Bool) : Bool :=
  match H.get l with
  | some (.lp r0) => cond (Nat.beq args.length r0.params.length)
    (fN (llen (setAll r0.params args r0.tmps) 0) fun n => denF cl N n (some l) r0.asg (rowT (setAll r0.params args r0.tmps)) [] H (roundB cl N n l r0.body k)) false
  | _ => false
theorem roundL_eq (cl : Cl) (N : Nat) (l : Nat) (args : List AV) (H : AH) (k : AV → AH → Bool) (r0 : ALoop) : (cond (Nat.beq args.length r0.params.length)
    (fN (llen (setAll r0.params args r0.tmps) 0) fun n => denF cl N n (some l) r0.asg (rowT (setAll r0.params args r0.tmps)) [] H (roundB cl N n l r0.body k)) false) = cond (Nat.beq args.length r0.params.length)
    (den cl N (some l) r0.asg (setAll r0.params args r0.tmps) [] H fun e env ds H => match e with
      | .normal => (match H.get l with
        | some (.lp r) => match r.state with
          | .ready => den cl N (some l) r0.body env ds (H.set l (.lp { r with state := .busy })) fun e env ds H => (match H.get l with
            | some (.lp r) => match e with
              | .normal => k (.bool true) (H.set l (.lp { r with state := .ready, pending := none }))
              | e => k (.bool false) (H.set l (.lp { r with state := .done, pending := some e }))
            | _ => false)
          | _ => false
        | _ => false)
      | _ => false) false := by
  rw [fN_eq, llen_eq, Nat.add_zero]
  congr 1
  refine denF_eq cl N _ (some l) r0.asg _ _ _ _ _ _ (rowT_eq _) (fun x e env ds H h => ?_)
  unfold roundB
  cases x with
  | exit i => rfl
  | ret => rfl
  | normal =>
    simp only
    cases hg : H.get l with
    | none => rfl
    | some o => cases o with
      | lp r =>
        simp only
        cases hs : r.state with
        | ready =>
          simp only
          refine denF_eq cl N _ (some l) r0.body _ _ _ _ _ _ h (fun x e env ds H h => ?_)
          unfold roundK
          cases hg : H.get l with
          | none => rfl
          | some o => cases o with
            | lp r => cases x <;> rfl
            | _ => rfl
        | _ => rfl
      | _ => rfl
theorem roundF_eq (cl : Cl) (N : Nat) (l : Nat) (args : List AV) (H : AH) (k : AV → AH → Bool) : roundF cl N l args H k = roundV cl N l args H k := by
  unfold roundF roundV
  cases hg : H.get l with
  | none => rfl
  | some o => cases o with
    | lp r0 => exact roundL_eq cl N l args H k r0
    | _ => rfl
def runV (tbl : Nat → Option FT) (N : Nat) (ih : Cl) (v : AV) (args : List AV) (H : AH) (k : AV → AH → Bool) : Bool := match v with
    | .fn (.fn (.func g)) first cap => callFF tbl ih N g (first ++ args ++ cap) H k
    | .fn (.yld l) [] _ => roundF ih N l args H k
    | _ => false
/-- a call of a function value -/
def RUNF (tbl : Nat → Option FT) (N : Nat) (f : Nat) : Cl := Nat.rec (fun _ _ _ _ => false) (fun _ ih => runV tbl N ih) f
theorem RUNF_eq (tbl : Nat → Option FT) (N : Nat) : ∀ f, RUNF tbl N f = RUN tbl N f
  | 0 => rfl
  | f + 1 => by
    funext v args H k
    show runV tbl N (RUNF tbl N f) v args H k = (match v with
    | .fn (.fn (.func g)) first cap => callF tbl (RUN tbl N f) N g (first ++ args ++ cap) H k
    | .fn (.yld l) [] _ => roundV (RUN tbl N f) N l args H k
    | _ => false)
    rw [RUNF_eq tbl N f]
    unfold runV
    split
    · exact callFF_eq ..
    · exact roundF_eq ..
    · rfl

theorem GlOK_none (base : Nat) (w : World) : @GlOK ⟨fun _ => none⟩ base w := fun g r h => by cases h
/-- a call without arguments whose abstract run ends in true -/
theorem same_true (v : AV) : same v (.bool true) = same1 v (.bool true) := by cases v <;> rfl
theorem closed_lawF [Gl] {P : Program} (hm : P.follows .mixedOrders = true) {N f F : Nat} (hF : isCode P F = true)
    (h : RUNF (tblC P) N (f + 1) (.fn (.fn (.func F)) [] []) [] ⟨.lf, 0⟩ (fun v _ => same1 v (.bool true)) = true) (w : World) (hg : GlOK w.heap.size w) :
    Calls P F #[] w fun e w' => e = .returned (.bool true) ∧ Go.RowKit.Below w.heap.size w w' :=
  closed_lawC (N := N) (f := f) hm hF (by rw [← RUNF_eq]; simp only [same_true]; exact h) w hg
theorem closed_lawFM [Gl] {P : Program} (hm : P.follows .mixedOrders = true) {N f F cid : Nat} (hcl : CloneOK P cid) (hF : isCode P F = true) (hne : Nat.beq F cid = false)
    (h : RUNF (tblM P cid) N (f + 1) (.fn (.fn (.func F)) [] []) [] ⟨.lf, 0⟩ (fun v _ => same1 v (.bool true)) = true) (w : World) (hg : GlOK w.heap.size w) :
    Calls P F #[] w fun e w' => e = .returned (.bool true) ∧ Go.RowKit.Below w.heap.size w w' :=
  closed_lawM (N := N) (f := f) hm hcl hF hne (by rw [← RUNF_eq]; simp only [same_true]; exact h) w hg
end
end Go.Jt
