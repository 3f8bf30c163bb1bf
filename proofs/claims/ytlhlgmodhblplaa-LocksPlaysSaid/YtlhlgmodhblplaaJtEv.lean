/-
  The abstract run: what an operation, a piece of code, a call does to abstract values and an abstract heap. In continuation style, to Bool: 'false' stands for whatever the abstract run does not follow.
-/
import Derived.Test.YtlhlgmodhblplaaJtDom
import Derived.IntWalk
set_option autoImplicit false
set_option linter.all false
namespace Go.Jt
noncomputable section

/-! ### small words, made for the kernel -/
def fN {β : Type} (n : Nat) (k : Nat → β) : β := Nat.rec (k 0) (fun m _ => k (Nat.succ m)) n
theorem fN_eq {β : Type} (n : Nat) (k : Nat → β) : fN n k = k n := by cases n <;> rfl
def fI {β : Type} (n : Int) (k : Int → β) : β := Int.rec (fun n => fN n fun n => k (Int.ofNat n)) (fun n => fN n fun n => k (Int.negSucc n)) n
theorem fI_eq {β : Type} (n : Int) (k : Int → β) : fI n k = k n := by
  cases n with
  | ofNat n => show fN n (fun n => k (Int.ofNat n)) = _; rw [fN_eq]
  | negSucc n => show fN n (fun n => k (Int.negSucc n)) = _; rw [fN_eq]

def lget (l : List AV) : Nat → AV := List.rec (fun _ => .undef) (fun x _ ih i => Nat.rec x (fun k _ => ih k) i) l
theorem lget_eq (l : List AV) : ∀ i, lget l i = l.getD i .undef := by
  induction l with
  | nil => intro i; rfl
  | cons x l ih =>
    intro i
    cases i with
    | zero => rfl
    | succ k => show lget l k = _; rw [ih]; simp
def lset (l : List AV) : Nat → AV → List AV := List.rec (fun _ _ => []) (fun x l ih i v => Nat.rec (v :: l) (fun k _ => x :: ih k v) i) l
theorem lset_eq (l : List AV) : ∀ i v, lset l i v = l.set i v := by
  induction l with
  | nil => intro i v; rfl
  | cons x l ih =>
    intro i v
    cases i with
    | zero => rfl
    | succ k => show x :: lset l k v = _; rw [ih]; rfl
def llen {α : Type} (l : List α) : Nat → Nat := List.rec (fun a => a) (fun _ _ ih a => fN (Nat.succ a) ih) l
theorem llen_eq {α : Type} (l : List α) : ∀ a, llen l a = l.length + a := by
  induction l with
  | nil => intro a; show a = _; simp
  | cons x l ih => intro a; show fN (Nat.succ a) (llen l) = _; rw [fN_eq, ih]; simp; omega

/-- a number that a kind holds: most fit as they are -/
def wrapF (k : IntKind) (n : Int) : Int :=
  Int.rec
    (fun m => match k with
      | .i64 => cond (Nat.ble m 9223372036854775807) (Int.ofNat m) (k.wrap (Int.ofNat m))
      | .u64 => Int.ofNat (m % 18446744073709551616)
      | .u8 => Int.ofNat (m % 256)
      | .u32 => Int.ofNat (m % 4294967296)
      | .u16 => Int.ofNat (m % 65536)
      | _ => k.wrap (Int.ofNat m))
    (fun m => match k with
      | .i64 => cond (Nat.ble m 9223372036854775807) (Int.negSucc m) (k.wrap (Int.negSucc m))
      | _ => k.wrap (Int.negSucc m)) n
theorem wrap_u (m : Nat) (k : IntKind) (h : k.signed = false) : k.wrap (Int.ofNat m) = Int.ofNat (m % 2 ^ k.bits) := by
  unfold IntKind.wrap
  simp only [h, Bool.false_and, Bool.false_eq_true, if_false]
  show (m : Int) % 2 ^ k.bits = _
  norm_cast
theorem wrapF_eq (k : IntKind) (n : Int) : wrapF k n = k.wrap n := by
  cases n with
  | ofNat m =>
    cases k with
    | i64 =>
      show cond (Nat.ble m 9223372036854775807) (Int.ofNat m) (IntKind.i64.wrap (Int.ofNat m)) = _
      simp only [Bool.cond_eq_ite, Nat.ble_eq]
      split
      · rw [IntWalk.i64_in]; simp; omega
      · rfl
    | u8 => rw [wrap_u _ _ rfl]; rfl
    | u16 => rw [wrap_u _ _ rfl]; rfl
    | u32 => rw [wrap_u _ _ rfl]; rfl
    | u64 => rw [wrap_u _ _ rfl]; rfl
    | i8 => rfl
    | i16 => rfl
    | i32 => rfl
  | negSucc m =>
    cases k with
    | i64 =>
      show cond (Nat.ble m 9223372036854775807) (Int.negSucc m) (IntKind.i64.wrap (Int.negSucc m)) = _
      simp only [Bool.cond_eq_ite, Nat.ble_eq]
      split
      · rw [IntWalk.i64_in]; omega
      · rfl
    | _ => rfl

def ieq (x y : Int) : Bool := Int.rec (fun a => Int.rec (fun b => Nat.beq a b) (fun _ => false) y) (fun a => Int.rec (fun _ => false) (fun b => Nat.beq a b) y) x
theorem ieq_eq (x y : Int) : ieq x y = (x == y) := by
  rw [Bool.eq_iff_iff, beq_iff_eq]
  cases x <;> cases y
  · rename_i a b
    show Nat.beq a b = true ↔ _
    rw [Nat.beq_eq]; simp; omega
  · exact ⟨fun h => (by cases h), fun h => (by cases h)⟩
  · exact ⟨fun h => (by cases h), fun h => (by cases h)⟩
  · rename_i a b
    show Nat.beq a b = true ↔ _
    rw [Nat.beq_eq]; simp
def ile (x y : Int) : Bool := Int.rec (fun a => Int.rec (fun b => Nat.ble a b) (fun _ => false) y) (fun a => Int.rec (fun _ => true) (fun b => Nat.ble b a) y) x
theorem ile_eq (x y : Int) : ile x y = decide (x ≤ y) := by
  rw [Bool.eq_iff_iff, decide_eq_true_iff]
  cases x <;> cases y
  · rename_i a b
    show Nat.ble a b = true ↔ _
    rw [Nat.ble_eq]; simp
  · rename_i a b
    exact ⟨fun h => (by cases h), fun h => (by simp at h; omega)⟩
  · rename_i a b
    exact ⟨fun _ => (by simp; omega), fun _ => rfl⟩
  · rename_i a b
    show Nat.ble b a = true ↔ _
    rw [Nat.ble_eq]; omega
def ikN : IntKind → Nat
  | .i8 => 0 | .i16 => 1 | .i32 => 2 | .i64 => 3 | .u8 => 4 | .u16 => 5 | .u32 => 6 | .u64 => 7
theorem ikN_inj {a b : IntKind} (h : Nat.beq (ikN a) (ikN b) = true) : a = b := by
  rw [Nat.beq_eq] at h
  cases a <;> cases b <;> first | rfl | (simp [ikN] at h)
def seq (a b : List Nat) : Bool := List.rec (fun b => List.rec true (fun _ _ _ => false) b) (fun x _ ih b => List.rec false (fun y l _ => cond (Nat.beq x y) (ih l) false) b) a b
theorem seq_eq (a : List Nat) : ∀ b, seq a b = (a == b) := by
  induction a with
  | nil => intro b; cases b <;> rfl
  | cons x a ih =>
    intro b
    cases b with
    | nil => rfl
    | cons y b =>
      show cond (Nat.beq x y) (seq a b) false = _
      rw [ih]
      cases h : Nat.beq x y with
      | true => rw [Nat.beq_eq] at h; subst h; simp
      | false =>
        have : x ≠ y := fun e => by subst e; simp at h
        simp [this]
def slt (a b : List Nat) : Bool :=
  List.rec (fun b => List.rec false (fun _ _ _ => true) b) (fun x _ ih b => List.rec false (fun y l _ => cond (Nat.ble (Nat.succ x) y) true (cond (Nat.beq x y) (ih l) false)) b) a b

/-- one value again: the same? ('false': not seen to be) -/
def same1 (a b : AV) : Bool := match a, b with
  | .int j x, .int k y => cond (Nat.beq (ikN j) (ikN k)) (ieq x y) false
  | .bool x, .bool y => cond x y (!y)
  | .str x, .str y => seq x y
  | .nilp, .nilp => true
  | .ptr x o, .ptr y p => cond (Nat.beq x y) (Nat.beq o p) false
  | .nils, .nils => true
  | .slc a b c d, .slc a' b' c' d' => cond (Nat.beq a a') (cond (Nat.beq b b') (cond (Nat.beq c c') (Nat.beq d d') false) false) false
  | .slu a b c d, .slu a' b' c' d' => cond (Nat.beq a a') (cond (Nat.beq b b') (cond (Nat.beq c c') (Nat.beq d d') false) false) false
  | .slz a b c, .slz a' b' c' => cond (Nat.beq a a') (cond (Nat.beq b b') (Nat.beq c c') false) false
  | .nilm, .nilm => true
  | .map x, .map y => Nat.beq x y
  | .nilf, .nilf => true
  | .nili, .nili => true
  | _, _ => false
theorem same1_eq {a b : AV} (h : same1 a b = true) : a = b := by
  unfold same1 at h
  split at h <;> (try simp only [Bool.cond_eq_ite, Bool.if_false_right, Bool.and_eq_true, Nat.beq_eq] at h) <;> try (cases h; done)
  · rename_i j x k y
    obtain ⟨h1, h2⟩ := h
    rw [ieq_eq, beq_iff_eq] at h2
    have h3 : j = k := ikN_inj (by simpa using h1)
    rw [h3, h2]
  · rename_i x y
    cases x <;> cases y <;> simp at h <;> rfl
  · rw [seq_eq, beq_iff_eq] at h; rw [h]
  · rfl
  · obtain ⟨h1, h2⟩ := h; simp at h1; rw [h1, h2]
  · rfl
  · simp at h; obtain ⟨h1, h2, h3, h4⟩ := h; rw [h1, h2, h3, h4]
  · simp at h; obtain ⟨h1, h2, h3, h4⟩ := h; rw [h1, h2, h3, h4]
  · simp at h; obtain ⟨h1, h2, h3⟩ := h; rw [h1, h2, h3]
  · rfl
  · rw [h]
  · rfl
  · rfl

section
variable (p : AV → AV → Bool)
def sameR (a : Rp AV) : Rp AV → Bool :=
  Rp.rec (fun b => match b with | .nil => true | _ => false) (fun x b => match b with | .one y => p x y | _ => false)
    (fun n x b => match b with | .rep m y => cond (Nat.beq n m) (p x y) false | _ => false)
    (fun n _ _ il ir b => match b with | .cat m l r => cond (Nat.beq n m) (cond (il l) (ir r) false) false | _ => false) a
def sameL (a : List AV) : List AV → Bool :=
  List.rec (fun b => match b with | [] => true | _ => false) (fun x _ ih b => match b with | y :: b => cond (p x y) (ih b) false | _ => false) a
variable {p} (hp : ∀ {a b}, p a b = true → a = b)
include hp
theorem sameR_eq (a : Rp AV) : ∀ b, sameR p a b = true → a = b := by
  induction a with
  | nil => intro b h; cases b <;> first | rfl | (cases h)
  | one x =>
    intro b h
    cases b with
    | one y => rw [hp (show p x y = true from h)]
    | _ => cases h
  | rep n x =>
    intro b h
    cases b with
    | rep m y =>
      have h' : cond (Nat.beq n m) (p x y) false = true := h
      cases hb : Nat.beq n m with
      | false => rw [hb] at h'; cases h'
      | true => rw [hb] at h'; rw [Nat.eq_of_beq_eq_true hb, hp h']
    | _ => cases h
  | cat n l r ihl ihr =>
    intro b h
    cases b with
    | cat m l' r' =>
      have h' : cond (Nat.beq n m) (cond (sameR p l l') (sameR p r r') false) false = true := h
      cases hb : Nat.beq n m with
      | false => rw [hb] at h'; cases h'
      | true =>
        rw [hb] at h'
        cases hl : sameR p l l' with
        | false => rw [hl] at h'; cases h'
        | true => rw [hl] at h'; rw [Nat.eq_of_beq_eq_true hb, ihl _ hl, ihr _ h']
    | _ => cases h
theorem sameL_eq (a : List AV) : ∀ b, sameL p a b = true → a = b := by
  induction a with
  | nil => intro b h; cases b <;> first | rfl | (cases h)
  | cons x a ih =>
    intro b h
    cases b with
    | cons y b =>
      have h' : cond (p x y) (sameL p a b) false = true := h
      cases hs : p x y with
      | false => rw [hs] at h'; cases h'
      | true => rw [hs] at h'; rw [hp hs, ih _ h']
    | nil => cases h
end
def sameA (a b : AFn) : Bool := match a, b with
  | .fn (.func f), .fn (.func g) => Nat.beq f g
  | .yld f, .yld g => Nat.beq f g
  | _, _ => false
theorem sameA_eq {a b : AFn} (h : sameA a b = true) : a = b := by
  unfold sameA at h
  split at h
  · rw [Nat.eq_of_beq_eq_true h]
  · rw [Nat.eq_of_beq_eq_true h]
  · cases h
def sameS (p : AV → AV → Bool) (a b : AV) : Bool := match a, b with
  | .agg x, .agg y => sameR p x y
  | .tup x, .tup y => sameL p x y
  | .fn f x y, .fn g x' y' => cond (sameA f g) (cond (sameL p x x') (sameL p y y') false) false
  | .ifc t x, .ifc u y => cond (Nat.beq t u) (p x y) false
  | a, b => same1 a b
theorem sameS_eq {p : AV → AV → Bool} (hp : ∀ {a b}, p a b = true → a = b) {a b : AV} (h : sameS p a b = true) : a = b := by
  unfold sameS at h
  split at h
  · rw [sameR_eq hp _ _ h]
  · rw [sameL_eq hp _ _ h]
  · rename_i f x y g x' y'
    cases h1 : sameA f g with
    | false => rw [h1] at h; cases h
    | true =>
      rw [h1] at h
      have h' : cond (sameL p x x') (sameL p y y') false = true := h
      cases h2 : sameL p x x' with
      | false => rw [h2] at h'; cases h'
      | true => rw [h2] at h'; rw [sameA_eq h1, sameL_eq hp _ _ h2, sameL_eq hp _ _ h']
  · rename_i t x u y
    cases h1 : Nat.beq t u with
    | false => rw [h1] at h; cases h
    | true => rw [h1] at h; rw [Nat.eq_of_beq_eq_true h1, hp h]
  · exact same1_eq h
/-- the same, rows and functions too -/
def same (a b : AV) : Bool := sameS (sameS same1) a b
theorem same_eq {a b : AV} (h : same a b = true) : a = b := sameS_eq (fun h => sameS_eq (fun h => same1_eq h) h) h

/-! ### values -/
abbrev Env := List AV
def ev (env : Env) (o : Od) : AV := Od.rec (fun t => lget env t) (fun v => v) .undef o

def anew (H : AH) (o : AObj) (k : Nat → AH → Bool) : Bool := fN H.n fun n => k n ⟨H.m.upd n (some o), Nat.succ n⟩
theorem anew_eq (H : AH) (o : AObj) (k : Nat → AH → Bool) : anew H o k = k H.n (H.new o) := fN_eq _ _
def gcell (H : AH) (b : Nat) (k : Rp AV → Bool → Bool → Bool) : Bool := match H.get b with | some (.cells a s r) => k a s r | _ => false
def gmap (H : AH) (b : Nat) (k : List (AV × AV × Nat) → Nat → Bool) : Bool := match H.get b with | some (.mp es c) => k es c | _ => false

def mask : IntKind → Nat
  | .i8 | .u8 => 256 | .i16 | .u16 => 65536 | .i32 | .u32 => 4294967296 | .i64 | .u64 => 18446744073709551616
def bits2 (f : Nat → Nat → Nat) (g : (q : IntKind) → BitVec q.bits → BitVec q.bits → BitVec q.bits) (q : IntKind) (x y : Int) : Int :=
  Int.rec (fun a => Int.rec (fun b => wrapF q (Int.ofNat (f (a % mask q) (b % mask q)))) (fun b => q.wrap (g q (BitVec.ofInt q.bits x) (BitVec.ofInt q.bits y)).toNat) y)
    (fun a => q.wrap (g q (BitVec.ofInt q.bits x) (BitVec.ofInt q.bits y)).toNat) x
def ibin (op : BinOp) (q : IntKind) (x y : Int) (k : AV → Bool) : Bool :=
  match op with
  | .add => fI (wrapF q (x + y)) fun z => k (.int q z)
  | .sub => fI (wrapF q (x - y)) fun z => k (.int q z)
  | .mul => fI (wrapF q (x * y)) fun z => k (.int q z)
  | .quo => cond (ieq y 0) false (fI (wrapF q (x.tdiv y)) fun z => k (.int q z))
  | .rem => cond (ieq y 0) false (fI (x.tmod y) fun z => k (.int q z))
  | .and => fI (bits2 Nat.land (fun _ a b => a &&& b) q x y) fun z => k (.int q z)
  | .or => fI (bits2 Nat.lor (fun _ a b => a ||| b) q x y) fun z => k (.int q z)
  | .xor => fI (bits2 Nat.xor (fun _ a b => a ^^^ b) q x y) fun z => k (.int q z)
  | .eql => k (.bool (ieq x y))
  | .neq => k (.bool (!(ieq x y)))
  | .lss => k (.bool (!(ile y x)))
  | .leq => k (.bool (ile x y))
  | .gtr => k (.bool (!(ile x y)))
  | .geq => k (.bool (ile y x))
  | _ => false
def ishift (left : Bool) (q : IntKind) (x y : Int) (k : AV → Bool) : Bool :=
  Int.rec (fun b => fN (Nat.min b q.bits) fun n => cond left (fI (wrapF q (x * Int.ofNat (Nat.pow 2 n))) fun z => k (.int q z))
    (Int.rec (fun a => fN (a / Nat.pow 2 n) fun m => k (.int q (Int.ofNat m))) (fun _ => fI (x.fdiv (2 ^ n)) fun z => k (.int q z)) x)) (fun _ => false) y
def sbin (op : BinOp) (x y : List Nat) (k : AV → Bool) : Bool :=
  match op with
  | .add => cond (Nat.ble (llen x 0 + llen y 0) 9223372036854775807) (k (.str (x ++ y))) false
  | .eql => k (.bool (seq x y))
  | .neq => k (.bool (!(seq x y)))
  | .lss => k (.bool (slt x y))
  | .leq => k (.bool (slt x y || seq x y))
  | .gtr => k (.bool (!(slt x y || seq x y)))
  | .geq => k (.bool (!(slt x y)))
  | _ => false
/-- '==' of what is no number and no string, by the type's kind (1 bool, 2 pointer, 3 slice, 4 map, 5 function, 6 interface) -/
def eqk (a b : AV) : Nat := match a, b with
  | .bool _, _ => 1
  | .nilp, _ | .ptr _ _, _ => 2
  | .nils, _ | .slc _ _ _ _, _ | .slu _ _ _ _, _ | .slz _ _ _, _ => 3
  | .nilm, _ | .map _, _ => 4
  | .nilf, _ | .fn _ _ _, _ => 5
  | .nili, _ | .ifc _ _, _ => 6
  | _, _ => 0
def eqv (H : AH) (a b : AV) (k : Bool → Bool) : Bool :=
  match a, b with
  | .bool x, .bool y => k (cond x y (!y))
  | .nilp, .nilp => k true
  | .nilp, .ptr _ _ => k false
  | .ptr _ _, .nilp => k false
  | .ptr x o, .ptr y p => cond (Nat.beq x y) (k (Nat.beq o p)) (gcell H x fun _ s _ => cond s false (gcell H y fun _ s _ => cond s false (k false)))
  | .nils, .nils => k true
  | .nils, .slc _ _ _ _ => k false
  | .nils, .slu _ _ _ _ => k false
  | .nils, .slz _ _ _ => k false
  | .slz _ _ _, .nils => k false
  | .slc _ _ _ _, .nils => k false
  | .slu _ _ _ _, .nils => k false
  | .nilm, .nilm => k true
  | .nilm, .map _ => k false
  | .map _, .nilm => k false
  | .nilf, .nilf => k true
  | .nilf, .fn _ _ _ => k false
  | .fn _ _ _, .nilf => k false
  | .nili, .ifc _ _ => k false
  | .ifc _ _, .nili => k false
  | _, _ => false
def bin (op : BinOp) (ek : Nat) (H : AH) (a b : AV) (k : AV → Bool) : Bool :=
  match a, b with
  | .int q x, .int r y => match op with
    | .shl => ishift true q x y k
    | .shr => ishift false q x y k
    | op => cond (Nat.beq (ikN q) (ikN r)) (ibin op q x y k) false
  | .str x, .str y => sbin op x y k
  | a, b => match op with
    | .eql => cond (Nat.beq (eqk a b) ek) (eqv H a b fun t => k (.bool t)) false
    | .neq => cond (Nat.beq (eqk a b) ek) (eqv H a b fun t => k (.bool (!t))) false
    | _ => false
/-- two rows of cells of these kinds (0 a number, 1 a string, 2 a bool): alike? -/
def eqS (sh : List Nat) : List AV → List AV → (Bool → Bool) → Bool :=
  List.rec (fun _ _ k => k true) (fun c _ ih a b k => match a, b with
    | x :: a, y :: b => (match x, y with
      | .int q m, .int r n => cond (Nat.beq c 0) (cond (Nat.beq (ikN q) (ikN r)) (cond (ieq m n) (ih a b k) (k false)) false) false
      | .str m, .str n => cond (Nat.beq c 1) (cond (seq m n) (ih a b k) (k false)) false
      | .bool m, .bool n => cond (Nat.beq c 2) (cond (cond m n (!n)) (ih a b k) (k false)) false
      | _, _ => false)
    | _, _ => false) sh

/-! ### operations -/
def isOd (o : Option Od) (env : Env) (dflt : Nat) (k : Nat → Bool) : Bool :=
  match o with
  | none => k dflt
  | some o => match ev env o with
    | .int _ (.ofNat n) => fN n k
    | _ => false
def cut3 (env : Env) (len cap : Nat) (lo hi mx : Option Od) (k : Nat → Nat → Nat → Bool) : Bool :=
  isOd mx env cap fun m => cond (Nat.ble m cap) (match hi, mx with
    | none, some _ => false
    | _, _ => isOd hi env len fun h => cond (Nat.ble h m) (isOd lo env 0 fun l => cond (Nat.ble l h) (k l h m) false) false) false
/-- the cells that an append or a copy takes: 'n' elements of 'es' cells each -/
def srcLen (x : AV) (k : Nat → Bool) : Bool := match x with
  | .nils => k 0
  | .slc _ _ n _ => k n
  | .slu _ _ n _ => k n
  | .slz _ _ _ => k 0
  | .str s => fN (llen s 0) k
  | _ => false
def srcCells (H : AH) (es n : Nat) (x : AV) (k : Rp AV → Bool) : Bool := match x with
  | .nils => cond (Nat.beq n 0) (k .nil) false
  | .slz _ _ _ => cond (Nat.beq n 0) (k .nil) false
  | .slc b off _ _ => gcell H b fun a _ _ => cond (Nat.ble (off + n * es) a.len) (k (a.sub off (n * es))) false
  | .slu b off _ _ => gcell H b fun a _ _ => cond (Nat.ble (off + n * es) a.len) (k (a.sub off (n * es))) false
  | .str s => cond (Nat.beq es 1) (cond (Nat.ble n (llen s 0)) (k (Rp.ofL ((s.take n).map fun c => .int .u8 (Int.ofNat c)))) false) false
  | _ => false
def rpt (n : Nat) (z : Rp AV) : Rp AV := Nat.rec .nil (fun _ ih => z.app ih) n
/-- 'n' zero elements -/
def zeros (n : Nat) (z : Rp AV) : Rp AV := match z with
  | .one v => .rep n v
  | z => rpt n z
/-- the bytes that a growing slice may ask for stay within bounds -/
def roomy (need bytes : Nat) : Bool := Nat.ble ((2 * need + 200) * bytes) 140737488355328
/-- how many elements of which cells are appended; 'none' cells: from the heap -/
def appSrc (H : AH) (es bytes : Nat) (z : Rp AV) (zm : Bool) (x : AV) (k : Nat → Rp AV → Bool) : Bool := match zm with
  | true => (match x with
    | .int _ (.ofNat n) => cond (Nat.ble n 140737488355328) (cond (Nat.ble (n * bytes) 281474976710656) (fN n fun n => k n (zeros n z)) false) false
    | _ => false)
  | false => srcLen x fun n => srcCells H es n x fun r => k n r
def xapp (es bytes : Nat) (z : Rp AV) (zm : Bool) (H : AH) (s x : AV) (k : AV → AH → Bool) : Bool :=
  appSrc H es bytes z zm x fun n r =>
    cond (Nat.beq n 0) (match s with
      | .nils => k s H
      | .slc _ _ _ _ => k s H
      | .slu _ _ _ _ => k s H
      | .slz _ _ _ => k s H
      | _ => false)
    (match s with
      | .slz b off e => cond (Nat.beq e es) (cond (roomy n bytes) (gcell H b fun _ st ro => cond ro false (anew (H.kill b) (.cells r st false) fun b H => k (.slu b 0 n es) H)) false) false
      | .nils => cond (roomy n bytes) (anew H (.cells r false false) fun b H => k (.slu b 0 n es) H) false
      | .slc b off len cap => cond (Nat.ble (len + n) cap)
          (gcell H b fun a st ro => cond ro false (cond (Nat.ble (off + (len + n) * es) a.len)
            (fN (len + n) fun m => k (.slc b off m cap) (H.set b (.cells (a.put (off + len * es) (n * es) r) st ro))) false))
          (cond (roomy (len + n) bytes) (gcell H b fun a _ _ => cond (Nat.ble (off + len * es) a.len)
            (anew H (.cells ((a.sub off (len * es)).app r) false false) fun b H => fN (len + n) fun m => k (.slu b 0 m es) H) false) false)
      | .slu b off len e => cond (Nat.beq e es) (gcell H b fun a st ro => cond ro false (cond (Nat.ble (off + (len + n) * es) a.len)
            (fN (len + n) fun m => k (.slu b off m es) (H.set b (.cells (a.put (off + len * es) (n * es) r) st ro)))
            (cond (roomy (len + n) bytes) (cond (Nat.ble (off + len * es) a.len)
              (anew (H.kill b) (.cells ((a.sub off (len * es)).app r) st false) fun b H => fN (len + n) fun m => k (.slu b 0 m es) H) false) false))) false
      | _ => false)
def putCells (H : AH) (b off n : Nat) (r : Rp AV) (k : AH → Bool) : Bool :=
  gcell H b fun a st ro => cond ro false (cond (Nat.ble (off + n) a.len) (k (H.set b (.cells (a.put off n r) st ro))) false)
def bytesL (l : List AV) (k : List Nat → Bool) : Bool :=
  List.rec (fun k => k []) (fun x _ ih k => match x with
    | .int .u8 (.ofNat n) => cond (Nat.ble n 255) (ih fun l => k (n :: l)) false
    | _ => false) l k
/-- the kinds of a key's cells, packed in a number -/
def decSh (f : Nat) : Nat → List Nat := Nat.rec (fun _ => []) (fun _ ih n => Nat.rec [] (fun m _ => (m % 4) :: ih (m / 4)) n) f
def shOf (kk : Nat) : List Nat := decSh kk (kk - 2)
def hasSh (sh : List Nat) : List AV → Bool :=
  List.rec (fun b => match b with | [] => true | _ => false) (fun c _ ih b => match b with
    | .int _ _ :: l => cond (Nat.beq c 0) (ih l) false
    | .str _ :: l => cond (Nat.beq c 1) (ih l) false
    | .bool _ :: l => cond (Nat.beq c 2) (ih l) false
    | _ => false) sh
def eqL (a : List AV) : List AV → (Unit → Bool) → (Unit → Bool) → Bool :=
  List.rec (fun b yes _ => match b with | [] => yes () | _ => false) (fun x _ ih b yes no => match x, b with
    | .int q m, .int r n :: l => cond (Nat.beq (ikN q) (ikN r)) (cond (ieq m n) (ih l yes no) (no ())) false
    | .str m, .str n :: l => cond (seq m n) (ih l yes no) (no ())
    | .bool m, .bool n :: l => cond (cond m n (!n)) (ih l yes no) (no ())
    | _, _ => false) a
/-- a map's key found -/
def keyEq (a b : AV) (yes no : Unit → Bool) : Bool := match a, b with
  | .int q m, .int r n => cond (Nat.beq (ikN q) (ikN r)) (cond (ieq m n) (yes ()) (no ())) false
  | .str m, .str n => cond (seq m n) (yes ()) (no ())
  | .agg x, .agg y => cond (Nat.beq x.len y.len) (eqL x.toL y.toL yes no) false
  | _, _ => false
def mfind (key : AV) (es : List (AV × AV × Nat)) (yes : Nat → AV → Bool) (no : Unit → Bool) : Nat → Bool :=
  List.rec (fun _ => no ()) (fun e _ ih i => keyEq key e.1 (fun _ => yes i e.2.1) (fun _ => ih (Nat.succ i))) es
/-- a key of its map's kind: 0 a number, 1 a string, 2 and on: a struct of such cells -/
def isKey (kk : Nat) (key : AV) : Bool := match key with
  | .int _ _ => Nat.beq kk 0
  | .str _ => Nat.beq kk 1
  | .agg r => cond (Nat.ble 2 kk) (hasSh (shOf kk) r.toL) false
  | _ => false
def fillIn (env : Env) (z : Rp AV) (parts : List (Nat × Nat × Od)) (k : Rp AV → Bool) : Bool :=
  List.rec (fun z => k z) (fun p _ ih z => match ev env p.2.2 with
    | .agg r => cond (Nat.beq r.len p.2.1) (cond (Nat.ble (p.1 + p.2.1) z.len) (ih (z.put p.1 p.2.1 r)) false) false
    | v => cond v.sc (cond (Nat.beq p.2.1 1) (cond (Nat.ble (p.1 + 1) z.len) (ih (z.set p.1 v)) false) false) false) parts z

/-- what is laid in a new block, and what leads to it -/
def alc (x : Option (AObj × (Nat → AV))) (H : AH) (k : AV → AH → Bool) : Bool := match x with
  | some (o, f) => anew H o fun b H => k (f b) H
  | none => false
def boxed (v : AV) : Option (AObj × (Nat → AV)) := match v with
  | .agg r => some (.cells r false false, fun b => .ptr b 0)
  | v => cond v.sc (some (.cells (.one v) false false, fun b => .ptr b 0)) none

def xop (o : XOp) (env : Env) (H : AH) (k : AV → AH → Bool) : Bool :=
  match o with
  | .bad => false
  | .call _ _ => false
  | .mv x => k (ev env x) H
  | .pick c a b => match ev env c with
    | .bool t => k (cond t (ev env a) (ev env b)) H
    | _ => false
  | .alloc z => alc (some (.cells z false false, fun b => .ptr b 0)) H k
  | .box x => alc (boxed (ev env x)) H k
  | .build z parts => fillIn env z parts fun r => k (.agg r) H
  | .bsl n z parts => fillIn env z parts fun r => alc (some (.cells r false false, fun b => .slc b 0 n n)) H k
  | .ld1 a => match ev env a with
    | .ptr b off => gcell H b fun c _ _ => match c.get off with
      | some v => k v H
      | none => false
    | _ => false
  | .ldn n a => match ev env a with
    | .ptr b off => gcell H b fun c _ _ => cond (Nat.ble (off + n) c.len) (k (.agg (c.sub off n)) H) false
    | _ => false
  | .st n a x => match ev env a with
    | .ptr b off => gcell H b fun c st ro => cond ro false (match ev env x with
      | .agg r => cond (Nat.beq r.len n) (cond (Nat.ble (off + n) c.len) (k .undef (H.set b (.cells (c.put off n r) st ro))) false) false
      | v => cond v.sc (cond (Nat.beq n 1) (cond (Nat.ble (off + 1) c.len) (k .undef (H.set b (.cells (c.set off v) st ro))) false) false) false)
    | _ => false
  | .nck x => match ev env x with
    | .ptr b off => k (.ptr b off) H
    | .fn (.fn (.func f)) a b => k (.fn (.fn (.func f)) a b) H
    | .fn (.yld l) a b => k (.fn (.yld l) a b) H
    | _ => false
  | .fla off x => match ev env x with
    | .ptr b o => fN (o + off) fun o => k (.ptr b o) H
    | _ => false
  | .ixa len es x i => match ev env x, ev env i with
    | .ptr b o, .int _ (.ofNat n) => cond (Nat.ble len n) false (fN (o + n * es) fun o => k (.ptr b o) H)
    | _, _ => false
  | .ixs es x i => match ev env x, ev env i with
    | .slc b o len _, .int _ (.ofNat n) => cond (Nat.ble len n) false (fN (o + n * es) fun o => k (.ptr b o) H)
    | .slu b o len _, .int _ (.ofNat n) => cond (Nat.ble len n) false (fN (o + n * es) fun o => k (.ptr b o) H)
    | _, _ => false
  | .iag len es isAgg x i => match ev env x, ev env i with
    | .agg r, .int _ (.ofNat n) => cond (Nat.ble len n) false (cond isAgg (cond (Nat.ble (n * es + es) r.len) (k (.agg (r.sub (n * es) es)) H) false) (match r.get (n * es) with
      | some v => k v H
      | none => false))
    | _, _ => false
  | .ist x i => match ev env x, ev env i with
    | .str s, .int _ (.ofNat n) => match s[n]? with
      | some c => fN c fun c => k (.int .u8 (Int.ofNat c)) H
      | none => false
    | _, _ => false
  | .fld off n isAgg x => match ev env x with
    | .agg r => cond isAgg (cond (Nat.ble (off + n) r.len) (k (.agg (r.sub off n)) H) false) (match r.get off with
      | some v => k v H
      | none => false)
    | _ => false
  | .bin op ek x y => bin op ek H (ev env x) (ev env y) fun v => k v H
  | .eqa neg sh x y => match ev env x, ev env y with
    | .agg a, .agg b => cond (Nat.beq a.len (llen sh 0)) (cond (Nat.beq b.len (llen sh 0)) (eqS sh a.toL b.toL fun t => k (.bool (cond neg (!t) t)) H) false) false
    | _, _ => false
  | .not x => match ev env x with
    | .bool b => k (.bool (!b)) H
    | _ => false
  | .neg x => match ev env x with
    | .int q n => fI (wrapF q (0 - n)) fun z => k (.int q z) H
    | _ => false
  | .xorn x => match ev env x with
    | .int q n => fI (bits2 Nat.xor (fun _ a b => a ^^^ b) q (if q.signed then -1 else q.max) n) fun z => k (.int q z) H
    | _ => false
  | .cvi q x => match ev env x with
    | .int _ n => fI (wrapF q n) fun z => k (.int q z) H
    | _ => false
  | .cvs x => match ev env x with
    | .str s => k (.str s) H
    | _ => false
  | .s2b x => match ev env x with
    | .str s => fN (llen s 0) fun n => alc (some (.cells (Rp.ofL (s.map fun c => .int .u8 (Int.ofNat c))) true false, fun b => .slu b 0 n 1)) H k
    | _ => false
  | .b2s x => match ev env x with
    | .nils => k (.str []) H
    | x => srcLen x fun n => match x with
      | .str _ => false
      | x => srcCells H 1 n x fun r => bytesL r.toL fun l => k (.str l) H
  | .s2a n x => match ev env x with
    | .slc b o len _ => cond (Nat.ble n len) (k (.ptr b o) H) false
    | .slu b o len _ => cond (Nat.ble n len) (k (.ptr b o) H) false
    | _ => false
  | .mki t x => k (.ifc t (ev env x)) H
  | .tas t x => match ev env x with
    | .ifc u v => cond (Nat.beq u t) (k v H) false
    | _ => false
  | .mkf f a b => k (.fn f (a.map (ev env)) (b.map (ev env))) H
  | .mkm => alc (some (.mp [] 0, fun b => .map b)) H k
  | .mks es bytes z l c => match ev env l, ev env c with
    | .int _ (.ofNat l), .int _ (.ofNat c) => fN l fun l => fN c fun c => cond (Nat.ble l c) (cond (Nat.ble (bytes * c) 281474976710656) (cond (Nat.ble c 9223372036854775807)
        (alc (some (.cells (zeros c z) false false, fun b => .slc b 0 l c)) H k) false) false) false
    | _, _ => false
  | .sls x lo hi => match ev env x with
    | .str s => fN (llen s 0) fun n => cut3 env n n lo hi none fun l h _ => k (.str ((s.drop l).take (h - l))) H
    | _ => false
  | .sll es x lo hi mx => match ev env x with
    | .nils => cut3 env 0 0 lo hi mx fun _ _ _ => k .nils H
    | .slc b o len cap => cut3 env len cap lo hi mx fun l h m => fN (h - l) fun n => fN (m - l) fun c => fN (cond (Nat.beq m l) o (o + l * es)) fun o => k (.slc b o n c) H
    | .slu b o len e => cond (Nat.beq e es) (match mx with
      | some _ => cut3 env len len lo hi mx fun l h m => fN (h - l) fun n => fN (m - l) fun c => fN (cond (Nat.beq m l) o (o + l * es)) fun o => k (.slc b o n c) H
      | none => gcell H b fun a _ _ => cut3 env len ((a.len - o) / es) lo hi none fun l h m => cond (Nat.beq m l) (fN (o + l * es) fun o => k (.slz b o es) H) (fN (h - l) fun n => fN (o + l * es) fun o => k (.slu b o n es) H)) false
    | .slz b o e => cut3 env 0 0 lo hi mx fun _ _ _ => k (.slz b o e) H
    | _ => false
  | .sla n es x lo hi mx => match ev env x with
    | .ptr b o => cut3 env n n lo hi mx fun l h m => fN (h - l) fun n => fN (m - l) fun c => fN (cond (Nat.beq m l) o (o + l * es)) fun o => k (.slc b o n c) H
    | _ => false
  | .lkp zero ok kk m key => cond (isKey kk (ev env key)) (match ev env m with
    | .nilm => k (cond ok (.tup [zero, .bool false]) zero) H
    | .map r => gmap H r fun es _ => mfind (ev env key) es (fun _ v => k (cond ok (.tup [v, .bool true]) v) H) (fun _ => k (cond ok (.tup [zero, .bool false]) zero) H) 0
    | _ => false) false
  | .mup kk m key x => cond (isKey kk (ev env key)) (match ev env m with
    | .map r => gmap H r fun es c => mfind (ev env key) es (fun i _ => k .undef (H.set r (.mp (es.modify i fun e => (ev env key, ev env x, e.2.2)) c)))
        (fun _ => k .undef (H.set r (.mp (es ++ [(ev env key, ev env x, c)]) (c + 1)))) 0
    | _ => false) false
  | .ext x i => match ev env x with
    | .tup vs => match vs[i]? with
      | some v => k v H
      | none => false
    | _ => false
  | .len lk x => (match lk with
    | 0 => (match ev env x with
      | .str s => fN (llen s 0) fun n => k (.int .i64 (Int.ofNat n)) H
      | _ => false)
    | 1 => (match ev env x with
      | .str _ => false
      | x => srcLen x fun n => k (.int .i64 (Int.ofNat n)) H)
    | _ => (match ev env x with
      | .map r => gmap H r fun es _ => fN (llen es 0) fun n => k (.int .i64 (Int.ofNat n)) H
      | .nilm => k (.int .i64 0) H
      | _ => false))
  | .capo x => match ev env x with
    | .nils => k (.int .i64 0) H
    | .slc _ _ _ c => k (.int .i64 (Int.ofNat c)) H
    | _ => false
  | .app es bytes z zm s x => xapp es bytes z zm H (ev env s) (ev env x) k
  | .copy es d s => srcLen (ev env s) fun n => srcLen (ev env d) fun m => fN (Nat.min n m) fun n => srcCells H es n (ev env s) fun r => (match ev env d with
    | .nils => k (.int .i64 (Int.ofNat n)) H
    | .slc b o _ _ => putCells H b o (n * es) r fun H => k (.int .i64 (Int.ofNat n)) H
    | .slu b o _ _ => putCells H b o (n * es) r fun H => k (.int .i64 (Int.ofNat n)) H
    | .slz _ _ _ => k (.int .i64 (Int.ofNat n)) H
    | _ => false)
  | .del kk m key => cond (isKey kk (ev env key)) (match ev env m with
    | .nilm => k (.tup []) H
    | .map r => gmap H r fun es c => mfind (ev env key) es (fun i _ => k (.tup []) (H.set r (.mp (es.eraseIdx i) c))) (fun _ => k (.tup []) H) 0
    | _ => false) false
  | .clrm m => match ev env m with
    | .nilm => k (.tup []) H
    | .map r => gmap H r fun _ c => k (.tup []) (H.set r (.mp [] c))
    | _ => false
  | .clrs es z s => match ev env s with
    | .nils => k (.tup []) H
    | .slz _ _ _ => k (.tup []) H
    | .slc b o n _ => cond (Nat.beq n 0) (k (.tup []) H) (putCells H b o (n * es) (zeros n z) fun H => k (.tup []) H)
    | .slu b o n _ => cond (Nat.beq n 0) (k (.tup []) H) (putCells H b o (n * es) (zeros n z) fun H => k (.tup []) H)
    | _ => false
  | .mx x y => match ev env x, ev env y with
    | .int q a, .int _ b => k (.int q (cond (ile b a) a b)) H
    | _, _ => false
  | .mn x y => match ev env x, ev env y with
    | .int q a, .int _ b => k (.int q (cond (ile a b) a b)) H
    | _, _ => false
  | .rng x => match ev env x with
    | .str s => alc (some (.sit s 0, fun b => .ptr b 0)) H k
    | _ => false
  | .nxt _ => false

/-! ### code -/
abbrev Cl := AV → List AV → AH → (AV → AH → Bool) → Bool

def setd (d : Option Nat) (v : AV) (env : Env) : Env := match d with
  | some d => lset env d v
  | none => env
def wants (g : Option (Nat × Bool)) (env : Env) (yes no : Unit → Bool) : Bool := match g with
  | none => yes ()
  | some (t, w) => match lget env t with
    | .bool b => cond (cond b w (!w)) (yes ()) (no ())
    | .tup [] => no ()
    | _ => false
def act (cl : Cl) (o : XOp) (env : Env) (H : AH) (k : AV → AH → Bool) : Bool := match o with
  | .call f args => cl (ev env f) (args.map (ev env)) H k
  | o => xop o env H k
def stepOp (cl : Cl) (o : XOper) (env : Env) (H : AH) (k : Env → AH → Bool) : Bool :=
  wants o.guard env (fun _ => act cl o.op env H fun v H => k (setd o.dst v env) H) (fun _ => k (setd o.dst (.tup []) env) H)
def runOps (cl : Cl) (l : List XOper) : Env → AH → (Env → AH → Bool) → Bool :=
  List.rec (fun env H k => k env H) (fun o _ ih env H k => stepOp cl o env H fun env H => ih env H k) l
def stepD (cl : Cl) (s : DStep) (env : Env) (H : AH) (k : Env → AH → Bool) : Bool := match s with
  | .run o => stepOp cl o env H k
  | .again o => wants o.guard env (fun _ => match o.dst with
      | some d => xop o.op env H fun v _ => cond (same v (lget env d)) (k env H) false
      | none => false) (fun _ => k env H)
def runD (cl : Cl) (l : List DStep) : Env → AH → (Env → AH → Bool) → Bool :=
  List.rec (fun env H k => k env H) (fun o _ ih env H k => stepD cl o env H fun env H => ih env H k) l

def runS (cl : Cl) (l : List (XOper × List DStep)) : Env → AH → (Env → AH → Bool) → Bool :=
  List.rec (fun env H k => k env H) (fun p _ ih env H k => stepOp cl p.1 env H fun env H => runD cl p.2 env H fun env H => ih env H k) l

abbrev Kc := Ex → Env → List Nat → AH → Bool
def iter (body : Env → List Nat → AH → Kc → Bool) (f : Nat) : Env → List Nat → AH → Kc → Bool :=
  Nat.rec (fun _ _ _ _ => false) (fun _ ih env ds H k => body env ds H fun e env ds H => match e with
    | .normal => ih env ds H k
    | e => k e env ds H) f
def setAll (ps : List Nat) (args : List AV) (env : Env) : Env := match ps, args with
  | p :: ps, a :: args => setAll ps args (lset env p a)
  | _, _ => env

/-- a function that the program names -/
def isFn (v : AV) : Bool := match v with
  | .fn (.fn (.func _)) _ _ => true
  | _ => false
def den (cl : Cl) (N : Nat) (rd : Option Nat) (c : IR) : Env → List Nat → AH → Kc → Bool :=
  IR.rec
    (fun env ds H k => k .normal env ds H)
    (fun _ _ _ _ => false)
    (fun ops env ds H k => runOps cl ops env H fun env H => k .normal env ds H)
    (fun first rest env ds H k => runD cl first env H fun env H => runS cl rest env H fun env H => k .normal env ds H)
    (fun _ _ da db env ds H k => da env ds H fun e env ds H => match e with
      | .normal => db env ds H k
      | e => k e env ds H)
    (fun c _ _ da db env ds H k => match ev env c with
      | .bool b => cond b (da env ds H k) (db env ds H k)
      | _ => false)
    (fun id _ dc env ds H k => dc env ds H fun e env ds H => match e with
      | .exit j => cond (Nat.beq j id) (k .normal env ds H) (k (.exit j) env ds H)
      | e => k e env ds H)
    (fun _ dc env ds H k => iter dc N env ds H k)
    (fun id env ds H k => k (.exit id) env ds H)
    (fun env ds H k => k .ret env ds H)
    (fun f ps asg body _ _ env ds H k =>
      match rd with
      | none => anew H (.dfd true) fun d H => anew H (.lp ⟨.ready, none, env, ps, asg, body, d⟩) fun l H =>
          cond (isFn (ev env f)) (cl (ev env f) [.fn (.yld l) [] []] H fun _ H => match H.get l with
            | some (.lp r) => match r.state with
              | .busy => false
              | _ => (match r.pending with
                | none => k .normal env (d :: ds) (H.set l (.lp { r with state := .exhausted }))
                | some e => k e env (d :: ds) (H.set l (.lp { r with state := .exhausted })))
            | _ => false) false
      | some l0 => match H.get l0 with
        | some (.lp r0) => anew H (.lp ⟨.ready, none, env, ps, asg, body, r0.defers⟩) fun l H =>
          cond (isFn (ev env f)) (cl (ev env f) [.fn (.yld l) [] []] H fun _ H => match H.get l with
            | some (.lp r) => match r.state with
              | .busy => false
              | _ => (match r.pending with
                | none => k .normal env ds (H.set l (.lp { r with state := .exhausted }))
                | some e => k e env ds (H.set l (.lp { r with state := .exhausted })))
            | _ => false) false
        | _ => false) c

/-! ### calls -/
def closeAll (ds : List Nat) : AH → (AH → Bool) → Bool :=
  List.rec (fun H k => k H) (fun d _ ih H k => match H.get d with
    | some (.dfd true) => ih (H.set d (.dfd false)) k
    | _ => false) ds
def rvs (rs : List RV) (env : Env) (H : AH) : (List AV → Bool) → Bool :=
  List.rec (fun k => k []) (fun r _ ih k => match r with
    | .tmp t => ih fun l => k (lget env t :: l)
    | .cell t n isAgg => match lget env t with
      | .ptr b off => gcell H b fun c _ _ => cond isAgg (cond (Nat.ble (off + n) c.len) (ih fun l => k (.agg (c.sub off n) :: l)) false) (match c.get off with
        | some v => ih fun l => k (v :: l)
        | none => false)
      | _ => false) rs
def oneOf (l : List AV) : AV := match l with
  | [v] => v
  | l => .tup l

/-- a function: its code, or a row of the library that the model itself gives, or one whose abstract run is given and was proved -/
inductive FT where
  | code (f : FnIR)
  | clone
  | sum (g : List AV → AH → (AV → AH → Bool) → Bool)
  | ext (g : List AV → AH → (AV → AH → Bool) → Bool)

def callF (tbl : Nat → Option FT) (cl : Cl) (N : Nat) (f : Nat) (args : List AV) (H : AH) (k : AV → AH → Bool) : Bool :=
  match tbl f with
  | some (.code fi) => den cl N none fi.body (args ++ List.replicate (fi.ntmps - args.length) (.tup [])) [] H fun e env ds H => match e with
    | .exit _ => false
    | _ => closeAll ds H fun H => rvs fi.results env H fun l => k (oneOf l) H
  | some .clone => match args with
    | [.ifc t (.map r)] => gmap H r fun es c => anew H (.mp es c) fun b H => k (.ifc t (.map b)) H
    | _ => false
  | some (.sum g) => g args H k
  | some (.ext g) => g args H k
  | none => false

def roundV (cl : Cl) (N : Nat) (l : Nat) (args : List AV) (H : AH) (k : AV → AH → Bool) : Bool :=
  match H.get l with
  | some (.lp r0) => cond (Nat.beq args.length r0.params.length)
    (den cl N (some l) r0.asg (setAll r0.params args r0.tmps) [] H fun e env ds H => match e with
      | .normal => (match H.get l with
        | some (.lp r) => match r.state with
          | .ready => den cl N (some l) r0.body env ds (H.set l (.lp { r with state := .busy })) fun e env ds H => (match H.get l with
            | some (.lp r) => match e with
              | .normal => k (.bool true) (H.set l (.lp { r with state := .ready, pending := none }))
              | e => k (.bool false) (H.set l (.lp { r with state := .done, pending := some e }))
            | _ => false)
          | _ => false
        | _ => false)
      | _ => false) false
  | _ => false

/-- a call of a function value, with so much fuel -/
def RUN (tbl : Nat → Option FT) (N : Nat) (f : Nat) : Cl :=
  Nat.rec (fun _ _ _ _ => false) (fun _ ih v args H k => match v with
    | .fn (.fn (.func g)) first cap => callF tbl ih N g (first ++ args ++ cap) H k
    | .fn (.yld l) [] _ => roundV ih N l args H k
    | _ => false) f
end
end Go.Jt
