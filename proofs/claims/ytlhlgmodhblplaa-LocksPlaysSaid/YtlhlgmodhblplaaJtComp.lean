/-
  The compiled form of the model's code: what each operation needs of the program's tables, laid beside it; a region whose order is open, laid in one order with what must be looked at again.
-/
import Derived.Test.YtlhlgmodhblplaaJtEv
set_option autoImplicit false
set_option linter.all false
namespace Go.Jt
noncomputable section

def isYield : Fn → Bool
  | .yield _ => true
  | _ => false
/-- a value of one cell, as the program's text holds it -/
def ofS : Value → AV
  | .bool b => .bool b
  | .int k n => .int k n
  | .string s => .str (bytesOf s)
  | .pointer none => .nilp
  | .slice none 0 0 => .nils
  | .map none => .nilm
  | .nilFunc => .nilf
  | .nilIface => .nili
  | .func f a b => cond (isYield f) .undef (cond (Nat.beq a.size 0) (cond (Nat.beq b.size 0) (.fn (.fn f) [] []) .undef) .undef)
  | _ => .undef
/-- runs of one value -/
def runs (l : List AV) : List (Nat × AV) → List (Nat × AV) :=
  List.rec (fun acc => acc) (fun x _ ih acc => match acc with
    | [] => ih [(1, x)]
    | (n, y) :: rest => cond (same1 x y) (fN (n + 1) fun n => ih ((n, y) :: rest)) (ih ((1, x) :: (n, y) :: rest))) l
def runRp (p : Nat × AV) : Nat × Rp AV := (p.1, match p.1 with
  | 1 => .one p.2
  | n => .rep n p.2)
def rle (l : List AV) : Rp AV := Rp.build 40 ((runs l []).reverse.map runRp)
def ofRow (cs : Array Value) : Option (Rp AV) := cond (cs.toList.all Value.oneCell') (some (rle (cs.toList.map ofS))) none
def ofV (v : Value) : AV := match v with
  | .agg cs => (match ofRow cs with
    | some r => .agg r
    | none => .undef)
  | v => ofS v

/-- what package variables that nothing writes hold: the cells of each that is known -/
class Gl where
  row : Nat → Option (Rp AV)
variable (P : Program)
def od : Operand → Od
  | .tmp t => .tmp t
  | .const v => .cst (ofV v)
  | .func f => .cst (.fn (.fn (.func f)) [] [])
  | .global _ => .bad
def sizeT (t : TypeId) : Nat := ((P.info? t).map (·.size)).getD 0
def isAggT (t : TypeId) : Bool := match P.underlying t with
  | some (.struct _) | some (.array _ _) => true
  | _ => false
def zeroRow (t : TypeId) : Option (Rp AV) := ((P.info? t).bind (·.zero)).bind fun z => ofRow z.cells
def zeroAV (t : TypeId) : Option AV := ((P.info? t).bind (·.zero)).map ofV
def parts (pl : Nat → Option (Nat × Nat)) : List (Nat × Operand) → Option (List (Nat × Nat × Od))
  | [] => some []
  | (i, x) :: rest => match pl i, parts pl rest with
    | some (off, n), some r => some ((off, n, od x) :: r)
    | _, _ => none
/-- the kinds of the cells of a type that is compared cell by cell -/
def shapeFs (f : TypeId → Option (List Nat)) : List Field → Nat → Option (List Nat)
  | [], _ => some []
  | fl :: fs, off => cond (fl.name == "_") none (cond (Nat.beq fl.offset off) (match f fl.type with
    | some s => (match shapeFs f fs (off + s.length) with
      | some r => some (s ++ r)
      | none => none)
    | none => none) none)
def timesN (n : Nat) (s : List Nat) : List Nat := Nat.rec [] (fun _ ih => s ++ ih) n
def shapeT : Nat → TypeId → Option (List Nat)
  | 0, _ => none
  | d + 1, t => match P.underlying t with
    | some .bool => some [2]
    | some (.int _) => some [0]
    | some .string => some [1]
    | some (.struct fs) => cond (P.stoodInHeld t) none (match shapeFs (shapeT d) fs.toList 0, P.info? t with
      | some s, some i => cond (Nat.beq s.length i.size) (some s) none
      | _, _ => none)
    | some (.array n e) => (match shapeT d e, P.info? e, P.info? t with
      | some s, some j, some i => cond (Nat.beq s.length j.size) (cond (Nat.beq (n * s.length) i.size) (some (timesN n s)) none) none
      | _, _, _ => none)
    | _ => none

def eqKind (t : TypeId) : Nat := match P.underlying t with
  | some .bool => 1
  | some (.pointer e) => cond (Nat.beq (sizeT P e) 0) 0 2
  | some (.slice _) => 3
  | some (.map _ _) => 4
  | some (.func _ _ _) => 5
  | some (.interface _) => 6
  | _ => 0
/-- the kinds of a flat struct's fields -/
def flatFs : List Field → Nat → Option (List Nat)
  | [], _ => some []
  | f :: fs, off => cond (f.name == "_") none (cond (Nat.beq f.offset off) (match P.underlying f.type, flatFs fs (off + 1) with
    | some .bool, some r => some (2 :: r)
    | some (.int _), some r => some (0 :: r)
    | some .string, some r => some (1 :: r)
    | _, _ => none) none)
def encSh (s : List Nat) : Nat := List.rec 0 (fun c _ ih => 4 * ih + c + 1) s
def keyT (t : TypeId) : Option Nat := match P.underlying t with
  | some (.int _) => some 0
  | some .string => some 1
  | some (.struct fs) => (match flatFs P fs.toList 0, shapeT P 20 t, P.info? t with
    | some s, some s', some i => cond (seq s s') (cond (seq (shOf (2 + encSh s)) s) (cond (Nat.beq i.size s.length) (some (2 + encSh s)) none) none) none
    | _, _, _ => none)
  | _ => none
def isEq : BinOp → Bool
  | .eql | .neq => true
  | _ => false
def isNeq : BinOp → Bool
  | .neq => true
  | _ => false
def isIntT (t : TypeId) : Bool := match P.underlying t with
  | some (.int _) => true
  | _ => false

/-- what a known package variable holds, read -/
def readG (isAgg : Bool) (size : Nat) (r : Option (Rp AV)) : XOp := match r with
  | some r => cond isAgg (cond (Nat.beq r.len size) (.mv (.cst (.agg r))) .bad) (match r.get 0 with
    | some v => .mv (.cst v)
    | none => .bad)
  | none => .bad
theorem readG_no {b : Bool} {n : Nat} {r : Option (Rp AV)} {x : XOp} (h : readG b n r = x) (h1 : x ≠ .bad) (h2 : ∀ v, x ≠ .mv v) : False := by
  unfold readG at h
  split at h
  · rename_i r
    cases b with
    | true =>
      simp only [cond_true] at h
      cases hb : Nat.beq r.len n with
      | true => rw [hb] at h; exact h2 _ h.symm
      | false => rw [hb] at h; exact h1 h.symm
    | false =>
      simp only [cond_false] at h
      split at h
      · exact h2 _ h.symm
      · exact h1 h.symm
  · exact h1 h.symm
variable [Gl]
def compOp (o : Oper) : XOp := match o.op with
  | .move x => .mv (od x)
  | .assign x => .mv (od x)
  | .pick c a b => .pick (od c) (od a) (od b)
  | .alloc t => (match zeroRow P t with
    | some z => .alloc z
    | none => .bad)
  | .box _ x => .box (od x)
  | .build t ps => (match P.underlying t, zeroRow P t with
    | some (.struct fs), some z => (match fs.toList.mapM (fun f => (P.info? f.type).map fun i => (f.offset, i.size)) with
      | some pl => (match parts (fun i => pl.toArray[i]?) ps.toList with
        | some l => .build z l
        | none => .bad)
      | none => .bad)
    | some (.array _ e), some z => (match P.info? e with
      | some ie => (match parts (fun i => some (i * ie.size, ie.size)) ps.toList with
        | some l => .build z l
        | none => .bad)
      | none => .bad)
    | _, _ => .bad)
  | .buildSlice t n ps => (match P.underlying t with
    | some (.slice e) => (match zeroRow P e, P.info? e with
      | some z, some ie => (match parts (fun i => some (i * ie.size, ie.size)) ps.toList with
        | some l => cond (Nat.beq z.len ie.size) (cond (Nat.beq z.len 0) .bad (cond (Nat.ble (n * ie.size) 16777216) (.bsl n (zeros n z) l) .bad)) .bad
        | none => .bad)
      | _, _ => .bad)
    | _ => .bad)
  | .load t a => (match P.underlying t, P.info? t with
    | some _, some i => (match a with
      | .global g => readG (isAggT P t) i.size (Gl.row g)
      | a => cond (isAggT P t) (.ldn i.size (od a)) (.ld1 (od a)))
    | _, _ => .bad)
  | .store t a x => (match P.info? t with
    | some i => .st i.size (od a) (od x)
    | none => .bad)
  | .nilCheck x => .nck (od x)
  | .binOp op t x y _ => cond (isEq op && isAggT P t)
      (match shapeT P 20 t with
      | some sh => cond (P.eqGuardType P.depth t) .bad (.eqa (isNeq op) sh (od x) (od y))
      | none => .bad)
      (.bin op (eqKind P t) (od x) (od y))
  | .unOp .not _ x => .not (od x)
  | .unOp .neg _ x => .neg (od x)
  | .unOp .xor _ x => .xorn (od x)
  | .convert s d x => (match P.underlying s, P.underlying d with
    | some _, some (.int k) => .cvi k (od x)
    | some .string, some .string => .cvs (od x)
    | some .string, some (.slice e) => (match P.underlying e with
      | some (.int .u8) => .s2b (od x)
      | _ => .bad)
    | some (.slice e), some .string => (match P.underlying e with
      | some (.int .u8) => .b2s (od x)
      | _ => .bad)
    | _, _ => .bad)
  | .sliceToArrayPointer d x => (match P.underlying d with
    | some (.array n _) => .s2a n (od x)
    | _ => .bad)
  | .makeInterface t x => (match P.underlying t with
    | some (.interface _) => .bad
    | some _ => .mki t (od x)
    | none => .bad)
  | .typeAssert x _ t ok => cond ok .bad (match P.underlying t with
    | some (.interface _) => .bad
    | some _ => .tas t (od x)
    | none => .bad)
  | .makeFunc f a b => cond (isYield f) .bad (.mkf (.fn f) (a.toList.map od) (b.toList.map od))
  | .makeMap _ none => .mkm
  | .makeSlice t l c => (match P.underlying t with
    | some (.slice e) => (match zeroRow P e, P.info? e with
      | some z, some i => cond (Nat.beq z.len i.size) (cond (Nat.beq z.len 0) .bad (.mks i.size i.bytes z (od l) (od c))) .bad
      | _, _ => .bad)
    | _ => .bad)
  | .slice t x lo hi mx => (match P.underlying t with
    | some .string => (match mx with
      | none => .sls (od x) (lo.map od) (hi.map od)
      | some _ => .bad)
    | some (.slice e) => (match P.info? e with
      | some i => cond (Nat.beq i.size 0) .bad (.sll i.size (od x) (lo.map od) (hi.map od) (mx.map od))
      | none => .bad)
    | some (.array n e) => (match P.info? e with
      | some i => .sla n i.size (od x) (lo.map od) (hi.map od) (mx.map od)
      | none => .bad)
    | _ => .bad)
  | .fieldAddr s x f => (match P.underlying s with
    | some (.struct fs) => (match fs[f]? with
      | some f => (match P.info? f.type with
        | some i => cond (Nat.beq i.size 0) .bad (.fla f.offset (od x))
        | none => .bad)
      | none => .bad)
    | _ => .bad)
  | .field t x f => (match P.underlying t with
    | some (.struct fs) => (match fs[f]? with
      | some f => (match P.info? f.type, P.underlying f.type with
        | some i, some _ => .fld f.offset i.size (isAggT P f.type) (od x)
        | _, _ => .bad)
      | none => .bad)
    | _ => .bad)
  | .indexAddr t x i => (match P.underlying t with
    | some (.array n e) => (match P.info? e with
      | some j => .ixa n j.size (od x) (od i)
      | none => .bad)
    | some (.slice e) => (match P.info? e with
      | some j => .ixs j.size (od x) (od i)
      | none => .bad)
    | _ => .bad)
  | .index t x i => (match P.underlying t with
    | some (.array n e) => (match P.info? e, P.underlying e with
      | some j, some _ => .iag n j.size (isAggT P e) (od x) (od i)
      | _, _ => .bad)
    | some .string => .ist (od x) (od i)
    | _ => .bad)
  | .lookup t m k ok => (match P.underlying t with
    | some (.map kt e) => (match keyT P kt, zeroAV P e with
      | some kk, some z => .lkp z ok kk (od m) (od k)
      | _, _ => .bad)
    | _ => .bad)
  | .mapUpdate t m k x => (match P.underlying t with
    | some (.map kt _) => (match keyT P kt with
      | some kk => .mup kk (od m) (od k) (od x)
      | none => .bad)
    | _ => .bad)
  | .extract x i => .ext (od x) i
  | .call c => (match c.callee with
    | .value f => .call (od f) (c.args.toList.map od)
    | .invoke _ _ => .bad
    | .builtin .len => (match c.argTypes.toList, c.args.toList with
      | [t], [x] => (match P.underlying t with
        | some .string => .len 0 (od x)
        | some (.slice _) => .len 1 (od x)
        | some (.map _ _) => .len 2 (od x)
        | _ => .bad)
      | _, _ => .bad)
    | .builtin .cap => (match c.argTypes.toList, c.args.toList with
      | [t], [x] => (match P.underlying t with
        | some (.slice _) => .capo (od x)
        | _ => .bad)
      | _, _ => .bad)
    | .builtin .append => (match c.argTypes.toList, c.args.toList with
      | [t, u], [s, x] => (match P.underlying t, P.underlying u with
        | some (.slice e), some ud => (match zeroRow P e, P.info? e with
          | some z, some i => cond (Nat.beq z.len i.size) (cond (Nat.beq z.len 0) .bad (cond (Nat.beq i.bytes 0) .bad (.app i.size i.bytes z (match ud with | .int _ => true | _ => false) (od s) (od x)))) .bad
          | _, _ => .bad)
        | _, _ => .bad)
      | _, _ => .bad)
    | .builtin .copy => (match c.argTypes.toList, c.args.toList with
      | t :: _, [d, s] => (match P.underlying t with
        | some (.slice e) => (match P.info? e with
          | some i => .copy i.size (od d) (od s)
          | none => .bad)
        | _ => .bad)
      | _, _ => .bad)
    | .builtin .delete => (match c.argTypes.toList, c.args.toList with
      | t :: _, [m, k] => (match P.underlying t with
        | some (.map kt _) => (match keyT P kt with
          | some kk => .del kk (od m) (od k)
          | none => .bad)
        | _ => .bad)
      | _, _ => .bad)
    | .builtin .clear => (match c.argTypes.toList, c.args.toList with
      | [t], [m] => (match P.underlying t with
        | some (.map _ _) => .clrm (od m)
        | some (.slice e) => (match zeroRow P e, P.info? e with
          | some z, some i => cond (Nat.beq z.len i.size) (cond (Nat.beq z.len 0) .bad (.clrs i.size z (od m))) .bad
          | _, _ => .bad)
        | _ => .bad)
      | _, _ => .bad)
    | .builtin .max => (match c.args.toList with
      | [x, y] => .mx (od x) (od y)
      | _ => .bad)
    | .builtin .min => (match c.args.toList with
      | [x, y] => .mn (od x) (od y)
      | _ => .bad)
    | .builtin _ => .bad)
  | .range t x => (match P.underlying t with
    | some .string => .rng (od x)
    | _ => .bad)
  | _ => .bad

def compG (ops : Array Oper) (o : Oper) : Option (Option (Nat × Bool)) := match o.guard with
  | none => some none
  | some (j, w) => match (ops[j]?).bind (·.dst) with
    | some t => some (some (t, w))
    | none => none
def compO (ops : Array Oper) (o : Oper) : Option XOper := match compG ops o with
  | some g => some ⟨o.dst, compOp P o, g⟩
  | none => none
def compL (ops : Array Oper) : List Oper → Option (List XOper)
  | [] => some []
  | o :: l => match compO P ops o, compL ops l with
    | some x, some r => some (x :: r)
    | _, _ => none

/-! ### a region whose order is open -/
/-- 0: looks at no memory · 1: reads it · 2: lays a new block · 3: whatever else -/
def kindX : XOp → Nat
  | .mv _ | .pick _ _ _ | .build _ _ | .nck _ | .fla _ _ | .ixa _ _ _ _ | .ixs _ _ _ | .iag _ _ _ _ _ | .ist _ _ | .fld _ _ _ _
  | .eqa _ _ _ _ | .not _ | .neg _ | .xorn _ | .cvi _ _ | .cvs _ | .s2a _ _ | .mki _ _ | .tas _ _ | .mkf _ _ _ | .sls _ _ _ | .sla _ _ _ _ _ _
  | .ext _ _ | .capo _ | .mx _ _ | .mn _ _ => 0
  | .bin _ _ _ _ | .ld1 _ | .ldn _ _ | .b2s _ | .sll _ _ _ _ _ | .lkp _ _ _ _ _ | .len _ _ => 1
  | .alloc _ | .box _ | .bsl _ _ _ | .s2b _ | .mkm | .mks _ _ _ _ _ | .rng _ => 2
  | _ => 3
def odT : Od → List Nat
  | .tmp t => [t]
  | _ => []
def optT : Option Od → List Nat
  | some o => odT o
  | none => []
/-- the temporaries that an operation looks at -/
def readsX : XOp → List Nat
  | .bad | .alloc _ | .mkm => []
  | .mv x | .box x | .ld1 x | .ldn _ x | .nck x | .fla _ x | .fld _ _ _ x | .not x | .neg x | .xorn x | .cvi _ x | .cvs x | .s2b x | .b2s x | .s2a _ x | .mki _ x | .tas _ x
  | .ext x _ | .len _ x | .capo x | .clrm x | .clrs _ _ x | .rng x | .nxt x => odT x
  | .pick a b c => odT a ++ odT b ++ odT c
  | .build _ ps | .bsl _ _ ps => ps.flatMap fun p => odT p.2.2
  | .st _ a b | .ixa _ _ a b | .ixs _ a b | .iag _ _ _ a b | .ist a b | .bin _ _ a b | .eqa _ _ a b | .mks _ _ _ a b | .lkp _ _ _ a b | .app _ _ _ _ a b | .copy _ a b | .del _ a b | .mx a b | .mn a b => odT a ++ odT b
  | .mkf _ a b => a.flatMap odT ++ b.flatMap odT
  | .sls x l h => odT x ++ optT l ++ optT h
  | .sll _ x l h m | .sla _ _ x l h m => odT x ++ optT l ++ optT h ++ optT m
  | .mup _ a b c => odT a ++ odT b ++ odT c
  | .call f as => odT f ++ as.flatMap odT
def looks (o : XOper) : List Nat := readsX o.op ++ (match o.guard with
  | some (t, _) => [t]
  | none => [])
/-- 'j' comes ahead of 'i' in every order -/
def pre (b : List Nat) (j i : Nat) : Bool := (b.getD i 0).testBit j
/-- what an operation writes is looked at by one that does not come behind it -/
def late (X : List XOper) (b : List Nat) (i : Nat) (o : XOper) : Bool := match o.dst with
  | some d => (List.range X.length).any fun j => match X[j]? with
    | some p => !(Nat.beq j i) && (looks p).contains d && !(pre b i j)
    | none => false
  | none => false
/-- the effects: those that do more than read, and those whose writing must wait for who looks ahead of it -/
def effs (X : List XOper) (b : List Nat) : List Nat := (List.range X.length).filter fun i => match X[i]? with
  | some o => Nat.beq (kindX o.op) 3 || late X b i o
  | none => false
def lo (b E : List Nat) (i : Nat) : Nat := (E.filter fun e => pre b e i).length
def hi (b E : List Nat) (i : Nat) : Nat := (E.filter fun e => !(pre b i e)).length
def opAt (X : List XOper) (i : Nat) : XOper := match X[i]? with
  | some o => o
  | none => ⟨none, .bad, none⟩
/-- those that are looked at again behind effect k-1; those that are run there -/
def againL (X : List XOper) (b E : List Nat) (k : Nat) : List Nat := (List.range X.length).filter fun i => Nat.beq (kindX (opAt X i).op) 1 && Nat.blt (lo b E i) k && Nat.ble k (hi b E i)
def runL (X : List XOper) (b E : List Nat) (k : Nat) : List Nat := (List.range X.length).filter fun i => !(E.contains i) && Nat.beq (lo b E i) k
/-- the steps between the k-th effect and the next -/
def seg (X : List XOper) (b E : List Nat) (k : Nat) : List DStep := ((againL X b E k).map fun i => .again (opAt X i)) ++ ((runL X b E k).map fun i => .run (opAt X i))
def restOf (X : List XOper) (b E : List Nat) : List Nat → Nat → List (XOper × List DStep)
  | [], _ => []
  | e :: l, k => (opAt X e, seg X b E (k + 1)) :: restOf X b E l (k + 1)
/-- the place of an operation in the abstract run: 2k: between the effects k-1 and k; 2k+1: effect k -/
def placeE (i : Nat) : List Nat → Nat → Option Nat
  | [], _ => none
  | e :: l, m => cond (Nat.beq e i) (some m) (placeE i l (m + 1))
def keyX (b E : List Nat) (i : Nat) : Nat := match placeE i E 0 with
  | some m => 2 * m + 1
  | none => 2 * lo b E i
def ahead (b E : List Nat) (j i : Nat) : Bool := Nat.blt (keyX b E j) (keyX b E i) || (Nat.beq (keyX b E j) (keyX b E i) && Nat.blt j i)
/-- no operation waits for a later one; what comes ahead does so by an edge, or by an edge and what comes ahead of that -/
def okE (ops : Array Oper) (b : List Nat) : Bool := (List.range ops.size).all fun i => match ops[i]? with
  | some o => o.after.toList.all (fun e => !(Region.binds .any e) || Nat.blt e.on i) && (List.range ops.size).all fun j => !(pre b j i) || o.after.toList.any fun e => Region.binds .any e && (Nat.beq e.on j || pre b j e.on)
  | none => false
/-- no two write one temporary; whoever looks at what another one writes comes behind it in every order, and in the abstract run -/
def okW (X : List XOper) (b E : List Nat) : Bool := (List.range X.length).all fun j => match X[j]? with
  | some p => (match p.dst with
    | some d => (List.range X.length).all fun i => match X[i]? with
      | some o => (Nat.beq i j || (match o.dst with
          | some d' => !(Nat.beq d d')
          | none => true)) && (!((looks o).contains d) || (!(Nat.beq i j) && pre b j i && ahead b E j i) || (!(Nat.beq i j) && pre b i j && E.contains j))
      | none => true
    | none => true)
  | none => true
/-- the effects stand in a row -/
def okF (b : List Nat) : List Nat → Bool
  | [] => true
  | e :: l => l.all (fun e' => pre b e e') && okF b l
def okX (ops : Array Oper) (X : List XOper) (b E : List Nat) : Bool := okE ops b && okW X b E && okF b E
def compD (ops : Array Oper) : IR := match compL P ops ops.toList with
  | none => .bad
  | some X => cond (okX ops X (Region.before ops).toList (effs X (Region.before ops).toList))
    (.dreg (seg X (Region.before ops).toList (effs X (Region.before ops).toList) 0) (restOf X (Region.before ops).toList (effs X (Region.before ops).toList) (effs X (Region.before ops).toList) 0)) .bad

def compC : Code → IR
  | .skip => .skip
  | .region _ ops false => (match compL P ops ops.toList with
    | some l => .reg l
    | none => .bad)
  | .region _ ops true => compD P ops
  | .seq a b => .seq (compC a) (compC b)
  | .cond c a b => .cond (od c) (compC a) (compC b)
  | .block id c => .block id (compC c)
  | .loop c => .loop (compC c)
  | .rangeFunc f ps a b => .rfn (od f) ps.toList (compC a) (compC b)
  | .exit id => .exit id
  | .ret => .ret
  | _ => .bad

def compR : ResultVar → RV
  | .tmp t => .tmp t
  | .cell a t => .cell a (sizeT P t) (isAggT P t)
def okR : ResultVar → Bool
  | .tmp _ => true
  | .cell _ t => (P.underlying t).isSome && (P.info? t).isSome
def compF (f : Nat) : Option FT := match P.funcs[f]? with
  | none => none
  | some fn => cond (fn.name == "runtime.NumGoroutine") none (match fn.body with
    | some c => cond (fn.results.toList.all (okR P)) (some (.code ⟨fn.ntmps, fn.results.toList.map (compR P), compC P c⟩)) none
    | none => cond (fn.name == "maps.clone") (some .clone) none)
end
end Go.Jt
