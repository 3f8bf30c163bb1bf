/-
  The abstract domain: values, operations, code and heap of an abstract run (no tape, no capacities, no order left open), and how they stand to the model's values and worlds: by a renaming of blocks.
-/
import Derived.Test.YtlhlgmodhblplaaJtRope
import Derived.RangeFuncLeaves
import Derived.RangeFuncCalls
import Derived.OrdersIn
import Derived.KernelRfl
import Derived.Below
set_option autoImplicit false
set_option linter.all false
namespace Go.Jt
open Go.RowKit (Below)
noncomputable section

/-- a function value's function: one that the program names, or the body of a range over a function -/
inductive AFn where
  | fn (f : Fn)
  | yld (l : Nat)

inductive AV where
  | undef
  | int (k : IntKind) (n : Int)
  | bool (b : Bool)
  | str (s : List Nat)
  | nilp
  | ptr (b off : Nat)
  | nils
  | slc (b off len cap : Nat)
  | slu (b off len es : Nat)
  | slz (b off es : Nat)
  | nilm
  | map (r : Nat)
  | nilf
  | fn (f : AFn) (first cap : List AV)
  | nili
  | ifc (t : TypeId) (v : AV)
  | agg (r : Rp AV)
  | tup (vs : List AV)

/-- one cell's value -/
def AV.sc : AV → Bool
  | .undef | .agg _ | .tup _ => false
  | _ => true

/-- where an abstract block lies: the model's block, how many cells ahead of it, how many cells that block has -/
structure Loc where
  blk : Nat
  sh : Nat
  sz : Nat

abbrev Io := Nat → Option Loc
def Io.le (i j : Io) : Prop := ∀ b L, i b = some L → j b = some L

def bytesOf (s : ByteArray) : List Nat := s.data.toList.map (·.toNat)

inductive FR (ι : Io) : AFn → Fn → Prop
  | fn (f : Fn) (h : ∀ l, f ≠ .yield l) : FR ι (.fn f) f
  | yld (l : Nat) (L : Loc) (h : ι l = some L) : FR ι (.yld l) (.yield L.blk)

inductive VR (ι : Io) : AV → Value → Prop
  | undef (v : Value) : VR ι .undef v
  | int (k : IntKind) (n : Int) : VR ι (.int k n) (.int k n)
  | bool (b : Bool) : VR ι (.bool b) (.bool b)
  | str (s : ByteArray) : VR ι (.str (bytesOf s)) (.string s)
  | nilp : VR ι .nilp (.pointer none)
  | ptr (b off : Nat) (L : Loc) (h : ι b = some L) : VR ι (.ptr b off) (.pointer (some ⟨L.blk, L.sh + off, none⟩))
  | nils : VR ι .nils (.slice none 0 0)
  | slc (b off len cap : Nat) (L : Loc) (h : ι b = some L) (hl : len ≤ cap) : VR ι (.slc b off len cap) (.slice (some ⟨L.blk, L.sh + off, none⟩) len cap)
  | slu (b off len es cap : Nat) (L : Loc) (h : ι b = some L) (hl : len ≤ cap) (he : 0 < es) (hc : L.sh + off + cap * es = L.sz) : VR ι (.slu b off len es) (.slice (some ⟨L.blk, L.sh + off, none⟩) len cap)
  | slz (b off es o cap : Nat) (L : Loc) (h : ι b = some L) (he : 0 < es) (hc : cap = 0 ∨ (o = L.sh + off ∧ L.sh + off + cap * es = L.sz)) : VR ι (.slz b off es) (.slice (some ⟨L.blk, o, none⟩) 0 cap)
  | slz0 (a : Addr) : VR ι (.slz 0 0 0) (.slice (some a) 0 0)
  | nilm : VR ι .nilm (.map none)
  | map (r : Nat) (L : Loc) (h : ι r = some L) : VR ι (.map r) (.map (some L.blk))
  | nilf : VR ι .nilf .nilFunc
  | fn (f : AFn) (f' : Fn) (first cap : List AV) (first' cap' : Array Value) (hf : FR ι f f') (h1 : first.length = first'.size) (h2 : ∀ i, VR ι (first.getD i .undef) (first'.getD i Go.undef))
      (h3 : cap.length = cap'.size) (h4 : ∀ i, VR ι (cap.getD i .undef) (cap'.getD i Go.undef)) : VR ι (.fn f first cap) (.func f' first' cap')
  | nili : VR ι .nili .nilIface
  | ifc (t : TypeId) (v : AV) (v' : Value) (h : VR ι v v') : VR ι (.ifc t v) (.iface t v')
  | agg (r : Rp AV) (cs : Array Value) (ho : r.ok) (hl : r.toL.length = cs.size) (h : ∀ i, VR ι (r.toL.getD i .undef) (cs.getD i Go.undef)) (h1 : ∀ i, i < cs.size → (cs.getD i Go.undef).oneCell' = true) : VR ι (.agg r) (.agg cs)
  | tup (vs : List AV) (vs' : Array Value) (hl : vs.length = vs'.size) (h : ∀ i, VR ι (vs.getD i .undef) (vs'.getD i Go.undef)) : VR ι (.tup vs) (.tuple vs')

theorem FR.mono {ι ι' : Io} (hle : ι.le ι') {f : AFn} {f' : Fn} (h : FR ι f f') : FR ι' f f' := by
  cases h with
  | fn _ h => exact .fn _ h
  | yld l L h => exact .yld l L (hle _ _ h)
theorem VR.mono {ι ι' : Io} (hle : ι.le ι') {v : AV} {v' : Value} (h : VR ι v v') : VR ι' v v' := by
  induction h with
  | undef v => exact .undef v
  | int k n => exact .int k n
  | bool b => exact .bool b
  | str s => exact .str s
  | nilp => exact .nilp
  | ptr b off L h => exact .ptr b off L (hle _ _ h)
  | nils => exact .nils
  | slc b off len cap L h hl => exact .slc b off len cap L (hle _ _ h) hl
  | slu b off len es cap L h hl he hc => exact .slu b off len es cap L (hle _ _ h) hl he hc
  | slz b off es o cap L h he hc => exact .slz b off es o cap L (hle _ _ h) he hc
  | slz0 a => exact .slz0 a
  | nilm => exact .nilm
  | map r L h => exact .map r L (hle _ _ h)
  | nilf => exact .nilf
  | fn f f' first cap first' cap' hf h1 h2 h3 h4 ih2 ih4 => exact .fn f f' first cap first' cap' (hf.mono hle) h1 ih2 h3 ih4
  | nili => exact .nili
  | ifc t v v' h ih => exact .ifc t v v' ih
  | agg r cs ho hl h h1 ih => exact .agg r cs ho hl ih h1
  | tup vs vs' hl h ih => exact .tup vs vs' hl ih
theorem VR.slz_inv {ι : Io} {b off es : Nat} {v : Value} (h : VR ι (.slz b off es) v) (he : 0 < es) : ∃ o cap L, v = .slice (some ⟨L.blk, o, none⟩) 0 cap ∧ ι b = some L ∧ (cap = 0 ∨ (o = L.sh + off ∧ L.sh + off + cap * es = L.sz)) := by
  generalize hx : AV.slz b off es = x at h
  cases h <;> try (cases hx; done)
  · cases hx; rename_i o cap L h2 hc he2; exact ⟨o, cap, L, rfl, h2, he2⟩
  · cases hx; omega
theorem VR.one {ι : Io} {v : AV} {v' : Value} (h : VR ι v v') (hs : v.sc = true) : v'.oneCell' = true := by
  cases h <;> first | rfl | (cases hs)

theorem Io.le_refl (i : Io) : i.le i := fun _ _ h => h
theorem Io.le_trans {i j k : Io} (h : i.le j) (h' : j.le k) : i.le k := fun b L e => h' _ _ (h _ _ e)

/-! ### operations and code, with what they need of the program's tables laid beside them -/
inductive Od where
  | tmp (t : Nat)
  | cst (v : AV)
  | bad

inductive XOp where
  | bad
  | mv (x : Od)
  | pick (c a b : Od)
  | alloc (z : Rp AV)
  | box (x : Od)
  | build (z : Rp AV) (parts : List (Nat × Nat × Od))
  | bsl (n : Nat) (z : Rp AV) (parts : List (Nat × Nat × Od))
  | ld1 (a : Od)
  | ldn (n : Nat) (a : Od)
  | st (n : Nat) (a x : Od)
  | nck (x : Od)
  | fla (off : Nat) (x : Od)
  | ixa (len es : Nat) (x i : Od)
  | ixs (es : Nat) (x i : Od)
  | iag (len es : Nat) (isAgg : Bool) (x i : Od)
  | ist (x i : Od)
  | fld (off n : Nat) (isAgg : Bool) (x : Od)
  | bin (op : BinOp) (ek : Nat) (x y : Od)
  | eqa (neg : Bool) (sh : List Nat) (x y : Od)
  | not (x : Od)
  | neg (x : Od)
  | xorn (x : Od)
  | cvi (k : IntKind) (x : Od)
  | cvs (x : Od)
  | s2b (x : Od)
  | b2s (x : Od)
  | s2a (n : Nat) (x : Od)
  | mki (t : TypeId) (x : Od)
  | tas (t : TypeId) (x : Od)
  | mkf (f : AFn) (first cap : List Od)
  | mkm
  | mks (es bytes : Nat) (z : Rp AV) (l c : Od)
  | sls (x : Od) (lo hi : Option Od)
  | sll (es : Nat) (x : Od) (lo hi mx : Option Od)
  | sla (n es : Nat) (x : Od) (lo hi mx : Option Od)
  | lkp (zero : AV) (ok : Bool) (kk : Nat) (m k : Od)
  | mup (kk : Nat) (m k x : Od)
  | ext (x : Od) (i : Nat)
  | len (lk : Nat) (x : Od)
  | capo (x : Od)
  | app (es bytes : Nat) (z : Rp AV) (zm : Bool) (s x : Od)
  | copy (es : Nat) (d s : Od)
  | del (kk : Nat) (m k : Od)
  | clrm (m : Od)
  | clrs (es : Nat) (z : Rp AV) (s : Od)
  | mx (x y : Od)
  | mn (x y : Od)
  | call (f : Od) (args : List Od)
  | rng (x : Od)
  | nxt (x : Od)

/-- what is written, what is done, under which guard (a temporary, and what it must hold) -/
structure XOper where
  dst : Option Nat
  op : XOp
  guard : Option (Nat × Bool)

/-- a step of a region whose order is open: an operation done, or one that only reads looked at again -/
inductive DStep where
  | run (o : XOper)
  | again (o : XOper)

inductive IR where
  | skip
  | bad
  | reg (ops : List XOper)
  | dreg (first : List DStep) (rest : List (XOper × List DStep))
  | seq (a b : IR)
  | cond (c : Od) (a b : IR)
  | block (id : Nat) (c : IR)
  | loop (c : IR)
  | exit (id : Nat)
  | ret
  | rfn (f : Od) (ps : List Nat) (asg body : IR)

inductive RV where
  | tmp (t : Nat)
  | cell (t : Nat) (n : Nat) (isAgg : Bool)

structure FnIR where
  ntmps : Nat
  results : List RV
  body : IR

/-! ### the abstract heap -/
inductive LSt where
  | ready | busy | done | exhausted
inductive Ex where
  | normal
  | exit (id : Nat)
  | ret
structure ALoop where
  state : LSt
  pending : Option Ex
  tmps : List AV
  params : List Nat
  asg : IR
  body : IR
  defers : Nat

inductive AObj where
  | cells (a : Rp AV) (str ro : Bool)
  | mp (es : List (AV × AV × Nat)) (clock : Nat)
  | lp (l : ALoop)
  | dfd (open_ : Bool)
  | sit (s : List Nat) (pos : Nat)

structure AH where
  m : T AObj
  n : Nat

def AH.get (H : AH) (b : Nat) : Option AObj := H.m.get b
def AH.new (H : AH) (o : AObj) : AH := ⟨H.m.upd H.n (some o), H.n + 1⟩
def AH.set (H : AH) (b : Nat) (o : AObj) : AH := ⟨H.m.upd b (some o), H.n⟩
def AH.kill (H : AH) (b : Nat) : AH := ⟨H.m.upd b none, H.n⟩
theorem AH.get_new (H : AH) (o : AObj) (b : Nat) : (H.new o).get b = if b = H.n then some o else H.get b := T.get_upd _ _ _ _
theorem AH.get_set (H : AH) (c : Nat) (o : AObj) (b : Nat) : (H.set c o).get b = if b = c then some o else H.get b := T.get_upd _ _ _ _
theorem AH.get_kill (H : AH) (c : Nat) (b : Nat) : (H.kill c).get b = if b = c then none else H.get b := T.get_upd _ _ _ _
theorem AH.n_new (H : AH) (o : AObj) : (H.new o).n = H.n + 1 := rfl
theorem AH.n_set (H : AH) (c : Nat) (o : AObj) : (H.set c o).n = H.n := rfl
theorem AH.n_kill (H : AH) (c : Nat) : (H.kill c).n = H.n := rfl

end
end Go.Jt
