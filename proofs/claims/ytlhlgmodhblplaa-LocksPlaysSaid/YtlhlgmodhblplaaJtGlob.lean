/-
  A package variable of three numbers that is listed as zero: what the condition tells of the world.
-/
import Derived.Test.YtlhlgmodhblplaaJtFast
import Derived.Deep.Strs
import Derived.LaidMore
import Derived.MakeChecks
set_option autoImplicit false
set_option linter.all false
namespace Go.Jt
open Go

def zrow3 : Rp AV := .cat 1 (.one (.int .i64 0)) (.cat 1 (.one (.int .i64 0)) (.one (.int .u64 0)))
/-- the one known variable -/
noncomputable abbrev gl3 (l : List Nat) : Gl := ⟨fun i => @Bool.rec (fun _ => Option (Rp AV)) none (some zrow3) (l.contains i)⟩
def isInt (P : Program) (k : IntKind) (t : TypeId) : Bool := match P.underlying t with
  | some (.int j) => Nat.beq (ikN j) (ikN k)
  | _ => false
theorem isInt_inv {P : Program} {k : IntKind} {t : TypeId} (h : isInt P k t = true) : P.underlying t = some (.int k) := by
  unfold isInt at h
  split at h
  · rename_i j hj; rw [hj, ikN_inj h]
  · cases h
def isPtr3 (P : Program) (t : TypeId) : Bool := match P.underlying t with
  | some (.struct fs) => (match fs.toList with
    | [a, b, c] => isInt P .i64 a.type && isInt P .i64 b.type && isInt P .u64 c.type && Nat.beq a.offset 0 && Nat.beq b.offset 1 && Nat.beq c.offset 2 && Nat.beq (P.cellsOf t) 3 && Nat.beq (P.cellsOf a.type) 1 && Nat.beq (P.cellsOf b.type) 1 && Nat.beq (P.cellsOf c.type) 1
    | _ => false)
  | _ => false
theorem isPtr3_inv {P : Program} {t : TypeId} (h : isPtr3 P t = true) : ∃ a b c, P.underlying t = some (.struct #[a, b, c]) ∧ P.underlying a.type = some (.int .i64) ∧ P.underlying b.type = some (.int .i64) ∧ P.underlying c.type = some (.int .u64) ∧
    a.offset = 0 ∧ b.offset = 1 ∧ c.offset = 2 ∧ P.cellsOf t = 3 ∧ P.cellsOf a.type = 1 ∧ P.cellsOf b.type = 1 ∧ P.cellsOf c.type = 1 := by
  unfold isPtr3 at h
  split at h
  · rename_i fs hfs
    split at h
    · rename_i a b c hl
      simp only [Bool.and_eq_true] at h
      obtain ⟨⟨⟨⟨⟨⟨⟨⟨⟨h1, h2⟩, h3⟩, h4⟩, h5⟩, h6⟩, h7⟩, h8⟩, h9⟩, h10⟩ := h
      refine ⟨a, b, c, ?_, isInt_inv h1, isInt_inv h2, isInt_inv h3, Nat.eq_of_beq_eq_true h4, Nat.eq_of_beq_eq_true h5, Nat.eq_of_beq_eq_true h6, Nat.eq_of_beq_eq_true h7, Nat.eq_of_beq_eq_true h8, Nat.eq_of_beq_eq_true h9, Nat.eq_of_beq_eq_true h10⟩
      rw [hfs, ← hl]
    · cases h
  · cases h
def zero3 : DataW Unit := .agg [.lit (.int .i64 0), .lit (.int .i64 0), .lit (.int .u64 0)]
theorem laid_mem {P : Program} {w : World} {n : String} {d : DataW Unit} : ∀ (laid : List (String × DataW Unit)) (ps : List MemPlace), DataW.LaidVars P w laid ps → (n, d) ∈ laid →
    ∃ g t cs fuel p, P.globalNamed n = some g ∧ (P.globals[g]?).map (·.type) = some t ∧ w.var? P n = some cs ∧ DataW.trod (fun _ => ()) P w 0 (fun _ => true) false fuel t cs.toList = some (d, p)
  | [], _, _, hm => by cases hm
  | (n', d') :: laid, ps, h, hm => by
    obtain ⟨g, t, cs, fuel, p, q, h1, h2, h3, h4, h5, h6⟩ := h
    rcases List.mem_cons.1 hm with e | hm
    · cases e
      exact ⟨g, t, cs, fuel, p, h1, h2, h3, h4⟩
    · exact laid_mem laid q h5 hm
theorem glob3 {P : Program} {W : World} {laid : List (String × DataW Unit)} {n : String} {g : Nat} {t : TypeId} (h : laidMetH P laid W) (hp : (laid.all fun x => x.2.handleName?.isNone) = true) (hm : (n, zero3) ∈ laid)
    (hg : P.globalNamed n = some g) (ht : (P.globals[g]?).map (·.type) = some t) (hs : isPtr3 P t = true) : ∃ el fr, W.heap[g]? = some (.cells #[.int .i64 0, .int .i64 0, .int .u64 0] el fr) := by
  rw [MakeChecks.laidMetH_plain _ _ _ hp] at h
  obtain ⟨ps, hl, _⟩ := h
  obtain ⟨g', t', cs, fuel, p, hg', ht', hv, hd⟩ := laid_mem laid ps hl hm
  obtain rfl := Option.some.inj (hg.symm.trans hg')
  obtain rfl := Option.some.inj (ht.symm.trans ht')
  obtain ⟨a, b, c, hst, ta, tb, tc, oa, ob, oc, sz, sa, sb, sc⟩ := isPtr3_inv hs
  obtain ⟨y0, y1, y2, m, hx, hlen, e0, e1, e2⟩ := Deep.trod_struct3 hst hd
  rw [sz] at hlen
  rw [oa, sa] at e0
  rw [ob, sb] at e1
  rw [oc, sc] at e2
  obtain ⟨n0, k0, x0, _⟩ := DataW.trod_int ta e0
  obtain ⟨n1, k1, x1, _⟩ := DataW.trod_int tb e1
  obtain ⟨n2, k2, x2, _⟩ := DataW.trod_int tc e2
  subst x0
  subst x1
  subst x2
  simp only [zero3, Prod.mk.injEq, DataW.agg.injEq, List.cons.injEq, DataW.lit.injEq, Lit.int.injEq, true_and, and_true] at hx
  obtain ⟨⟨z0, z1, z2⟩, _⟩ := hx
  subst z0
  subst z1
  subst z2
  have hcs : cs.toList = [.int .i64 0, .int .i64 0, .int .u64 0] := by
    revert hlen k0 k1 k2
    generalize cs.toList = l
    intro hlen k0 k1 k2
    match l, hlen with
    | [v0, v1, v2], _ =>
      simp at k0 k1 k2
      rw [k0, k1, k2]
  have hcs' : cs = #[.int .i64 0, .int .i64 0, .int .u64 0] := by
    rw [← Array.toList_inj, hcs]
  unfold World.var? at hv
  rw [hg] at hv
  simp only [Option.bind_some] at hv
  split at hv
  · rename_i c' el fr hh
    cases hv
    exact ⟨el, fr, by rw [hh, hcs']⟩
  · cases hv
theorem GlOK_three {W : World} {l : List Nat} (h : ∀ g ∈ l, ∃ el fr, W.heap[g]? = some (.cells #[.int .i64 0, .int .i64 0, .int .u64 0] el fr)) : @GlOK (gl3 l) W.heap.size W := by
  intro i r hr
  have hr' : @Bool.rec (fun _ => Option (Rp AV)) none (some zrow3) (l.contains i) = some r := hr
  cases hb : l.contains i with
  | false => rw [hb] at hr'; cases hr'
  | true =>
    rw [hb] at hr'
    cases hr'
    obtain ⟨el, fr, he⟩ := h i (by simpa using hb)
    have hlt : i < W.heap.size := (Array.getElem?_eq_some_iff.1 he).1
    refine ⟨hlt, _, el, fr, he, ⟨rfl, trivial, rfl, trivial, trivial⟩, rfl, fun ι j => ?_, fun j hj => ?_⟩
    · match j with
      | 0 => exact .int _ _
      | 1 => exact .int _ _
      | 2 => exact .int _ _
      | j + 3 =>
        have e1 : (zrow3.toL.getD (j + 3) AV.undef) = .undef := by
          show ([AV.int .i64 0, .int .i64 0, .int .u64 0] : List AV).getD (j + 3) .undef = .undef
          simp
        rw [e1]; exact .undef _
    · match j, hj with
      | 0, _ => rfl
      | 1, _ => rfl
      | 2, _ => rfl
end Go.Jt
