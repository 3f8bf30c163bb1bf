/-
  The law jettylaw18.LocksPlays holds: for every row of steps its function hands back true and leaves its arguments as they were; no conditions.
-/
import Derived.Test.YtlhlgmodhblplaaRows
import Derived.Test.YtlhlgmodhblplaaJtLocksPlays
import Derived.Test.YtlhlgmodhblplaaJtLi
import Derived.Test.YtlhlgmodhblplaaJtFast
import Derived.WalkKit
import Derived.ProofKit
import Derived.OpenShut

set_option linter.all false
namespace Go.Proofs.Ytlhlgmodhblplaa.locksPlays
open Go.ChangeShapes Go.ChangeMaps Go.WideShapes Go.ChangeAt Go.RowKit

theorem own : ownKnob Try.prog.godebug = none := by kernel_rfl
theorem mixed : Try.prog.follows .mixedOrders = true := by kernel_rfl
theorem laidOut : laidOutB Try.prog = true := by kernel_rfl
instance noVars : Go.Jt.Gl := ⟨fun _ => none⟩
instance numsK : Go.Jt.LkN where
  new := 24
  ask := 25
  drop := 27
  has := 29
  row := 30
  con := 43
  ask1 := 44
  find := 45
  clo := 46
  may := 47
  each := 48
  drop1 := 49
  row1 := 50
  idx := 65
  find1 := 66
  may1 := 67
  clash := 68
instance numsF : Go.Jt.LfN where
  long := 22
  given := 26
  clash := 28
  law := 6
  awake := 23
instance numsP : Go.Jt.LpN where
  dcopy := 32
  dask := 52
  ddrop := 53
  drow := 54
  dhas := 55
  dat := 69
  dmay := 70
  same := 35
  copy := 31
  copy1 := 51
  do_ := 33
  like := 34
  law := 7
theorem awakeRun : Go.Jt.RUNF (Go.Jt.tblO Try.prog []) 100000 (99 + 1) (.fn (.fn (.func 23)) [] []) [] ⟨.lf, 0⟩ (fun v _ => Go.Jt.same1 v (.bool true)) = true := by kernel_rfl
theorem awakeCode : Go.Jt.isCode Try.prog 23 = true := by kernel_rfl
theorem awakeCall (w : World) (hg : Go.Jt.GlOK w.heap.size w) : Calls Try.prog 23 #[] w fun e w' => e = .returned (.bool true) ∧ Below w.heap.size w w' :=
  Go.Jt.closed_lawG mixed .nil awakeCode rfl awakeRun w hg
theorem ovs : Go.Jt.OvS Try.prog [(23, .sum Go.Jt.sumTrue)] := .sum 23 _ _ (Go.Jt.sumTrue_sound awakeCode awakeCall) .nil
noncomputable abbrev tb : Nat → Option Go.Jt.FT := Go.Jt.tblO Try.prog [(23, .sum Go.Jt.sumTrue)]
theorem lawIR : Go.Jt.compF Try.prog 7 = some (.code Go.Jt.ir_elaw) := by kernel_rfl
theorem codeK : Go.Jt.LkT tb where
  new := by kernel_rfl
  ask := by kernel_rfl
  drop := by kernel_rfl
  has := by kernel_rfl
  row := by kernel_rfl
  con := by kernel_rfl
  ask1 := by kernel_rfl
  find := by kernel_rfl
  clo := by kernel_rfl
  may := by kernel_rfl
  each := by kernel_rfl
  drop1 := by kernel_rfl
  row1 := by kernel_rfl
  idx := by kernel_rfl
  find1 := by kernel_rfl
  may1 := by kernel_rfl
  clash := by kernel_rfl
theorem codeF : Go.Jt.LfT tb where
  long := by kernel_rfl
  given := by kernel_rfl
  clash := by kernel_rfl
  law := by kernel_rfl
theorem codeP : Go.Jt.LpT tb where
  dcopy := by kernel_rfl
  dask := by kernel_rfl
  ddrop := by kernel_rfl
  drow := by kernel_rfl
  dhas := by kernel_rfl
  dat := by kernel_rfl
  dmay := by kernel_rfl
  same := by kernel_rfl
  copy := by kernel_rfl
  copy1 := by kernel_rfl
  do_ := by kernel_rfl
  like := by kernel_rfl
  law := by kernel_rfl
theorem awakeT : tb 23 = some (.sum Go.Jt.sumTrue) := by kernel_rfl

theorem cells_one {W : World} {r : Reach} {b : Nat} {t e : TypeId} {v : Value} (ht : Try.prog.underlying t = some (.slice e)) (h : Value.okWide Try.prog W r b t v) : v.cells.toList = [v] := by
  cases v <;> simp [Value.okWide, Cell.okWide, Cell.ok, ht] at h <;> rfl
theorem walk {H : Type} {enc : TypeId × Value → H} (v : Value) (W : World) (n : Nat) (x : DataW H × List MemPlace) (h : DataW.trod enc Try.prog W 0 (fun _ => true) true n 42 [v] = some x) (hz : W.noneFrozen x.2) :
    Calls Try.prog 7 #[v] W fun e w' => e = .returned (.bool true) ∧ Below W.heap.size W w' := by
  have hew : Go.Jt.Elem enc Try.prog W 95 [3, 4] := Go.Jt.elem_struct Try.underlying95 (by kernel_rfl) (by kernel_rfl)
  have how : Go.Jt.Opn enc Try.prog W 48 (.sl 2 Go.Jt.wantG) := Go.Jt.opn_slice (tys := [3, 4]) Try.underlying48 hew (by decide) fun j u hj => by
    match j, hj with
    | 0, hj => simp at hj; subst hj; exact Go.Jt.opn_int Try.underlying3
    | 1, hj => simp at hj; subst hj; exact Go.Jt.opn_bool Try.underlying4
  have hel : Go.Jt.Elem enc Try.prog W 50 [5, 3, 48] := Go.Jt.elem_struct Try.underlying50 (by kernel_rfl) (by kernel_rfl)
  have ho : Go.Jt.Opn enc Try.prog W 42 (.sl 3 Go.Jt.stepG) := Go.Jt.opn_slice (tys := [5, 3, 48]) Try.underlying42 hel (by decide) fun j u hj => by
    match j, hj with
    | 0, hj => simp at hj; subst hj; exact Go.Jt.opn_int Try.underlying5
    | 1, hj => simp at hj; subst hj; exact Go.Jt.opn_int Try.underlying3
    | 2, hj => simp at hj; subst hj; exact how
  obtain ⟨ws, a, hw, hv, _, hk⟩ := ho n v x [] h hz (Go.Jt.WOK.nil W)
  rw [List.nil_append] at hw hv hk
  obtain ⟨n0, kd, tk, lv, lw, hx, hlv⟩ := Go.Jt.step_rows hk
  refine Go.Jt.open_lawW (N := 100000) (f := 98) mixed (Go.Jt.tblO_sound ovs) lawIR codeP.law hw (args := [a]) ⟨rfl, fun i => ?_⟩ (Q := fun _ => True) (fun hs => ?_) (Go.Jt.GlOK_none _ _)
  · match i with
    | 0 => exact hv
    | i + 1 => exact .undef _
  · exact Go.Jt.law_lp (N := 100000) (d := 99) codeP codeK codeF awakeT (by omega) hs hx hlv (by omega)

set_option maxRecDepth 100000 in
theorem lifted (os : Os) (started : os.Started) (H : Type) (enc : TypeId × Value → H) :
    ReturnsInHanded {} Try.checked os 7 .any (Rows.locksPlaysSpec.pre6 enc Try.prog Try.f7 Rows.locksPlaysRow.domain false) (Rows.locksPlaysSpec.post enc Try.prog Try.f7 false true false false) := by
  refine returnsInHanded_of_change (C := Try.checked) own started (by kernel_rfl) Try.func7
    (ChangeSpec.witness6 (enc := enc) (C := Try.checked) false ⟨#[], #[.slice none 0 0], []⟩ 8 (by kernel_rfl) (by kernel_rfl) (by kernel_rfl) (by kernel_rfl)) ?_
  intro W base args ds gs before hval0 hW hcnd _
  have hval : ∀ (j : Nat) t v, Try.f7.params[j]? = some t → args[j]? = some v → Value.okWide Try.prog W .any base t v := hval0
  have hlt : ∀ p ∈ before, p.block < W.heap.size := fun p hp => by simpa using hW.lt p hp
  have hW' := hW
  obtain ⟨p, q, hA0, hV, rfl, hfz, hnd⟩ := hW
  have hA1 : DataW.TrodAll enc Try.prog W 0 (fun _ => true) true Try.f7.params.toList args.toList ds p := hA0
  have hA := hA1
  rw [Try.params7] at hA hval
  obtain ⟨v0, d0, rfl, rfl, h0⟩ := trodAll_one hA
  obtain ⟨rfl, rfl⟩ := trodVars_none hV
  obtain ⟨n, h0'⟩ := h0
  rw [cells_one Try.underlying42 (hval 0 42 v0 rfl rfl)] at h0'
  simp only [List.append_nil, List.nil_append] at hW' hfz hlt hA1
  refine (walk v0 W n _ h0' hfz).mono fun e W' ⟨he, bel⟩ => ?_
  subst he
  have hargs := Go.Jt.trodAll_below laidOut bel _ _ _ _ (by rw [Try.params7]; intro t ht; simp at ht; subst ht; exact ⟨by kernel_rfl, of_decide_eq_true (by kernel_rfl)⟩) hA1 hlt
  exact ⟨_, rfl, _, _, _, [], _, [], hW', trodAll_cons_mk (shut_bool Try.underlying4 _) trodAll_mk0, hargs, rfl, bel.frame _, fun h => by cases h⟩

theorem over : Rows.locksPlaysRow.holds Try.pinned (OpenSpec.ofChange Rows.locksPlaysSpec) :=
  OpenClaim.holds_of_wide 7 Try.f7 rfl rfl rfl rfl rfl rfl rfl ⟨rfl, rfl, rfl, rfl, rfl⟩ rfl rfl rfl rfl rfl (by kernel_rfl) Try.func7 (by kernel_rfl)
    (of_decide_eq_true (by kernel_rfl)) (by unfold Func.isWrapper; first | (rw [if_pos (by decide +kernel)]; kernel_rfl) | (rw [if_neg (by decide +kernel)]; exact ⟨rfl, rfl⟩))
    (fun os started H enc _ => lifted os started H enc)

theorem proved : Rows.LocksPlaysSaid :=
  over
end Go.Proofs.Ytlhlgmodhblplaa.locksPlays
