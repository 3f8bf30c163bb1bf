/-
  The law jettylaw10.SpaceOnce holds: for every number of blocks and every row of steps its function hands back true and leaves its arguments as they were; no conditions.
-/
import Derived.Test.YtlhlgmodhblplaaRows
import Derived.Test.YtlhlgmodhblplaaJtSpaceOnce
import Derived.Test.YtlhlgmodhblplaaJtSpace4
import Derived.WalkKit
import Derived.ProofKit
import Derived.OpenShut
set_option linter.all false
namespace Go.Proofs.Ytlhlgmodhblplaa.spaceOnce
open Go.ChangeShapes Go.WideShapes Go.ChangeAt Go.RowKit

theorem own : ownKnob Try.prog.godebug = none := by kernel_rfl
theorem mixed : Try.prog.follows .mixedOrders = true := by kernel_rfl
theorem laidOut : laidOutB Try.prog = true := by kernel_rfl
instance noVars : Go.Jt.Gl := ⟨fun _ => none⟩
instance nums : Go.Jt.SoN where
  new := 12
  take := 13
  give := 14
  mark := 15
  settle := 16
  back := 17
  taken := 18
  waits := 19
  free := 20
  put := 40
  is_ := 41
  turn := 42
  all := 64
  all1 := 72
  law := 4
  awake := 11
theorem awakeRun : Go.Jt.RUNF (Go.Jt.tblO Try.prog []) 100000 (99 + 1) (.fn (.fn (.func 11)) [] []) [] ⟨.lf, 0⟩ (fun v _ => Go.Jt.same1 v (.bool true)) = true := by kernel_rfl
theorem awakeCode : Go.Jt.isCode Try.prog 11 = true := by kernel_rfl
theorem awakeCall (w : World) (hg : Go.Jt.GlOK w.heap.size w) : Calls Try.prog 11 #[] w fun e w' => e = .returned (.bool true) ∧ Below w.heap.size w w' :=
  Go.Jt.closed_lawG mixed .nil awakeCode rfl awakeRun w hg
theorem ovs : Go.Jt.OvS Try.prog [(11, .sum Go.Jt.sumTrue)] := .sum 11 _ _ (Go.Jt.sumTrue_sound awakeCode awakeCall) .nil
noncomputable abbrev tb : Nat → Option Go.Jt.FT := Go.Jt.tblO Try.prog [(11, .sum Go.Jt.sumTrue)]
theorem lawIR : Go.Jt.compF Try.prog 4 = some (.code Go.Jt.ir_slaw) := by kernel_rfl
theorem code : Go.Jt.SoT tb where
  new := by kernel_rfl
  take := by kernel_rfl
  give := by kernel_rfl
  mark := by kernel_rfl
  settle := by kernel_rfl
  back := by kernel_rfl
  taken := by kernel_rfl
  waits := by kernel_rfl
  free := by kernel_rfl
  put := by kernel_rfl
  is_ := by kernel_rfl
  turn := by kernel_rfl
  all := by kernel_rfl
  all1 := by kernel_rfl
  law := by kernel_rfl
theorem cells_one {W : World} {r : Reach} {b : Nat} {t e : TypeId} {v : Value} (ht : Try.prog.underlying t = some (.slice e)) (h : Value.okWide Try.prog W r b t v) : v.cells.toList = [v] := by
  cases v <;> simp [Value.okWide, Cell.okWide, Cell.ok, ht] at h <;> rfl

theorem walk {H : Type} {enc : TypeId × Value → H} (z : Int) (v : Value) (W : World) (n : Nat) (x : DataW H × List MemPlace) (h : DataW.trod enc Try.prog W 0 (fun _ => true) true n 25 [v] = some x) (hz : W.noneFrozen x.2) :
    Calls Try.prog 4 #[.int .i64 z, v] W fun e w' => e = .returned (.bool true) ∧ Below W.heap.size W w' := by
  have hel : Go.Jt.Elem enc Try.prog W 34 [5, 3] := Go.Jt.elem_struct Try.underlying34 (by kernel_rfl) (by kernel_rfl)
  have ho : Go.Jt.Opn enc Try.prog W 25 (.sl 2 Go.Jt.opG) := Go.Jt.opn_slice (tys := [5, 3]) Try.underlying25 hel (by decide) fun j u hj => by
    match j, hj with
    | 0, hj => simp at hj; subst hj; exact Go.Jt.opn_int Try.underlying5
    | 1, hj => simp at hj; subst hj; exact Go.Jt.opn_int Try.underlying3
  obtain ⟨ws, a, hw, hv, _, hk⟩ := ho n v x [] h hz (Go.Jt.WOK.nil W)
  rw [List.nil_append] at hw hv hk
  obtain ⟨n0, kd, nn, hx⟩ := Go.Jt.op_rows hk
  refine Go.Jt.open_lawW (N := 100000) (f := 98) mixed (Go.Jt.tblO_sound ovs) lawIR code.law hw (args := [.int .i64 z, a]) ⟨rfl, fun i => ?_⟩ (Q := fun _ => True) (fun hs => ?_) (Go.Jt.GlOK_none _ _)
  · match i with
    | 0 => exact .int _ _
    | 1 => exact hv
    | i + 2 => exact .undef _
  · exact Go.Jt.law_ok (N := 100000) (d := 99) code (by kernel_rfl) (by omega) hs (by omega) hx

set_option maxRecDepth 100000 in
theorem lifted (os : Os) (started : os.Started) (H : Type) (enc : TypeId × Value → H) :
    ReturnsInHanded {} Try.checked os 4 .any (Rows.spaceOnceSpec.pre6 enc Try.prog Try.f4 Rows.spaceOnceRow.domain false) (Rows.spaceOnceSpec.post enc Try.prog Try.f4 false true false false) := by
  refine returnsInHanded_of_change (C := Try.checked) own started (by kernel_rfl) Try.func4
    (ChangeSpec.witness6 (enc := enc) (C := Try.checked) false ⟨#[], #[.int .i64 0, .slice none 0 0], []⟩ 8 (by kernel_rfl) (by kernel_rfl) (by kernel_rfl) (by kernel_rfl)) ?_
  intro W base args ds gs before hval0 hW hcnd _
  have hval : ∀ (j : Nat) t v, Try.f4.params[j]? = some t → args[j]? = some v → Value.okWide Try.prog W .any base t v := hval0
  have hlt : ∀ p ∈ before, p.block < W.heap.size := fun p hp => by simpa using hW.lt p hp
  have hW' := hW
  obtain ⟨p, q, hA0, hV, rfl, hfz, hnd⟩ := hW
  have hA1 : DataW.TrodAll enc Try.prog W 0 (fun _ => true) true Try.f4.params.toList args.toList ds p := hA0
  have hA := hA1
  rw [Try.params4] at hA hval
  obtain ⟨v0, v1, d0, d1, p0, p1, rfl, rfl, rfl, h0, h1⟩ := trodAll_two hA
  obtain ⟨rfl, rfl⟩ := trodVars_none hV
  obtain ⟨z, rfl, rfl, rfl, wz⟩ := open_int Try.underlying3 (hval 0 3 v0 rfl rfl) h0
  obtain ⟨n, h1'⟩ := h1
  rw [cells_one Try.underlying25 (hval 1 25 v1 rfl rfl)] at h1'
  simp only [List.append_nil, List.nil_append] at hW' hfz hlt hA1
  refine (walk z v1 W n _ h1' hfz).mono fun e W' ⟨he, bel⟩ => ?_
  subst he
  have hargs := Go.Jt.trodAll_below laidOut bel _ _ _ _ (by rw [Try.params4]; intro t ht; simp at ht; rcases ht with rfl | rfl <;> exact ⟨by kernel_rfl, of_decide_eq_true (by kernel_rfl)⟩) hA1 hlt
  exact ⟨_, rfl, _, _, _, [], _, [], hW', trodAll_cons_mk (shut_bool Try.underlying4 _) trodAll_mk0, hargs, rfl, bel.frame _, fun h => by cases h⟩

theorem over : Rows.spaceOnceRow.holds Try.pinned (OpenSpec.ofChange Rows.spaceOnceSpec) :=
  OpenClaim.holds_of_wide 4 Try.f4 rfl rfl rfl rfl rfl rfl rfl ⟨rfl, rfl, rfl, rfl, rfl⟩ rfl rfl rfl rfl rfl (by kernel_rfl) Try.func4 (by kernel_rfl)
    (of_decide_eq_true (by kernel_rfl)) (by unfold Func.isWrapper; first | (rw [if_pos (by decide +kernel)]; kernel_rfl) | (rw [if_neg (by decide +kernel)]; exact ⟨rfl, rfl⟩))
    (fun os started H enc _ => lifted os started H enc)

theorem proved : Rows.SpaceOnceSaid :=
  over
end Go.Proofs.Ytlhlgmodhblplaa.spaceOnce
