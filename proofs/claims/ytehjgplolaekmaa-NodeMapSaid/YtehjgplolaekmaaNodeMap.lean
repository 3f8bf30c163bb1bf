/-
  The law jettylaw12.NodeMap holds: for every row of acts its function hands back true and leaves its arguments as they were; no conditions.
-/
import Derived.Test.YtehjgplolaekmaaRows
import Derived.Test.YtehjgplolaekmaaJtNodeMap
import Derived.Test.YtehjgplolaekmaaJtNm
import Derived.Test.YtehjgplolaekmaaJtFast
import Derived.WalkKit
import Derived.ProofKit
import Derived.OpenShut

set_option linter.all false
namespace Go.Proofs.Ytehjgplolaekmaa.nodeMap
open Go.ChangeShapes Go.ChangeMaps Go.WideShapes Go.ChangeAt Go.RowKit

theorem own : ownKnob Try.prog.godebug = none := by kernel_rfl
theorem mixed : Try.prog.follows .mixedOrders = true := by kernel_rfl
theorem laidOut : laidOutB Try.prog = true := by kernel_rfl
instance noVars : Go.Jt.Gl := ⟨fun _ => none⟩
instance numsB : Go.Jt.BkN where
  enc := 55
  may := 97
  word := 98
  dec := 99
  number := 126
instance numsD : Go.Jt.NdN where
  key := 69
  form1 := 94
  form2 := 95
  idxS := 124
  idxP := 125
  conS := 93
  conP := 96
  form := 53
  size := 19
  may := 15
  where_ := 52
instance numsV : Go.Jt.HvN where
  cloS := 90
  cloP := 105
  groS := 106
  groP := 107
  conS := 70
  conP := 71
  part := 67
  own := 68
  cut := 29
  join := 30
instance numsP : Go.Jt.PtN where
  idx := 92
  sch1 := 121
  sch := 120
  schS := 89
  put := 48
  del := 49
  get := 50
  ins := 91
instance numsL : Go.Jt.MlN where
  law := 9
  awake := 12
theorem awakeRun : Go.Jt.RUNF (Go.Jt.tblO Try.prog []) 100000 (99 + 1) (.fn (.fn (.func 12)) [] []) [] ⟨.lf, 0⟩ (fun v _ => Go.Jt.same1 v (.bool true)) = true := by kernel_rfl
theorem awakeCode : Go.Jt.isCode Try.prog 12 = true := by kernel_rfl
theorem awakeCall (w : World) (hg : Go.Jt.GlOK w.heap.size w) : Calls Try.prog 12 #[] w fun e w' => e = .returned (.bool true) ∧ Below w.heap.size w w' :=
  Go.Jt.closed_lawG mixed .nil awakeCode rfl awakeRun w hg
theorem insIR : Go.Jt.compF Try.prog 91 = some (.code (Go.Jt.insIR 122 123)) := by kernel_rfl
theorem ovX : Go.Jt.OvX Try.prog 122 := Go.Jt.ovx_mk (t := 22) (u := 4) (e := 9) Try.func122 (by kernel_rfl) (by kernel_rfl) (by kernel_rfl) (by kernel_rfl) (by kernel_rfl) (by kernel_rfl)
theorem ovs : Go.Jt.OvS Try.prog [(12, .sum Go.Jt.sumTrue), (91, .sum Go.Jt.insOn)] := .sum 12 _ _ (Go.Jt.sumTrue_sound awakeCode awakeCall) (.sum 91 _ _ (Go.Jt.insOn_sound mixed insIR ovX) .nil)
noncomputable abbrev tb : Nat → Option Go.Jt.FT := Go.Jt.tblO Try.prog [(12, .sum Go.Jt.sumTrue), (91, .sum Go.Jt.insOn)]
theorem lawIR : Go.Jt.compF Try.prog 9 = some (.code Go.Jt.ir_mlaw) := by kernel_rfl
theorem codeB : Go.Jt.BkT tb where
  enc := by kernel_rfl
  may := by kernel_rfl
  word := by kernel_rfl
  dec := by kernel_rfl
  number := by kernel_rfl
theorem codeD : Go.Jt.NdT tb where
  key := by kernel_rfl
  form1 := by kernel_rfl
  form2 := by kernel_rfl
  idxS := by kernel_rfl
  idxP := by kernel_rfl
  conS := by kernel_rfl
  conP := by kernel_rfl
  form := by kernel_rfl
  size := by kernel_rfl
  may := by kernel_rfl
  where_ := by kernel_rfl
theorem codeV : Go.Jt.HvT tb where
  cloS := by kernel_rfl
  cloP := by kernel_rfl
  groS := by kernel_rfl
  groP := by kernel_rfl
  conS := by kernel_rfl
  conP := by kernel_rfl
  part := by kernel_rfl
  own := by kernel_rfl
  cut := by kernel_rfl
  join := by kernel_rfl
theorem codeP : Go.Jt.PtT tb where
  idx := by kernel_rfl
  sch1 := by kernel_rfl
  sch := by kernel_rfl
  schS := by kernel_rfl
  put := by kernel_rfl
  del := by kernel_rfl
  get := by kernel_rfl
theorem codeL : Go.Jt.MlT tb where
  law := by kernel_rfl
theorem awakeT : tb 12 = some (.sum Go.Jt.sumTrue) := by kernel_rfl
theorem insT : tb 91 = some (.sum Go.Jt.insOn) := by kernel_rfl

theorem cells_one {W : World} {r : Reach} {b : Nat} {t e : TypeId} {v : Value} (ht : Try.prog.underlying t = some (.slice e)) (h : Value.okWide Try.prog W r b t v) : v.cells.toList = [v] := by
  cases v <;> simp [Value.okWide, Cell.okWide, Cell.ok, ht] at h <;> rfl
theorem walk {H : Type} {enc : TypeId × Value → H} (v : Value) (W : World) (n : Nat) (x : DataW H × List MemPlace) (h : DataW.trod enc Try.prog W 0 (fun _ => true) true n 87 [v] = some x) (hz : W.noneFrozen x.2) :
    Calls Try.prog 9 #[v] W fun e w' => e = .returned (.bool true) ∧ Below W.heap.size W w' := by
  have hel : Go.Jt.Elem enc Try.prog W 90 [5, 9, 9] := Go.Jt.elem_struct Try.underlying90 (by kernel_rfl) (by kernel_rfl)
  have ho : Go.Jt.Opn enc Try.prog W 87 (.sl 3 Go.Jt.actG) := Go.Jt.opn_slice (tys := [5, 9, 9]) Try.underlying87 hel (by decide) fun j u hj => by
    match j, hj with
    | 0, hj => simp at hj; subst hj; exact Go.Jt.opn_int Try.underlying5
    | 1, hj => simp at hj; subst hj; exact Go.Jt.opn_str Try.underlying9
    | 2, hj => simp at hj; subst hj; exact Go.Jt.opn_str Try.underlying9
  obtain ⟨ws, a, hw, hv, _, hk⟩ := ho n v x [] h hz (Go.Jt.WOK.nil W)
  rw [List.nil_append] at hw hv hk
  obtain ⟨n0, kd, kk, tt, hx⟩ := Go.Jt.act_rows hk
  refine Go.Jt.open_lawW (N := 100000) (f := 98) mixed (Go.Jt.tblO_sound ovs) lawIR codeL.law hw (args := [a]) ⟨rfl, fun i => ?_⟩ (Q := fun _ => True) (fun hs => ?_) (Go.Jt.GlOK_none _ _)
  · match i with
    | 0 => exact hv
    | i + 1 => exact .undef _
  · exact Go.Jt.law_nm (N := 100000) (d := 99) codeL awakeT codeP codeB codeD codeV insT (by omega) hs hx (by omega)

set_option maxRecDepth 100000 in
theorem lifted (os : Os) (started : os.Started) (H : Type) (enc : TypeId × Value → H) :
    ReturnsInHanded {} Try.checked os 9 .any (Rows.nodeMapSpec.pre6 enc Try.prog Try.f9 Rows.nodeMapRow.domain false) (Rows.nodeMapSpec.post enc Try.prog Try.f9 false true false false) := by
  refine returnsInHanded_of_change (C := Try.checked) own started (by kernel_rfl) Try.func9
    (ChangeSpec.witness6 (enc := enc) (C := Try.checked) false ⟨#[], #[.slice none 0 0], []⟩ 8 (by kernel_rfl) (by kernel_rfl) (by kernel_rfl) (by kernel_rfl)) ?_
  intro W base args ds gs before hval0 hW hcnd _
  have hval : ∀ (j : Nat) t v, Try.f9.params[j]? = some t → args[j]? = some v → Value.okWide Try.prog W .any base t v := hval0
  have hlt : ∀ p ∈ before, p.block < W.heap.size := fun p hp => by simpa using hW.lt p hp
  have hW' := hW
  obtain ⟨p, q, hA0, hV, rfl, hfz, hnd⟩ := hW
  have hA1 : DataW.TrodAll enc Try.prog W 0 (fun _ => true) true Try.f9.params.toList args.toList ds p := hA0
  have hA := hA1
  rw [Try.params9] at hA hval
  obtain ⟨v0, d0, rfl, rfl, h0⟩ := trodAll_one hA
  obtain ⟨rfl, rfl⟩ := trodVars_none hV
  obtain ⟨n, h0'⟩ := h0
  rw [cells_one Try.underlying87 (hval 0 87 v0 rfl rfl)] at h0'
  simp only [List.append_nil, List.nil_append] at hW' hfz hlt hA1
  refine (walk v0 W n _ h0' hfz).mono fun e W' ⟨he, bel⟩ => ?_
  subst he
  have hargs := Go.Jt.trodAll_below laidOut bel _ _ _ _ (by rw [Try.params9]; intro t ht; simp at ht; subst ht; exact ⟨by kernel_rfl, of_decide_eq_true (by kernel_rfl)⟩) hA1 hlt
  exact ⟨_, rfl, _, _, _, [], _, [], hW', trodAll_cons_mk (shut_bool Try.underlying4 _) trodAll_mk0, hargs, rfl, bel.frame _, fun h => by cases h⟩

theorem over : Rows.nodeMapRow.holds Try.pinned (OpenSpec.ofChange Rows.nodeMapSpec) :=
  OpenClaim.holds_of_wide 9 Try.f9 rfl rfl rfl rfl rfl rfl rfl ⟨rfl, rfl, rfl, rfl, rfl⟩ rfl rfl rfl rfl rfl (by kernel_rfl) Try.func9 (by kernel_rfl)
    (of_decide_eq_true (by kernel_rfl)) (by unfold Func.isWrapper; first | (rw [if_pos (by decide +kernel)]; kernel_rfl) | (rw [if_neg (by decide +kernel)]; exact ⟨rfl, rfl⟩))
    (fun os started H enc _ => lifted os started H enc)

theorem proved : Rows.NodeMapSaid :=
  over
end Go.Proofs.Ytehjgplolaekmaa.nodeMap
