/-
  The law jettylaw12.NodeHalves holds: for every node its function hands back true and leaves its arguments as they were; no conditions.
-/
import Derived.Test.YtehjgplolaekmaaRows
import Derived.Test.YtehjgplolaekmaaJtNodeHalves
import Derived.Test.YtehjgplolaekmaaJtNa
import Derived.Test.YtehjgplolaekmaaJtFast
import Derived.WalkKit
import Derived.ProofKit
import Derived.OpenShut

set_option linter.all false
namespace Go.Proofs.Ytehjgplolaekmaa.nodeHalves
open Go.ChangeShapes Go.ChangeMaps Go.WideShapes Go.ChangeAt Go.RowKit

theorem own : ownKnob Try.prog.godebug = none := by kernel_rfl
theorem mixed : Try.prog.follows .mixedOrders = true := by kernel_rfl
theorem laidOut : laidOutB Try.prog = true := by kernel_rfl
instance noVars : Go.Jt.Gl := ⟨fun _ => none⟩
instance numsB : Go.Jt.BkN where
  enc := 55
  may := 97
  word := 98
  dec := 99
  number := 126
instance numsD : Go.Jt.NdN where
  key := 69
  form1 := 94
  form2 := 95
  idxS := 124
  idxP := 125
  conS := 93
  conP := 96
  form := 53
  size := 19
  may := 15
  where_ := 52
instance numsE : Go.Jt.NeN where
  enc1 := 54
  encode := 13
instance numsR : Go.Jt.NrN where
  take := 56
  text := 57
  kid := 58
  decode := 16
instance numsV : Go.Jt.HvN where
  cloS := 90
  cloP := 105
  groS := 106
  groP := 107
  conS := 70
  conP := 71
  part := 67
  own := 68
  cut := 29
  join := 30
instance numsH : Go.Jt.NbN where
  long := 11
  given := 14
  back := 18
  same := 17
instance numsL : Go.Jt.HlN where
  law := 5
  awake := 12
theorem awakeRun : Go.Jt.RUNF (Go.Jt.tblO Try.prog []) 100000 (99 + 1) (.fn (.fn (.func 12)) [] []) [] ⟨.lf, 0⟩ (fun v _ => Go.Jt.same1 v (.bool true)) = true := by kernel_rfl
theorem awakeCode : Go.Jt.isCode Try.prog 12 = true := by kernel_rfl
theorem awakeCall (w : World) (hg : Go.Jt.GlOK w.heap.size w) : Calls Try.prog 12 #[] w fun e w' => e = .returned (.bool true) ∧ Below w.heap.size w w' :=
  Go.Jt.closed_lawG mixed .nil awakeCode rfl awakeRun w hg
theorem ovs : Go.Jt.OvS Try.prog [(12, .sum Go.Jt.sumTrue)] := .sum 12 _ _ (Go.Jt.sumTrue_sound awakeCode awakeCall) .nil
noncomputable abbrev tb : Nat → Option Go.Jt.FT := Go.Jt.tblO Try.prog [(12, .sum Go.Jt.sumTrue)]
theorem lawIR : Go.Jt.compF Try.prog 5 = some (.code Go.Jt.ir_glaw) := by kernel_rfl
theorem codeB : Go.Jt.BkT tb where
  enc := by kernel_rfl
  may := by kernel_rfl
  word := by kernel_rfl
  dec := by kernel_rfl
  number := by kernel_rfl
theorem codeD : Go.Jt.NdT tb where
  key := by kernel_rfl
  form1 := by kernel_rfl
  form2 := by kernel_rfl
  idxS := by kernel_rfl
  idxP := by kernel_rfl
  conS := by kernel_rfl
  conP := by kernel_rfl
  form := by kernel_rfl
  size := by kernel_rfl
  may := by kernel_rfl
  where_ := by kernel_rfl
theorem codeE : Go.Jt.NeT tb where
  enc1 := by kernel_rfl
  encode := by kernel_rfl
theorem codeV : Go.Jt.HvT tb where
  cloS := by kernel_rfl
  cloP := by kernel_rfl
  groS := by kernel_rfl
  groP := by kernel_rfl
  conS := by kernel_rfl
  conP := by kernel_rfl
  part := by kernel_rfl
  own := by kernel_rfl
  cut := by kernel_rfl
  join := by kernel_rfl
theorem codeH : Go.Jt.NbT tb where
  long := by kernel_rfl
  given := by kernel_rfl
  back := by kernel_rfl
  same := by kernel_rfl
theorem codeL : Go.Jt.HlT tb where
  law := by kernel_rfl
theorem awakeT : tb 12 = some (.sum Go.Jt.sumTrue) := by kernel_rfl

theorem opnKeys {H : Type} (enc : TypeId × Value → H) (W : World) : Go.Jt.Opn enc Try.prog W 22 (.sl 1 (fun _ => .str)) :=
  Go.Jt.opn_slice (tys := [9]) Try.underlying22 (Go.Jt.elem_str (by kernel_rfl) Try.underlying9) (by decide) fun j u hj => by
    match j, hj with
    | 0, hj => simp at hj; subst hj; exact Go.Jt.opn_str Try.underlying9
theorem opnPtrs {H : Type} (enc : TypeId × Value → H) (W : World) : Go.Jt.Opn enc Try.prog W 23 (.sl 3 Go.Jt.ptG) :=
  Go.Jt.opn_slice (tys := [3, 3, 99]) Try.underlying23 (Go.Jt.elem_struct Try.underlying101 (by kernel_rfl) (by kernel_rfl)) (by decide) fun j u hj => by
    match j, hj with
    | 0, hj => simp at hj; subst hj; exact Go.Jt.opn_int Try.underlying3
    | 1, hj => simp at hj; subst hj; exact Go.Jt.opn_int Try.underlying3
    | 2, hj => simp at hj; subst hj; exact Go.Jt.opn_int Try.underlying99
theorem walk {H : Type} {enc : TypeId × Value → H} (cs : Array Value) (W : World) (n : Nat) (x : DataW H × List MemPlace) (h : DataW.trod enc Try.prog W 0 (fun _ => true) true n 25 cs.toList = some x) (hz : W.noneFrozen x.2) :
    Calls Try.prog 5 #[.agg cs] W fun e w' => e = .returned (.bool true) ∧ Below W.heap.size W w' := by
  obtain ⟨ws, l, hw, hv, hl, hk⟩ := Go.Jt.opn_agg (G := Go.Jt.nodeG) Try.underlying25 (by kernel_rfl) (by kernel_rfl) (fun j u hj => by
    match j, hj with
    | 0, hj => simp at hj; subst hj; exact Go.Jt.opn_bool Try.underlying4
    | 1, hj => simp at hj; subst hj; exact opnKeys enc W
    | 2, hj => simp at hj; subst hj; exact opnKeys enc W
    | 3, hj => simp at hj; subst hj; exact opnPtrs enc W) n cs x [] h hz (Go.Jt.WOK.nil W)
  rw [List.nil_append] at hw hv hk
  obtain ⟨lf, ks, vs, ps, vk, vv, vp, hr, hk1, hv1, hp1, nk, nv, np, hsame, hps, hbk, hbv⟩ := Go.Jt.node_open hl hk
  refine Go.Jt.open_lawW (N := 100000) (f := 98) mixed (Go.Jt.tblO_sound ovs) lawIR codeL.law hw (args := [.agg (Go.Jt.Rp.ofL l)]) ⟨rfl, fun i => ?_⟩ (Q := fun _ => True) (fun hs => ?_) (Go.Jt.GlOK_none _ _)
  · match i with
    | 0 => exact hv
    | i + 1 => exact .undef _
  · cases lf with
    | true => exact Go.Jt.law_nhL (N := 100000) (d := 99) codeL awakeT codeH codeE codeV codeD codeB (by omega) hs hr hk1 hv1 hp1 nk nv np hsame (by omega) hps hbk hbv
    | false => exact Go.Jt.law_nhI (N := 100000) (d := 99) codeL awakeT codeH codeE codeV codeD codeB (by omega) hs hr hk1 hv1 hp1 nk nv np hsame (by omega) hps hbk hbv

set_option maxRecDepth 100000 in
theorem lifted (os : Os) (started : os.Started) (H : Type) (enc : TypeId × Value → H) :
    ReturnsInHanded {} Try.checked os 5 .any (Rows.nodeHalvesSpec.pre6 enc Try.prog Try.f5 Rows.nodeHalvesRow.domain false) (Rows.nodeHalvesSpec.post enc Try.prog Try.f5 false true false false) := by
  refine returnsInHanded_of_change (C := Try.checked) own started (by kernel_rfl) Try.func5
    (ChangeSpec.witness6 (enc := enc) (C := Try.checked) false ⟨#[], #[.agg #[.bool false, .slice none 0 0, .slice none 0 0, .slice none 0 0]], []⟩ 8 (by kernel_rfl) (by kernel_rfl) (by kernel_rfl) (by kernel_rfl)) ?_
  intro W base args ds gs before hval0 hW hcnd _
  have hval : ∀ (j : Nat) t v, Try.f5.params[j]? = some t → args[j]? = some v → Value.okWide Try.prog W .any base t v := hval0
  have hlt : ∀ p ∈ before, p.block < W.heap.size := fun p hp => by simpa using hW.lt p hp
  have hW' := hW
  obtain ⟨p, q, hA0, hV, rfl, hfz, hnd⟩ := hW
  have hA1 : DataW.TrodAll enc Try.prog W 0 (fun _ => true) true Try.f5.params.toList args.toList ds p := hA0
  have hA := hA1
  rw [Try.params5] at hA hval
  obtain ⟨v0, d0, rfl, rfl, h0⟩ := trodAll_one hA
  obtain ⟨rfl, rfl⟩ := trodVars_none hV
  have w0 := hval 0 25 v0 rfl rfl
  unfold Value.okWide at w0
  rw [Try.underlying25] at w0
  obtain ⟨cs, rfl, _, _⟩ := w0
  obtain ⟨n, h0'⟩ := h0
  simp only [List.append_nil, List.nil_append] at hW' hfz hlt hA1
  refine (walk cs W n _ h0' hfz).mono fun e W' ⟨he, bel⟩ => ?_
  subst he
  have hargs := Go.Jt.trodAll_below laidOut bel _ _ _ _ (by rw [Try.params5]; intro t ht; simp at ht; subst ht; exact ⟨by kernel_rfl, of_decide_eq_true (by kernel_rfl)⟩) hA1 hlt
  exact ⟨_, rfl, _, _, _, [], _, [], hW', trodAll_cons_mk (shut_bool Try.underlying4 _) trodAll_mk0, hargs, rfl, bel.frame _, fun h => by cases h⟩

theorem over : Rows.nodeHalvesRow.holds Try.pinned (OpenSpec.ofChange Rows.nodeHalvesSpec) :=
  OpenClaim.holds_of_wide 5 Try.f5 rfl rfl rfl rfl rfl rfl rfl ⟨rfl, rfl, rfl, rfl, rfl⟩ rfl rfl rfl rfl rfl (by kernel_rfl) Try.func5 (by kernel_rfl)
    (of_decide_eq_true (by kernel_rfl)) (by unfold Func.isWrapper; first | (rw [if_pos (by decide +kernel)]; kernel_rfl) | (rw [if_neg (by decide +kernel)]; exact ⟨rfl, rfl⟩))
    (fun os started H enc _ => lifted os started H enc)

theorem proved : Rows.NodeHalvesSaid :=
  over
end Go.Proofs.Ytehjgplolaekmaa.nodeHalves
