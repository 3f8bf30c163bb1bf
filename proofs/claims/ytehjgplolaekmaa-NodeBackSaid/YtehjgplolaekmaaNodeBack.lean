/-
  The law jettylaw12.NodeBack holds: for every node, every truth value and every text its function hands back true and leaves its arguments as they were; no conditions.
-/
import Derived.Test.YtehjgplolaekmaaRows
import Derived.Test.YtehjgplolaekmaaJtNodeBack
import Derived.Test.YtehjgplolaekmaaJtNa
import Derived.Test.YtehjgplolaekmaaJtFast
import Derived.WalkKit
import Derived.ProofKit
import Derived.OpenShut

set_option linter.all false
namespace Go.Proofs.Ytehjgplolaekmaa.nodeBack
open Go.ChangeShapes Go.ChangeMaps Go.WideShapes Go.ChangeAt Go.RowKit

theorem own : ownKnob Try.prog.godebug = none := by kernel_rfl
theorem mixed : Try.prog.follows .mixedOrders = true := by kernel_rfl
theorem laidOut : laidOutB Try.prog = true := by kernel_rfl
instance noVars : Go.Jt.Gl := ⟨fun _ => none⟩
instance numsB : Go.Jt.BkN where
  enc := 55
  may := 97
  word := 98
  dec := 99
  number := 126
instance numsD : Go.Jt.NdN where
  key := 69
  form1 := 94
  form2 := 95
  idxS := 124
  idxP := 125
  conS := 93
  conP := 96
  form := 53
  size := 19
  may := 15
  where_ := 52
instance numsE : Go.Jt.NeN where
  enc1 := 54
  encode := 13
instance numsR : Go.Jt.NrN where
  take := 56
  text := 57
  kid := 58
  decode := 16
instance numsH : Go.Jt.NbN where
  long := 11
  given := 14
  back := 18
  same := 17
instance numsL : Go.Jt.NlN where
  law := 3
  awake := 12
theorem awakeRun : Go.Jt.RUNF (Go.Jt.tblO Try.prog []) 100000 (99 + 1) (.fn (.fn (.func 12)) [] []) [] ⟨.lf, 0⟩ (fun v _ => Go.Jt.same1 v (.bool true)) = true := by kernel_rfl
theorem awakeCode : Go.Jt.isCode Try.prog 12 = true := by kernel_rfl
theorem awakeCall (w : World) (hg : Go.Jt.GlOK w.heap.size w) : Calls Try.prog 12 #[] w fun e w' => e = .returned (.bool true) ∧ Below w.heap.size w w' :=
  Go.Jt.closed_lawG mixed .nil awakeCode rfl awakeRun w hg
theorem ovs : Go.Jt.OvS Try.prog [(12, .sum Go.Jt.sumTrue)] := .sum 12 _ _ (Go.Jt.sumTrue_sound awakeCode awakeCall) .nil
noncomputable abbrev tb : Nat → Option Go.Jt.FT := Go.Jt.tblO Try.prog [(12, .sum Go.Jt.sumTrue)]
theorem lawIR : Go.Jt.compF Try.prog 3 = some (.code Go.Jt.ir_llaw) := by kernel_rfl
theorem codeB : Go.Jt.BkT tb where
  enc := by kernel_rfl
  may := by kernel_rfl
  word := by kernel_rfl
  dec := by kernel_rfl
  number := by kernel_rfl
theorem codeD : Go.Jt.NdT tb where
  key := by kernel_rfl
  form1 := by kernel_rfl
  form2 := by kernel_rfl
  idxS := by kernel_rfl
  idxP := by kernel_rfl
  conS := by kernel_rfl
  conP := by kernel_rfl
  form := by kernel_rfl
  size := by kernel_rfl
  may := by kernel_rfl
  where_ := by kernel_rfl
theorem codeE : Go.Jt.NeT tb where
  enc1 := by kernel_rfl
  encode := by kernel_rfl
theorem codeR : Go.Jt.NrT tb where
  take := by kernel_rfl
  text := by kernel_rfl
  kid := by kernel_rfl
  decode := by kernel_rfl
theorem codeH : Go.Jt.NbT tb where
  long := by kernel_rfl
  given := by kernel_rfl
  back := by kernel_rfl
  same := by kernel_rfl
theorem codeL : Go.Jt.NlT tb where
  law := by kernel_rfl
theorem awakeT : tb 12 = some (.sum Go.Jt.sumTrue) := by kernel_rfl

theorem opnKeys {H : Type} (enc : TypeId × Value → H) (W : World) : Go.Jt.Opn enc Try.prog W 22 (.sl 1 (fun _ => .str)) :=
  Go.Jt.opn_slice (tys := [9]) Try.underlying22 (Go.Jt.elem_str (by kernel_rfl) Try.underlying9) (by decide) fun j u hj => by
    match j, hj with
    | 0, hj => simp at hj; subst hj; exact Go.Jt.opn_str Try.underlying9
theorem opnPtrs {H : Type} (enc : TypeId × Value → H) (W : World) : Go.Jt.Opn enc Try.prog W 23 (.sl 3 Go.Jt.ptG) :=
  Go.Jt.opn_slice (tys := [3, 3, 99]) Try.underlying23 (Go.Jt.elem_struct Try.underlying101 (by kernel_rfl) (by kernel_rfl)) (by decide) fun j u hj => by
    match j, hj with
    | 0, hj => simp at hj; subst hj; exact Go.Jt.opn_int Try.underlying3
    | 1, hj => simp at hj; subst hj; exact Go.Jt.opn_int Try.underlying3
    | 2, hj => simp at hj; subst hj; exact Go.Jt.opn_int Try.underlying99
theorem walk {H : Type} {enc : TypeId × Value → H} (cs : Array Value) (b : Bool) (s : ByteArray) (W : World) (n : Nat) (x : DataW H × List MemPlace) (h : DataW.trod enc Try.prog W 0 (fun _ => true) true n 25 cs.toList = some x) (hz : W.noneFrozen x.2) :
    Calls Try.prog 3 #[.agg cs, .bool b, .string s] W fun e w' => e = .returned (.bool true) ∧ Below W.heap.size W w' := by
  obtain ⟨ws, l, hw, hv, hl, hk⟩ := Go.Jt.opn_agg (G := Go.Jt.nodeG) Try.underlying25 (by kernel_rfl) (by kernel_rfl) (fun j u hj => by
    match j, hj with
    | 0, hj => simp at hj; subst hj; exact Go.Jt.opn_bool Try.underlying4
    | 1, hj => simp at hj; subst hj; exact opnKeys enc W
    | 2, hj => simp at hj; subst hj; exact opnKeys enc W
    | 3, hj => simp at hj; subst hj; exact opnPtrs enc W) n cs x [] h hz (Go.Jt.WOK.nil W)
  rw [List.nil_append] at hw hv hk
  obtain ⟨lf, ks, vs, ps, vk, vv, vp, hr, hk1, hv1, hp1, nk, nv, np, hsame, hps, hbk, hbv⟩ := Go.Jt.node_open hl hk
  refine Go.Jt.open_lawW (N := 100000) (f := 98) mixed (Go.Jt.tblO_sound ovs) lawIR codeL.law hw (args := [.agg (Go.Jt.Rp.ofL l), .bool b, .str (Go.Jt.bytesOf s)]) ⟨rfl, fun i => ?_⟩ (Q := fun _ => True) (fun hs => ?_) (Go.Jt.GlOK_none _ _)
  · match i with
    | 0 => exact hv
    | 1 => exact .bool _
    | 2 => exact .str _
    | i + 3 => exact .undef _
  · exact Go.Jt.law_nb (N := 100000) (d := 99) codeL awakeT codeH codeE codeR codeD codeB (fun c hc => by
      unfold Go.Jt.bytesOf at hc
      obtain ⟨b, _, rfl⟩ := List.mem_map.1 hc
      have := b.toNat_lt
      omega) (by omega) hs hr hk1 hv1 hp1 nk nv np hsame (by omega) hps hbk hbv

set_option maxRecDepth 100000 in
theorem lifted (os : Os) (started : os.Started) (H : Type) (enc : TypeId × Value → H) :
    ReturnsInHanded {} Try.checked os 3 .any (Rows.nodeBackSpec.pre6 enc Try.prog Try.f3 Rows.nodeBackRow.domain false) (Rows.nodeBackSpec.post enc Try.prog Try.f3 false true false false) := by
  refine returnsInHanded_of_change (C := Try.checked) own started (by kernel_rfl) Try.func3
    (ChangeSpec.witness6 (enc := enc) (C := Try.checked) false ⟨#[], #[.agg #[.bool false, .slice none 0 0, .slice none 0 0, .slice none 0 0], .bool false, .string ⟨#[]⟩], []⟩ 8 (by kernel_rfl) (by kernel_rfl) (by kernel_rfl) (by kernel_rfl)) ?_
  intro W base args ds gs before hval0 hW hcnd _
  have hval : ∀ (j : Nat) t v, Try.f3.params[j]? = some t → args[j]? = some v → Value.okWide Try.prog W .any base t v := hval0
  have hlt : ∀ p ∈ before, p.block < W.heap.size := fun p hp => by simpa using hW.lt p hp
  have hW' := hW
  obtain ⟨p, q, hA0, hV, rfl, hfz, hnd⟩ := hW
  have hA1 : DataW.TrodAll enc Try.prog W 0 (fun _ => true) true Try.f3.params.toList args.toList ds p := hA0
  have hA := hA1
  rw [Try.params3] at hA hval
  obtain ⟨v0, v1, v2, d0, d1, d2, p0, p1, p2, rfl, rfl, rfl, h0, h1, h2⟩ := trodAll_three hA
  obtain ⟨rfl, rfl⟩ := trodVars_none hV
  have w0 := hval 0 25 v0 rfl rfl
  unfold Value.okWide at w0
  rw [Try.underlying25] at w0
  obtain ⟨cs, rfl, _, _⟩ := w0
  obtain ⟨b, rfl, rfl, rfl⟩ := open_bool Try.underlying4 (hval 1 4 v1 rfl rfl) h1
  obtain ⟨s, rfl, rfl, rfl, _⟩ := open_string Try.underlying9 (hval 2 9 v2 rfl rfl) h2
  obtain ⟨n, h0'⟩ := h0
  simp only [List.append_nil, List.nil_append] at hW' hfz hlt hA1
  refine (walk cs b s W n _ h0' hfz).mono fun e W' ⟨he, bel⟩ => ?_
  subst he
  have hargs := Go.Jt.trodAll_below laidOut bel _ _ _ _ (by rw [Try.params3]; intro t ht; simp at ht; rcases ht with rfl | rfl | rfl <;> exact ⟨by kernel_rfl, of_decide_eq_true (by kernel_rfl)⟩) hA1 hlt
  exact ⟨_, rfl, _, _, _, [], _, [], hW', trodAll_cons_mk (shut_bool Try.underlying4 _) trodAll_mk0, hargs, rfl, bel.frame _, fun h => by cases h⟩

theorem over : Rows.nodeBackRow.holds Try.pinned (OpenSpec.ofChange Rows.nodeBackSpec) :=
  OpenClaim.holds_of_wide 3 Try.f3 rfl rfl rfl rfl rfl rfl rfl ⟨rfl, rfl, rfl, rfl, rfl⟩ rfl rfl rfl rfl rfl (by kernel_rfl) Try.func3 (by kernel_rfl)
    (of_decide_eq_true (by kernel_rfl)) (by unfold Func.isWrapper; first | (rw [if_pos (by decide +kernel)]; kernel_rfl) | (rw [if_neg (by decide +kernel)]; exact ⟨rfl, rfl⟩))
    (fun os started H enc _ => lifted os started H enc)

theorem proved : Rows.NodeBackSaid :=
  over
end Go.Proofs.Ytehjgplolaekmaa.nodeBack
