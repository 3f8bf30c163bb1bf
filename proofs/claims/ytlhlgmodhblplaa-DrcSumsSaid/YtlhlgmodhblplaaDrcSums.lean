/-
  The law jettylaw27.DrcSums holds: for every number and every text its function hands back true and leaves its arguments as they were; no conditions.
-/
import Derived.Test.YtlhlgmodhblplaaRows
import Derived.Test.YtlhlgmodhblplaaJtDrc
import Derived.WalkKit
import Derived.ProofKit
import Derived.OpenShut
namespace Go.Proofs.Ytlhlgmodhblplaa.drcSums
open Go.ChangeShapes Go.WideShapes Go.ChangeAt Go.RowKit
open Go.ChangeMaps (open_string shut_string)

theorem own : ownKnob Try.prog.godebug = none := by kernel_rfl
theorem mixed : Try.prog.follows .mixedOrders = true := by kernel_rfl
instance noVars : Go.Jt.Gl := ⟨fun _ => none⟩
theorem digIR : Go.Jt.compF Try.prog 56 = some (.code Go.Jt.onIR) := by kernel_rfl
theorem ovs : Go.Jt.OvS Try.prog [(56, .sum Go.Jt.sumOn)] := .sum 56 Go.Jt.sumOn [] (Go.Jt.sumOn_sound mixed digIR) .nil
theorem lawIR : Go.Jt.compF Try.prog 3 = some (.code (Go.Jt.irLaw 9 10)) := by kernel_rfl

theorem rows (z : Int) (s : ByteArray) : Go.Jt.rowR (fun _ => none) [.int .i64 z, .str (Go.Jt.bytesOf s)] #[.int .i64 z, .string s] :=
  ⟨rfl, fun i => match i with
    | 0 => .int _ _
    | 1 => .str s
    | n + 2 => .undef _⟩

theorem walk (z : Int) (s : ByteArray) (w : World) : Calls Try.prog 3 #[.int .i64 z, .string s] w fun e w' => e = .returned (.bool true) ∧ Below w.heap.size w w' := by
  obtain ⟨H', d⟩ := Go.Jt.law_does (tbl := Go.Jt.tblO Try.prog [(56, .sum Go.Jt.sumOn)]) (gLaw := 3) (gSum := 9) (gRSum := 10) (gWord := 37) (gW := 59) (gPut := 60) (gOf := 36) (gOn := 57) (gOnS := 56) (gLong := 58) (gFourS := 39) (gFour := 63) (gROf := 38) (gRLong := 62) (gFrom := 61) (gStep := 71)
    (by kernel_rfl) (by kernel_rfl) (by kernel_rfl) (by kernel_rfl) (by kernel_rfl) (by kernel_rfl) (by kernel_rfl) (by kernel_rfl) (by kernel_rfl) (by kernel_rfl) (by kernel_rfl) (by kernel_rfl) (by kernel_rfl) (by kernel_rfl) (by kernel_rfl) (by kernel_rfl) z (Go.Jt.bytesOf s)
  exact Go.Jt.open_law (N := 100000) (f := 98) mixed (Go.Jt.tblO_sound ovs) lawIR (by kernel_rfl) (rows z s) d w (Go.Jt.GlOK_none _ _)

set_option maxRecDepth 100000 in
theorem lifted (os : Os) (started : os.Started) (H : Type) (enc : TypeId × Value → H) :
    ReturnsInHanded {} Try.checked os 3 .any (Rows.drcSumsSpec.pre6 enc Try.prog Try.f3 Rows.drcSumsRow.domain false) (Rows.drcSumsSpec.post enc Try.prog Try.f3 false true false false) := by
  refine returnsInHanded_of_change (C := Try.checked) own started (by kernel_rfl) Try.func3
    (ChangeSpec.witness6 (enc := enc) (C := Try.checked) false ⟨#[], #[.int .i64 0, .string ⟨#[]⟩], []⟩ 8 (by kernel_rfl) (by kernel_rfl) (by kernel_rfl) (by kernel_rfl)) ?_
  intro W base args ds gs before hval0 hW hcnd _
  have hval : ∀ (j : Nat) t v, Try.f3.params[j]? = some t → args[j]? = some v → Value.okWide Try.prog W .any base t v := hval0
  have hW' := hW
  obtain ⟨p, q, hA0, hV, rfl, hfz, hnd⟩ := hW
  have hA : DataW.TrodAll enc Try.prog W 0 (fun _ => true) true Try.f3.params.toList args.toList ds p := hA0
  rw [Try.params3] at hA hval
  obtain ⟨v0, v1, d0, d1, p0, p1, rfl, rfl, rfl, h0, h1⟩ := trodAll_two hA
  obtain ⟨rfl, rfl⟩ := trodVars_none hV
  obtain ⟨z, rfl, rfl, rfl, wz⟩ := open_int Try.underlying3 (hval 0 3 v0 rfl rfl) h0
  obtain ⟨s, rfl, rfl, rfl, ws⟩ := open_string Try.underlying9 (hval 1 9 v1 rfl rfl) h1
  clear hA0 hval0 hA hV
  simp only [List.append_nil] at hW'
  refine (walk z s W).mono fun e W' ⟨he, bel⟩ => ?_
  subst he
  exact ⟨_, rfl, _, _, _, [], [], [], hW', trodAll_cons_mk (shut_bool Try.underlying4 _) trodAll_mk0, trodAll_cons_mk (shut_int Try.underlying3 wz) (trodAll_cons_mk (shut_string Try.underlying9 ws) trodAll_mk0), rfl, bel.frame _, fun h => by cases h⟩

theorem over : Rows.drcSumsRow.holds Try.pinned (OpenSpec.ofChange Rows.drcSumsSpec) :=
  OpenClaim.holds_of_wide 3 Try.f3 rfl rfl rfl rfl rfl rfl rfl ⟨rfl, rfl, rfl, rfl, rfl⟩ rfl rfl rfl rfl rfl (by kernel_rfl) Try.func3 (by kernel_rfl)
    (of_decide_eq_true (by kernel_rfl)) (by unfold Func.isWrapper; first | (rw [if_pos (by decide +kernel)]; kernel_rfl) | (rw [if_neg (by decide +kernel)]; exact ⟨rfl, rfl⟩))
    (fun os started H enc _ => lifted os started H enc)

theorem proved : Rows.DrcSumsSaid :=
  over
end Go.Proofs.Ytlhlgmodhblplaa.drcSums
