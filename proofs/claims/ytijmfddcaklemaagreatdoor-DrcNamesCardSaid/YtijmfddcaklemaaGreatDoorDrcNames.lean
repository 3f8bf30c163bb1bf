/-
  The law jetty/jettylaw27.DrcNames holds: its function, called without arguments, hands back true and leaves all that was there as it was; the listed package variables hold what the program's text lays in them (the tied card). The abstract run of the layer Jt is computed by the kernel.
-/
import Derived.Test.YtijmfddcaklemaaGreatDoorCards
import Derived.Test.YtijmfddcaklemaaGreatDoorTie
import Derived.Test.YtijmfddcaklemaaGreatDoorDrcNamesA
import Derived.WalkKit
import Derived.ProofKit
import Derived.LaidMore
import Derived.LaidByTextLater
import Derived.OpenShut
import Derived.Stop.Joined
import Derived.SevenTiedAt
namespace Go.Proofs.YtijmfddcaklemaaGreatDoor.drcNames
open Go.ChangeShapes Go.WideShapes Go.ChangeAt Go.RowKit

theorem own : ownKnob Tryz.prog.godebug = none := by kernel_rfl
theorem plain : (Rows.drcNamesRow.laid.all fun x => x.2.handleName?.isNone) = true := by kernel_rfl
theorem g0 : Tryz.prog.globalNamed "jetty/tree.none" = some 0 := by kernel_rfl
theorem t0 : (Tryz.prog.globals[0]?).map (·.type) = some 80 := by kernel_rfl
theorem s0 : Go.Jt.isPtr3 Tryz.prog 80 = true := by kernel_rfl
theorem known {W : World} (h : laidMetH Tryz.prog Rows.drcNamesRow.laid W) : ∀ g ∈ [0], ∃ el fr, W.heap[g]? = some (.cells #[.int .i64 0, .int .i64 0, .int .u64 0] el fr) := by
  intro g hg
  simp only [List.mem_cons, List.mem_nil_iff, or_false] at hg
  rcases hg with rfl
  · exact Go.Jt.glob3 h plain (List.mem_of_getElem? (i := 0) rfl) g0 t0 s0
theorem door_met (os : Os) (args : Array Value) : laidMetH Tryz.prog Rows.drcNamesRow.laid ((World.doorLaid Tryz.prog 400 os).forCall (fun _ _ => 0) ⟨#[], args, []⟩).memory :=
  laidMetH_of_parts3 (fuel := 8) (laidMet_of_run' 8 (by kernel_rfl) (by kernel_rfl)) (by kernel_rfl) (by kernel_rfl)

set_option maxRecDepth 100000 in
theorem lifted (os : Os) (started : os.Started) (H : Type) (enc : TypeId × Value → H) :
    ReturnsInHanded {} Tryz.checked os 5 .any (fun w args => (Rows.drcNamesSpec.pre enc Tryz.prog Tryz.f5 [] false w args ∧ laidMetH Tryz.prog Rows.drcNamesRow.laid w) ∧ sizedMet enc Tryz.prog Tryz.f5 (OpenSpec.ofChange Rows.drcNamesSpec) false w args)
      (Rows.drcNamesSpec.post enc Tryz.prog Tryz.f5 false true false false) := by
  refine returnsInHanded_of_change_and (C := Tryz.checked) (X := fun w _ => laidMetH Tryz.prog Rows.drcNamesRow.laid w) (fun _ _ _ hh h => h.of_heap hh) own started (by kernel_rfl) Tryz.func5
    (ChangeSpec.witness_shaped (enc := enc) (C := Tryz.checked) (os := os) (X := fun w _ => laidMetH Tryz.prog Rows.drcNamesRow.laid w) false (World.doorLaid Tryz.prog 400 os) #[] 8 rfl (World.shaped_of_RefB (by kernel_rfl) (by kernel_rfl)) (by kernel_rfl) (by kernel_rfl) (by kernel_rfl) (door_met os _)) ?_
  intro W base args ds gs before hval0 hW _ _ hL _
  have hW' := hW
  obtain ⟨p, q, hA0, hV, rfl, hfz, hnd⟩ := hW
  have hA : DataW.TrodAll enc Tryz.prog W 0 (fun _ => true) true Tryz.f5.params.toList args.toList ds p := hA0
  rw [Tryz.params5] at hA
  obtain ⟨rfl, rfl, rfl⟩ := trodAll_none hA
  obtain ⟨rfl, rfl⟩ := trodVars_none hV
  clear hA0 hval0
  simp only [List.append_nil] at hW'
  refine (call5 W (Go.Jt.GlOK_three (known hL))).mono fun e W' ⟨he, bel⟩ => ?_
  subst he
  exact ⟨_, rfl, _, _, _, [], [], [], hW', trodAll_cons_mk (shut_bool Tryz.underlying4 _) trodAll_mk0, trodAll_mk0, rfl, bel.frame _, fun h => by cases h⟩

theorem over : Rows.DrcNamesSaid :=
  OpenClaim.holds_of_wide 5 Tryz.f5 rfl rfl rfl rfl rfl rfl rfl ⟨rfl, rfl, rfl, rfl, rfl⟩ rfl rfl rfl rfl rfl (by kernel_rfl) Tryz.func5 (by kernel_rfl)
    (of_decide_eq_true (by kernel_rfl)) (by unfold Func.isWrapper; first | (rw [if_pos (by decide +kernel)]; kernel_rfl) | (rw [if_neg (by decide +kernel)]; exact ⟨rfl, rfl⟩))
    (fun os started H enc _ => lifted os started H enc)

theorem proved : Rows.DrcNamesCardSaid :=
  Claim7.holds_tied_plain_at .later [] [.data] true (true, "aefd071818eea1313b04e85570b6360abe342f6355afa91e2cab73072219b592") false
    over (fun _ h => by cases h) (by kernel_rfl) (fun _ h => by cases h) drcNames_row_tie rfl ⟨rfl, rfl⟩ (by kernel_rfl) rfl
    (fun f fn hf hfn => by
      obtain rfl : f = 5 := Option.some.inj ((show Tryz.prog.funcNamed "jetty/jettylaw27.DrcNames" = some 5 by kernel_rfl).symm.trans hf) |>.symm
      obtain rfl : fn = Tryz.f5 := (Option.some.inj (Tryz.func5.symm.trans hfn)).symm
      exact ⟨by kernel_rfl, fun j t ht => by
        rw [Tryz.params5] at ht
        simp at ht⟩)
    (by kernel_rfl)
end Go.Proofs.YtijmfddcaklemaaGreatDoor.drcNames
