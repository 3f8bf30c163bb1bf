/-
  The runs of the closed law jetty/jettylaw27.DrcNames: its function, and each helper without arguments, hands back true; computed by the kernel.
-/
import Derived.Test.YtijmfddcaklemaaGreatDoorRows
import Derived.Test.YtijmfddcaklemaaGreatDoorJtIns
namespace Go.Proofs.YtijmfddcaklemaaGreatDoor.drcNames

theorem mixed : Tryz.prog.follows .mixedOrders = true := by kernel_rfl
noncomputable instance vars : Go.Jt.Gl := Go.Jt.gl3 [0]
theorem digIR : Go.Jt.compF Tryz.prog 94 = some (.code Go.Jt.onIR) := by kernel_rfl
theorem insIR : Go.Jt.compF Tryz.prog 93 = some (.code (Go.Jt.insIR 128 129)) := by kernel_rfl
theorem ovX : Go.Jt.OvX Tryz.prog 128 := Go.Jt.ovx_mk (t := 82) (u := 4) (e := 9) Tryz.func128 (by kernel_rfl) (by kernel_rfl) (by kernel_rfl) (by kernel_rfl) (by kernel_rfl) (by kernel_rfl)
theorem sums19 : Go.Jt.OvS Tryz.prog [(94, .sum Go.Jt.sumOn), (93, .sum Go.Jt.insOn)] := (Go.Jt.OvS.sum 94 _ _ (Go.Jt.sumOn_sound mixed digIR) (Go.Jt.OvS.sum 93 _ _ (Go.Jt.insOn_sound mixed insIR ovX) Go.Jt.OvS.nil))
theorem coded19 : Go.Jt.isCode Tryz.prog 19 = true := by kernel_rfl
theorem ran19 : Go.Jt.RUNF (Go.Jt.tblO Tryz.prog [(94, .sum Go.Jt.sumOn), (93, .sum Go.Jt.insOn)]) 100000 (99 + 1) (.fn (.fn (.func 19)) [] []) [] ⟨.lf, 0⟩ (fun v _ => Go.Jt.same1 v (.bool true)) = true := by kernel_rfl
theorem call19 (w : World) (hg : Go.Jt.GlOK w.heap.size w) : Calls Tryz.prog 19 #[] w fun e w' => e = .returned (.bool true) ∧ Go.RowKit.Below w.heap.size w w' :=
  Go.Jt.closed_lawG mixed sums19 coded19 rfl ran19 w hg
theorem sums5 : Go.Jt.OvS Tryz.prog [(19, .sum Go.Jt.sumTrue), (94, .sum Go.Jt.sumOn), (93, .sum Go.Jt.insOn)] := (Go.Jt.OvS.sum 19 _ _ (Go.Jt.sumTrue_sound coded19 call19) (Go.Jt.OvS.sum 94 _ _ (Go.Jt.sumOn_sound mixed digIR) (Go.Jt.OvS.sum 93 _ _ (Go.Jt.insOn_sound mixed insIR ovX) Go.Jt.OvS.nil)))
theorem coded5 : Go.Jt.isCode Tryz.prog 5 = true := by kernel_rfl
theorem ran5 : Go.Jt.RUNF (Go.Jt.tblO Tryz.prog [(19, .sum Go.Jt.sumTrue), (94, .sum Go.Jt.sumOn), (93, .sum Go.Jt.insOn)]) 100000 (99 + 1) (.fn (.fn (.func 5)) [] []) [] ⟨.lf, 0⟩ (fun v _ => Go.Jt.same1 v (.bool true)) = true := by kernel_rfl
theorem call5 (w : World) (hg : Go.Jt.GlOK w.heap.size w) : Calls Tryz.prog 5 #[] w fun e w' => e = .returned (.bool true) ∧ Go.RowKit.Below w.heap.size w w' :=
  Go.Jt.closed_lawG mixed sums5 coded5 rfl ran5 w hg
end Go.Proofs.YtijmfddcaklemaaGreatDoor.drcNames
