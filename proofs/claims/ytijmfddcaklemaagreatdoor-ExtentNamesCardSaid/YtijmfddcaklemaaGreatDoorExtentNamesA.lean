/-
  The runs of the closed law jetty/jettylaw21.ExtentNames: its function, and each helper without arguments, hands back true; computed by the kernel.
-/
import Derived.Test.YtijmfddcaklemaaGreatDoorRows
import Derived.Test.YtijmfddcaklemaaGreatDoorJtSem
namespace Go.Proofs.YtijmfddcaklemaaGreatDoor.extentNames

theorem mixed : Tryz.prog.follows .mixedOrders = true := by kernel_rfl
noncomputable instance vars : Go.Jt.Gl := Go.Jt.gl3 [0]
theorem digIR : Go.Jt.compF Tryz.prog 94 = some (.code Go.Jt.onIR) := by kernel_rfl
theorem sums18 : Go.Jt.OvS Tryz.prog [(94, .sum Go.Jt.sumOn)] := (Go.Jt.OvS.sum 94 _ _ (Go.Jt.sumOn_sound mixed digIR) Go.Jt.OvS.nil)
theorem coded18 : Go.Jt.isCode Tryz.prog 18 = true := by kernel_rfl
theorem ran18 : Go.Jt.RUNF (Go.Jt.tblO Tryz.prog [(94, .sum Go.Jt.sumOn)]) 100000 (99 + 1) (.fn (.fn (.func 18)) [] []) [] ⟨.lf, 0⟩ (fun v _ => Go.Jt.same1 v (.bool true)) = true := by kernel_rfl
theorem call18 (w : World) (hg : Go.Jt.GlOK w.heap.size w) : Calls Tryz.prog 18 #[] w fun e w' => e = .returned (.bool true) ∧ Go.RowKit.Below w.heap.size w w' :=
  Go.Jt.closed_lawG mixed sums18 coded18 rfl ran18 w hg
theorem sums4 : Go.Jt.OvS Tryz.prog [(18, .sum Go.Jt.sumTrue), (94, .sum Go.Jt.sumOn)] := (Go.Jt.OvS.sum 18 _ _ (Go.Jt.sumTrue_sound coded18 call18) (Go.Jt.OvS.sum 94 _ _ (Go.Jt.sumOn_sound mixed digIR) Go.Jt.OvS.nil))
theorem coded4 : Go.Jt.isCode Tryz.prog 4 = true := by kernel_rfl
theorem ran4 : Go.Jt.RUNF (Go.Jt.tblO Tryz.prog [(18, .sum Go.Jt.sumTrue), (94, .sum Go.Jt.sumOn)]) 100000 (99 + 1) (.fn (.fn (.func 4)) [] []) [] ⟨.lf, 0⟩ (fun v _ => Go.Jt.same1 v (.bool true)) = true := by kernel_rfl
theorem call4 (w : World) (hg : Go.Jt.GlOK w.heap.size w) : Calls Tryz.prog 4 #[] w fun e w' => e = .returned (.bool true) ∧ Go.RowKit.Below w.heap.size w w' :=
  Go.Jt.closed_lawG mixed sums4 coded4 rfl ran4 w hg
end Go.Proofs.YtijmfddcaklemaaGreatDoor.extentNames
