/-
  The runs of the closed law jetty/jettylaw14.WalkNames: its function, and each helper without arguments, hands back true; computed by the kernel.
-/
import Derived.Test.YtijmfddcaklemaaGreatDoorRows
import Derived.Test.YtijmfddcaklemaaGreatDoorJtSem
namespace Go.Proofs.YtijmfddcaklemaaGreatDoor.walkNames

theorem mixed : Tryz.prog.follows .mixedOrders = true := by kernel_rfl
noncomputable instance vars : Go.Jt.Gl := Go.Jt.gl3 [0]
theorem digIR : Go.Jt.compF Tryz.prog 94 = some (.code Go.Jt.onIR) := by kernel_rfl
theorem sums12 : Go.Jt.OvS Tryz.prog [(94, .sum Go.Jt.sumOn)] := (Go.Jt.OvS.sum 94 _ _ (Go.Jt.sumOn_sound mixed digIR) Go.Jt.OvS.nil)
theorem coded12 : Go.Jt.isCode Tryz.prog 12 = true := by kernel_rfl
theorem ran12 : Go.Jt.RUNF (Go.Jt.tblO Tryz.prog [(94, .sum Go.Jt.sumOn)]) 100000 (99 + 1) (.fn (.fn (.func 12)) [] []) [] ⟨.lf, 0⟩ (fun v _ => Go.Jt.same1 v (.bool true)) = true := by kernel_rfl
theorem call12 (w : World) (hg : Go.Jt.GlOK w.heap.size w) : Calls Tryz.prog 12 #[] w fun e w' => e = .returned (.bool true) ∧ Go.RowKit.Below w.heap.size w w' :=
  Go.Jt.closed_lawG mixed sums12 coded12 rfl ran12 w hg
theorem sums3 : Go.Jt.OvS Tryz.prog [(12, .sum Go.Jt.sumTrue), (94, .sum Go.Jt.sumOn)] := (Go.Jt.OvS.sum 12 _ _ (Go.Jt.sumTrue_sound coded12 call12) (Go.Jt.OvS.sum 94 _ _ (Go.Jt.sumOn_sound mixed digIR) Go.Jt.OvS.nil))
theorem coded3 : Go.Jt.isCode Tryz.prog 3 = true := by kernel_rfl
theorem ran3 : Go.Jt.RUNF (Go.Jt.tblO Tryz.prog [(12, .sum Go.Jt.sumTrue), (94, .sum Go.Jt.sumOn)]) 100000 (99 + 1) (.fn (.fn (.func 3)) [] []) [] ⟨.lf, 0⟩ (fun v _ => Go.Jt.same1 v (.bool true)) = true := by kernel_rfl
theorem call3 (w : World) (hg : Go.Jt.GlOK w.heap.size w) : Calls Tryz.prog 3 #[] w fun e w' => e = .returned (.bool true) ∧ Go.RowKit.Below w.heap.size w w' :=
  Go.Jt.closed_lawG mixed sums3 coded3 rfl ran3 w hg
end Go.Proofs.YtijmfddcaklemaaGreatDoor.walkNames
