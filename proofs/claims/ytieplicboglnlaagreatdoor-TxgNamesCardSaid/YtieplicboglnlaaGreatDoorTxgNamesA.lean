/-
  The runs of the closed law jetty/jettylaw15.TxgNames: its function, and each helper without arguments, hands back true; computed by the kernel.
-/
import Derived.Test.YtieplicboglnlaaGreatDoorRows
import Derived.Test.YtieplicboglnlaaGreatDoorJtSem
namespace Go.Proofs.YtieplicboglnlaaGreatDoor.txgNames

theorem mixed : Tryz.prog.follows .mixedOrders = true := by kernel_rfl
noncomputable instance vars : Go.Jt.Gl := Go.Jt.gl3 [1, 0]
theorem cloned : Go.Jt.CloneOK Tryz.prog 206 := ⟨Tryz.f206, Tryz.func206, by kernel_rfl, by kernel_rfl, by kernel_rfl, by kernel_rfl⟩
theorem digIR : Go.Jt.compF Tryz.prog 213 = some (.code Go.Jt.onIR) := by kernel_rfl
theorem sums31 : Go.Jt.OvS Tryz.prog [(206, .clone), (213, .sum Go.Jt.sumOn)] := (Go.Jt.OvS.clone 206 _ cloned (Go.Jt.OvS.sum 213 _ _ (Go.Jt.sumOn_sound mixed digIR) Go.Jt.OvS.nil))
theorem coded31 : Go.Jt.isCode Tryz.prog 31 = true := by kernel_rfl
theorem ran31 : Go.Jt.RUNF (Go.Jt.tblO Tryz.prog [(206, .clone), (213, .sum Go.Jt.sumOn)]) 100000 (99 + 1) (.fn (.fn (.func 31)) [] []) [] ⟨.lf, 0⟩ (fun v _ => Go.Jt.same1 v (.bool true)) = true := by kernel_rfl
theorem call31 (w : World) (hg : Go.Jt.GlOK w.heap.size w) : Calls Tryz.prog 31 #[] w fun e w' => e = .returned (.bool true) ∧ Go.RowKit.Below w.heap.size w w' :=
  Go.Jt.closed_lawG mixed sums31 coded31 rfl ran31 w hg
theorem sums30 : Go.Jt.OvS Tryz.prog [(31, .sum Go.Jt.sumTrue), (206, .clone), (213, .sum Go.Jt.sumOn)] := (Go.Jt.OvS.sum 31 _ _ (Go.Jt.sumTrue_sound coded31 call31) (Go.Jt.OvS.clone 206 _ cloned (Go.Jt.OvS.sum 213 _ _ (Go.Jt.sumOn_sound mixed digIR) Go.Jt.OvS.nil)))
theorem coded30 : Go.Jt.isCode Tryz.prog 30 = true := by kernel_rfl
theorem ran30 : Go.Jt.RUNF (Go.Jt.tblO Tryz.prog [(31, .sum Go.Jt.sumTrue), (206, .clone), (213, .sum Go.Jt.sumOn)]) 100000 (99 + 1) (.fn (.fn (.func 30)) [] []) [] ⟨.lf, 0⟩ (fun v _ => Go.Jt.same1 v (.bool true)) = true := by kernel_rfl
theorem call30 (w : World) (hg : Go.Jt.GlOK w.heap.size w) : Calls Tryz.prog 30 #[] w fun e w' => e = .returned (.bool true) ∧ Go.RowKit.Below w.heap.size w w' :=
  Go.Jt.closed_lawG mixed sums30 coded30 rfl ran30 w hg
theorem sums29 : Go.Jt.OvS Tryz.prog [(30, .sum Go.Jt.sumTrue), (31, .sum Go.Jt.sumTrue), (206, .clone), (213, .sum Go.Jt.sumOn)] := (Go.Jt.OvS.sum 30 _ _ (Go.Jt.sumTrue_sound coded30 call30) (Go.Jt.OvS.sum 31 _ _ (Go.Jt.sumTrue_sound coded31 call31) (Go.Jt.OvS.clone 206 _ cloned (Go.Jt.OvS.sum 213 _ _ (Go.Jt.sumOn_sound mixed digIR) Go.Jt.OvS.nil))))
theorem coded29 : Go.Jt.isCode Tryz.prog 29 = true := by kernel_rfl
theorem ran29 : Go.Jt.RUNF (Go.Jt.tblO Tryz.prog [(30, .sum Go.Jt.sumTrue), (31, .sum Go.Jt.sumTrue), (206, .clone), (213, .sum Go.Jt.sumOn)]) 100000 (99 + 1) (.fn (.fn (.func 29)) [] []) [] ⟨.lf, 0⟩ (fun v _ => Go.Jt.same1 v (.bool true)) = true := by kernel_rfl
theorem call29 (w : World) (hg : Go.Jt.GlOK w.heap.size w) : Calls Tryz.prog 29 #[] w fun e w' => e = .returned (.bool true) ∧ Go.RowKit.Below w.heap.size w w' :=
  Go.Jt.closed_lawG mixed sums29 coded29 rfl ran29 w hg
theorem sums5 : Go.Jt.OvS Tryz.prog [(29, .sum Go.Jt.sumTrue), (30, .sum Go.Jt.sumTrue), (31, .sum Go.Jt.sumTrue), (206, .clone), (213, .sum Go.Jt.sumOn)] := (Go.Jt.OvS.sum 29 _ _ (Go.Jt.sumTrue_sound coded29 call29) (Go.Jt.OvS.sum 30 _ _ (Go.Jt.sumTrue_sound coded30 call30) (Go.Jt.OvS.sum 31 _ _ (Go.Jt.sumTrue_sound coded31 call31) (Go.Jt.OvS.clone 206 _ cloned (Go.Jt.OvS.sum 213 _ _ (Go.Jt.sumOn_sound mixed digIR) Go.Jt.OvS.nil)))))
theorem coded5 : Go.Jt.isCode Tryz.prog 5 = true := by kernel_rfl
theorem ran5 : Go.Jt.RUNF (Go.Jt.tblO Tryz.prog [(29, .sum Go.Jt.sumTrue), (30, .sum Go.Jt.sumTrue), (31, .sum Go.Jt.sumTrue), (206, .clone), (213, .sum Go.Jt.sumOn)]) 100000 (99 + 1) (.fn (.fn (.func 5)) [] []) [] ⟨.lf, 0⟩ (fun v _ => Go.Jt.same1 v (.bool true)) = true := by kernel_rfl
theorem call5 (w : World) (hg : Go.Jt.GlOK w.heap.size w) : Calls Tryz.prog 5 #[] w fun e w' => e = .returned (.bool true) ∧ Go.RowKit.Below w.heap.size w w' :=
  Go.Jt.closed_lawG mixed sums5 coded5 rfl ran5 w hg
theorem sums3 : Go.Jt.OvS Tryz.prog [(5, .sum Go.Jt.sumTrue), (29, .sum Go.Jt.sumTrue), (30, .sum Go.Jt.sumTrue), (31, .sum Go.Jt.sumTrue), (206, .clone), (213, .sum Go.Jt.sumOn)] := (Go.Jt.OvS.sum 5 _ _ (Go.Jt.sumTrue_sound coded5 call5) (Go.Jt.OvS.sum 29 _ _ (Go.Jt.sumTrue_sound coded29 call29) (Go.Jt.OvS.sum 30 _ _ (Go.Jt.sumTrue_sound coded30 call30) (Go.Jt.OvS.sum 31 _ _ (Go.Jt.sumTrue_sound coded31 call31) (Go.Jt.OvS.clone 206 _ cloned (Go.Jt.OvS.sum 213 _ _ (Go.Jt.sumOn_sound mixed digIR) Go.Jt.OvS.nil))))))
theorem coded3 : Go.Jt.isCode Tryz.prog 3 = true := by kernel_rfl
theorem ran3 : Go.Jt.RUNF (Go.Jt.tblO Tryz.prog [(5, .sum Go.Jt.sumTrue), (29, .sum Go.Jt.sumTrue), (30, .sum Go.Jt.sumTrue), (31, .sum Go.Jt.sumTrue), (206, .clone), (213, .sum Go.Jt.sumOn)]) 100000 (99 + 1) (.fn (.fn (.func 3)) [] []) [] ⟨.lf, 0⟩ (fun v _ => Go.Jt.same1 v (.bool true)) = true := by kernel_rfl
theorem call3 (w : World) (hg : Go.Jt.GlOK w.heap.size w) : Calls Tryz.prog 3 #[] w fun e w' => e = .returned (.bool true) ∧ Go.RowKit.Below w.heap.size w w' :=
  Go.Jt.closed_lawG mixed sums3 coded3 rfl ran3 w hg
end Go.Proofs.YtieplicboglnlaaGreatDoor.txgNames
