/-
  No cell of these rows narrows 'for every input' (looked for: loops, veiled, ifaces, maps, wideKeys, modest, calm, conditions, laid).
  DERIVED. THE GIVEN ROWS OF THIS SEAT. 8 by the template 'for every input the law returns true; each argument reads behind the call as it read before'; 0 by the template 'total and deterministic' (their statements: YtehjgplolaekmaaTotals.lean).
  GIVEN WITH THE SEED: the statements are not yours to turn. If you find one false, say at which input.
  Laid BY PROGRAM, IN A SANDBOX (cutbox-rows.mjs): the forced cells as the released guide's own fill.sh prints them over the translation c6711c638271e97f… (all of the seat's roots in one cut). By AI agents, Wed Nov 11 2026. No macro, syntax, notation, axiom, sorry.
-/
import Derived.Test.YtehjgplolaekmaaChecked
import GoSem.Claim
import GoSem.ClaimJoined
import GoSem.ClaimMapViews
import Derived.JoinedTies
import Derived.KernelRfl
namespace Go.Proofs.Ytehjgplolaekmaa
/- THE CELL 'sum', in the pinned program and in every row, IS THE sha256 OF THE DUMP (.gsa) THAT YtehjgplolaekmaaProg.lean LOADS. Nothing in Lean hashes anything: it is a label: what it is worth is what the hold of that sum in a sandbox is worth. -/
noncomputable def Try.pinned : Pinned := { name := "ytehjgplolaekmaa", sum := "c6711c638271e97fda22d03d2a97a66aa056ed293db9573e4c6885834de7cff0", checked := Try.checked }
namespace Rows
def none {H : Type} : Left H := { results := [], args := [] }

/-- 'jettylaw12.NodeBack': WHATEVER THE INPUT: true; the input reads as it did. -/
def nodeBackSpec : ChangeSpec := { name := "nodeBack", fn := fun _ => fun
  | [d1, d2, d3] => { results := [.lit (.bool true)], args := [d1, d2, d3] }
  | _ => none }
def nodeBackRow : OpenClaim := { program := "ytehjgplolaekmaa", sum := "c6711c638271e97fda22d03d2a97a66aa056ed293db9573e4c6885834de7cff0", func := "jetty/jettylaw12.NodeBack", spec := "nodeBack", unfollowed := true, recurses := true, apart := false }
def NodeBackSaid : Prop := nodeBackRow.holds Try.pinned (OpenSpec.ofChange nodeBackSpec)

/-- ITS FALSE NEIGHBOUR: 'it returns false'. Refute it at one input. -/
def nodeBackWrong : ChangeSpec := { name := "nodeBack", fn := fun _ => fun
  | [d1, d2, d3] => { results := [.lit (.bool false)], args := [d1, d2, d3] }
  | _ => none }
def NodeBackWrongFalsely : Prop := nodeBackRow.holds Try.pinned (OpenSpec.ofChange nodeBackWrong)

/-- 'jettylaw19.TasksTurns': WHATEVER THE INPUT: true; the input reads as it did. -/
def tasksTurnsSpec : ChangeSpec := { name := "tasksTurns", fn := fun _ => fun
  | [d1, d2, d3] => { results := [.lit (.bool true)], args := [d1, d2, d3] }
  | _ => none }
def tasksTurnsRow : OpenClaim := { program := "ytehjgplolaekmaa", sum := "c6711c638271e97fda22d03d2a97a66aa056ed293db9573e4c6885834de7cff0", func := "jetty/jettylaw19.TasksTurns", spec := "tasksTurns", unfollowed := true, recurses := true, apart := false }
def TasksTurnsSaid : Prop := tasksTurnsRow.holds Try.pinned (OpenSpec.ofChange tasksTurnsSpec)

/-- ITS FALSE NEIGHBOUR: 'it returns false'. Refute it at one input. -/
def tasksTurnsWrong : ChangeSpec := { name := "tasksTurns", fn := fun _ => fun
  | [d1, d2, d3] => { results := [.lit (.bool false)], args := [d1, d2, d3] }
  | _ => none }
def TasksTurnsWrongFalsely : Prop := tasksTurnsRow.holds Try.pinned (OpenSpec.ofChange tasksTurnsWrong)

/-- 'jettylaw12.NodeHalves': WHATEVER THE INPUT: true; the input reads as it did. -/
def nodeHalvesSpec : ChangeSpec := { name := "nodeHalves", fn := fun _ => fun
  | [d] => { results := [.lit (.bool true)], args := [d] }
  | _ => none }
def nodeHalvesRow : OpenClaim := { program := "ytehjgplolaekmaa", sum := "c6711c638271e97fda22d03d2a97a66aa056ed293db9573e4c6885834de7cff0", func := "jetty/jettylaw12.NodeHalves", spec := "nodeHalves", unfollowed := true, recurses := true, apart := false }
def NodeHalvesSaid : Prop := nodeHalvesRow.holds Try.pinned (OpenSpec.ofChange nodeHalvesSpec)

/-- ITS FALSE NEIGHBOUR: 'it returns false'. Refute it at one input. -/
def nodeHalvesWrong : ChangeSpec := { name := "nodeHalves", fn := fun _ => fun
  | [d] => { results := [.lit (.bool false)], args := [d] }
  | _ => none }
def NodeHalvesWrongFalsely : Prop := nodeHalvesRow.holds Try.pinned (OpenSpec.ofChange nodeHalvesWrong)

/-- 'jettylaw19.TasksEnd': WHATEVER THE INPUT: true; the input reads as it did. -/
def tasksEndSpec : ChangeSpec := { name := "tasksEnd", fn := fun _ => fun
  | [d1, d2] => { results := [.lit (.bool true)], args := [d1, d2] }
  | _ => none }
def tasksEndRow : OpenClaim := { program := "ytehjgplolaekmaa", sum := "c6711c638271e97fda22d03d2a97a66aa056ed293db9573e4c6885834de7cff0", func := "jetty/jettylaw19.TasksEnd", spec := "tasksEnd", unfollowed := true, recurses := true, apart := false }
def TasksEndSaid : Prop := tasksEndRow.holds Try.pinned (OpenSpec.ofChange tasksEndSpec)

/-- ITS FALSE NEIGHBOUR: 'it returns false'. Refute it at one input. -/
def tasksEndWrong : ChangeSpec := { name := "tasksEnd", fn := fun _ => fun
  | [d1, d2] => { results := [.lit (.bool false)], args := [d1, d2] }
  | _ => none }
def TasksEndWrongFalsely : Prop := tasksEndRow.holds Try.pinned (OpenSpec.ofChange tasksEndWrong)

/-- 'jettylaw19.TasksNames': WHATEVER THE INPUT: true; the input reads as it did. -/
def tasksNamesSpec : ChangeSpec := { name := "tasksNames", fn := fun _ => fun
  | [] => { results := [.lit (.bool true)], args := [] }
  | _ => none }
def tasksNamesRow : OpenClaim := { program := "ytehjgplolaekmaa", sum := "c6711c638271e97fda22d03d2a97a66aa056ed293db9573e4c6885834de7cff0", func := "jetty/jettylaw19.TasksNames", spec := "tasksNames", inPlace := ["maps.clone"], unfollowed := true, recurses := true, apart := false }
def TasksNamesSaid : Prop := tasksNamesRow.holds Try.pinned (OpenSpec.ofChange tasksNamesSpec)

/-- ITS FALSE NEIGHBOUR: 'it returns false'. Refute it at one input. -/
def tasksNamesWrong : ChangeSpec := { name := "tasksNames", fn := fun _ => fun
  | [] => { results := [.lit (.bool false)], args := [] }
  | _ => none }
def TasksNamesWrongFalsely : Prop := tasksNamesRow.holds Try.pinned (OpenSpec.ofChange tasksNamesWrong)

/-- 'jettylaw19.TasksPlay': WHATEVER THE INPUT: true; the input reads as it did. -/
def tasksPlaySpec : ChangeSpec := { name := "tasksPlay", fn := fun _ => fun
  | [d] => { results := [.lit (.bool true)], args := [d] }
  | _ => none }
def tasksPlayRow : OpenClaim := { program := "ytehjgplolaekmaa", sum := "c6711c638271e97fda22d03d2a97a66aa056ed293db9573e4c6885834de7cff0", func := "jetty/jettylaw19.TasksPlay", spec := "tasksPlay", inPlace := ["maps.clone"], unfollowed := true, recurses := true, apart := false }
def TasksPlaySaid : Prop := tasksPlayRow.holds Try.pinned (OpenSpec.ofChange tasksPlaySpec)

/-- ITS FALSE NEIGHBOUR: 'it returns false'. Refute it at one input. -/
def tasksPlayWrong : ChangeSpec := { name := "tasksPlay", fn := fun _ => fun
  | [d] => { results := [.lit (.bool false)], args := [d] }
  | _ => none }
def TasksPlayWrongFalsely : Prop := tasksPlayRow.holds Try.pinned (OpenSpec.ofChange tasksPlayWrong)

/-- 'jettylaw12.NodeMap': WHATEVER THE INPUT: true; the input reads as it did. -/
def nodeMapSpec : ChangeSpec := { name := "nodeMap", fn := fun _ => fun
  | [d] => { results := [.lit (.bool true)], args := [d] }
  | _ => none }
def nodeMapRow : OpenClaim := { program := "ytehjgplolaekmaa", sum := "c6711c638271e97fda22d03d2a97a66aa056ed293db9573e4c6885834de7cff0", func := "jetty/jettylaw12.NodeMap", spec := "nodeMap", inPlace := ["slices.overlaps[string]"], unfollowed := true, recurses := true, apart := false }
def NodeMapSaid : Prop := nodeMapRow.holds Try.pinned (OpenSpec.ofChange nodeMapSpec)

/-- ITS FALSE NEIGHBOUR: 'it returns false'. Refute it at one input. -/
def nodeMapWrong : ChangeSpec := { name := "nodeMap", fn := fun _ => fun
  | [d] => { results := [.lit (.bool false)], args := [d] }
  | _ => none }
def NodeMapWrongFalsely : Prop := nodeMapRow.holds Try.pinned (OpenSpec.ofChange nodeMapWrong)

/-- 'jettylaw12.NodeNames': WHATEVER THE INPUT: true; the input reads as it did. -/
def nodeNamesSpec : ChangeSpec := { name := "nodeNames", fn := fun _ => fun
  | [] => { results := [.lit (.bool true)], args := [] }
  | _ => none }
def nodeNamesRow : OpenClaim := { program := "ytehjgplolaekmaa", sum := "c6711c638271e97fda22d03d2a97a66aa056ed293db9573e4c6885834de7cff0", func := "jetty/jettylaw12.NodeNames", spec := "nodeNames", inPlace := ["slices.overlaps[string]"], unfollowed := true, recurses := true, apart := false }
def NodeNamesSaid : Prop := nodeNamesRow.holds Try.pinned (OpenSpec.ofChange nodeNamesSpec)

/-- ITS FALSE NEIGHBOUR: 'it returns false'. Refute it at one input. -/
def nodeNamesWrong : ChangeSpec := { name := "nodeNames", fn := fun _ => fun
  | [] => { results := [.lit (.bool false)], args := [] }
  | _ => none }
def NodeNamesWrongFalsely : Prop := nodeNamesRow.holds Try.pinned (OpenSpec.ofChange nodeNamesWrong)

/- THE SECOND FORM. 'bulk': how many values and letters a reading holds, each counted each time it is reached (what is shared counts as often as it is met; a slice's spare places count too). A statement '..UptoSaid' is the law's where the arguments, and the package variables that the reading takes, are together of bulk at most 1048576: NARROWER than '..Said'. Prove '..Said' where nothing that the law and all that it calls make is longer than what came in: it says more and counts as full. Else prove '..UptoSaid'. A law counts once. -/
mutual
def uptoBulk {H : Type} : DataW H → Nat
  | .lit (.string bytes) => bytes.length + 1
  | .lit _ => 1
  | .nil => 1
  | .ptr d => uptoBulk d + 1
  | .slice elems spare => uptoBulkAll elems + uptoBulkAll spare + 1
  | .agg parts => uptoBulkAll parts + 1
  | .iface _ d => uptoBulk d + 1
  | .map entries => uptoBulkEntries entries + 1
  | .held _ => 1
def uptoBulkAll {H : Type} : List (DataW H) → Nat
  | [] => 0
  | d :: r => uptoBulk d + uptoBulkAll r
def uptoBulkEntries {H : Type} : List (Lit × DataW H) → Nat
  | [] => 0
  | x :: r => uptoBulkEntry x + uptoBulkEntries r
def uptoBulkEntry {H : Type} : Lit × DataW H → Nat
  | (.string bytes, d) => bytes.length + uptoBulk d + 1
  | (_, d) => uptoBulk d + 1
 end
def uptoSmall : (H : Type) → List (DataW H) → Bool := fun _ ds => decide (uptoBulkAll ds ≤ 1048576)
def OpenSpec.upto (s : _root_.Go.ChangeSpec) : _root_.Go.OpenSpec := { _root_.Go.OpenSpec.ofChange s with cond := some uptoSmall }

/-- 'jettylaw12.NodeBack', WHERE WHAT IT READS IS OF BULK AT MOST 1048576: true; the input reads as it did. -/
def nodeBackUptoRow : OpenClaim := { program := "ytehjgplolaekmaa", sum := "c6711c638271e97fda22d03d2a97a66aa056ed293db9573e4c6885834de7cff0", func := "jetty/jettylaw12.NodeBack", spec := "nodeBack", unfollowed := true, recurses := true, apart := false, narrowed := true }
def NodeBackUptoSaid : Prop := nodeBackUptoRow.holds Try.pinned (OpenSpec.upto nodeBackSpec)

/-- 'jettylaw19.TasksTurns', WHERE WHAT IT READS IS OF BULK AT MOST 1048576: true; the input reads as it did. -/
def tasksTurnsUptoRow : OpenClaim := { program := "ytehjgplolaekmaa", sum := "c6711c638271e97fda22d03d2a97a66aa056ed293db9573e4c6885834de7cff0", func := "jetty/jettylaw19.TasksTurns", spec := "tasksTurns", unfollowed := true, recurses := true, apart := false, narrowed := true }
def TasksTurnsUptoSaid : Prop := tasksTurnsUptoRow.holds Try.pinned (OpenSpec.upto tasksTurnsSpec)

/-- 'jettylaw12.NodeHalves', WHERE WHAT IT READS IS OF BULK AT MOST 1048576: true; the input reads as it did. -/
def nodeHalvesUptoRow : OpenClaim := { program := "ytehjgplolaekmaa", sum := "c6711c638271e97fda22d03d2a97a66aa056ed293db9573e4c6885834de7cff0", func := "jetty/jettylaw12.NodeHalves", spec := "nodeHalves", unfollowed := true, recurses := true, apart := false, narrowed := true }
def NodeHalvesUptoSaid : Prop := nodeHalvesUptoRow.holds Try.pinned (OpenSpec.upto nodeHalvesSpec)

/-- 'jettylaw19.TasksEnd', WHERE WHAT IT READS IS OF BULK AT MOST 1048576: true; the input reads as it did. -/
def tasksEndUptoRow : OpenClaim := { program := "ytehjgplolaekmaa", sum := "c6711c638271e97fda22d03d2a97a66aa056ed293db9573e4c6885834de7cff0", func := "jetty/jettylaw19.TasksEnd", spec := "tasksEnd", unfollowed := true, recurses := true, apart := false, narrowed := true }
def TasksEndUptoSaid : Prop := tasksEndUptoRow.holds Try.pinned (OpenSpec.upto tasksEndSpec)

/-- 'jettylaw19.TasksNames', WHERE WHAT IT READS IS OF BULK AT MOST 1048576: true; the input reads as it did. -/
def tasksNamesUptoRow : OpenClaim := { program := "ytehjgplolaekmaa", sum := "c6711c638271e97fda22d03d2a97a66aa056ed293db9573e4c6885834de7cff0", func := "jetty/jettylaw19.TasksNames", spec := "tasksNames", inPlace := ["maps.clone"], unfollowed := true, recurses := true, apart := false, narrowed := true }
def TasksNamesUptoSaid : Prop := tasksNamesUptoRow.holds Try.pinned (OpenSpec.upto tasksNamesSpec)

/-- 'jettylaw19.TasksPlay', WHERE WHAT IT READS IS OF BULK AT MOST 1048576: true; the input reads as it did. -/
def tasksPlayUptoRow : OpenClaim := { program := "ytehjgplolaekmaa", sum := "c6711c638271e97fda22d03d2a97a66aa056ed293db9573e4c6885834de7cff0", func := "jetty/jettylaw19.TasksPlay", spec := "tasksPlay", inPlace := ["maps.clone"], unfollowed := true, recurses := true, apart := false, narrowed := true }
def TasksPlayUptoSaid : Prop := tasksPlayUptoRow.holds Try.pinned (OpenSpec.upto tasksPlaySpec)

/-- 'jettylaw12.NodeMap', WHERE WHAT IT READS IS OF BULK AT MOST 1048576: true; the input reads as it did. -/
def nodeMapUptoRow : OpenClaim := { program := "ytehjgplolaekmaa", sum := "c6711c638271e97fda22d03d2a97a66aa056ed293db9573e4c6885834de7cff0", func := "jetty/jettylaw12.NodeMap", spec := "nodeMap", inPlace := ["slices.overlaps[string]"], unfollowed := true, recurses := true, apart := false, narrowed := true }
def NodeMapUptoSaid : Prop := nodeMapUptoRow.holds Try.pinned (OpenSpec.upto nodeMapSpec)

/-- 'jettylaw12.NodeNames', WHERE WHAT IT READS IS OF BULK AT MOST 1048576: true; the input reads as it did. -/
def nodeNamesUptoRow : OpenClaim := { program := "ytehjgplolaekmaa", sum := "c6711c638271e97fda22d03d2a97a66aa056ed293db9573e4c6885834de7cff0", func := "jetty/jettylaw12.NodeNames", spec := "nodeNames", inPlace := ["slices.overlaps[string]"], unfollowed := true, recurses := true, apart := false, narrowed := true }
def NodeNamesUptoSaid : Prop := nodeNamesUptoRow.holds Try.pinned (OpenSpec.upto nodeNamesSpec)

end Rows
end Go.Proofs.Ytehjgplolaekmaa
