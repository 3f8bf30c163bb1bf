/-
  No cell of these rows narrows 'for every input' (looked for: loops, veiled, ifaces, maps, wideKeys, modest, calm, conditions, laid).
  DERIVED. THE GIVEN ROWS OF THIS SEAT. 6 by the template 'for every input the law returns true; each argument reads behind the call as it read before'; 0 by the template 'total and deterministic' (their statements: YtlhlgmodhblplaaTotals.lean).
  GIVEN WITH THE SEED: the statements are not yours to turn. If you find one false, say at which input.
  Laid BY PROGRAM, IN A SANDBOX (cutbox-rows.mjs): the forced cells as the released guide's own fill.sh prints them over the translation 7160e90400ee4f84… (all of the seat's roots in one cut). By AI agents, Wed Nov 11 2026. No macro, syntax, notation, axiom, sorry.
-/
import Derived.Test.YtlhlgmodhblplaaChecked
import GoSem.Claim
import GoSem.ClaimJoined
import GoSem.ClaimMapViews
import Derived.JoinedTies
import Derived.KernelRfl
namespace Go.Proofs.Ytlhlgmodhblplaa
/- THE CELL 'sum', in the pinned program and in every row, IS THE sha256 OF THE DUMP (.gsa) THAT YtlhlgmodhblplaaProg.lean LOADS. Nothing in Lean hashes anything: it is a label: what it is worth is what the hold of that sum in a sandbox is worth. -/
noncomputable def Try.pinned : Pinned := { name := "ytlhlgmodhblplaa", sum := "7160e90400ee4f848c05a90d691a353bb58116e0fb79ec7315c9a9a8769909ac", checked := Try.checked }
namespace Rows
def none {H : Type} : Left H := { results := [], args := [] }

/-- 'jettylaw27.DrcSums': WHATEVER THE INPUT: true; the input reads as it did. -/
def drcSumsSpec : ChangeSpec := { name := "drcSums", fn := fun _ => fun
  | [d1, d2] => { results := [.lit (.bool true)], args := [d1, d2] }
  | _ => none }
def drcSumsRow : OpenClaim := { program := "ytlhlgmodhblplaa", sum := "7160e90400ee4f848c05a90d691a353bb58116e0fb79ec7315c9a9a8769909ac", func := "jetty/jettylaw27.DrcSums", spec := "drcSums", apart := false }
def DrcSumsSaid : Prop := drcSumsRow.holds Try.pinned (OpenSpec.ofChange drcSumsSpec)

/-- ITS FALSE NEIGHBOUR: 'it returns false'. Refute it at one input. -/
def drcSumsWrong : ChangeSpec := { name := "drcSums", fn := fun _ => fun
  | [d1, d2] => { results := [.lit (.bool false)], args := [d1, d2] }
  | _ => none }
def DrcSumsWrongFalsely : Prop := drcSumsRow.holds Try.pinned (OpenSpec.ofChange drcSumsWrong)

/-- 'jettylaw10.SpaceOnce': WHATEVER THE INPUT: true; the input reads as it did. -/
def spaceOnceSpec : ChangeSpec := { name := "spaceOnce", fn := fun _ => fun
  | [d1, d2] => { results := [.lit (.bool true)], args := [d1, d2] }
  | _ => none }
def spaceOnceRow : OpenClaim := { program := "ytlhlgmodhblplaa", sum := "7160e90400ee4f848c05a90d691a353bb58116e0fb79ec7315c9a9a8769909ac", func := "jetty/jettylaw10.SpaceOnce", spec := "spaceOnce", unfollowed := true, recurses := true, apart := false }
def SpaceOnceSaid : Prop := spaceOnceRow.holds Try.pinned (OpenSpec.ofChange spaceOnceSpec)

/-- ITS FALSE NEIGHBOUR: 'it returns false'. Refute it at one input. -/
def spaceOnceWrong : ChangeSpec := { name := "spaceOnce", fn := fun _ => fun
  | [d1, d2] => { results := [.lit (.bool false)], args := [d1, d2] }
  | _ => none }
def SpaceOnceWrongFalsely : Prop := spaceOnceRow.holds Try.pinned (OpenSpec.ofChange spaceOnceWrong)

/-- 'jettylaw10.SpaceNames': WHATEVER THE INPUT: true; the input reads as it did. -/
def spaceNamesSpec : ChangeSpec := { name := "spaceNames", fn := fun _ => fun
  | [] => { results := [.lit (.bool true)], args := [] }
  | _ => none }
def spaceNamesRow : OpenClaim := { program := "ytlhlgmodhblplaa", sum := "7160e90400ee4f848c05a90d691a353bb58116e0fb79ec7315c9a9a8769909ac", func := "jetty/jettylaw10.SpaceNames", spec := "spaceNames", unfollowed := true, recurses := true, apart := false }
def SpaceNamesSaid : Prop := spaceNamesRow.holds Try.pinned (OpenSpec.ofChange spaceNamesSpec)

/-- ITS FALSE NEIGHBOUR: 'it returns false'. Refute it at one input. -/
def spaceNamesWrong : ChangeSpec := { name := "spaceNames", fn := fun _ => fun
  | [] => { results := [.lit (.bool false)], args := [] }
  | _ => none }
def SpaceNamesWrongFalsely : Prop := spaceNamesRow.holds Try.pinned (OpenSpec.ofChange spaceNamesWrong)

/-- 'jettylaw18.LocksFair': WHATEVER THE INPUT: true; the input reads as it did. -/
def locksFairSpec : ChangeSpec := { name := "locksFair", fn := fun _ => fun
  | [d] => { results := [.lit (.bool true)], args := [d] }
  | _ => none }
def locksFairRow : OpenClaim := { program := "ytlhlgmodhblplaa", sum := "7160e90400ee4f848c05a90d691a353bb58116e0fb79ec7315c9a9a8769909ac", func := "jetty/jettylaw18.LocksFair", spec := "locksFair", unfollowed := true, recurses := true, apart := false }
def LocksFairSaid : Prop := locksFairRow.holds Try.pinned (OpenSpec.ofChange locksFairSpec)

/-- ITS FALSE NEIGHBOUR: 'it returns false'. Refute it at one input. -/
def locksFairWrong : ChangeSpec := { name := "locksFair", fn := fun _ => fun
  | [d] => { results := [.lit (.bool false)], args := [d] }
  | _ => none }
def LocksFairWrongFalsely : Prop := locksFairRow.holds Try.pinned (OpenSpec.ofChange locksFairWrong)

/-- 'jettylaw18.LocksPlays': WHATEVER THE INPUT: true; the input reads as it did. -/
def locksPlaysSpec : ChangeSpec := { name := "locksPlays", fn := fun _ => fun
  | [d] => { results := [.lit (.bool true)], args := [d] }
  | _ => none }
def locksPlaysRow : OpenClaim := { program := "ytlhlgmodhblplaa", sum := "7160e90400ee4f848c05a90d691a353bb58116e0fb79ec7315c9a9a8769909ac", func := "jetty/jettylaw18.LocksPlays", spec := "locksPlays", unfollowed := true, recurses := true, apart := false }
def LocksPlaysSaid : Prop := locksPlaysRow.holds Try.pinned (OpenSpec.ofChange locksPlaysSpec)

/-- ITS FALSE NEIGHBOUR: 'it returns false'. Refute it at one input. -/
def locksPlaysWrong : ChangeSpec := { name := "locksPlays", fn := fun _ => fun
  | [d] => { results := [.lit (.bool false)], args := [d] }
  | _ => none }
def LocksPlaysWrongFalsely : Prop := locksPlaysRow.holds Try.pinned (OpenSpec.ofChange locksPlaysWrong)

/-- 'jettylaw18.LocksNames': WHATEVER THE INPUT: true; the input reads as it did. -/
def locksNamesSpec : ChangeSpec := { name := "locksNames", fn := fun _ => fun
  | [] => { results := [.lit (.bool true)], args := [] }
  | _ => none }
def locksNamesRow : OpenClaim := { program := "ytlhlgmodhblplaa", sum := "7160e90400ee4f848c05a90d691a353bb58116e0fb79ec7315c9a9a8769909ac", func := "jetty/jettylaw18.LocksNames", spec := "locksNames", unfollowed := true, recurses := true, apart := false }
def LocksNamesSaid : Prop := locksNamesRow.holds Try.pinned (OpenSpec.ofChange locksNamesSpec)

/-- ITS FALSE NEIGHBOUR: 'it returns false'. Refute it at one input. -/
def locksNamesWrong : ChangeSpec := { name := "locksNames", fn := fun _ => fun
  | [] => { results := [.lit (.bool false)], args := [] }
  | _ => none }
def LocksNamesWrongFalsely : Prop := locksNamesRow.holds Try.pinned (OpenSpec.ofChange locksNamesWrong)

/- THE SECOND FORM. 'bulk': how many values and letters a reading holds, each counted each time it is reached (what is shared counts as often as it is met; a slice's spare places count too). A statement '..UptoSaid' is the law's where the arguments, and the package variables that the reading takes, are together of bulk at most 1048576: NARROWER than '..Said'. Prove '..Said' where nothing that the law and all that it calls make is longer than what came in: it says more and counts as full. Else prove '..UptoSaid'. A law counts once. -/
mutual
def uptoBulk {H : Type} : DataW H → Nat
  | .lit (.string bytes) => bytes.length + 1
  | .lit _ => 1
  | .nil => 1
  | .ptr d => uptoBulk d + 1
  | .slice elems spare => uptoBulkAll elems + uptoBulkAll spare + 1
  | .agg parts => uptoBulkAll parts + 1
  | .iface _ d => uptoBulk d + 1
  | .map entries => uptoBulkEntries entries + 1
  | .held _ => 1
def uptoBulkAll {H : Type} : List (DataW H) → Nat
  | [] => 0
  | d :: r => uptoBulk d + uptoBulkAll r
def uptoBulkEntries {H : Type} : List (Lit × DataW H) → Nat
  | [] => 0
  | x :: r => uptoBulkEntry x + uptoBulkEntries r
def uptoBulkEntry {H : Type} : Lit × DataW H → Nat
  | (.string bytes, d) => bytes.length + uptoBulk d + 1
  | (_, d) => uptoBulk d + 1
 end
def uptoSmall : (H : Type) → List (DataW H) → Bool := fun _ ds => decide (uptoBulkAll ds ≤ 1048576)
def OpenSpec.upto (s : _root_.Go.ChangeSpec) : _root_.Go.OpenSpec := { _root_.Go.OpenSpec.ofChange s with cond := some uptoSmall }

/-- 'jettylaw27.DrcSums', WHERE WHAT IT READS IS OF BULK AT MOST 1048576: true; the input reads as it did. -/
def drcSumsUptoRow : OpenClaim := { program := "ytlhlgmodhblplaa", sum := "7160e90400ee4f848c05a90d691a353bb58116e0fb79ec7315c9a9a8769909ac", func := "jetty/jettylaw27.DrcSums", spec := "drcSums", apart := false, narrowed := true }
def DrcSumsUptoSaid : Prop := drcSumsUptoRow.holds Try.pinned (OpenSpec.upto drcSumsSpec)

/-- 'jettylaw10.SpaceOnce', WHERE WHAT IT READS IS OF BULK AT MOST 1048576: true; the input reads as it did. -/
def spaceOnceUptoRow : OpenClaim := { program := "ytlhlgmodhblplaa", sum := "7160e90400ee4f848c05a90d691a353bb58116e0fb79ec7315c9a9a8769909ac", func := "jetty/jettylaw10.SpaceOnce", spec := "spaceOnce", unfollowed := true, recurses := true, apart := false, narrowed := true }
def SpaceOnceUptoSaid : Prop := spaceOnceUptoRow.holds Try.pinned (OpenSpec.upto spaceOnceSpec)

/-- 'jettylaw10.SpaceNames', WHERE WHAT IT READS IS OF BULK AT MOST 1048576: true; the input reads as it did. -/
def spaceNamesUptoRow : OpenClaim := { program := "ytlhlgmodhblplaa", sum := "7160e90400ee4f848c05a90d691a353bb58116e0fb79ec7315c9a9a8769909ac", func := "jetty/jettylaw10.SpaceNames", spec := "spaceNames", unfollowed := true, recurses := true, apart := false, narrowed := true }
def SpaceNamesUptoSaid : Prop := spaceNamesUptoRow.holds Try.pinned (OpenSpec.upto spaceNamesSpec)

/-- 'jettylaw18.LocksFair', WHERE WHAT IT READS IS OF BULK AT MOST 1048576: true; the input reads as it did. -/
def locksFairUptoRow : OpenClaim := { program := "ytlhlgmodhblplaa", sum := "7160e90400ee4f848c05a90d691a353bb58116e0fb79ec7315c9a9a8769909ac", func := "jetty/jettylaw18.LocksFair", spec := "locksFair", unfollowed := true, recurses := true, apart := false, narrowed := true }
def LocksFairUptoSaid : Prop := locksFairUptoRow.holds Try.pinned (OpenSpec.upto locksFairSpec)

/-- 'jettylaw18.LocksPlays', WHERE WHAT IT READS IS OF BULK AT MOST 1048576: true; the input reads as it did. -/
def locksPlaysUptoRow : OpenClaim := { program := "ytlhlgmodhblplaa", sum := "7160e90400ee4f848c05a90d691a353bb58116e0fb79ec7315c9a9a8769909ac", func := "jetty/jettylaw18.LocksPlays", spec := "locksPlays", unfollowed := true, recurses := true, apart := false, narrowed := true }
def LocksPlaysUptoSaid : Prop := locksPlaysUptoRow.holds Try.pinned (OpenSpec.upto locksPlaysSpec)

/-- 'jettylaw18.LocksNames', WHERE WHAT IT READS IS OF BULK AT MOST 1048576: true; the input reads as it did. -/
def locksNamesUptoRow : OpenClaim := { program := "ytlhlgmodhblplaa", sum := "7160e90400ee4f848c05a90d691a353bb58116e0fb79ec7315c9a9a8769909ac", func := "jetty/jettylaw18.LocksNames", spec := "locksNames", unfollowed := true, recurses := true, apart := false, narrowed := true }
def LocksNamesUptoSaid : Prop := locksNamesUptoRow.holds Try.pinned (OpenSpec.upto locksNamesSpec)

end Rows
end Go.Proofs.Ytlhlgmodhblplaa
