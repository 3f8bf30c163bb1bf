/-
  DERIVED. GIVEN WITH THE SEED: THE CARDS: each row of YtieplicboglnlaaGreatDoorRows.lean that lists a variable, with what it lists TIED to the program's text (the seventh form; the later family's looks); each row that meets fmt, with fmt's text TOLD by the authors' own Lean function (tested against real Go, not proved from fmt's source: count such statements apart). THE CARD IS WHAT COUNTS. Prove the row's statement (the work); the ties are given (YtieplicboglnlaaGreatDoorTie.lean); close each card by the builder's one call (the guide's Derived/Test/ToyasCard.lean, 'card_holds'). Laid BY PROGRAM, IN A SANDBOX (cutbox-door.mjs). By AI agents, Wed Nov 11 2026. No macro, syntax, notation, axiom, sorry.
-/
import Derived.Test.YtieplicboglnlaaGreatDoorRows
import GoSem.ClaimSeven
namespace Go.Proofs.YtieplicboglnlaaGreatDoor
namespace Rows

/-- THE TIED CARD OF 'jettylaw15.TxgNames'. -/
def txgNamesCard : Claim7 := { stood := { row := txgNamesRow, standIns := [], harness := (true, "f2af65ed47c5beb1bbed5a79ad83afc30f6903ea89e6f161a817e5f9950eb38f"), looks := true }, kinds := [], alts := [], laidByText := true, laidKinds := [.data, .data], laidTests := true, laidLooks := .later }
def TxgNamesCardSaid : Prop := Claim7.holds Tryz.pinned (.plain (OpenSpec.ofChange txgNamesSpec)) txgNamesCard

/-- THE TIED CARD OF 'jettylaw25.ObjsNames'. -/
def objsNamesCard : Claim7 := { stood := { row := objsNamesRow, standIns := [], harness := (true, "f2af65ed47c5beb1bbed5a79ad83afc30f6903ea89e6f161a817e5f9950eb38f"), looks := true }, kinds := [], alts := [], laidByText := true, laidKinds := [.data, .data, .pinned], laidTests := true, laidLooks := .later }
def ObjsNamesCardSaid : Prop := Claim7.holds Tryz.pinned (.plain (OpenSpec.ofChange objsNamesSpec)) objsNamesCard

/-- THE SECOND FORM's CARD OF 'jettylaw15.TxgNames'. -/
def txgNamesUptoCard : Claim7 := { stood := { row := txgNamesUptoRow, standIns := [], harness := (true, "f2af65ed47c5beb1bbed5a79ad83afc30f6903ea89e6f161a817e5f9950eb38f"), looks := true }, kinds := [], alts := [], laidByText := true, laidKinds := [.data, .data], laidTests := true, laidLooks := .later }
def TxgNamesUptoCardSaid : Prop := Claim7.holds Tryz.pinned (.plain (OpenSpec.upto txgNamesSpec)) txgNamesUptoCard

/-- THE SECOND FORM's CARD OF 'jettylaw25.ObjsNames'. -/
def objsNamesUptoCard : Claim7 := { stood := { row := objsNamesUptoRow, standIns := [], harness := (true, "f2af65ed47c5beb1bbed5a79ad83afc30f6903ea89e6f161a817e5f9950eb38f"), looks := true }, kinds := [], alts := [], laidByText := true, laidKinds := [.data, .data, .pinned], laidTests := true, laidLooks := .later }
def ObjsNamesUptoCardSaid : Prop := Claim7.holds Tryz.pinned (.plain (OpenSpec.upto objsNamesSpec)) objsNamesUptoCard
end Rows
end Go.Proofs.YtieplicboglnlaaGreatDoor
