/-
  DERIVED. GIVEN WITH THE SEED: THE CARDS: each row of YtijmfddcaklemaaGreatDoorRows.lean that lists a variable, with what it lists TIED to the program's text (the seventh form; the later family's looks); each row that meets fmt, with fmt's text TOLD by the authors' own Lean function (tested against real Go, not proved from fmt's source: count such statements apart). THE CARD IS WHAT COUNTS. Prove the row's statement (the work); the ties are given (YtijmfddcaklemaaGreatDoorTie.lean); close each card by the builder's one call (the guide's Derived/Test/ToyasCard.lean, 'card_holds'). Laid BY PROGRAM, IN A SANDBOX (cutbox-door.mjs). By AI agents, Wed Nov 11 2026. No macro, syntax, notation, axiom, sorry.
-/
import Derived.Test.YtijmfddcaklemaaGreatDoorRows
import GoSem.ClaimSeven
namespace Go.Proofs.YtijmfddcaklemaaGreatDoor
namespace Rows

/-- THE TIED CARD OF 'jettylaw14.WalkNames'. -/
def walkNamesCard : Claim7 := { stood := { row := walkNamesRow, standIns := [], harness := (true, "aefd071818eea1313b04e85570b6360abe342f6355afa91e2cab73072219b592"), looks := false }, kinds := [], alts := [], laidByText := true, laidKinds := [.data], laidTests := true, laidLooks := .later }
def WalkNamesCardSaid : Prop := Claim7.holds Tryz.pinned (.plain (OpenSpec.ofChange walkNamesSpec)) walkNamesCard

/-- THE TIED CARD OF 'jettylaw21.ExtentNames'. -/
def extentNamesCard : Claim7 := { stood := { row := extentNamesRow, standIns := [], harness := (true, "aefd071818eea1313b04e85570b6360abe342f6355afa91e2cab73072219b592"), looks := false }, kinds := [], alts := [], laidByText := true, laidKinds := [.data, .data, .pinned], laidTests := true, laidLooks := .later }
def ExtentNamesCardSaid : Prop := Claim7.holds Tryz.pinned (.plain (OpenSpec.ofChange extentNamesSpec)) extentNamesCard

/-- THE TIED CARD OF 'jettylaw27.DrcNames'. -/
def drcNamesCard : Claim7 := { stood := { row := drcNamesRow, standIns := [], harness := (true, "aefd071818eea1313b04e85570b6360abe342f6355afa91e2cab73072219b592"), looks := false }, kinds := [], alts := [], laidByText := true, laidKinds := [.data], laidTests := true, laidLooks := .later }
def DrcNamesCardSaid : Prop := Claim7.holds Tryz.pinned (.plain (OpenSpec.ofChange drcNamesSpec)) drcNamesCard

/-- THE SECOND FORM's CARD OF 'jettylaw14.WalkNames'. -/
def walkNamesUptoCard : Claim7 := { stood := { row := walkNamesUptoRow, standIns := [], harness := (true, "aefd071818eea1313b04e85570b6360abe342f6355afa91e2cab73072219b592"), looks := false }, kinds := [], alts := [], laidByText := true, laidKinds := [.data], laidTests := true, laidLooks := .later }
def WalkNamesUptoCardSaid : Prop := Claim7.holds Tryz.pinned (.plain (OpenSpec.upto walkNamesSpec)) walkNamesUptoCard

/-- THE SECOND FORM's CARD OF 'jettylaw21.ExtentNames'. -/
def extentNamesUptoCard : Claim7 := { stood := { row := extentNamesUptoRow, standIns := [], harness := (true, "aefd071818eea1313b04e85570b6360abe342f6355afa91e2cab73072219b592"), looks := false }, kinds := [], alts := [], laidByText := true, laidKinds := [.data, .data, .pinned], laidTests := true, laidLooks := .later }
def ExtentNamesUptoCardSaid : Prop := Claim7.holds Tryz.pinned (.plain (OpenSpec.upto extentNamesSpec)) extentNamesUptoCard

/-- THE SECOND FORM's CARD OF 'jettylaw27.DrcNames'. -/
def drcNamesUptoCard : Claim7 := { stood := { row := drcNamesUptoRow, standIns := [], harness := (true, "aefd071818eea1313b04e85570b6360abe342f6355afa91e2cab73072219b592"), looks := false }, kinds := [], alts := [], laidByText := true, laidKinds := [.data], laidTests := true, laidLooks := .later }
def DrcNamesUptoCardSaid : Prop := Claim7.holds Tryz.pinned (.plain (OpenSpec.upto drcNamesSpec)) drcNamesUptoCard
end Rows
end Go.Proofs.YtijmfddcaklemaaGreatDoor
