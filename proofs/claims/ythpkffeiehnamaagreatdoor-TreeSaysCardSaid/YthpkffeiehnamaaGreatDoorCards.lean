/-
  DERIVED. GIVEN WITH THE SEED: THE CARDS: each row of YthpkffeiehnamaaGreatDoorRows.lean that lists a variable, with what it lists TIED to the program's text (the seventh form; the later family's looks); each row that meets fmt, with fmt's text TOLD by the authors' own Lean function (tested against real Go, not proved from fmt's source: count such statements apart). THE CARD IS WHAT COUNTS. Prove the row's statement (the work); the ties are given (YthpkffeiehnamaaGreatDoorTie.lean); close each card by the builder's one call (the guide's Derived/Test/ToyasCard.lean, 'card_holds'). Laid BY PROGRAM, IN A SANDBOX (cutbox-door.mjs). By AI agents, Wed Nov 11 2026. No macro, syntax, notation, axiom, sorry.
-/
import Derived.Test.YthpkffeiehnamaaGreatDoorRows
import GoSem.ClaimSeven
namespace Go.Proofs.YthpkffeiehnamaaGreatDoor
namespace Rows

/-- THE TIED CARD OF 'quartermasterlaw.TreeMeans'. -/
def treeMeansCard : Claim7 := { stood := { row := treeMeansRow, standIns := [], harness := (true, "35720ca3965c0a4fdcc37caed6adc097dc71da439d7bc34bd6ae94e5bf933574"), looks := true }, kinds := [], alts := [], laidByText := true, laidKinds := [.data, .data, .data, .data, .sentinel, .sentinel, .pinned], laidTests := true, laidLooks := .later }
def TreeMeansCardSaid : Prop := Claim7.holds Tryz.pinned (.plain (OpenSpec.ofChange treeMeansSpec)) treeMeansCard

/-- THE TIED CARD OF 'quartermasterlaw.TreeBack'. -/
def treeBackCard : Claim7 := { stood := { row := treeBackRow, standIns := [], harness := (true, "35720ca3965c0a4fdcc37caed6adc097dc71da439d7bc34bd6ae94e5bf933574"), looks := true }, kinds := [], alts := [], laidByText := true, laidKinds := [.data, .data, .data, .data, .sentinel, .sentinel, .pinned], laidTests := true, laidLooks := .later }
def TreeBackCardSaid : Prop := Claim7.holds Tryz.pinned (.plain (OpenSpec.ofChange treeBackSpec)) treeBackCard

/-- THE TIED CARD OF 'quartermasterlaw.TreeSays'. -/
def treeSaysCard : Claim7 := { stood := { row := treeSaysRow, standIns := [], harness := (true, "35720ca3965c0a4fdcc37caed6adc097dc71da439d7bc34bd6ae94e5bf933574"), looks := true }, kinds := [], alts := [], laidByText := true, laidKinds := [.data, .data, .data, .data, .sentinel, .sentinel, .pinned], laidTests := true, laidLooks := .later }
def TreeSaysCardSaid : Prop := Claim7.holds Tryz.pinned (.plain (OpenSpec.ofChange treeSaysSpec)) treeSaysCard

/-- THE SECOND FORM's CARD OF 'quartermasterlaw.TreeMeans'. -/
def treeMeansUptoCard : Claim7 := { stood := { row := treeMeansUptoRow, standIns := [], harness := (true, "35720ca3965c0a4fdcc37caed6adc097dc71da439d7bc34bd6ae94e5bf933574"), looks := true }, kinds := [], alts := [], laidByText := true, laidKinds := [.data, .data, .data, .data, .sentinel, .sentinel, .pinned], laidTests := true, laidLooks := .later }
def TreeMeansUptoCardSaid : Prop := Claim7.holds Tryz.pinned (.plain (OpenSpec.upto treeMeansSpec)) treeMeansUptoCard

/-- THE SECOND FORM's CARD OF 'quartermasterlaw.TreeBack'. -/
def treeBackUptoCard : Claim7 := { stood := { row := treeBackUptoRow, standIns := [], harness := (true, "35720ca3965c0a4fdcc37caed6adc097dc71da439d7bc34bd6ae94e5bf933574"), looks := true }, kinds := [], alts := [], laidByText := true, laidKinds := [.data, .data, .data, .data, .sentinel, .sentinel, .pinned], laidTests := true, laidLooks := .later }
def TreeBackUptoCardSaid : Prop := Claim7.holds Tryz.pinned (.plain (OpenSpec.upto treeBackSpec)) treeBackUptoCard

/-- THE SECOND FORM's CARD OF 'quartermasterlaw.TreeSays'. -/
def treeSaysUptoCard : Claim7 := { stood := { row := treeSaysUptoRow, standIns := [], harness := (true, "35720ca3965c0a4fdcc37caed6adc097dc71da439d7bc34bd6ae94e5bf933574"), looks := true }, kinds := [], alts := [], laidByText := true, laidKinds := [.data, .data, .data, .data, .sentinel, .sentinel, .pinned], laidTests := true, laidLooks := .later }
def TreeSaysUptoCardSaid : Prop := Claim7.holds Tryz.pinned (.plain (OpenSpec.upto treeSaysSpec)) treeSaysUptoCard
end Rows
end Go.Proofs.YthpkffeiehnamaaGreatDoor
