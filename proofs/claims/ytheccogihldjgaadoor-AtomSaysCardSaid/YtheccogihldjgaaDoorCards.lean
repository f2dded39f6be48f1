/-
  DERIVED. GIVEN WITH THE SEED: THE CARDS: each row of YtheccogihldjgaaDoorRows.lean that lists a variable, with what it lists TIED to the program's text (the seventh form; the later family's looks); each row that meets fmt, with fmt's text TOLD by the authors' own Lean function (tested against real Go, not proved from fmt's source: count such statements apart). THE CARD IS WHAT COUNTS. Prove the row's statement (the work); the ties are given (YtheccogihldjgaaDoorTie.lean); close each card by the builder's one call (the guide's Derived/Test/ToyasCard.lean, 'card_holds'). Laid BY PROGRAM, IN A SANDBOX (cutbox-door.mjs). By AI agents, Wed Nov 11 2026. No macro, syntax, notation, axiom, sorry.
-/
import Derived.Test.YtheccogihldjgaaDoorRows
import GoSem.ClaimSeven
namespace Go.Proofs.YtheccogihldjgaaDoor
namespace Rows

/-- THE TIED CARD OF 'quartermasterlaw.AtomBack'. -/
def atomBackCard : Claim7 := { stood := { row := atomBackRow, standIns := [], harness := (true, "e2b2bd1c081d40ae3ade9e41448bdc33c1844ef05120b3cbed710468da67dd49"), looks := true }, kinds := [], alts := [], laidByText := true, laidKinds := [.data, .data, .data, .sentinel, .sentinel], laidTests := true, laidLooks := .later }
def AtomBackCardSaid : Prop := Claim7.holds Tryd.pinned (.plain (OpenSpec.ofChange atomBackSpec)) atomBackCard

/-- THE TIED CARD OF 'quartermasterlaw.AtomParts'. -/
def atomPartsCard : Claim7 := { stood := { row := atomPartsRow, standIns := [], harness := (true, "e2b2bd1c081d40ae3ade9e41448bdc33c1844ef05120b3cbed710468da67dd49"), looks := true }, kinds := [], alts := [], laidByText := true, laidKinds := [.data, .data, .data, .sentinel, .sentinel], laidTests := true, laidLooks := .later }
def AtomPartsCardSaid : Prop := Claim7.holds Tryd.pinned (.plain (OpenSpec.ofChange atomPartsSpec)) atomPartsCard

/-- THE TIED CARD OF 'quartermasterlaw.AtomSays'. -/
def atomSaysCard : Claim7 := { stood := { row := atomSaysRow, standIns := [], harness := (true, "e2b2bd1c081d40ae3ade9e41448bdc33c1844ef05120b3cbed710468da67dd49"), looks := true }, kinds := [], alts := [], laidByText := true, laidKinds := [.data, .data, .data, .data, .sentinel, .sentinel, .pinned], laidTests := true, laidLooks := .later }
def AtomSaysCardSaid : Prop := Claim7.holds Tryd.pinned (.plain (OpenSpec.ofChange atomSaysSpec)) atomSaysCard

/-- THE SECOND FORM's CARD OF 'quartermasterlaw.AtomBack'. -/
def atomBackUptoCard : Claim7 := { stood := { row := atomBackUptoRow, standIns := [], harness := (true, "e2b2bd1c081d40ae3ade9e41448bdc33c1844ef05120b3cbed710468da67dd49"), looks := true }, kinds := [], alts := [], laidByText := true, laidKinds := [.data, .data, .data, .sentinel, .sentinel], laidTests := true, laidLooks := .later }
def AtomBackUptoCardSaid : Prop := Claim7.holds Tryd.pinned (.plain (OpenSpec.upto atomBackSpec)) atomBackUptoCard

/-- THE SECOND FORM's CARD OF 'quartermasterlaw.AtomParts'. -/
def atomPartsUptoCard : Claim7 := { stood := { row := atomPartsUptoRow, standIns := [], harness := (true, "e2b2bd1c081d40ae3ade9e41448bdc33c1844ef05120b3cbed710468da67dd49"), looks := true }, kinds := [], alts := [], laidByText := true, laidKinds := [.data, .data, .data, .sentinel, .sentinel], laidTests := true, laidLooks := .later }
def AtomPartsUptoCardSaid : Prop := Claim7.holds Tryd.pinned (.plain (OpenSpec.upto atomPartsSpec)) atomPartsUptoCard

/-- THE SECOND FORM's CARD OF 'quartermasterlaw.AtomSays'. -/
def atomSaysUptoCard : Claim7 := { stood := { row := atomSaysUptoRow, standIns := [], harness := (true, "e2b2bd1c081d40ae3ade9e41448bdc33c1844ef05120b3cbed710468da67dd49"), looks := true }, kinds := [], alts := [], laidByText := true, laidKinds := [.data, .data, .data, .data, .sentinel, .sentinel, .pinned], laidTests := true, laidLooks := .later }
def AtomSaysUptoCardSaid : Prop := Claim7.holds Tryd.pinned (.plain (OpenSpec.upto atomSaysSpec)) atomSaysUptoCard
end Rows
end Go.Proofs.YtheccogihldjgaaDoor
