/-
  DERIVED. GIVEN WITH THE SEED: THE CARDS: each row of YtokibfankmjphaaGreatDoorRows.lean that lists a variable, with what it lists TIED to the program's text (the seventh form; the later family's looks); each row that meets fmt, with fmt's text TOLD by the authors' own Lean function (tested against real Go, not proved from fmt's source: count such statements apart). THE CARD IS WHAT COUNTS. Prove the row's statement (the work); the ties are given (YtokibfankmjphaaGreatDoorTie.lean); close each card by the builder's one call (the guide's Derived/Test/ToyasCard.lean, 'card_holds'). Laid BY PROGRAM, IN A SANDBOX (cutbox-door.mjs). By AI agents, Wed Nov 11 2026. No macro, syntax, notation, axiom, sorry.
-/
import Derived.Test.YtokibfankmjphaaGreatDoorRows
import GoSem.ClaimSeven
namespace Go.Proofs.YtokibfankmjphaaGreatDoor
namespace Rows

/-- THE TIED CARD OF 'quartermasterlaw.ValidLess'. -/
def validLessCard : Claim7 := { stood := { row := validLessRow, standIns := [], harness := (true, "cec583ceaab5278bb03fbe1ae081820dd79ff0955c97971e41398bc7943a0907"), looks := true }, kinds := [], alts := [], laidByText := true, laidKinds := [.data, .data, .data, .data, .sentinel, .sentinel, .pinned], laidTests := true, laidLooks := .later }
def ValidLessCardSaid : Prop := Claim7.holds Tryz.pinned (.plain (OpenSpec.ofChange validLessSpec)) validLessCard

/-- THE TIED CARD OF 'quartermasterlaw.ValidSays'. -/
def validSaysCard : Claim7 := { stood := { row := validSaysRow, standIns := [], harness := (true, "cec583ceaab5278bb03fbe1ae081820dd79ff0955c97971e41398bc7943a0907"), looks := true }, kinds := [], alts := [], laidByText := true, laidKinds := [.data, .data, .data, .data, .sentinel, .sentinel, .pinned], laidTests := true, laidLooks := .later }
def ValidSaysCardSaid : Prop := Claim7.holds Tryz.pinned (.plain (OpenSpec.ofChange validSaysSpec)) validSaysCard

/-- THE SECOND FORM's CARD OF 'quartermasterlaw.ValidLess'. -/
def validLessUptoCard : Claim7 := { stood := { row := validLessUptoRow, standIns := [], harness := (true, "cec583ceaab5278bb03fbe1ae081820dd79ff0955c97971e41398bc7943a0907"), looks := true }, kinds := [], alts := [], laidByText := true, laidKinds := [.data, .data, .data, .data, .sentinel, .sentinel, .pinned], laidTests := true, laidLooks := .later }
def ValidLessUptoCardSaid : Prop := Claim7.holds Tryz.pinned (.plain (OpenSpec.upto validLessSpec)) validLessUptoCard

/-- THE SECOND FORM's CARD OF 'quartermasterlaw.ValidSays'. -/
def validSaysUptoCard : Claim7 := { stood := { row := validSaysUptoRow, standIns := [], harness := (true, "cec583ceaab5278bb03fbe1ae081820dd79ff0955c97971e41398bc7943a0907"), looks := true }, kinds := [], alts := [], laidByText := true, laidKinds := [.data, .data, .data, .data, .sentinel, .sentinel, .pinned], laidTests := true, laidLooks := .later }
def ValidSaysUptoCardSaid : Prop := Claim7.holds Tryz.pinned (.plain (OpenSpec.upto validSaysSpec)) validSaysUptoCard
end Rows
end Go.Proofs.YtokibfankmjphaaGreatDoor
