/-
  DERIVED. GIVEN WITH THE SEED: THE CARDS: each row of YtnkmonmkhmcgaaaGreatDoorRows.lean that lists a variable, with what it lists TIED to the program's text (the seventh form; the later family's looks); each row that meets fmt, with fmt's text TOLD by the authors' own Lean function (tested against real Go, not proved from fmt's source: count such statements apart). THE CARD IS WHAT COUNTS. Prove the row's statement (the work); the ties are given (YtnkmonmkhmcgaaaGreatDoorTie.lean); close each card by the builder's one call (the guide's Derived/Test/ToyasCard.lean, 'card_holds'). Laid BY PROGRAM, IN A SANDBOX (cutbox-door.mjs). By AI agents, Wed Nov 11 2026. No macro, syntax, notation, axiom, sorry.
-/
import Derived.Test.YtnkmonmkhmcgaaaGreatDoorRows
import GoSem.ClaimSeven
namespace Go.Proofs.YtnkmonmkhmcgaaaGreatDoor
namespace Rows

/-- THE TIED CARD OF 'quartermasterlaw.NeedBack'. -/
def needBackCard : Claim7 := { stood := { row := needBackRow, standIns := [], harness := (true, "fbe920365e8a0e1d066821257ac34aaf338bc98480e9b1d843e1e8690cda28db"), looks := true }, kinds := [], alts := [], laidByText := true, laidKinds := [.data, .data, .data, .data, .sentinel, .sentinel, .pinned], laidTests := true, laidLooks := .later }
def NeedBackCardSaid : Prop := Claim7.holds Tryz.pinned (.plain (OpenSpec.ofChange needBackSpec)) needBackCard

/-- THE TIED CARD OF 'quartermasterlaw.NeedSays'. -/
def needSaysCard : Claim7 := { stood := { row := needSaysRow, standIns := [], harness := (true, "fbe920365e8a0e1d066821257ac34aaf338bc98480e9b1d843e1e8690cda28db"), looks := true }, kinds := [], alts := [], laidByText := true, laidKinds := [.data, .data, .data, .data, .sentinel, .sentinel, .pinned], laidTests := true, laidLooks := .later }
def NeedSaysCardSaid : Prop := Claim7.holds Tryz.pinned (.plain (OpenSpec.ofChange needSaysSpec)) needSaysCard

/-- THE SECOND FORM's CARD OF 'quartermasterlaw.NeedBack'. -/
def needBackUptoCard : Claim7 := { stood := { row := needBackUptoRow, standIns := [], harness := (true, "fbe920365e8a0e1d066821257ac34aaf338bc98480e9b1d843e1e8690cda28db"), looks := true }, kinds := [], alts := [], laidByText := true, laidKinds := [.data, .data, .data, .data, .sentinel, .sentinel, .pinned], laidTests := true, laidLooks := .later }
def NeedBackUptoCardSaid : Prop := Claim7.holds Tryz.pinned (.plain (OpenSpec.upto needBackSpec)) needBackUptoCard

/-- THE SECOND FORM's CARD OF 'quartermasterlaw.NeedSays'. -/
def needSaysUptoCard : Claim7 := { stood := { row := needSaysUptoRow, standIns := [], harness := (true, "fbe920365e8a0e1d066821257ac34aaf338bc98480e9b1d843e1e8690cda28db"), looks := true }, kinds := [], alts := [], laidByText := true, laidKinds := [.data, .data, .data, .data, .sentinel, .sentinel, .pinned], laidTests := true, laidLooks := .later }
def NeedSaysUptoCardSaid : Prop := Claim7.holds Tryz.pinned (.plain (OpenSpec.upto needSaysSpec)) needSaysUptoCard
end Rows
end Go.Proofs.YtnkmonmkhmcgaaaGreatDoor
