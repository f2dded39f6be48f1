/-
  DERIVED. GIVEN WITH THE SEED: THE CARDS: each row of YtedbhlgjcnnknaaGreatDoorRows.lean that lists a variable, with what it lists TIED to the program's text (the seventh form; the later family's looks); each row that meets fmt, with fmt's text TOLD by the authors' own Lean function (tested against real Go, not proved from fmt's source: count such statements apart). THE CARD IS WHAT COUNTS. Prove the row's statement (the work); the ties are given (YtedbhlgjcnnknaaGreatDoorTie.lean); close each card by the builder's one call (the guide's Derived/Test/ToyasCard.lean, 'card_holds'). Laid BY PROGRAM, IN A SANDBOX (cutbox-door.mjs). By AI agents, Wed Nov 11 2026. No macro, syntax, notation, axiom, sorry.
-/
import Derived.Test.YtedbhlgjcnnknaaGreatDoorRows
import GoSem.ClaimSeven
namespace Go.Proofs.YtedbhlgjcnnknaaGreatDoor
namespace Rows

/-- THE TIED CARD OF 'quartermasterlaw.EncodeMeans'. -/
def encodeMeansCard : Claim7 := { stood := { row := encodeMeansRow, standIns := [], harness := (true, "973e39691549b59306eec90b81617cb5a508bc969c493343bf222e700cba3e9a"), looks := true }, kinds := [], alts := [], laidByText := true, laidKinds := [.data, .data, .data, .data, .sentinel, .sentinel, .pinned], laidTests := true, laidLooks := .later }
def EncodeMeansCardSaid : Prop := Claim7.holds Tryz.pinned (.plain (OpenSpec.ofChange encodeMeansSpec)) encodeMeansCard

/-- THE TIED CARD OF 'quartermasterlaw.EncodeSays'. -/
def encodeSaysCard : Claim7 := { stood := { row := encodeSaysRow, standIns := [], harness := (true, "973e39691549b59306eec90b81617cb5a508bc969c493343bf222e700cba3e9a"), looks := true }, kinds := [], alts := [], laidByText := true, laidKinds := [.data, .data, .data, .data, .sentinel, .sentinel, .pinned], laidTests := true, laidLooks := .later }
def EncodeSaysCardSaid : Prop := Claim7.holds Tryz.pinned (.plain (OpenSpec.ofChange encodeSaysSpec)) encodeSaysCard

/-- THE TIED CARD OF 'quartermasterlaw.EncodeSteps'. -/
def encodeStepsCard : Claim7 := { stood := { row := encodeStepsRow, standIns := [], harness := (true, "973e39691549b59306eec90b81617cb5a508bc969c493343bf222e700cba3e9a"), looks := true }, kinds := [], alts := [], laidByText := true, laidKinds := [.data, .data, .data, .data, .sentinel, .sentinel, .pinned], laidTests := true, laidLooks := .later }
def EncodeStepsCardSaid : Prop := Claim7.holds Tryz.pinned (.plain (OpenSpec.ofChange encodeStepsSpec)) encodeStepsCard

/-- THE TIED CARD OF 'quartermasterlaw.ResolveSays'. -/
def resolveSaysCard : Claim7 := { stood := { row := resolveSaysRow, standIns := [], harness := (true, "973e39691549b59306eec90b81617cb5a508bc969c493343bf222e700cba3e9a"), looks := true }, kinds := [], alts := [], laidByText := true, laidKinds := [.data, .data, .data, .data, .sentinel, .sentinel, .pinned], laidTests := true, laidLooks := .later }
def ResolveSaysCardSaid : Prop := Claim7.holds Tryz.pinned (.plain (OpenSpec.ofChange resolveSaysSpec)) resolveSaysCard

/-- THE TIED CARD OF 'quartermasterlaw.ResolveProves'. -/
def resolveProvesCard : Claim7 := { stood := { row := resolveProvesRow, standIns := [], harness := (true, "973e39691549b59306eec90b81617cb5a508bc969c493343bf222e700cba3e9a"), looks := true }, kinds := [], alts := [], laidByText := true, laidKinds := [.data, .data, .data, .data, .sentinel, .sentinel, .pinned], laidTests := true, laidLooks := .later }
def ResolveProvesCardSaid : Prop := Claim7.holds Tryz.pinned (.plain (OpenSpec.ofChange resolveProvesSpec)) resolveProvesCard

/-- THE TIED CARD OF 'quartermasterlaw.ResolveLess'. -/
def resolveLessCard : Claim7 := { stood := { row := resolveLessRow, standIns := [], harness := (true, "973e39691549b59306eec90b81617cb5a508bc969c493343bf222e700cba3e9a"), looks := true }, kinds := [], alts := [], laidByText := true, laidKinds := [.data, .data, .data, .data, .sentinel, .sentinel, .pinned], laidTests := true, laidLooks := .later }
def ResolveLessCardSaid : Prop := Claim7.holds Tryz.pinned (.plain (OpenSpec.ofChange resolveLessSpec)) resolveLessCard

/-- THE TIED CARD OF 'quartermasterlaw.ResolveUnmasks'. -/
def resolveUnmasksCard : Claim7 := { stood := { row := resolveUnmasksRow, standIns := [], harness := (true, "973e39691549b59306eec90b81617cb5a508bc969c493343bf222e700cba3e9a"), looks := true }, kinds := [], alts := [], laidByText := true, laidKinds := [.data, .data, .data, .data, .sentinel, .sentinel, .pinned], laidTests := true, laidLooks := .later }
def ResolveUnmasksCardSaid : Prop := Claim7.holds Tryz.pinned (.plain (OpenSpec.ofChange resolveUnmasksSpec)) resolveUnmasksCard

/-- THE TIED CARD OF 'quartermasterlaw.ResolveNothing'. -/
def resolveNothingCard : Claim7 := { stood := { row := resolveNothingRow, standIns := [], harness := (true, "973e39691549b59306eec90b81617cb5a508bc969c493343bf222e700cba3e9a"), looks := true }, kinds := [], alts := [], laidByText := true, laidKinds := [.data, .data, .data, .data, .sentinel, .sentinel, .pinned], laidTests := true, laidLooks := .later }
def ResolveNothingCardSaid : Prop := Claim7.holds Tryz.pinned (.plain (OpenSpec.ofChange resolveNothingSpec)) resolveNothingCard

/-- THE TIED CARD OF 'quartermasterlaw.ResolveBest'. -/
def resolveBestCard : Claim7 := { stood := { row := resolveBestRow, standIns := [], harness := (true, "973e39691549b59306eec90b81617cb5a508bc969c493343bf222e700cba3e9a"), looks := true }, kinds := [], alts := [], laidByText := true, laidKinds := [.data, .data, .data, .data, .sentinel, .sentinel, .pinned], laidTests := true, laidLooks := .later }
def ResolveBestCardSaid : Prop := Claim7.holds Tryz.pinned (.plain (OpenSpec.ofChange resolveBestSpec)) resolveBestCard

/-- THE SECOND FORM's CARD OF 'quartermasterlaw.EncodeMeans'. -/
def encodeMeansUptoCard : Claim7 := { stood := { row := encodeMeansUptoRow, standIns := [], harness := (true, "973e39691549b59306eec90b81617cb5a508bc969c493343bf222e700cba3e9a"), looks := true }, kinds := [], alts := [], laidByText := true, laidKinds := [.data, .data, .data, .data, .sentinel, .sentinel, .pinned], laidTests := true, laidLooks := .later }
def EncodeMeansUptoCardSaid : Prop := Claim7.holds Tryz.pinned (.plain (OpenSpec.upto encodeMeansSpec)) encodeMeansUptoCard

/-- THE SECOND FORM's CARD OF 'quartermasterlaw.EncodeSays'. -/
def encodeSaysUptoCard : Claim7 := { stood := { row := encodeSaysUptoRow, standIns := [], harness := (true, "973e39691549b59306eec90b81617cb5a508bc969c493343bf222e700cba3e9a"), looks := true }, kinds := [], alts := [], laidByText := true, laidKinds := [.data, .data, .data, .data, .sentinel, .sentinel, .pinned], laidTests := true, laidLooks := .later }
def EncodeSaysUptoCardSaid : Prop := Claim7.holds Tryz.pinned (.plain (OpenSpec.upto encodeSaysSpec)) encodeSaysUptoCard

/-- THE SECOND FORM's CARD OF 'quartermasterlaw.EncodeSteps'. -/
def encodeStepsUptoCard : Claim7 := { stood := { row := encodeStepsUptoRow, standIns := [], harness := (true, "973e39691549b59306eec90b81617cb5a508bc969c493343bf222e700cba3e9a"), looks := true }, kinds := [], alts := [], laidByText := true, laidKinds := [.data, .data, .data, .data, .sentinel, .sentinel, .pinned], laidTests := true, laidLooks := .later }
def EncodeStepsUptoCardSaid : Prop := Claim7.holds Tryz.pinned (.plain (OpenSpec.upto encodeStepsSpec)) encodeStepsUptoCard

/-- THE SECOND FORM's CARD OF 'quartermasterlaw.ResolveSays'. -/
def resolveSaysUptoCard : Claim7 := { stood := { row := resolveSaysUptoRow, standIns := [], harness := (true, "973e39691549b59306eec90b81617cb5a508bc969c493343bf222e700cba3e9a"), looks := true }, kinds := [], alts := [], laidByText := true, laidKinds := [.data, .data, .data, .data, .sentinel, .sentinel, .pinned], laidTests := true, laidLooks := .later }
def ResolveSaysUptoCardSaid : Prop := Claim7.holds Tryz.pinned (.plain (OpenSpec.upto resolveSaysSpec)) resolveSaysUptoCard

/-- THE SECOND FORM's CARD OF 'quartermasterlaw.ResolveProves'. -/
def resolveProvesUptoCard : Claim7 := { stood := { row := resolveProvesUptoRow, standIns := [], harness := (true, "973e39691549b59306eec90b81617cb5a508bc969c493343bf222e700cba3e9a"), looks := true }, kinds := [], alts := [], laidByText := true, laidKinds := [.data, .data, .data, .data, .sentinel, .sentinel, .pinned], laidTests := true, laidLooks := .later }
def ResolveProvesUptoCardSaid : Prop := Claim7.holds Tryz.pinned (.plain (OpenSpec.upto resolveProvesSpec)) resolveProvesUptoCard

/-- THE SECOND FORM's CARD OF 'quartermasterlaw.ResolveLess'. -/
def resolveLessUptoCard : Claim7 := { stood := { row := resolveLessUptoRow, standIns := [], harness := (true, "973e39691549b59306eec90b81617cb5a508bc969c493343bf222e700cba3e9a"), looks := true }, kinds := [], alts := [], laidByText := true, laidKinds := [.data, .data, .data, .data, .sentinel, .sentinel, .pinned], laidTests := true, laidLooks := .later }
def ResolveLessUptoCardSaid : Prop := Claim7.holds Tryz.pinned (.plain (OpenSpec.upto resolveLessSpec)) resolveLessUptoCard

/-- THE SECOND FORM's CARD OF 'quartermasterlaw.ResolveUnmasks'. -/
def resolveUnmasksUptoCard : Claim7 := { stood := { row := resolveUnmasksUptoRow, standIns := [], harness := (true, "973e39691549b59306eec90b81617cb5a508bc969c493343bf222e700cba3e9a"), looks := true }, kinds := [], alts := [], laidByText := true, laidKinds := [.data, .data, .data, .data, .sentinel, .sentinel, .pinned], laidTests := true, laidLooks := .later }
def ResolveUnmasksUptoCardSaid : Prop := Claim7.holds Tryz.pinned (.plain (OpenSpec.upto resolveUnmasksSpec)) resolveUnmasksUptoCard

/-- THE SECOND FORM's CARD OF 'quartermasterlaw.ResolveNothing'. -/
def resolveNothingUptoCard : Claim7 := { stood := { row := resolveNothingUptoRow, standIns := [], harness := (true, "973e39691549b59306eec90b81617cb5a508bc969c493343bf222e700cba3e9a"), looks := true }, kinds := [], alts := [], laidByText := true, laidKinds := [.data, .data, .data, .data, .sentinel, .sentinel, .pinned], laidTests := true, laidLooks := .later }
def ResolveNothingUptoCardSaid : Prop := Claim7.holds Tryz.pinned (.plain (OpenSpec.upto resolveNothingSpec)) resolveNothingUptoCard

/-- THE SECOND FORM's CARD OF 'quartermasterlaw.ResolveBest'. -/
def resolveBestUptoCard : Claim7 := { stood := { row := resolveBestUptoRow, standIns := [], harness := (true, "973e39691549b59306eec90b81617cb5a508bc969c493343bf222e700cba3e9a"), looks := true }, kinds := [], alts := [], laidByText := true, laidKinds := [.data, .data, .data, .data, .sentinel, .sentinel, .pinned], laidTests := true, laidLooks := .later }
def ResolveBestUptoCardSaid : Prop := Claim7.holds Tryz.pinned (.plain (OpenSpec.upto resolveBestSpec)) resolveBestUptoCard
end Rows
end Go.Proofs.YtedbhlgjcnnknaaGreatDoor
