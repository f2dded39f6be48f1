/-
  DERIVED. GIVEN WITH THE SEED: THE CARDS: each row of YtpipgffbhpnmkaaGreatDoorRows.lean that lists a variable, with what it lists TIED to the program's text (the seventh form; the later family's looks); each row that meets fmt, with fmt's text TOLD by the authors' own Lean function (tested against real Go, not proved from fmt's source: count such statements apart). THE CARD IS WHAT COUNTS. Prove the row's statement (the work); the ties are given (YtpipgffbhpnmkaaGreatDoorTie.lean); close each card by the builder's one call (the guide's Derived/Test/ToyasCard.lean, 'card_holds'). Laid BY PROGRAM, IN A SANDBOX (cutbox-door.mjs). By AI agents, Wed Nov 11 2026. No macro, syntax, notation, axiom, sorry.
-/
import Derived.Test.YtpipgffbhpnmkaaGreatDoorRows
import GoSem.ClaimSeven
namespace Go.Proofs.YtpipgffbhpnmkaaGreatDoor
namespace Rows

/-- THE TIED CARD OF 'quartermasterlaw.OrderMakes'. -/
def orderMakesCard : Claim7 := { stood := { row := orderMakesRow, standIns := [], harness := (true, "e8c87c855abd9dc77f10a0fedffbfd05e8fddf3a1c77452dc520fa4858cc166d"), looks := true }, kinds := [], alts := [], laidByText := true, laidKinds := [.data, .data, .data, .data, .sentinel, .sentinel, .pinned], laidTests := true, laidLooks := .later }
def OrderMakesCardSaid : Prop := Claim7.holds Tryz.pinned (.plain (OpenSpec.ofChange orderMakesSpec)) orderMakesCard

/-- THE TIED CARD OF 'quartermasterlaw.OrderNone'. -/
def orderNoneCard : Claim7 := { stood := { row := orderNoneRow, standIns := [], harness := (true, "e8c87c855abd9dc77f10a0fedffbfd05e8fddf3a1c77452dc520fa4858cc166d"), looks := true }, kinds := [], alts := [], laidByText := true, laidKinds := [.data, .data, .data, .data, .sentinel, .sentinel, .pinned], laidTests := true, laidLooks := .later }
def OrderNoneCardSaid : Prop := Claim7.holds Tryz.pinned (.plain (OpenSpec.ofChange orderNoneSpec)) orderNoneCard

/-- THE TIED CARD OF 'quartermasterlaw.OrderFirst'. -/
def orderFirstCard : Claim7 := { stood := { row := orderFirstRow, standIns := [], harness := (true, "e8c87c855abd9dc77f10a0fedffbfd05e8fddf3a1c77452dc520fa4858cc166d"), looks := true }, kinds := [], alts := [], laidByText := true, laidKinds := [.data, .data, .data, .data, .sentinel, .sentinel, .pinned], laidTests := true, laidLooks := .later }
def OrderFirstCardSaid : Prop := Claim7.holds Tryz.pinned (.plain (OpenSpec.ofChange orderFirstSpec)) orderFirstCard

/-- THE TIED CARD OF 'quartermasterlaw.OrderLeans'. -/
def orderLeansCard : Claim7 := { stood := { row := orderLeansRow, standIns := [], harness := (true, "e8c87c855abd9dc77f10a0fedffbfd05e8fddf3a1c77452dc520fa4858cc166d"), looks := true }, kinds := [], alts := [], laidByText := true, laidKinds := [.data, .data, .data, .data, .sentinel, .sentinel, .pinned], laidTests := true, laidLooks := .later }
def OrderLeansCardSaid : Prop := Claim7.holds Tryz.pinned (.plain (OpenSpec.ofChange orderLeansSpec)) orderLeansCard

/-- THE TIED CARD OF 'quartermasterlaw.OrderSays'. -/
def orderSaysCard : Claim7 := { stood := { row := orderSaysRow, standIns := [], harness := (true, "e8c87c855abd9dc77f10a0fedffbfd05e8fddf3a1c77452dc520fa4858cc166d"), looks := true }, kinds := [], alts := [], laidByText := true, laidKinds := [.data, .data, .data, .data, .sentinel, .sentinel, .pinned], laidTests := true, laidLooks := .later }
def OrderSaysCardSaid : Prop := Claim7.holds Tryz.pinned (.plain (OpenSpec.ofChange orderSaysSpec)) orderSaysCard

/-- THE SECOND FORM's CARD OF 'quartermasterlaw.OrderMakes'. -/
def orderMakesUptoCard : Claim7 := { stood := { row := orderMakesUptoRow, standIns := [], harness := (true, "e8c87c855abd9dc77f10a0fedffbfd05e8fddf3a1c77452dc520fa4858cc166d"), looks := true }, kinds := [], alts := [], laidByText := true, laidKinds := [.data, .data, .data, .data, .sentinel, .sentinel, .pinned], laidTests := true, laidLooks := .later }
def OrderMakesUptoCardSaid : Prop := Claim7.holds Tryz.pinned (.plain (OpenSpec.upto orderMakesSpec)) orderMakesUptoCard

/-- THE SECOND FORM's CARD OF 'quartermasterlaw.OrderNone'. -/
def orderNoneUptoCard : Claim7 := { stood := { row := orderNoneUptoRow, standIns := [], harness := (true, "e8c87c855abd9dc77f10a0fedffbfd05e8fddf3a1c77452dc520fa4858cc166d"), looks := true }, kinds := [], alts := [], laidByText := true, laidKinds := [.data, .data, .data, .data, .sentinel, .sentinel, .pinned], laidTests := true, laidLooks := .later }
def OrderNoneUptoCardSaid : Prop := Claim7.holds Tryz.pinned (.plain (OpenSpec.upto orderNoneSpec)) orderNoneUptoCard

/-- THE SECOND FORM's CARD OF 'quartermasterlaw.OrderFirst'. -/
def orderFirstUptoCard : Claim7 := { stood := { row := orderFirstUptoRow, standIns := [], harness := (true, "e8c87c855abd9dc77f10a0fedffbfd05e8fddf3a1c77452dc520fa4858cc166d"), looks := true }, kinds := [], alts := [], laidByText := true, laidKinds := [.data, .data, .data, .data, .sentinel, .sentinel, .pinned], laidTests := true, laidLooks := .later }
def OrderFirstUptoCardSaid : Prop := Claim7.holds Tryz.pinned (.plain (OpenSpec.upto orderFirstSpec)) orderFirstUptoCard

/-- THE SECOND FORM's CARD OF 'quartermasterlaw.OrderLeans'. -/
def orderLeansUptoCard : Claim7 := { stood := { row := orderLeansUptoRow, standIns := [], harness := (true, "e8c87c855abd9dc77f10a0fedffbfd05e8fddf3a1c77452dc520fa4858cc166d"), looks := true }, kinds := [], alts := [], laidByText := true, laidKinds := [.data, .data, .data, .data, .sentinel, .sentinel, .pinned], laidTests := true, laidLooks := .later }
def OrderLeansUptoCardSaid : Prop := Claim7.holds Tryz.pinned (.plain (OpenSpec.upto orderLeansSpec)) orderLeansUptoCard

/-- THE SECOND FORM's CARD OF 'quartermasterlaw.OrderSays'. -/
def orderSaysUptoCard : Claim7 := { stood := { row := orderSaysUptoRow, standIns := [], harness := (true, "e8c87c855abd9dc77f10a0fedffbfd05e8fddf3a1c77452dc520fa4858cc166d"), looks := true }, kinds := [], alts := [], laidByText := true, laidKinds := [.data, .data, .data, .data, .sentinel, .sentinel, .pinned], laidTests := true, laidLooks := .later }
def OrderSaysUptoCardSaid : Prop := Claim7.holds Tryz.pinned (.plain (OpenSpec.upto orderSaysSpec)) orderSaysUptoCard
end Rows
end Go.Proofs.YtpipgffbhpnmkaaGreatDoor
