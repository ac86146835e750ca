/-
  DERIVED. GIVEN WITH THE SEED: THE CARDS: each row of YtkinnfejgpnddaaDoorRows.lean that lists a variable, with what it lists TIED to the program's text (the seventh form; the later family's looks); each row that meets fmt, with fmt's text TOLD by the authors' own Lean function (tested against real Go, not proved from fmt's source: count such statements apart). THE CARD IS WHAT COUNTS. Prove the row's statement (the work); the ties are given (YtkinnfejgpnddaaDoorTie.lean); close each card by the builder's one call (the guide's Derived/Test/ToyasCard.lean, 'card_holds'). Laid BY PROGRAM, IN A SANDBOX (cutbox-door.mjs). By AI agents, Wed Nov 11 2026. No macro, syntax, notation, axiom, sorry.
-/
import Derived.Test.YtkinnfejgpnddaaDoorRows
import GoSem.ClaimSeven
namespace Go.Proofs.YtkinnfejgpnddaaDoor
namespace Rows

/-- THE TIED CARD OF 'texttoolslaw09.RematchParses'. -/
def rematchParsesCard : Claim7 := { stood := { row := rematchParsesRow, standIns := [], harness := (true, "a60ec5d26c4e608e8655da10635a933b1c94a26856969ef5a5cc3a29485a92cb"), looks := true }, kinds := [], alts := [], laidByText := true, laidKinds := [.data, .data, .data, .data], laidTests := true, laidLooks := .later }
def RematchParsesCardSaid : Prop := Claim7.holds Tryd.pinned (.plain (OpenSpec.ofChange rematchParsesSpec)) rematchParsesCard

/-- THE TIED CARD OF 'texttoolslaw09.RematchFinds'. -/
def rematchFindsCard : Claim7 := { stood := { row := rematchFindsRow, standIns := [], harness := (true, "a60ec5d26c4e608e8655da10635a933b1c94a26856969ef5a5cc3a29485a92cb"), looks := true }, kinds := [], alts := [], laidByText := true, laidKinds := [.data, .data, .data, .data], laidTests := true, laidLooks := .later }
def RematchFindsCardSaid : Prop := Claim7.holds Tryd.pinned (.plain (OpenSpec.ofChange rematchFindsSpec)) rematchFindsCard

/-- THE TIED CARD OF 'texttoolslaw09.RematchLongest'. -/
def rematchLongestCard : Claim7 := { stood := { row := rematchLongestRow, standIns := [], harness := (true, "a60ec5d26c4e608e8655da10635a933b1c94a26856969ef5a5cc3a29485a92cb"), looks := true }, kinds := [], alts := [], laidByText := true, laidKinds := [.data, .data, .data, .data], laidTests := true, laidLooks := .later }
def RematchLongestCardSaid : Prop := Claim7.holds Tryd.pinned (.plain (OpenSpec.ofChange rematchLongestSpec)) rematchLongestCard

/-- THE TIED CARD OF 'texttoolslaw09.RematchOrders'. -/
def rematchOrdersCard : Claim7 := { stood := { row := rematchOrdersRow, standIns := [], harness := (true, "a60ec5d26c4e608e8655da10635a933b1c94a26856969ef5a5cc3a29485a92cb"), looks := true }, kinds := [], alts := [], laidByText := true, laidKinds := [.data, .data, .data, .data], laidTests := true, laidLooks := .later }
def RematchOrdersCardSaid : Prop := Claim7.holds Tryd.pinned (.plain (OpenSpec.ofChange rematchOrdersSpec)) rematchOrdersCard

/-- THE TIED CARD OF 'texttoolslaw09.RematchComposes'. -/
def rematchComposesCard : Claim7 := { stood := { row := rematchComposesRow, standIns := [], harness := (true, "a60ec5d26c4e608e8655da10635a933b1c94a26856969ef5a5cc3a29485a92cb"), looks := true }, kinds := [], alts := [], laidByText := true, laidKinds := [.data, .data, .data, .data], laidTests := true, laidLooks := .later }
def RematchComposesCardSaid : Prop := Claim7.holds Tryd.pinned (.plain (OpenSpec.ofChange rematchComposesSpec)) rematchComposesCard

/-- THE TIED CARD OF 'texttoolslaw09.RematchShifts'. -/
def rematchShiftsCard : Claim7 := { stood := { row := rematchShiftsRow, standIns := [], harness := (true, "a60ec5d26c4e608e8655da10635a933b1c94a26856969ef5a5cc3a29485a92cb"), looks := true }, kinds := [], alts := [], laidByText := true, laidKinds := [.data, .data, .data, .data], laidTests := true, laidLooks := .later }
def RematchShiftsCardSaid : Prop := Claim7.holds Tryd.pinned (.plain (OpenSpec.ofChange rematchShiftsSpec)) rematchShiftsCard

/-- THE TIED CARD OF 'texttoolslaw09.RematchDoubles'. -/
def rematchDoublesCard : Claim7 := { stood := { row := rematchDoublesRow, standIns := [], harness := (true, "a60ec5d26c4e608e8655da10635a933b1c94a26856969ef5a5cc3a29485a92cb"), looks := true }, kinds := [], alts := [], laidByText := true, laidKinds := [.data, .data, .data, .data], laidTests := true, laidLooks := .later }
def RematchDoublesCardSaid : Prop := Claim7.holds Tryd.pinned (.plain (OpenSpec.ofChange rematchDoublesSpec)) rematchDoublesCard

/-- THE SECOND FORM's CARD OF 'texttoolslaw09.RematchParses'. -/
def rematchParsesUptoCard : Claim7 := { stood := { row := rematchParsesUptoRow, standIns := [], harness := (true, "a60ec5d26c4e608e8655da10635a933b1c94a26856969ef5a5cc3a29485a92cb"), looks := true }, kinds := [], alts := [], laidByText := true, laidKinds := [.data, .data, .data, .data], laidTests := true, laidLooks := .later }
def RematchParsesUptoCardSaid : Prop := Claim7.holds Tryd.pinned (.plain (OpenSpec.upto rematchParsesSpec)) rematchParsesUptoCard

/-- THE SECOND FORM's CARD OF 'texttoolslaw09.RematchFinds'. -/
def rematchFindsUptoCard : Claim7 := { stood := { row := rematchFindsUptoRow, standIns := [], harness := (true, "a60ec5d26c4e608e8655da10635a933b1c94a26856969ef5a5cc3a29485a92cb"), looks := true }, kinds := [], alts := [], laidByText := true, laidKinds := [.data, .data, .data, .data], laidTests := true, laidLooks := .later }
def RematchFindsUptoCardSaid : Prop := Claim7.holds Tryd.pinned (.plain (OpenSpec.upto rematchFindsSpec)) rematchFindsUptoCard

/-- THE SECOND FORM's CARD OF 'texttoolslaw09.RematchLongest'. -/
def rematchLongestUptoCard : Claim7 := { stood := { row := rematchLongestUptoRow, standIns := [], harness := (true, "a60ec5d26c4e608e8655da10635a933b1c94a26856969ef5a5cc3a29485a92cb"), looks := true }, kinds := [], alts := [], laidByText := true, laidKinds := [.data, .data, .data, .data], laidTests := true, laidLooks := .later }
def RematchLongestUptoCardSaid : Prop := Claim7.holds Tryd.pinned (.plain (OpenSpec.upto rematchLongestSpec)) rematchLongestUptoCard

/-- THE SECOND FORM's CARD OF 'texttoolslaw09.RematchOrders'. -/
def rematchOrdersUptoCard : Claim7 := { stood := { row := rematchOrdersUptoRow, standIns := [], harness := (true, "a60ec5d26c4e608e8655da10635a933b1c94a26856969ef5a5cc3a29485a92cb"), looks := true }, kinds := [], alts := [], laidByText := true, laidKinds := [.data, .data, .data, .data], laidTests := true, laidLooks := .later }
def RematchOrdersUptoCardSaid : Prop := Claim7.holds Tryd.pinned (.plain (OpenSpec.upto rematchOrdersSpec)) rematchOrdersUptoCard

/-- THE SECOND FORM's CARD OF 'texttoolslaw09.RematchComposes'. -/
def rematchComposesUptoCard : Claim7 := { stood := { row := rematchComposesUptoRow, standIns := [], harness := (true, "a60ec5d26c4e608e8655da10635a933b1c94a26856969ef5a5cc3a29485a92cb"), looks := true }, kinds := [], alts := [], laidByText := true, laidKinds := [.data, .data, .data, .data], laidTests := true, laidLooks := .later }
def RematchComposesUptoCardSaid : Prop := Claim7.holds Tryd.pinned (.plain (OpenSpec.upto rematchComposesSpec)) rematchComposesUptoCard

/-- THE SECOND FORM's CARD OF 'texttoolslaw09.RematchShifts'. -/
def rematchShiftsUptoCard : Claim7 := { stood := { row := rematchShiftsUptoRow, standIns := [], harness := (true, "a60ec5d26c4e608e8655da10635a933b1c94a26856969ef5a5cc3a29485a92cb"), looks := true }, kinds := [], alts := [], laidByText := true, laidKinds := [.data, .data, .data, .data], laidTests := true, laidLooks := .later }
def RematchShiftsUptoCardSaid : Prop := Claim7.holds Tryd.pinned (.plain (OpenSpec.upto rematchShiftsSpec)) rematchShiftsUptoCard

/-- THE SECOND FORM's CARD OF 'texttoolslaw09.RematchDoubles'. -/
def rematchDoublesUptoCard : Claim7 := { stood := { row := rematchDoublesUptoRow, standIns := [], harness := (true, "a60ec5d26c4e608e8655da10635a933b1c94a26856969ef5a5cc3a29485a92cb"), looks := true }, kinds := [], alts := [], laidByText := true, laidKinds := [.data, .data, .data, .data], laidTests := true, laidLooks := .later }
def RematchDoublesUptoCardSaid : Prop := Claim7.holds Tryd.pinned (.plain (OpenSpec.upto rematchDoublesSpec)) rematchDoublesUptoCard
end Rows
end Go.Proofs.YtkinnfejgpnddaaDoor
