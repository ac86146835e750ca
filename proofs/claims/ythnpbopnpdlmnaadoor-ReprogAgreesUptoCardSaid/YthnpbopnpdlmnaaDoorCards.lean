/-
  DERIVED. GIVEN WITH THE SEED: THE CARDS: each row of YthnpbopnpdlmnaaDoorRows.lean that lists a variable, with what it lists TIED to the program's text (the seventh form; the later family's looks); each row that meets fmt, with fmt's text TOLD by the authors' own Lean function (tested against real Go, not proved from fmt's source: count such statements apart). THE CARD IS WHAT COUNTS. Prove the row's statement (the work); the ties are given (YthnpbopnpdlmnaaDoorTie.lean); close each card by the builder's one call (the guide's Derived/Test/ToyasCard.lean, 'card_holds'). Laid BY PROGRAM, IN A SANDBOX (cutbox-door.mjs). By AI agents, Wed Nov 11 2026. No macro, syntax, notation, axiom, sorry.
-/
import Derived.Test.YthnpbopnpdlmnaaDoorRows
import GoSem.ClaimSeven
namespace Go.Proofs.YthnpbopnpdlmnaaDoor
namespace Rows

/-- THE TIED CARD OF 'texttoolslaw10.ReprogAgrees'. -/
def reprogAgreesCard : Claim7 := { stood := { row := reprogAgreesRow, standIns := [], harness := (true, "854f5f852cf4e0e40347044d756dbec41528f2abf75167083491934d953713d0"), looks := true }, kinds := [], alts := [], laidByText := true, laidKinds := [.data, .data, .data, .data], laidTests := true, laidLooks := .later }
def ReprogAgreesCardSaid : Prop := Claim7.holds Tryd.pinned (.plain (OpenSpec.ofChange reprogAgreesSpec)) reprogAgreesCard

/-- THE SECOND FORM's CARD OF 'texttoolslaw10.ReprogAgrees'. -/
def reprogAgreesUptoCard : Claim7 := { stood := { row := reprogAgreesUptoRow, standIns := [], harness := (true, "854f5f852cf4e0e40347044d756dbec41528f2abf75167083491934d953713d0"), looks := true }, kinds := [], alts := [], laidByText := true, laidKinds := [.data, .data, .data, .data], laidTests := true, laidLooks := .later }
def ReprogAgreesUptoCardSaid : Prop := Claim7.holds Tryd.pinned (.plain (OpenSpec.upto reprogAgreesSpec)) reprogAgreesUptoCard
end Rows
end Go.Proofs.YthnpbopnpdlmnaaDoor
