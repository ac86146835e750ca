/-
  DERIVED. GIVEN WITH THE SEED: THE CARDS: each row of YtjjhdddlbgdkeaaDoorRows.lean that lists a variable, with what it lists TIED to the program's text (the seventh form; the later family's looks); each row that meets fmt, with fmt's text TOLD by the authors' own Lean function (tested against real Go, not proved from fmt's source: count such statements apart). THE CARD IS WHAT COUNTS. Prove the row's statement (the work); the ties are given (YtjjhdddlbgdkeaaDoorTie.lean); close each card by the builder's one call (the guide's Derived/Test/ToyasCard.lean, 'card_holds'). Laid BY PROGRAM, IN A SANDBOX (cutbox-door.mjs). By AI agents, Wed Nov 11 2026. No macro, syntax, notation, axiom, sorry.
-/
import Derived.Test.YtjjhdddlbgdkeaaDoorRows
import GoSem.ClaimSeven
namespace Go.Proofs.YtjjhdddlbgdkeaaDoor
namespace Rows

/-- THE TIED CARD OF 'texttoolslaw10.ReprogPrints'. -/
def reprogPrintsCard : Claim7 := { stood := { row := reprogPrintsRow, standIns := [], harness := (true, "ae5b365799b76b241b1c52ad1dd3af5ae8084497995ba1a5994d6d33e6905915"), looks := false }, kinds := [], alts := [], laidByText := true, laidKinds := [.data, .data, .data, .data], laidTests := true, laidLooks := .later }
def ReprogPrintsCardSaid : Prop := Claim7.holds Tryd.pinned (.plain (OpenSpec.ofChange reprogPrintsSpec)) reprogPrintsCard

/-- THE TIED CARD OF 'texttoolslaw10.ReprogTexts'. -/
def reprogTextsCard : Claim7 := { stood := { row := reprogTextsRow, standIns := [], harness := (true, "ae5b365799b76b241b1c52ad1dd3af5ae8084497995ba1a5994d6d33e6905915"), looks := false }, kinds := [], alts := [], laidByText := true, laidKinds := [.data, .data, .data, .data], laidTests := true, laidLooks := .later }
def ReprogTextsCardSaid : Prop := Claim7.holds Tryd.pinned (.plain (OpenSpec.ofChange reprogTextsSpec)) reprogTextsCard

/-- THE SECOND FORM's CARD OF 'texttoolslaw10.ReprogPrints'. -/
def reprogPrintsUptoCard : Claim7 := { stood := { row := reprogPrintsUptoRow, standIns := [], harness := (true, "ae5b365799b76b241b1c52ad1dd3af5ae8084497995ba1a5994d6d33e6905915"), looks := false }, kinds := [], alts := [], laidByText := true, laidKinds := [.data, .data, .data, .data], laidTests := true, laidLooks := .later }
def ReprogPrintsUptoCardSaid : Prop := Claim7.holds Tryd.pinned (.plain (OpenSpec.upto reprogPrintsSpec)) reprogPrintsUptoCard

/-- THE SECOND FORM's CARD OF 'texttoolslaw10.ReprogTexts'. -/
def reprogTextsUptoCard : Claim7 := { stood := { row := reprogTextsUptoRow, standIns := [], harness := (true, "ae5b365799b76b241b1c52ad1dd3af5ae8084497995ba1a5994d6d33e6905915"), looks := false }, kinds := [], alts := [], laidByText := true, laidKinds := [.data, .data, .data, .data], laidTests := true, laidLooks := .later }
def ReprogTextsUptoCardSaid : Prop := Claim7.holds Tryd.pinned (.plain (OpenSpec.upto reprogTextsSpec)) reprogTextsUptoCard
end Rows
end Go.Proofs.YtjjhdddlbgdkeaaDoor
