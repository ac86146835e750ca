/-
  NARROWER THAN 'FOR EVERY INPUT', by the rows' own cells (each row's printed sentence says how): RebackDoubles: loops · RebackFinds: loops · ResimExact: loops.
  DERIVED. THE GIVEN ROWS OF THIS SEAT. 3 by the template 'for every input the law returns true; each argument reads behind the call as it read before'; 0 by the template 'total and deterministic' (their statements: YthnpbopnpdlmnaaTotals.lean).
  GIVEN WITH THE SEED: the statements are not yours to turn. If you find one false, say at which input.
  Laid BY PROGRAM, IN A SANDBOX (cutbox-rows.mjs): the forced cells as the released guide's own fill.sh prints them over the translation 413fe2612987eabe… (all of the seat's roots in one cut). By AI agents, Wed Nov 11 2026. No macro, syntax, notation, axiom, sorry.
-/
import Derived.Test.YthnpbopnpdlmnaaChecked
import GoSem.Claim
import GoSem.ClaimJoined
import GoSem.ClaimMapViews
import Derived.JoinedTies
import Derived.KernelRfl
namespace Go.Proofs.Ythnpbopnpdlmnaa
/- THE CELL 'sum', in the pinned program and in every row, IS THE sha256 OF THE DUMP (.gsa) THAT YthnpbopnpdlmnaaProg.lean LOADS. Nothing in Lean hashes anything: it is a label: what it is worth is what the hold of that sum in a sandbox is worth. -/
noncomputable def Try.pinned : Pinned := { name := "ythnpbopnpdlmnaa", sum := "413fe2612987eabe3ab54bc7f97637d7a621c421ff11085abaf5e1b43ffb5e8c", checked := Try.checked }
namespace Rows
def none {H : Type} : Left H := { results := [], args := [] }

/-- 'texttoolslaw14.RebackDoubles': WHATEVER THE INPUT: true; the input reads as it did. -/
def rebackDoublesSpec : ChangeSpec := { name := "rebackDoubles", fn := fun _ => fun
  | [d1, d2] => { results := [.lit (.bool true)], args := [d1, d2] }
  | _ => none }
def rebackDoublesRow : OpenClaim := { program := "ythnpbopnpdlmnaa", sum := "413fe2612987eabe3ab54bc7f97637d7a621c421ff11085abaf5e1b43ffb5e8c", func := "texttools/texttoolslaw14.RebackDoubles", spec := "rebackDoubles", unfollowed := true, recurses := true, loops := true, apart := false }
def RebackDoublesSaid : Prop := rebackDoublesRow.holds Try.pinned (OpenSpec.ofChange rebackDoublesSpec)

/-- ITS FALSE NEIGHBOUR: 'it returns false'. Refute it at one input. -/
def rebackDoublesWrong : ChangeSpec := { name := "rebackDoubles", fn := fun _ => fun
  | [d1, d2] => { results := [.lit (.bool false)], args := [d1, d2] }
  | _ => none }
def RebackDoublesWrongFalsely : Prop := rebackDoublesRow.holds Try.pinned (OpenSpec.ofChange rebackDoublesWrong)

/-- 'texttoolslaw14.RebackFinds': WHATEVER THE INPUT: true; the input reads as it did. -/
def rebackFindsSpec : ChangeSpec := { name := "rebackFinds", fn := fun _ => fun
  | [d1, d2] => { results := [.lit (.bool true)], args := [d1, d2] }
  | _ => none }
def rebackFindsRow : OpenClaim := { program := "ythnpbopnpdlmnaa", sum := "413fe2612987eabe3ab54bc7f97637d7a621c421ff11085abaf5e1b43ffb5e8c", func := "texttools/texttoolslaw14.RebackFinds", spec := "rebackFinds", unfollowed := true, recurses := true, loops := true, apart := false }
def RebackFindsSaid : Prop := rebackFindsRow.holds Try.pinned (OpenSpec.ofChange rebackFindsSpec)

/-- ITS FALSE NEIGHBOUR: 'it returns false'. Refute it at one input. -/
def rebackFindsWrong : ChangeSpec := { name := "rebackFinds", fn := fun _ => fun
  | [d1, d2] => { results := [.lit (.bool false)], args := [d1, d2] }
  | _ => none }
def RebackFindsWrongFalsely : Prop := rebackFindsRow.holds Try.pinned (OpenSpec.ofChange rebackFindsWrong)

/-- 'texttoolslaw11.ResimExact': WHATEVER THE INPUT: true; the input reads as it did. -/
def resimExactSpec : ChangeSpec := { name := "resimExact", fn := fun _ => fun
  | [d1, d2] => { results := [.lit (.bool true)], args := [d1, d2] }
  | _ => none }
def resimExactRow : OpenClaim := { program := "ythnpbopnpdlmnaa", sum := "413fe2612987eabe3ab54bc7f97637d7a621c421ff11085abaf5e1b43ffb5e8c", func := "texttools/texttoolslaw11.ResimExact", spec := "resimExact", unfollowed := true, recurses := true, loops := true, apart := false }
def ResimExactSaid : Prop := resimExactRow.holds Try.pinned (OpenSpec.ofChange resimExactSpec)

/-- ITS FALSE NEIGHBOUR: 'it returns false'. Refute it at one input. -/
def resimExactWrong : ChangeSpec := { name := "resimExact", fn := fun _ => fun
  | [d1, d2] => { results := [.lit (.bool false)], args := [d1, d2] }
  | _ => none }
def ResimExactWrongFalsely : Prop := resimExactRow.holds Try.pinned (OpenSpec.ofChange resimExactWrong)

/- THE SECOND FORM. 'bulk': how many values and letters a reading holds, each counted each time it is reached (what is shared counts as often as it is met; a slice's spare places count too). A statement '..UptoSaid' is the law's where the arguments, and the package variables that the reading takes, are together of bulk at most 1048576: NARROWER than '..Said'. Prove '..Said' where nothing that the law and all that it calls make is longer than what came in: it says more and counts as full. Else prove '..UptoSaid'. A law counts once. -/
mutual
def uptoBulk {H : Type} : DataW H → Nat
  | .lit (.string bytes) => bytes.length + 1
  | .lit _ => 1
  | .nil => 1
  | .ptr d => uptoBulk d + 1
  | .slice elems spare => uptoBulkAll elems + uptoBulkAll spare + 1
  | .agg parts => uptoBulkAll parts + 1
  | .iface _ d => uptoBulk d + 1
  | .map entries => uptoBulkEntries entries + 1
  | .held _ => 1
def uptoBulkAll {H : Type} : List (DataW H) → Nat
  | [] => 0
  | d :: r => uptoBulk d + uptoBulkAll r
def uptoBulkEntries {H : Type} : List (Lit × DataW H) → Nat
  | [] => 0
  | x :: r => uptoBulkEntry x + uptoBulkEntries r
def uptoBulkEntry {H : Type} : Lit × DataW H → Nat
  | (.string bytes, d) => bytes.length + uptoBulk d + 1
  | (_, d) => uptoBulk d + 1
 end
def uptoSmall : (H : Type) → List (DataW H) → Bool := fun _ ds => decide (uptoBulkAll ds ≤ 1048576)
def OpenSpec.upto (s : _root_.Go.ChangeSpec) : _root_.Go.OpenSpec := { _root_.Go.OpenSpec.ofChange s with cond := some uptoSmall }

/-- 'texttoolslaw14.RebackDoubles', WHERE WHAT IT READS IS OF BULK AT MOST 1048576: true; the input reads as it did. -/
def rebackDoublesUptoRow : OpenClaim := { program := "ythnpbopnpdlmnaa", sum := "413fe2612987eabe3ab54bc7f97637d7a621c421ff11085abaf5e1b43ffb5e8c", func := "texttools/texttoolslaw14.RebackDoubles", spec := "rebackDoubles", unfollowed := true, recurses := true, loops := true, apart := false, narrowed := true }
def RebackDoublesUptoSaid : Prop := rebackDoublesUptoRow.holds Try.pinned (OpenSpec.upto rebackDoublesSpec)

/-- 'texttoolslaw14.RebackFinds', WHERE WHAT IT READS IS OF BULK AT MOST 1048576: true; the input reads as it did. -/
def rebackFindsUptoRow : OpenClaim := { program := "ythnpbopnpdlmnaa", sum := "413fe2612987eabe3ab54bc7f97637d7a621c421ff11085abaf5e1b43ffb5e8c", func := "texttools/texttoolslaw14.RebackFinds", spec := "rebackFinds", unfollowed := true, recurses := true, loops := true, apart := false, narrowed := true }
def RebackFindsUptoSaid : Prop := rebackFindsUptoRow.holds Try.pinned (OpenSpec.upto rebackFindsSpec)

/-- 'texttoolslaw11.ResimExact', WHERE WHAT IT READS IS OF BULK AT MOST 1048576: true; the input reads as it did. -/
def resimExactUptoRow : OpenClaim := { program := "ythnpbopnpdlmnaa", sum := "413fe2612987eabe3ab54bc7f97637d7a621c421ff11085abaf5e1b43ffb5e8c", func := "texttools/texttoolslaw11.ResimExact", spec := "resimExact", unfollowed := true, recurses := true, loops := true, apart := false, narrowed := true }
def ResimExactUptoSaid : Prop := resimExactUptoRow.holds Try.pinned (OpenSpec.upto resimExactSpec)

end Rows
end Go.Proofs.Ythnpbopnpdlmnaa
