/-
  No cell of these rows narrows 'for every input' (looked for: loops, veiled, ifaces, maps, wideKeys, modest, calm, conditions, laid).
  DERIVED. THE GIVEN ROWS OF THIS SEAT. 5 by the template 'for every input the law returns true; each argument reads behind the call as it read before'; 0 by the template 'total and deterministic' (their statements: YtnjcfggadeakpaaTotals.lean).
  GIVEN WITH THE SEED: the statements are not yours to turn. If you find one false, say at which input.
  Laid BY PROGRAM, IN A SANDBOX (cutbox-rows.mjs): the forced cells as the released guide's own fill.sh prints them over the translation 7115f9797c98585e… (all of the seat's roots in one cut). By AI agents, Wed Nov 11 2026. No macro, syntax, notation, axiom, sorry.
-/
import Derived.Test.YtnjcfggadeakpaaChecked
import GoSem.Claim
import GoSem.ClaimJoined
import GoSem.ClaimMapViews
import Derived.JoinedTies
import Derived.KernelRfl
namespace Go.Proofs.Ytnjcfggadeakpaa
/- THE CELL 'sum', in the pinned program and in every row, IS THE sha256 OF THE DUMP (.gsa) THAT YtnjcfggadeakpaaProg.lean LOADS. Nothing in Lean hashes anything: it is a label: what it is worth is what the hold of that sum in a sandbox is worth. -/
noncomputable def Try.pinned : Pinned := { name := "ytnjcfggadeakpaa", sum := "7115f9797c98585eda2a552dcaa104280b109b900e453797ab96349809e08142", checked := Try.checked }
namespace Rows
def none {H : Type} : Left H := { results := [], args := [] }

/-- 'texttoolslaw11.ResimSearches': WHATEVER THE INPUT: true; the input reads as it did. -/
def resimSearchesSpec : ChangeSpec := { name := "resimSearches", fn := fun _ => fun
  | [d1, d2, d3] => { results := [.lit (.bool true)], args := [d1, d2, d3] }
  | _ => none }
def resimSearchesRow : OpenClaim := { program := "ytnjcfggadeakpaa", sum := "7115f9797c98585eda2a552dcaa104280b109b900e453797ab96349809e08142", func := "texttools/texttoolslaw11.ResimSearches", spec := "resimSearches", unfollowed := true, recurses := true, apart := false }
def ResimSearchesSaid : Prop := resimSearchesRow.holds Try.pinned (OpenSpec.ofChange resimSearchesSpec)

/-- ITS FALSE NEIGHBOUR: 'it returns false'. Refute it at one input. -/
def resimSearchesWrong : ChangeSpec := { name := "resimSearches", fn := fun _ => fun
  | [d1, d2, d3] => { results := [.lit (.bool false)], args := [d1, d2, d3] }
  | _ => none }
def ResimSearchesWrongFalsely : Prop := resimSearchesRow.holds Try.pinned (OpenSpec.ofChange resimSearchesWrong)

/-- 'texttoolslaw11.ResimThreads': WHATEVER THE INPUT: true; the input reads as it did. -/
def resimThreadsSpec : ChangeSpec := { name := "resimThreads", fn := fun _ => fun
  | [d1, d2] => { results := [.lit (.bool true)], args := [d1, d2] }
  | _ => none }
def resimThreadsRow : OpenClaim := { program := "ytnjcfggadeakpaa", sum := "7115f9797c98585eda2a552dcaa104280b109b900e453797ab96349809e08142", func := "texttools/texttoolslaw11.ResimThreads", spec := "resimThreads", unfollowed := true, recurses := true, apart := false }
def ResimThreadsSaid : Prop := resimThreadsRow.holds Try.pinned (OpenSpec.ofChange resimThreadsSpec)

/-- ITS FALSE NEIGHBOUR: 'it returns false'. Refute it at one input. -/
def resimThreadsWrong : ChangeSpec := { name := "resimThreads", fn := fun _ => fun
  | [d1, d2] => { results := [.lit (.bool false)], args := [d1, d2] }
  | _ => none }
def ResimThreadsWrongFalsely : Prop := resimThreadsRow.holds Try.pinned (OpenSpec.ofChange resimThreadsWrong)

/-- 'texttoolslaw11.ResimEnds': WHATEVER THE INPUT: true; the input reads as it did. -/
def resimEndsSpec : ChangeSpec := { name := "resimEnds", fn := fun _ => fun
  | [d1, d2, d3] => { results := [.lit (.bool true)], args := [d1, d2, d3] }
  | _ => none }
def resimEndsRow : OpenClaim := { program := "ytnjcfggadeakpaa", sum := "7115f9797c98585eda2a552dcaa104280b109b900e453797ab96349809e08142", func := "texttools/texttoolslaw11.ResimEnds", spec := "resimEnds", unfollowed := true, recurses := true, apart := false }
def ResimEndsSaid : Prop := resimEndsRow.holds Try.pinned (OpenSpec.ofChange resimEndsSpec)

/-- ITS FALSE NEIGHBOUR: 'it returns false'. Refute it at one input. -/
def resimEndsWrong : ChangeSpec := { name := "resimEnds", fn := fun _ => fun
  | [d1, d2, d3] => { results := [.lit (.bool false)], args := [d1, d2, d3] }
  | _ => none }
def ResimEndsWrongFalsely : Prop := resimEndsRow.holds Try.pinned (OpenSpec.ofChange resimEndsWrong)

/-- 'texttoolslaw11.ResimShifts': WHATEVER THE INPUT: true; the input reads as it did. -/
def resimShiftsSpec : ChangeSpec := { name := "resimShifts", fn := fun _ => fun
  | [d1, d2, d3] => { results := [.lit (.bool true)], args := [d1, d2, d3] }
  | _ => none }
def resimShiftsRow : OpenClaim := { program := "ytnjcfggadeakpaa", sum := "7115f9797c98585eda2a552dcaa104280b109b900e453797ab96349809e08142", func := "texttools/texttoolslaw11.ResimShifts", spec := "resimShifts", unfollowed := true, recurses := true, apart := false }
def ResimShiftsSaid : Prop := resimShiftsRow.holds Try.pinned (OpenSpec.ofChange resimShiftsSpec)

/-- ITS FALSE NEIGHBOUR: 'it returns false'. Refute it at one input. -/
def resimShiftsWrong : ChangeSpec := { name := "resimShifts", fn := fun _ => fun
  | [d1, d2, d3] => { results := [.lit (.bool false)], args := [d1, d2, d3] }
  | _ => none }
def ResimShiftsWrongFalsely : Prop := resimShiftsRow.holds Try.pinned (OpenSpec.ofChange resimShiftsWrong)

/-- 'texttoolslaw11.ResimBytes': WHATEVER THE INPUT: true; the input reads as it did. -/
def resimBytesSpec : ChangeSpec := { name := "resimBytes", fn := fun _ => fun
  | [d1, d2, d3] => { results := [.lit (.bool true)], args := [d1, d2, d3] }
  | _ => none }
def resimBytesRow : OpenClaim := { program := "ytnjcfggadeakpaa", sum := "7115f9797c98585eda2a552dcaa104280b109b900e453797ab96349809e08142", func := "texttools/texttoolslaw11.ResimBytes", spec := "resimBytes", unfollowed := true, recurses := true, apart := false }
def ResimBytesSaid : Prop := resimBytesRow.holds Try.pinned (OpenSpec.ofChange resimBytesSpec)

/-- ITS FALSE NEIGHBOUR: 'it returns false'. Refute it at one input. -/
def resimBytesWrong : ChangeSpec := { name := "resimBytes", fn := fun _ => fun
  | [d1, d2, d3] => { results := [.lit (.bool false)], args := [d1, d2, d3] }
  | _ => none }
def ResimBytesWrongFalsely : Prop := resimBytesRow.holds Try.pinned (OpenSpec.ofChange resimBytesWrong)

/- THE SECOND FORM. 'bulk': how many values and letters a reading holds, each counted each time it is reached (what is shared counts as often as it is met; a slice's spare places count too). A statement '..UptoSaid' is the law's where the arguments, and the package variables that the reading takes, are together of bulk at most 1048576: NARROWER than '..Said'. Prove '..Said' where nothing that the law and all that it calls make is longer than what came in: it says more and counts as full. Else prove '..UptoSaid'. A law counts once. -/
mutual
def uptoBulk {H : Type} : DataW H → Nat
  | .lit (.string bytes) => bytes.length + 1
  | .lit _ => 1
  | .nil => 1
  | .ptr d => uptoBulk d + 1
  | .slice elems spare => uptoBulkAll elems + uptoBulkAll spare + 1
  | .agg parts => uptoBulkAll parts + 1
  | .iface _ d => uptoBulk d + 1
  | .map entries => uptoBulkEntries entries + 1
  | .held _ => 1
def uptoBulkAll {H : Type} : List (DataW H) → Nat
  | [] => 0
  | d :: r => uptoBulk d + uptoBulkAll r
def uptoBulkEntries {H : Type} : List (Lit × DataW H) → Nat
  | [] => 0
  | x :: r => uptoBulkEntry x + uptoBulkEntries r
def uptoBulkEntry {H : Type} : Lit × DataW H → Nat
  | (.string bytes, d) => bytes.length + uptoBulk d + 1
  | (_, d) => uptoBulk d + 1
 end
def uptoSmall : (H : Type) → List (DataW H) → Bool := fun _ ds => decide (uptoBulkAll ds ≤ 1048576)
def OpenSpec.upto (s : _root_.Go.ChangeSpec) : _root_.Go.OpenSpec := { _root_.Go.OpenSpec.ofChange s with cond := some uptoSmall }

/-- 'texttoolslaw11.ResimSearches', WHERE WHAT IT READS IS OF BULK AT MOST 1048576: true; the input reads as it did. -/
def resimSearchesUptoRow : OpenClaim := { program := "ytnjcfggadeakpaa", sum := "7115f9797c98585eda2a552dcaa104280b109b900e453797ab96349809e08142", func := "texttools/texttoolslaw11.ResimSearches", spec := "resimSearches", unfollowed := true, recurses := true, apart := false, narrowed := true }
def ResimSearchesUptoSaid : Prop := resimSearchesUptoRow.holds Try.pinned (OpenSpec.upto resimSearchesSpec)

/-- 'texttoolslaw11.ResimThreads', WHERE WHAT IT READS IS OF BULK AT MOST 1048576: true; the input reads as it did. -/
def resimThreadsUptoRow : OpenClaim := { program := "ytnjcfggadeakpaa", sum := "7115f9797c98585eda2a552dcaa104280b109b900e453797ab96349809e08142", func := "texttools/texttoolslaw11.ResimThreads", spec := "resimThreads", unfollowed := true, recurses := true, apart := false, narrowed := true }
def ResimThreadsUptoSaid : Prop := resimThreadsUptoRow.holds Try.pinned (OpenSpec.upto resimThreadsSpec)

/-- 'texttoolslaw11.ResimEnds', WHERE WHAT IT READS IS OF BULK AT MOST 1048576: true; the input reads as it did. -/
def resimEndsUptoRow : OpenClaim := { program := "ytnjcfggadeakpaa", sum := "7115f9797c98585eda2a552dcaa104280b109b900e453797ab96349809e08142", func := "texttools/texttoolslaw11.ResimEnds", spec := "resimEnds", unfollowed := true, recurses := true, apart := false, narrowed := true }
def ResimEndsUptoSaid : Prop := resimEndsUptoRow.holds Try.pinned (OpenSpec.upto resimEndsSpec)

/-- 'texttoolslaw11.ResimShifts', WHERE WHAT IT READS IS OF BULK AT MOST 1048576: true; the input reads as it did. -/
def resimShiftsUptoRow : OpenClaim := { program := "ytnjcfggadeakpaa", sum := "7115f9797c98585eda2a552dcaa104280b109b900e453797ab96349809e08142", func := "texttools/texttoolslaw11.ResimShifts", spec := "resimShifts", unfollowed := true, recurses := true, apart := false, narrowed := true }
def ResimShiftsUptoSaid : Prop := resimShiftsUptoRow.holds Try.pinned (OpenSpec.upto resimShiftsSpec)

/-- 'texttoolslaw11.ResimBytes', WHERE WHAT IT READS IS OF BULK AT MOST 1048576: true; the input reads as it did. -/
def resimBytesUptoRow : OpenClaim := { program := "ytnjcfggadeakpaa", sum := "7115f9797c98585eda2a552dcaa104280b109b900e453797ab96349809e08142", func := "texttools/texttoolslaw11.ResimBytes", spec := "resimBytes", unfollowed := true, recurses := true, apart := false, narrowed := true }
def ResimBytesUptoSaid : Prop := resimBytesUptoRow.holds Try.pinned (OpenSpec.upto resimBytesSpec)

end Rows
end Go.Proofs.Ytnjcfggadeakpaa
