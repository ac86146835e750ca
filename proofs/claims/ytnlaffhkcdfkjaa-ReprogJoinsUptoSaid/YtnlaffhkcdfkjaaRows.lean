/-
  NARROWER THAN 'FOR EVERY INPUT', by the rows' own cells (each row's printed sentence says how): ReprogCompiles: loops · ReprogValid: loops · ReprogGroups: loops · ReprogJoins: loops.
  DERIVED. THE GIVEN ROWS OF THIS SEAT. 4 by the template 'for every input the law returns true; each argument reads behind the call as it read before'; 0 by the template 'total and deterministic' (their statements: YtnlaffhkcdfkjaaTotals.lean).
  GIVEN WITH THE SEED: the statements are not yours to turn. If you find one false, say at which input.
  Laid BY PROGRAM, IN A SANDBOX (cutbox-rows.mjs): the forced cells as the released guide's own fill.sh prints them over the translation fcc6ef84ee105751… (all of the seat's roots in one cut). By AI agents, Wed Nov 11 2026. No macro, syntax, notation, axiom, sorry.
-/
import Derived.Test.YtnlaffhkcdfkjaaChecked
import GoSem.Claim
import GoSem.ClaimJoined
import GoSem.ClaimMapViews
import Derived.JoinedTies
import Derived.KernelRfl
namespace Go.Proofs.Ytnlaffhkcdfkjaa
/- THE CELL 'sum', in the pinned program and in every row, IS THE sha256 OF THE DUMP (.gsa) THAT YtnlaffhkcdfkjaaProg.lean LOADS. Nothing in Lean hashes anything: it is a label: what it is worth is what the hold of that sum in a sandbox is worth. -/
noncomputable def Try.pinned : Pinned := { name := "ytnlaffhkcdfkjaa", sum := "fcc6ef84ee10575147031d40c6128ad26b6eeb51cce1db7feef0bb98e5f2b090", checked := Try.checked }
namespace Rows
def none {H : Type} : Left H := { results := [], args := [] }

/-- 'texttoolslaw10.ReprogCompiles': WHATEVER THE INPUT: true; the input reads as it did. -/
def reprogCompilesSpec : ChangeSpec := { name := "reprogCompiles", fn := fun _ => fun
  | [d1, d2] => { results := [.lit (.bool true)], args := [d1, d2] }
  | _ => none }
def reprogCompilesRow : OpenClaim := { program := "ytnlaffhkcdfkjaa", sum := "fcc6ef84ee10575147031d40c6128ad26b6eeb51cce1db7feef0bb98e5f2b090", func := "texttools/texttoolslaw10.ReprogCompiles", spec := "reprogCompiles", unfollowed := true, recurses := true, loops := true, apart := false }
def ReprogCompilesSaid : Prop := reprogCompilesRow.holds Try.pinned (OpenSpec.ofChange reprogCompilesSpec)

/-- ITS FALSE NEIGHBOUR: 'it returns false'. Refute it at one input. -/
def reprogCompilesWrong : ChangeSpec := { name := "reprogCompiles", fn := fun _ => fun
  | [d1, d2] => { results := [.lit (.bool false)], args := [d1, d2] }
  | _ => none }
def ReprogCompilesWrongFalsely : Prop := reprogCompilesRow.holds Try.pinned (OpenSpec.ofChange reprogCompilesWrong)

/-- 'texttoolslaw10.ReprogValid': WHATEVER THE INPUT: true; the input reads as it did. -/
def reprogValidSpec : ChangeSpec := { name := "reprogValid", fn := fun _ => fun
  | [d1, d2] => { results := [.lit (.bool true)], args := [d1, d2] }
  | _ => none }
def reprogValidRow : OpenClaim := { program := "ytnlaffhkcdfkjaa", sum := "fcc6ef84ee10575147031d40c6128ad26b6eeb51cce1db7feef0bb98e5f2b090", func := "texttools/texttoolslaw10.ReprogValid", spec := "reprogValid", unfollowed := true, recurses := true, loops := true, apart := false }
def ReprogValidSaid : Prop := reprogValidRow.holds Try.pinned (OpenSpec.ofChange reprogValidSpec)

/-- ITS FALSE NEIGHBOUR: 'it returns false'. Refute it at one input. -/
def reprogValidWrong : ChangeSpec := { name := "reprogValid", fn := fun _ => fun
  | [d1, d2] => { results := [.lit (.bool false)], args := [d1, d2] }
  | _ => none }
def ReprogValidWrongFalsely : Prop := reprogValidRow.holds Try.pinned (OpenSpec.ofChange reprogValidWrong)

/-- 'texttoolslaw10.ReprogGroups': WHATEVER THE INPUT: true; the input reads as it did. -/
def reprogGroupsSpec : ChangeSpec := { name := "reprogGroups", fn := fun _ => fun
  | [d1, d2] => { results := [.lit (.bool true)], args := [d1, d2] }
  | _ => none }
def reprogGroupsRow : OpenClaim := { program := "ytnlaffhkcdfkjaa", sum := "fcc6ef84ee10575147031d40c6128ad26b6eeb51cce1db7feef0bb98e5f2b090", func := "texttools/texttoolslaw10.ReprogGroups", spec := "reprogGroups", unfollowed := true, recurses := true, loops := true, apart := false }
def ReprogGroupsSaid : Prop := reprogGroupsRow.holds Try.pinned (OpenSpec.ofChange reprogGroupsSpec)

/-- ITS FALSE NEIGHBOUR: 'it returns false'. Refute it at one input. -/
def reprogGroupsWrong : ChangeSpec := { name := "reprogGroups", fn := fun _ => fun
  | [d1, d2] => { results := [.lit (.bool false)], args := [d1, d2] }
  | _ => none }
def ReprogGroupsWrongFalsely : Prop := reprogGroupsRow.holds Try.pinned (OpenSpec.ofChange reprogGroupsWrong)

/-- 'texttoolslaw10.ReprogJoins': WHATEVER THE INPUT: true; the input reads as it did. -/
def reprogJoinsSpec : ChangeSpec := { name := "reprogJoins", fn := fun _ => fun
  | [d1, d2] => { results := [.lit (.bool true)], args := [d1, d2] }
  | _ => none }
def reprogJoinsRow : OpenClaim := { program := "ytnlaffhkcdfkjaa", sum := "fcc6ef84ee10575147031d40c6128ad26b6eeb51cce1db7feef0bb98e5f2b090", func := "texttools/texttoolslaw10.ReprogJoins", spec := "reprogJoins", unfollowed := true, recurses := true, loops := true, apart := false }
def ReprogJoinsSaid : Prop := reprogJoinsRow.holds Try.pinned (OpenSpec.ofChange reprogJoinsSpec)

/-- ITS FALSE NEIGHBOUR: 'it returns false'. Refute it at one input. -/
def reprogJoinsWrong : ChangeSpec := { name := "reprogJoins", fn := fun _ => fun
  | [d1, d2] => { results := [.lit (.bool false)], args := [d1, d2] }
  | _ => none }
def ReprogJoinsWrongFalsely : Prop := reprogJoinsRow.holds Try.pinned (OpenSpec.ofChange reprogJoinsWrong)

/- THE SECOND FORM. 'bulk': how many values and letters a reading holds, each counted each time it is reached (what is shared counts as often as it is met; a slice's spare places count too). A statement '..UptoSaid' is the law's where the arguments, and the package variables that the reading takes, are together of bulk at most 1048576: NARROWER than '..Said'. Prove '..Said' where nothing that the law and all that it calls make is longer than what came in: it says more and counts as full. Else prove '..UptoSaid'. A law counts once. -/
mutual
def uptoBulk {H : Type} : DataW H → Nat
  | .lit (.string bytes) => bytes.length + 1
  | .lit _ => 1
  | .nil => 1
  | .ptr d => uptoBulk d + 1
  | .slice elems spare => uptoBulkAll elems + uptoBulkAll spare + 1
  | .agg parts => uptoBulkAll parts + 1
  | .iface _ d => uptoBulk d + 1
  | .map entries => uptoBulkEntries entries + 1
  | .held _ => 1
def uptoBulkAll {H : Type} : List (DataW H) → Nat
  | [] => 0
  | d :: r => uptoBulk d + uptoBulkAll r
def uptoBulkEntries {H : Type} : List (Lit × DataW H) → Nat
  | [] => 0
  | x :: r => uptoBulkEntry x + uptoBulkEntries r
def uptoBulkEntry {H : Type} : Lit × DataW H → Nat
  | (.string bytes, d) => bytes.length + uptoBulk d + 1
  | (_, d) => uptoBulk d + 1
 end
def uptoSmall : (H : Type) → List (DataW H) → Bool := fun _ ds => decide (uptoBulkAll ds ≤ 1048576)
def OpenSpec.upto (s : _root_.Go.ChangeSpec) : _root_.Go.OpenSpec := { _root_.Go.OpenSpec.ofChange s with cond := some uptoSmall }

/-- 'texttoolslaw10.ReprogCompiles', WHERE WHAT IT READS IS OF BULK AT MOST 1048576: true; the input reads as it did. -/
def reprogCompilesUptoRow : OpenClaim := { program := "ytnlaffhkcdfkjaa", sum := "fcc6ef84ee10575147031d40c6128ad26b6eeb51cce1db7feef0bb98e5f2b090", func := "texttools/texttoolslaw10.ReprogCompiles", spec := "reprogCompiles", unfollowed := true, recurses := true, loops := true, apart := false, narrowed := true }
def ReprogCompilesUptoSaid : Prop := reprogCompilesUptoRow.holds Try.pinned (OpenSpec.upto reprogCompilesSpec)

/-- 'texttoolslaw10.ReprogValid', WHERE WHAT IT READS IS OF BULK AT MOST 1048576: true; the input reads as it did. -/
def reprogValidUptoRow : OpenClaim := { program := "ytnlaffhkcdfkjaa", sum := "fcc6ef84ee10575147031d40c6128ad26b6eeb51cce1db7feef0bb98e5f2b090", func := "texttools/texttoolslaw10.ReprogValid", spec := "reprogValid", unfollowed := true, recurses := true, loops := true, apart := false, narrowed := true }
def ReprogValidUptoSaid : Prop := reprogValidUptoRow.holds Try.pinned (OpenSpec.upto reprogValidSpec)

/-- 'texttoolslaw10.ReprogGroups', WHERE WHAT IT READS IS OF BULK AT MOST 1048576: true; the input reads as it did. -/
def reprogGroupsUptoRow : OpenClaim := { program := "ytnlaffhkcdfkjaa", sum := "fcc6ef84ee10575147031d40c6128ad26b6eeb51cce1db7feef0bb98e5f2b090", func := "texttools/texttoolslaw10.ReprogGroups", spec := "reprogGroups", unfollowed := true, recurses := true, loops := true, apart := false, narrowed := true }
def ReprogGroupsUptoSaid : Prop := reprogGroupsUptoRow.holds Try.pinned (OpenSpec.upto reprogGroupsSpec)

/-- 'texttoolslaw10.ReprogJoins', WHERE WHAT IT READS IS OF BULK AT MOST 1048576: true; the input reads as it did. -/
def reprogJoinsUptoRow : OpenClaim := { program := "ytnlaffhkcdfkjaa", sum := "fcc6ef84ee10575147031d40c6128ad26b6eeb51cce1db7feef0bb98e5f2b090", func := "texttools/texttoolslaw10.ReprogJoins", spec := "reprogJoins", unfollowed := true, recurses := true, loops := true, apart := false, narrowed := true }
def ReprogJoinsUptoSaid : Prop := reprogJoinsUptoRow.holds Try.pinned (OpenSpec.upto reprogJoinsSpec)

end Rows
end Go.Proofs.Ytnlaffhkcdfkjaa
