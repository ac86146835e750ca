/-
  NARROWER THAN 'FOR EVERY INPUT', by the rows' own cells (each row's printed sentence says how): RetreeChecks: loops · RetreeCounts: loops · RetreeBounds: loops · RetreeExpands: loops · RetreeLengths: loops · RetreeKeeps: loops · RetreeComposes: loops.
  DERIVED. THE GIVEN ROWS OF THIS SEAT. 7 by the template 'for every input the law returns true; each argument reads behind the call as it read before'; 0 by the template 'total and deterministic' (their statements: YtibfnmkeghkdpaaTotals.lean).
  GIVEN WITH THE SEED: the statements are not yours to turn. If you find one false, say at which input.
  Laid BY PROGRAM, IN A SANDBOX (cutbox-rows.mjs): the forced cells as the released guide's own fill.sh prints them over the translation e2c9ec6e6271798c… (all of the seat's roots in one cut). By AI agents, Wed Nov 11 2026. No macro, syntax, notation, axiom, sorry.
-/
import Derived.Test.YtibfnmkeghkdpaaChecked
import GoSem.Claim
import GoSem.ClaimJoined
import GoSem.ClaimMapViews
import Derived.JoinedTies
import Derived.KernelRfl
namespace Go.Proofs.Ytibfnmkeghkdpaa
/- THE CELL 'sum', in the pinned program and in every row, IS THE sha256 OF THE DUMP (.gsa) THAT YtibfnmkeghkdpaaProg.lean LOADS. Nothing in Lean hashes anything: it is a label: what it is worth is what the hold of that sum in a sandbox is worth. -/
noncomputable def Try.pinned : Pinned := { name := "ytibfnmkeghkdpaa", sum := "e2c9ec6e6271798c9e35fa693efc886d3a3dd4594efe5973a6caa39d8d7b4552", checked := Try.checked }
namespace Rows
def none {H : Type} : Left H := { results := [], args := [] }

/-- 'texttoolslaw08.RetreeChecks': WHATEVER THE INPUT: true; the input reads as it did. -/
def retreeChecksSpec : ChangeSpec := { name := "retreeChecks", fn := fun _ => fun
  | [d] => { results := [.lit (.bool true)], args := [d] }
  | _ => none }
def retreeChecksRow : OpenClaim := { program := "ytibfnmkeghkdpaa", sum := "e2c9ec6e6271798c9e35fa693efc886d3a3dd4594efe5973a6caa39d8d7b4552", func := "texttools/texttoolslaw08.RetreeChecks", spec := "retreeChecks", unfollowed := true, recurses := true, loops := true, apart := false }
def RetreeChecksSaid : Prop := retreeChecksRow.holds Try.pinned (OpenSpec.ofChange retreeChecksSpec)

/-- ITS FALSE NEIGHBOUR: 'it returns false'. Refute it at one input. -/
def retreeChecksWrong : ChangeSpec := { name := "retreeChecks", fn := fun _ => fun
  | [d] => { results := [.lit (.bool false)], args := [d] }
  | _ => none }
def RetreeChecksWrongFalsely : Prop := retreeChecksRow.holds Try.pinned (OpenSpec.ofChange retreeChecksWrong)

/-- 'texttoolslaw08.RetreeCounts': WHATEVER THE INPUT: true; the input reads as it did. -/
def retreeCountsSpec : ChangeSpec := { name := "retreeCounts", fn := fun _ => fun
  | [d] => { results := [.lit (.bool true)], args := [d] }
  | _ => none }
def retreeCountsRow : OpenClaim := { program := "ytibfnmkeghkdpaa", sum := "e2c9ec6e6271798c9e35fa693efc886d3a3dd4594efe5973a6caa39d8d7b4552", func := "texttools/texttoolslaw08.RetreeCounts", spec := "retreeCounts", unfollowed := true, recurses := true, loops := true, apart := false }
def RetreeCountsSaid : Prop := retreeCountsRow.holds Try.pinned (OpenSpec.ofChange retreeCountsSpec)

/-- ITS FALSE NEIGHBOUR: 'it returns false'. Refute it at one input. -/
def retreeCountsWrong : ChangeSpec := { name := "retreeCounts", fn := fun _ => fun
  | [d] => { results := [.lit (.bool false)], args := [d] }
  | _ => none }
def RetreeCountsWrongFalsely : Prop := retreeCountsRow.holds Try.pinned (OpenSpec.ofChange retreeCountsWrong)

/-- 'texttoolslaw08.RetreeBounds': WHATEVER THE INPUT: true; the input reads as it did. -/
def retreeBoundsSpec : ChangeSpec := { name := "retreeBounds", fn := fun _ => fun
  | [d] => { results := [.lit (.bool true)], args := [d] }
  | _ => none }
def retreeBoundsRow : OpenClaim := { program := "ytibfnmkeghkdpaa", sum := "e2c9ec6e6271798c9e35fa693efc886d3a3dd4594efe5973a6caa39d8d7b4552", func := "texttools/texttoolslaw08.RetreeBounds", spec := "retreeBounds", unfollowed := true, recurses := true, loops := true, apart := false }
def RetreeBoundsSaid : Prop := retreeBoundsRow.holds Try.pinned (OpenSpec.ofChange retreeBoundsSpec)

/-- ITS FALSE NEIGHBOUR: 'it returns false'. Refute it at one input. -/
def retreeBoundsWrong : ChangeSpec := { name := "retreeBounds", fn := fun _ => fun
  | [d] => { results := [.lit (.bool false)], args := [d] }
  | _ => none }
def RetreeBoundsWrongFalsely : Prop := retreeBoundsRow.holds Try.pinned (OpenSpec.ofChange retreeBoundsWrong)

/-- 'texttoolslaw08.RetreeExpands': WHATEVER THE INPUT: true; the input reads as it did. -/
def retreeExpandsSpec : ChangeSpec := { name := "retreeExpands", fn := fun _ => fun
  | [d] => { results := [.lit (.bool true)], args := [d] }
  | _ => none }
def retreeExpandsRow : OpenClaim := { program := "ytibfnmkeghkdpaa", sum := "e2c9ec6e6271798c9e35fa693efc886d3a3dd4594efe5973a6caa39d8d7b4552", func := "texttools/texttoolslaw08.RetreeExpands", spec := "retreeExpands", unfollowed := true, recurses := true, loops := true, apart := false }
def RetreeExpandsSaid : Prop := retreeExpandsRow.holds Try.pinned (OpenSpec.ofChange retreeExpandsSpec)

/-- ITS FALSE NEIGHBOUR: 'it returns false'. Refute it at one input. -/
def retreeExpandsWrong : ChangeSpec := { name := "retreeExpands", fn := fun _ => fun
  | [d] => { results := [.lit (.bool false)], args := [d] }
  | _ => none }
def RetreeExpandsWrongFalsely : Prop := retreeExpandsRow.holds Try.pinned (OpenSpec.ofChange retreeExpandsWrong)

/-- 'texttoolslaw08.RetreeLengths': WHATEVER THE INPUT: true; the input reads as it did. -/
def retreeLengthsSpec : ChangeSpec := { name := "retreeLengths", fn := fun _ => fun
  | [d1, d2] => { results := [.lit (.bool true)], args := [d1, d2] }
  | _ => none }
def retreeLengthsRow : OpenClaim := { program := "ytibfnmkeghkdpaa", sum := "e2c9ec6e6271798c9e35fa693efc886d3a3dd4594efe5973a6caa39d8d7b4552", func := "texttools/texttoolslaw08.RetreeLengths", spec := "retreeLengths", unfollowed := true, recurses := true, loops := true, apart := false }
def RetreeLengthsSaid : Prop := retreeLengthsRow.holds Try.pinned (OpenSpec.ofChange retreeLengthsSpec)

/-- ITS FALSE NEIGHBOUR: 'it returns false'. Refute it at one input. -/
def retreeLengthsWrong : ChangeSpec := { name := "retreeLengths", fn := fun _ => fun
  | [d1, d2] => { results := [.lit (.bool false)], args := [d1, d2] }
  | _ => none }
def RetreeLengthsWrongFalsely : Prop := retreeLengthsRow.holds Try.pinned (OpenSpec.ofChange retreeLengthsWrong)

/-- 'texttoolslaw08.RetreeKeeps': WHATEVER THE INPUT: true; the input reads as it did. -/
def retreeKeepsSpec : ChangeSpec := { name := "retreeKeeps", fn := fun _ => fun
  | [d] => { results := [.lit (.bool true)], args := [d] }
  | _ => none }
def retreeKeepsRow : OpenClaim := { program := "ytibfnmkeghkdpaa", sum := "e2c9ec6e6271798c9e35fa693efc886d3a3dd4594efe5973a6caa39d8d7b4552", func := "texttools/texttoolslaw08.RetreeKeeps", spec := "retreeKeeps", unfollowed := true, recurses := true, loops := true, apart := false }
def RetreeKeepsSaid : Prop := retreeKeepsRow.holds Try.pinned (OpenSpec.ofChange retreeKeepsSpec)

/-- ITS FALSE NEIGHBOUR: 'it returns false'. Refute it at one input. -/
def retreeKeepsWrong : ChangeSpec := { name := "retreeKeeps", fn := fun _ => fun
  | [d] => { results := [.lit (.bool false)], args := [d] }
  | _ => none }
def RetreeKeepsWrongFalsely : Prop := retreeKeepsRow.holds Try.pinned (OpenSpec.ofChange retreeKeepsWrong)

/-- 'texttoolslaw08.RetreeComposes': WHATEVER THE INPUT: true; the input reads as it did. -/
def retreeComposesSpec : ChangeSpec := { name := "retreeComposes", fn := fun _ => fun
  | [d1, d2] => { results := [.lit (.bool true)], args := [d1, d2] }
  | _ => none }
def retreeComposesRow : OpenClaim := { program := "ytibfnmkeghkdpaa", sum := "e2c9ec6e6271798c9e35fa693efc886d3a3dd4594efe5973a6caa39d8d7b4552", func := "texttools/texttoolslaw08.RetreeComposes", spec := "retreeComposes", unfollowed := true, recurses := true, loops := true, apart := false }
def RetreeComposesSaid : Prop := retreeComposesRow.holds Try.pinned (OpenSpec.ofChange retreeComposesSpec)

/-- ITS FALSE NEIGHBOUR: 'it returns false'. Refute it at one input. -/
def retreeComposesWrong : ChangeSpec := { name := "retreeComposes", fn := fun _ => fun
  | [d1, d2] => { results := [.lit (.bool false)], args := [d1, d2] }
  | _ => none }
def RetreeComposesWrongFalsely : Prop := retreeComposesRow.holds Try.pinned (OpenSpec.ofChange retreeComposesWrong)

/- THE SECOND FORM. 'bulk': how many values and letters a reading holds, each counted each time it is reached (what is shared counts as often as it is met; a slice's spare places count too). A statement '..UptoSaid' is the law's where the arguments, and the package variables that the reading takes, are together of bulk at most 1048576: NARROWER than '..Said'. Prove '..Said' where nothing that the law and all that it calls make is longer than what came in: it says more and counts as full. Else prove '..UptoSaid'. A law counts once. -/
mutual
def uptoBulk {H : Type} : DataW H → Nat
  | .lit (.string bytes) => bytes.length + 1
  | .lit _ => 1
  | .nil => 1
  | .ptr d => uptoBulk d + 1
  | .slice elems spare => uptoBulkAll elems + uptoBulkAll spare + 1
  | .agg parts => uptoBulkAll parts + 1
  | .iface _ d => uptoBulk d + 1
  | .map entries => uptoBulkEntries entries + 1
  | .held _ => 1
def uptoBulkAll {H : Type} : List (DataW H) → Nat
  | [] => 0
  | d :: r => uptoBulk d + uptoBulkAll r
def uptoBulkEntries {H : Type} : List (Lit × DataW H) → Nat
  | [] => 0
  | x :: r => uptoBulkEntry x + uptoBulkEntries r
def uptoBulkEntry {H : Type} : Lit × DataW H → Nat
  | (.string bytes, d) => bytes.length + uptoBulk d + 1
  | (_, d) => uptoBulk d + 1
 end
def uptoSmall : (H : Type) → List (DataW H) → Bool := fun _ ds => decide (uptoBulkAll ds ≤ 1048576)
def OpenSpec.upto (s : _root_.Go.ChangeSpec) : _root_.Go.OpenSpec := { _root_.Go.OpenSpec.ofChange s with cond := some uptoSmall }

/-- 'texttoolslaw08.RetreeChecks', WHERE WHAT IT READS IS OF BULK AT MOST 1048576: true; the input reads as it did. -/
def retreeChecksUptoRow : OpenClaim := { program := "ytibfnmkeghkdpaa", sum := "e2c9ec6e6271798c9e35fa693efc886d3a3dd4594efe5973a6caa39d8d7b4552", func := "texttools/texttoolslaw08.RetreeChecks", spec := "retreeChecks", unfollowed := true, recurses := true, loops := true, apart := false, narrowed := true }
def RetreeChecksUptoSaid : Prop := retreeChecksUptoRow.holds Try.pinned (OpenSpec.upto retreeChecksSpec)

/-- 'texttoolslaw08.RetreeCounts', WHERE WHAT IT READS IS OF BULK AT MOST 1048576: true; the input reads as it did. -/
def retreeCountsUptoRow : OpenClaim := { program := "ytibfnmkeghkdpaa", sum := "e2c9ec6e6271798c9e35fa693efc886d3a3dd4594efe5973a6caa39d8d7b4552", func := "texttools/texttoolslaw08.RetreeCounts", spec := "retreeCounts", unfollowed := true, recurses := true, loops := true, apart := false, narrowed := true }
def RetreeCountsUptoSaid : Prop := retreeCountsUptoRow.holds Try.pinned (OpenSpec.upto retreeCountsSpec)

/-- 'texttoolslaw08.RetreeBounds', WHERE WHAT IT READS IS OF BULK AT MOST 1048576: true; the input reads as it did. -/
def retreeBoundsUptoRow : OpenClaim := { program := "ytibfnmkeghkdpaa", sum := "e2c9ec6e6271798c9e35fa693efc886d3a3dd4594efe5973a6caa39d8d7b4552", func := "texttools/texttoolslaw08.RetreeBounds", spec := "retreeBounds", unfollowed := true, recurses := true, loops := true, apart := false, narrowed := true }
def RetreeBoundsUptoSaid : Prop := retreeBoundsUptoRow.holds Try.pinned (OpenSpec.upto retreeBoundsSpec)

/-- 'texttoolslaw08.RetreeExpands', WHERE WHAT IT READS IS OF BULK AT MOST 1048576: true; the input reads as it did. -/
def retreeExpandsUptoRow : OpenClaim := { program := "ytibfnmkeghkdpaa", sum := "e2c9ec6e6271798c9e35fa693efc886d3a3dd4594efe5973a6caa39d8d7b4552", func := "texttools/texttoolslaw08.RetreeExpands", spec := "retreeExpands", unfollowed := true, recurses := true, loops := true, apart := false, narrowed := true }
def RetreeExpandsUptoSaid : Prop := retreeExpandsUptoRow.holds Try.pinned (OpenSpec.upto retreeExpandsSpec)

/-- 'texttoolslaw08.RetreeLengths', WHERE WHAT IT READS IS OF BULK AT MOST 1048576: true; the input reads as it did. -/
def retreeLengthsUptoRow : OpenClaim := { program := "ytibfnmkeghkdpaa", sum := "e2c9ec6e6271798c9e35fa693efc886d3a3dd4594efe5973a6caa39d8d7b4552", func := "texttools/texttoolslaw08.RetreeLengths", spec := "retreeLengths", unfollowed := true, recurses := true, loops := true, apart := false, narrowed := true }
def RetreeLengthsUptoSaid : Prop := retreeLengthsUptoRow.holds Try.pinned (OpenSpec.upto retreeLengthsSpec)

/-- 'texttoolslaw08.RetreeKeeps', WHERE WHAT IT READS IS OF BULK AT MOST 1048576: true; the input reads as it did. -/
def retreeKeepsUptoRow : OpenClaim := { program := "ytibfnmkeghkdpaa", sum := "e2c9ec6e6271798c9e35fa693efc886d3a3dd4594efe5973a6caa39d8d7b4552", func := "texttools/texttoolslaw08.RetreeKeeps", spec := "retreeKeeps", unfollowed := true, recurses := true, loops := true, apart := false, narrowed := true }
def RetreeKeepsUptoSaid : Prop := retreeKeepsUptoRow.holds Try.pinned (OpenSpec.upto retreeKeepsSpec)

/-- 'texttoolslaw08.RetreeComposes', WHERE WHAT IT READS IS OF BULK AT MOST 1048576: true; the input reads as it did. -/
def retreeComposesUptoRow : OpenClaim := { program := "ytibfnmkeghkdpaa", sum := "e2c9ec6e6271798c9e35fa693efc886d3a3dd4594efe5973a6caa39d8d7b4552", func := "texttools/texttoolslaw08.RetreeComposes", spec := "retreeComposes", unfollowed := true, recurses := true, loops := true, apart := false, narrowed := true }
def RetreeComposesUptoSaid : Prop := retreeComposesUptoRow.holds Try.pinned (OpenSpec.upto retreeComposesSpec)

end Rows
end Go.Proofs.Ytibfnmkeghkdpaa
