/-
  NARROWER THAN 'FOR EVERY INPUT', by the rows' own cells (each row's printed sentence says how): RematchParses: loops, laid · RematchFinds: loops, laid · RematchLongest: loops, laid · RematchOrders: loops, laid · RematchComposes: loops, laid · RematchShifts: loops, laid · RematchDoubles: loops, laid.
  DERIVED. THE GIVEN ROWS OF THIS SEAT. 7 by the template 'for every input the law returns true; each argument reads behind the call as it read before'; 0 by the template 'total and deterministic' (their statements: YtkinnfejgpnddaaDoorTotals.lean).
  GIVEN WITH THE SEED: the statements are not yours to turn. If you find one false, say at which input.
  Laid BY PROGRAM, IN A SANDBOX (cutbox-rows.mjs): the forced cells as the released guide's own fill.sh prints them over the translation ab9c1e1ee1a94029… (all of the seat's roots in one cut). By AI agents, Wed Nov 11 2026. No macro, syntax, notation, axiom, sorry.
-/
import Derived.Test.YtkinnfejgpnddaaDoorChecked
import GoSem.Claim
import GoSem.ClaimJoined
import GoSem.ClaimMapViews
import Derived.JoinedTies
import Derived.KernelRfl
namespace Go.Proofs.YtkinnfejgpnddaaDoor
/- THE CELL 'sum', in the pinned program and in every row, IS THE sha256 OF THE DUMP (.gsa) THAT YtkinnfejgpnddaaDoorProg.lean LOADS. Nothing in Lean hashes anything: it is a label: what it is worth is what the hold of that sum in a sandbox is worth. -/
noncomputable def Tryd.pinned : Pinned := { name := "ytkinnfejgpnddaadoor", sum := "ab9c1e1ee1a940297c98999ea93232b146809ac1af64c37c3c5c5a2c6712fb0e", checked := Tryd.checked }
namespace Rows
def none {H : Type} : Left H := { results := [], args := [] }

/- WHAT THE LISTED PACKAGE-LEVEL VARIABLES READ AS WHEN THE CALL BEGINS. Each datum BY PROGRAM (the guide's laid-datum.mjs) off the statement by which the dump's own 'gosem.cut.vars' lays the variable. In a bare row this is a premise. The card (YtkinnfejgpnddaaDoorCards.lean) ties it to the program's text. -/
def laid_math_bits_deBruijn32tab {H : Type} : DataW H := .agg [.lit (.int .u8 0), .lit (.int .u8 1), .lit (.int .u8 28), .lit (.int .u8 2), .lit (.int .u8 29), .lit (.int .u8 14), .lit (.int .u8 24), .lit (.int .u8 3), .lit (.int .u8 30), .lit (.int .u8 22), .lit (.int .u8 20), .lit (.int .u8 15), .lit (.int .u8 25), .lit (.int .u8 17), .lit (.int .u8 4), .lit (.int .u8 8), .lit (.int .u8 31), .lit (.int .u8 27), .lit (.int .u8 13), .lit (.int .u8 23), .lit (.int .u8 21), .lit (.int .u8 19), .lit (.int .u8 16), .lit (.int .u8 7), .lit (.int .u8 26), .lit (.int .u8 12), .lit (.int .u8 18), .lit (.int .u8 6), .lit (.int .u8 11), .lit (.int .u8 5), .lit (.int .u8 10), .lit (.int .u8 9)]
def laid_math_bits_deBruijn64tab {H : Type} : DataW H := .agg [.lit (.int .u8 0), .lit (.int .u8 1), .lit (.int .u8 56), .lit (.int .u8 2), .lit (.int .u8 57), .lit (.int .u8 49), .lit (.int .u8 28), .lit (.int .u8 3), .lit (.int .u8 61), .lit (.int .u8 58), .lit (.int .u8 42), .lit (.int .u8 50), .lit (.int .u8 38), .lit (.int .u8 29), .lit (.int .u8 17), .lit (.int .u8 4), .lit (.int .u8 62), .lit (.int .u8 47), .lit (.int .u8 59), .lit (.int .u8 36), .lit (.int .u8 45), .lit (.int .u8 43), .lit (.int .u8 51), .lit (.int .u8 22), .lit (.int .u8 53), .lit (.int .u8 39), .lit (.int .u8 33), .lit (.int .u8 30), .lit (.int .u8 24), .lit (.int .u8 18), .lit (.int .u8 12), .lit (.int .u8 5), .lit (.int .u8 63), .lit (.int .u8 55), .lit (.int .u8 48), .lit (.int .u8 27), .lit (.int .u8 60), .lit (.int .u8 41), .lit (.int .u8 37), .lit (.int .u8 16), .lit (.int .u8 46), .lit (.int .u8 35), .lit (.int .u8 44), .lit (.int .u8 21), .lit (.int .u8 52), .lit (.int .u8 32), .lit (.int .u8 23), .lit (.int .u8 11), .lit (.int .u8 54), .lit (.int .u8 26), .lit (.int .u8 40), .lit (.int .u8 15), .lit (.int .u8 34), .lit (.int .u8 20), .lit (.int .u8 31), .lit (.int .u8 10), .lit (.int .u8 25), .lit (.int .u8 14), .lit (.int .u8 19), .lit (.int .u8 9), .lit (.int .u8 13), .lit (.int .u8 8), .lit (.int .u8 7), .lit (.int .u8 6)]
def laid_internal_strconv_uint64pow10 {H : Type} : DataW H := .agg [.lit (.int .u64 1), .lit (.int .u64 10), .lit (.int .u64 100), .lit (.int .u64 1000), .lit (.int .u64 10000), .lit (.int .u64 100000), .lit (.int .u64 1000000), .lit (.int .u64 10000000), .lit (.int .u64 100000000), .lit (.int .u64 1000000000), .lit (.int .u64 10000000000), .lit (.int .u64 100000000000), .lit (.int .u64 1000000000000), .lit (.int .u64 10000000000000), .lit (.int .u64 100000000000000), .lit (.int .u64 1000000000000000), .lit (.int .u64 10000000000000000), .lit (.int .u64 100000000000000000), .lit (.int .u64 1000000000000000000), .lit (.int .u64 10000000000000000000)]
def laid_texttools_rematch_none {H : Type} : DataW H := .agg [.lit (.int .i64 (-1)), .lit (.int .i64 (-1))]

/-- 'texttoolslaw09.RematchParses': WHATEVER THE INPUT: true; the input reads as it did. -/
def rematchParsesSpec : ChangeSpec := { name := "rematchParses", fn := fun _ => fun
  | [d1, d2] => { results := [.lit (.bool true)], args := [d1, d2] }
  | _ => none }
def rematchParsesRow : OpenClaim := { program := "ytkinnfejgpnddaadoor", sum := "ab9c1e1ee1a940297c98999ea93232b146809ac1af64c37c3c5c5a2c6712fb0e", func := "texttools/texttoolslaw09.RematchParses", spec := "rematchParses", unfollowed := true, recurses := true, named := ["texttools/rematch.none", "internal/strconv.uint64pow10", "math/bits.deBruijn32tab", "math/bits.deBruijn64tab"], loops := true, plainKeys := false, apart := false, laid := [("math/bits.deBruijn32tab", laid_math_bits_deBruijn32tab), ("math/bits.deBruijn64tab", laid_math_bits_deBruijn64tab), ("internal/strconv.uint64pow10", laid_internal_strconv_uint64pow10), ("texttools/rematch.none", laid_texttools_rematch_none)] }
def RematchParsesSaid : Prop := rematchParsesRow.holds Tryd.pinned (OpenSpec.ofChange rematchParsesSpec)

/-- ITS FALSE NEIGHBOUR: 'it returns false'. Refute it at one input. -/
def rematchParsesWrong : ChangeSpec := { name := "rematchParses", fn := fun _ => fun
  | [d1, d2] => { results := [.lit (.bool false)], args := [d1, d2] }
  | _ => none }
def RematchParsesWrongFalsely : Prop := rematchParsesRow.holds Tryd.pinned (OpenSpec.ofChange rematchParsesWrong)

/-- 'texttoolslaw09.RematchFinds': WHATEVER THE INPUT: true; the input reads as it did. -/
def rematchFindsSpec : ChangeSpec := { name := "rematchFinds", fn := fun _ => fun
  | [d1, d2] => { results := [.lit (.bool true)], args := [d1, d2] }
  | _ => none }
def rematchFindsRow : OpenClaim := { program := "ytkinnfejgpnddaadoor", sum := "ab9c1e1ee1a940297c98999ea93232b146809ac1af64c37c3c5c5a2c6712fb0e", func := "texttools/texttoolslaw09.RematchFinds", spec := "rematchFinds", unfollowed := true, recurses := true, named := ["texttools/rematch.none", "internal/strconv.uint64pow10", "math/bits.deBruijn32tab", "math/bits.deBruijn64tab"], loops := true, plainKeys := false, apart := false, laid := [("math/bits.deBruijn32tab", laid_math_bits_deBruijn32tab), ("math/bits.deBruijn64tab", laid_math_bits_deBruijn64tab), ("internal/strconv.uint64pow10", laid_internal_strconv_uint64pow10), ("texttools/rematch.none", laid_texttools_rematch_none)] }
def RematchFindsSaid : Prop := rematchFindsRow.holds Tryd.pinned (OpenSpec.ofChange rematchFindsSpec)

/-- ITS FALSE NEIGHBOUR: 'it returns false'. Refute it at one input. -/
def rematchFindsWrong : ChangeSpec := { name := "rematchFinds", fn := fun _ => fun
  | [d1, d2] => { results := [.lit (.bool false)], args := [d1, d2] }
  | _ => none }
def RematchFindsWrongFalsely : Prop := rematchFindsRow.holds Tryd.pinned (OpenSpec.ofChange rematchFindsWrong)

/-- 'texttoolslaw09.RematchLongest': WHATEVER THE INPUT: true; the input reads as it did. -/
def rematchLongestSpec : ChangeSpec := { name := "rematchLongest", fn := fun _ => fun
  | [d1, d2] => { results := [.lit (.bool true)], args := [d1, d2] }
  | _ => none }
def rematchLongestRow : OpenClaim := { program := "ytkinnfejgpnddaadoor", sum := "ab9c1e1ee1a940297c98999ea93232b146809ac1af64c37c3c5c5a2c6712fb0e", func := "texttools/texttoolslaw09.RematchLongest", spec := "rematchLongest", unfollowed := true, recurses := true, named := ["texttools/rematch.none", "internal/strconv.uint64pow10", "math/bits.deBruijn32tab", "math/bits.deBruijn64tab"], loops := true, plainKeys := false, apart := false, laid := [("math/bits.deBruijn32tab", laid_math_bits_deBruijn32tab), ("math/bits.deBruijn64tab", laid_math_bits_deBruijn64tab), ("internal/strconv.uint64pow10", laid_internal_strconv_uint64pow10), ("texttools/rematch.none", laid_texttools_rematch_none)] }
def RematchLongestSaid : Prop := rematchLongestRow.holds Tryd.pinned (OpenSpec.ofChange rematchLongestSpec)

/-- ITS FALSE NEIGHBOUR: 'it returns false'. Refute it at one input. -/
def rematchLongestWrong : ChangeSpec := { name := "rematchLongest", fn := fun _ => fun
  | [d1, d2] => { results := [.lit (.bool false)], args := [d1, d2] }
  | _ => none }
def RematchLongestWrongFalsely : Prop := rematchLongestRow.holds Tryd.pinned (OpenSpec.ofChange rematchLongestWrong)

/-- 'texttoolslaw09.RematchOrders': WHATEVER THE INPUT: true; the input reads as it did. -/
def rematchOrdersSpec : ChangeSpec := { name := "rematchOrders", fn := fun _ => fun
  | [d1, d2] => { results := [.lit (.bool true)], args := [d1, d2] }
  | _ => none }
def rematchOrdersRow : OpenClaim := { program := "ytkinnfejgpnddaadoor", sum := "ab9c1e1ee1a940297c98999ea93232b146809ac1af64c37c3c5c5a2c6712fb0e", func := "texttools/texttoolslaw09.RematchOrders", spec := "rematchOrders", unfollowed := true, recurses := true, named := ["texttools/rematch.none", "internal/strconv.uint64pow10", "math/bits.deBruijn32tab", "math/bits.deBruijn64tab"], loops := true, plainKeys := false, apart := false, laid := [("math/bits.deBruijn32tab", laid_math_bits_deBruijn32tab), ("math/bits.deBruijn64tab", laid_math_bits_deBruijn64tab), ("internal/strconv.uint64pow10", laid_internal_strconv_uint64pow10), ("texttools/rematch.none", laid_texttools_rematch_none)] }
def RematchOrdersSaid : Prop := rematchOrdersRow.holds Tryd.pinned (OpenSpec.ofChange rematchOrdersSpec)

/-- ITS FALSE NEIGHBOUR: 'it returns false'. Refute it at one input. -/
def rematchOrdersWrong : ChangeSpec := { name := "rematchOrders", fn := fun _ => fun
  | [d1, d2] => { results := [.lit (.bool false)], args := [d1, d2] }
  | _ => none }
def RematchOrdersWrongFalsely : Prop := rematchOrdersRow.holds Tryd.pinned (OpenSpec.ofChange rematchOrdersWrong)

/-- 'texttoolslaw09.RematchComposes': WHATEVER THE INPUT: true; the input reads as it did. -/
def rematchComposesSpec : ChangeSpec := { name := "rematchComposes", fn := fun _ => fun
  | [d1, d2, d3] => { results := [.lit (.bool true)], args := [d1, d2, d3] }
  | _ => none }
def rematchComposesRow : OpenClaim := { program := "ytkinnfejgpnddaadoor", sum := "ab9c1e1ee1a940297c98999ea93232b146809ac1af64c37c3c5c5a2c6712fb0e", func := "texttools/texttoolslaw09.RematchComposes", spec := "rematchComposes", unfollowed := true, recurses := true, named := ["texttools/rematch.none", "internal/strconv.uint64pow10", "math/bits.deBruijn32tab", "math/bits.deBruijn64tab"], loops := true, plainKeys := false, apart := false, laid := [("math/bits.deBruijn32tab", laid_math_bits_deBruijn32tab), ("math/bits.deBruijn64tab", laid_math_bits_deBruijn64tab), ("internal/strconv.uint64pow10", laid_internal_strconv_uint64pow10), ("texttools/rematch.none", laid_texttools_rematch_none)] }
def RematchComposesSaid : Prop := rematchComposesRow.holds Tryd.pinned (OpenSpec.ofChange rematchComposesSpec)

/-- ITS FALSE NEIGHBOUR: 'it returns false'. Refute it at one input. -/
def rematchComposesWrong : ChangeSpec := { name := "rematchComposes", fn := fun _ => fun
  | [d1, d2, d3] => { results := [.lit (.bool false)], args := [d1, d2, d3] }
  | _ => none }
def RematchComposesWrongFalsely : Prop := rematchComposesRow.holds Tryd.pinned (OpenSpec.ofChange rematchComposesWrong)

/-- 'texttoolslaw09.RematchShifts': WHATEVER THE INPUT: true; the input reads as it did. -/
def rematchShiftsSpec : ChangeSpec := { name := "rematchShifts", fn := fun _ => fun
  | [d1, d2, d3] => { results := [.lit (.bool true)], args := [d1, d2, d3] }
  | _ => none }
def rematchShiftsRow : OpenClaim := { program := "ytkinnfejgpnddaadoor", sum := "ab9c1e1ee1a940297c98999ea93232b146809ac1af64c37c3c5c5a2c6712fb0e", func := "texttools/texttoolslaw09.RematchShifts", spec := "rematchShifts", unfollowed := true, recurses := true, named := ["texttools/rematch.none", "internal/strconv.uint64pow10", "math/bits.deBruijn32tab", "math/bits.deBruijn64tab"], loops := true, plainKeys := false, apart := false, laid := [("math/bits.deBruijn32tab", laid_math_bits_deBruijn32tab), ("math/bits.deBruijn64tab", laid_math_bits_deBruijn64tab), ("internal/strconv.uint64pow10", laid_internal_strconv_uint64pow10), ("texttools/rematch.none", laid_texttools_rematch_none)] }
def RematchShiftsSaid : Prop := rematchShiftsRow.holds Tryd.pinned (OpenSpec.ofChange rematchShiftsSpec)

/-- ITS FALSE NEIGHBOUR: 'it returns false'. Refute it at one input. -/
def rematchShiftsWrong : ChangeSpec := { name := "rematchShifts", fn := fun _ => fun
  | [d1, d2, d3] => { results := [.lit (.bool false)], args := [d1, d2, d3] }
  | _ => none }
def RematchShiftsWrongFalsely : Prop := rematchShiftsRow.holds Tryd.pinned (OpenSpec.ofChange rematchShiftsWrong)

/-- 'texttoolslaw09.RematchDoubles': WHATEVER THE INPUT: true; the input reads as it did. -/
def rematchDoublesSpec : ChangeSpec := { name := "rematchDoubles", fn := fun _ => fun
  | [d1, d2] => { results := [.lit (.bool true)], args := [d1, d2] }
  | _ => none }
def rematchDoublesRow : OpenClaim := { program := "ytkinnfejgpnddaadoor", sum := "ab9c1e1ee1a940297c98999ea93232b146809ac1af64c37c3c5c5a2c6712fb0e", func := "texttools/texttoolslaw09.RematchDoubles", spec := "rematchDoubles", unfollowed := true, recurses := true, named := ["texttools/rematch.none", "internal/strconv.uint64pow10", "math/bits.deBruijn32tab", "math/bits.deBruijn64tab"], loops := true, plainKeys := false, apart := false, laid := [("math/bits.deBruijn32tab", laid_math_bits_deBruijn32tab), ("math/bits.deBruijn64tab", laid_math_bits_deBruijn64tab), ("internal/strconv.uint64pow10", laid_internal_strconv_uint64pow10), ("texttools/rematch.none", laid_texttools_rematch_none)] }
def RematchDoublesSaid : Prop := rematchDoublesRow.holds Tryd.pinned (OpenSpec.ofChange rematchDoublesSpec)

/-- ITS FALSE NEIGHBOUR: 'it returns false'. Refute it at one input. -/
def rematchDoublesWrong : ChangeSpec := { name := "rematchDoubles", fn := fun _ => fun
  | [d1, d2] => { results := [.lit (.bool false)], args := [d1, d2] }
  | _ => none }
def RematchDoublesWrongFalsely : Prop := rematchDoublesRow.holds Tryd.pinned (OpenSpec.ofChange rematchDoublesWrong)

/- THE SECOND FORM. 'bulk': how many values and letters a reading holds, each counted each time it is reached (what is shared counts as often as it is met; a slice's spare places count too). A statement '..UptoSaid' is the law's where the arguments, and the package variables that the reading takes, are together of bulk at most 1048576: NARROWER than '..Said'. Prove '..Said' where nothing that the law and all that it calls make is longer than what came in: it says more and counts as full. Else prove '..UptoSaid'. A law counts once. -/
mutual
def uptoBulk {H : Type} : DataW H → Nat
  | .lit (.string bytes) => bytes.length + 1
  | .lit _ => 1
  | .nil => 1
  | .ptr d => uptoBulk d + 1
  | .slice elems spare => uptoBulkAll elems + uptoBulkAll spare + 1
  | .agg parts => uptoBulkAll parts + 1
  | .iface _ d => uptoBulk d + 1
  | .map entries => uptoBulkEntries entries + 1
  | .held _ => 1
def uptoBulkAll {H : Type} : List (DataW H) → Nat
  | [] => 0
  | d :: r => uptoBulk d + uptoBulkAll r
def uptoBulkEntries {H : Type} : List (Lit × DataW H) → Nat
  | [] => 0
  | x :: r => uptoBulkEntry x + uptoBulkEntries r
def uptoBulkEntry {H : Type} : Lit × DataW H → Nat
  | (.string bytes, d) => bytes.length + uptoBulk d + 1
  | (_, d) => uptoBulk d + 1
 end
def uptoSmall : (H : Type) → List (DataW H) → Bool := fun _ ds => decide (uptoBulkAll ds ≤ 1048576)
def OpenSpec.upto (s : _root_.Go.ChangeSpec) : _root_.Go.OpenSpec := { _root_.Go.OpenSpec.ofChange s with cond := some uptoSmall }

/-- 'texttoolslaw09.RematchParses', WHERE WHAT IT READS IS OF BULK AT MOST 1048576: true; the input reads as it did. -/
def rematchParsesUptoRow : OpenClaim := { program := "ytkinnfejgpnddaadoor", sum := "ab9c1e1ee1a940297c98999ea93232b146809ac1af64c37c3c5c5a2c6712fb0e", func := "texttools/texttoolslaw09.RematchParses", spec := "rematchParses", unfollowed := true, recurses := true, named := ["texttools/rematch.none", "internal/strconv.uint64pow10", "math/bits.deBruijn32tab", "math/bits.deBruijn64tab"], loops := true, plainKeys := false, apart := false, laid := [("math/bits.deBruijn32tab", laid_math_bits_deBruijn32tab), ("math/bits.deBruijn64tab", laid_math_bits_deBruijn64tab), ("internal/strconv.uint64pow10", laid_internal_strconv_uint64pow10), ("texttools/rematch.none", laid_texttools_rematch_none)], narrowed := true }
def RematchParsesUptoSaid : Prop := rematchParsesUptoRow.holds Tryd.pinned (OpenSpec.upto rematchParsesSpec)

/-- 'texttoolslaw09.RematchFinds', WHERE WHAT IT READS IS OF BULK AT MOST 1048576: true; the input reads as it did. -/
def rematchFindsUptoRow : OpenClaim := { program := "ytkinnfejgpnddaadoor", sum := "ab9c1e1ee1a940297c98999ea93232b146809ac1af64c37c3c5c5a2c6712fb0e", func := "texttools/texttoolslaw09.RematchFinds", spec := "rematchFinds", unfollowed := true, recurses := true, named := ["texttools/rematch.none", "internal/strconv.uint64pow10", "math/bits.deBruijn32tab", "math/bits.deBruijn64tab"], loops := true, plainKeys := false, apart := false, laid := [("math/bits.deBruijn32tab", laid_math_bits_deBruijn32tab), ("math/bits.deBruijn64tab", laid_math_bits_deBruijn64tab), ("internal/strconv.uint64pow10", laid_internal_strconv_uint64pow10), ("texttools/rematch.none", laid_texttools_rematch_none)], narrowed := true }
def RematchFindsUptoSaid : Prop := rematchFindsUptoRow.holds Tryd.pinned (OpenSpec.upto rematchFindsSpec)

/-- 'texttoolslaw09.RematchLongest', WHERE WHAT IT READS IS OF BULK AT MOST 1048576: true; the input reads as it did. -/
def rematchLongestUptoRow : OpenClaim := { program := "ytkinnfejgpnddaadoor", sum := "ab9c1e1ee1a940297c98999ea93232b146809ac1af64c37c3c5c5a2c6712fb0e", func := "texttools/texttoolslaw09.RematchLongest", spec := "rematchLongest", unfollowed := true, recurses := true, named := ["texttools/rematch.none", "internal/strconv.uint64pow10", "math/bits.deBruijn32tab", "math/bits.deBruijn64tab"], loops := true, plainKeys := false, apart := false, laid := [("math/bits.deBruijn32tab", laid_math_bits_deBruijn32tab), ("math/bits.deBruijn64tab", laid_math_bits_deBruijn64tab), ("internal/strconv.uint64pow10", laid_internal_strconv_uint64pow10), ("texttools/rematch.none", laid_texttools_rematch_none)], narrowed := true }
def RematchLongestUptoSaid : Prop := rematchLongestUptoRow.holds Tryd.pinned (OpenSpec.upto rematchLongestSpec)

/-- 'texttoolslaw09.RematchOrders', WHERE WHAT IT READS IS OF BULK AT MOST 1048576: true; the input reads as it did. -/
def rematchOrdersUptoRow : OpenClaim := { program := "ytkinnfejgpnddaadoor", sum := "ab9c1e1ee1a940297c98999ea93232b146809ac1af64c37c3c5c5a2c6712fb0e", func := "texttools/texttoolslaw09.RematchOrders", spec := "rematchOrders", unfollowed := true, recurses := true, named := ["texttools/rematch.none", "internal/strconv.uint64pow10", "math/bits.deBruijn32tab", "math/bits.deBruijn64tab"], loops := true, plainKeys := false, apart := false, laid := [("math/bits.deBruijn32tab", laid_math_bits_deBruijn32tab), ("math/bits.deBruijn64tab", laid_math_bits_deBruijn64tab), ("internal/strconv.uint64pow10", laid_internal_strconv_uint64pow10), ("texttools/rematch.none", laid_texttools_rematch_none)], narrowed := true }
def RematchOrdersUptoSaid : Prop := rematchOrdersUptoRow.holds Tryd.pinned (OpenSpec.upto rematchOrdersSpec)

/-- 'texttoolslaw09.RematchComposes', WHERE WHAT IT READS IS OF BULK AT MOST 1048576: true; the input reads as it did. -/
def rematchComposesUptoRow : OpenClaim := { program := "ytkinnfejgpnddaadoor", sum := "ab9c1e1ee1a940297c98999ea93232b146809ac1af64c37c3c5c5a2c6712fb0e", func := "texttools/texttoolslaw09.RematchComposes", spec := "rematchComposes", unfollowed := true, recurses := true, named := ["texttools/rematch.none", "internal/strconv.uint64pow10", "math/bits.deBruijn32tab", "math/bits.deBruijn64tab"], loops := true, plainKeys := false, apart := false, laid := [("math/bits.deBruijn32tab", laid_math_bits_deBruijn32tab), ("math/bits.deBruijn64tab", laid_math_bits_deBruijn64tab), ("internal/strconv.uint64pow10", laid_internal_strconv_uint64pow10), ("texttools/rematch.none", laid_texttools_rematch_none)], narrowed := true }
def RematchComposesUptoSaid : Prop := rematchComposesUptoRow.holds Tryd.pinned (OpenSpec.upto rematchComposesSpec)

/-- 'texttoolslaw09.RematchShifts', WHERE WHAT IT READS IS OF BULK AT MOST 1048576: true; the input reads as it did. -/
def rematchShiftsUptoRow : OpenClaim := { program := "ytkinnfejgpnddaadoor", sum := "ab9c1e1ee1a940297c98999ea93232b146809ac1af64c37c3c5c5a2c6712fb0e", func := "texttools/texttoolslaw09.RematchShifts", spec := "rematchShifts", unfollowed := true, recurses := true, named := ["texttools/rematch.none", "internal/strconv.uint64pow10", "math/bits.deBruijn32tab", "math/bits.deBruijn64tab"], loops := true, plainKeys := false, apart := false, laid := [("math/bits.deBruijn32tab", laid_math_bits_deBruijn32tab), ("math/bits.deBruijn64tab", laid_math_bits_deBruijn64tab), ("internal/strconv.uint64pow10", laid_internal_strconv_uint64pow10), ("texttools/rematch.none", laid_texttools_rematch_none)], narrowed := true }
def RematchShiftsUptoSaid : Prop := rematchShiftsUptoRow.holds Tryd.pinned (OpenSpec.upto rematchShiftsSpec)

/-- 'texttoolslaw09.RematchDoubles', WHERE WHAT IT READS IS OF BULK AT MOST 1048576: true; the input reads as it did. -/
def rematchDoublesUptoRow : OpenClaim := { program := "ytkinnfejgpnddaadoor", sum := "ab9c1e1ee1a940297c98999ea93232b146809ac1af64c37c3c5c5a2c6712fb0e", func := "texttools/texttoolslaw09.RematchDoubles", spec := "rematchDoubles", unfollowed := true, recurses := true, named := ["texttools/rematch.none", "internal/strconv.uint64pow10", "math/bits.deBruijn32tab", "math/bits.deBruijn64tab"], loops := true, plainKeys := false, apart := false, laid := [("math/bits.deBruijn32tab", laid_math_bits_deBruijn32tab), ("math/bits.deBruijn64tab", laid_math_bits_deBruijn64tab), ("internal/strconv.uint64pow10", laid_internal_strconv_uint64pow10), ("texttools/rematch.none", laid_texttools_rematch_none)], narrowed := true }
def RematchDoublesUptoSaid : Prop := rematchDoublesUptoRow.holds Tryd.pinned (OpenSpec.upto rematchDoublesSpec)

end Rows
end Go.Proofs.YtkinnfejgpnddaaDoor
