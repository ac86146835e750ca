/-
  NARROWER THAN 'FOR EVERY INPUT', by the rows' own cells (each row's printed sentence says how): RebackAt: loops · RebackSearches: loops · RebackBudget: loops · RebackAdds: loops.
  DERIVED. THE GIVEN ROWS OF THIS SEAT. 4 by the template 'for every input the law returns true; each argument reads behind the call as it read before'; 0 by the template 'total and deterministic' (their statements: YtnnocekencaadaaTotals.lean).
  GIVEN WITH THE SEED: the statements are not yours to turn. If you find one false, say at which input.
  Laid BY PROGRAM, IN A SANDBOX (cutbox-rows.mjs): the forced cells as the released guide's own fill.sh prints them over the translation c8bc7c6e4d0c6ad9… (all of the seat's roots in one cut). By AI agents, Wed Nov 11 2026. No macro, syntax, notation, axiom, sorry.
-/
import Derived.Test.YtnnocekencaadaaChecked
import GoSem.Claim
import GoSem.ClaimJoined
import GoSem.ClaimMapViews
import Derived.JoinedTies
import Derived.KernelRfl
namespace Go.Proofs.Ytnnocekencaadaa
/- THE CELL 'sum', in the pinned program and in every row, IS THE sha256 OF THE DUMP (.gsa) THAT YtnnocekencaadaaProg.lean LOADS. Nothing in Lean hashes anything: it is a label: what it is worth is what the hold of that sum in a sandbox is worth. -/
noncomputable def Try.pinned : Pinned := { name := "ytnnocekencaadaa", sum := "c8bc7c6e4d0c6ad9fc54230f78a396ed51e2bcb04ff2c0f4c996c29299c7551a", checked := Try.checked }
namespace Rows
def none {H : Type} : Left H := { results := [], args := [] }

/-- 'texttoolslaw14.RebackAt': WHATEVER THE INPUT: true; the input reads as it did. -/
def rebackAtSpec : ChangeSpec := { name := "rebackAt", fn := fun _ => fun
  | [d1, d2] => { results := [.lit (.bool true)], args := [d1, d2] }
  | _ => none }
def rebackAtRow : OpenClaim := { program := "ytnnocekencaadaa", sum := "c8bc7c6e4d0c6ad9fc54230f78a396ed51e2bcb04ff2c0f4c996c29299c7551a", func := "texttools/texttoolslaw14.RebackAt", spec := "rebackAt", unfollowed := true, recurses := true, loops := true, apart := false }
def RebackAtSaid : Prop := rebackAtRow.holds Try.pinned (OpenSpec.ofChange rebackAtSpec)

/-- ITS FALSE NEIGHBOUR: 'it returns false'. Refute it at one input. -/
def rebackAtWrong : ChangeSpec := { name := "rebackAt", fn := fun _ => fun
  | [d1, d2] => { results := [.lit (.bool false)], args := [d1, d2] }
  | _ => none }
def RebackAtWrongFalsely : Prop := rebackAtRow.holds Try.pinned (OpenSpec.ofChange rebackAtWrong)

/-- 'texttoolslaw14.RebackSearches': WHATEVER THE INPUT: true; the input reads as it did. -/
def rebackSearchesSpec : ChangeSpec := { name := "rebackSearches", fn := fun _ => fun
  | [d1, d2] => { results := [.lit (.bool true)], args := [d1, d2] }
  | _ => none }
def rebackSearchesRow : OpenClaim := { program := "ytnnocekencaadaa", sum := "c8bc7c6e4d0c6ad9fc54230f78a396ed51e2bcb04ff2c0f4c996c29299c7551a", func := "texttools/texttoolslaw14.RebackSearches", spec := "rebackSearches", unfollowed := true, recurses := true, loops := true, apart := false }
def RebackSearchesSaid : Prop := rebackSearchesRow.holds Try.pinned (OpenSpec.ofChange rebackSearchesSpec)

/-- ITS FALSE NEIGHBOUR: 'it returns false'. Refute it at one input. -/
def rebackSearchesWrong : ChangeSpec := { name := "rebackSearches", fn := fun _ => fun
  | [d1, d2] => { results := [.lit (.bool false)], args := [d1, d2] }
  | _ => none }
def RebackSearchesWrongFalsely : Prop := rebackSearchesRow.holds Try.pinned (OpenSpec.ofChange rebackSearchesWrong)

/-- 'texttoolslaw14.RebackBudget': WHATEVER THE INPUT: true; the input reads as it did. -/
def rebackBudgetSpec : ChangeSpec := { name := "rebackBudget", fn := fun _ => fun
  | [d1, d2] => { results := [.lit (.bool true)], args := [d1, d2] }
  | _ => none }
def rebackBudgetRow : OpenClaim := { program := "ytnnocekencaadaa", sum := "c8bc7c6e4d0c6ad9fc54230f78a396ed51e2bcb04ff2c0f4c996c29299c7551a", func := "texttools/texttoolslaw14.RebackBudget", spec := "rebackBudget", unfollowed := true, recurses := true, loops := true, apart := false }
def RebackBudgetSaid : Prop := rebackBudgetRow.holds Try.pinned (OpenSpec.ofChange rebackBudgetSpec)

/-- ITS FALSE NEIGHBOUR: 'it returns false'. Refute it at one input. -/
def rebackBudgetWrong : ChangeSpec := { name := "rebackBudget", fn := fun _ => fun
  | [d1, d2] => { results := [.lit (.bool false)], args := [d1, d2] }
  | _ => none }
def RebackBudgetWrongFalsely : Prop := rebackBudgetRow.holds Try.pinned (OpenSpec.ofChange rebackBudgetWrong)

/-- 'texttoolslaw14.RebackAdds': WHATEVER THE INPUT: true; the input reads as it did. -/
def rebackAddsSpec : ChangeSpec := { name := "rebackAdds", fn := fun _ => fun
  | [d1, d2] => { results := [.lit (.bool true)], args := [d1, d2] }
  | _ => none }
def rebackAddsRow : OpenClaim := { program := "ytnnocekencaadaa", sum := "c8bc7c6e4d0c6ad9fc54230f78a396ed51e2bcb04ff2c0f4c996c29299c7551a", func := "texttools/texttoolslaw14.RebackAdds", spec := "rebackAdds", unfollowed := true, recurses := true, loops := true, apart := false }
def RebackAddsSaid : Prop := rebackAddsRow.holds Try.pinned (OpenSpec.ofChange rebackAddsSpec)

/-- ITS FALSE NEIGHBOUR: 'it returns false'. Refute it at one input. -/
def rebackAddsWrong : ChangeSpec := { name := "rebackAdds", fn := fun _ => fun
  | [d1, d2] => { results := [.lit (.bool false)], args := [d1, d2] }
  | _ => none }
def RebackAddsWrongFalsely : Prop := rebackAddsRow.holds Try.pinned (OpenSpec.ofChange rebackAddsWrong)

/- THE SECOND FORM. 'bulk': how many values and letters a reading holds, each counted each time it is reached (what is shared counts as often as it is met; a slice's spare places count too). A statement '..UptoSaid' is the law's where the arguments, and the package variables that the reading takes, are together of bulk at most 1048576: NARROWER than '..Said'. Prove '..Said' where nothing that the law and all that it calls make is longer than what came in: it says more and counts as full. Else prove '..UptoSaid'. A law counts once. -/
mutual
def uptoBulk {H : Type} : DataW H → Nat
  | .lit (.string bytes) => bytes.length + 1
  | .lit _ => 1
  | .nil => 1
  | .ptr d => uptoBulk d + 1
  | .slice elems spare => uptoBulkAll elems + uptoBulkAll spare + 1
  | .agg parts => uptoBulkAll parts + 1
  | .iface _ d => uptoBulk d + 1
  | .map entries => uptoBulkEntries entries + 1
  | .held _ => 1
def uptoBulkAll {H : Type} : List (DataW H) → Nat
  | [] => 0
  | d :: r => uptoBulk d + uptoBulkAll r
def uptoBulkEntries {H : Type} : List (Lit × DataW H) → Nat
  | [] => 0
  | x :: r => uptoBulkEntry x + uptoBulkEntries r
def uptoBulkEntry {H : Type} : Lit × DataW H → Nat
  | (.string bytes, d) => bytes.length + uptoBulk d + 1
  | (_, d) => uptoBulk d + 1
 end
def uptoSmall : (H : Type) → List (DataW H) → Bool := fun _ ds => decide (uptoBulkAll ds ≤ 1048576)
def OpenSpec.upto (s : _root_.Go.ChangeSpec) : _root_.Go.OpenSpec := { _root_.Go.OpenSpec.ofChange s with cond := some uptoSmall }

/-- 'texttoolslaw14.RebackAt', WHERE WHAT IT READS IS OF BULK AT MOST 1048576: true; the input reads as it did. -/
def rebackAtUptoRow : OpenClaim := { program := "ytnnocekencaadaa", sum := "c8bc7c6e4d0c6ad9fc54230f78a396ed51e2bcb04ff2c0f4c996c29299c7551a", func := "texttools/texttoolslaw14.RebackAt", spec := "rebackAt", unfollowed := true, recurses := true, loops := true, apart := false, narrowed := true }
def RebackAtUptoSaid : Prop := rebackAtUptoRow.holds Try.pinned (OpenSpec.upto rebackAtSpec)

/-- 'texttoolslaw14.RebackSearches', WHERE WHAT IT READS IS OF BULK AT MOST 1048576: true; the input reads as it did. -/
def rebackSearchesUptoRow : OpenClaim := { program := "ytnnocekencaadaa", sum := "c8bc7c6e4d0c6ad9fc54230f78a396ed51e2bcb04ff2c0f4c996c29299c7551a", func := "texttools/texttoolslaw14.RebackSearches", spec := "rebackSearches", unfollowed := true, recurses := true, loops := true, apart := false, narrowed := true }
def RebackSearchesUptoSaid : Prop := rebackSearchesUptoRow.holds Try.pinned (OpenSpec.upto rebackSearchesSpec)

/-- 'texttoolslaw14.RebackBudget', WHERE WHAT IT READS IS OF BULK AT MOST 1048576: true; the input reads as it did. -/
def rebackBudgetUptoRow : OpenClaim := { program := "ytnnocekencaadaa", sum := "c8bc7c6e4d0c6ad9fc54230f78a396ed51e2bcb04ff2c0f4c996c29299c7551a", func := "texttools/texttoolslaw14.RebackBudget", spec := "rebackBudget", unfollowed := true, recurses := true, loops := true, apart := false, narrowed := true }
def RebackBudgetUptoSaid : Prop := rebackBudgetUptoRow.holds Try.pinned (OpenSpec.upto rebackBudgetSpec)

/-- 'texttoolslaw14.RebackAdds', WHERE WHAT IT READS IS OF BULK AT MOST 1048576: true; the input reads as it did. -/
def rebackAddsUptoRow : OpenClaim := { program := "ytnnocekencaadaa", sum := "c8bc7c6e4d0c6ad9fc54230f78a396ed51e2bcb04ff2c0f4c996c29299c7551a", func := "texttools/texttoolslaw14.RebackAdds", spec := "rebackAdds", unfollowed := true, recurses := true, loops := true, apart := false, narrowed := true }
def RebackAddsUptoSaid : Prop := rebackAddsUptoRow.holds Try.pinned (OpenSpec.upto rebackAddsSpec)

end Rows
end Go.Proofs.Ytnnocekencaadaa
