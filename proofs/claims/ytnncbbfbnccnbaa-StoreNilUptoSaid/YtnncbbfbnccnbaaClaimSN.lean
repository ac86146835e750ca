/- The statement StoreNil, second form: for every input of bulk together at most 1048576 the law returns true, and the input reads as before. -/
import Derived.Test.YtnncbbfbnccnbaaRows
import Derived.Test.YtnncbbfbnccnbaaOpenC
import Derived.Test.YtnncbbfbnccnbaaLawNil
import Derived.WalkKit
import Derived.ProofKit
import Derived.OpenShut
import Derived.JoinedCond
import Derived.Carry
import Derived.ChangeArms
namespace Go.Proofs.Ytnncbbfbnccnbaa
open Go.ChangeShapes Go.WideShapes Go.ChangeAt Go.RowKit
set_option linter.unusedVariables false

namespace lawClaimSN
theorem contract (H : Type) (enc : TypeId × Value → H) (W : World) (base : Nat) (args : Array Value) (ds gs : List (DataW H)) (before : List MemPlace)
    (hsl : ∃ ca cn cc, args = #[.slice ca cn cc])
    (hW : DataW.Whole enc Try.prog Try.f5.params.toList Rows.storeNilSpec.vars false W args.toList ds gs before) (hk : Rows.uptoSmall H (ds ++ gs) = true) :
    Calls Try.prog 5 args W fun e W' => ∃ v, e = .returned v ∧ Rows.storeNilSpec.post enc Try.prog Try.f5 false true false false W args v W' := by
  obtain ⟨ca, cn, cc, rfl⟩ := hsl
  have hW' := hW
  obtain ⟨p, q, hA0, hV, rfl, hfz, hnd⟩ := hW
  have hA : DataW.TrodAll enc Try.prog W 0 (fun _ => true) true Try.f5.params.toList [.slice ca cn cc] ds p := hA0
  rw [Try.params5] at hA
  obtain ⟨d0, p0, rfl, rfl, h0⟩ : ∃ d0 p0, ds = [d0] ∧ p0 = p ∧ DataW.Trod enc Try.prog W 0 (fun _ => true) true 32 (.slice ca cn cc) d0 p0 := by
    match ds, hA with
    | [d0], hA =>
      obtain ⟨p0, q0, g0, g1, rfl⟩ := hA
      have g3 : q0 = [] := g1
      subst g3
      exact ⟨d0, p0, rfl, by simp, g0⟩
  obtain ⟨rfl, rfl⟩ := trodVars_none hV
  have h0k := h0
  obtain ⟨l, rfl, hin, hfit, hsz⟩ := open_calls h0
  simp only [List.append_nil] at hW'
  have hlt0 : ∀ x ∈ p0, x.block < W.heap.size := fun x hx => by simpa using hW'.lt x (by simp [hx])
  have hk2 : Rows.uptoBulk d0 ≤ 1048576 := by
    have h := of_decide_eq_true hk
    simp only [List.append_nil, Rows.uptoBulkAll] at h
    omega
  refine (LawNil_any W ca cc l hin (by omega) hfit).mono fun e W' ⟨he, hb⟩ => ?_
  subst he
  refine ⟨_, rfl, [d0], [], p0, [], p0, [], hW', ?_, ?_, rfl, hb.frame _, fun h => by cases h⟩
  · exact trodAll_cons_mk (shut_bool Try.underlying4 _) trodAll_mk0
  · exact trodAll_mk1 (Below.trod laidOutP (by kernel_rfl) (of_decide_eq_true (by kernel_rfl)) h0k hb hlt0)

set_option maxRecDepth 100000 in
theorem lifted (os : Os) (started : os.Started) (H : Type) (enc : TypeId × Value → H) (F : Stop.Interp) :
    ReturnsInHanded {} Try.checked os 5 .any ((Rows.OpenSpec.upto Rows.storeNilSpec).pre6 enc Try.prog Try.f5 Rows.storeNilUptoRow.domain false) (((Rows.OpenSpec.upto Rows.storeNilSpec).at F).post enc Try.prog Try.f5 false true false false) := by
  refine returnsInHanded_of_cond (C := Try.checked) (s := Rows.OpenSpec.upto Rows.storeNilSpec) (k := Rows.uptoSmall) rfl ownKnobL started (by kernel_rfl) Try.func5
    (OpenSpec.witness (enc := enc) (C := Try.checked) (s := Rows.OpenSpec.upto Rows.storeNilSpec) (k := Rows.uptoSmall) rfl false ⟨#[], #[.slice none 0 0], []⟩ 8 (by kernel_rfl) (by kernel_rfl) (by kernel_rfl)
      (x := ([.nil], [], [])) (by kernel_rfl) rfl (by kernel_rfl)) ?_
  intro W base args ds gs before hval hW _ hk _
  refine contract H enc W base args ds gs before ?_ hW hk
  have hA0 := hW
  obtain ⟨p, q, hA0, -, -, -, -⟩ := hA0
  have hA : DataW.TrodAll enc Try.prog W 0 (fun _ => true) true Try.f5.params.toList args.toList ds p := hA0
  rw [Try.params5] at hA
  obtain ⟨v0, d0, rfl, rfl, h0⟩ := trodAll_one hA
  obtain ⟨a0, c0, e0, rfl⟩ := okWide_slice Try.underlying32 (hval 0 32 _ rfl rfl)
  exact ⟨a0, c0, e0, rfl⟩

theorem over : Rows.storeNilUptoRow.holds Try.pinned (Rows.OpenSpec.upto Rows.storeNilSpec) :=
  OpenClaim.holds_of_cond 5 Try.f5 rfl rfl rfl rfl rfl rfl rfl ⟨rfl, rfl, rfl, rfl, rfl⟩ rfl rfl rfl rfl rfl (by kernel_rfl) Try.func5 (by kernel_rfl)
    (of_decide_eq_true (by kernel_rfl)) (by unfold Func.isWrapper; first | (rw [if_pos (by decide +kernel)]; kernel_rfl) | (rw [if_neg (by decide +kernel)]; exact ⟨rfl, rfl⟩))
    (fun os started H enc _ F => lifted os started H enc F)
end lawClaimSN

theorem storeNil_upto : Rows.StoreNilUptoSaid := lawClaimSN.over
#print axioms storeNil_upto
end Go.Proofs.Ytnncbbfbnccnbaa
