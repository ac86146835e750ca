/- The statement ResimExact, second form: for every input of bulk together at most 1048576 the law returns true, and the input reads as before. -/
import Derived.Test.YthnpbopnpdlmnaaRows
import Derived.Test.YthnpbopnpdlmnaaX41
import Derived.Test.YthnpbopnpdlmnaaLawExactZ
import Derived.WalkKit
import Derived.ProofKit
import Derived.OpenShut
import Derived.JoinedCond
import Derived.Carry
import Derived.ChangeArms
namespace Go.Proofs.Ythnpbopnpdlmnaa
open Go.ChangeShapes Go.WideShapes Go.ChangeAt Go.RowKit
set_option linter.unusedVariables false

namespace lawClaimRX
set_option maxHeartbeats 4000000 in
theorem contract (H : Type) (enc : TypeId × Value → H) (W : World) (base : Nat) (args : Array Value) (ds gs : List (DataW H)) (before : List MemPlace)
    (hsl : ∃ n0 n1, args = #[n0, n1])
    (hW : DataW.Whole enc Try.prog Try.f5.params.toList Rows.resimExactSpec.vars false W args.toList ds gs before) (hk : Rows.uptoSmall H (ds ++ gs) = true) :
    Calls Try.prog 5 args W fun e W' => ∃ v, e = .returned v ∧ Rows.resimExactSpec.post enc Try.prog Try.f5 false true false false W args v W' := by
  obtain ⟨n0, n1, rfl⟩ := hsl
  have hW' := hW
  obtain ⟨p, q, hA0, hV, rfl, hfz, hnd⟩ := hW
  have hA : DataW.TrodAll enc Try.prog W 0 (fun _ => true) true Try.f5.params.toList [n0, n1] ds p := hA0
  rw [Try.params5] at hA
  obtain ⟨d0, d1, p0, p1, rfl, rfl, h0, h1⟩ : ∃ d0 d1 p0 p1, ds = [d0, d1] ∧ p = p0 ++ p1 ∧ DataW.Trod enc Try.prog W 0 (fun _ => true) true 28 (n0) d0 p0 ∧ DataW.Trod enc Try.prog W 0 (fun _ => true) true 56 (n1) d1 p1 := by
    match ds, hA with
    | [d0, d1], hA =>
      obtain ⟨p0, q0, g0, ⟨p1, q1, g1, g2, rfl⟩, rfl⟩ := hA
      have g3 : q1 = [] := g2
      subst g3
      exact ⟨d0, d1, p0, p1, rfl, by simp, g0, g1⟩
  obtain ⟨rfl, rfl⟩ := trodVars_none hV
  have h0k := h0
  have h1k := h1
  obtain ⟨t0, k0, rfl, hin0, hsz0⟩ := open_arg h0
  obtain ⟨s1, x1, l1, rfl, hsz1, hx1⟩ := open_case h1
  simp only [List.append_nil] at hW'
  have hlt0 : ∀ x ∈ p0, x.block < W.heap.size := fun x hx => by simpa using hW'.lt x (by simp [hx])
  have hlt1 : ∀ x ∈ p1, x.block < W.heap.size := fun x hx => by simpa using hW'.lt x (by simp [hx])
  have hk2 : Rows.uptoBulk d0 + Rows.uptoBulk d1 ≤ 1048576 := by
    have h := of_decide_eq_true hk
    simp only [List.append_nil, Rows.uptoBulkAll] at h
    omega
  refine (LawExact_any W t0 k0 s1 x1 l1 hin0 (by omega)).mono fun e W' ⟨he, hb⟩ => ?_
  subst he
  refine ⟨_, rfl, [d0, d1], [], p0 ++ p1, [], p0 ++ p1, [], hW', ?_, ?_, rfl, hb.frame _, fun h => by cases h⟩
  · exact trodAll_cons_mk (shut_bool Try.underlying4 _) trodAll_mk0
  · exact trodAll_mk2 (Below.trod laidOutP (by kernel_rfl) (of_decide_eq_true (by kernel_rfl)) h0k hb hlt0) (Below.trod laidOutP (by kernel_rfl) (of_decide_eq_true (by kernel_rfl)) h1k hb hlt1)

set_option maxRecDepth 100000 in
theorem lifted (os : Os) (started : os.Started) (H : Type) (enc : TypeId × Value → H) (F : Stop.Interp) :
    ReturnsInHanded {} Try.checked os 5 .any ((Rows.OpenSpec.upto Rows.resimExactSpec).pre6 enc Try.prog Try.f5 Rows.resimExactUptoRow.domain false) (((Rows.OpenSpec.upto Rows.resimExactSpec).at F).post enc Try.prog Try.f5 false true false false) := by
  refine returnsInHanded_of_cond (C := Try.checked) (s := Rows.OpenSpec.upto Rows.resimExactSpec) (k := Rows.uptoSmall) rfl ownKnob9 started (by kernel_rfl) Try.func5
    (OpenSpec.witness (enc := enc) (C := Try.checked) (s := Rows.OpenSpec.upto Rows.resimExactSpec) (k := Rows.uptoSmall) rfl false ⟨#[], #[.agg #[.int .i64 0, .int .u64 0, .int .u64 0, .int .u64 0, .int .u64 0, .int .i64 0, .int .i64 0, .int .i64 0, .slice none 0 0], .agg #[.string ⟨#[]⟩, .int .i64 0, .bool false]], []⟩ 8 (by kernel_rfl) (by kernel_rfl) (by kernel_rfl)
      (x := ([.agg [.lit (.int .i64 0), .agg [.agg [.lit (.int .u64 0), .lit (.int .u64 0), .lit (.int .u64 0), .lit (.int .u64 0)]], .lit (.int .i64 0), .lit (.int .i64 0), .lit (.int .i64 0), .nil], .agg [.lit (.string []), .lit (.int .i64 0), .lit (.bool false)]], [], [])) (by kernel_rfl) rfl (by kernel_rfl)) ?_
  intro W base args ds gs before hval hW _ hk _
  refine contract H enc W base args ds gs before ?_ hW hk
  have hA0 := hW
  obtain ⟨p, q, hA0, -, -, -, -⟩ := hA0
  have hA : DataW.TrodAll enc Try.prog W 0 (fun _ => true) true Try.f5.params.toList args.toList ds p := hA0
  rw [Try.params5] at hA
  obtain ⟨v0, v1, d0, d1, p0, p1, rfl, rfl, rfl, h0, h1⟩ := trodAll_two hA
  exact ⟨v0, v1, rfl⟩

theorem over : Rows.resimExactUptoRow.holds Try.pinned (Rows.OpenSpec.upto Rows.resimExactSpec) :=
  OpenClaim.holds_of_cond 5 Try.f5 rfl rfl rfl rfl rfl rfl rfl ⟨rfl, rfl, rfl, rfl, rfl⟩ rfl rfl rfl rfl rfl (by kernel_rfl) Try.func5 (by kernel_rfl)
    (of_decide_eq_true (by kernel_rfl)) (by unfold Func.isWrapper; first | (rw [if_pos (by decide +kernel)]; kernel_rfl) | (rw [if_neg (by decide +kernel)]; exact ⟨rfl, rfl⟩))
    (fun os started H enc _ F => lifted os started H enc F)
end lawClaimRX

theorem resimExact_upto : Rows.ResimExactUptoSaid := lawClaimRX.over
#print axioms resimExact_upto
end Go.Proofs.Ythnpbopnpdlmnaa
