/- The card of ReprogAgrees, second form: for every input of bulk together at most 1048576 the law returns true, and the input reads as before. -/
import Derived.Test.YthnpbopnpdlmnaaDoorA44
import Derived.Test.YthnpbopnpdlmnaaDoorA45
import Derived.Test.YthnpbopnpdlmnaaDoorLawAgrZ
import Derived.WalkKit
import Derived.ProofKit
import Derived.OpenShut
import Derived.JoinedCond
import Derived.Carry
import Derived.ChangeArms
namespace Go.Proofs.YthnpbopnpdlmnaaDoor
open Go.ChangeShapes Go.WideShapes Go.ChangeAt Go.RowKit
set_option linter.unusedVariables false

namespace lawClaimPA
set_option maxRecDepth 100000 in
set_option maxHeartbeats 4000000 in
theorem contract (H : Type) (enc : TypeId × Value → H) (W : World) (base : Nat) (args : Array Value) (ds gs : List (DataW H)) (before : List MemPlace)
    (hsl : ∃ n0 n1, args = #[n0, n1])
    (hW : DataW.Whole enc Tryd.prog Tryd.f3.params.toList Rows.reprogAgreesSpec.vars false W args.toList ds gs before) (hk : Rows.uptoSmall H (ds ++ gs) = true) (hL : laidMetH Tryd.prog Rows.reprogAgreesUptoRow.laid W) :
    Calls Tryd.prog 3 args W fun e W' => ∃ v, e = .returned v ∧ Rows.reprogAgreesSpec.post enc Tryd.prog Tryd.f3 false true false false W args v W' := by
  obtain ⟨n0, n1, rfl⟩ := hsl
  have hT := tabs9_of_laid hL
  have hW' := hW
  obtain ⟨p, q, hA0, hV, rfl, hfz, hnd⟩ := hW
  have hA : DataW.TrodAll enc Tryd.prog W 0 (fun _ => true) true Tryd.f3.params.toList [n0, n1] ds p := hA0
  rw [Tryd.params3] at hA
  obtain ⟨d0, d1, p0, p1, rfl, rfl, h0, h1⟩ : ∃ d0 d1 p0 p1, ds = [d0, d1] ∧ p = p0 ++ p1 ∧ DataW.Trod enc Tryd.prog W 0 (fun _ => true) true 28 (n0) d0 p0 ∧ DataW.Trod enc Tryd.prog W 0 (fun _ => true) true 30 (n1) d1 p1 := by
    match ds, hA with
    | [d0, d1], hA =>
      obtain ⟨p0, q0, g0, ⟨p1, q1, g1, g2, rfl⟩, rfl⟩ := hA
      have g3 : q1 = [] := g2
      subst g3
      exact ⟨d0, d1, p0, p1, rfl, by simp, g0, g1⟩
  obtain ⟨rfl, rfl⟩ := trodVars_none hV
  have h0k := h0
  have h1k := h1
  obtain ⟨t0, k0, rfl, hin0, hsz0⟩ := open_arg h0
  obtain ⟨s1, x1, l1, rfl, hsz1, hx1⟩ := open_case h1
  simp only [List.append_nil] at hW'
  have hlt0 : ∀ x ∈ p0, x.block < W.heap.size := fun x hx => by simpa using hW'.lt x (by simp [hx])
  have hlt1 : ∀ x ∈ p1, x.block < W.heap.size := fun x hx => by simpa using hW'.lt x (by simp [hx])
  refine (LawAgrees_any W t0 k0 s1 x1 l1 hin0 hx1 hT).mono fun e W' ⟨he, hb⟩ => ?_
  subst he
  refine ⟨_, rfl, [d0, d1], [], p0 ++ p1, [], p0 ++ p1, [], hW', ?_, ?_, rfl, hb.frame _, fun h => by cases h⟩
  · exact trodAll_cons_mk (shut_bool Tryd.underlying4 _) trodAll_mk0
  · exact trodAll_mk2 (Below.trod laidOutP (by kernel_rfl) (of_decide_eq_true (by kernel_rfl)) h0k hb hlt0) (Below.trod laidOutP (by kernel_rfl) (of_decide_eq_true (by kernel_rfl)) h1k hb hlt1)

theorem reads (os : Os) {H : Type} (enc : TypeId × Value → H) : ∃ places, DataW.whole enc Tryd.prog ((laidWorld os).forCall (fun _ _ => 0) ⟨#[], #[.agg #[.int .i64 0, .int .u64 0, .int .u64 0, .int .u64 0, .int .u64 0, .int .i64 0, .int .i64 0, .int .i64 0, .slice none 0 0], .agg #[.string ⟨#[]⟩, .int .i64 0, .bool false]], []⟩).memory Tryd.f3.params.toList Rows.reprogAgreesSpec.vars false #[Value.agg #[.int .i64 0, .int .u64 0, .int .u64 0, .int .u64 0, .int .u64 0, .int .i64 0, .int .i64 0, .int .i64 0, .slice none 0 0], Value.agg #[.string ⟨#[]⟩, .int .i64 0, .bool false]].toList 8 = some ([.agg [.lit (.int .i64 0), .agg [.agg [.lit (.int .u64 0), .lit (.int .u64 0), .lit (.int .u64 0), .lit (.int .u64 0)]], .lit (.int .i64 0), .lit (.int .i64 0), .lit (.int .i64 0), .nil], .agg [.lit (.string []), .lit (.int .i64 0), .lit (.bool false)]], [], places) :=
  ⟨[], by kernel_rfl⟩

set_option maxRecDepth 100000 in
theorem lifted (os : Os) (started : os.Started) (H : Type) (enc : TypeId × Value → H) (F : Stop.Interp) :
    ReturnsInHanded {} Tryd.checked os 3 .any ((Rows.OpenSpec.upto Rows.reprogAgreesSpec).preRow enc Tryd.prog Tryd.f3 Rows.reprogAgreesUptoRow.domain false Rows.reprogAgreesUptoRow.laid) (((Rows.OpenSpec.upto Rows.reprogAgreesSpec).at F).post enc Tryd.prog Tryd.f3 false true false false) := by
  obtain ⟨places, hx⟩ := reads os enc
  refine returnsInHanded_of_row (C := Tryd.checked) (s := Rows.OpenSpec.upto Rows.reprogAgreesSpec) ownKnob9 started (by kernel_rfl) Tryd.func3
    (witness_row_at (enc := enc) (C := Tryd.checked) false (laidWorld os) #[.agg #[.int .i64 0, .int .u64 0, .int .u64 0, .int .u64 0, .int .u64 0, .int .i64 0, .int .i64 0, .int .i64 0, .slice none 0 0], .agg #[.string ⟨#[]⟩, .int .i64 0, .bool false]] rfl (by kernel_rfl) (by kernel_rfl) (by kernel_rfl)
      (OpenSpec.preRow_of_cond 8 hx (by kernel_rfl) (fun k hk => by cases hk; kernel_rfl) (by kernel_rfl) (laid_met os _))) ?_
  intro W base args ds gs before hval hW _ hk _ hL _ _
  refine contract H enc W base args ds gs before ?_ hW (hk _ rfl) hL
  have hA0 := hW
  obtain ⟨p, q, hA0, -, -, -, -⟩ := hA0
  have hA : DataW.TrodAll enc Tryd.prog W 0 (fun _ => true) true Tryd.f3.params.toList args.toList ds p := hA0
  rw [Tryd.params3] at hA
  obtain ⟨v0, v1, d0, d1, p0, p1, rfl, rfl, rfl, h0, h1⟩ := trodAll_two hA
  exact ⟨v0, v1, rfl⟩

theorem saidUpto : Rows.ReprogAgreesUptoSaid :=
  OpenClaim.holds_of_cond 3 Tryd.f3 rfl rfl rfl rfl rfl rfl rfl ⟨rfl, rfl, rfl, rfl, rfl⟩ rfl rfl rfl rfl rfl (by kernel_rfl) Tryd.func3 (by kernel_rfl)
    (of_decide_eq_true (by kernel_rfl)) (by unfold Func.isWrapper; first | (rw [if_pos (by decide +kernel)]; kernel_rfl) | (rw [if_neg (by decide +kernel)]; exact ⟨rfl, rfl⟩))
    (fun os started H enc _ F => by rw [OpenClaim.pre_eq_preRow]; exact lifted os started H enc F)

theorem plain (f : FuncId) (fn : Func) (hf : Tryd.pinned.checked.prog.funcNamed "texttools/texttoolslaw10.ReprogAgrees" = some f) (hfn : Tryd.pinned.checked.prog.funcs[f]? = some fn) :
    true = Tryd.pinned.checked.prog.looks [] ∧ ∀ (j : Nat) t, fn.params[j]? = some t → Tryd.pinned.checked.prog.wantsStandIn t = false := by
  obtain rfl : f = 3 := Option.some.inj ((show Tryd.prog.funcNamed "texttools/texttoolslaw10.ReprogAgrees" = some 3 by kernel_rfl).symm.trans hf) |>.symm
  obtain rfl : fn = Tryd.f3 := (Option.some.inj (Tryd.func3.symm.trans hfn)).symm
  refine ⟨by kernel_rfl, fun j t ht => ?_⟩
  have hm := Array.mem_of_getElem? ht
  rw [show Tryd.f3.params = #[28, 30] from rfl] at hm
  have hm2 : t = 28 ∨ t = 30 := by simpa using hm
  rcases hm2 with rfl | rfl
  · exact (show Tryd.prog.wantsStandIn 28 = false by kernel_rfl)
  · exact (show Tryd.prog.wantsStandIn 30 = false by kernel_rfl)
end lawClaimPA

theorem reprogAgrees_upto : Rows.ReprogAgreesUptoCardSaid :=
  Claim7.holds_tied_plain_at .later [] _ _ _ _ lawClaimPA.saidUpto (fun _ h => by cases h) (by kernel_rfl) (fun _ h => by cases h) reprogAgreesUpto_row_tie rfl ⟨rfl, rfl⟩ (by kernel_rfl) rfl lawClaimPA.plain (by kernel_rfl)
#print axioms reprogAgrees_upto
end Go.Proofs.YthnpbopnpdlmnaaDoor
