/- The card of ReprogPrints, second form: for every program of bulk at most 1048576 the law returns true, and the program reads as before. -/
import Derived.Test.YtjjhdddlbgdkeaaDoorG31
import Derived.Test.YtjjhdddlbgdkeaaDoorLawPPZ
namespace Go.Proofs.YtjjhdddlbgdkeaaDoor
open Go.ChangeShapes Go.WideShapes Go.ChangeAt Go.RowKit
set_option linter.unusedVariables false

namespace lawPrints
theorem contract (H : Type) (enc : TypeId × Value → H) (W : World) (base : Nat) (args : Array Value) (ds gs : List (DataW H)) (before : List MemPlace)
    (hsl : ∃ v, args = #[v])
    (hW : DataW.Whole enc Tryd.prog Tryd.f3.params.toList Rows.reprogPrintsSpec.vars false W args.toList ds gs before) (hk : Rows.uptoSmall H (ds ++ gs) = true) (hL : laidMetH Tryd.prog Rows.reprogPrintsUptoRow.laid W) :
    Calls Tryd.prog 3 args W fun e W' => ∃ v, e = .returned v ∧ Rows.reprogPrintsSpec.post enc Tryd.prog Tryd.f3 false true false false W args v W' := by
  obtain ⟨vv, rfl⟩ := hsl
  obtain ⟨hT, h2⟩ := tabs_of_laid hL
  have hW' := hW
  obtain ⟨p, q, hA0, hV, rfl, hfz, hnd⟩ := hW
  have hA : DataW.TrodAll enc Tryd.prog W 0 (fun _ => true) true Tryd.f3.params.toList [vv] ds p := hA0
  rw [Tryd.params3] at hA
  obtain ⟨d0, p0, rfl, rfl, h0⟩ : ∃ d0 p0, ds = [d0] ∧ p = p0 ∧ DataW.Trod enc Tryd.prog W 0 (fun _ => true) true 24 vv d0 p0 := by
    match ds, hA with
    | [d0], hA =>
      obtain ⟨p0, q0, g0, g1, rfl⟩ := hA
      have g3 : q0 = [] := g1
      subst g3
      exact ⟨d0, p0, rfl, by simp, g0⟩
  obtain ⟨rfl, rfl⟩ := trodVars_none hV
  have h0k := h0
  obtain ⟨a, c, L, lines, rfl, hin, hfit, hsz⟩ := open_prog h0
  simp only [List.append_nil] at hW'
  have hlt : ∀ x ∈ p, x.block < W.heap.size := fun x hx => by simpa using hW'.lt x (by simp [hx])
  have hk2 : Rows.uptoBulk d0 ≤ 1048576 := by
    have h := of_decide_eq_true hk
    simp only [List.append_nil, Rows.uptoBulkAll] at h
    omega
  refine (LawPrints_any W a c L lines hin hfit.wf (by omega) hT h2).mono fun e W' ⟨he, hb⟩ => ?_
  subst he
  refine ⟨_, rfl, [d0], [], p, [], p, [], by simpa using hW', ?_, ?_, rfl, hb.frame _, fun h => by cases h⟩
  · exact trodAll_cons_mk (shut_bool Tryd.underlying4 _) trodAll_mk0
  · have := trodAll_cons_mk (Below.trod laidOutQ (by kernel_rfl) (of_decide_eq_true (by kernel_rfl)) h0k hb hlt) trodAll_mk0
    rw [List.append_nil] at this
    exact this

theorem reads (os : Os) {H : Type} (enc : TypeId × Value → H) : ∃ places, DataW.whole enc Tryd.prog ((laidWorld os).forCall (fun _ _ => 0) ⟨#[], #[.agg #[.slice none 0 0, .bool false]], []⟩).memory Tryd.f3.params.toList Rows.reprogPrintsSpec.vars false #[Value.agg #[.slice none 0 0, .bool false]].toList 8 = some ([.agg [.nil, .lit (.bool false)]], [], places) :=
  ⟨[], by kernel_rfl⟩

set_option maxRecDepth 100000 in
theorem lifted (os : Os) (started : os.Started) (H : Type) (enc : TypeId × Value → H) (F : Stop.Interp) :
    ReturnsInHanded {} Tryd.checked os 3 .any ((Rows.OpenSpec.upto Rows.reprogPrintsSpec).preRow enc Tryd.prog Tryd.f3 Rows.reprogPrintsUptoRow.domain false Rows.reprogPrintsUptoRow.laid) (((Rows.OpenSpec.upto Rows.reprogPrintsSpec).at F).post enc Tryd.prog Tryd.f3 false true false false) := by
  obtain ⟨places, hx⟩ := reads os enc
  refine returnsInHanded_of_row (C := Tryd.checked) (s := Rows.OpenSpec.upto Rows.reprogPrintsSpec) ownKnobQ started (by kernel_rfl) Tryd.func3
    (witness_row_at (enc := enc) (C := Tryd.checked) false (laidWorld os) #[.agg #[.slice none 0 0, .bool false]] rfl (by kernel_rfl) (by kernel_rfl) (by kernel_rfl)
      (OpenSpec.preRow_of_cond 8 hx (by kernel_rfl) (fun k hk => by cases hk; kernel_rfl) (by kernel_rfl) (laid_met os _))) ?_
  intro W base args ds gs before hval hW _ hk _ hL _ _
  refine contract H enc W base args ds gs before ?_ hW (hk _ rfl) hL
  have hA0 := hW
  obtain ⟨p, q, hA0, -, -, -, -⟩ := hA0
  have hA : DataW.TrodAll enc Tryd.prog W 0 (fun _ => true) true Tryd.f3.params.toList args.toList ds p := hA0
  rw [Tryd.params3] at hA
  obtain ⟨v0, vs0, d0, ds0, p0, q0, hargs, rfl, rfl, h0, r0⟩ := trodAll_cons hA
  obtain ⟨rfl, rfl, rfl⟩ := trodAll_nil r0
  exact ⟨v0, by cases args; simp_all⟩

theorem saidUpto : Rows.ReprogPrintsUptoSaid :=
  OpenClaim.holds_of_cond 3 Tryd.f3 rfl rfl rfl rfl rfl rfl rfl ⟨rfl, rfl, rfl, rfl, rfl⟩ rfl rfl rfl rfl rfl (by kernel_rfl) Tryd.func3 (by kernel_rfl)
    (of_decide_eq_true (by kernel_rfl)) (by unfold Func.isWrapper; first | (rw [if_pos (by decide +kernel)]; kernel_rfl) | (rw [if_neg (by decide +kernel)]; exact ⟨rfl, rfl⟩))
    (fun os started H enc _ F => by rw [OpenClaim.pre_eq_preRow]; exact lifted os started H enc F)

theorem plain (f : FuncId) (fn : Func) (hf : Tryd.pinned.checked.prog.funcNamed "texttools/texttoolslaw10.ReprogPrints" = some f) (hfn : Tryd.pinned.checked.prog.funcs[f]? = some fn) :
    false = Tryd.pinned.checked.prog.looks [] ∧ ∀ (j : Nat) t, fn.params[j]? = some t → Tryd.pinned.checked.prog.wantsStandIn t = false := by
  obtain rfl : f = 3 := Option.some.inj ((show Tryd.prog.funcNamed "texttools/texttoolslaw10.ReprogPrints" = some 3 by kernel_rfl).symm.trans hf) |>.symm
  obtain rfl : fn = Tryd.f3 := (Option.some.inj (Tryd.func3.symm.trans hfn)).symm
  refine ⟨by kernel_rfl, fun j t ht => ?_⟩
  have hm := Array.mem_of_getElem? ht
  rw [show Tryd.f3.params = #[24] from rfl] at hm
  obtain rfl : t = 24 := by simpa using hm
  exact (show Tryd.prog.wantsStandIn 24 = false by kernel_rfl)
end lawPrints

theorem reprogPrints_upto : Rows.ReprogPrintsUptoCardSaid :=
  Claim7.holds_tied_plain_at .later [] _ _ _ _ lawPrints.saidUpto (fun _ h => by cases h) (by kernel_rfl) (fun _ h => by cases h) reprogPrintsUpto_row_tie rfl ⟨rfl, rfl⟩ (by kernel_rfl) rfl lawPrints.plain (by kernel_rfl)
#print axioms reprogPrints_upto
end Go.Proofs.YtjjhdddlbgdkeaaDoor
