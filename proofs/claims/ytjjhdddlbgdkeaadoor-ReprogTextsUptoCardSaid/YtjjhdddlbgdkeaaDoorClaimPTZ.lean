/- The card of ReprogTexts, second form: for any two programs of bulk at most 1048576 together the law returns true, and the programs read as before. -/
import Derived.Test.YtjjhdddlbgdkeaaDoorG31
import Derived.Test.YtjjhdddlbgdkeaaDoorLawPTZ
namespace Go.Proofs.YtjjhdddlbgdkeaaDoor
open Go.ChangeShapes Go.WideShapes Go.ChangeAt Go.RowKit
set_option linter.unusedVariables false

namespace lawTexts
theorem contract (H : Type) (enc : TypeId × Value → H) (W : World) (base : Nat) (args : Array Value) (ds gs : List (DataW H)) (before : List MemPlace)
    (hsl : ∃ v u, args = #[v, u])
    (hW : DataW.Whole enc Tryd.prog Tryd.f4.params.toList Rows.reprogTextsSpec.vars false W args.toList ds gs before) (hk : Rows.uptoSmall H (ds ++ gs) = true) (hL : laidMetH Tryd.prog Rows.reprogTextsUptoRow.laid W) :
    Calls Tryd.prog 4 args W fun e W' => ∃ v, e = .returned v ∧ Rows.reprogTextsSpec.post enc Tryd.prog Tryd.f4 false true false false W args v W' := by
  obtain ⟨vv, uu, rfl⟩ := hsl
  obtain ⟨hT, h2⟩ := tabs_of_laid hL
  have hW' := hW
  obtain ⟨p, q, hA0, hV, rfl, hfz, hnd⟩ := hW
  have hA : DataW.TrodAll enc Tryd.prog W 0 (fun _ => true) true Tryd.f4.params.toList [vv, uu] ds p := hA0
  rw [Tryd.params4] at hA
  obtain ⟨d0, d1, p0, p1, rfl, rfl, h0, h1⟩ : ∃ d0 d1 p0 p1, ds = [d0, d1] ∧ p = p0 ++ p1 ∧ DataW.Trod enc Tryd.prog W 0 (fun _ => true) true 24 vv d0 p0 ∧ DataW.Trod enc Tryd.prog W 0 (fun _ => true) true 24 uu d1 p1 := by
    match ds, hA with
    | [d0, d1], hA =>
      obtain ⟨p0, q0, g0, ⟨p1, q1, g1, g2, rfl⟩, rfl⟩ := hA
      have g3 : q1 = [] := g2
      subst g3
      exact ⟨d0, d1, p0, p1, rfl, by simp, g0, g1⟩
  obtain ⟨rfl, rfl⟩ := trodVars_none hV
  have h0k := h0
  have h1k := h1
  obtain ⟨a, c, L, lines, rfl, hin, hfit, hsz⟩ := open_prog h0
  obtain ⟨a', c', L', lines', rfl, hin', hfit', hsz'⟩ := open_prog h1
  simp only [List.append_nil] at hW'
  have hlt : ∀ x ∈ p0, x.block < W.heap.size := fun x hx => by simpa using hW'.lt x (by simp [hx])
  have hlt2 : ∀ x ∈ p1, x.block < W.heap.size := fun x hx => by simpa using hW'.lt x (by simp [hx])
  have hk2 : Rows.uptoBulk d0 + Rows.uptoBulk d1 ≤ 1048576 := by
    have h := of_decide_eq_true hk
    simp only [List.append_nil, Rows.uptoBulkAll] at h
    omega
  refine (LawTexts_any W a a' c c' L L' lines lines' hin hin' hfit.wf hfit'.wf (by omega) (by omega) hT h2).mono fun e W' ⟨he, hb⟩ => ?_
  subst he
  refine ⟨_, rfl, [d0, d1], [], p0 ++ p1, [], p0 ++ p1, [], by simpa using hW', ?_, ?_, rfl, hb.frame _, fun h => by cases h⟩
  · exact trodAll_cons_mk (shut_bool Tryd.underlying4 _) trodAll_mk0
  · have := trodAll_cons_mk (Below.trod laidOutQ (by kernel_rfl) (of_decide_eq_true (by kernel_rfl)) h0k hb hlt) (trodAll_cons_mk (Below.trod laidOutQ (by kernel_rfl) (of_decide_eq_true (by kernel_rfl)) h1k hb hlt2) trodAll_mk0)
    rw [List.append_nil] at this
    exact this

theorem reads (os : Os) {H : Type} (enc : TypeId × Value → H) : ∃ places, DataW.whole enc Tryd.prog ((laidWorld os).forCall (fun _ _ => 0) ⟨#[], #[.agg #[.slice none 0 0, .bool false], .agg #[.slice none 0 0, .bool false]], []⟩).memory Tryd.f4.params.toList Rows.reprogTextsSpec.vars false #[Value.agg #[.slice none 0 0, .bool false], Value.agg #[.slice none 0 0, .bool false]].toList 8 = some ([.agg [.nil, .lit (.bool false)], .agg [.nil, .lit (.bool false)]], [], places) :=
  ⟨[], by kernel_rfl⟩

set_option maxRecDepth 100000 in
theorem lifted (os : Os) (started : os.Started) (H : Type) (enc : TypeId × Value → H) (F : Stop.Interp) :
    ReturnsInHanded {} Tryd.checked os 4 .any ((Rows.OpenSpec.upto Rows.reprogTextsSpec).preRow enc Tryd.prog Tryd.f4 Rows.reprogTextsUptoRow.domain false Rows.reprogTextsUptoRow.laid) (((Rows.OpenSpec.upto Rows.reprogTextsSpec).at F).post enc Tryd.prog Tryd.f4 false true false false) := by
  obtain ⟨places, hx⟩ := reads os enc
  refine returnsInHanded_of_row (C := Tryd.checked) (s := Rows.OpenSpec.upto Rows.reprogTextsSpec) ownKnobQ started (by kernel_rfl) Tryd.func4
    (witness_row_at (enc := enc) (C := Tryd.checked) false (laidWorld os) #[.agg #[.slice none 0 0, .bool false], .agg #[.slice none 0 0, .bool false]] rfl (by kernel_rfl) (by kernel_rfl) (by kernel_rfl)
      (OpenSpec.preRow_of_cond 8 hx (by kernel_rfl) (fun k hk => by cases hk; kernel_rfl) (by kernel_rfl) (laid_met os _))) ?_
  intro W base args ds gs before hval hW _ hk _ hL _ _
  refine contract H enc W base args ds gs before ?_ hW (hk _ rfl) hL
  have hA0 := hW
  obtain ⟨p, q, hA0, -, -, -, -⟩ := hA0
  have hA : DataW.TrodAll enc Tryd.prog W 0 (fun _ => true) true Tryd.f4.params.toList args.toList ds p := hA0
  rw [Tryd.params4] at hA
  obtain ⟨v0, v1, d0, d1, p0, p1, rfl, rfl, rfl, h0, h1⟩ := trodAll_two hA
  exact ⟨v0, v1, rfl⟩

theorem saidUpto : Rows.ReprogTextsUptoSaid :=
  OpenClaim.holds_of_cond 4 Tryd.f4 rfl rfl rfl rfl rfl rfl rfl ⟨rfl, rfl, rfl, rfl, rfl⟩ rfl rfl rfl rfl rfl (by kernel_rfl) Tryd.func4 (by kernel_rfl)
    (of_decide_eq_true (by kernel_rfl)) (by unfold Func.isWrapper; first | (rw [if_pos (by decide +kernel)]; kernel_rfl) | (rw [if_neg (by decide +kernel)]; exact ⟨rfl, rfl⟩))
    (fun os started H enc _ F => by rw [OpenClaim.pre_eq_preRow]; exact lifted os started H enc F)

theorem plain (f : FuncId) (fn : Func) (hf : Tryd.pinned.checked.prog.funcNamed "texttools/texttoolslaw10.ReprogTexts" = some f) (hfn : Tryd.pinned.checked.prog.funcs[f]? = some fn) :
    false = Tryd.pinned.checked.prog.looks [] ∧ ∀ (j : Nat) t, fn.params[j]? = some t → Tryd.pinned.checked.prog.wantsStandIn t = false := by
  obtain rfl : f = 4 := Option.some.inj ((show Tryd.prog.funcNamed "texttools/texttoolslaw10.ReprogTexts" = some 4 by kernel_rfl).symm.trans hf) |>.symm
  obtain rfl : fn = Tryd.f4 := (Option.some.inj (Tryd.func4.symm.trans hfn)).symm
  refine ⟨by kernel_rfl, fun j t ht => ?_⟩
  have hm := Array.mem_of_getElem? ht
  rw [show Tryd.f4.params = #[24, 24] from rfl] at hm
  obtain rfl : t = 24 := by simpa using hm
  exact (show Tryd.prog.wantsStandIn 24 = false by kernel_rfl)
end lawTexts

theorem reprogTexts_upto : Rows.ReprogTextsUptoCardSaid :=
  Claim7.holds_tied_plain_at .later [] _ _ _ _ lawTexts.saidUpto (fun _ h => by cases h) (by kernel_rfl) (fun _ h => by cases h) reprogTextsUpto_row_tie rfl ⟨rfl, rfl⟩ (by kernel_rfl) rfl lawTexts.plain (by kernel_rfl)
#print axioms reprogTexts_upto
end Go.Proofs.YtjjhdddlbgdkeaaDoor
