/- The statement StoreParts, second form: for every strings and every number of bulk together at most 1048576 the law returns true, and both read as before. -/
import Derived.Test.YtnncbbfbnccnbaaRows
import Derived.Test.YtnncbbfbnccnbaaLawParts
import Derived.WalkKit
import Derived.ProofKit
import Derived.OpenShut
import Derived.JoinedCond
import Derived.Carry
import Derived.ChangeArms
import Derived.SliceStrings
namespace Go.Proofs.Ytnncbbfbnccnbaa
open Go.ChangeShapes Go.WideShapes Go.ChangeAt Go.RowKit
set_option linter.unusedVariables false

theorem ownKnobL : ownKnob Try.prog.godebug = none := by kernel_rfl
theorem laidOutP : laidOutB Try.prog = true := by kernel_rfl
theorem bulk_one {H : Type} (d : DataW H) : 1 ≤ Rows.uptoBulk d := by
  cases d with
  | lit l => cases l <;> simp [Rows.uptoBulk]
  | nil => simp [Rows.uptoBulk]
  | ptr d => simp [Rows.uptoBulk]
  | slice elems spare => simp [Rows.uptoBulk]
  | agg parts => simp [Rows.uptoBulk]
  | iface t d => simp [Rows.uptoBulk]
  | map entries => simp [Rows.uptoBulk]
  | held h => simp [Rows.uptoBulk]
theorem bulk_all {H : Type} : ∀ (l : List (DataW H)), l.length ≤ Rows.uptoBulkAll l
  | [] => by simp [Rows.uptoBulkAll]
  | d :: l => by
    have h1 := bulk_one d
    have h2 := bulk_all l
    simp only [Rows.uptoBulkAll, List.length_cons]
    omega
theorem cells_s1 : Try.prog.cellsOf 9 = 1 := by kernel_rfl
/-- An argument of the type []string. -/
theorem open_texts {H : Type} {enc : TypeId × Value → H} {w : World} {sp : Nat → Bool} {hd : Bool} {ca : Option Addr} {cn cc : Nat} {d : DataW H} {ps : List MemPlace} (h : DataW.Trod enc Try.prog w 0 sp hd 22 (.slice ca cn cc) d ps) : ∃ l : List ByteArray, l.length = cn ∧ StrAt w ca l ∧ cn ≤ Rows.uptoBulk d := by
  obtain ⟨fuel, hf⟩ := h
  rcases open_strings Try.underlying22 Try.underlying9 cells_s1 hf with ⟨hcs, hx⟩ | ⟨a, len, cap, ss, hcs, _, hle, hmax, hzl, hx, hcell, hwf⟩
  · simp [Value.cells] at hcs
    obtain ⟨rfl, rfl, rfl⟩ := hcs
    exact ⟨[], rfl, .inl rfl, Nat.zero_le _⟩
  · simp [Value.cells] at hcs
    obtain ⟨rfl, rfl, rfl⟩ := hcs
    have hzn : cn ≤ ss.length := by rw [hzl]; split <;> omega
    have hlt : (ss.take cn).length = cn := by rw [List.length_take]; omega
    refine ⟨ss.take cn, hlt, ?_, ?_⟩
    · rcases Nat.eq_zero_or_pos cn with h0 | h0
      · exact .inl (by rw [h0]; rfl)
      · have hc0 := hcell 0 (by omega)
        have hsp : a.spot = none := by simpa [Addr.add] using World.cell?_spot hc0
        obtain ⟨b, o, spt⟩ := a
        simp only at hsp
        subst hsp
        refine .inr ⟨b, o, rfl, ?_, fun i hi => ?_⟩
        · rw [Addr.add_lit] at hc0
          rcases Nat.lt_or_ge b w.heap.size with h1 | h1
          · exact h1
          · simp [World.cell?, Array.getElem?_eq_none h1] at hc0
        · rw [hlt] at hi
          have := hcell i (by omega)
          rw [Addr.add_lit] at this
          rw [this, List.getElem_take, List.getD_eq_getElem?_getD, List.getElem?_eq_getElem (by omega : i < ss.length)]
          rfl
    · simp only [Prod.mk.injEq] at hx
      rw [hx.1]
      have h1 := bulk_all (strs (H := H) (ss.take cn))
      have h2 : (strs (H := H) (ss.take cn)).length = cn := by simp [strs]; omega
      simp only [Rows.uptoBulk]
      omega
theorem open_u8 {H : Type} {enc : TypeId × Value → H} {w : World} {sp : Nat → Bool} {hd : Bool} {n : Int} {d : DataW H} {ps : List MemPlace} (h : DataW.Trod enc Try.prog w 0 sp hd 5 (.int .u8 n) d ps) : ∃ m : Nat, n = m ∧ m < 256 := by
  obtain ⟨fuel, hf⟩ := h
  obtain ⟨n', hc, hx, hw⟩ := DataW.trod_int Try.underlying5 hf
  have e1 : n' = n := by simpa [Value.cells] using hc.symm
  subst e1
  have e2 : IntKind.u8.min = 0 := rfl
  have e3 : IntKind.u8.max = 255 := rfl
  have hw2 : 0 ≤ n' ∧ n' ≤ 255 := by simpa [Lit.wf, e2, e3] using hw
  exact ⟨n'.toNat, by omega, by omega⟩

namespace lawParts
theorem contract (H : Type) (enc : TypeId × Value → H) (W : World) (base : Nat) (args : Array Value) (ds gs : List (DataW H)) (before : List MemPlace)
    (hsl : ∃ ca cn cc n, args = #[.slice ca cn cc, .int .u8 n])
    (hW : DataW.Whole enc Try.prog Try.f3.params.toList Rows.storePartsSpec.vars false W args.toList ds gs before) (hk : Rows.uptoSmall H (ds ++ gs) = true) :
    Calls Try.prog 3 args W fun e W' => ∃ v, e = .returned v ∧ Rows.storePartsSpec.post enc Try.prog Try.f3 false true false false W args v W' := by
  obtain ⟨ca, cn, cc, pn, rfl⟩ := hsl
  have hW' := hW
  obtain ⟨p, q, hA0, hV, rfl, hfz, hnd⟩ := hW
  have hA : DataW.TrodAll enc Try.prog W 0 (fun _ => true) true Try.f3.params.toList [.slice ca cn cc, .int .u8 pn] ds p := hA0
  rw [Try.params3] at hA
  obtain ⟨d0, d1, p0, p1, rfl, rfl, h0, h1⟩ : ∃ d0 d1 p0 p1, ds = [d0, d1] ∧ p = p0 ++ p1 ∧ DataW.Trod enc Try.prog W 0 (fun _ => true) true 22 (.slice ca cn cc) d0 p0 ∧ DataW.Trod enc Try.prog W 0 (fun _ => true) true 5 (.int .u8 pn) d1 p1 := by
    match ds, hA with
    | [d0, d1], hA =>
      obtain ⟨p0, q0, g0, ⟨p1, q1, g1, g2, rfl⟩, rfl⟩ := hA
      have g3 : q1 = [] := g2
      subst g3
      exact ⟨d0, d1, p0, p1, rfl, by simp, g0, g1⟩
  obtain ⟨rfl, rfl⟩ := trodVars_none hV
  have h0k := h0
  have h1k := h1
  obtain ⟨l, rfl, hin, hsz⟩ := open_texts h0
  obtain ⟨pm, rfl, hpm⟩ := open_u8 h1
  simp only [List.append_nil] at hW'
  have hlt : ∀ x ∈ p0, x.block < W.heap.size := fun x hx => by simpa using hW'.lt x (by simp [hx])
  have hlt2 : ∀ x ∈ p1, x.block < W.heap.size := fun x hx => by simpa using hW'.lt x (by simp [hx])
  have hk2 : Rows.uptoBulk d0 + Rows.uptoBulk d1 ≤ 1048576 := by
    have h := of_decide_eq_true hk
    simp only [List.append_nil, Rows.uptoBulkAll] at h
    omega
  refine (LawParts_any W ca cc l pm hin (by omega) hpm).mono fun e W' ⟨he, hb⟩ => ?_
  subst he
  refine ⟨_, rfl, [d0, d1], [], p0 ++ p1, [], p0 ++ p1, [], hW', ?_, ?_, rfl, hb.frame _, fun h => by cases h⟩
  · exact trodAll_cons_mk (shut_bool Try.underlying4 _) trodAll_mk0
  · exact trodAll_mk2 (Below.trod laidOutP (by kernel_rfl) (of_decide_eq_true (by kernel_rfl)) h0k hb hlt) (Below.trod laidOutP (by kernel_rfl) (of_decide_eq_true (by kernel_rfl)) h1k hb hlt2)

set_option maxRecDepth 100000 in
theorem lifted (os : Os) (started : os.Started) (H : Type) (enc : TypeId × Value → H) (F : Stop.Interp) :
    ReturnsInHanded {} Try.checked os 3 .any ((Rows.OpenSpec.upto Rows.storePartsSpec).pre6 enc Try.prog Try.f3 Rows.storePartsUptoRow.domain false) (((Rows.OpenSpec.upto Rows.storePartsSpec).at F).post enc Try.prog Try.f3 false true false false) := by
  refine returnsInHanded_of_cond (C := Try.checked) (s := Rows.OpenSpec.upto Rows.storePartsSpec) (k := Rows.uptoSmall) rfl ownKnobL started (by kernel_rfl) Try.func3
    (OpenSpec.witness (enc := enc) (C := Try.checked) (s := Rows.OpenSpec.upto Rows.storePartsSpec) (k := Rows.uptoSmall) rfl false ⟨#[], #[.slice none 0 0, .int .u8 0], []⟩ 8 (by kernel_rfl) (by kernel_rfl) (by kernel_rfl)
      (x := ([.nil, .lit (.int .u8 0)], [], [])) (by kernel_rfl) rfl (by kernel_rfl)) ?_
  intro W base args ds gs before hval hW _ hk _
  refine contract H enc W base args ds gs before ?_ hW hk
  have hA0 := hW
  obtain ⟨p, q, hA0, -, -, -, -⟩ := hA0
  have hA : DataW.TrodAll enc Try.prog W 0 (fun _ => true) true Try.f3.params.toList args.toList ds p := hA0
  rw [Try.params3] at hA
  obtain ⟨v0, v1, d0, d1, p0, p1, rfl, rfl, rfl, h0, h1⟩ := trodAll_two hA
  obtain ⟨a0, n0, c0, rfl⟩ := okWide_slice Try.underlying22 (hval 0 22 _ rfl rfl)
  obtain ⟨pn, rfl⟩ := okWide_int Try.underlying5 (hval 1 5 _ rfl rfl)
  exact ⟨a0, n0, c0, pn, rfl⟩

theorem over : Rows.storePartsUptoRow.holds Try.pinned (Rows.OpenSpec.upto Rows.storePartsSpec) :=
  OpenClaim.holds_of_cond 3 Try.f3 rfl rfl rfl rfl rfl rfl rfl ⟨rfl, rfl, rfl, rfl, rfl⟩ rfl rfl rfl rfl rfl (by kernel_rfl) Try.func3 (by kernel_rfl)
    (of_decide_eq_true (by kernel_rfl)) (by unfold Func.isWrapper; first | (rw [if_pos (by decide +kernel)]; kernel_rfl) | (rw [if_neg (by decide +kernel)]; exact ⟨rfl, rfl⟩))
    (fun os started H enc _ F => lifted os started H enc F)
end lawParts

theorem storeParts_upto : Rows.StorePartsUptoSaid := lawParts.over
#print axioms storeParts_upto
end Go.Proofs.Ytnncbbfbnccnbaa
