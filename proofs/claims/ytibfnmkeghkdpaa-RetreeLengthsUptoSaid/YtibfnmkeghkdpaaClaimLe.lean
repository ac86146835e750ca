/- The statement RetreeLengths, second form: for every tree and every choices of bulk together at most 1048576 the law returns true, and both read as before. -/
import Derived.Test.YtibfnmkeghkdpaaOpen2
import Derived.Test.YtibfnmkeghkdpaaLengths
namespace Go.Proofs.Ytibfnmkeghkdpaa
open Go.ChangeShapes Go.WideShapes Go.ChangeAt Go.RowKit
set_option linter.unusedVariables false

theorem ownKnobL : ownKnob Try.prog.godebug = none := by kernel_rfl
theorem bulk_all {H : Type} : ∀ (l : List (DataW H)), l.length ≤ Rows.uptoBulkAll l
  | [] => by simp [Rows.uptoBulkAll]
  | d :: l => by
    have h1 := bulk_one d
    have h2 := bulk_all l
    simp only [Rows.uptoBulkAll, List.length_cons]
    omega
theorem cells_i1 : Try.prog.cellsOf 3 = 1 := by kernel_rfl
/-- An argument of the type []int. -/
theorem open_choices {H : Type} {enc : TypeId × Value → H} {w : World} {sp : Nat → Bool} {hd : Bool} {ca : Option Addr} {cn cc : Nat} {d : DataW H} {ps : List MemPlace} (h : DataW.Trod enc Try.prog w 0 sp hd 41 (.slice ca cn cc) d ps) : ChAt w ca cn ∧ cn ≤ Rows.uptoBulk d := by
  obtain ⟨fuel, hf⟩ := h
  rcases open_ints Try.underlying41 Try.underlying3 cells_i1 hf with ⟨hcs, hx⟩ | ⟨a, len, cap, zs, hcs, _, hle, hmax, hzl, hx, hcell, hwf⟩
  · simp [Value.cells] at hcs
    obtain ⟨rfl, rfl, rfl⟩ := hcs
    exact ⟨.inl rfl, Nat.zero_le _⟩
  · simp [Value.cells] at hcs
    obtain ⟨rfl, rfl, rfl⟩ := hcs
    have hzn : cn ≤ zs.length := by rw [hzl]; split <;> omega
    refine ⟨?_, ?_⟩
    · rcases Nat.eq_zero_or_pos cn with h0 | h0
      · exact .inl h0
      · have hsp : a.spot = none := by
          have h1 := hcell 0 (by omega)
          simpa [Addr.add] using World.cell?_spot h1
        obtain ⟨b, o, spt⟩ := a
        simp only at hsp
        subst hsp
        refine .inr ⟨b, o, rfl, fun i hi => ⟨zs.getD i 0, ?_, ?_⟩⟩
        · have := hcell i (by omega)
          rw [Addr.add_lit] at this
          exact this
        · have hmem : zs.getD i 0 ∈ zs := by
            rw [List.getD_eq_getElem?_getD, List.getElem?_eq_getElem (by omega : i < zs.length)]
            exact List.getElem_mem _
          have hw := hwf _ hmem
          have e1 : IntKind.i64.min = -9223372036854775808 := rfl
          have e2 : IntKind.i64.max = 9223372036854775807 := rfl
          simpa [Lit.wf, e1, e2, I64] using hw
    · simp only [Prod.mk.injEq] at hx
      rw [hx.1]
      have h1 := bulk_all (lits (H := H) .i64 (zs.take cn))
      have h2 : (lits (H := H) .i64 (zs.take cn)).length = cn := by simp [lits]; omega
      simp only [Rows.uptoBulk]
      omega

namespace lawLengths
theorem contract (H : Type) (enc : TypeId × Value → H) (W : World) (base : Nat) (args : Array Value) (ds gs : List (DataW H)) (before : List MemPlace)
    (hsl : ∃ v ca cn cc, args = #[v, .slice ca cn cc])
    (hW : DataW.Whole enc Try.prog Try.f7.params.toList Rows.retreeLengthsSpec.vars false W args.toList ds gs before) (hk : Rows.uptoSmall H (ds ++ gs) = true) :
    Calls Try.prog 7 args W fun e W' => ∃ v, e = .returned v ∧ Rows.retreeLengthsSpec.post enc Try.prog Try.f7 false true false false W args v W' := by
  obtain ⟨vv, ca, cn, cc, rfl⟩ := hsl
  have hW' := hW
  obtain ⟨p, q, hA0, hV, rfl, hfz, hnd⟩ := hW
  have hA : DataW.TrodAll enc Try.prog W 0 (fun _ => true) true Try.f7.params.toList [vv, .slice ca cn cc] ds p := hA0
  rw [Try.params7] at hA
  obtain ⟨d0, d1, p0, p1, rfl, rfl, h0, h1⟩ : ∃ d0 d1 p0 p1, ds = [d0, d1] ∧ p = p0 ++ p1 ∧ DataW.Trod enc Try.prog W 0 (fun _ => true) true 28 vv d0 p0 ∧ DataW.Trod enc Try.prog W 0 (fun _ => true) true 41 (.slice ca cn cc) d1 p1 := by
    match ds, hA with
    | [d0, d1], hA =>
      obtain ⟨p0, q0, g0, ⟨p1, q1, g1, g2, rfl⟩, rfl⟩ := hA
      have g3 : q1 = [] := g2
      subst g3
      exact ⟨d0, d1, p0, p1, rfl, by simp, g0, g1⟩
  obtain ⟨rfl, rfl⟩ := trodVars_none hV
  have h0k := h0
  have h1k := h1
  obtain ⟨t, cs, rfl, hin, hsz⟩ := open_arg2 h0
  obtain ⟨hch, hcn⟩ := open_choices h1
  simp only [List.append_nil] at hW'
  have hlt : ∀ x ∈ p0, x.block < W.heap.size := fun x hx => by simpa using hW'.lt x (by simp [hx])
  have hlt2 : ∀ x ∈ p1, x.block < W.heap.size := fun x hx => by simpa using hW'.lt x (by simp [hx])
  have hk2 : Rows.uptoBulk d0 + Rows.uptoBulk d1 ≤ 1048576 := by
    have h := of_decide_eq_true hk
    simp only [List.append_nil, Rows.uptoBulkAll] at h
    omega
  refine (LawLengths_any t ca cn cc W cs hin (by omega) hch (by omega)).mono fun e W' ⟨he, hb⟩ => ?_
  subst he
  refine ⟨_, rfl, [d0, d1], [], p0 ++ p1, [], p0 ++ p1, [], hW', ?_, ?_, rfl, hb.frame _, fun h => by cases h⟩
  · exact trodAll_cons_mk (shut_bool Try.underlying4 _) trodAll_mk0
  · exact trodAll_mk2 (Below.trod laidOutP (by kernel_rfl) (of_decide_eq_true (by kernel_rfl)) h0k hb hlt) (Below.trod laidOutP (by kernel_rfl) (of_decide_eq_true (by kernel_rfl)) h1k hb hlt2)

set_option maxRecDepth 100000 in
theorem lifted (os : Os) (started : os.Started) (H : Type) (enc : TypeId × Value → H) (F : Stop.Interp) :
    ReturnsInHanded {} Try.checked os 7 .any ((Rows.OpenSpec.upto Rows.retreeLengthsSpec).pre6 enc Try.prog Try.f7 Rows.retreeLengthsUptoRow.domain false) (((Rows.OpenSpec.upto Rows.retreeLengthsSpec).at F).post enc Try.prog Try.f7 false true false false) := by
  refine returnsInHanded_of_cond (C := Try.checked) (s := Rows.OpenSpec.upto Rows.retreeLengthsSpec) (k := Rows.uptoSmall) rfl ownKnobL started (by kernel_rfl) Try.func7
    (OpenSpec.witness (enc := enc) (C := Try.checked) (s := Rows.OpenSpec.upto Rows.retreeLengthsSpec) (k := Rows.uptoSmall) rfl false ⟨#[], #[.agg #[.int .i64 0, .int .u64 0, .int .u64 0, .int .u64 0, .int .u64 0, .int .i64 0, .int .i64 0, .int .i64 0, .slice none 0 0], .slice none 0 0], []⟩ 8 (by kernel_rfl) (by kernel_rfl) (by kernel_rfl)
      (x := ([.agg [.lit (.int .i64 0), .agg [.agg [.lit (.int .u64 0), .lit (.int .u64 0), .lit (.int .u64 0), .lit (.int .u64 0)]], .lit (.int .i64 0), .lit (.int .i64 0), .lit (.int .i64 0), .nil], .nil], [], [])) (by kernel_rfl) rfl (by kernel_rfl)) ?_
  intro W base args ds gs before hval hW _ hk _
  refine contract H enc W base args ds gs before ?_ hW hk
  have hA0 := hW
  obtain ⟨p, q, hA0, -, -, -, -⟩ := hA0
  have hA : DataW.TrodAll enc Try.prog W 0 (fun _ => true) true Try.f7.params.toList args.toList ds p := hA0
  rw [Try.params7] at hA
  obtain ⟨v0, v1, d0, d1, p0, p1, rfl, rfl, rfl, h0, h1⟩ := trodAll_two hA
  obtain ⟨a0, n0, c0, rfl⟩ := okWide_slice Try.underlying41 (hval 1 41 _ rfl rfl)
  exact ⟨v0, a0, n0, c0, rfl⟩

theorem over : Rows.retreeLengthsUptoRow.holds Try.pinned (Rows.OpenSpec.upto Rows.retreeLengthsSpec) :=
  OpenClaim.holds_of_cond 7 Try.f7 rfl rfl rfl rfl rfl rfl rfl ⟨rfl, rfl, rfl, rfl, rfl⟩ rfl rfl rfl rfl rfl (by kernel_rfl) Try.func7 (by kernel_rfl)
    (of_decide_eq_true (by kernel_rfl)) (by unfold Func.isWrapper; first | (rw [if_pos (by decide +kernel)]; kernel_rfl) | (rw [if_neg (by decide +kernel)]; exact ⟨rfl, rfl⟩))
    (fun os started H enc _ F => lifted os started H enc F)
end lawLengths

theorem retreeLengths_upto : Rows.RetreeLengthsUptoSaid := lawLengths.over
#print axioms retreeLengths_upto
end Go.Proofs.Ytibfnmkeghkdpaa
