/- From what the statement gives of an argument to a search: a string, an offset, a flag, a budget. -/
import Derived.Test.YtnnocekencaadaaOpen
namespace Go.Proofs.Ytnnocekencaadaa
open Go.ChangeShapes Go.WideShapes Go.ChangeAt Go.RowKit
set_option linter.unusedVariables false
theorem ownKnobR : ownKnob Try.prog.godebug = none := by kernel_rfl
section
variable {H : Type} {enc : TypeId × Value → H} {w : World} {sp : Nat → Bool} {hd : Bool}
/-- An argument of the type Try. -/
theorem open_try {v : Value} {d : DataW H} {ps : List MemPlace} (h : DataW.Trod enc Try.prog w 0 sp hd 30 v d ps) : ∃ (s : ByteArray) (x y : Int) (b : Bool), v = .agg #[.string s, .int .i64 x, .bool b, .int .i64 y] ∧ s.size ≤ Rows.uptoBulk d ∧ I64 x ∧ I64 y := by
  obtain ⟨fuel, hf⟩ := h
  have hcells : Try.prog.cellsOf 30 = 4 := by kernel_rfl
  have hstr : Try.prog.cellsOf 9 = 1 := by kernel_rfl
  have hint : Try.prog.cellsOf 3 = 1 := by kernel_rfl
  have hbool : Try.prog.cellsOf 4 = 1 := by kernel_rfl
  obtain ⟨ys, n, hfu, hd0, hl, hlen, hf⟩ := DataW.trod_struct Try.underlying30 hf
  rw [hcells] at hl
  match hc : v.cells.toList, hl with
  | [c0, c1, c2, c3], _ =>
  rw [hc] at hf
  match ys, hlen with
  | [y0, y1, y2, y3], _ =>
    have h0 : DataW.trod enc Try.prog w 0 sp hd n 9 (([c0, c1, c2, c3].drop 0).take (Try.prog.cellsOf 9)) = [y0, y1, y2, y3][0]? := hf 0 _ rfl
    have h1 : DataW.trod enc Try.prog w 0 sp hd n 3 (([c0, c1, c2, c3].drop 1).take (Try.prog.cellsOf 3)) = [y0, y1, y2, y3][1]? := hf 1 _ rfl
    have h2 : DataW.trod enc Try.prog w 0 sp hd n 4 (([c0, c1, c2, c3].drop 2).take (Try.prog.cellsOf 4)) = [y0, y1, y2, y3][2]? := hf 2 _ rfl
    have h3 : DataW.trod enc Try.prog w 0 sp hd n 3 (([c0, c1, c2, c3].drop 3).take (Try.prog.cellsOf 3)) = [y0, y1, y2, y3][3]? := hf 3 _ rfl
    rw [hstr] at h0
    rw [hint] at h1 h3
    rw [hbool] at h2
    simp at h0 h1 h2 h3
    obtain ⟨s, e0, hx, -⟩ := DataW.trod_string Try.underlying9 h0
    obtain ⟨x, e1, w1⟩ := open_i64 h1
    obtain ⟨b, e2, -⟩ := DataW.trod_bool Try.underlying4 h2
    obtain ⟨y, e3, w3⟩ := open_i64 h3
    injection e0 with e0
    injection e1 with e1
    injection e2 with e2
    injection e3 with e3
    subst e0 e1 e2 e3
    refine ⟨s, x, y, b, ?_, ?_, w1, w3⟩
    · cases v <;> simp [Value.cells] at hc ⊢
      rename_i arr
      obtain ⟨l⟩ := arr
      simpa using hc
    · simp only [Prod.mk.injEq] at hd0
      rw [hd0.1]
      simp only [Rows.uptoBulk, Rows.uptoBulkAll, List.map_cons]
      rw [hx]
      simp only [Rows.uptoBulk]
      have : s.data.toList.length = s.size := by rw [Array.length_toList]; rfl
      omega
end
end Go.Proofs.Ytnnocekencaadaa
