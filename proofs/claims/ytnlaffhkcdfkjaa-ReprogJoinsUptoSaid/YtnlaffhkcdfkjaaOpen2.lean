/- From what the statement gives of an argument to the tree: its size is less than the bulk. -/
import Derived.Test.YtnlaffhkcdfkjaaOpen
namespace Go.Proofs.Ytnlaffhkcdfkjaa
open Go.ChangeShapes Go.WideShapes Go.ChangeAt Go.RowKit
set_option linter.unusedVariables false
section
variable {H : Type} {enc : TypeId × Value → H} {w : World} {sp : Nat → Bool} {hd : Bool}
theorem bulk_one {H : Type} (d : DataW H) : 1 ≤ Rows.uptoBulk d := by
  cases d with
  | lit l => cases l <;> simp [Rows.uptoBulk]
  | nil => simp [Rows.uptoBulk]
  | ptr d => simp [Rows.uptoBulk]
  | slice elems spare => simp [Rows.uptoBulk]
  | agg parts => simp [Rows.uptoBulk]
  | iface t d => simp [Rows.uptoBulk]
  | map entries => simp [Rows.uptoBulk]
  | held h => simp [Rows.uptoBulk]
theorem open_re2 (fuel : Nat) (cs : List Value) (x : DataW H × List MemPlace) (h : DataW.trod enc Try.prog w 0 sp hd fuel 28 cs = some x) : ∃ t : Re, t.In w cs ∧ t.size + 1 ≤ Rows.uptoBulk x.1 := by
    skip
    obtain ⟨ys, n, hfu, rfl, hl, hlen, hf⟩ := DataW.trod_struct Try.underlying28 h
    rw [cells_re] at hl
    match cs, hl with
    | [c0, c1, c2, c3, c4, c5, c6, c7, c8], _ =>
    match ys, hlen with
    | [y0, y1, y2, y3, y4, y5], _ =>
      have h0 : DataW.trod enc Try.prog w 0 sp hd n 3 (([c0, c1, c2, c3, c4, c5, c6, c7, c8].drop 0).take (Try.prog.cellsOf 3)) = [y0, y1, y2, y3, y4, y5][0]? := hf 0 _ rfl
      rw [cells_int] at h0
      simp at h0
      have h1 : DataW.trod enc Try.prog w 0 sp hd n 25 (([c0, c1, c2, c3, c4, c5, c6, c7, c8].drop 1).take (Try.prog.cellsOf 25)) = [y0, y1, y2, y3, y4, y5][1]? := hf 1 _ rfl
      rw [cells_cs] at h1
      simp at h1
      have h2 : DataW.trod enc Try.prog w 0 sp hd n 3 (([c0, c1, c2, c3, c4, c5, c6, c7, c8].drop 5).take (Try.prog.cellsOf 3)) = [y0, y1, y2, y3, y4, y5][2]? := hf 2 _ rfl
      rw [cells_int] at h2
      simp at h2
      have h3 : DataW.trod enc Try.prog w 0 sp hd n 3 (([c0, c1, c2, c3, c4, c5, c6, c7, c8].drop 6).take (Try.prog.cellsOf 3)) = [y0, y1, y2, y3, y4, y5][3]? := hf 3 _ rfl
      rw [cells_int] at h3
      simp at h3
      have h4 : DataW.trod enc Try.prog w 0 sp hd n 3 (([c0, c1, c2, c3, c4, c5, c6, c7, c8].drop 7).take (Try.prog.cellsOf 3)) = [y0, y1, y2, y3, y4, y5][4]? := hf 4 _ rfl
      rw [cells_int] at h4
      simp at h4
      have h5 : DataW.trod enc Try.prog w 0 sp hd n 26 (([c0, c1, c2, c3, c4, c5, c6, c7, c8].drop 8).take (Try.prog.cellsOf 26)) = [y0, y1, y2, y3, y4, y5][5]? := hf 5 _ rfl
      rw [cells_sl] at h5
      simp at h5
      obtain ⟨op, e0, w0⟩ := open_i64 h0
      obtain ⟨s, ws, es⟩ := open_cs h1
      obtain ⟨lo, e2, w2⟩ := open_i64 h2
      obtain ⟨hi, e3, w3⟩ := open_i64 h3
      obtain ⟨gr, e4, w4⟩ := open_i64 h4
      injection e0 with e0
      injection e2 with e2
      injection e3 with e3
      injection e4 with e4
      subst e0 e2 e3 e4
      unfold Cs.cells at es
      injection es with e10 es
      injection es with e11 es
      injection es with e12 es
      injection es with e13 es
      subst e10 e11 e12 e13
      have hwf : (⟨op, s, lo, hi, gr⟩ : Pay).wf := ⟨w0, ws, w2, w3, w4⟩
      rcases DataW.trod_slice Try.underlying26 h5 with ⟨hcs, hx⟩ | ⟨a, len, cap, elems, rest, m, hm, hcs, hx, hb, hle, hcm, hel, hall, _, _⟩
      · injection hcs with hcs
        subst hcs
        refine ⟨.mk ⟨op, s, lo, hi, gr⟩ [], ?_, ?_⟩
        · rw [Re.In]
          exact ⟨none, 0, rfl, hwf, Nat.le_refl _, Nat.zero_le _, fun _ => rfl, by simp [Re.AllIn]⟩
        · have b0 := bulk_one y0.1
          simp [Re.size_mk, Re.sizes, Re.counts, Rows.uptoBulk, Rows.uptoBulkAll]
          omega
      · injection hcs with hcs
        subst hcs
        rw [cells_re] at hall
        obtain ⟨xs, k1, k2, k3⟩ := open_kids (w := w) a elems 0 (fun i y hy => by
          have hil : i < len := by rw [← hel]; exact (List.getElem?_eq_some_iff.1 hy).1
          have hh := hall i hil
          rw [hy] at hh
          obtain ⟨cs', g1, g2⟩ := Option.bind_eq_some_iff.1 hh
          obtain ⟨t, g3, g4⟩ := open_re m cs' y g2
          exact ⟨t, cs', by rw [Nat.zero_add]; exact g1, g3, g4⟩) (.inl rfl)
        refine ⟨.mk ⟨op, s, lo, hi, gr⟩ xs, ?_, ?_⟩
        · rw [Re.In]
          refine ⟨some a, cap, ?_, hwf, by rw [k1, hel]; exact hle, hcm, (fun e => by cases e), by simpa using k2⟩
          rw [k1, hel]
          rfl
        · rw [Re.size_mk]
          have b0 := bulk_one y0.1
          simp only [Rows.uptoBulk, Rows.uptoBulkAll, hx, List.map_cons, List.map_nil]
          omega

theorem open_arg2 {v : Value} {d : DataW H} {ps : List MemPlace} (h : DataW.Trod enc Try.prog w 0 sp hd 28 v d ps) : ∃ (t : Re) (cs : List Value), v = .agg cs.toArray ∧ t.In w cs ∧ t.size + 1 ≤ Rows.uptoBulk d := by
  obtain ⟨fuel, hf⟩ := h
  obtain ⟨t, h1, h2⟩ := open_re2 fuel _ _ hf
  refine ⟨t, v.cells.toList, ?_, h1, h2⟩
  have h9 := h1.nine
  cases v <;> simp [Value.cells] at h9 ⊢
end
end Go.Proofs.Ytnlaffhkcdfkjaa
