/- From what the statement gives of an argument to the tree: what is read as data of the type Re is a tree in the memory. -/
import Derived.Test.YthnpbopnpdlmnaaDoorRows
import Derived.Test.YthnpbopnpdlmnaaDoorA03
import Derived.WalkKit
import Derived.ProofKit
import Derived.OpenShut
import Derived.JoinedCond
import Derived.Carry
import Derived.ChangeArms
namespace Go.Proofs.YthnpbopnpdlmnaaDoor
open Go.ChangeShapes Go.WideShapes Go.ChangeAt Go.RowKit
set_option linter.unusedVariables false

theorem laidOutP : laidOutB Tryd.prog = true := by kernel_rfl
theorem cells_re : Tryd.prog.cellsOf 28 = 9 := by kernel_rfl
theorem cells_cs : Tryd.prog.cellsOf 25 = 4 := by kernel_rfl
theorem cells_a4 : Tryd.prog.cellsOf 23 = 4 := by kernel_rfl
theorem cells_u64 : Tryd.prog.cellsOf 22 = 1 := by kernel_rfl
theorem cells_int : Tryd.prog.cellsOf 3 = 1 := by kernel_rfl
theorem cells_sl : Tryd.prog.cellsOf 26 = 1 := by kernel_rfl

section
variable {H : Type} {enc : TypeId × Value → H} {w : World} {sp : Nat → Bool} {hd : Bool}

theorem open_i64 {fuel : Nat} {cs : List Value} {x : DataW H × List MemPlace} (h : DataW.trod enc Tryd.prog w 0 sp hd fuel 3 cs = some x) : ∃ n, cs = [.int .i64 n] ∧ I64 n := by
  obtain ⟨n, rfl, rfl, hw⟩ := DataW.trod_int Tryd.underlying3 h
  refine ⟨n, rfl, ?_⟩
  have e1 : IntKind.i64.min = -9223372036854775808 := rfl
  have e2 : IntKind.i64.max = 9223372036854775807 := rfl
  simpa [Lit.wf, e1, e2, I64] using hw
theorem open_u64 {fuel : Nat} {cs : List Value} {x : DataW H × List MemPlace} (h : DataW.trod enc Tryd.prog w 0 sp hd fuel 22 cs = some x) : ∃ n : Nat, cs = [.int .u64 n] ∧ W64 n := by
  obtain ⟨n, rfl, rfl, hw⟩ := DataW.trod_int Tryd.underlying22 h
  have e1 : IntKind.u64.min = 0 := rfl
  have e2 : IntKind.u64.max = 18446744073709551615 := rfl
  have hw2 : 0 ≤ n ∧ n ≤ 18446744073709551615 := by simpa [Lit.wf, e1, e2] using hw
  refine ⟨n.toNat, by rw [Int.toNat_of_nonneg hw2.1], by unfold W64; omega⟩
theorem open_cs {fuel : Nat} {c0 c1 c2 c3 : Value} {x : DataW H × List MemPlace} (h : DataW.trod enc Tryd.prog w 0 sp hd fuel 25 [c0, c1, c2, c3] = some x) : ∃ s : Cs, s.wf ∧ [c0, c1, c2, c3] = s.cells := by
  obtain ⟨ys, n, _, rfl, hl, hlen, hf⟩ := DataW.trod_struct Tryd.underlying25 h
  match ys, hlen with
  | [y0], _ =>
    have h0 : DataW.trod enc Tryd.prog w 0 sp hd n 23 (([c0, c1, c2, c3].drop 0).take (Tryd.prog.cellsOf 23)) = [y0][0]? := hf 0 _ rfl
    rw [cells_a4] at h0
    simp at h0
    obtain ⟨zs, m, _, rfl, hl2, hlen2, hf2⟩ := DataW.trod_array Tryd.underlying23 h0
    match zs, hlen2 with
    | [z0, z1, z2, z3], _ =>
      have g0 := hf2 0 (by omega)
      have g1 := hf2 1 (by omega)
      have g2 := hf2 2 (by omega)
      have g3 := hf2 3 (by omega)
      simp only [cells_u64] at g0 g1 g2 g3
      simp at g0 g1 g2 g3
      obtain ⟨a, ha, wa⟩ := open_u64 g0
      obtain ⟨b, hb, wb⟩ := open_u64 g1
      obtain ⟨c, hc, wc⟩ := open_u64 g2
      obtain ⟨d, hd, wd⟩ := open_u64 g3
      injection ha with ha
      injection hb with hb
      injection hc with hc
      injection hd with hd
      subst ha hb hc hd
      exact ⟨⟨a, b, c, d⟩, ⟨wa, wb, wc, wd⟩, rfl⟩

theorem open_kids (a : Addr) : ∀ (elems : List (DataW H × List MemPlace)) (k : Nat), (∀ (i : Nat) (x : DataW H × List MemPlace), elems[i]? = some x → ∃ (t : Re) (cs : List Value), w.cells? 0 (a.add ((k + i) * 9)) 9 = some cs ∧ t.In w cs ∧ t.size ≤ Rows.uptoBulk x.1) → (k = 0 ∨ a.spot = none) →
    ∃ xs : List Re, xs.length = elems.length ∧ Re.AllIn w xs (some a) (k * 9) ∧ Re.sizes xs ≤ Rows.uptoBulkAll (elems.map (·.1))
  | [], k, _, _ => ⟨[], rfl, by simp [Re.AllIn], by simp [Re.sizes, Re.counts, Rows.uptoBulkAll]⟩
  | x :: elems, k, h, hs => by
    obtain ⟨t, cs, hc, hin, hsz⟩ := h 0 x rfl
    obtain ⟨_, hlen, hcell⟩ := World.cells?_some hc
    have hsp : a.spot = none := by
      rcases hs with hs | hs
      · subst hs
        have h0 := hcell 0 (by omega)
        have hx : cs[0]? = some cs[0] := List.getElem?_eq_getElem (by omega)
        rw [hx] at h0
        simpa [Addr.add] using World.cell?_spot h0
      · exact hs
    obtain ⟨xs, hx1, hx2, hx3⟩ := open_kids a elems (k + 1) (fun i y hy => by
      have := h (i + 1) y (by simpa using hy)
      rwa [show k + 1 + i = k + (i + 1) by omega]) (.inr hsp)
    obtain ⟨b, o, spt⟩ := a
    simp only at hsp
    subst hsp
    refine ⟨t :: xs, by simp [hx1], ?_, ?_⟩
    · rw [Re.AllIn]
      refine ⟨⟨b, o, cs, rfl, fun j v hj => ?_, hin⟩, by rw [show k * 9 + 9 = (k + 1) * 9 by omega]; exact hx2⟩
      have hj9 : j < 9 := by
        have := (List.getElem?_eq_some_iff.1 hj).1
        omega
      have := hcell j hj9
      rw [add_plain, Addr.add_lit] at this
      rw [← hj, ← this]
      congr 2
    · have : Re.sizes (t :: xs) = t.size + Re.sizes xs := by simp [Re.sizes, Re.counts, Re.size]
      rw [this]
      simp only [List.map_cons, Rows.uptoBulkAll]
      omega

set_option maxRecDepth 100000 in
theorem open_re : ∀ (fuel : Nat) (cs : List Value) (x : DataW H × List MemPlace), DataW.trod enc Tryd.prog w 0 sp hd fuel 28 cs = some x → ∃ t : Re, t.In w cs ∧ t.size ≤ Rows.uptoBulk x.1 := by
  intro fuel
  induction fuel using Nat.strongRecOn with
  | _ fuel ih =>
    intro cs x h
    obtain ⟨ys, n, hfu, rfl, hl, hlen, hf⟩ := DataW.trod_struct Tryd.underlying28 h
    rw [cells_re] at hl
    match cs, hl with
    | [c0, c1, c2, c3, c4, c5, c6, c7, c8], _ =>
    match ys, hlen with
    | [y0, y1, y2, y3, y4, y5], _ =>
      have h0 : DataW.trod enc Tryd.prog w 0 sp hd n 3 (([c0, c1, c2, c3, c4, c5, c6, c7, c8].drop 0).take (Tryd.prog.cellsOf 3)) = [y0, y1, y2, y3, y4, y5][0]? := hf 0 _ rfl
      rw [cells_int] at h0
      simp at h0
      have h1 : DataW.trod enc Tryd.prog w 0 sp hd n 25 (([c0, c1, c2, c3, c4, c5, c6, c7, c8].drop 1).take (Tryd.prog.cellsOf 25)) = [y0, y1, y2, y3, y4, y5][1]? := hf 1 _ rfl
      rw [cells_cs] at h1
      simp at h1
      have h2 : DataW.trod enc Tryd.prog w 0 sp hd n 3 (([c0, c1, c2, c3, c4, c5, c6, c7, c8].drop 5).take (Tryd.prog.cellsOf 3)) = [y0, y1, y2, y3, y4, y5][2]? := hf 2 _ rfl
      rw [cells_int] at h2
      simp at h2
      have h3 : DataW.trod enc Tryd.prog w 0 sp hd n 3 (([c0, c1, c2, c3, c4, c5, c6, c7, c8].drop 6).take (Tryd.prog.cellsOf 3)) = [y0, y1, y2, y3, y4, y5][3]? := hf 3 _ rfl
      rw [cells_int] at h3
      simp at h3
      have h4 : DataW.trod enc Tryd.prog w 0 sp hd n 3 (([c0, c1, c2, c3, c4, c5, c6, c7, c8].drop 7).take (Tryd.prog.cellsOf 3)) = [y0, y1, y2, y3, y4, y5][4]? := hf 4 _ rfl
      rw [cells_int] at h4
      simp at h4
      have h5 : DataW.trod enc Tryd.prog w 0 sp hd n 26 (([c0, c1, c2, c3, c4, c5, c6, c7, c8].drop 8).take (Tryd.prog.cellsOf 26)) = [y0, y1, y2, y3, y4, y5][5]? := hf 5 _ rfl
      rw [cells_sl] at h5
      simp at h5
      obtain ⟨op, e0, w0⟩ := open_i64 h0
      obtain ⟨s, ws, es⟩ := open_cs h1
      obtain ⟨lo, e2, w2⟩ := open_i64 h2
      obtain ⟨hi, e3, w3⟩ := open_i64 h3
      obtain ⟨gr, e4, w4⟩ := open_i64 h4
      injection e0 with e0
      injection e2 with e2
      injection e3 with e3
      injection e4 with e4
      subst e0 e2 e3 e4
      unfold Cs.cells at es
      injection es with e10 es
      injection es with e11 es
      injection es with e12 es
      injection es with e13 es
      subst e10 e11 e12 e13
      have hwf : (⟨op, s, lo, hi, gr⟩ : Pay).wf := ⟨w0, ws, w2, w3, w4⟩
      rcases DataW.trod_slice Tryd.underlying26 h5 with ⟨hcs, hx⟩ | ⟨a, len, cap, elems, rest, m, hm, hcs, hx, hb, hle, hcm, hel, hall, _, _⟩
      · injection hcs with hcs
        subst hcs
        refine ⟨.mk ⟨op, s, lo, hi, gr⟩ [], ?_, ?_⟩
        · rw [Re.In]
          exact ⟨none, 0, rfl, hwf, Nat.le_refl _, Nat.zero_le _, fun _ => rfl, by simp [Re.AllIn]⟩
        · simp [Re.size_mk, Re.sizes, Re.counts, Rows.uptoBulk]
      · injection hcs with hcs
        subst hcs
        rw [cells_re] at hall
        obtain ⟨xs, k1, k2, k3⟩ := open_kids (w := w) a elems 0 (fun i y hy => by
          have hil : i < len := by rw [← hel]; exact (List.getElem?_eq_some_iff.1 hy).1
          have hh := hall i hil
          rw [hy] at hh
          obtain ⟨cs', g1, g2⟩ := Option.bind_eq_some_iff.1 hh
          obtain ⟨t, g3, g4⟩ := ih m (by omega) cs' y g2
          exact ⟨t, cs', by rw [Nat.zero_add]; exact g1, g3, g4⟩) (.inl rfl)
        refine ⟨.mk ⟨op, s, lo, hi, gr⟩ xs, ?_, ?_⟩
        · rw [Re.In]
          refine ⟨some a, cap, ?_, hwf, by rw [k1, hel]; exact hle, hcm, (fun e => by cases e), by simpa using k2⟩
          rw [k1, hel]
          rfl
        · rw [Re.size_mk]
          simp only [Rows.uptoBulk, Rows.uptoBulkAll, hx, List.map_cons, List.map_nil]
          omega

theorem open_arg {v : Value} {d : DataW H} {ps : List MemPlace} (h : DataW.Trod enc Tryd.prog w 0 sp hd 28 v d ps) : ∃ (t : Re) (cs : List Value), v = .agg cs.toArray ∧ t.In w cs ∧ t.size ≤ Rows.uptoBulk d := by
  obtain ⟨fuel, hf⟩ := h
  obtain ⟨t, h1, h2⟩ := open_re fuel _ _ hf
  refine ⟨t, v.cells.toList, ?_, h1, h2⟩
  have h9 := h1.nine
  cases v <;> simp [Value.cells] at h9 ⊢
end
end Go.Proofs.YthnpbopnpdlmnaaDoor

/- An argument of layer 9's laws: a string, an offset, a flag. -/
namespace Go.Proofs.YthnpbopnpdlmnaaDoor
open Go.ChangeShapes Go.WideShapes Go.ChangeAt Go.RowKit
set_option linter.unusedVariables false
theorem ownKnob9 : ownKnob Tryd.prog.godebug = none := by kernel_rfl
section
variable {H : Type} {enc : TypeId × Value → H} {w : World} {sp : Nat → Bool} {hd : Bool}
theorem open_case {v : Value} {d : DataW H} {ps : List MemPlace} (h : DataW.Trod enc Tryd.prog w 0 sp hd 30 v d ps) : ∃ (s : ByteArray) (x : Int) (b : Bool), v = .agg #[.string s, .int .i64 x, .bool b] ∧ s.size ≤ Rows.uptoBulk d ∧ I64 x := by
  obtain ⟨fuel, hf⟩ := h
  have hcells : Tryd.prog.cellsOf 30 = 3 := by kernel_rfl
  have hstr : Tryd.prog.cellsOf 9 = 1 := by kernel_rfl
  have hint : Tryd.prog.cellsOf 3 = 1 := by kernel_rfl
  have hbool : Tryd.prog.cellsOf 4 = 1 := by kernel_rfl
  obtain ⟨ys, n, hfu, hd0, hl, hlen, hf⟩ := DataW.trod_struct Tryd.underlying30 hf
  rw [hcells] at hl
  match hc : v.cells.toList, hl with
  | [c0, c1, c2], _ =>
  rw [hc] at hf
  match ys, hlen with
  | [y0, y1, y2], _ =>
    have h0 : DataW.trod enc Tryd.prog w 0 sp hd n 9 (([c0, c1, c2].drop 0).take (Tryd.prog.cellsOf 9)) = [y0, y1, y2][0]? := hf 0 _ rfl
    have h1 : DataW.trod enc Tryd.prog w 0 sp hd n 3 (([c0, c1, c2].drop 1).take (Tryd.prog.cellsOf 3)) = [y0, y1, y2][1]? := hf 1 _ rfl
    have h2 : DataW.trod enc Tryd.prog w 0 sp hd n 4 (([c0, c1, c2].drop 2).take (Tryd.prog.cellsOf 4)) = [y0, y1, y2][2]? := hf 2 _ rfl
    rw [hstr] at h0
    rw [hint] at h1
    rw [hbool] at h2
    simp at h0 h1 h2
    obtain ⟨s, e0, hx, -⟩ := DataW.trod_string Tryd.underlying9 h0
    obtain ⟨x, e1, w1⟩ := open_i64 h1
    obtain ⟨b, e2, -⟩ := DataW.trod_bool Tryd.underlying4 h2
    injection e0 with e0
    injection e1 with e1
    injection e2 with e2
    subst e0 e1 e2
    refine ⟨s, x, b, ?_, ?_, w1⟩
    · cases v <;> simp [Value.cells] at hc ⊢
      rename_i arr
      obtain ⟨l⟩ := arr
      simpa using hc
    · simp only [Prod.mk.injEq] at hd0
      rw [hd0.1]
      simp only [Rows.uptoBulk, Rows.uptoBulkAll, List.map_cons]
      rw [hx]
      simp only [Rows.uptoBulk]
      have : s.data.toList.length = s.size := by rw [Array.length_toList]; rfl
      omega
end
end Go.Proofs.YthnpbopnpdlmnaaDoor
