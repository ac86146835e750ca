/- From what the statement gives of an argument to the calls: what is read as data of the type []Call is a list of calls in the memory. -/
import Derived.Test.YtnncbbfbnccnbaaRows
import Derived.Test.YtnncbbfbnccnbaaLawBounds
import Derived.WalkKit
import Derived.ProofKit
import Derived.OpenShut
import Derived.JoinedCond
import Derived.Carry
import Derived.ChangeArms
namespace Go.Proofs.Ytnncbbfbnccnbaa
open Go.ChangeShapes Go.WideShapes Go.ChangeAt Go.RowKit
set_option linter.unusedVariables false

theorem ownKnobL : ownKnob Try.prog.godebug = none := by kernel_rfl
theorem laidOutP : laidOutB Try.prog = true := by kernel_rfl
theorem cells_call : Try.prog.cellsOf 41 = 6 := by kernel_rfl
theorem cells_one : Try.prog.cellsOf 3 = 1 ∧ Try.prog.cellsOf 9 = 1 ∧ Try.prog.cellsOf 39 = 1 := by refine ⟨?_, ?_, ?_⟩ <;> kernel_rfl
theorem bulk_one {H : Type} (d : DataW H) : 1 ≤ Rows.uptoBulk d := by
  cases d with
  | lit l => cases l <;> simp [Rows.uptoBulk]
  | nil => simp [Rows.uptoBulk]
  | ptr d => simp [Rows.uptoBulk]
  | slice elems spare => simp [Rows.uptoBulk]
  | agg parts => simp [Rows.uptoBulk]
  | iface t d => simp [Rows.uptoBulk]
  | map entries => simp [Rows.uptoBulk]
  | held h => simp [Rows.uptoBulk]
theorem bulk_all {H : Type} : ∀ (l : List (DataW H)), l.length ≤ Rows.uptoBulkAll l
  | [] => by simp [Rows.uptoBulkAll]
  | d :: l => by
    have h1 := bulk_one d
    have h2 := bulk_all l
    simp only [Rows.uptoBulkAll, List.length_cons]
    omega

section
variable {H : Type} {enc : TypeId × Value → H} {w : World} {sp : Nat → Bool} {hd : Bool}
theorem open_i64 {fuel : Nat} {cs : List Value} {x : DataW H × List MemPlace} (h : DataW.trod enc Try.prog w 0 sp hd fuel 3 cs = some x) : ∃ n : Int, cs = [.int .i64 n] ∧ n ≤ 9223372036854775807 := by
  obtain ⟨n, rfl, rfl, hw⟩ := DataW.trod_int Try.underlying3 h
  have e1 : IntKind.i64.min = -9223372036854775808 := rfl
  have e2 : IntKind.i64.max = 9223372036854775807 := rfl
  have : -9223372036854775808 ≤ n ∧ n ≤ 9223372036854775807 := by simpa [Lit.wf, e1, e2] using hw
  exact ⟨n, rfl, this.2⟩
theorem open_u64 {fuel : Nat} {cs : List Value} {x : DataW H × List MemPlace} (h : DataW.trod enc Try.prog w 0 sp hd fuel 39 cs = some x) : ∃ n : Nat, cs = [.int .u64 n] ∧ n ≤ 18446744073709551615 := by
  obtain ⟨n, rfl, rfl, hw⟩ := DataW.trod_int Try.underlying39 h
  have e1 : IntKind.u64.min = 0 := rfl
  have e2 : IntKind.u64.max = 18446744073709551615 := rfl
  have hw2 : 0 ≤ n ∧ n ≤ 18446744073709551615 := by simpa [Lit.wf, e1, e2] using hw
  refine ⟨n.toNat, by rw [Int.toNat_of_nonneg hw2.1], by omega⟩
theorem open_u64v {n : Int} {d : DataW H} {ps : List MemPlace} (h : DataW.Trod enc Try.prog w 0 sp hd 39 (.int .u64 n) d ps) : ∃ m : Nat, n = m ∧ m ≤ 18446744073709551615 := by
  obtain ⟨fuel, hf⟩ := h
  obtain ⟨m, hc, hm⟩ := open_u64 hf
  simp [Value.cells] at hc
  exact ⟨m, hc, hm⟩
theorem open_u8 {n : Int} {d : DataW H} {ps : List MemPlace} (h : DataW.Trod enc Try.prog w 0 sp hd 5 (.int .u8 n) d ps) : ∃ m : Nat, n = m ∧ m < 256 := by
  obtain ⟨fuel, hf⟩ := h
  obtain ⟨n', hc, hx, hw⟩ := DataW.trod_int Try.underlying5 hf
  have e1 : n' = n := by simpa [Value.cells] using hc.symm
  subst e1
  have e2 : IntKind.u8.min = 0 := rfl
  have e3 : IntKind.u8.max = 255 := rfl
  have hw2 : 0 ≤ n' ∧ n' ≤ 255 := by simpa [Lit.wf, e2, e3] using hw
  exact ⟨n'.toNat, by omega, by omega⟩

theorem noFit : CallsFit [] := ⟨(fun i h => by cases h), (fun i h => by cases h)⟩
theorem open_call {fuel : Nat} {cs : List Value} {x : DataW H × List MemPlace} (h : DataW.trod enc Try.prog w 0 sp hd fuel 41 cs = some x) : ∃ c : CallD, cs = c.cells ∧ c.start ≤ 9223372036854775807 ∧ c.n ≤ 9223372036854775807 := by
  obtain ⟨ys, n, hfu, rfl, hl, hlen, hf⟩ := DataW.trod_struct Try.underlying41 h
  rw [cells_call] at hl
  match cs, hl with
  | [c0, c1, c2, c3, c4, c5], _ =>
  match ys, hlen with
  | [y0, y1, y2, y3, y4, y5], _ =>
    have h0 : DataW.trod enc Try.prog w 0 sp hd n 3 (([c0, c1, c2, c3, c4, c5].drop 0).take (Try.prog.cellsOf 3)) = [y0, y1, y2, y3, y4, y5][0]? := hf 0 _ rfl
    have h1 : DataW.trod enc Try.prog w 0 sp hd n 9 (([c0, c1, c2, c3, c4, c5].drop 1).take (Try.prog.cellsOf 9)) = [y0, y1, y2, y3, y4, y5][1]? := hf 1 _ rfl
    have h2 : DataW.trod enc Try.prog w 0 sp hd n 9 (([c0, c1, c2, c3, c4, c5].drop 2).take (Try.prog.cellsOf 9)) = [y0, y1, y2, y3, y4, y5][2]? := hf 2 _ rfl
    have h3 : DataW.trod enc Try.prog w 0 sp hd n 3 (([c0, c1, c2, c3, c4, c5].drop 3).take (Try.prog.cellsOf 3)) = [y0, y1, y2, y3, y4, y5][3]? := hf 3 _ rfl
    have h4 : DataW.trod enc Try.prog w 0 sp hd n 3 (([c0, c1, c2, c3, c4, c5].drop 4).take (Try.prog.cellsOf 3)) = [y0, y1, y2, y3, y4, y5][4]? := hf 4 _ rfl
    have h5 : DataW.trod enc Try.prog w 0 sp hd n 39 (([c0, c1, c2, c3, c4, c5].drop 5).take (Try.prog.cellsOf 39)) = [y0, y1, y2, y3, y4, y5][5]? := hf 5 _ rfl
    simp only [cells_one.1, cells_one.2.1, cells_one.2.2] at h0 h1 h2 h3 h4 h5
    simp at h0 h1 h2 h3 h4 h5
    obtain ⟨op, e0, _⟩ := open_i64 h0
    obtain ⟨nm, e1, -, _⟩ := DataW.trod_string Try.underlying9 h1
    obtain ⟨tx, e2, -, _⟩ := DataW.trod_string Try.underlying9 h2
    obtain ⟨st, e3, k3⟩ := open_i64 h3
    obtain ⟨m, e4, k4⟩ := open_i64 h4
    obtain ⟨kp, e5, _⟩ := open_u64 h5
    injection e0 with e0
    injection e1 with e1
    injection e2 with e2
    injection e3 with e3
    injection e4 with e4
    injection e5 with e5
    subst e0 e1 e2 e3 e4 e5
    exact ⟨⟨op, nm, tx, st, m, kp⟩, rfl, k3, k4⟩

theorem open_many (b o : Nat) : ∀ (elems : List (DataW H × List MemPlace)) (k : Nat), (∀ (i : Nat) (x : DataW H × List MemPlace), elems[i]? = some x → ∃ (c : CallD) (cs : List Value), w.cells? 0 ((⟨b, o, none⟩ : Addr).add ((k + i) * 6)) 6 = some cs ∧ cs = c.cells ∧ c.start ≤ 9223372036854775807 ∧ c.n ≤ 9223372036854775807) →
    ∃ l : List CallD, l.length = elems.length ∧ (∀ i (h : i < l.length), CellsAt w b (o + (k + i) * 6) l[i].cells) ∧ CallsFit l
  | [], k, _ => ⟨[], rfl, (fun i h => by cases h), noFit⟩
  | x :: elems, k, h => by
    obtain ⟨c, cs, hc, rfl, h1, h2⟩ := h 0 x rfl
    obtain ⟨_, hlen, hcell⟩ := World.cells?_some hc
    obtain ⟨l, g1, g2, g3⟩ := open_many b o elems (k + 1) (fun i y hy => by
      have := h (i + 1) y (by simpa using hy)
      rwa [show k + 1 + i = k + (i + 1) by omega])
    refine ⟨c :: l, by simp [g1], fun i hi => ?_, ⟨fun i hi => ?_, fun i hi => ?_⟩⟩
    · cases i with
      | zero =>
        intro j v hj
        have hj6 : j < 6 := (List.getElem?_eq_some_iff.1 hj).1
        have := hcell j hj6
        rw [Addr.add_lit, Addr.add_lit] at this
        exact this.trans hj
      | succ i =>
        have := g2 i (Nat.lt_of_succ_lt_succ hi)
        rwa [show k + 1 + i = k + (i + 1) by omega] at this
    · cases i with
      | zero => exact h1
      | succ i => exact g3.start i (Nat.lt_of_succ_lt_succ hi)
    · cases i with
      | zero => exact h2
      | succ i => exact g3.n i (Nat.lt_of_succ_lt_succ hi)

/-- An argument of the type []Call. -/
theorem open_calls {ca : Option Addr} {cn cc : Nat} {d : DataW H} {ps : List MemPlace} (h : DataW.Trod enc Try.prog w 0 sp hd 32 (.slice ca cn cc) d ps) : ∃ l : List CallD, l.length = cn ∧ CallsAt w ca l ∧ CallsFit l ∧ cn ≤ Rows.uptoBulk d := by
  obtain ⟨fuel, hf⟩ := h
  rcases DataW.trod_slice Try.underlying32 hf with ⟨hcs, hx⟩ | ⟨a, len, cap, elems, rest, m, hm, hcs, hx, hb, hle, hcm, hel, hall, _, _⟩
  · simp [Value.cells] at hcs
    obtain ⟨rfl, rfl, rfl⟩ := hcs
    exact ⟨[], rfl, .inl rfl, noFit, Nat.zero_le _⟩
  · simp [Value.cells] at hcs
    obtain ⟨rfl, rfl, rfl⟩ := hcs
    rw [cells_call] at hall
    have each : ∀ (i : Nat) (x : DataW H × List MemPlace), elems[i]? = some x → ∃ (c : CallD) (cs : List Value), w.cells? 0 (a.add ((0 + i) * 6)) 6 = some cs ∧ cs = c.cells ∧ c.start ≤ 9223372036854775807 ∧ c.n ≤ 9223372036854775807 := by
      intro i y hy
      have hil : i < cn := by rw [← hel]; exact (List.getElem?_eq_some_iff.1 hy).1
      have hh := hall i hil
      rw [hy] at hh
      obtain ⟨cs', g1, g2⟩ := Option.bind_eq_some_iff.1 hh
      obtain ⟨c, g3, g4⟩ := open_call g2
      exact ⟨c, cs', by rw [Nat.zero_add]; exact g1, g3, g4⟩
    have hbulk : cn ≤ Rows.uptoBulk d := by
      simp only [Prod.mk.injEq] at hx
      rw [hx.1]
      have h1 := bulk_all (elems.map (·.1))
      rw [List.length_map, hel] at h1
      simp only [Rows.uptoBulk]
      omega
    rcases Nat.eq_zero_or_pos cn with h0 | h0
    · subst h0
      exact ⟨[], rfl, .inl rfl, noFit, Nat.zero_le _⟩
    · obtain ⟨c, cs, hc, rfl, _⟩ := each 0 _ (List.getElem?_eq_getElem (by omega))
      obtain ⟨_, hlen, hcell⟩ := World.cells?_some hc
      have hc0 := hcell 0 (by omega)
      have hsp : a.spot = none := by
        have hx : c.cells[0]? = some (.int .i64 c.op) := rfl
        rw [hx] at hc0
        simpa [Addr.add] using World.cell?_spot hc0
      have hlt : a.block < w.heap.size := by
        have hx : c.cells[0]? = some (.int .i64 c.op) := rfl
        rw [hx] at hc0
        rcases Nat.lt_or_ge a.block w.heap.size with h1 | h1
        · exact h1
        · simp [World.cell?, Addr.add, Array.getElem?_eq_none h1] at hc0
      obtain ⟨b, o, spt⟩ := a
      simp only at hsp hlt
      subst hsp
      obtain ⟨l, g1, g2, g3⟩ := open_many b o elems 0 each
      refine ⟨l, by rw [g1, hel], .inr ⟨b, o, rfl, hlt, fun i hi => ?_⟩, g3, hbulk⟩
      have := g2 i hi
      rwa [Nat.zero_add] at this
end
end Go.Proofs.Ytnncbbfbnccnbaa
