/- From what the statement gives of an argument to the program and the string: what is read as data of the type ReProg is a list of instructions in the memory. -/
import Derived.Test.YtjjhdddlbgdkeaaDoorRows
import Derived.Test.YtjjhdddlbgdkeaaDoorG22
import Derived.WalkKit
import Derived.ProofKit
import Derived.OpenShut
import Derived.JoinedCond
import Derived.Carry
import Derived.ChangeArms
import Derived.Test.YtjjhdddlbgdkeaaDoorCards
import Derived.Test.YtjjhdddlbgdkeaaDoorTie
import Derived.Lib.LaidTab
import Derived.Deep.DeepHandedRow
namespace Go.Proofs.YtjjhdddlbgdkeaaDoor
open Go.ChangeShapes Go.WideShapes Go.ChangeAt Go.RowKit
set_option linter.unusedVariables false

theorem ownKnobQ : ownKnob Tryd.prog.godebug = none := by kernel_rfl
theorem laidOutQ : laidOutB Tryd.prog = true := by kernel_rfl
theorem cells_instQ : Tryd.prog.cellsOf 35 = 7 := by kernel_rfl
theorem cells_progQ : Tryd.prog.cellsOf 24 = 2 := by kernel_rfl
theorem cells_csQ : Tryd.prog.cellsOf 33 = 4 := by kernel_rfl
theorem cells_a4Q : Tryd.prog.cellsOf 31 = 4 := by kernel_rfl
theorem cells_oneQ : Tryd.prog.cellsOf 3 = 1 ∧ Tryd.prog.cellsOf 30 = 1 ∧ Tryd.prog.cellsOf 4 = 1 ∧ Tryd.prog.cellsOf 22 = 1 := by refine ⟨?_, ?_, ?_, ?_⟩ <;> kernel_rfl
theorem bulk_oneQ {H : Type} (d : DataW H) : 1 ≤ Rows.uptoBulk d := by
  cases d with
  | lit l => cases l <;> simp [Rows.uptoBulk]
  | nil => simp [Rows.uptoBulk]
  | ptr d => simp [Rows.uptoBulk]
  | slice elems spare => simp [Rows.uptoBulk]
  | agg parts => simp [Rows.uptoBulk]
  | iface t d => simp [Rows.uptoBulk]
  | map entries => simp [Rows.uptoBulk]
  | held h => simp [Rows.uptoBulk]
theorem bulk_allQ {H : Type} : ∀ (l : List (DataW H)), l.length ≤ Rows.uptoBulkAll l
  | [] => by simp [Rows.uptoBulkAll]
  | d :: l => by
    have h1 := bulk_oneQ d
    have h2 := bulk_allQ l
    simp only [Rows.uptoBulkAll, List.length_cons]
    omega

section
variable {H : Type} {enc : TypeId × Value → H} {w : World} {sp : Nat → Bool} {hd : Bool}
theorem open_i64Q {fuel : Nat} {cs : List Value} {x : DataW H × List MemPlace} (h : DataW.trod enc Tryd.prog w 0 sp hd fuel 3 cs = some x) : ∃ n, cs = [.int .i64 n] ∧ I64 n := by
  obtain ⟨n, rfl, rfl, hw⟩ := DataW.trod_int Tryd.underlying3 h
  refine ⟨n, rfl, ?_⟩
  have e1 : IntKind.i64.min = -9223372036854775808 := rfl
  have e2 : IntKind.i64.max = 9223372036854775807 := rfl
  simpa [Lit.wf, e1, e2, I64] using hw
theorem open_u64Q {fuel : Nat} {cs : List Value} {x : DataW H × List MemPlace} (h : DataW.trod enc Tryd.prog w 0 sp hd fuel 30 cs = some x) : ∃ n : Nat, cs = [.int .u64 n] ∧ W64 n := by
  obtain ⟨n, rfl, rfl, hw⟩ := DataW.trod_int Tryd.underlying30 h
  have e1 : IntKind.u64.min = 0 := rfl
  have e2 : IntKind.u64.max = 18446744073709551615 := rfl
  have hw2 : 0 ≤ n ∧ n ≤ 18446744073709551615 := by simpa [Lit.wf, e1, e2] using hw
  refine ⟨n.toNat, by rw [Int.toNat_of_nonneg hw2.1], by unfold W64; omega⟩
theorem open_csQ {fuel : Nat} {c0 c1 c2 c3 : Value} {x : DataW H × List MemPlace} (h : DataW.trod enc Tryd.prog w 0 sp hd fuel 33 [c0, c1, c2, c3] = some x) : ∃ s : Cs, s.wf ∧ [c0, c1, c2, c3] = s.cells := by
  obtain ⟨ys, n, _, rfl, hl, hlen, hf⟩ := DataW.trod_struct Tryd.underlying33 h
  match ys, hlen with
  | [y0], _ =>
    have h0 : DataW.trod enc Tryd.prog w 0 sp hd n 31 (([c0, c1, c2, c3].drop 0).take (Tryd.prog.cellsOf 31)) = [y0][0]? := hf 0 _ rfl
    rw [cells_a4Q] at h0
    simp at h0
    obtain ⟨zs, m, _, rfl, hl2, hlen2, hf2⟩ := DataW.trod_array Tryd.underlying31 h0
    match zs, hlen2 with
    | [z0, z1, z2, z3], _ =>
      have g0 := hf2 0 (by omega)
      have g1 := hf2 1 (by omega)
      have g2 := hf2 2 (by omega)
      have g3 := hf2 3 (by omega)
      simp only [cells_oneQ.2.1] at g0 g1 g2 g3
      simp at g0 g1 g2 g3
      obtain ⟨a, ha, wa⟩ := open_u64Q g0
      obtain ⟨b, hb, wb⟩ := open_u64Q g1
      obtain ⟨c, hc, wc⟩ := open_u64Q g2
      obtain ⟨d, hd, wd⟩ := open_u64Q g3
      injection ha with ha
      injection hb with hb
      injection hc with hc
      injection hd with hd
      subst ha hb hc hd
      exact ⟨⟨a, b, c, d⟩, ⟨wa, wb, wc, wd⟩, rfl⟩
/-- An argument of the type Charset. -/
theorem open_csv {v : Value} {d : DataW H} {ps : List MemPlace} (h : DataW.Trod enc Tryd.prog w 0 sp hd 33 v d ps) : ∃ s : Cs, s.wf ∧ v = .agg #[.int .u64 s.a, .int .u64 s.b, .int .u64 s.c, .int .u64 s.d] := by
  obtain ⟨fuel, hf⟩ := h
  obtain ⟨ys, n, _, _, hl, hlen, hf2⟩ := DataW.trod_struct Tryd.underlying33 hf
  rw [cells_csQ] at hl
  match hc : v.cells.toList, hl with
  | [c0, c1, c2, c3], _ =>
    rw [hc] at hf
    obtain ⟨s, hs, he⟩ := open_csQ hf
    refine ⟨s, hs, ?_⟩
    rw [he] at hc
    cases v <;> simp [Value.cells, Cs.cells] at hc ⊢
    rename_i arr
    obtain ⟨l⟩ := arr
    simpa using hc
set_option maxRecDepth 100000 in
theorem open_inst {fuel : Nat} {cs : List Value} {x : DataW H × List MemPlace} (h : DataW.trod enc Tryd.prog w 0 sp hd fuel 35 cs = some x) : ∃ f : Inst, cs = f.cells ∧ f.set.wf ∧ I64 f.op ∧ I64 f.x ∧ I64 f.y := by
  obtain ⟨ys, n, hfu, rfl, hl, hlen, hf⟩ := DataW.trod_struct Tryd.underlying35 h
  rw [cells_instQ] at hl
  match cs, hl with
  | [c0, c1, c2, c3, c4, c5, c6], _ =>
  match ys, hlen with
  | [y0, y1, y2, y3], _ =>
    have h0 : DataW.trod enc Tryd.prog w 0 sp hd n 3 (([c0, c1, c2, c3, c4, c5, c6].drop 0).take (Tryd.prog.cellsOf 3)) = [y0, y1, y2, y3][0]? := hf 0 _ rfl
    have h1 : DataW.trod enc Tryd.prog w 0 sp hd n 33 (([c0, c1, c2, c3, c4, c5, c6].drop 1).take (Tryd.prog.cellsOf 33)) = [y0, y1, y2, y3][1]? := hf 1 _ rfl
    have h2 : DataW.trod enc Tryd.prog w 0 sp hd n 3 (([c0, c1, c2, c3, c4, c5, c6].drop 5).take (Tryd.prog.cellsOf 3)) = [y0, y1, y2, y3][2]? := hf 2 _ rfl
    have h3 : DataW.trod enc Tryd.prog w 0 sp hd n 3 (([c0, c1, c2, c3, c4, c5, c6].drop 6).take (Tryd.prog.cellsOf 3)) = [y0, y1, y2, y3][3]? := hf 3 _ rfl
    rw [cells_oneQ.1] at h0 h2 h3
    rw [cells_csQ] at h1
    simp at h0 h1 h2 h3
    obtain ⟨op, e0, w0⟩ := open_i64Q h0
    obtain ⟨s, ws, es⟩ := open_csQ h1
    obtain ⟨x, e2, w2⟩ := open_i64Q h2
    obtain ⟨y, e3, w3⟩ := open_i64Q h3
    injection e0 with e0
    injection e2 with e2
    injection e3 with e3
    subst e0 e2 e3
    unfold Cs.cells at es
    injection es with e10 es
    injection es with e11 es
    injection es with e12 es
    injection es with e13 es
    subst e10 e11 e12 e13
    exact ⟨⟨op, s, x, y⟩, rfl, ws, w0, w2, w3⟩

structure Fits (L : List Inst) : Prop where
  wf : ∀ k (h : k < L.length), L[k].set.wf
  i64 : ∀ k (h : k < L.length), I64 L[k].op ∧ I64 L[k].x ∧ I64 L[k].y
theorem open_insts (b o : Nat) : ∀ (elems : List (DataW H × List MemPlace)) (k : Nat), (∀ (i : Nat) (x : DataW H × List MemPlace), elems[i]? = some x → ∃ (f : Inst) (cs : List Value), w.cells? 0 ((⟨b, o, none⟩ : Addr).add ((k + i) * 7)) 7 = some cs ∧ cs = f.cells ∧ f.set.wf ∧ I64 f.op ∧ I64 f.x ∧ I64 f.y) →
    ∃ L : List Inst, L.length = elems.length ∧ (∀ i (h : i < L.length), CellsAt w b (o + (k + i) * 7) L[i].cells) ∧ Fits L
  | [], k, _ => ⟨[], rfl, (fun i h => by cases h), ⟨(fun i h => by cases h), (fun i h => by cases h)⟩⟩
  | x :: elems, k, h => by
    obtain ⟨f, cs, hc, rfl, h1, h2⟩ := h 0 x rfl
    obtain ⟨_, hlen, hcell⟩ := World.cells?_some hc
    obtain ⟨l, g1, g2, g3⟩ := open_insts b o elems (k + 1) (fun i y hy => by
      have := h (i + 1) y (by simpa using hy)
      rwa [show k + 1 + i = k + (i + 1) by omega])
    refine ⟨f :: l, by simp [g1], fun i hi => ?_, ⟨fun i hi => ?_, fun i hi => ?_⟩⟩
    · cases i with
      | zero =>
        intro j v hj
        have hj7 : j < 7 := (List.getElem?_eq_some_iff.1 hj).1
        have := hcell j hj7
        rw [Addr.add_lit, Addr.add_lit] at this
        exact this.trans hj
      | succ i =>
        have := g2 i (Nat.lt_of_succ_lt_succ hi)
        rwa [show k + 1 + i = k + (i + 1) by omega] at this
    · cases i with
      | zero => exact h1
      | succ i => exact g3.wf i (Nat.lt_of_succ_lt_succ hi)
    · cases i with
      | zero => exact h2
      | succ i => exact g3.i64 i (Nat.lt_of_succ_lt_succ hi)

/-- An argument of the type ReProg. -/
theorem open_prog {v : Value} {d : DataW H} {ps : List MemPlace} (h : DataW.Trod enc Tryd.prog w 0 sp hd 24 v d ps) : ∃ (a : Option Addr) (c : Nat) (L : List Inst) (lines : Bool), v = .agg #[.slice a L.length c, .bool lines] ∧ InsAt w a L ∧ Fits L ∧ L.length ≤ Rows.uptoBulk d := by
  obtain ⟨fuel, hf⟩ := h
  obtain ⟨ys, n, hfu, hd0, hl, hlen, hf⟩ := DataW.trod_struct Tryd.underlying24 hf
  rw [cells_progQ] at hl
  match hc : v.cells.toList, hl with
  | [c0, c1], _ =>
  rw [hc] at hf
  match ys, hlen with
  | [y0, y1], _ =>
    have h0 : DataW.trod enc Tryd.prog w 0 sp hd n 22 (([c0, c1].drop 0).take (Tryd.prog.cellsOf 22)) = [y0, y1][0]? := hf 0 _ rfl
    have h1 : DataW.trod enc Tryd.prog w 0 sp hd n 4 (([c0, c1].drop 1).take (Tryd.prog.cellsOf 4)) = [y0, y1][1]? := hf 1 _ rfl
    rw [cells_oneQ.2.2.2] at h0
    rw [cells_oneQ.2.2.1] at h1
    simp at h0 h1
    obtain ⟨lines, e1, -⟩ := DataW.trod_bool Tryd.underlying4 h1
    injection e1 with e1
    subst e1
    have hv : ∀ (x : Value), v.cells.toList = [x, .bool lines] → v = .agg #[x, .bool lines] := by
      intro x hx
      cases v <;> simp [Value.cells] at hx ⊢
      rename_i arr
      obtain ⟨l⟩ := arr
      simpa using hx
    have hbd : Rows.uptoBulk y0.1 ≤ Rows.uptoBulk d := by
      simp only [Prod.mk.injEq] at hd0
      rw [hd0.1]
      simp only [Rows.uptoBulk, Rows.uptoBulkAll, List.map_cons]
      omega
    rcases DataW.trod_slice Tryd.underlying22 h0 with ⟨hcs, hx⟩ | ⟨a, len, cap, elems, rest, m, hm, hcs, hx, hb, hle, hcm, hel, hall, _, _⟩
    · injection hcs with hcs
      subst hcs
      exact ⟨none, 0, [], lines, hv _ hc, .inl rfl, ⟨(fun i h => by cases h), (fun i h => by cases h)⟩, Nat.zero_le _⟩
    · injection hcs with hcs
      subst hcs
      rw [cells_instQ] at hall
      have each : ∀ (i : Nat) (x : DataW H × List MemPlace), elems[i]? = some x → ∃ (f : Inst) (cs : List Value), w.cells? 0 (a.add ((0 + i) * 7)) 7 = some cs ∧ cs = f.cells ∧ f.set.wf ∧ I64 f.op ∧ I64 f.x ∧ I64 f.y := by
        intro i y hy
        have hil : i < len := by rw [← hel]; exact (List.getElem?_eq_some_iff.1 hy).1
        have hh := hall i hil
        rw [hy] at hh
        obtain ⟨cs', g1, g2⟩ := Option.bind_eq_some_iff.1 hh
        obtain ⟨c, g3, g4⟩ := open_inst g2
        exact ⟨c, cs', by rw [Nat.zero_add]; exact g1, g3, g4⟩
      have hbulk : len ≤ Rows.uptoBulk d := by
        refine Nat.le_trans ?_ hbd
        rw [hx]
        have h1 := bulk_allQ (elems.map (·.1))
        rw [List.length_map, hel] at h1
        simp only [Rows.uptoBulk]
        omega
      rcases Nat.eq_zero_or_pos len with h0 | h0
      · subst h0
        exact ⟨some a, cap, [], lines, hv _ hc, .inl rfl, ⟨(fun i h => by cases h), (fun i h => by cases h)⟩, Nat.zero_le _⟩
      · obtain ⟨f, cs, hcf, rfl, _⟩ := each 0 _ (List.getElem?_eq_getElem (by omega))
        obtain ⟨_, hlen, hcell⟩ := World.cells?_some hcf
        have hc0 := hcell 0 (by omega)
        have hsp : a.spot = none := by
          have hx : f.cells[0]? = some (.int .i64 f.op) := rfl
          rw [hx] at hc0
          simpa [Addr.add] using World.cell?_spot hc0
        have hlt : a.block < w.heap.size := by
          have hx : f.cells[0]? = some (.int .i64 f.op) := rfl
          rw [hx] at hc0
          rcases Nat.lt_or_ge a.block w.heap.size with h1 | h1
          · exact h1
          · simp [World.cell?, Addr.add, Array.getElem?_eq_none h1] at hc0
        obtain ⟨b, o, spt⟩ := a
        simp only at hsp hlt
        subst hsp
        obtain ⟨L, g1, g2, g3⟩ := open_insts b o elems 0 each
        have hLl : L.length = len := by rw [g1, hel]
        refine ⟨some ⟨b, o, none⟩, cap, L, lines, by rw [hLl]; exact hv _ hc, .inr ⟨b, o, rfl, hlt, fun i hi => ?_⟩, g3, by omega⟩
        have := g2 i hi
        rwa [Nat.zero_add] at this
/-- A string that is given. -/
theorem open_str {s : ByteArray} {d : DataW H} {ps : List MemPlace} (h : DataW.Trod enc Tryd.prog w 0 sp hd 9 (.string s) d ps) : s.size ≤ Rows.uptoBulk d := by
  obtain ⟨fuel, hf⟩ := h
  obtain ⟨s', hc, hx, -⟩ := DataW.trod_string Tryd.underlying9 hf
  have e : s' = s := by simpa [Value.cells] using hc.symm
  subst e
  simp only [Prod.mk.injEq] at hx
  rw [hx.1]
  simp only [Rows.uptoBulk]
  have : s'.data.toList.length = s'.size := by rw [Array.length_toList]; rfl
  omega
end
end Go.Proofs.YtjjhdddlbgdkeaaDoor

/- What the row's list gives: the tables that the printing reads. -/
namespace Go.Proofs.YtjjhdddlbgdkeaaDoor
open Go.ChangeShapes Go.WideShapes Go.ChangeAt Go.RowKit
set_option linter.unusedVariables false

theorem gPow : Tryd.prog.globalNamed "internal/strconv.uint64pow10" = some 1 := by kernel_rfl
theorem gPowType : (Tryd.prog.globals[1]?).map (·.type) = some 97 := by kernel_rfl
theorem gNames : Tryd.prog.globalNamed "texttools/reprog.names" = some 0 := by kernel_rfl
theorem gNamesType : (Tryd.prog.globals[0]?).map (·.type) = some 46 := by kernel_rfl
theorem cells_tabs : Tryd.prog.cellsOf 97 = 20 ∧ Tryd.prog.cellsOf 46 = 7 ∧ Tryd.prog.cellsOf 30 = 1 ∧ Tryd.prog.cellsOf 9 = 1 := by refine ⟨?_, ?_, ?_, ?_⟩ <;> kernel_rfl

/-- An array of strings that reads as these words holds them. -/
theorem cells_of_words {H : Type} {enc : TypeId × Value → H} {P : Program} {w : World} {base : Nat} {sp : Nat → Bool} {held : Bool} {fuel : Nat} {t e : TypeId} {n : Nat} {cs : List Value} {ws : List (List UInt8)} {p : List MemPlace}
    (ht : P.underlying t = some (.array n e)) (he : P.underlying e = some .string) (hce : P.cellsOf e = 1) (hct : P.cellsOf t = n)
    (h : DataW.trod enc P w base sp held fuel t cs = some (.agg (ws.map fun s => .lit (.string s)), p)) : cs = ws.map fun s => Value.string ⟨s.toArray⟩ := by
  obtain ⟨xs, m, rfl, hx, hl, hxl, hf⟩ := DataW.trod_array ht h
  rw [hct] at hl
  simp only [Prod.mk.injEq, DataW.agg.injEq] at hx
  have hwl : ws.length = n := by
    have := congrArg List.length hx.1
    simp at this
    omega
  apply List.ext_getElem?
  intro i
  by_cases hi : i < n
  · have h1 := hf i hi
    rw [hce, Nat.mul_one] at h1
    have h2 : xs[i]? = some (xs[i]'(by omega)) := List.getElem?_eq_getElem _
    rw [h2] at h1
    obtain ⟨s, hc, hy, _⟩ := DataW.trod_string he h1
    have h3 : cs[i]? = some (.string s) := by
      have := congrArg (·[0]?) hc
      simpa [List.getElem?_take, List.getElem?_drop] using this
    have h4 : (xs.map (·.1))[i]? = some (DataW.lit (.string s.data.toList)) := by
      rw [List.getElem?_map, h2, hy]
      rfl
    rw [← hx.1] at h4
    simp only [List.getElem?_map, Option.map_eq_some_iff, DataW.lit.injEq, Lit.string.injEq] at h4
    obtain ⟨z, hz, rfl⟩ := h4
    rw [h3, List.getElem?_map, hz]
    rfl
  · rw [List.getElem?_eq_none (by omega), List.getElem?_eq_none (by simp; omega)]

/-- The row's list, in its order. -/
def theLaid {H : Type} : List (String × DataW H) := [("math/bits.deBruijn32tab", Rows.laid_math_bits_deBruijn32tab), ("math/bits.deBruijn64tab", Rows.laid_math_bits_deBruijn64tab), ("internal/strconv.uint64pow10", Rows.laid_internal_strconv_uint64pow10), ("texttools/reprog.names", Rows.laid_texttools_reprog_names)]
theorem tabs_of_laid {W : World} (h : laidMetH Tryd.prog theLaid W) : Tabs W ∧ 2 ≤ W.heap.size := by
  have h2 : laidMet Tryd.prog theLaid W := h
  obtain ⟨ps, hv, -, -⟩ := h2
  obtain ⟨_, _, _, _, _, q1, _, _, _, _, hv, _⟩ := hv
  obtain ⟨_, _, _, _, _, q2, _, _, _, _, hv, _⟩ := hv
  obtain ⟨g, t, cs, fuel, _, q3, hg, ht, hvar, hd, hv, _⟩ := hv
  obtain ⟨g', t', cs', fuel', _, q4, hg', ht', hvar', hd', hv, _⟩ := hv
  obtain rfl := Option.some.inj (gPow.symm.trans hg)
  obtain rfl := Option.some.inj (gPowType.symm.trans ht)
  obtain rfl := Option.some.inj (gNames.symm.trans hg')
  obtain rfl := Option.some.inj (gNamesType.symm.trans ht')
  have e1 : cs.toList = Lib.pow10Tab.map fun z => Value.int .u64 z := Lib.cells_of_tab (H := Unit) Tryd.underlying97 Tryd.underlying30 cells_tabs.2.2.1 cells_tabs.1 hd
  have e2 : cs'.toList = nameVals := cells_of_words (ws := [[], [115, 101, 116], [115, 112, 108, 105, 116], [106, 117, 109, 112], [98, 101, 103, 105, 110], [101, 110, 100], [109, 97, 116, 99, 104]]) Tryd.underlying46 Tryd.underlying9 cells_tabs.2.2.2 cells_tabs.2.1 hd'
  refine ⟨⟨?_, ?_⟩, ?_⟩
  · unfold Lib.TabIs
    rw [hvar, ← e1]
  · rw [hvar', ← e2]
  · unfold World.var? at hvar
    rw [gPow] at hvar
    simp only [Option.bind_some] at hvar
    rcases Nat.lt_or_ge 1 W.heap.size with h | h
    · exact h
    · rw [Array.getElem?_eq_none h] at hvar
      cases hvar

/-- A world for the witness: the settled one, the four tables as their initialisers lay them. -/
def setCells (cs : Array Value) : Obj → Obj
  | .cells _ t frozen => .cells cs t frozen
  | o => o
def ofLits (l : List (DataW Unit)) : Array Value := (l.map fun d => match d with
  | .lit (.int k z) => Value.int k z
  | .lit (.string s) => .string ⟨s.toArray⟩
  | _ => .bool false).toArray
def partsOf : DataW Unit → List (DataW Unit)
  | .agg l => l
  | _ => []
noncomputable def laidWorld (os : Os) : World :=
  { World.holding Tryd.prog os ⟨#[], #[], []⟩ with heap := ((((World.holding Tryd.prog os ⟨#[], #[], []⟩).heap.modify 0 (setCells (ofLits (partsOf Rows.laid_texttools_reprog_names)))).modify 1 (setCells (ofLits (partsOf Rows.laid_internal_strconv_uint64pow10)))).modify 2 (setCells (ofLits (partsOf Rows.laid_math_bits_deBruijn32tab)))).modify 3 (setCells (ofLits (partsOf Rows.laid_math_bits_deBruijn64tab))) }
set_option maxRecDepth 100000 in
theorem laid_met (os : Os) (args : Array Value) : laidMet Tryd.prog theLaid ((laidWorld os).forCall (fun _ _ => 0) ⟨#[], args, []⟩).memory :=
  laidMet_of_run' 8 (by kernel_rfl) (by kernel_rfl)
end Go.Proofs.YtjjhdddlbgdkeaaDoor
