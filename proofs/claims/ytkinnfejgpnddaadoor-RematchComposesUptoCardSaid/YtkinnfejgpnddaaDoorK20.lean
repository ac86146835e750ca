/- The order of parses, plainly: they are sorted by their ends, no two are equal, and the spans of groups lie within them. -/
import Derived.Test.YtkinnfejgpnddaaDoorK18
import Derived.Test.YtkinnfejgpnddaaDoorCards
import Derived.Test.YtkinnfejgpnddaaDoorTie
import Derived.Test.YtkinnfejgpnddaaDoorK04
import Derived.Lib.LaidTab
import Derived.Deep.DeepHandedRow
import Derived.Test.YtkinnfejgpnddaaDoorRows
import Derived.Test.YtkinnfejgpnddaaDoorK02
import Derived.WalkKit
import Derived.ProofKit
import Derived.OpenShut
import Derived.JoinedCond
import Derived.Carry
import Derived.ChangeArms
import Derived.Test.YtkinnfejgpnddaaDoorK03
namespace Go.Proofs.YtkinnfejgpnddaaDoor
open Go.RowKit

/-- Sorted, and no two equal. -/
def Neat (l : List Parse) : Prop := l.Pairwise (fun x y => y.1 ≤ x.1) ∧ l.Nodup
theorem Neat.nil : Neat [] := ⟨by simp, by simp⟩
theorem Neat.one (q : Parse) : Neat [q] := ⟨by simp, by simp⟩
theorem fin_neat {L : Nat} {l m : List Parse} (h : fin L l = some m) : Neat m := by
  unfold fin at h
  split at h
  · cases h
  · have := Option.some.inj h; subst this
    refine ⟨sortP_desc _ _, ?_⟩
    rw [← nub_sortP]
    exact nub_nodup _
theorem parses_neat {s : List UInt8} {lines : Bool} : ∀ {t : Re} {i : Nat} {sp : Spans} {l : List Parse}, parses s lines t i sp = some l → Neat l
  | .mk p xs, i, sp, l, h => by
    rw [parses] at h
    split at h
    · have := Option.some.inj h; subst this; exact .one _
    split at h
    · have := Option.some.inj h; subst this
      split
      · exact .one _
      · exact .nil
    split at h
    · obtain ⟨m, h1, h2⟩ := Option.bind_eq_some_iff.1 h; exact fin_neat h2
    split at h
    · obtain ⟨m, h1, h2⟩ := Option.bind_eq_some_iff.1 h; exact fin_neat h2
    split at h
    · obtain ⟨m, h1, h2⟩ := Option.bind_eq_some_iff.1 h; exact fin_neat h2
    split at h
    · obtain ⟨m, h1, h2⟩ := Option.bind_eq_some_iff.1 h; exact fin_neat h2
    split at h
    · have := Option.some.inj h; subst this
      split
      · exact .one _
      · exact .nil
    split at h
    · have := Option.some.inj h; subst this
      split
      · exact .one _
      · exact .nil
    · have := Option.some.inj h; subst this
      split
      · exact .one _
      · exact .nil
/-- A parse from i on, its spans between i0 and its end. -/
def PIn (i0 i : Nat) (q : Parse) : Prop := i ≤ q.1 ∧ ∀ x, x ∈ q.2 → x = (-1, -1) ∨ (i0 : Int) ≤ x.1 ∧ x.1 ≤ x.2 ∧ x.2 ≤ q.1
theorem PIn.put {i0 i j k : Nat} {sp : Spans} (g : Nat) (h : PIn i0 i (k, sp)) (h1 : i0 ≤ j) (h2 : j ≤ k) : PIn i0 i (k, sp.set g ((j : Int), (k : Int))) := by
  refine ⟨h.1, fun x hx => ?_⟩
  rcases List.mem_or_eq_of_mem_set hx with hx | rfl
  · exact h.2 x hx
  · exact .inr ⟨by simpa using h1, by simpa using h2, by simp⟩
theorem PIn.unset {i0 i j : Nat} (gs : List Nat) : ∀ {sp : Spans}, PIn i0 i (j, sp) → PIn i0 i (j, unset sp gs) := by
  induction gs with
  | nil => intro sp h; exact h
  | cons g gs ih =>
    intro sp h
    refine ih (sp := sp.set (g - 1) (-1, -1)) ⟨h.1, fun x hx => ?_⟩
    rcases List.mem_or_eq_of_mem_set hx with hx | rfl
    · exact h.2 x hx
    · exact .inl rfl
theorem PIn.on {i0 i j : Nat} {q : Parse} (h : PIn i0 j q) (hij : i ≤ j) : PIn i0 i q := ⟨Nat.le_trans hij h.1, h.2⟩
theorem PIn.at {i0 i : Nat} {q : Parse} (h : PIn i0 i q) : PIn i0 q.1 q := ⟨Nat.le_refl _, h.2⟩
theorem PIn.grow {i0 i k : Nat} {sp : Spans} (h : PIn i0 i (i, sp)) (hk : i ≤ k) : PIn i0 i (k, sp) :=
  ⟨hk, fun x hx => (h.2 x hx).imp id fun h => ⟨h.1, h.2.1, by have := h.2.2; dsimp only at *; omega⟩⟩
section
variable (s : List UInt8) (lines : Bool) (N i0 : Nat)
mutual
theorem parses_in : ∀ (t : Re) (i : Nat) (sp : Spans) (l : List Parse), i0 ≤ i → PIn i0 i (i, sp) → parses s lines t i sp = some l → ∀ q, q ∈ l → PIn i0 i q
  | .mk p xs, i, sp, l, hi, h0, h => by
    rw [parses] at h
    split at h
    · have := Option.some.inj h; subst this; intro q hq; have := List.mem_singleton.1 hq; subst this; exact h0
    split at h
    · have := Option.some.inj h; subst this
      intro q hq
      split at hq
      · have := List.mem_singleton.1 hq; subst this
        exact h0.grow (by omega)
      · cases hq
    split at h
    · rw [Option.bind_eq_some_iff] at h
      obtain ⟨m, h1, h2⟩ := h
      intro q hq
      exact catP_in xs [(i, sp)] m i hi (fun q hq => by have := List.mem_singleton.1 hq; subst this; exact h0) h1 q (fin_mem h2 q hq)
    split at h
    · rw [Option.bind_eq_some_iff] at h
      obtain ⟨m, h1, h2⟩ := h
      intro q hq
      exact altP_in xs i sp m hi h0 h1 q (fin_mem h2 q hq)
    split at h
    · rw [Option.bind_eq_some_iff] at h
      obtain ⟨st, h1, h2⟩ := h
      intro q hq
      have hq := fin_mem h2 q hq
      refine visit_inv (G := PIn i0 i) (fun j sp' l' hj hl q' hq' => ?_) _ _ _ st h1 h0 (fun q hq => by cases hq) q hq
      have h3 : i ≤ j := hj.1
      exact (firstP_in xs j (unset sp' (withinAll xs)) l' (by omega) (PIn.unset _ hj.at) hl q' hq').on h3
    split at h
    · rw [Option.bind_eq_some_iff] at h
      obtain ⟨m, h1, h2⟩ := h
      intro q hq
      obtain ⟨q0, hq0, rfl⟩ := List.mem_map.1 (fin_mem h2 q hq)
      have := firstP_in xs i sp m hi h0 h1 q0 hq0
      exact this.put _ hi this.1
    split at h
    · have := Option.some.inj h; subst this
      intro q hq
      split at hq
      · have := List.mem_singleton.1 hq; subst this; exact h0
      · cases hq
    split at h
    · have := Option.some.inj h; subst this
      intro q hq
      split at hq
      · have := List.mem_singleton.1 hq; subst this; exact h0
      · cases hq
    · have := Option.some.inj h; subst this
      intro q hq
      split at hq
      · have := List.mem_singleton.1 hq; subst this
        exact h0.grow (by omega)
      · cases hq
theorem firstP_in : ∀ (xs : List Re) (i : Nat) (sp : Spans) (l : List Parse), i0 ≤ i → PIn i0 i (i, sp) → firstP s lines xs i sp = some l → ∀ q, q ∈ l → PIn i0 i q
  | [], i, sp, l, _, _, h => by rw [firstP] at h; cases h
  | x :: xs, i, sp, l, hi, h0, h => by rw [firstP] at h; exact parses_in x i sp l hi h0 h
theorem altP_in : ∀ (xs : List Re) (i : Nat) (sp : Spans) (l : List Parse), i0 ≤ i → PIn i0 i (i, sp) → altP s lines xs i sp = some l → ∀ q, q ∈ l → PIn i0 i q
  | [], i, sp, l, _, _, h => by rw [altP] at h; have := Option.some.inj h; subst this; intro q hq; cases hq
  | x :: xs, i, sp, l, hi, h0, h => by
    rw [altP] at h
    simp only [Option.bind_eq_some_iff] at h
    obtain ⟨a, h1, b, h2, h3⟩ := h
    have := Option.some.inj h3; subst this
    intro q hq
    rcases List.mem_append.1 hq with hq | hq
    · exact parses_in x i sp a hi h0 h1 q hq
    · exact altP_in xs i sp b hi h0 h2 q hq
theorem catP_in : ∀ (xs : List Re) (l m : List Parse) (i : Nat), i0 ≤ i → (∀ q, q ∈ l → PIn i0 i q) → catP s lines xs l = some m → ∀ q, q ∈ m → PIn i0 i q
  | [], l, m, i, _, hl, h => by rw [catP] at h; have := Option.some.inj h; subst this; exact hl
  | x :: xs, l, m, i, hi, hl, h => by
    rw [catP] at h
    rw [Option.bind_eq_some_iff] at h
    obtain ⟨ms, h1, h2⟩ := h
    split at h2
    · cases h2
    refine catP_in xs (nub ms.flatten) m i hi (fun q hq => ?_) h2
    obtain ⟨b, hb, hqb⟩ := List.mem_flatten.1 (nub_mem.1 hq)
    refine mapM_inv (P := fun b : List Parse => ∀ q, q ∈ b → PIn i0 i q) l ms h1 (fun a b ha hf q hq => ?_) b hb q hqb
    have h3 := hl a ha
    exact (parses_in x a.1 a.2 b (Nat.le_trans hi h3.1) h3.at hf q hq).on h3.1
end
end
/-- What Parses hands out is sorted, and no two are equal. -/
theorem parsesR_neat {t : Re} {s : ByteArray} {at_ : Int} {lines : Bool} : Neat (parsesR t s at_ lines).1 := by
  unfold parsesR
  split
  · exact .nil
  · cases h : parses s.data.toList lines t at_.toNat (unsetAll t.groups) with
    | none => exact .nil
    | some l => exact parses_neat h
/-- The spans of groups lie within the parse. -/
theorem parsesR_in {t : Re} {s : ByteArray} {at_ : Int} {lines : Bool} : ∀ q, q ∈ (parsesR t s at_ lines).1 → ∀ x, x ∈ q.2 → x = (-1, -1) ∨ at_ ≤ x.1 ∧ x.1 ≤ x.2 ∧ x.2 ≤ q.1 := by
  unfold parsesR
  split
  · intro q hq; cases hq
  · rename_i h0
    obtain ⟨-, ha, -⟩ := chk_zero (Classical.byContradiction h0)
    cases h : parses s.data.toList lines t at_.toNat (unsetAll t.groups) with
    | none => intro q hq; cases hq
    | some l =>
      intro q hq x hx
      have h1 := (parses_in s.data.toList lines at_.toNat t at_.toNat (unsetAll t.groups) l (Nat.le_refl _) ⟨Nat.le_refl _, fun x hx => .inl (List.mem_replicate.1 hx).2⟩ h q hq).2 x hx
      refine h1.imp id fun h1 => ⟨by have := h1.1; omega, h1.2⟩
end Go.Proofs.YtkinnfejgpnddaaDoor

/- What the row's list gives: the tables that the matching reads. -/
namespace Go.Proofs.YtkinnfejgpnddaaDoor
open Go.ChangeShapes Go.WideShapes Go.ChangeAt Go.RowKit
set_option linter.unusedVariables false

theorem gPow : Tryd.prog.globalNamed "internal/strconv.uint64pow10" = some 1 := by kernel_rfl
theorem gPowType : (Tryd.prog.globals[1]?).map (·.type) = some 135 := by kernel_rfl
theorem gNone : Tryd.prog.globalNamed "texttools/rematch.none" = some 0 := by kernel_rfl
theorem gNoneType : (Tryd.prog.globals[0]?).map (·.type) = some 46 := by kernel_rfl
theorem gB64 : Tryd.prog.globalNamed "math/bits.deBruijn64tab" = some 3 := by kernel_rfl
theorem cells_tabs : Tryd.prog.cellsOf 135 = 20 ∧ Tryd.prog.cellsOf 22 = 1 := by refine ⟨?_, ?_⟩ <;> kernel_rfl

/-- The row's list, in its order. -/
def theLaid {H : Type} : List (String × DataW H) := [("math/bits.deBruijn32tab", Rows.laid_math_bits_deBruijn32tab), ("math/bits.deBruijn64tab", Rows.laid_math_bits_deBruijn64tab), ("internal/strconv.uint64pow10", Rows.laid_internal_strconv_uint64pow10), ("texttools/rematch.none", Rows.laid_texttools_rematch_none)]
theorem var_lt {W : World} {g : Nat} {n : String} {v : Array Value} (hg : Tryd.prog.globalNamed n = some g) (h : W.var? Tryd.prog n = some v) : g < W.heap.size := by
  unfold World.var? at h
  rw [hg] at h
  simp only [Option.bind_some] at h
  rcases Nat.lt_or_ge g W.heap.size with h9 | h9
  · exact h9
  · rw [Array.getElem?_eq_none h9] at h
    cases h
theorem var_cell9 {W : World} {n : String} {g : Nat} {cs : Array Value} (hg : Tryd.prog.globalNamed n = some g) (h : W.var? Tryd.prog n = some cs) (off : Nat) : W.cell? ⟨g, off, none⟩ = cs[off]? := by
  unfold World.var? at h
  rw [hg] at h
  simp only [Option.bind_some] at h
  unfold World.cell?
  split at h
  · rename_i cs' t' f' he
    have := Option.some.inj h
    subst this
    simp [he]
  · cases h
theorem tabs9_of_laid {W : World} (h : laidMetH Tryd.prog theLaid W) : Tabs9 W := by
  have h2 : laidMet Tryd.prog theLaid W := h
  obtain ⟨ps, hv, -, -⟩ := h2
  obtain ⟨_, _, _, _, _, q1, _, _, _, _, hv, _⟩ := hv
  obtain ⟨g3, _, _, _, _, q2, hg3, _, hvar3, _, hv, _⟩ := hv
  obtain ⟨g, t, cs, fuel, _, q3, hg, ht, hvar, hd, hv, _⟩ := hv
  obtain ⟨g', t', cs', fuel', _, q4, hg', ht', hvar', hd', hv, _⟩ := hv
  obtain rfl := Option.some.inj (gPow.symm.trans hg)
  obtain rfl := Option.some.inj (gPowType.symm.trans ht)
  obtain rfl := Option.some.inj (gNone.symm.trans hg')
  obtain rfl := Option.some.inj (gNoneType.symm.trans ht')
  have e1 : cs.toList = Lib.pow10Tab.map fun z => Value.int .u64 z := Lib.cells_of_tab (H := Unit) Tryd.underlying135 Tryd.underlying22 cells_tabs.2 cells_tabs.1 hd
  have e2 : cs'.toList = [.int .i64 (-1), .int .i64 (-1)] := by
    obtain ⟨y0, y1, n, he, hl, h0, h1⟩ := trod_struct2 Tryd.underlying46 hd'
    obtain ⟨z0, hc0, hy0, _⟩ := DataW.trod_int Tryd.underlying3 h0
    obtain ⟨z1, hc1, hy1, _⟩ := DataW.trod_int Tryd.underlying3 h1
    subst hy0; subst hy1
    have hcl : Tryd.prog.cellsOf 46 = 2 ∧ Tryd.prog.cellsOf 3 = 1 := by refine ⟨?_, ?_⟩ <;> kernel_rfl
    simp only [Prod.mk.injEq, DataW.agg.injEq, Rows.laid_texttools_rematch_none, List.cons.injEq, DataW.lit.injEq, Lit.int.injEq, true_and, and_true] at he
    obtain ⟨⟨rfl, rfl⟩, -⟩ := he
    rw [hcl.1] at hl
    have hc0' : (cs'.toList.drop 0).take (Tryd.prog.cellsOf 3) = [.int .i64 (-1)] := hc0
    have hc1' : (cs'.toList.drop 1).take (Tryd.prog.cellsOf 3) = [.int .i64 (-1)] := hc1
    rw [hcl.2] at hc0' hc1'
    generalize cs'.toList = L at hl hc0' hc1'
    match L, hl with
    | [u, v], _ => simp at hc0' hc1'; rw [hc0', hc1']
  have hn0 := fun off => var_cell9 gNone hvar' off
  have e3 : cs' = #[.int .i64 (-1), .int .i64 (-1)] := by rw [← Array.toArray_toList (xs := cs'), e2]
  obtain rfl := Option.some.inj (gB64.symm.trans hg3)
  refine ⟨?_, by rw [hn0, e3]; rfl, by rw [hn0, e3]; rfl, var_lt gB64 hvar3⟩
  unfold Lib.TabIs
  rw [hvar, ← e1]
/-- A world for the witness: the settled one, the four tables as their initialisers lay them. -/
def setCells (cs : Array Value) : Obj → Obj
  | .cells _ t frozen => .cells cs t frozen
  | o => o
def ofLits (l : List (DataW Unit)) : Array Value := (l.map fun d => match d with
  | .lit (.int k z) => Value.int k z
  | .lit (.string s) => .string ⟨s.toArray⟩
  | _ => .bool false).toArray
def partsOf : DataW Unit → List (DataW Unit)
  | .agg l => l
  | _ => []
noncomputable def laidWorld (os : Os) : World :=
  { World.holding Tryd.prog os ⟨#[], #[], []⟩ with heap := ((((World.holding Tryd.prog os ⟨#[], #[], []⟩).heap.modify 0 (setCells (ofLits (partsOf Rows.laid_texttools_rematch_none)))).modify 1 (setCells (ofLits (partsOf Rows.laid_internal_strconv_uint64pow10)))).modify 2 (setCells (ofLits (partsOf Rows.laid_math_bits_deBruijn32tab)))).modify 3 (setCells (ofLits (partsOf Rows.laid_math_bits_deBruijn64tab))) }
set_option maxRecDepth 100000 in
theorem laid_met (os : Os) (args : Array Value) : laidMet Tryd.prog theLaid ((laidWorld os).forCall (fun _ _ => 0) ⟨#[], args, []⟩).memory :=
  laidMet_of_run' 8 (by kernel_rfl) (by kernel_rfl)
end Go.Proofs.YtkinnfejgpnddaaDoor

/- From what the statement gives of an argument to the tree: what is read as data of the type Re is a tree in the memory. -/
namespace Go.Proofs.YtkinnfejgpnddaaDoor
open Go.ChangeShapes Go.WideShapes Go.ChangeAt Go.RowKit
set_option linter.unusedVariables false

theorem laidOutP : laidOutB Tryd.prog = true := by kernel_rfl
theorem cells_re : Tryd.prog.cellsOf 28 = 9 := by kernel_rfl
theorem cells_cs : Tryd.prog.cellsOf 25 = 4 := by kernel_rfl
theorem cells_a4 : Tryd.prog.cellsOf 23 = 4 := by kernel_rfl
theorem cells_u64 : Tryd.prog.cellsOf 22 = 1 := by kernel_rfl
theorem cells_int : Tryd.prog.cellsOf 3 = 1 := by kernel_rfl
theorem cells_sl : Tryd.prog.cellsOf 26 = 1 := by kernel_rfl

section
variable {H : Type} {enc : TypeId × Value → H} {w : World} {sp : Nat → Bool} {hd : Bool}

theorem open_i64 {fuel : Nat} {cs : List Value} {x : DataW H × List MemPlace} (h : DataW.trod enc Tryd.prog w 0 sp hd fuel 3 cs = some x) : ∃ n, cs = [.int .i64 n] ∧ I64 n := by
  obtain ⟨n, rfl, rfl, hw⟩ := DataW.trod_int Tryd.underlying3 h
  refine ⟨n, rfl, ?_⟩
  have e1 : IntKind.i64.min = -9223372036854775808 := rfl
  have e2 : IntKind.i64.max = 9223372036854775807 := rfl
  simpa [Lit.wf, e1, e2, I64] using hw
theorem open_u64 {fuel : Nat} {cs : List Value} {x : DataW H × List MemPlace} (h : DataW.trod enc Tryd.prog w 0 sp hd fuel 22 cs = some x) : ∃ n : Nat, cs = [.int .u64 n] ∧ W64 n := by
  obtain ⟨n, rfl, rfl, hw⟩ := DataW.trod_int Tryd.underlying22 h
  have e1 : IntKind.u64.min = 0 := rfl
  have e2 : IntKind.u64.max = 18446744073709551615 := rfl
  have hw2 : 0 ≤ n ∧ n ≤ 18446744073709551615 := by simpa [Lit.wf, e1, e2] using hw
  refine ⟨n.toNat, by rw [Int.toNat_of_nonneg hw2.1], by unfold W64; omega⟩
theorem open_cs {fuel : Nat} {c0 c1 c2 c3 : Value} {x : DataW H × List MemPlace} (h : DataW.trod enc Tryd.prog w 0 sp hd fuel 25 [c0, c1, c2, c3] = some x) : ∃ s : Cs, s.wf ∧ [c0, c1, c2, c3] = s.cells := by
  obtain ⟨ys, n, _, rfl, hl, hlen, hf⟩ := DataW.trod_struct Tryd.underlying25 h
  match ys, hlen with
  | [y0], _ =>
    have h0 : DataW.trod enc Tryd.prog w 0 sp hd n 23 (([c0, c1, c2, c3].drop 0).take (Tryd.prog.cellsOf 23)) = [y0][0]? := hf 0 _ rfl
    rw [cells_a4] at h0
    simp at h0
    obtain ⟨zs, m, _, rfl, hl2, hlen2, hf2⟩ := DataW.trod_array Tryd.underlying23 h0
    match zs, hlen2 with
    | [z0, z1, z2, z3], _ =>
      have g0 := hf2 0 (by omega)
      have g1 := hf2 1 (by omega)
      have g2 := hf2 2 (by omega)
      have g3 := hf2 3 (by omega)
      simp only [cells_u64] at g0 g1 g2 g3
      simp at g0 g1 g2 g3
      obtain ⟨a, ha, wa⟩ := open_u64 g0
      obtain ⟨b, hb, wb⟩ := open_u64 g1
      obtain ⟨c, hc, wc⟩ := open_u64 g2
      obtain ⟨d, hd, wd⟩ := open_u64 g3
      injection ha with ha
      injection hb with hb
      injection hc with hc
      injection hd with hd
      subst ha hb hc hd
      exact ⟨⟨a, b, c, d⟩, ⟨wa, wb, wc, wd⟩, rfl⟩

theorem open_kids (a : Addr) : ∀ (elems : List (DataW H × List MemPlace)) (k : Nat), (∀ (i : Nat) (x : DataW H × List MemPlace), elems[i]? = some x → ∃ (t : Re) (cs : List Value), w.cells? 0 (a.add ((k + i) * 9)) 9 = some cs ∧ t.In w cs ∧ t.size ≤ Rows.uptoBulk x.1) → (k = 0 ∨ a.spot = none) →
    ∃ xs : List Re, xs.length = elems.length ∧ Re.AllIn w xs (some a) (k * 9) ∧ Re.sizes xs ≤ Rows.uptoBulkAll (elems.map (·.1))
  | [], k, _, _ => ⟨[], rfl, by simp [Re.AllIn], by simp [Re.sizes, Re.counts, Rows.uptoBulkAll]⟩
  | x :: elems, k, h, hs => by
    obtain ⟨t, cs, hc, hin, hsz⟩ := h 0 x rfl
    obtain ⟨_, hlen, hcell⟩ := World.cells?_some hc
    have hsp : a.spot = none := by
      rcases hs with hs | hs
      · subst hs
        have h0 := hcell 0 (by omega)
        have hx : cs[0]? = some cs[0] := List.getElem?_eq_getElem (by omega)
        rw [hx] at h0
        simpa [Addr.add] using World.cell?_spot h0
      · exact hs
    obtain ⟨xs, hx1, hx2, hx3⟩ := open_kids a elems (k + 1) (fun i y hy => by
      have := h (i + 1) y (by simpa using hy)
      rwa [show k + 1 + i = k + (i + 1) by omega]) (.inr hsp)
    obtain ⟨b, o, spt⟩ := a
    simp only at hsp
    subst hsp
    refine ⟨t :: xs, by simp [hx1], ?_, ?_⟩
    · rw [Re.AllIn]
      refine ⟨⟨b, o, cs, rfl, fun j v hj => ?_, hin⟩, by rw [show k * 9 + 9 = (k + 1) * 9 by omega]; exact hx2⟩
      have hj9 : j < 9 := by
        have := (List.getElem?_eq_some_iff.1 hj).1
        omega
      have := hcell j hj9
      rw [add_plain, Addr.add_lit] at this
      rw [← hj, ← this]
      congr 2
    · have : Re.sizes (t :: xs) = t.size + Re.sizes xs := by simp [Re.sizes, Re.counts, Re.size]
      rw [this]
      simp only [List.map_cons, Rows.uptoBulkAll]
      omega

set_option maxRecDepth 100000 in
theorem open_re : ∀ (fuel : Nat) (cs : List Value) (x : DataW H × List MemPlace), DataW.trod enc Tryd.prog w 0 sp hd fuel 28 cs = some x → ∃ t : Re, t.In w cs ∧ t.size ≤ Rows.uptoBulk x.1 := by
  intro fuel
  induction fuel using Nat.strongRecOn with
  | _ fuel ih =>
    intro cs x h
    obtain ⟨ys, n, hfu, rfl, hl, hlen, hf⟩ := DataW.trod_struct Tryd.underlying28 h
    rw [cells_re] at hl
    match cs, hl with
    | [c0, c1, c2, c3, c4, c5, c6, c7, c8], _ =>
    match ys, hlen with
    | [y0, y1, y2, y3, y4, y5], _ =>
      have h0 : DataW.trod enc Tryd.prog w 0 sp hd n 3 (([c0, c1, c2, c3, c4, c5, c6, c7, c8].drop 0).take (Tryd.prog.cellsOf 3)) = [y0, y1, y2, y3, y4, y5][0]? := hf 0 _ rfl
      rw [cells_int] at h0
      simp at h0
      have h1 : DataW.trod enc Tryd.prog w 0 sp hd n 25 (([c0, c1, c2, c3, c4, c5, c6, c7, c8].drop 1).take (Tryd.prog.cellsOf 25)) = [y0, y1, y2, y3, y4, y5][1]? := hf 1 _ rfl
      rw [cells_cs] at h1
      simp at h1
      have h2 : DataW.trod enc Tryd.prog w 0 sp hd n 3 (([c0, c1, c2, c3, c4, c5, c6, c7, c8].drop 5).take (Tryd.prog.cellsOf 3)) = [y0, y1, y2, y3, y4, y5][2]? := hf 2 _ rfl
      rw [cells_int] at h2
      simp at h2
      have h3 : DataW.trod enc Tryd.prog w 0 sp hd n 3 (([c0, c1, c2, c3, c4, c5, c6, c7, c8].drop 6).take (Tryd.prog.cellsOf 3)) = [y0, y1, y2, y3, y4, y5][3]? := hf 3 _ rfl
      rw [cells_int] at h3
      simp at h3
      have h4 : DataW.trod enc Tryd.prog w 0 sp hd n 3 (([c0, c1, c2, c3, c4, c5, c6, c7, c8].drop 7).take (Tryd.prog.cellsOf 3)) = [y0, y1, y2, y3, y4, y5][4]? := hf 4 _ rfl
      rw [cells_int] at h4
      simp at h4
      have h5 : DataW.trod enc Tryd.prog w 0 sp hd n 26 (([c0, c1, c2, c3, c4, c5, c6, c7, c8].drop 8).take (Tryd.prog.cellsOf 26)) = [y0, y1, y2, y3, y4, y5][5]? := hf 5 _ rfl
      rw [cells_sl] at h5
      simp at h5
      obtain ⟨op, e0, w0⟩ := open_i64 h0
      obtain ⟨s, ws, es⟩ := open_cs h1
      obtain ⟨lo, e2, w2⟩ := open_i64 h2
      obtain ⟨hi, e3, w3⟩ := open_i64 h3
      obtain ⟨gr, e4, w4⟩ := open_i64 h4
      injection e0 with e0
      injection e2 with e2
      injection e3 with e3
      injection e4 with e4
      subst e0 e2 e3 e4
      unfold Cs.cells at es
      injection es with e10 es
      injection es with e11 es
      injection es with e12 es
      injection es with e13 es
      subst e10 e11 e12 e13
      have hwf : (⟨op, s, lo, hi, gr⟩ : Pay).wf := ⟨w0, ws, w2, w3, w4⟩
      rcases DataW.trod_slice Tryd.underlying26 h5 with ⟨hcs, hx⟩ | ⟨a, len, cap, elems, rest, m, hm, hcs, hx, hb, hle, hcm, hel, hall, _, _⟩
      · injection hcs with hcs
        subst hcs
        refine ⟨.mk ⟨op, s, lo, hi, gr⟩ [], ?_, ?_⟩
        · rw [Re.In]
          exact ⟨none, 0, rfl, hwf, Nat.le_refl _, Nat.zero_le _, fun _ => rfl, by simp [Re.AllIn]⟩
        · simp [Re.size_mk, Re.sizes, Re.counts, Rows.uptoBulk]
      · injection hcs with hcs
        subst hcs
        rw [cells_re] at hall
        obtain ⟨xs, k1, k2, k3⟩ := open_kids (w := w) a elems 0 (fun i y hy => by
          have hil : i < len := by rw [← hel]; exact (List.getElem?_eq_some_iff.1 hy).1
          have hh := hall i hil
          rw [hy] at hh
          obtain ⟨cs', g1, g2⟩ := Option.bind_eq_some_iff.1 hh
          obtain ⟨t, g3, g4⟩ := ih m (by omega) cs' y g2
          exact ⟨t, cs', by rw [Nat.zero_add]; exact g1, g3, g4⟩) (.inl rfl)
        refine ⟨.mk ⟨op, s, lo, hi, gr⟩ xs, ?_, ?_⟩
        · rw [Re.In]
          refine ⟨some a, cap, ?_, hwf, by rw [k1, hel]; exact hle, hcm, (fun e => by cases e), by simpa using k2⟩
          rw [k1, hel]
          rfl
        · rw [Re.size_mk]
          simp only [Rows.uptoBulk, Rows.uptoBulkAll, hx, List.map_cons, List.map_nil]
          omega

/-- An argument of the type Re: its value is a tree. -/
theorem open_arg {v : Value} {d : DataW H} {ps : List MemPlace} (h : DataW.Trod enc Tryd.prog w 0 sp hd 28 v d ps) : ∃ (t : Re) (cs : List Value), v = .agg cs.toArray ∧ t.In w cs ∧ t.size ≤ Rows.uptoBulk d := by
  obtain ⟨fuel, hf⟩ := h
  obtain ⟨t, h1, h2⟩ := open_re fuel _ _ hf
  refine ⟨t, v.cells.toList, ?_, h1, h2⟩
  have h9 := h1.nine
  cases v <;> simp [Value.cells] at h9 ⊢
end
end Go.Proofs.YtkinnfejgpnddaaDoor

/- An argument of layer 9's laws: a string, an offset, a flag. -/
namespace Go.Proofs.YtkinnfejgpnddaaDoor
open Go.ChangeShapes Go.WideShapes Go.ChangeAt Go.RowKit
set_option linter.unusedVariables false
theorem ownKnob9 : ownKnob Tryd.prog.godebug = none := by kernel_rfl
section
variable {H : Type} {enc : TypeId × Value → H} {w : World} {sp : Nat → Bool} {hd : Bool}
/-- An argument of the type Case. -/
theorem open_case {v : Value} {d : DataW H} {ps : List MemPlace} (h : DataW.Trod enc Tryd.prog w 0 sp hd 30 v d ps) : ∃ (s : ByteArray) (x : Int) (b : Bool), v = .agg #[.string s, .int .i64 x, .bool b] ∧ s.size ≤ Rows.uptoBulk d ∧ I64 x := by
  obtain ⟨fuel, hf⟩ := h
  have hcells : Tryd.prog.cellsOf 30 = 3 := by kernel_rfl
  have hstr : Tryd.prog.cellsOf 9 = 1 := by kernel_rfl
  have hint : Tryd.prog.cellsOf 3 = 1 := by kernel_rfl
  have hbool : Tryd.prog.cellsOf 4 = 1 := by kernel_rfl
  obtain ⟨ys, n, hfu, hd0, hl, hlen, hf⟩ := DataW.trod_struct Tryd.underlying30 hf
  rw [hcells] at hl
  match hc : v.cells.toList, hl with
  | [c0, c1, c2], _ =>
  rw [hc] at hf
  match ys, hlen with
  | [y0, y1, y2], _ =>
    have h0 : DataW.trod enc Tryd.prog w 0 sp hd n 9 (([c0, c1, c2].drop 0).take (Tryd.prog.cellsOf 9)) = [y0, y1, y2][0]? := hf 0 _ rfl
    have h1 : DataW.trod enc Tryd.prog w 0 sp hd n 3 (([c0, c1, c2].drop 1).take (Tryd.prog.cellsOf 3)) = [y0, y1, y2][1]? := hf 1 _ rfl
    have h2 : DataW.trod enc Tryd.prog w 0 sp hd n 4 (([c0, c1, c2].drop 2).take (Tryd.prog.cellsOf 4)) = [y0, y1, y2][2]? := hf 2 _ rfl
    rw [hstr] at h0
    rw [hint] at h1
    rw [hbool] at h2
    simp at h0 h1 h2
    obtain ⟨s, e0, hx, -⟩ := DataW.trod_string Tryd.underlying9 h0
    obtain ⟨x, e1, w1⟩ := open_i64 h1
    obtain ⟨b, e2, -⟩ := DataW.trod_bool Tryd.underlying4 h2
    injection e0 with e0
    injection e1 with e1
    injection e2 with e2
    subst e0 e1 e2
    refine ⟨s, x, b, ?_, ?_, w1⟩
    · cases v <;> simp [Value.cells] at hc ⊢
      rename_i arr
      obtain ⟨l⟩ := arr
      simpa using hc
    · simp only [Prod.mk.injEq] at hd0
      rw [hd0.1]
      simp only [Rows.uptoBulk, Rows.uptoBulkAll, List.map_cons]
      rw [hx]
      simp only [Rows.uptoBulk]
      have : s.data.toList.length = s.size := by rw [Array.length_toList]; rfl
      omega
end
end Go.Proofs.YtkinnfejgpnddaaDoor

/- What a repetition visits, plainly: all that can be reached. -/
namespace Go.Proofs.YtkinnfejgpnddaaDoor
open Go.RowKit

/-- The number of repetitions as the walk keeps it. -/
def clampC (p : Pay) (c : Nat) : Nat := if p.hi < 0 ∧ p.lo < (c : Int) then p.lo.toNat else c
section
variable (p : Pay) (gs : List Nat) (child : Nat → Spans → Option (List Parse))
/-- One repetition more. -/
def Nxt (v u : Sit) : Prop := (p.hi < 0 ∨ (v.1 : Int) < p.hi) ∧ ∃ l, child v.2.1 (unset v.2.2 gs) = some l ∧ ∃ q, q ∈ l ∧ ¬ (q.1 = v.2.1 ∧ p.lo ≤ (v.1 : Int)) ∧ u = (clampC p (v.1 + 1), q)
inductive Rch : Sit → Sit → Prop
  | refl (v : Sit) : Rch v v
  | step {v u z : Sit} : Nxt p gs child v u → Rch u z → Rch v z
theorem Rch.trans {v u z : Sit} (h : Rch p gs child v u) (k : Rch p gs child u z) : Rch p gs child v z := by
  induction h with
  | refl _ => exact k
  | step h _ ih => exact .step h (ih k)
/-- What a visit does. -/
structure VSpec (x : Sit) (st st' : List Sit × List Parse) : Prop where
  mono : ∀ v, v ∈ st.1 → v ∈ st'.1
  self : (clampC p x.1, x.2) ∈ st'.1
  closed : ∀ v, v ∈ st'.1 → v ∈ st.1 ∨ ∀ u, Nxt p gs child v u → u ∈ st'.1
  reach : ∀ v, v ∈ st'.1 → v ∈ st.1 ∨ Rch p gs child (clampC p x.1, x.2) v
  out : ∀ q, q ∈ st'.2 ↔ q ∈ st.2 ∨ ∃ c : Nat, (c, q) ∈ st'.1 ∧ (c, q) ∉ st.1 ∧ p.lo ≤ (c : Int)
  kid : ∀ v, v ∈ st'.1 → v ∈ st.1 ∨ ((p.hi < 0 ∨ (v.1 : Int) < p.hi) → ∃ l, child v.2.1 (unset v.2.2 gs) = some l)
theorem VSpec.done {x : Sit} {st : List Sit × List Parse} (h : (clampC p x.1, x.2) ∈ st.1) : VSpec p gs child x st st :=
  ⟨fun _ h => h, h, fun _ h => .inl h, fun _ h => .inl h, fun _ => ⟨.inl, fun h => h.elim id fun ⟨_, h1, h2, _⟩ => absurd h1 h2⟩, fun _ h => .inl h⟩
/-- What a visit of all the next ones does. -/
structure FSpec (v0 : Sit) (l : List Parse) (st st' : List Sit × List Parse) : Prop where
  mono : ∀ v, v ∈ st.1 → v ∈ st'.1
  all : ∀ q, q ∈ l → (q.1 = v0.2.1 ∧ p.lo ≤ (v0.1 : Int)) ∨ (clampC p (v0.1 + 1), q) ∈ st'.1
  closed : ∀ v, v ∈ st'.1 → v ∈ st.1 ∨ ∀ u, Nxt p gs child v u → u ∈ st'.1
  reach : ∀ v, v ∈ st'.1 → v ∈ st.1 ∨ ∃ q, q ∈ l ∧ ¬ (q.1 = v0.2.1 ∧ p.lo ≤ (v0.1 : Int)) ∧ Rch p gs child (clampC p (v0.1 + 1), q) v
  out : ∀ q, q ∈ st'.2 ↔ q ∈ st.2 ∨ ∃ c : Nat, (c, q) ∈ st'.1 ∧ (c, q) ∉ st.1 ∧ p.lo ≤ (c : Int)
  kid : ∀ v, v ∈ st'.1 → v ∈ st.1 ∨ ((p.hi < 0 ∨ (v.1 : Int) < p.hi) → ∃ l, child v.2.1 (unset v.2.2 gs) = some l)
theorem fold_spec {f : Nat} (hv : ∀ x st st', visit p gs child f x st = some st' → VSpec p gs child x st st') (c : Nat) (j : Nat) (sp : Spans) : ∀ (l : List Parse) (st st' : List Sit × List Parse),
    l.foldlM (fun st q => if q.1 = j ∧ p.lo ≤ (c : Int) then some st else visit p gs child f (c + 1, q.1, q.2) st) st = some st' → FSpec p gs child (c, j, sp) l st st'
  | [], st, st', h => by
    have := Option.some.inj h; subst this
    exact ⟨fun _ h => h, (fun _ h => by cases h), fun _ h => .inl h, fun _ h => .inl h, fun q => ⟨.inl, fun h => h.elim id fun ⟨c, h1, h2, _⟩ => absurd h1 h2⟩, fun _ h => .inl h⟩
  | a :: l, st, st', h => by
    rw [List.foldlM_cons] at h
    obtain ⟨s1, h1, h2⟩ := Option.bind_eq_some_iff.1 h
    have F := fold_spec hv c j sp l s1 st' h2
    by_cases hs : a.1 = j ∧ p.lo ≤ (c : Int)
    · rw [if_pos hs] at h1
      have := Option.some.inj h1; subst this
      refine ⟨F.mono, fun q hq => ?_, F.closed, fun v hv => (F.reach v hv).imp id fun ⟨q, h3, h4⟩ => ⟨q, List.mem_cons_of_mem _ h3, h4⟩, F.out, F.kid⟩
      rcases List.mem_cons.1 hq with rfl | hq
      · exact .inl hs
      · exact F.all q hq
    · rw [if_neg hs] at h1
      have V := hv _ _ _ h1
      refine ⟨fun v h => F.mono v (V.mono v h), fun q hq => ?_, fun v hm => ?_, fun v hm => ?_, fun q => ?_, fun v hm => (F.kid v hm).elim (V.kid v) .inr⟩
      · rcases List.mem_cons.1 hq with rfl | hq
        · exact .inr (F.mono _ V.self)
        · exact F.all q hq
      · rcases F.closed v hm with h3 | h3
        · exact (V.closed v h3).imp id fun h4 u hu => F.mono u (h4 u hu)
        · exact .inr h3
      · rcases F.reach v hm with h3 | ⟨q, h3, h4⟩
        · exact (V.reach v h3).imp id fun h4 => ⟨a, by simp, hs, h4⟩
        · exact .inr ⟨q, List.mem_cons_of_mem _ h3, h4⟩
      · rw [F.out, V.out]
        constructor
        · rintro ((h3 | ⟨k, h3, h4, h5⟩) | ⟨k, h3, h4, h5⟩)
          · exact .inl h3
          · exact .inr ⟨k, F.mono _ h3, h4, h5⟩
          · exact .inr ⟨k, h3, fun hm => h4 (V.mono _ hm), h5⟩
        · rintro (h3 | ⟨k, h3, h4, h5⟩)
          · exact .inl (.inl h3)
          · by_cases hk : (k, q) ∈ s1.1
            · exact .inl (.inr ⟨k, hk, h4, h5⟩)
            · exact .inr ⟨k, h3, hk, h5⟩
theorem visit_spec : ∀ (f : Nat) (x : Sit) (st st' : List Sit × List Parse), visit p gs child f x st = some st' → VSpec p gs child x st st'
  | 0, x, st, st', h => by cases h
  | f + 1, (c0, i, sp), st, st', h => by
    rw [visit] at h
    dsimp only at h
    have hc : (if p.hi < 0 ∧ p.lo < (c0 : Int) then p.lo.toNat else c0) = clampC p c0 := rfl
    rw [hc] at h
    obtain ⟨c, hcc⟩ : ∃ c, c = clampC p c0 := ⟨_, rfl⟩
    rw [← hcc] at h
    split at h
    · rename_i hm
      have := Option.some.inj h; subst this
      exact VSpec.done p gs child (by rw [← hcc]; exact hm)
    rename_i hm
    split at h
    · cases h
    rw [Option.bind_eq_some_iff] at h
    obtain ⟨st2, h1, h2⟩ := h
    have := Option.some.inj h2
    subst this
    have F : ∃ l, FSpec p gs child (c, i, sp) l (st.1 ++ [(c, i, sp)], st.2) st2 ∧ ((p.hi < 0 ∨ (c : Int) < p.hi) → ∃ l, child i (unset sp gs) = some l) ∧ (∀ u, Nxt p gs child (c, i, sp) u → ∃ q, q ∈ l ∧ ¬ (q.1 = i ∧ p.lo ≤ (c : Int)) ∧ u = (clampC p (c + 1), q)) ∧ (∀ q, q ∈ l → ¬ (q.1 = i ∧ p.lo ≤ (c : Int)) → Nxt p gs child (c, i, sp) (clampC p (c + 1), q)) := by
      split at h1
      · rename_i hg
        obtain ⟨l, h4, h5⟩ := Option.bind_eq_some_iff.1 h1
        refine ⟨l, fold_spec p gs child (fun x st st' => visit_spec f x st st') c i sp l _ _ h5, fun _ => ⟨l, h4⟩, fun u hu => ?_, fun q hq hn => ⟨hg, l, h4, q, hq, hn, rfl⟩⟩
        obtain ⟨-, l', hl', q, hq, hn, hu⟩ := hu
        have := Option.some.inj (hl'.symm.trans h4); subst this
        exact ⟨q, hq, hn, hu⟩
      · rename_i hg
        have := Option.some.inj h1; subst this
        exact ⟨[], ⟨fun _ h => h, (fun _ h => by cases h), fun _ h => .inl h, fun _ h => .inl h, fun q => ⟨.inl, fun h => h.elim id fun ⟨c, h1, h2, _⟩ => absurd h1 h2⟩, fun _ h => .inl h⟩, fun h => absurd h hg, fun u hu => absurd hu.1 hg, fun q hq => by cases hq⟩
    obtain ⟨l, F, hkid, hl1, hl2⟩ := F
    have hself : (c, i, sp) ∈ st2.1 := F.mono _ (by simp)
    have hclo : ∀ u, Nxt p gs child (c, i, sp) u → u ∈ st2.1 := fun u hu => by
      obtain ⟨q, hq, hn, rfl⟩ := hl1 u hu
      exact (F.all q hq).resolve_left hn
    have hold : ∀ v, v ∈ st.1 ++ [(c, i, sp)] ↔ v ∈ st.1 ∨ v = (c, i, sp) := fun v => by simp
    refine ⟨fun v h => F.mono v (by simp [h]), by rw [← hcc]; exact hself, fun v hv => ?_, fun v hv => ?_, fun q => ?_, fun v hv => ?_⟩
    rotate_left 3
    · rcases F.kid v hv with h3 | h3
      · rcases (hold v).1 h3 with h3 | rfl
        · exact .inl h3
        · exact .inr hkid
      · exact .inr h3
    rotate_left 0
    · rcases F.closed v hv with h3 | h3
      · rcases (hold v).1 h3 with h3 | rfl
        · exact .inl h3
        · exact .inr hclo
      · exact .inr h3
    · rcases F.reach v hv with h3 | ⟨q, h3, h4, h5⟩
      · rcases (hold v).1 h3 with h3 | rfl
        · exact .inl h3
        · exact .inr (by rw [← hcc]; exact .refl _)
      · exact .inr (by rw [← hcc]; exact .step (hl2 q h3 h4) h5)
    · dsimp only
      have hq0 : q ∈ st2.2 ↔ q ∈ st.2 ∨ ∃ k : Nat, (k, q) ∈ st2.1 ∧ ((k, q) ∉ st.1 ∧ (k, q) ≠ (c, i, sp)) ∧ p.lo ≤ (k : Int) := by
        rw [F.out]
        dsimp only
        refine or_congr Iff.rfl (exists_congr fun k => and_congr_right fun _ => and_congr_left fun _ => ?_)
        rw [hold, not_or]
      have hsplit : (q ∈ (if p.lo ≤ (c : Int) then st2.2 ++ [(i, sp)] else st2.2)) ↔ q ∈ st2.2 ∨ (p.lo ≤ (c : Int) ∧ q = (i, sp)) := by
        split
        · rename_i h; simp [h]
        · rename_i h; simp [h]
      rw [hsplit, hq0]
      constructor
      · rintro ((h3 | ⟨k, h3, h4, h5⟩) | ⟨h3, rfl⟩)
        · exact .inl h3
        · exact .inr ⟨k, h3, h4.1, h5⟩
        · exact .inr ⟨c, hself, hm, h3⟩
      · rintro (h3 | ⟨k, h3, h4, h5⟩)
        · exact .inl (.inl h3)
        · by_cases hk : (k, q) = (c, i, sp)
          · injection hk with hk1 hk2
            subst hk1
            exact .inr ⟨h5, hk2⟩
          · exact .inl (.inr ⟨k, h3, ⟨h4, hk⟩, h5⟩)
/-- What is reached from a situation of a closed set lies in it. -/
theorem Rch.stays {S : List Sit} (hS : ∀ v, v ∈ S → ∀ u, Nxt p gs child v u → u ∈ S) {v u : Sit} (h : Rch p gs child v u) (hv : v ∈ S) : u ∈ S := by
  induction h with
  | refl _ => exact hv
  | step h _ ih => exact ih (hS _ hv _ h)
/-- The first visit: all that is reached, and no more. -/
theorem visit_all {f : Nat} {x : Sit} {st : List Sit × List Parse} (h : visit p gs child f x ([], []) = some st) :
    (∀ v, Rch p gs child (clampC p x.1, x.2) v → (p.hi < 0 ∨ (v.1 : Int) < p.hi) → ∃ l, child v.2.1 (unset v.2.2 gs) = some l) ∧ (∀ q, q ∈ st.2 ↔ ∃ c : Nat, Rch p gs child (clampC p x.1, x.2) (c, q) ∧ p.lo ≤ (c : Int)) := by
  have V := visit_spec p gs child f x _ _ h
  have h1 : ∀ v, v ∈ st.1 ↔ Rch p gs child (clampC p x.1, x.2) v := fun v =>
    ⟨fun hv => (V.reach v hv).resolve_left (by simp), fun hv => Rch.stays p gs child (fun u hu => (V.closed u hu).resolve_left (by simp)) hv V.self⟩
  refine ⟨fun v hv => (V.kid v ((h1 v).2 hv)).resolve_left (by simp), fun q => ?_⟩
  rw [V.out]
  constructor
  · rintro (h2 | ⟨c, h2, -, h3⟩)
    · cases h2
    · exact ⟨c, (h1 _).1 h2, h3⟩
  · rintro ⟨c, h2, h3⟩
    exact .inr ⟨c, (h1 _).2 h2, by simp, h3⟩
/-- A visit within a small closed set ends. -/
theorem visit_total {U : List Sit} (hU : U.length ≤ most) (hch : ∀ v, v ∈ U → (p.hi < 0 ∨ (v.1 : Int) < p.hi) → ∃ l, child v.2.1 (unset v.2.2 gs) = some l ∧ ∀ q, q ∈ l → ¬ (q.1 = v.2.1 ∧ p.lo ≤ (v.1 : Int)) → (clampC p (v.1 + 1), q) ∈ U) :
    ∀ (f : Nat) (x : Sit) (st : List Sit × List Parse), (clampC p x.1, x.2) ∈ U → (∀ v, v ∈ st.1 → v ∈ U) → st.1.Nodup → most + 1 ≤ f + st.1.length →
    ∃ st', visit p gs child f x st = some st' ∧ (∀ v, v ∈ st'.1 → v ∈ U) ∧ st'.1.Nodup ∧ st.1.length ≤ st'.1.length
  | 0, x, st, hx, hst, hnd, hf => by
    have := (List.subset_def.2 (fun {a} h => hst a h) : st.1 ⊆ U)
    have := List.Nodup.length_le_of_subset hnd this
    omega
  | f + 1, (c0, i, sp), st, hx, hst, hnd, hf => by
    rw [visit]
    dsimp only
    have hc : (if p.hi < 0 ∧ p.lo < (c0 : Int) then p.lo.toNat else c0) = clampC p c0 := rfl
    rw [hc]
    dsimp only at hx
    obtain ⟨c, hcc⟩ : ∃ c, c = clampC p c0 := ⟨_, rfl⟩
    rw [← hcc] at hx ⊢
    by_cases hm : (c, i, sp) ∈ st.1
    · rw [if_pos hm]
      exact ⟨st, rfl, hst, hnd, Nat.le_refl _⟩
    rw [if_neg hm]
    have hnd1 : (st.1 ++ [(c, i, sp)]).Nodup := List.nodup_append.2 ⟨hnd, by simp, by intro a ha b hb; simp at hb; subst hb; rintro rfl; exact hm ha⟩
    have hst1 : ∀ v, v ∈ st.1 ++ [(c, i, sp)] → v ∈ U := fun v hv => by
      rcases List.mem_append.1 hv with h | h
      · exact hst v h
      · rw [List.mem_singleton.1 h]; exact hx
    have hlen := List.Nodup.length_le_of_subset hnd1 (List.subset_def.2 (fun {a} h => hst1 a h) : _ ⊆ U)
    rw [List.length_append, List.length_singleton] at hlen
    rw [if_neg (by omega)]
    have key : ∃ st2, (if p.hi < 0 ∨ (c : Int) < p.hi then (child i (unset sp gs)).bind fun l => l.foldlM (fun st q => if q.1 = i ∧ p.lo ≤ (c : Int) then some st else visit p gs child f (c + 1, q.1, q.2) st) (st.1 ++ [(c, i, sp)], st.2) else some (st.1 ++ [(c, i, sp)], st.2)) = some st2 ∧ (∀ v, v ∈ st2.1 → v ∈ U) ∧ st2.1.Nodup ∧ st.1.length ≤ st2.1.length := by
      split
      · rename_i hg
        obtain ⟨l, hl, hq⟩ := hch _ hx hg
        dsimp only at hl hq
        rw [hl]
        have fold : ∀ (l' : List Parse) (s1 : List Sit × List Parse), (∀ q, q ∈ l' → q ∈ l) → (∀ v, v ∈ s1.1 → v ∈ U) → s1.1.Nodup → most + 1 ≤ f + s1.1.length → st.1.length ≤ s1.1.length →
            ∃ st2, l'.foldlM (fun st q => if q.1 = i ∧ p.lo ≤ (c : Int) then some st else visit p gs child f (c + 1, q.1, q.2) st) s1 = some st2 ∧ (∀ v, v ∈ st2.1 → v ∈ U) ∧ st2.1.Nodup ∧ st.1.length ≤ st2.1.length := by
          intro l'
          induction l' with
          | nil => intro s1 _ h1 h2 _ h4; exact ⟨s1, rfl, h1, h2, h4⟩
          | cons a l' ih =>
            intro s1 hsub h1 h2 h3 h4
            rw [List.foldlM_cons]
            by_cases hs : a.1 = i ∧ p.lo ≤ (c : Int)
            · rw [if_pos hs]
              exact ih s1 (fun q hq => hsub q (by simp [hq])) h1 h2 h3 h4
            · rw [if_neg hs]
              obtain ⟨s2, e2, g1, g2, g3⟩ := visit_total hU hch f (c + 1, a.1, a.2) s1 (hq a (hsub a (by simp)) hs) h1 h2 h3
              rw [e2]
              exact ih s2 (fun q hq => hsub q (by simp [hq])) g1 g2 (by omega) (by omega)
        exact fold l _ (fun _ h => h) hst1 hnd1 (by simp; omega) (by simp)
      · exact ⟨_, rfl, hst1, hnd1, by simp⟩
    obtain ⟨st2, h1, h2, h3, h4⟩ := key
    rw [h1]
    exact ⟨_, rfl, h2, h3, h4⟩
end
end Go.Proofs.YtkinnfejgpnddaaDoor

/- The ends of a tree's parses as a relation, plainly. -/
namespace Go.Proofs.YtkinnfejgpnddaaDoor
open Go.RowKit

def Iter (R : Nat → Nat → Prop) : Nat → Nat → Nat → Prop
  | 0, i, j => j = i
  | n + 1, i, j => ∃ k, R i k ∧ Iter R n k j
section
variable (s : List UInt8) (lines : Bool)
mutual
/-- A tree without back references takes a string from i to j. -/
def Re.E : Re → Nat → Nat → Prop
  | .mk p xs, i, j =>
    if p.op = 1 then j = i
    else if p.op = 2 then (i < s.length ∧ p.set.has (byteAt s i).toNat = true) ∧ j = i + 1
    else if p.op = 3 then Re.ECat xs i j
    else if p.op = 4 then Re.EAlt xs i j
    else if p.op = 5 then ∃ n : Nat, p.lo ≤ (n : Int) ∧ (p.hi < 0 ∨ (n : Int) ≤ p.hi) ∧ Iter (Re.EFirst xs) n i j
    else if p.op = 6 then Re.EFirst xs i j
    else if p.op = 7 then (i = 0 ∨ lines = true ∧ byteAt s (i - 1) = 10) ∧ j = i
    else if p.op = 8 then (i = s.length ∨ lines = true ∧ byteAt s i = 10) ∧ j = i
    else False
def Re.EFirst : List Re → Nat → Nat → Prop
  | [], _, _ => False
  | x :: _, i, j => x.E i j
def Re.EAlt : List Re → Nat → Nat → Prop
  | [], _, _ => False
  | x :: xs, i, j => x.E i j ∨ Re.EAlt xs i j
def Re.ECat : List Re → Nat → Nat → Prop
  | [], i, j => j = i
  | x :: xs, i, j => ∃ k, x.E i k ∧ Re.ECat xs k j
end
end
mutual
/-- No back references. -/
def Re.nob : Re → Prop
  | .mk p xs => (1 ≤ p.op ∧ p.op ≤ 8) ∧ Re.nobs xs
def Re.nobs : List Re → Prop
  | [] => True
  | x :: xs => x.nob ∧ Re.nobs xs
end
theorem iter_le {R : Nat → Nat → Prop} {L : Nat} (hR : ∀ i j, i ≤ L → R i j → i ≤ j ∧ j ≤ L) : ∀ (n i j : Nat), i ≤ L → Iter R n i j → i ≤ j ∧ j ≤ L
  | 0, i, j, hi, h => by rw [Iter] at h; omega
  | n + 1, i, j, hi, h => by
    obtain ⟨k, h1, h2⟩ := h
    have h3 := hR i k hi h1
    have h4 := iter_le hR n k j h3.2 h2
    omega
section
variable (s : List UInt8) (lines : Bool)
mutual
theorem Re.E_le : ∀ (t : Re) (i j : Nat), i ≤ s.length → t.E s lines i j → i ≤ j ∧ j ≤ s.length
  | .mk p xs, i, j, hi, h => by
    rw [Re.E] at h
    split at h
    · omega
    split at h
    · omega
    split at h
    · exact Re.ECat_le xs i j hi h
    split at h
    · exact Re.EAlt_le xs i j hi h
    split at h
    · obtain ⟨n, -, -, h⟩ := h
      exact iter_le (fun i j => Re.EFirst_le xs i j) n i j hi h
    split at h
    · exact Re.EFirst_le xs i j hi h
    split at h
    · omega
    split at h
    · omega
    · exact h.elim
theorem Re.EFirst_le : ∀ (xs : List Re) (i j : Nat), i ≤ s.length → Re.EFirst s lines xs i j → i ≤ j ∧ j ≤ s.length
  | [], i, j, _, h => by rw [Re.EFirst] at h; exact h.elim
  | x :: xs, i, j, hi, h => by rw [Re.EFirst] at h; exact Re.E_le x i j hi h
theorem Re.EAlt_le : ∀ (xs : List Re) (i j : Nat), i ≤ s.length → Re.EAlt s lines xs i j → i ≤ j ∧ j ≤ s.length
  | [], i, j, _, h => by rw [Re.EAlt] at h; exact h.elim
  | x :: xs, i, j, hi, h => by
    rw [Re.EAlt] at h
    rcases h with h | h
    · exact Re.E_le x i j hi h
    · exact Re.EAlt_le xs i j hi h
theorem Re.ECat_le : ∀ (xs : List Re) (i j : Nat), i ≤ s.length → Re.ECat s lines xs i j → i ≤ j ∧ j ≤ s.length
  | [], i, j, hi, h => by rw [Re.ECat] at h; omega
  | x :: xs, i, j, hi, h => by
    rw [Re.ECat] at h
    obtain ⟨k, h1, h2⟩ := h
    have h3 := Re.E_le x i k hi h1
    have h4 := Re.ECat_le xs k j h3.2 h2
    omega
end
end
theorem mapM_mem {α β : Type} {f : α → Option (List β)} : ∀ (l : List α) (m : List (List β)), l.mapM f = some m → ∀ q, q ∈ m.flatten ↔ ∃ a, a ∈ l ∧ ∃ b, f a = some b ∧ q ∈ b
  | [], m, h, q => by simp at h; subst h; simp
  | a :: l, m, h, q => by
    rw [List.mapM_cons] at h
    cases h1 : f a with
    | none => simp [h1] at h
    | some b0 =>
      cases h2 : l.mapM f with
      | none => simp [h1, h2] at h
      | some m0 =>
        simp [h1, h2] at h
        subst h
        have ih := mapM_mem l m0 h2 q
        rw [List.flatten_cons, List.mem_append, ih]
        constructor
        · rintro (h | ⟨a', h3, b, h4, h5⟩)
          · exact ⟨a, by simp, b0, h1, h⟩
          · exact ⟨a', by simp [h3], b, h4, h5⟩
        · rintro ⟨a', h3, b, h4, h5⟩
          rcases List.mem_cons.1 h3 with rfl | h3
          · rw [h1] at h4; rw [← Option.some.inj h4] at h5; exact .inl h5
          · exact .inr ⟨a', h3, b, h4, h5⟩
theorem mapM_some {α β : Type} {f : α → Option β} : ∀ (l : List α), (∀ a, a ∈ l → ∃ b, f a = some b) → ∃ m, l.mapM f = some m ∧ m.length = l.length
  | [], _ => ⟨[], rfl, rfl⟩
  | a :: l, h => by
    obtain ⟨b, hb⟩ := h a (by simp)
    obtain ⟨m, hm, hl⟩ := mapM_some l fun a ha => h a (by simp [ha])
    exact ⟨b :: m, by rw [List.mapM_cons, hb, hm]; rfl, by simp [hl]⟩
theorem fin_iff {L : Nat} {l m : List Parse} (h : fin L l = some m) (q : Parse) : q ∈ m ↔ q ∈ l ∧ q.1 ≤ L := by
  unfold fin at h
  split at h
  · cases h
  · have := Option.some.inj h; subst this
    rw [sortP_mem, nub_mem]
/-- A list has a parse that ends at j. -/
def Has (l : List Parse) (j : Nat) : Prop := ∃ q, q ∈ l ∧ q.1 = j
theorem fin_has {L : Nat} {l m : List Parse} (h : fin L l = some m) (hl : ∀ q, q ∈ l → q.1 ≤ L) (j : Nat) : Has m j ↔ Has l j := by
  refine exists_congr fun q => ?_
  rw [fin_iff h]
  exact ⟨fun h => ⟨h.1.1, h.2⟩, fun h => ⟨⟨h.1, hl q h.1⟩, h.2⟩⟩
section
variable (p : Pay) (gs : List Nat) (child : Nat → Spans → Option (List Parse)) (L : Nat) (R : Nat → Nat → Prop)
theorem rch_iter (hR : ∀ i sp l, i ≤ L → child i sp = some l → ∀ j, Has l j ↔ R i j) (hRL : ∀ i j, i ≤ L → R i j → i ≤ j ∧ j ≤ L) {v u : Sit} (h : Rch p gs child v u) : v.2.1 ≤ L → ∃ n, Iter R n v.2.1 u.2.1 ∧ (p.hi < 0 → u.1 ≤ v.1 + n) ∧ (¬ p.hi < 0 → u.1 = v.1 + n ∧ ((v.1 : Int) ≤ p.hi → (u.1 : Int) ≤ p.hi)) := by
  induction h with
  | refl v => intro _; exact ⟨0, rfl, fun _ => Nat.le_refl _, fun _ => ⟨rfl, id⟩⟩
  | @step v u z h _ ih =>
    intro hv
    obtain ⟨hg, l, hl, q, hq, hn, rfl⟩ := h
    have h1 := (hR _ _ _ hv hl q.1).1 ⟨q, hq, rfl⟩
    obtain ⟨n, h2, h3, h4⟩ := ih (hRL _ _ hv h1).2
    refine ⟨n + 1, ⟨q.1, h1, h2⟩, fun h => ?_, fun h => ?_⟩
    · have := h3 h
      dsimp only at this
      unfold clampC at this
      split at this <;> omega
    · have := h4 h
      dsimp only at this
      have h8 : clampC p (v.1 + 1) = v.1 + 1 := by unfold clampC; rw [if_neg (fun h' => h h'.1)]
      rw [h8] at this
      refine ⟨by omega, fun h9 => this.2 ?_⟩
      rcases hg with hg | hg
      · exact absurd hg h
      · omega
theorem iter_rch (hR : ∀ i sp l, i ≤ L → child i sp = some l → ∀ j, Has l j ↔ R i j) (hRL : ∀ i j, i ≤ L → R i j → i ≤ j ∧ j ≤ L) {v0 : Sit} (hkid : ∀ v, Rch p gs child v0 v → (p.hi < 0 ∨ (v.1 : Int) < p.hi) → ∃ l, child v.2.1 (unset v.2.2 gs) = some l) : ∀ (n c i : Nat) (sp : Spans) (j : Nat), i ≤ L → Rch p gs child v0 (c, i, sp) → Iter R n i j → p.lo ≤ (c + n : Int) → (p.hi < 0 ∨ (c + n : Int) ≤ p.hi) →
    ∃ (c' : Nat) (sp' : Spans), Rch p gs child v0 (c', j, sp') ∧ p.lo ≤ (c' : Int)
  | 0, c, i, sp, j, hi, hr, h, h1, h2 => by
    rw [Iter] at h
    subst h
    exact ⟨c, sp, hr, by omega⟩
  | n + 1, c, i, sp, j, hi, hr, h, h1, h2 => by
    obtain ⟨k, h3, h4⟩ := h
    by_cases hs : k = i ∧ p.lo ≤ (c : Int)
    · obtain ⟨rfl, hs⟩ := hs
      exact iter_rch hR hRL hkid n c k sp j hi hr h4 (by omega) (by omega)
    · have hg : p.hi < 0 ∨ (c : Int) < p.hi := by omega
      obtain ⟨l, hl⟩ := hkid _ hr hg
      obtain ⟨q, hq, rfl⟩ := (hR _ _ _ hi hl k).2 h3
      have hN : Nxt p gs child (c, i, sp) (clampC p (c + 1), q) := ⟨hg, l, hl, q, hq, hs, rfl⟩
      refine iter_rch hR hRL hkid n (clampC p (c + 1)) q.1 q.2 j (hRL _ _ hi h3).2 (hr.trans p gs child (.step hN (.refl _))) h4 ?_ ?_
      · unfold clampC; split <;> omega
      · unfold clampC; split <;> omega
/-- The ends of a repetition. -/
theorem visit_has (hR : ∀ i sp l, i ≤ L → child i sp = some l → ∀ j, Has l j ↔ R i j) (hRL : ∀ i j, i ≤ L → R i j → i ≤ j ∧ j ≤ L) {f i : Nat} {sp : Spans} {st : List Sit × List Parse} (h : visit p gs child f (0, i, sp) ([], []) = some st) (hi : i ≤ L) (j : Nat) : Has st.2 j ↔ ∃ n : Nat, p.lo ≤ (n : Int) ∧ (p.hi < 0 ∨ (n : Int) ≤ p.hi) ∧ Iter R n i j := by
  obtain ⟨h1, h2⟩ := visit_all p gs child h
  have h0 : clampC p 0 = 0 := by unfold clampC; split <;> omega
  dsimp only at h1 h2
  rw [h0] at h1 h2
  constructor
  · rintro ⟨q, hq, rfl⟩
    obtain ⟨c, h3, h4⟩ := (h2 q).1 hq
    obtain ⟨n, h5, h6, h7⟩ := rch_iter p gs child L R hR hRL h3 hi
    dsimp only at h5 h6 h7
    by_cases hh : p.hi < 0
    · exact ⟨n, by have := h6 hh; omega, .inl hh, h5⟩
    · have := h7 hh
      exact ⟨n, by omega, .inr (by omega), h5⟩
  · rintro ⟨n, h3, h4, h5⟩
    obtain ⟨c, sp', h6, h7⟩ := iter_rch p gs child L R hR hRL h1 n 0 i sp j hi (.refl _) h5 (by omega) (by omega)
    exact ⟨(j, sp'), (h2 _).2 ⟨c, h6, h7⟩, rfl⟩
end
section
variable (s : List UInt8) (lines : Bool)
theorem has_one (i : Nat) (sp : Spans) (j : Nat) : Has [(i, sp)] j ↔ j = i := by unfold Has; simp [eq_comm]
theorem has_nil (j : Nat) : ¬ Has [] j := by unfold Has; simp
mutual
/-- The ends of a tree's parses. -/
theorem parses_E : ∀ (t : Re) (i : Nat) (sp : Spans) (l : List Parse), t.nob → i ≤ s.length → parses s lines t i sp = some l → ∀ j, Has l j ↔ t.E s lines i j
  | .mk p xs, i, sp, l, hb, hi, h, j => by
    rw [Re.nob] at hb
    obtain ⟨⟨hop1, hop8⟩, hb⟩ := hb
    rw [parses] at h
    rw [Re.E]
    split at h
    · rename_i h1
      rw [if_pos h1]
      have := Option.some.inj h; subst this
      exact has_one _ _ _
    rename_i h1
    rw [if_neg h1]
    split at h
    · rename_i h2
      rw [if_pos h2]
      have := Option.some.inj h; subst this
      split
      · rename_i hc
        rw [Bool.and_eq_true, decide_eq_true_eq] at hc
        rw [has_one]
        exact ⟨fun h => ⟨hc, h⟩, fun h => h.2⟩
      · rename_i hc
        rw [Bool.and_eq_true, decide_eq_true_eq] at hc
        exact ⟨fun h => absurd h (has_nil j), fun h => absurd h.1 hc⟩
    rename_i h2
    rw [if_neg h2]
    split at h
    · rename_i h3
      rw [if_pos h3]
      obtain ⟨m, h4, h5⟩ := Option.bind_eq_some_iff.1 h
      have hc := catP_E xs [(i, sp)] m hb (fun q hq => by rw [List.mem_singleton.1 hq]; exact hi) h4
      rw [fin_has h5 hc.2, hc.1 j]
      constructor
      · rintro ⟨q, hq, hE⟩; rw [List.mem_singleton.1 hq] at hE; exact hE
      · intro hE; exact ⟨(i, sp), by simp, hE⟩
    rename_i h3
    rw [if_neg h3]
    split at h
    · rename_i h4
      rw [if_pos h4]
      obtain ⟨m, h5, h6⟩ := Option.bind_eq_some_iff.1 h
      have hc := altP_E xs i sp m hb hi h5
      rw [fin_has h6 (fun q hq => (Re.EAlt_le s lines xs i q.1 hi ((hc q.1).1 ⟨q, hq, rfl⟩)).2), hc j]
    rename_i h4
    rw [if_neg h4]
    split at h
    · rename_i h5
      rw [if_pos h5]
      obtain ⟨st, h6, h7⟩ := Option.bind_eq_some_iff.1 h
      have hc := visit_has p (withinAll xs) (firstP s lines xs) s.length (Re.EFirst s lines xs) (fun i sp l hi hl j => firstP_E xs i sp l hb hi hl j) (fun i j => Re.EFirst_le s lines xs i j) h6 hi
      rw [fin_has h7 (fun q hq => ?_), hc j]
      obtain ⟨n, -, -, hn⟩ := (hc q.1).1 ⟨q, hq, rfl⟩
      exact (iter_le (fun i j => Re.EFirst_le s lines xs i j) n i q.1 hi hn).2
    rename_i h5
    rw [if_neg h5]
    split at h
    · rename_i h6
      rw [if_pos h6]
      obtain ⟨m, h7, h8⟩ := Option.bind_eq_some_iff.1 h
      have hc := firstP_E xs i sp m hb hi h7
      have hm : ∀ k, Has (m.map fun q => (q.1, q.2.set (p.gr.toNat - 1) ((i : Int), (q.1 : Int)))) k ↔ Has m k := by
        intro k
        constructor
        · rintro ⟨q, hq, rfl⟩
          obtain ⟨q0, h9, rfl⟩ := List.mem_map.1 hq
          exact ⟨q0, h9, rfl⟩
        · rintro ⟨q0, h9, rfl⟩
          exact ⟨_, List.mem_map.2 ⟨q0, h9, rfl⟩, rfl⟩
      rw [fin_has h8 (fun q hq => (Re.EFirst_le s lines xs i q.1 hi ((hc q.1).1 ((hm _).1 ⟨q, hq, rfl⟩))).2), hm, hc j]
    rename_i h6
    rw [if_neg h6]
    split at h
    · rename_i h7
      rw [if_pos h7]
      have := Option.some.inj h; subst this
      split
      · rename_i hc
        rw [Bool.or_eq_true, Bool.and_eq_true, decide_eq_true_eq, decide_eq_true_eq] at hc
        rw [has_one]
        exact ⟨fun h => ⟨hc, h⟩, fun h => h.2⟩
      · rename_i hc
        rw [Bool.or_eq_true, Bool.and_eq_true, decide_eq_true_eq, decide_eq_true_eq] at hc
        exact ⟨fun h => absurd h (has_nil j), fun h => absurd h.1 hc⟩
    rename_i h7
    rw [if_neg h7]
    split at h
    · rename_i h8
      rw [if_pos h8]
      have := Option.some.inj h; subst this
      split
      · rename_i hc
        rw [Bool.or_eq_true, Bool.and_eq_true, decide_eq_true_eq, decide_eq_true_eq] at hc
        rw [has_one]
        exact ⟨fun h => ⟨hc, h⟩, fun h => h.2⟩
      · rename_i hc
        rw [Bool.or_eq_true, Bool.and_eq_true, decide_eq_true_eq, decide_eq_true_eq] at hc
        exact ⟨fun h => absurd h (has_nil j), fun h => absurd h.1 hc⟩
    · exfalso; omega
theorem firstP_E : ∀ (xs : List Re) (i : Nat) (sp : Spans) (l : List Parse), Re.nobs xs → i ≤ s.length → firstP s lines xs i sp = some l → ∀ j, Has l j ↔ Re.EFirst s lines xs i j
  | [], i, sp, l, _, _, h, j => by rw [firstP] at h; cases h
  | x :: xs, i, sp, l, hb, hi, h, j => by
    rw [firstP] at h
    rw [Re.nobs] at hb
    rw [Re.EFirst]
    exact parses_E x i sp l hb.1 hi h j
theorem altP_E : ∀ (xs : List Re) (i : Nat) (sp : Spans) (l : List Parse), Re.nobs xs → i ≤ s.length → altP s lines xs i sp = some l → ∀ j, Has l j ↔ Re.EAlt s lines xs i j
  | [], i, sp, l, _, _, h, j => by
    rw [altP] at h; have := Option.some.inj h; subst this
    rw [Re.EAlt]
    exact ⟨fun h => absurd h (has_nil j), fun h => h.elim⟩
  | x :: xs, i, sp, l, hb, hi, h, j => by
    rw [altP] at h
    rw [Re.nobs] at hb
    simp only [Option.bind_eq_some_iff] at h
    obtain ⟨a, h1, b, h2, h3⟩ := h
    have := Option.some.inj h3; subst this
    rw [Re.EAlt, ← parses_E x i sp a hb.1 hi h1 j, ← altP_E xs i sp b hb.2 hi h2 j]
    unfold Has
    constructor
    · rintro ⟨q, hq, e⟩
      rcases List.mem_append.1 hq with hq | hq
      · exact .inl ⟨q, hq, e⟩
      · exact .inr ⟨q, hq, e⟩
    · rintro (⟨q, hq, e⟩ | ⟨q, hq, e⟩)
      · exact ⟨q, List.mem_append.2 (.inl hq), e⟩
      · exact ⟨q, List.mem_append.2 (.inr hq), e⟩
theorem catP_E : ∀ (xs : List Re) (l m : List Parse), Re.nobs xs → (∀ q, q ∈ l → q.1 ≤ s.length) → catP s lines xs l = some m → (∀ j, Has m j ↔ ∃ q, q ∈ l ∧ Re.ECat s lines xs q.1 j) ∧ ∀ q, q ∈ m → q.1 ≤ s.length
  | [], l, m, _, hl, h => by
    rw [catP] at h; have := Option.some.inj h; subst this
    refine ⟨fun j => ?_, hl⟩
    unfold Has
    simp only [Re.ECat]
    exact ⟨fun ⟨q, h1, h2⟩ => ⟨q, h1, h2.symm⟩, fun ⟨q, h1, h2⟩ => ⟨q, h1, h2.symm⟩⟩
  | x :: xs, l, m, hb, hl, h => by
    rw [catP] at h
    rw [Re.nobs] at hb
    rw [Option.bind_eq_some_iff] at h
    obtain ⟨ms, h1, h2⟩ := h
    split at h2
    · cases h2
    have hmem : ∀ q, q ∈ nub ms.flatten ↔ ∃ a, a ∈ l ∧ ∃ b, parses s lines x a.1 a.2 = some b ∧ q ∈ b := fun q => by rw [nub_mem, mapM_mem l ms h1]
    have hE : ∀ k, Has (nub ms.flatten) k ↔ ∃ a, a ∈ l ∧ x.E s lines a.1 k := by
      intro k
      constructor
      · rintro ⟨q, hq, rfl⟩
        obtain ⟨a, ha, b, hb1, hb2⟩ := (hmem q).1 hq
        exact ⟨a, ha, (parses_E x a.1 a.2 b hb.1 (hl a ha) hb1 q.1).1 ⟨q, hb2, rfl⟩⟩
      · rintro ⟨a, ha, hk⟩
        obtain ⟨b, hb1⟩ : ∃ b, parses s lines x a.1 a.2 = some b := by
          cases hp : parses s lines x a.1 a.2 with
          | some b => exact ⟨b, rfl⟩
          | none =>
            exfalso
            have : ∀ (l : List Parse) (ms : List (List Parse)), l.mapM (fun q => parses s lines x q.1 q.2) = some ms → a ∈ l → False := by
              intro l
              induction l with
              | nil => intro ms _ h; cases h
              | cons c l ih =>
                intro ms h hm
                rw [List.mapM_cons] at h
                cases hc : parses s lines x c.1 c.2 with
                | none => simp [hc] at h
                | some b0 =>
                  cases h2 : l.mapM (fun q => parses s lines x q.1 q.2) with
                  | none => simp [hc, h2] at h
                  | some m0 =>
                    rcases List.mem_cons.1 hm with rfl | hm
                    · rw [hp] at hc; cases hc
                    · exact ih m0 h2 hm
            exact this l ms h1 ha
        obtain ⟨q, hq, rfl⟩ := (parses_E x a.1 a.2 b hb.1 (hl a ha) hb1 k).2 hk
        exact ⟨q, (hmem q).2 ⟨a, ha, b, hb1, hq⟩, rfl⟩
    have hl2 : ∀ q, q ∈ nub ms.flatten → q.1 ≤ s.length := fun q hq => by
      obtain ⟨a, ha, hk⟩ := (hE q.1).1 ⟨q, hq, rfl⟩
      exact (Re.E_le s lines x a.1 q.1 (hl a ha) hk).2
    obtain ⟨h3, h4⟩ := catP_E xs (nub ms.flatten) m hb.2 hl2 h2
    refine ⟨fun j => ?_, h4⟩
    rw [h3 j]
    simp only [Re.ECat]
    constructor
    · rintro ⟨q, hq, hk⟩
      obtain ⟨a, ha, h5⟩ := (hE q.1).1 ⟨q, hq, rfl⟩
      exact ⟨a, ha, q.1, h5, hk⟩
    · rintro ⟨a, ha, k, h5, hk⟩
      obtain ⟨q, hq, rfl⟩ := (hE k).2 ⟨a, ha, h5⟩
      exact ⟨q, hq, hk⟩
end
end
end Go.Proofs.YtkinnfejgpnddaaDoor
