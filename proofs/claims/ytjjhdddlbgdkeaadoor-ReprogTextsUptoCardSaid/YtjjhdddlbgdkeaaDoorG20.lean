/- Equality of instructions; the reference's SameInsts at equal lists. -/
import Derived.Test.YtjjhdddlbgdkeaaDoorG19
import Derived.Test.YtjjhdddlbgdkeaaDoorG10
import Derived.ChangeKeysEq
import Derived.Lib.ItoaMem
namespace Go.Proofs.YtjjhdddlbgdkeaaDoor
open Go.RowKit
attribute [local go_sem] gives givesUpon

theorem run_eqIn_inst (i j : Inst) (w : World) : (Op.equalIn 10000 35 (.agg #[.int .i64 i.op, .int .u64 i.set.a, .int .u64 i.set.b, .int .u64 i.set.c, .int .u64 i.set.d, .int .i64 i.x, .int .i64 i.y]) (.agg #[.int .i64 j.op, .int .u64 j.set.a, .int .u64 j.set.b, .int .u64 j.set.c, .int .u64 j.set.d, .int .i64 j.x, .int .i64 j.y])).run Tryd.prog w = .ok (decide (i = j)) w := by
  have hf : (Tryd.prog.fieldsOf 35).toList = [{ name := "Op", type := 3, offset := 0, embedded := false, tag := "", pkgPath := "", byteOffset := 0 }, { name := "Set", type := 33, offset := 1, embedded := false, tag := "", pkgPath := "", byteOffset := 8 }, { name := "X", type := 3, offset := 5, embedded := false, tag := "", pkgPath := "", byteOffset := 40 }, { name := "Y", type := 3, offset := 6, embedded := false, tag := "", pkgPath := "", byteOffset := 48 }] := by kernel_rfl
  obtain ⟨z, hi, _, _, _⟩ := info_parts info_u64
  have hc : Tryd.prog.cellsOf 30 = 1 := by kernel_rfl
  have key : decide (i = j) = ((i.op == j.op) && (((i.set.a : Int) == j.set.a) && ((i.set.b : Int) == j.set.b) && ((i.set.c : Int) == j.set.c) && ((i.set.d : Int) == j.set.d)) && (i.x == j.x) && (i.y == j.y)) := by
    rw [Bool.eq_iff_iff]
    obtain ⟨o, ⟨a, b, c, d⟩, x, y⟩ := i
    obtain ⟨o', ⟨a', b', c', d'⟩, x', y'⟩ := j
    simp only [decide_eq_true_eq, Bool.and_eq_true, beq_iff_eq, Inst.mk.injEq, Cs.mk.injEq]
    omega
  rw [key, run_equalIn_agg _ 9999 35 _ _ (by kernel_rfl) (by kernel_rfl), hf]
  simp [Op.eqFields, go_sem]
  rw [run_equalIn_array _ 9997 _ _ Tryd.underlying31 hi, hc]
  simp [Op.eqItems, List.range_succ, go_sem]
  by_cases h0 : i.op = j.op <;> by_cases h1 : (i.set.a : Int) = j.set.a <;> by_cases h2 : (i.set.b : Int) = j.set.b <;> by_cases h3 : (i.set.c : Int) = j.set.c <;> by_cases h4 : (i.set.d : Int) = j.set.d <;> by_cases h5 : i.x = j.x <;> by_cases h6 : i.y = j.y <;> simp [h0, h1, h2, h3, h4, h5, h6]
theorem size_inst7 (a b c d e f g : Value) : (Tryd.prog.info? 35).map (·.size) = some [a, b, c, d, e, f, g].length := by show _ = some 7; kernel_rfl

end Go.Proofs.YtjjhdddlbgdkeaaDoor

/- The program's Valid, at lists that are valid. -/
namespace Go.Proofs.YtjjhdddlbgdkeaaDoor
open Go.RowKit
attribute [local go_sem] gives givesUpon

/-- Is the instruction k of n right? -/
def Inst.right (n k : Nat) (i : Inst) : Prop := ((i.op = 1 ∨ i.op = 4 ∨ i.op = 5) ∧ k + 1 < n) ∨ (i.op = 2 ∧ (0 ≤ i.x ∧ i.x < n) ∧ (0 ≤ i.y ∧ i.y < n)) ∨ (i.op = 3 ∧ (0 ≤ i.x ∧ i.x < n)) ∨ i.op = 6
def rightAll (L : List Inst) : Prop := (1 ≤ L.length ∧ L.length ≤ 4096) ∧ ∀ k (h : k < L.length), L[k].right L.length k

set_option maxHeartbeats 400000 in
theorem there_any (k : Int) (n : Nat) (B : Nat) (w : World) (hB : Row w B [.int .i64 n] 3) (h0 : 0 ≤ k) (h1 : k < n) :
    Calls Tryd.prog 11 #[.int .i64 k, .pointer (some ⟨B, 0, none⟩)] w fun e w' => e = .returned (.bool true) ∧ Below w.heap.size w w' := by
  have q := hB.c1
  go_enter Tryd.func11, Tryd.ntmps11
  go_wp2_with fail
  all_goals go_ret
  all_goals exact ⟨ret_bool (by simp), Below.refl _ _⟩

set_option maxRecDepth 100000 in
set_option maxHeartbeats 4000000 in
theorem Valid_any (w : World) (b : Nat) (v : Value) (L : List Inst) (lines : Bool) (h : OwnI w b v L) (hR : rightAll L) :
    Calls Tryd.prog 5 #[.agg #[v, .bool lines]] w fun e w' => e = .returned (.bool true) ∧ Below w.heap.size w w' := by
  obtain ⟨a, c, rfl⟩ := h.form
  obtain ⟨⟨hl1, hl2⟩, hr⟩ := hR
  have H := hid h
  have HR := hid hr
  have HB0 : Hid (Below w.heap.size w ((w.alloc (.cells #[.slice a L.length c, .bool lines] 24)).alloc (.cells #[.int .i64 L.length] 3)) ∧ Row ((w.alloc (.cells #[.slice a L.length c, .bool lines] 24)).alloc (.cells #[.int .i64 L.length] 3)) (w.heap.size + 1) [.int .i64 L.length] 3) := ⟨((Below.refl _ w).alloc (Nat.le_refl _) _).alloc (by simp) _, Row.new (cs := [.int .i64 L.length]) (by simp)⟩
  clear h hr
  go_enter Tryd.func5, Tryd.ntmps5
  go_wp2_with fail
  go_loopw [21] (fun v wr => ∃ k : Nat, k ≤ L.length ∧ v = .int .i64 k ∧ (Hid (Below w.heap.size w wr ∧ Row wr (w.heap.size + 1) [.int .i64 L.length] 3))) (fun v _ => L.length - (intOf v).toNat)
  case atStart => exact ⟨0, by omega, rfl, HB0.out⟩
  case round =>
    obtain ⟨k, hk, rfl, HX⟩ := hrel
    rcases Nat.lt_or_ge k L.length with hlt | hge
    · have hk1 : L[k]? = some L[k] := List.getElem?_eq_getElem hlt
      obtain ⟨-, g1, rfl, k1, k2, k3, -, -, -⟩ := (H.out.below HX.out.1).elem k _ hk1
      have hri := HR.out k hlt
      generalize L[k] = f at *
      have HC : Hid (CellsAt wr g1 (k * 7) [.int .i64 f.op, .int .u64 f.set.a, .int .u64 f.set.b, .int .u64 f.set.c, .int .u64 f.set.d, .int .i64 f.x, .int .i64 f.y]) := k3
      have q2 := HX.out.2.c1
      have z2 := HX.out.2.lt
      have HBA : Hid (Below wr.heap.size wr (wr.alloc (.cells #[.int .i64 f.op, .int .u64 f.set.a, .int .u64 f.set.b, .int .u64 f.set.c, .int .u64 f.set.d, .int .i64 f.x, .int .i64 f.y] 35))) := (Below.refl _ _).alloc (Nat.le_refl _) _
      have HNW : Hid (Row (wr.alloc (.cells #[.int .i64 f.op, .int .u64 f.set.a, .int .u64 f.set.b, .int .u64 f.set.c, .int .u64 f.set.d, .int .i64 f.x, .int .i64 f.y] 35)) wr.heap.size [.int .i64 f.op, .int .u64 f.set.a, .int .u64 f.set.b, .int .u64 f.set.c, .int .u64 f.set.d, .int .i64 f.x, .int .i64 f.y] 35) := Row.new rfl
      have HXA := hid (And.intro (HX.out.1.trans (HBA.out.mono HX.out.1.size)) (HX.out.2.below HBA.out z2))
      clear hk1 k1 k2 k3
      rcases hri with ⟨ho, hk2⟩ | ⟨ho, hx, hy⟩ | ⟨ho, hx⟩ | ho
      · have hk3 : (k : Int) < (L.length : Int) - 1 := by omega
        rcases ho with ho | ho | ho
        · skip
          have d1 : (f.op == 1) = true := by simp [ho]
          clear ho
          go_wp2_with (first | (with_reducible (refine wpList_load_agg rfl 35 _ rfl g1 (k * 7) rfl _ _ HC.out Tryd.underlying35 rfl (size_inst7 _ _ _ _ _ _ _) ?_)))
          go_roundw
          case rel => exact ⟨k + 1, by omega, by go_num, HXA.out⟩
          case measure => simp [intOf]; omega
        · skip
          have d1 : (f.op == 1) = false := by simp [ho]
          have d4 : (f.op == 4) = true := by simp [ho]
          clear ho
          go_wp2_with (first | (with_reducible (refine wpList_load_agg rfl 35 _ rfl g1 (k * 7) rfl _ _ HC.out Tryd.underlying35 rfl (size_inst7 _ _ _ _ _ _ _) ?_)))
          go_roundw
          case rel => exact ⟨k + 1, by omega, by go_num, HXA.out⟩
          case measure => simp [intOf]; omega
        · skip
          have d1 : (f.op == 1) = false := by simp [ho]
          have d4 : (f.op == 4) = false := by simp [ho]
          have d5 : (f.op == 5) = true := by simp [ho]
          clear ho
          go_wp2_with (first | (with_reducible (refine wpList_load_agg rfl 35 _ rfl g1 (k * 7) rfl _ _ HC.out Tryd.underlying35 rfl (size_inst7 _ _ _ _ _ _ _) ?_)))
          go_roundw
          case rel => exact ⟨k + 1, by omega, by go_num, HXA.out⟩
          case measure => simp [intOf]; omega
      · skip
        have d1 : (f.op == 1) = false := by simp [ho]
        have d4 : (f.op == 4) = false := by simp [ho]
        have d5 : (f.op == 5) = false := by simp [ho]
        have d2 : (f.op == 2) = true := by simp [ho]
        clear ho
        go_wp2_with (first | (with_reducible (refine wpList_load_agg rfl 35 _ rfl g1 (k * 7) rfl _ _ HC.out Tryd.underlying35 rfl (size_inst7 _ _ _ _ _ _ _) ?_)))
        refine (there_any f.x L.length (w.heap.size + 1) _ HXA.out.2 (by omega) (by omega)).mono ?_
        rintro e w1 ⟨rfl, hb1⟩
        have HX1 := hid (And.intro (HXA.out.1.trans (hb1.mono HXA.out.1.size)) (HXA.out.2.below hb1 HXA.out.2.lt))
        have HN1 := hid (HNW.out.below hb1 HNW.out.lt)
        have q3 := HN1.out.c7f
        have z3 := HN1.out.lt
        clear hb1 HNW q2
        go_wp2_with fail
        refine (there_any f.y L.length (w.heap.size + 1) _ HX1.out.2 (by omega) (by omega)).mono ?_
        rintro e w2 ⟨rfl, hb2⟩
        have HX2 := hid (And.intro (HX1.out.1.trans (hb2.mono HX1.out.1.size)) (HX1.out.2.below hb2 HX1.out.2.lt))
        clear hb2 HX1
        go_wp2_with fail
        go_roundw
        case rel => exact ⟨k + 1, by omega, by go_num, HX2.out⟩
        case measure => simp [intOf]; omega
      · skip
        have d1 : (f.op == 1) = false := by simp [ho]
        have d4 : (f.op == 4) = false := by simp [ho]
        have d5 : (f.op == 5) = false := by simp [ho]
        have d2 : (f.op == 2) = false := by simp [ho]
        have d3 : (f.op == 3) = true := by simp [ho]
        clear ho
        go_wp2_with (first | (with_reducible (refine wpList_load_agg rfl 35 _ rfl g1 (k * 7) rfl _ _ HC.out Tryd.underlying35 rfl (size_inst7 _ _ _ _ _ _ _) ?_)))
        refine (there_any f.x L.length (w.heap.size + 1) _ HXA.out.2 (by omega) (by omega)).mono ?_
        rintro e w1 ⟨rfl, hb1⟩
        have HX1 := hid (And.intro (HXA.out.1.trans (hb1.mono HXA.out.1.size)) (HXA.out.2.below hb1 HXA.out.2.lt))
        clear hb1
        go_wp2_with fail
        go_roundw
        case rel => exact ⟨k + 1, by omega, by go_num, HX1.out⟩
        case measure => simp [intOf]; omega
      · skip
        have d1 : (f.op == 1) = false := by simp [ho]
        have d4 : (f.op == 4) = false := by simp [ho]
        have d5 : (f.op == 5) = false := by simp [ho]
        have d2 : (f.op == 2) = false := by simp [ho]
        have d3 : (f.op == 3) = false := by simp [ho]
        have d6 : (f.op == 6) = true := by simp [ho]
        clear ho
        go_wp2_with (first | (with_reducible (refine wpList_load_agg rfl 35 _ rfl g1 (k * 7) rfl _ _ HC.out Tryd.underlying35 rfl (size_inst7 _ _ _ _ _ _ _) ?_)))
        go_roundw
        case rel => exact ⟨k + 1, by omega, by go_num, HXA.out⟩
        case measure => simp [intOf]; omega
    · obtain rfl : k = L.length := by omega
      go_wp2_with fail
      all_goals go_ret
      all_goals exact ⟨rfl, HX.out.1⟩
end Go.Proofs.YtjjhdddlbgdkeaaDoor

/- The instructions of a tree are right: the plain law. No program. -/
namespace Go.Proofs.YtjjhdddlbgdkeaaDoor
open Go.RowKit

def Inst.okTo (hi : Nat) (i : Inst) : Prop := (i.op = 1 ∨ i.op = 4 ∨ i.op = 5) ∨ (i.op = 2 ∧ (0 ≤ i.x ∧ i.x ≤ hi) ∧ (0 ≤ i.y ∧ i.y ≤ hi)) ∨ (i.op = 3 ∧ (0 ≤ i.x ∧ i.x ≤ hi))
theorem Inst.okTo.mono {a b : Nat} {i : Inst} (h : i.okTo a) (hab : a ≤ b) : i.okTo b := by
  unfold Inst.okTo at *
  rcases h with h | ⟨h, h1, h2⟩ | ⟨h, h1⟩
  · exact .inl h
  · exact .inr (.inl ⟨h, by omega, by omega⟩)
  · exact .inr (.inr ⟨h, by omega⟩)
theorem isplit_ok {hi : Nat} {x y : Int} (h1 : 0 ≤ x ∧ x ≤ hi) (h2 : 0 ≤ y ∧ y ≤ hi) : (isplit x y).okTo hi := .inr (.inl ⟨rfl, h1, h2⟩)
theorem ijump_ok {hi : Nat} {x : Int} (h1 : 0 ≤ x ∧ x ≤ hi) : (ijump x).okTo hi := .inr (.inr ⟨rfl, h1⟩)
mutual
theorem Re.gen_ok : ∀ (t : Re) (n : Nat) (i : Inst), i ∈ t.gen n → i.okTo (n + t.csize)
  | .mk p xs, n, i, h => by
    have h1 := Re.gens_ok xs n i
    have h2 := Re.gens_ok xs (n + 1) i
    have h3 := Re.galt_ok xs n (n + Re.asize xs) i (Nat.le_refl _)
    rw [Re.gen] at h
    rw [Re.csize]
    by_cases o2 : p.op = 2
    · rw [if_pos o2] at h; rw [List.mem_singleton.1 h]; exact .inl (.inl rfl)
    rw [if_neg o2] at h
    by_cases o7 : p.op = 7
    · rw [if_pos o7] at h; rw [List.mem_singleton.1 h]; exact .inl (.inr (.inl rfl))
    rw [if_neg o7] at h
    by_cases o8 : p.op = 8
    · rw [if_pos o8] at h; rw [List.mem_singleton.1 h]; exact .inl (.inr (.inr rfl))
    rw [if_neg o8] at h
    rw [if_neg (show ¬ (p.op = 2 ∨ p.op = 7 ∨ p.op = 8) by omega)]
    by_cases o4 : p.op = 4
    · rw [if_pos o4] at h ⊢; exact h3 h
    rw [if_neg o4] at h ⊢
    by_cases o5 : p.op = 5
    · rw [if_pos o5] at h ⊢
      by_cases hl : p.lo = 1
      · rw [if_pos hl] at h ⊢
        rcases List.mem_append.1 h with h | h
        · exact (h1 h).mono (by omega)
        · rw [List.mem_singleton.1 h]; exact isplit_ok (by omega) (by omega)
      · rw [if_neg hl] at h ⊢
        rcases List.mem_cons.1 h with h | h
        · rw [h]; exact isplit_ok (by omega) (by split <;> omega)
        rcases List.mem_append.1 h with h | h
        · exact (h2 h).mono (by omega)
        · by_cases hh : p.hi < 0
          · rw [if_pos hh] at h; rw [List.mem_singleton.1 h]; exact ijump_ok (by omega)
          · rw [if_neg hh] at h; cases h
    · rw [if_neg o5] at h ⊢; exact h1 h
theorem Re.gens_ok : ∀ (xs : List Re) (n : Nat) (i : Inst), i ∈ Re.gens xs n → i.okTo (n + Re.csizes xs)
  | [], n, i, h => by rw [Re.gens] at h; cases h
  | t :: ts, n, i, h => by
    rw [Re.gens] at h
    rw [Re.csizes]
    rcases List.mem_append.1 h with h | h
    · exact (Re.gen_ok t n i h).mono (by omega)
    · exact (Re.gens_ok ts _ i h).mono (by omega)
theorem Re.galt_ok : ∀ (xs : List Re) (n fin : Nat) (i : Inst), n + Re.asize xs ≤ fin → i ∈ Re.galt xs n fin → i.okTo fin
  | [], n, fin, i, _, h => by rw [Re.galt] at h; cases h
  | t :: ts, n, fin, i, hf, h => by
    have h1 := Re.gen_ok t n i
    have h2 := Re.gen_ok t (n + 1) i
    have h3 := Re.galt_ok ts (n + t.csize + 2) fin i
    rw [Re.galt] at h
    rw [Re.asize] at hf
    by_cases he : ts.isEmpty = true
    · rw [if_pos he] at h hf
      exact (h1 h).mono (by omega)
    · rw [if_neg he] at h hf
      rcases List.mem_cons.1 h with h | h
      · rw [h]; exact isplit_ok (by omega) (by omega)
      rcases List.mem_append.1 h with h | h
      · rcases List.mem_append.1 h with h | h
        · exact (h2 h).mono (by omega)
        · rw [List.mem_singleton.1 h]; exact ijump_ok (by omega)
      · exact h3 (by omega) h
end
/-- A program behind no error: its instructions, of which there are at most 4096. -/
theorem Re.compiled_zero {t : Re} (h : t.compiled.2 = 0) : t.err = 0 ∧ t.expandR.2 = 0 ∧ t.compiled.1 = t.expandR.1.gen 0 ++ [Inst.of 6] ∧ t.expandR.1.csize + 1 ≤ 4096 ∧ ¬ 0 < t.backs := by
  by_cases h1 : t.err = 0
  · by_cases h2 : 0 < t.backs
    · rw [Re.compiled_back h1 h2] at h; cases h
    · by_cases h3 : t.expandR.2 = 0
      · by_cases h4 : 4096 < t.expandR.1.csize + 1
        · rw [Re.compiled_long h1 h2 h3 h4] at h; cases h
        · rw [Re.compiled_ok h1 h2 h3 h4]; exact ⟨h1, h3, rfl, by omega, h2⟩
      · rw [Re.compiled_much h1 h2 h3] at h; exact absurd h h3
  · rw [Re.compiled_err h1] at h; exact absurd h h1
theorem Re.compiled_none {t : Re} (h : t.compiled.2 ≠ 0) : t.compiled.1 = [] := by
  by_cases h1 : t.err = 0
  · by_cases h2 : 0 < t.backs
    · rw [Re.compiled_back h1 h2]
    · by_cases h3 : t.expandR.2 = 0
      · by_cases h4 : 4096 < t.expandR.1.csize + 1
        · rw [Re.compiled_long h1 h2 h3 h4]
        · rw [Re.compiled_ok h1 h2 h3 h4] at h; exact absurd rfl h
      · rw [Re.compiled_much h1 h2 h3]
  · rw [Re.compiled_err h1]
theorem Re.compiled_len {t : Re} (h : t.compiled.2 = 0) : t.compiled.1.length = t.expandR.1.csize + 1 := by
  rw [(Re.compiled_zero h).2.2.1, List.length_append, Re.gen_len]; rfl
theorem Re.compiled_max (t : Re) : t.compiled.1.length ≤ 4096 := by
  by_cases h : t.compiled.2 = 0
  · rw [Re.compiled_len h]; exact (Re.compiled_zero h).2.2.2.1
  · rw [Re.compiled_none h]; simp
/-- Each instruction but the last one is no match and has targets inside; the last one is a match. -/
theorem Re.compiled_at {t : Re} (h : t.compiled.2 = 0) (k : Nat) (hk : k < t.compiled.1.length) : (k + 1 < t.compiled.1.length ∧ t.compiled.1[k].okTo t.expandR.1.csize) ∨ (k + 1 = t.compiled.1.length ∧ t.compiled.1[k] = Inst.of 6) := by
  have hl := Re.compiled_len h
  obtain ⟨h1, h2, h3, h4, _⟩ := Re.compiled_zero h
  have hg := Re.gen_len t.expandR.1 0
  by_cases hk2 : k < t.expandR.1.csize
  · refine .inl ⟨by omega, ?_⟩
    have he : t.compiled.1[k] = (t.expandR.1.gen 0)[k] := by simp only [h3]; rw [List.getElem_append_left (by omega)]
    rw [he]
    have := Re.gen_ok t.expandR.1 0 _ (List.getElem_mem (by omega : k < (t.expandR.1.gen 0).length))
    simpa using this
  · refine .inr ⟨by omega, ?_⟩
    simp only [h3]
    rw [List.getElem_append_right (by omega)]
    simp
theorem Re.compiled_right {t : Re} (h : t.compiled.2 = 0) : rightAll t.compiled.1 := by
  have hl := Re.compiled_len h
  have h4 := (Re.compiled_zero h).2.2.2.1
  refine ⟨⟨by omega, by omega⟩, fun k hk => ?_⟩
  rcases Re.compiled_at h k hk with ⟨h1, h2⟩ | ⟨h1, h2⟩
  · rcases h2 with h2 | ⟨h2, h3, h5⟩ | ⟨h2, h3⟩
    · exact .inl ⟨h2, h1⟩
    · exact .inr (.inl ⟨h2, by omega, by omega⟩)
    · exact .inr (.inr (.inl ⟨h2, by omega⟩))
  · rw [h2]; exact .inr (.inr (.inr rfl))
theorem Re.compiled_match {t : Re} (h : t.compiled.2 = 0) (k : Nat) (hk : k < t.compiled.1.length) : (t.compiled.1[k].op = 6) ↔ (k + 1 = t.compiled.1.length) := by
  rcases Re.compiled_at h k hk with ⟨h1, h2⟩ | ⟨h1, h2⟩
  · refine ⟨fun e => ?_, fun e => by omega⟩
    rcases h2 with h2 | ⟨h2, h3, h5⟩ | ⟨h2, h3⟩ <;> omega
  · rw [h2]; exact ⟨fun _ => h1, fun _ => rfl⟩
end Go.Proofs.YtjjhdddlbgdkeaaDoor

/- The text of a program, plainly. -/
namespace Go.Proofs.YtjjhdddlbgdkeaaDoor
open Go.RowKit

/-- The decimal digits of a number. -/
def dec (n : Nat) : List UInt8 := Lib.decDigits n
theorem dec_small {n : Nat} (h : n < 10) : dec n = [UInt8.ofNat (48 + n)] := Lib.decDigits_one h
theorem dec_big {n : Nat} (h : ¬ n < 10) : dec n = dec (n / 10) ++ [UInt8.ofNat (48 + n % 10)] := by
  show Lib.decDigits n = Lib.decDigits (n / 10) ++ _
  rw [Lib.decDigits, dif_neg h]
def bs (l : List UInt8) : ByteArray := ⟨l.toArray⟩
theorem bs_app (a b : List UInt8) : bs a ++ bs b = bs (a ++ b) := by
  apply ByteArray.ext
  rw [ByteArray.data_append]
  simp [bs]
theorem bs_size (l : List UInt8) : (bs l).size = l.length := by simp [bs, ByteArray.size]
theorem bs_list (l : List UInt8) : (bs l).data.toList = l := by simp [bs]
theorem dec_len_pow : ∀ (k n : Nat), n < 10 ^ (k + 1) → (dec n).length ≤ k + 1
  | 0, n, h => by rw [dec_small (by omega)]; exact Nat.le_refl _
  | k + 1, n, h => by
    by_cases h1 : n < 10
    · rw [dec_small h1]; simp
    · rw [dec_big h1, List.length_append]
      have := dec_len_pow k (n / 10) (by rw [Nat.pow_succ] at h; omega)
      simp only [List.length_cons, List.length_nil]
      omega
theorem dec_len {n : Nat} (h : n < 100000) : (dec n).length ≤ 5 := dec_len_pow 4 n (by omega)
/-- The end of the run of bytes of a set. -/
def runEnd (a : Cs) (i : Nat) : Nat := if i < 255 ∧ a.has (i + 1) = true then runEnd a (i + 1) else i
termination_by 255 - i
decreasing_by omega
theorem runEnd_go {a : Cs} {i : Nat} (h1 : i < 255) (h2 : a.has (i + 1) = true) : runEnd a i = runEnd a (i + 1) := by rw [runEnd, if_pos ⟨h1, h2⟩]
theorem runEnd_stop {a : Cs} {i : Nat} (h : ¬ (i < 255 ∧ a.has (i + 1) = true)) : runEnd a i = i := by rw [runEnd, if_neg h]
theorem runEnd_le (a : Cs) (d i : Nat) (hd : 255 - i ≤ d) : i ≤ runEnd a i ∧ (i ≤ 255 → runEnd a i ≤ 255) ∧ (∀ j, i < j → j ≤ runEnd a i → a.has j = true) ∧ ¬ (runEnd a i < 255 ∧ a.has (runEnd a i + 1) = true) := by
  induction d generalizing i with
  | zero =>
    rw [runEnd_stop (by omega)]
    exact ⟨Nat.le_refl _, fun h => h, fun j h1 h2 => by omega, by omega⟩
  | succ d ih =>
    by_cases h : i < 255 ∧ a.has (i + 1) = true
    · rw [runEnd_go h.1 h.2]
      obtain ⟨h1, h2, h3, h4⟩ := ih (i + 1) (by omega)
      refine ⟨by omega, fun _ => h2 (by omega), fun j h5 h6 => ?_, h4⟩
      rcases Nat.lt_or_ge (i + 1) j with h7 | h7
      · exact h3 j h7 h6
      · obtain rfl : j = i + 1 := by omega
        exact h.2
    · rw [runEnd_stop h]
      exact ⟨Nat.le_refl _, fun h => h, fun j h1 h2 => by omega, h⟩
def isStart (a : Cs) (i : Nat) : Bool := a.has i && (i == 0 || !a.has (i - 1))
def runText (a : Cs) (i : Nat) : List UInt8 := 32 :: (dec i ++ (if i < runEnd a i then 45 :: dec (runEnd a i) else []))
/-- The text of the runs that begin before i. -/
def rtext (a : Cs) : Nat → List UInt8
  | 0 => []
  | i + 1 => rtext a i ++ (if isStart a i = true then runText a i else [])
theorem rtext_skip {a : Cs} {i : Nat} (h : isStart a i = false) : rtext a (i + 1) = rtext a i := by
  show rtext a i ++ _ = _
  rw [if_neg (by rw [h]; decide), List.append_nil]
theorem rtext_add {a : Cs} {i : Nat} (h : isStart a i = true) : rtext a (i + 1) = rtext a i ++ runText a i := by
  show rtext a i ++ _ = _
  rw [if_pos h]
theorem rtext_run {a : Cs} {i : Nat} (h : a.has i = true) : ∀ d, i + d ≤ runEnd a i → rtext a (i + d + 1) = rtext a (i + 1)
  | 0, _ => rfl
  | d + 1, hd => by
    have h1 := (runEnd_le a 255 i (by omega)).2.2.1
    have hp : a.has (i + d) = true := by
      rcases Nat.eq_zero_or_pos d with h0 | h0
      · subst h0; exact h
      · exact h1 _ (by omega) (by omega)
    have hs : isStart a (i + (d + 1)) = false := by
      unfold isStart
      rw [show i + (d + 1) - 1 = i + d by omega, hp]
      have : (i + (d + 1) == 0) = false := by simp
      rw [this]
      simp
    rw [rtext_skip hs, show i + (d + 1) = i + d + 1 by omega]
    exact rtext_run h d (by omega)
def sLines : List UInt8 := [108, 105, 110, 101, 115, 10]
def wordOf (op : Int) : List UInt8 := if op = 1 then [115, 101, 116] else if op = 2 then [115, 112, 108, 105, 116] else if op = 3 then [106, 117, 109, 112] else if op = 4 then [98, 101, 103, 105, 110] else if op = 5 then [101, 110, 100] else [109, 97, 116, 99, 104]
def restOf (f : Inst) : List UInt8 := if f.op = 1 then rtext f.set 256 else if f.op = 2 then 32 :: (dec f.x.toNat ++ 32 :: dec f.y.toNat) else if f.op = 3 then 32 :: dec f.x.toNat else []
def lineOf (i : Nat) (f : Inst) : List UInt8 := dec i ++ 32 :: (wordOf f.op ++ (restOf f ++ [10]))
/-- The text of the first instructions. -/
def ptext (L : List Inst) : Nat → List UInt8
  | 0 => []
  | i + 1 => ptext L i ++ lineOf i (L.getD i (Inst.of 0))
def progText (L : List Inst) (lines : Bool) : List UInt8 := (if lines = true then sLines else []) ++ ptext L L.length
end Go.Proofs.YtjjhdddlbgdkeaaDoor
