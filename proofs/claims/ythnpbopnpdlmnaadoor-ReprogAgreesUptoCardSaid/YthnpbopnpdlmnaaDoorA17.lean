/- Equality of instructions; the reference's SameInsts at equal lists. -/
import Derived.Test.YthnpbopnpdlmnaaDoorA16
import Derived.Test.YthnpbopnpdlmnaaDoorA09
import Derived.ChangeKeysEq
import Derived.Test.YthnpbopnpdlmnaaDoorA03
import Derived.OneCell
import Derived.Test.YthnpbopnpdlmnaaDoorA04
import Derived.Test.YthnpbopnpdlmnaaDoorA02
import Derived.RegionTactic
import Derived.BigRegion
import Derived.Deep.QuietTactic
import Derived.BigQuiet
namespace Go.Proofs.YthnpbopnpdlmnaaDoor
open Go.RowKit
attribute [local go_sem] gives givesUpon

theorem run_eqIn_inst (i j : Inst) (w : World) : (Op.equalIn 10000 53 (.agg #[.int .i64 i.op, .int .u64 i.set.a, .int .u64 i.set.b, .int .u64 i.set.c, .int .u64 i.set.d, .int .i64 i.x, .int .i64 i.y]) (.agg #[.int .i64 j.op, .int .u64 j.set.a, .int .u64 j.set.b, .int .u64 j.set.c, .int .u64 j.set.d, .int .i64 j.x, .int .i64 j.y])).run Tryd.prog w = .ok (decide (i = j)) w := by
  have hf : (Tryd.prog.fieldsOf 53).toList = [{ name := "Op", type := 3, offset := 0, embedded := false, tag := "", pkgPath := "", byteOffset := 0 }, { name := "Set", type := 25, offset := 1, embedded := false, tag := "", pkgPath := "", byteOffset := 8 }, { name := "X", type := 3, offset := 5, embedded := false, tag := "", pkgPath := "", byteOffset := 40 }, { name := "Y", type := 3, offset := 6, embedded := false, tag := "", pkgPath := "", byteOffset := 48 }] := by kernel_rfl
  obtain ⟨z, hi, _, _, _⟩ := info_parts info_u64
  have hc : Tryd.prog.cellsOf 22 = 1 := by kernel_rfl
  have key : decide (i = j) = ((i.op == j.op) && (((i.set.a : Int) == j.set.a) && ((i.set.b : Int) == j.set.b) && ((i.set.c : Int) == j.set.c) && ((i.set.d : Int) == j.set.d)) && (i.x == j.x) && (i.y == j.y)) := by
    rw [Bool.eq_iff_iff]
    obtain ⟨o, ⟨a, b, c, d⟩, x, y⟩ := i
    obtain ⟨o', ⟨a', b', c', d'⟩, x', y'⟩ := j
    simp only [decide_eq_true_eq, Bool.and_eq_true, beq_iff_eq, Inst.mk.injEq, Cs.mk.injEq]
    omega
  rw [key, run_equalIn_agg _ 9999 53 _ _ (by kernel_rfl) (by kernel_rfl), hf]
  simp [Op.eqFields, go_sem]
  rw [run_equalIn_array _ 9997 _ _ Tryd.underlying23 hi, hc]
  simp [Op.eqItems, List.range_succ, go_sem]
  by_cases h0 : i.op = j.op <;> by_cases h1 : (i.set.a : Int) = j.set.a <;> by_cases h2 : (i.set.b : Int) = j.set.b <;> by_cases h3 : (i.set.c : Int) = j.set.c <;> by_cases h4 : (i.set.d : Int) = j.set.d <;> by_cases h5 : i.x = j.x <;> by_cases h6 : i.y = j.y <;> simp [h0, h1, h2, h3, h4, h5, h6]
theorem size_inst7 (a b c d e f g : Value) : (Tryd.prog.info? 53).map (·.size) = some [a, b, c, d, e, f, g].length := by show _ = some 7; kernel_rfl

end Go.Proofs.YthnpbopnpdlmnaaDoor

/- The program's Valid, at lists that are valid. -/
namespace Go.Proofs.YthnpbopnpdlmnaaDoor
open Go.RowKit
attribute [local go_sem] gives givesUpon

def Inst.right (n k : Nat) (i : Inst) : Prop := ((i.op = 1 ∨ i.op = 4 ∨ i.op = 5) ∧ k + 1 < n) ∨ (i.op = 2 ∧ (0 ≤ i.x ∧ i.x < n) ∧ (0 ≤ i.y ∧ i.y < n)) ∨ (i.op = 3 ∧ (0 ≤ i.x ∧ i.x < n)) ∨ i.op = 6
def rightAll (L : List Inst) : Prop := (1 ≤ L.length ∧ L.length ≤ 4096) ∧ ∀ k (h : k < L.length), L[k].right L.length k

set_option maxHeartbeats 400000 in
theorem there_any (k : Int) (n : Nat) (B : Nat) (w : World) (hB : Row w B [.int .i64 n] 3) (h0 : 0 ≤ k) (h1 : k < n) :
    Calls Tryd.prog 24 #[.int .i64 k, .pointer (some ⟨B, 0, none⟩)] w fun e w' => e = .returned (.bool true) ∧ Below w.heap.size w w' := by
  have q := hB.c1
  go_enter Tryd.func24, Tryd.ntmps24
  go_wp2_with fail
  all_goals go_ret
  all_goals exact ⟨ret_bool (by simp), Below.refl _ _⟩

set_option maxRecDepth 100000 in
set_option maxHeartbeats 4000000 in
theorem Valid_any (w : World) (b : Nat) (v : Value) (L : List Inst) (lines : Bool) (h : OwnI w b v L) (hR : rightAll L) :
    Calls Tryd.prog 8 #[.agg #[v, .bool lines]] w fun e w' => e = .returned (.bool true) ∧ Below w.heap.size w w' := by
  obtain ⟨a, c, rfl⟩ := h.form
  obtain ⟨⟨hl1, hl2⟩, hr⟩ := hR
  have H := hid h
  have HR := hid hr
  have HB0 : Hid (Below w.heap.size w ((w.alloc (.cells #[.slice a L.length c, .bool lines] 35)).alloc (.cells #[.int .i64 L.length] 3)) ∧ Row ((w.alloc (.cells #[.slice a L.length c, .bool lines] 35)).alloc (.cells #[.int .i64 L.length] 3)) (w.heap.size + 1) [.int .i64 L.length] 3) := ⟨((Below.refl _ w).alloc (Nat.le_refl _) _).alloc (by simp) _, Row.new (cs := [.int .i64 L.length]) (by simp)⟩
  clear h hr
  go_enter Tryd.func8, Tryd.ntmps8
  go_wp2_with fail
  go_loopw [21] (fun v wr => ∃ k : Nat, k ≤ L.length ∧ v = .int .i64 k ∧ (Hid (Below w.heap.size w wr ∧ Row wr (w.heap.size + 1) [.int .i64 L.length] 3))) (fun v _ => L.length - (intOf v).toNat)
  case atStart => exact ⟨0, by omega, rfl, HB0.out⟩
  case round =>
    obtain ⟨k, hk, rfl, HX⟩ := hrel
    rcases Nat.lt_or_ge k L.length with hlt | hge
    · have hk1 : L[k]? = some L[k] := List.getElem?_eq_getElem hlt
      obtain ⟨-, g1, rfl, k1, k2, k3, -, -, -⟩ := (H.out.below HX.out.1).elem k _ hk1
      have hri := HR.out k hlt
      generalize L[k] = f at *
      have HC : Hid (CellsAt wr g1 (k * 7) [.int .i64 f.op, .int .u64 f.set.a, .int .u64 f.set.b, .int .u64 f.set.c, .int .u64 f.set.d, .int .i64 f.x, .int .i64 f.y]) := k3
      have q2 := HX.out.2.c1
      have z2 := HX.out.2.lt
      have HBA : Hid (Below wr.heap.size wr (wr.alloc (.cells #[.int .i64 f.op, .int .u64 f.set.a, .int .u64 f.set.b, .int .u64 f.set.c, .int .u64 f.set.d, .int .i64 f.x, .int .i64 f.y] 53))) := (Below.refl _ _).alloc (Nat.le_refl _) _
      have HNW : Hid (Row (wr.alloc (.cells #[.int .i64 f.op, .int .u64 f.set.a, .int .u64 f.set.b, .int .u64 f.set.c, .int .u64 f.set.d, .int .i64 f.x, .int .i64 f.y] 53)) wr.heap.size [.int .i64 f.op, .int .u64 f.set.a, .int .u64 f.set.b, .int .u64 f.set.c, .int .u64 f.set.d, .int .i64 f.x, .int .i64 f.y] 53) := Row.new rfl
      have HXA := hid (And.intro (HX.out.1.trans (HBA.out.mono HX.out.1.size)) (HX.out.2.below HBA.out z2))
      clear hk1 k1 k2 k3
      rcases hri with ⟨ho, hk2⟩ | ⟨ho, hx, hy⟩ | ⟨ho, hx⟩ | ho
      · have hk3 : (k : Int) < (L.length : Int) - 1 := by omega
        rcases ho with ho | ho | ho
        · skip
          have d1 : (f.op == 1) = true := by simp [ho]
          clear ho
          go_wp2_with (first | (with_reducible (refine wpList_load_agg rfl 53 _ rfl g1 (k * 7) rfl _ _ HC.out Tryd.underlying53 rfl (size_inst7 _ _ _ _ _ _ _) ?_)))
          go_roundw
          case rel => exact ⟨k + 1, by omega, by go_num, HXA.out⟩
          case measure => simp [intOf]; omega
        · skip
          have d1 : (f.op == 1) = false := by simp [ho]
          have d4 : (f.op == 4) = true := by simp [ho]
          clear ho
          go_wp2_with (first | (with_reducible (refine wpList_load_agg rfl 53 _ rfl g1 (k * 7) rfl _ _ HC.out Tryd.underlying53 rfl (size_inst7 _ _ _ _ _ _ _) ?_)))
          go_roundw
          case rel => exact ⟨k + 1, by omega, by go_num, HXA.out⟩
          case measure => simp [intOf]; omega
        · skip
          have d1 : (f.op == 1) = false := by simp [ho]
          have d4 : (f.op == 4) = false := by simp [ho]
          have d5 : (f.op == 5) = true := by simp [ho]
          clear ho
          go_wp2_with (first | (with_reducible (refine wpList_load_agg rfl 53 _ rfl g1 (k * 7) rfl _ _ HC.out Tryd.underlying53 rfl (size_inst7 _ _ _ _ _ _ _) ?_)))
          go_roundw
          case rel => exact ⟨k + 1, by omega, by go_num, HXA.out⟩
          case measure => simp [intOf]; omega
      · skip
        have d1 : (f.op == 1) = false := by simp [ho]
        have d4 : (f.op == 4) = false := by simp [ho]
        have d5 : (f.op == 5) = false := by simp [ho]
        have d2 : (f.op == 2) = true := by simp [ho]
        clear ho
        go_wp2_with (first | (with_reducible (refine wpList_load_agg rfl 53 _ rfl g1 (k * 7) rfl _ _ HC.out Tryd.underlying53 rfl (size_inst7 _ _ _ _ _ _ _) ?_)))
        refine (there_any f.x L.length (w.heap.size + 1) _ HXA.out.2 (by omega) (by omega)).mono ?_
        rintro e w1 ⟨rfl, hb1⟩
        have HX1 := hid (And.intro (HXA.out.1.trans (hb1.mono HXA.out.1.size)) (HXA.out.2.below hb1 HXA.out.2.lt))
        have HN1 := hid (HNW.out.below hb1 HNW.out.lt)
        have q3 := HN1.out.c7f
        have z3 := HN1.out.lt
        clear hb1 HNW q2
        go_wp2_with fail
        refine (there_any f.y L.length (w.heap.size + 1) _ HX1.out.2 (by omega) (by omega)).mono ?_
        rintro e w2 ⟨rfl, hb2⟩
        have HX2 := hid (And.intro (HX1.out.1.trans (hb2.mono HX1.out.1.size)) (HX1.out.2.below hb2 HX1.out.2.lt))
        clear hb2 HX1
        go_wp2_with fail
        go_roundw
        case rel => exact ⟨k + 1, by omega, by go_num, HX2.out⟩
        case measure => simp [intOf]; omega
      · skip
        have d1 : (f.op == 1) = false := by simp [ho]
        have d4 : (f.op == 4) = false := by simp [ho]
        have d5 : (f.op == 5) = false := by simp [ho]
        have d2 : (f.op == 2) = false := by simp [ho]
        have d3 : (f.op == 3) = true := by simp [ho]
        clear ho
        go_wp2_with (first | (with_reducible (refine wpList_load_agg rfl 53 _ rfl g1 (k * 7) rfl _ _ HC.out Tryd.underlying53 rfl (size_inst7 _ _ _ _ _ _ _) ?_)))
        refine (there_any f.x L.length (w.heap.size + 1) _ HXA.out.2 (by omega) (by omega)).mono ?_
        rintro e w1 ⟨rfl, hb1⟩
        have HX1 := hid (And.intro (HXA.out.1.trans (hb1.mono HXA.out.1.size)) (HXA.out.2.below hb1 HXA.out.2.lt))
        clear hb1
        go_wp2_with fail
        go_roundw
        case rel => exact ⟨k + 1, by omega, by go_num, HX1.out⟩
        case measure => simp [intOf]; omega
      · skip
        have d1 : (f.op == 1) = false := by simp [ho]
        have d4 : (f.op == 4) = false := by simp [ho]
        have d5 : (f.op == 5) = false := by simp [ho]
        have d2 : (f.op == 2) = false := by simp [ho]
        have d3 : (f.op == 3) = false := by simp [ho]
        have d6 : (f.op == 6) = true := by simp [ho]
        clear ho
        go_wp2_with (first | (with_reducible (refine wpList_load_agg rfl 53 _ rfl g1 (k * 7) rfl _ _ HC.out Tryd.underlying53 rfl (size_inst7 _ _ _ _ _ _ _) ?_)))
        go_roundw
        case rel => exact ⟨k + 1, by omega, by go_num, HXA.out⟩
        case measure => simp [intOf]; omega
    · obtain rfl : k = L.length := by omega
      go_wp2_with fail
      all_goals go_ret
      all_goals exact ⟨rfl, HX.out.1⟩
end Go.Proofs.YthnpbopnpdlmnaaDoor

/- The instructions of a tree are right: the plain law. No program. -/
namespace Go.Proofs.YthnpbopnpdlmnaaDoor
open Go.RowKit

def Inst.okTo (hi : Nat) (i : Inst) : Prop := (i.op = 1 ∨ i.op = 4 ∨ i.op = 5) ∨ (i.op = 2 ∧ (0 ≤ i.x ∧ i.x ≤ hi) ∧ (0 ≤ i.y ∧ i.y ≤ hi)) ∨ (i.op = 3 ∧ (0 ≤ i.x ∧ i.x ≤ hi))
theorem Inst.okTo.mono {a b : Nat} {i : Inst} (h : i.okTo a) (hab : a ≤ b) : i.okTo b := by
  unfold Inst.okTo at *
  rcases h with h | ⟨h, h1, h2⟩ | ⟨h, h1⟩
  · exact .inl h
  · exact .inr (.inl ⟨h, by omega, by omega⟩)
  · exact .inr (.inr ⟨h, by omega⟩)
theorem isplit_ok {hi : Nat} {x y : Int} (h1 : 0 ≤ x ∧ x ≤ hi) (h2 : 0 ≤ y ∧ y ≤ hi) : (isplit x y).okTo hi := .inr (.inl ⟨rfl, h1, h2⟩)
theorem ijump_ok {hi : Nat} {x : Int} (h1 : 0 ≤ x ∧ x ≤ hi) : (ijump x).okTo hi := .inr (.inr ⟨rfl, h1⟩)
mutual
theorem Re.gen_ok : ∀ (t : Re) (n : Nat) (i : Inst), i ∈ t.gen n → i.okTo (n + t.csize)
  | .mk p xs, n, i, h => by
    have h1 := Re.gens_ok xs n i
    have h2 := Re.gens_ok xs (n + 1) i
    have h3 := Re.galt_ok xs n (n + Re.asize xs) i (Nat.le_refl _)
    rw [Re.gen] at h
    rw [Re.csize]
    by_cases o2 : p.op = 2
    · rw [if_pos o2] at h; rw [List.mem_singleton.1 h]; exact .inl (.inl rfl)
    rw [if_neg o2] at h
    by_cases o7 : p.op = 7
    · rw [if_pos o7] at h; rw [List.mem_singleton.1 h]; exact .inl (.inr (.inl rfl))
    rw [if_neg o7] at h
    by_cases o8 : p.op = 8
    · rw [if_pos o8] at h; rw [List.mem_singleton.1 h]; exact .inl (.inr (.inr rfl))
    rw [if_neg o8] at h
    rw [if_neg (show ¬ (p.op = 2 ∨ p.op = 7 ∨ p.op = 8) by omega)]
    by_cases o4 : p.op = 4
    · rw [if_pos o4] at h ⊢; exact h3 h
    rw [if_neg o4] at h ⊢
    by_cases o5 : p.op = 5
    · rw [if_pos o5] at h ⊢
      by_cases hl : p.lo = 1
      · rw [if_pos hl] at h ⊢
        rcases List.mem_append.1 h with h | h
        · exact (h1 h).mono (by omega)
        · rw [List.mem_singleton.1 h]; exact isplit_ok (by omega) (by omega)
      · rw [if_neg hl] at h ⊢
        rcases List.mem_cons.1 h with h | h
        · rw [h]; exact isplit_ok (by omega) (by split <;> omega)
        rcases List.mem_append.1 h with h | h
        · exact (h2 h).mono (by omega)
        · by_cases hh : p.hi < 0
          · rw [if_pos hh] at h; rw [List.mem_singleton.1 h]; exact ijump_ok (by omega)
          · rw [if_neg hh] at h; cases h
    · rw [if_neg o5] at h ⊢; exact h1 h
theorem Re.gens_ok : ∀ (xs : List Re) (n : Nat) (i : Inst), i ∈ Re.gens xs n → i.okTo (n + Re.csizes xs)
  | [], n, i, h => by rw [Re.gens] at h; cases h
  | t :: ts, n, i, h => by
    rw [Re.gens] at h
    rw [Re.csizes]
    rcases List.mem_append.1 h with h | h
    · exact (Re.gen_ok t n i h).mono (by omega)
    · exact (Re.gens_ok ts _ i h).mono (by omega)
theorem Re.galt_ok : ∀ (xs : List Re) (n fin : Nat) (i : Inst), n + Re.asize xs ≤ fin → i ∈ Re.galt xs n fin → i.okTo fin
  | [], n, fin, i, _, h => by rw [Re.galt] at h; cases h
  | t :: ts, n, fin, i, hf, h => by
    have h1 := Re.gen_ok t n i
    have h2 := Re.gen_ok t (n + 1) i
    have h3 := Re.galt_ok ts (n + t.csize + 2) fin i
    rw [Re.galt] at h
    rw [Re.asize] at hf
    by_cases he : ts.isEmpty = true
    · rw [if_pos he] at h hf
      exact (h1 h).mono (by omega)
    · rw [if_neg he] at h hf
      rcases List.mem_cons.1 h with h | h
      · rw [h]; exact isplit_ok (by omega) (by omega)
      rcases List.mem_append.1 h with h | h
      · rcases List.mem_append.1 h with h | h
        · exact (h2 h).mono (by omega)
        · rw [List.mem_singleton.1 h]; exact ijump_ok (by omega)
      · exact h3 (by omega) h
end
theorem Re.compiled_zero {t : Re} (h : t.compiled.2 = 0) : t.err = 0 ∧ t.expandR.2 = 0 ∧ t.compiled.1 = t.expandR.1.gen 0 ++ [Inst.of 6] ∧ t.expandR.1.csize + 1 ≤ 4096 ∧ ¬ 0 < t.backs := by
  by_cases h1 : t.err = 0
  · by_cases h2 : 0 < t.backs
    · rw [Re.compiled_back h1 h2] at h; cases h
    · by_cases h3 : t.expandR.2 = 0
      · by_cases h4 : 4096 < t.expandR.1.csize + 1
        · rw [Re.compiled_long h1 h2 h3 h4] at h; cases h
        · rw [Re.compiled_ok h1 h2 h3 h4]; exact ⟨h1, h3, rfl, by omega, h2⟩
      · rw [Re.compiled_much h1 h2 h3] at h; exact absurd h h3
  · rw [Re.compiled_err h1] at h; exact absurd h h1
theorem Re.compiled_none {t : Re} (h : t.compiled.2 ≠ 0) : t.compiled.1 = [] := by
  by_cases h1 : t.err = 0
  · by_cases h2 : 0 < t.backs
    · rw [Re.compiled_back h1 h2]
    · by_cases h3 : t.expandR.2 = 0
      · by_cases h4 : 4096 < t.expandR.1.csize + 1
        · rw [Re.compiled_long h1 h2 h3 h4]
        · rw [Re.compiled_ok h1 h2 h3 h4] at h; exact absurd rfl h
      · rw [Re.compiled_much h1 h2 h3]
  · rw [Re.compiled_err h1]
theorem Re.compiled_len {t : Re} (h : t.compiled.2 = 0) : t.compiled.1.length = t.expandR.1.csize + 1 := by
  rw [(Re.compiled_zero h).2.2.1, List.length_append, Re.gen_len]; rfl
theorem Re.compiled_max (t : Re) : t.compiled.1.length ≤ 4096 := by
  by_cases h : t.compiled.2 = 0
  · rw [Re.compiled_len h]; exact (Re.compiled_zero h).2.2.2.1
  · rw [Re.compiled_none h]; simp
theorem Re.compiled_at {t : Re} (h : t.compiled.2 = 0) (k : Nat) (hk : k < t.compiled.1.length) : (k + 1 < t.compiled.1.length ∧ t.compiled.1[k].okTo t.expandR.1.csize) ∨ (k + 1 = t.compiled.1.length ∧ t.compiled.1[k] = Inst.of 6) := by
  have hl := Re.compiled_len h
  obtain ⟨h1, h2, h3, h4, _⟩ := Re.compiled_zero h
  have hg := Re.gen_len t.expandR.1 0
  by_cases hk2 : k < t.expandR.1.csize
  · refine .inl ⟨by omega, ?_⟩
    have he : t.compiled.1[k] = (t.expandR.1.gen 0)[k] := by simp only [h3]; rw [List.getElem_append_left (by omega)]
    rw [he]
    have := Re.gen_ok t.expandR.1 0 _ (List.getElem_mem (by omega : k < (t.expandR.1.gen 0).length))
    simpa using this
  · refine .inr ⟨by omega, ?_⟩
    simp only [h3]
    rw [List.getElem_append_right (by omega)]
    simp
theorem Re.compiled_right {t : Re} (h : t.compiled.2 = 0) : rightAll t.compiled.1 := by
  have hl := Re.compiled_len h
  have h4 := (Re.compiled_zero h).2.2.2.1
  refine ⟨⟨by omega, by omega⟩, fun k hk => ?_⟩
  rcases Re.compiled_at h k hk with ⟨h1, h2⟩ | ⟨h1, h2⟩
  · rcases h2 with h2 | ⟨h2, h3, h5⟩ | ⟨h2, h3⟩
    · exact .inl ⟨h2, h1⟩
    · exact .inr (.inl ⟨h2, by omega, by omega⟩)
    · exact .inr (.inr (.inl ⟨h2, by omega⟩))
  · rw [h2]; exact .inr (.inr (.inr rfl))
theorem Re.compiled_match {t : Re} (h : t.compiled.2 = 0) (k : Nat) (hk : k < t.compiled.1.length) : (t.compiled.1[k].op = 6) ↔ (k + 1 = t.compiled.1.length) := by
  rcases Re.compiled_at h k hk with ⟨h1, h2⟩ | ⟨h1, h2⟩
  · refine ⟨fun e => ?_, fun e => by omega⟩
    rcases h2 with h2 | ⟨h2, h3, h5⟩ | ⟨h2, h3⟩ <;> omega
  · rw [h2]; exact ⟨fun _ => h1, fun _ => rfl⟩
end Go.Proofs.YthnpbopnpdlmnaaDoor

/- The simulation of a program, plainly: what is reached without a byte, and after bytes; a depth-first search over marks. No program. -/
namespace Go.Proofs.YthnpbopnpdlmnaaDoor
open Go.RowKit

structure Sim where
  L : List Inst
  lines : Bool
  s : List UInt8
namespace Sim
def byte (m : Sim) (i : Nat) : Nat := (m.s.getD i 0).toNat
def begins (m : Sim) (i : Nat) : Bool := i == 0 || (m.lines && (m.byte (i - 1) == 10))
def ends (m : Sim) (i : Nat) : Bool := i == m.s.length || (m.lines && (m.byte i == 10))
def inst (m : Sim) (k : Nat) : Inst := m.L.getD k (Inst.of 0)
def eps (m : Sim) (i k : Nat) : List Nat :=
  if (m.inst k).op = 3 then [(m.inst k).x.toNat] else if (m.inst k).op = 2 then [(m.inst k).y.toNat, (m.inst k).x.toNat] else
  if (m.inst k).op = 4 then (if m.begins i = true then [k + 1] else []) else if (m.inst k).op = 5 then (if m.ends i = true then [k + 1] else []) else []
def leaf (m : Sim) (k : Nat) : Prop := (m.inst k).op = 1 ∨ (m.inst k).op = 6
inductive Reach (m : Sim) (i : Nat) (S : Nat → Prop) : Nat → Prop
  | base {k : Nat} : S k → Reach m i S k
  | step {k j : Nat} : Reach m i S k → j ∈ m.eps i k → Reach m i S j
def takes (m : Sim) (i k : Nat) : Prop := (m.inst k).op = 1 ∧ (m.inst k).set.has (m.byte i) = true
def R (m : Sim) (a : Nat) : Nat → Nat → Prop
  | 0 => m.Reach a (· = 0)
  | n + 1 => m.Reach (a + (n + 1)) (fun k => ∃ j, m.R a n j ∧ m.takes (a + n) j ∧ k = j + 1)
theorem Reach.least {m : Sim} {i : Nat} {S V : Nat → Prop} (h0 : ∀ k, S k → V k) (h1 : ∀ k, V k → ∀ j, j ∈ m.eps i k → V j) {k : Nat} (h : m.Reach i S k) : V k := by
  induction h with
  | base h => exact h0 _ h
  | step _ hj ih => exact h1 _ ih _ hj
theorem Reach.mono {m : Sim} {i : Nat} {S T : Nat → Prop} (h0 : ∀ k, S k → T k) {k : Nat} (h : m.Reach i S k) : m.Reach i T k := by
  induction h with
  | base h => exact .base (h0 _ h)
  | step _ hj ih => exact .step ih hj
theorem Reach.join {m : Sim} {i : Nat} {S : Nat → Prop} {x k : Nat} (hx : S x) (h : m.Reach i (· = x) k) : m.Reach i S k := h.mono fun _ e => by subst e; exact hx
theorem inst_eq {m : Sim} {k : Nat} (h : k < m.L.length) : m.inst k = m.L[k] := by
  unfold inst
  rw [List.getD_eq_getElem?_getD, List.getElem?_eq_getElem h]
  rfl
theorem right_of {m : Sim} (hR : rightAll m.L) {k : Nat} (h : k < m.L.length) : (m.inst k).right m.L.length k := by
  rw [inst_eq h]
  exact hR.2 k h
theorem takes_lt {m : Sim} (hR : rightAll m.L) {i k : Nat} (h : k < m.L.length) (ht : m.takes i k) : k + 1 < m.L.length := by
  have hr := right_of hR h
  have := ht.1
  unfold Inst.right at hr
  omega
end Sim
end Go.Proofs.YthnpbopnpdlmnaaDoor

/- A simulation in memory; begins and ends. -/
namespace Go.Proofs.YthnpbopnpdlmnaaDoor
open Go.RowKit
attribute [local go_sem] gives givesUpon

def InsAt (w : World) (a : Option Addr) (L : List Inst) : Prop := L = [] ∨ ∃ b o, a = some ⟨b, o, none⟩ ∧ b < w.heap.size ∧ ∀ i (h : i < L.length), CellsAt w b (o + i * 7) L[i].cells
theorem InsAt.below {w w' : World} {a : Option Addr} {L : List Inst} {n : Nat} (h : InsAt w a L) (hb : Below n w w') (hn : w.heap.size ≤ n) : InsAt w' a L := by
  rcases h with h | ⟨b, o, rfl, h1, h2⟩
  · exact .inl h
  · exact .inr ⟨b, o, rfl, Nat.lt_of_lt_of_le h1 hb.size, fun i hi j v hj => by rw [hb.cell (p := ⟨b, o + i * 7 + j, none⟩) (show b < n by omega)]; exact h2 i hi j v hj⟩
theorem InsAt.at {w : World} {a : Option Addr} {L : List Inst} (h : InsAt w a L) {k : Nat} (hk : k < L.length) : ∃ b o, a = some ⟨b, o, none⟩ ∧ b < w.heap.size ∧ CellsAt w b (o + k * 7) L[k].cells := by
  rcases h with h | ⟨b, o, e, h1, h2⟩
  · rw [h] at hk; cases hk
  · exact ⟨b, o, e, h1, h2 k hk⟩
structure SimC (CS : List Value) (a : Option Addr) (n c : Nat) (lines : Bool) (str : ByteArray) (mk : Nat → Int) (st : Int) (sv : Value) : Prop where
  len : CS.length = 4101
  f0 : CS[0]? = some (.slice a n c)
  f1 : CS[1]? = some (.bool lines)
  f2 : CS[2]? = some (.string str)
  fm : ∀ k, k < 4096 → CS[3 + k]? = some (.int .i64 (mk k))
  fs : CS[4099]? = some (.int .i64 st)
  fk : CS[4100]? = some sv
section
variable {w w' : World} {M : Nat} {a : Option Addr} {n c : Nat} {lines : Bool} {str : ByteArray} {mk : Nat → Int} {st : Int} {sv : Value}
end
theorem byte_eq {m : Sim} {str : ByteArray} (hs : m.s = str.data.toList) {i : Nat} (hi : i < str.size) : m.byte i = (str[i]).toNat := by
  unfold Sim.byte
  rw [hs, List.getD_eq_getElem?_getD]
  have h1 : i < str.data.toList.length := by rw [Array.length_toList]; exact hi
  rw [List.getElem?_eq_getElem h1]
  rfl
theorem size_eq {m : Sim} {str : ByteArray} (hs : m.s = str.data.toList) : m.s.length = str.size := by rw [hs, Array.length_toList]; rfl
end Go.Proofs.YthnpbopnpdlmnaaDoor

/- Spans and trees as the layers of matching use them, in memory; what several layers share. -/
namespace Go.Proofs.YthnpbopnpdlmnaaDoor
open Go.RowKit
attribute [local go_sem] gives givesUpon

abbrev Spans := List (Int × Int)
mutual
def withinOf : Re → List Nat
  | .mk p xs => (if p.op = 6 then [p.gr.toNat] else []) ++ withinAll xs
def withinAll : List Re → List Nat
  | [] => []
  | x :: xs => withinOf x ++ withinAll xs
end
def unset (sp : Spans) (gs : List Nat) : Spans := gs.foldl (fun l g => l.set (g - 1) (-1, -1)) sp
def byteAt (s : List UInt8) (k : Nat) : UInt8 := s.getD k 0
theorem Row.typed {w : World} {B : Nat} {cs ds : List Value} {T U : TypeId} (h : Row w B cs T) (k : Row w B ds U) : T = U := by
  have e := Option.some.inj (h.symm.trans k)
  injection e
def spc : Spans → List Value
  | [] => []
  | x :: l => .int .i64 x.1 :: .int .i64 x.2 :: spc l
theorem spc_length : ∀ l : Spans, (spc l).length = l.length * 2
  | [] => rfl
  | x :: l => by simp [spc, spc_length l]; omega
theorem spc_get : ∀ (l : Spans) (k : Nat) (x : Int × Int), l[k]? = some x → (spc l)[2 * k]? = some (.int .i64 x.1) ∧ (spc l)[2 * k + 1]? = some (.int .i64 x.2)
  | y :: l, 0, x, h => by simp at h; subst h; exact ⟨rfl, rfl⟩
  | y :: l, k + 1, x, h => by
    have := spc_get l k x (by simpa using h)
    simpa [spc, show 2 * (k + 1) = 2 * k + 2 by omega] using this
theorem spc_set : ∀ (l : Spans) (k : Nat) (x : Int × Int), spc (l.set k x) = ((spc l).set (2 * k) (.int .i64 x.1)).set (2 * k + 1) (.int .i64 x.2)
  | [], k, x => rfl
  | y :: l, 0, x => rfl
  | y :: l, k + 1, x => by simp [spc, spc_set l k x, show 2 * (k + 1) = 2 * k + 2 by omega, show 2 * k + 2 + 1 = (2 * k + 1) + 2 by omega]
mutual
def Re.ok (N : Nat) : Re → Prop
  | .mk p xs => ((1 ≤ p.op ∧ p.op ≤ 9) ∧ Re.sizes xs ≤ 1000000) ∧ (p.op = 3 ∨ p.op = 4 → xs ≠ []) ∧ (p.op = 5 ∨ p.op = 6 → ∃ x, xs = [x]) ∧ (p.op = 6 ∨ p.op = 9 → 1 ≤ p.gr ∧ p.gr ≤ N) ∧ Re.oks N xs
def Re.oks (N : Nat) : List Re → Prop
  | [] => True
  | t :: ts => t.ok N ∧ Re.oks N ts
end
def SpOk (N L : Nat) (sp : Spans) : Prop := sp.length = N ∧ ∀ x, x ∈ sp → x = (-1, -1) ∨ 0 ≤ x.1 ∧ x.1 ≤ x.2 ∧ x.2 ≤ L
set_option maxHeartbeats 400000 in
theorem PHas_any (s : Cs) (c : Nat) (w : World) (hs : s.wf) (hc : c < 256) :
    Calls Tryd.prog 46 #[.agg #[.int .u64 s.a, .int .u64 s.b, .int .u64 s.c, .int .u64 s.d], .int .u8 c] w fun e w' => e = .returned (.bool (s.has c)) ∧ Below w.heap.size w w' := by
  have h1 : ((c : Int) / 64 = 0 ∨ (c : Int) / 64 = 1 ∨ (c : Int) / 64 = 2 ∨ (c : Int) / 64 = 3) := by omega
  have h0 : (0 : Int) ≤ c ∧ (c : Int) < 256 := by omega
  have h2 : 0 ≤ (c : Int) % 64 ∧ (c : Int) % 64 < 64 := by omega
  rcases h1 with h | h | h | h
  all_goals
    go_enter Tryd.func46, Tryd.ntmps46
    go_wp2
    go_ret
    refine ⟨congrArg (fun b => Ending.returned (.bool b)) ((has_bit _ _ ?_).trans ?_), (Below.refl _ _).alloc (Nat.le_refl _) _⟩
    · first | exact hs.a | exact hs.b | exact hs.c | exact hs.d
    · unfold Cs.has Cs.word
      first | (rw [show c / 64 = 0 by omega]; done) | (rw [show c / 64 = 0 by omega]; rfl) | (rw [show c / 64 = 1 by omega]; rfl) | (rw [show c / 64 = 2 by omega]; rfl) | (rw [show c / 64 = 3 by omega]; rfl)
theorem grow_below {w x : World} (hx : Grow w.drew x) : Below w.heap.size w x := ⟨hx.os, hx.tape, hx.output, hx.size, hx.block⟩
theorem Row.grow {w x : World} {B : Nat} {cs : List Value} {T : TypeId} (h : Row w B cs T) (hx : Grow w.drew x) : Row x B cs T := h.below (grow_below hx) h.lt
theorem byteAt_eq {s : ByteArray} {i : Nat} (hi : i < s.size) : byteAt s.data.toList i = s[i] := by
  have h : i < s.data.toList.length := by rw [Array.length_toList]; exact hi
  unfold byteAt
  rw [List.getD_eq_getElem?_getD, List.getElem?_eq_getElem h]
  rfl
theorem info_span : (Tryd.prog.info? 74).map (fun i => (i.zero, i.size, i.bytes)) = some (some (.agg #[.int .i64 0, .int .i64 0]), 2, 16) := by kernel_rfl
theorem spc_one : ∀ (l : Spans) (u : Value), u ∈ spc l → u.oneCell' = true
  | x :: l, u, h => by
    simp only [spc, List.mem_cons] at h
    rcases h with rfl | rfl | h
    · rfl
    · rfl
    · exact spc_one l u h
def unsetAll (N : Nat) : Spans := List.replicate N (-1, -1)
theorem Row.grownOwn {w w' : World} {B : Nat} {cs : List Value} {T e : TypeId} {base size n : Nat} {v : Value} {xs : List Value} (r : Row w B cs T) (h : w.ownsRow base e size v n xs) (hne : T ≠ e) (hg : w.grownBy w' v.ownBlock) : Row w' B cs T := by
  refine (hg.block B r.lt fun e1 => ?_).trans r
  obtain ⟨-, h2⟩ := h
  rcases h2 with ⟨hv, -⟩ | ⟨g', cap, cur, hv, -, hh, -⟩
  · rw [hv] at e1; cases e1
  · rw [hv] at e1
    have e2 : B = g' := by simpa [Value.ownBlock] using e1
    subst e2
    unfold Row at r
    rw [hh] at r
    simp only [Option.some.injEq, Obj.cells.injEq] at r
    exact hne r.2.1.symm
theorem unset_app (sp : Spans) (a b : List Nat) : unset sp (a ++ b) = unset (unset sp a) b := by unfold unset; rw [List.foldl_append]
end Go.Proofs.YthnpbopnpdlmnaaDoor
