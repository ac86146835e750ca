/- Equality of instructions; the reference's SameInsts at equal lists. -/
import Derived.Test.YtnlaffhkcdfkjaaFine
import Derived.Test.YtnlaffhkcdfkjaaShape
import Derived.Test.YtnlaffhkcdfkjaaSame
import Derived.ChangeKeysEq
namespace Go.Proofs.Ytnlaffhkcdfkjaa
open Go.RowKit
attribute [local go_sem] gives givesUpon

theorem run_eqIn_inst (i j : Inst) (w : World) : (Op.equalIn 10000 39 (.agg #[.int .i64 i.op, .int .u64 i.set.a, .int .u64 i.set.b, .int .u64 i.set.c, .int .u64 i.set.d, .int .i64 i.x, .int .i64 i.y]) (.agg #[.int .i64 j.op, .int .u64 j.set.a, .int .u64 j.set.b, .int .u64 j.set.c, .int .u64 j.set.d, .int .i64 j.x, .int .i64 j.y])).run Try.prog w = .ok (decide (i = j)) w := by
  have hf : (Try.prog.fieldsOf 39).toList = [{ name := "Op", type := 3, offset := 0, embedded := false, tag := "", pkgPath := "", byteOffset := 0 }, { name := "Set", type := 25, offset := 1, embedded := false, tag := "", pkgPath := "", byteOffset := 8 }, { name := "X", type := 3, offset := 5, embedded := false, tag := "", pkgPath := "", byteOffset := 40 }, { name := "Y", type := 3, offset := 6, embedded := false, tag := "", pkgPath := "", byteOffset := 48 }] := by kernel_rfl
  obtain ⟨z, hi, _, _, _⟩ := info_parts info_u64
  have hc : Try.prog.cellsOf 22 = 1 := by kernel_rfl
  have key : decide (i = j) = ((i.op == j.op) && (((i.set.a : Int) == j.set.a) && ((i.set.b : Int) == j.set.b) && ((i.set.c : Int) == j.set.c) && ((i.set.d : Int) == j.set.d)) && (i.x == j.x) && (i.y == j.y)) := by
    rw [Bool.eq_iff_iff]
    obtain ⟨o, ⟨a, b, c, d⟩, x, y⟩ := i
    obtain ⟨o', ⟨a', b', c', d'⟩, x', y'⟩ := j
    simp only [decide_eq_true_eq, Bool.and_eq_true, beq_iff_eq, Inst.mk.injEq, Cs.mk.injEq]
    omega
  rw [key, run_equalIn_agg _ 9999 39 _ _ (by kernel_rfl) (by kernel_rfl), hf]
  simp [Op.eqFields, go_sem]
  rw [run_equalIn_array _ 9997 _ _ Try.underlying23 hi, hc]
  simp [Op.eqItems, List.range_succ, go_sem]
  by_cases h0 : i.op = j.op <;> by_cases h1 : (i.set.a : Int) = j.set.a <;> by_cases h2 : (i.set.b : Int) = j.set.b <;> by_cases h3 : (i.set.c : Int) = j.set.c <;> by_cases h4 : (i.set.d : Int) = j.set.d <;> by_cases h5 : i.x = j.x <;> by_cases h6 : i.y = j.y <;> simp [h0, h1, h2, h3, h4, h5, h6]
theorem size_inst7 (a b c d e f g : Value) : (Try.prog.info? 39).map (·.size) = some [a, b, c, d, e, f, g].length := by show _ = some 7; kernel_rfl

set_option maxRecDepth 100000 in
set_option maxHeartbeats 4000000 in
theorem SameInsts_any (w : World) (b1 b2 : Nat) (v1 v2 : Value) (L : List Inst) (h1 : OwnI w b1 v1 L) (h2 : OwnI w b2 v2 L) (hL : L.length ≤ 1000000) :
    Calls Try.prog 9 #[v1, v2] w fun e w' => e = .returned (.bool true) ∧ Below w.heap.size w w' := by
  obtain ⟨a1, c1, rfl⟩ := h1.form
  obtain ⟨a2, c2, rfl⟩ := h2.form
  have H1 := hid h1
  have H2 := hid h2
  clear h1 h2
  go_enter Try.func9, Try.ntmps9
  go_wp2_with fail
  go_loopw [5] (fun v wr => ∃ k : Nat, k ≤ L.length ∧ v = .int .i64 k ∧ Hid (Below w.heap.size w wr)) (fun v _ => L.length - (intOf v).toNat)
  case atStart => exact ⟨0, by omega, rfl, Below.refl _ _⟩
  case round =>
    obtain ⟨k, hk, rfl, HX⟩ := hrel
    rcases Nat.lt_or_ge k L.length with hlt | hge
    · have hk1 : L[k]? = some L[k] := List.getElem?_eq_getElem hlt
      obtain ⟨-, g1, rfl, k1, k2, k3, -, -, -⟩ := (H1.out.below HX.out).elem k _ hk1
      obtain ⟨-, g2, rfl, l1, l2, l3, -, -, -⟩ := (H2.out.below HX.out).elem k _ hk1
      generalize L[k] = fI at *
      have HC1 : Hid (CellsAt wr g1 (k * 7) [.int .i64 fI.op, .int .u64 fI.set.a, .int .u64 fI.set.b, .int .u64 fI.set.c, .int .u64 fI.set.d, .int .i64 fI.x, .int .i64 fI.y]) := k3
      have HC2 : Hid (CellsAt wr g2 (k * 7) [.int .i64 fI.op, .int .u64 fI.set.a, .int .u64 fI.set.b, .int .u64 fI.set.c, .int .u64 fI.set.d, .int .i64 fI.x, .int .i64 fI.y]) := l3
      have heq := fun x => run_eqIn_inst fI fI x
      simp only [decide_true] at heq
      have HK1 := hid (fun (x : World) (hx : Grow wr.drew x) => CellsAt.below (w := wr.drew) HC1.out hx)
      have HK2 := hid (fun (x : World) (hx : Grow wr.drew x) => CellsAt.below (w := wr.drew) HC2.out hx)
      clear hk1 k1 k2 k3 l1 l2 l3
      go_wp2_with fail
      refine wp_region_inv 9 (Grow) (by kernel_rfl) (by kernel_rfl) (Grow.refl) (fun _ _ _ => Grow.trans) ?_
      simp only [fill, dstOf, Act.put, List.take_succ_cons, List.take_zero, List.getElem?_toArray, List.getElem?_cons_zero, List.getElem?_cons_succ, Option.bind_some, List.setIfInBounds_toArray, List.set_cons_zero, List.set_cons_succ]
      refine Plan.det 1 rfl (Grow.refl) ?_
      apply Exists.intro
      refine ⟨fun vs x hR hF K hK => ?_, ?_⟩
      · clear hF
        go_simp
        exact hK _ _ (Grow.refl _) rfl
      refine Plan.det 2 rfl (Grow.refl) ?_
      apply Exists.intro
      refine ⟨fun vs x hR hF K hK => ?_, ?_⟩
      · clear hF
        go_simp
        exact hK _ _ (Grow.refl _) rfl
      refine Plan.det 3 rfl (Grow.refl) ?_
      apply Exists.intro
      refine ⟨fun vs x hR hF K hK => ?_, ?_⟩
      · have f0 := hF 1 _ _ rfl rfl; have f1 := hF 0 _ _ rfl rfl; clear hF
        go_simp
        exact hK _ _ (Grow.refl _) rfl
      refine Plan.det 4 rfl (Grow.refl) ?_
      apply Exists.intro
      refine ⟨fun vs x hR hF K hK => ?_, ?_⟩
      · have f2 := hF 0 _ _ rfl rfl; clear hF
        rw [if_pos (show Region.wanted _ _ = true from rfl)]
        refine gives_load_agg 39 _ rfl g1 (k * 7) f2 _ _ (HK1.out x hR) Try.underlying39 rfl (size_inst7 _ _ _ _ _ _ _) ?_
        exact hK _ _ (Grow.refl _) rfl
      refine Plan.det 5 rfl (Grow.refl) ?_
      apply Exists.intro
      refine ⟨fun vs x hR hF K hK => ?_, ?_⟩
      · clear hF
        go_simp
        exact hK _ _ (Grow.refl _) rfl
      refine Plan.det 6 rfl (Grow.refl) ?_
      apply Exists.intro
      refine ⟨fun vs x hR hF K hK => ?_, ?_⟩
      · clear hF
        go_simp
        exact hK _ _ (Grow.refl _) rfl
      refine Plan.det 7 rfl (Grow.refl) ?_
      apply Exists.intro
      refine ⟨fun vs x hR hF K hK => ?_, ?_⟩
      · have f4 := hF 1 _ _ rfl rfl; have f5 := hF 0 _ _ rfl rfl; clear hF
        go_simp
        exact hK _ _ (Grow.refl _) rfl
      refine Plan.det 8 rfl (Grow.refl) ?_
      apply Exists.intro
      refine ⟨fun vs x hR hF K hK => ?_, ?_⟩
      · have f6 := hF 0 _ _ rfl rfl; clear hF
        rw [if_pos (show Region.wanted _ _ = true from rfl)]
        refine gives_load_agg 39 _ rfl g2 (k * 7) f6 _ _ (HK2.out x hR) Try.underlying39 rfl (size_inst7 _ _ _ _ _ _ _) ?_
        exact hK _ _ (Grow.refl _) rfl
      refine Plan.det 9 rfl (Grow.refl) ?_
      apply Exists.intro
      refine ⟨fun vs x hR hF K hK => ?_, ?_⟩
      · have f3 := hF 4 _ _ rfl rfl; have f7 := hF 0 _ _ rfl rfl; clear hF
        go_simp
        exact hK _ _ (Grow.refl _) rfl
      refine Plan.nil (fun vs x hR hF => ?_)
      have f0 := hF 8 _ _ rfl; have f1 := hF 7 _ _ rfl; have f2 := hF 6 _ _ rfl; have f3 := hF 5 _ _ rfl; have f4 := hF 4 _ _ rfl; have f5 := hF 3 _ _ rfl; have f6 := hF 2 _ _ rfl; have f7 := hF 1 _ _ rfl; have f8 := hF 0 _ _ rfl
      clear hF
      simp only [f0, f1, f2, f3, f4, f5, f6, f7, f8]
      clear f0 f1 f2 f3 f4 f5 f6 f7 f8
      simp only [List.drop_succ_cons, List.drop_zero]
      have HX2 : Hid (Below w.heap.size w x) := HX.out.trans ((Below.refl _ wr).drew.trans (hR.mono (by have := HX.out.size; exact this)))
      clear hR
      go_wp2_with fail
      go_roundw
      case rel => exact ⟨k + 1, by omega, by go_num, HX2.out⟩
      case measure => simp [intOf]; omega
    · obtain rfl : k = L.length := by omega
      go_wp2_with fail
      all_goals go_ret
      all_goals exact ⟨rfl, HX.out⟩
end Go.Proofs.Ytnlaffhkcdfkjaa

/- The program's Valid, at lists that are valid. -/
namespace Go.Proofs.Ytnlaffhkcdfkjaa
open Go.RowKit
attribute [local go_sem] gives givesUpon

/-- Is the instruction k of n right? -/
def Inst.right (n k : Nat) (i : Inst) : Prop := ((i.op = 1 ∨ i.op = 4 ∨ i.op = 5) ∧ k + 1 < n) ∨ (i.op = 2 ∧ (0 ≤ i.x ∧ i.x < n) ∧ (0 ≤ i.y ∧ i.y < n)) ∨ (i.op = 3 ∧ (0 ≤ i.x ∧ i.x < n)) ∨ i.op = 6
def rightAll (L : List Inst) : Prop := (1 ≤ L.length ∧ L.length ≤ 4096) ∧ ∀ k (h : k < L.length), L[k].right L.length k

set_option maxHeartbeats 400000 in
theorem there_any (k : Int) (n : Nat) (B : Nat) (w : World) (hB : Row w B [.int .i64 n] 3) (h0 : 0 ≤ k) (h1 : k < n) :
    Calls Try.prog 25 #[.int .i64 k, .pointer (some ⟨B, 0, none⟩)] w fun e w' => e = .returned (.bool true) ∧ Below w.heap.size w w' := by
  have q := hB.c1
  go_enter Try.func25, Try.ntmps25
  go_wp2_with fail
  all_goals go_ret
  all_goals exact ⟨ret_bool (by simp), Below.refl _ _⟩

set_option maxRecDepth 100000 in
set_option maxHeartbeats 4000000 in
theorem Valid_any (w : World) (b : Nat) (v : Value) (L : List Inst) (lines : Bool) (h : OwnI w b v L) (hR : rightAll L) :
    Calls Try.prog 11 #[.agg #[v, .bool lines]] w fun e w' => e = .returned (.bool true) ∧ Below w.heap.size w w' := by
  obtain ⟨a, c, rfl⟩ := h.form
  obtain ⟨⟨hl1, hl2⟩, hr⟩ := hR
  have H := hid h
  have HR := hid hr
  have HB0 : Hid (Below w.heap.size w ((w.alloc (.cells #[.slice a L.length c, .bool lines] 31)).alloc (.cells #[.int .i64 L.length] 3)) ∧ Row ((w.alloc (.cells #[.slice a L.length c, .bool lines] 31)).alloc (.cells #[.int .i64 L.length] 3)) (w.heap.size + 1) [.int .i64 L.length] 3) := ⟨((Below.refl _ w).alloc (Nat.le_refl _) _).alloc (by simp) _, Row.new (cs := [.int .i64 L.length]) (by simp)⟩
  clear h hr
  go_enter Try.func11, Try.ntmps11
  go_wp2_with fail
  go_loopw [21] (fun v wr => ∃ k : Nat, k ≤ L.length ∧ v = .int .i64 k ∧ (Hid (Below w.heap.size w wr ∧ Row wr (w.heap.size + 1) [.int .i64 L.length] 3))) (fun v _ => L.length - (intOf v).toNat)
  case atStart => exact ⟨0, by omega, rfl, HB0.out⟩
  case round =>
    obtain ⟨k, hk, rfl, HX⟩ := hrel
    rcases Nat.lt_or_ge k L.length with hlt | hge
    · have hk1 : L[k]? = some L[k] := List.getElem?_eq_getElem hlt
      obtain ⟨-, g1, rfl, k1, k2, k3, -, -, -⟩ := (H.out.below HX.out.1).elem k _ hk1
      have hri := HR.out k hlt
      generalize L[k] = f at *
      have HC : Hid (CellsAt wr g1 (k * 7) [.int .i64 f.op, .int .u64 f.set.a, .int .u64 f.set.b, .int .u64 f.set.c, .int .u64 f.set.d, .int .i64 f.x, .int .i64 f.y]) := k3
      have q2 := HX.out.2.c1
      have z2 := HX.out.2.lt
      have HBA : Hid (Below wr.heap.size wr (wr.alloc (.cells #[.int .i64 f.op, .int .u64 f.set.a, .int .u64 f.set.b, .int .u64 f.set.c, .int .u64 f.set.d, .int .i64 f.x, .int .i64 f.y] 39))) := (Below.refl _ _).alloc (Nat.le_refl _) _
      have HNW : Hid (Row (wr.alloc (.cells #[.int .i64 f.op, .int .u64 f.set.a, .int .u64 f.set.b, .int .u64 f.set.c, .int .u64 f.set.d, .int .i64 f.x, .int .i64 f.y] 39)) wr.heap.size [.int .i64 f.op, .int .u64 f.set.a, .int .u64 f.set.b, .int .u64 f.set.c, .int .u64 f.set.d, .int .i64 f.x, .int .i64 f.y] 39) := Row.new rfl
      have HXA := hid (And.intro (HX.out.1.trans (HBA.out.mono HX.out.1.size)) (HX.out.2.below HBA.out z2))
      clear hk1 k1 k2 k3
      rcases hri with ⟨ho, hk2⟩ | ⟨ho, hx, hy⟩ | ⟨ho, hx⟩ | ho
      · have hk3 : (k : Int) < (L.length : Int) - 1 := by omega
        rcases ho with ho | ho | ho
        · skip
          have d1 : (f.op == 1) = true := by simp [ho]
          clear ho
          go_wp2_with (first | (with_reducible (refine wpList_load_agg rfl 39 _ rfl g1 (k * 7) rfl _ _ HC.out Try.underlying39 rfl (size_inst7 _ _ _ _ _ _ _) ?_)))
          go_roundw
          case rel => exact ⟨k + 1, by omega, by go_num, HXA.out⟩
          case measure => simp [intOf]; omega
        · skip
          have d1 : (f.op == 1) = false := by simp [ho]
          have d4 : (f.op == 4) = true := by simp [ho]
          clear ho
          go_wp2_with (first | (with_reducible (refine wpList_load_agg rfl 39 _ rfl g1 (k * 7) rfl _ _ HC.out Try.underlying39 rfl (size_inst7 _ _ _ _ _ _ _) ?_)))
          go_roundw
          case rel => exact ⟨k + 1, by omega, by go_num, HXA.out⟩
          case measure => simp [intOf]; omega
        · skip
          have d1 : (f.op == 1) = false := by simp [ho]
          have d4 : (f.op == 4) = false := by simp [ho]
          have d5 : (f.op == 5) = true := by simp [ho]
          clear ho
          go_wp2_with (first | (with_reducible (refine wpList_load_agg rfl 39 _ rfl g1 (k * 7) rfl _ _ HC.out Try.underlying39 rfl (size_inst7 _ _ _ _ _ _ _) ?_)))
          go_roundw
          case rel => exact ⟨k + 1, by omega, by go_num, HXA.out⟩
          case measure => simp [intOf]; omega
      · skip
        have d1 : (f.op == 1) = false := by simp [ho]
        have d4 : (f.op == 4) = false := by simp [ho]
        have d5 : (f.op == 5) = false := by simp [ho]
        have d2 : (f.op == 2) = true := by simp [ho]
        clear ho
        go_wp2_with (first | (with_reducible (refine wpList_load_agg rfl 39 _ rfl g1 (k * 7) rfl _ _ HC.out Try.underlying39 rfl (size_inst7 _ _ _ _ _ _ _) ?_)))
        refine (there_any f.x L.length (w.heap.size + 1) _ HXA.out.2 (by omega) (by omega)).mono ?_
        rintro e w1 ⟨rfl, hb1⟩
        have HX1 := hid (And.intro (HXA.out.1.trans (hb1.mono HXA.out.1.size)) (HXA.out.2.below hb1 HXA.out.2.lt))
        have HN1 := hid (HNW.out.below hb1 HNW.out.lt)
        have q3 := HN1.out.c7f
        have z3 := HN1.out.lt
        clear hb1 HNW q2
        go_wp2_with fail
        refine (there_any f.y L.length (w.heap.size + 1) _ HX1.out.2 (by omega) (by omega)).mono ?_
        rintro e w2 ⟨rfl, hb2⟩
        have HX2 := hid (And.intro (HX1.out.1.trans (hb2.mono HX1.out.1.size)) (HX1.out.2.below hb2 HX1.out.2.lt))
        clear hb2 HX1
        go_wp2_with fail
        go_roundw
        case rel => exact ⟨k + 1, by omega, by go_num, HX2.out⟩
        case measure => simp [intOf]; omega
      · skip
        have d1 : (f.op == 1) = false := by simp [ho]
        have d4 : (f.op == 4) = false := by simp [ho]
        have d5 : (f.op == 5) = false := by simp [ho]
        have d2 : (f.op == 2) = false := by simp [ho]
        have d3 : (f.op == 3) = true := by simp [ho]
        clear ho
        go_wp2_with (first | (with_reducible (refine wpList_load_agg rfl 39 _ rfl g1 (k * 7) rfl _ _ HC.out Try.underlying39 rfl (size_inst7 _ _ _ _ _ _ _) ?_)))
        refine (there_any f.x L.length (w.heap.size + 1) _ HXA.out.2 (by omega) (by omega)).mono ?_
        rintro e w1 ⟨rfl, hb1⟩
        have HX1 := hid (And.intro (HXA.out.1.trans (hb1.mono HXA.out.1.size)) (HXA.out.2.below hb1 HXA.out.2.lt))
        clear hb1
        go_wp2_with fail
        go_roundw
        case rel => exact ⟨k + 1, by omega, by go_num, HX1.out⟩
        case measure => simp [intOf]; omega
      · skip
        have d1 : (f.op == 1) = false := by simp [ho]
        have d4 : (f.op == 4) = false := by simp [ho]
        have d5 : (f.op == 5) = false := by simp [ho]
        have d2 : (f.op == 2) = false := by simp [ho]
        have d3 : (f.op == 3) = false := by simp [ho]
        have d6 : (f.op == 6) = true := by simp [ho]
        clear ho
        go_wp2_with (first | (with_reducible (refine wpList_load_agg rfl 39 _ rfl g1 (k * 7) rfl _ _ HC.out Try.underlying39 rfl (size_inst7 _ _ _ _ _ _ _) ?_)))
        go_roundw
        case rel => exact ⟨k + 1, by omega, by go_num, HXA.out⟩
        case measure => simp [intOf]; omega
    · obtain rfl : k = L.length := by omega
      go_wp2_with fail
      all_goals go_ret
      all_goals exact ⟨rfl, HX.out.1⟩
end Go.Proofs.Ytnlaffhkcdfkjaa

/- The instructions of a tree are right: the plain law. No program. -/
namespace Go.Proofs.Ytnlaffhkcdfkjaa
open Go.RowKit

def Inst.okTo (hi : Nat) (i : Inst) : Prop := (i.op = 1 ∨ i.op = 4 ∨ i.op = 5) ∨ (i.op = 2 ∧ (0 ≤ i.x ∧ i.x ≤ hi) ∧ (0 ≤ i.y ∧ i.y ≤ hi)) ∨ (i.op = 3 ∧ (0 ≤ i.x ∧ i.x ≤ hi))
theorem Inst.okTo.mono {a b : Nat} {i : Inst} (h : i.okTo a) (hab : a ≤ b) : i.okTo b := by
  unfold Inst.okTo at *
  rcases h with h | ⟨h, h1, h2⟩ | ⟨h, h1⟩
  · exact .inl h
  · exact .inr (.inl ⟨h, by omega, by omega⟩)
  · exact .inr (.inr ⟨h, by omega⟩)
theorem isplit_ok {hi : Nat} {x y : Int} (h1 : 0 ≤ x ∧ x ≤ hi) (h2 : 0 ≤ y ∧ y ≤ hi) : (isplit x y).okTo hi := .inr (.inl ⟨rfl, h1, h2⟩)
theorem ijump_ok {hi : Nat} {x : Int} (h1 : 0 ≤ x ∧ x ≤ hi) : (ijump x).okTo hi := .inr (.inr ⟨rfl, h1⟩)
mutual
theorem Re.gen_ok : ∀ (t : Re) (n : Nat) (i : Inst), i ∈ t.gen n → i.okTo (n + t.csize)
  | .mk p xs, n, i, h => by
    have h1 := Re.gens_ok xs n i
    have h2 := Re.gens_ok xs (n + 1) i
    have h3 := Re.galt_ok xs n (n + Re.asize xs) i (Nat.le_refl _)
    rw [Re.gen] at h
    rw [Re.csize]
    by_cases o2 : p.op = 2
    · rw [if_pos o2] at h; rw [List.mem_singleton.1 h]; exact .inl (.inl rfl)
    rw [if_neg o2] at h
    by_cases o7 : p.op = 7
    · rw [if_pos o7] at h; rw [List.mem_singleton.1 h]; exact .inl (.inr (.inl rfl))
    rw [if_neg o7] at h
    by_cases o8 : p.op = 8
    · rw [if_pos o8] at h; rw [List.mem_singleton.1 h]; exact .inl (.inr (.inr rfl))
    rw [if_neg o8] at h
    rw [if_neg (show ¬ (p.op = 2 ∨ p.op = 7 ∨ p.op = 8) by omega)]
    by_cases o4 : p.op = 4
    · rw [if_pos o4] at h ⊢; exact h3 h
    rw [if_neg o4] at h ⊢
    by_cases o5 : p.op = 5
    · rw [if_pos o5] at h ⊢
      by_cases hl : p.lo = 1
      · rw [if_pos hl] at h ⊢
        rcases List.mem_append.1 h with h | h
        · exact (h1 h).mono (by omega)
        · rw [List.mem_singleton.1 h]; exact isplit_ok (by omega) (by omega)
      · rw [if_neg hl] at h ⊢
        rcases List.mem_cons.1 h with h | h
        · rw [h]; exact isplit_ok (by omega) (by split <;> omega)
        rcases List.mem_append.1 h with h | h
        · exact (h2 h).mono (by omega)
        · by_cases hh : p.hi < 0
          · rw [if_pos hh] at h; rw [List.mem_singleton.1 h]; exact ijump_ok (by omega)
          · rw [if_neg hh] at h; cases h
    · rw [if_neg o5] at h ⊢; exact h1 h
theorem Re.gens_ok : ∀ (xs : List Re) (n : Nat) (i : Inst), i ∈ Re.gens xs n → i.okTo (n + Re.csizes xs)
  | [], n, i, h => by rw [Re.gens] at h; cases h
  | t :: ts, n, i, h => by
    rw [Re.gens] at h
    rw [Re.csizes]
    rcases List.mem_append.1 h with h | h
    · exact (Re.gen_ok t n i h).mono (by omega)
    · exact (Re.gens_ok ts _ i h).mono (by omega)
theorem Re.galt_ok : ∀ (xs : List Re) (n fin : Nat) (i : Inst), n + Re.asize xs ≤ fin → i ∈ Re.galt xs n fin → i.okTo fin
  | [], n, fin, i, _, h => by rw [Re.galt] at h; cases h
  | t :: ts, n, fin, i, hf, h => by
    have h1 := Re.gen_ok t n i
    have h2 := Re.gen_ok t (n + 1) i
    have h3 := Re.galt_ok ts (n + t.csize + 2) fin i
    rw [Re.galt] at h
    rw [Re.asize] at hf
    by_cases he : ts.isEmpty = true
    · rw [if_pos he] at h hf
      exact (h1 h).mono (by omega)
    · rw [if_neg he] at h hf
      rcases List.mem_cons.1 h with h | h
      · rw [h]; exact isplit_ok (by omega) (by omega)
      rcases List.mem_append.1 h with h | h
      · rcases List.mem_append.1 h with h | h
        · exact (h2 h).mono (by omega)
        · rw [List.mem_singleton.1 h]; exact ijump_ok (by omega)
      · exact h3 (by omega) h
end
/-- A program behind no error: its instructions, of which there are at most 4096. -/
theorem Re.compiled_zero {t : Re} (h : t.compiled.2 = 0) : t.err = 0 ∧ t.expandR.2 = 0 ∧ t.compiled.1 = t.expandR.1.gen 0 ++ [Inst.of 6] ∧ t.expandR.1.csize + 1 ≤ 4096 ∧ ¬ 0 < t.backs := by
  by_cases h1 : t.err = 0
  · by_cases h2 : 0 < t.backs
    · rw [Re.compiled_back h1 h2] at h; cases h
    · by_cases h3 : t.expandR.2 = 0
      · by_cases h4 : 4096 < t.expandR.1.csize + 1
        · rw [Re.compiled_long h1 h2 h3 h4] at h; cases h
        · rw [Re.compiled_ok h1 h2 h3 h4]; exact ⟨h1, h3, rfl, by omega, h2⟩
      · rw [Re.compiled_much h1 h2 h3] at h; exact absurd h h3
  · rw [Re.compiled_err h1] at h; exact absurd h h1
theorem Re.compiled_none {t : Re} (h : t.compiled.2 ≠ 0) : t.compiled.1 = [] := by
  by_cases h1 : t.err = 0
  · by_cases h2 : 0 < t.backs
    · rw [Re.compiled_back h1 h2]
    · by_cases h3 : t.expandR.2 = 0
      · by_cases h4 : 4096 < t.expandR.1.csize + 1
        · rw [Re.compiled_long h1 h2 h3 h4]
        · rw [Re.compiled_ok h1 h2 h3 h4] at h; exact absurd rfl h
      · rw [Re.compiled_much h1 h2 h3]
  · rw [Re.compiled_err h1]
theorem Re.compiled_len {t : Re} (h : t.compiled.2 = 0) : t.compiled.1.length = t.expandR.1.csize + 1 := by
  rw [(Re.compiled_zero h).2.2.1, List.length_append, Re.gen_len]; rfl
theorem Re.compiled_max (t : Re) : t.compiled.1.length ≤ 4096 := by
  by_cases h : t.compiled.2 = 0
  · rw [Re.compiled_len h]; exact (Re.compiled_zero h).2.2.2.1
  · rw [Re.compiled_none h]; simp
/-- Each instruction but the last one is no match and has targets inside; the last one is a match. -/
theorem Re.compiled_at {t : Re} (h : t.compiled.2 = 0) (k : Nat) (hk : k < t.compiled.1.length) : (k + 1 < t.compiled.1.length ∧ t.compiled.1[k].okTo t.expandR.1.csize) ∨ (k + 1 = t.compiled.1.length ∧ t.compiled.1[k] = Inst.of 6) := by
  have hl := Re.compiled_len h
  obtain ⟨h1, h2, h3, h4, _⟩ := Re.compiled_zero h
  have hg := Re.gen_len t.expandR.1 0
  by_cases hk2 : k < t.expandR.1.csize
  · refine .inl ⟨by omega, ?_⟩
    have he : t.compiled.1[k] = (t.expandR.1.gen 0)[k] := by simp only [h3]; rw [List.getElem_append_left (by omega)]
    rw [he]
    have := Re.gen_ok t.expandR.1 0 _ (List.getElem_mem (by omega : k < (t.expandR.1.gen 0).length))
    simpa using this
  · refine .inr ⟨by omega, ?_⟩
    simp only [h3]
    rw [List.getElem_append_right (by omega)]
    simp
theorem Re.compiled_right {t : Re} (h : t.compiled.2 = 0) : rightAll t.compiled.1 := by
  have hl := Re.compiled_len h
  have h4 := (Re.compiled_zero h).2.2.2.1
  refine ⟨⟨by omega, by omega⟩, fun k hk => ?_⟩
  rcases Re.compiled_at h k hk with ⟨h1, h2⟩ | ⟨h1, h2⟩
  · rcases h2 with h2 | ⟨h2, h3, h5⟩ | ⟨h2, h3⟩
    · exact .inl ⟨h2, h1⟩
    · exact .inr (.inl ⟨h2, by omega, by omega⟩)
    · exact .inr (.inr (.inl ⟨h2, by omega⟩))
  · rw [h2]; exact .inr (.inr (.inr rfl))
theorem Re.compiled_match {t : Re} (h : t.compiled.2 = 0) (k : Nat) (hk : k < t.compiled.1.length) : (t.compiled.1[k].op = 6) ↔ (k + 1 = t.compiled.1.length) := by
  rcases Re.compiled_at h k hk with ⟨h1, h2⟩ | ⟨h1, h2⟩
  · refine ⟨fun e => ?_, fun e => by omega⟩
    rcases h2 with h2 | ⟨h2, h3, h5⟩ | ⟨h2, h3⟩ <;> omega
  · rw [h2]; exact ⟨fun _ => h1, fun _ => rfl⟩
end Go.Proofs.Ytnlaffhkcdfkjaa
