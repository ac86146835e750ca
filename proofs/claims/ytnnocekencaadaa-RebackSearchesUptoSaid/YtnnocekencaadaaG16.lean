/- Reback's reference: a node without parts. -/
import Derived.Test.YtnnocekencaadaaG05
import Derived.Test.YtnnocekencaadaaG09
import Derived.Test.YtnnocekencaadaaG03
namespace Go.Proofs.Ytnnocekencaadaa
open Go.RowKit
attribute [local go_sem] gives givesUpon
variable {C : RCtx}

-- def E9 := [.int .i64 p.op, .int .u64 p.set.a, .int .u64 p.set.b, .int .u64 p.set.c, .int .u64 p.set.d, .int .i64 p.lo, .int .i64 p.hi, .int .i64 p.gr, .slice ta tn tc]
-- def W1 := (w.alloc (.cells #[.int .i64 p.op, .int .u64 p.set.a, .int .u64 p.set.b, .int .u64 p.set.c, .int .u64 p.set.d, .int .i64 p.lo, .int .i64 p.hi, .int .i64 p.gr, .slice ta tn tc] 28))
-- def W2 := ((w.alloc (.cells #[.int .i64 p.op, .int .u64 p.set.a, .int .u64 p.set.b, .int .u64 p.set.c, .int .u64 p.set.d, .int .i64 p.lo, .int .i64 p.hi, .int .i64 p.gr, .slice ta tn tc] 28)).alloc (.cells #[.int .i64 x1, .int .i64 x2] 44))
-- def V2 := ((w.alloc (.cells #[.int .i64 p.op, .int .u64 p.set.a, .int .u64 p.set.b, .int .u64 p.set.c, .int .u64 p.set.d, .int .i64 p.lo, .int .i64 p.hi, .int .i64 p.gr, .slice ta tn tc] 28)).alloc (.cells #[.int .i64 a, .int .i64 b] 44))
set_option maxRecDepth 100000 in
set_option maxHeartbeats 16000000 in
theorem rplain_any (w : World) (n : Nat) (ov : Bool) (p : Pay) (ta : Option Addr) (tn tc i k : Nat) (sp : Spans) (sa : Option Addr) (sc : Nat) (pr : Nat → Prop) (h : C.St n ov w) (hsp : SpB pr w (.slice sa sp.length sc) sp) (hok : SpOk C.N C.s.size sp) (hwf : p.wf) (hik : i ≤ k) (hks : k ≤ C.s.size) (hop : p.op = 1 ∨ p.op = 2 ∨ p.op = 7 ∨ p.op = 8 ∨ p.op = 9) (hgr : p.op = 9 → 1 ≤ p.gr ∧ p.gr ≤ C.N) :
    Calls Try.prog 70 #[.pointer (some ⟨C.X, 0, none⟩), .agg #[.int .i64 p.op, .int .u64 p.set.a, .int .u64 p.set.b, .int .u64 p.set.c, .int .u64 p.set.d, .int .i64 p.lo, .int .i64 p.hi, .int .i64 p.gr, .slice ta tn tc], .int .i64 i, .int .i64 k, .slice sa sp.length sc] w fun e w' => e = .returned (.bool (plainOf C.str C.lines p i k sp)) ∧ Below w.heap.size w w' := by
  have hlen := h.len
  have HH := hid h
  have hB := (Below.refl w.heap.size w).alloc (Nat.le_refl _) (.cells #[.int .i64 p.op, .int .u64 p.set.a, .int .u64 p.set.b, .int .u64 p.set.c, .int .u64 p.set.d, .int .i64 p.lo, .int .i64 p.hi, .int .i64 p.gr, .slice ta tn tc] 28)
  have HB := hid hB
  have q0 := (Row.new (w := w) (cs := [.int .i64 p.op, .int .u64 p.set.a, .int .u64 p.set.b, .int .u64 p.set.c, .int .u64 p.set.d, .int .i64 p.lo, .int .i64 p.hi, .int .i64 p.gr, .slice ta tn tc]) (T := 28) rfl).c9
  have qc := (h.later hB).c
  have HWF := hid hwf
  have hwi : IntKind.i64.wrap (i : Int) = i := by rw [IntKind.wrap_i64]; omega
  have hwi1 : IntKind.i64.wrap ((i : Int) + 1) = (i : Int) + 1 := by rw [IntKind.wrap_i64]; omega
  have hsl : C.str.length = C.s.size := by show C.s.data.toList.length = _; rw [Array.length_toList]; rfl
  have HSL := hid hsl
  clear h hwf hB hsl
  rcases hop with ho | ho | ho | ho | ho
  · have HO := hid ho
    clear ho
    have e1 : (p.op == 1) = true := by rw [HO.out]; decide
    by_cases hki : k = i
    · subst hki
      have HPL : Hid (plainOf C.str C.lines p k k sp = true) := by show _ = _; unfold plainOf; simp [HO.out]
      go_enter Try.func70, Try.ntmps70
      go_wp2_with fail
      all_goals go_ret
      all_goals exact ⟨ret_bool (by rw [HPL.out]; try rfl), HB.out⟩
    · have d2 : ((i : Int) == (k : Int)) = false := by simp; omega
      have HPL : Hid (plainOf C.str C.lines p i k sp = false) := by show _ = _; unfold plainOf; simp [HO.out, hki]
      go_enter Try.func70, Try.ntmps70
      go_wp2_with fail
      all_goals go_ret
      all_goals exact ⟨ret_bool (by rw [HPL.out]; try rfl), HB.out⟩
  · have HO := hid ho
    clear ho
    have e1 : (p.op == 1) = false := by rw [HO.out]; decide
    have e2 : (p.op == 2) = true := by rw [HO.out]; decide
    have HB2 := HB
    have HC := hid (fun (x : World) (hx : Grow ((w.alloc (.cells #[.int .i64 p.op, .int .u64 p.set.a, .int .u64 p.set.b, .int .u64 p.set.c, .int .u64 p.set.d, .int .i64 p.lo, .int .i64 p.hi, .int .i64 p.gr, .slice ta tn tc] 28))).drew x) => (⟨((Row.new (w := w) (cs := [.int .i64 p.op, .int .u64 p.set.a, .int .u64 p.set.b, .int .u64 p.set.c, .int .u64 p.set.d, .int .i64 p.lo, .int .i64 p.hi, .int .i64 p.gr, .slice ta tn tc]) (T := 28) rfl).grow hx).c9.1, ((HH.out.later HB.out).later (grow_below hx)).c⟩ : _ ∧ _))
    by_cases hki : k = i + 1
    · subst hki
      have hj : (i : Int) < C.s.size := by omega
      have hbt : byteAt C.str i = C.s[i] := byteAt_eq (by omega)
      have HHa := hid (fun x => Has_any p.set C.s[i].toNat x HWF.out.set (UInt8.toNat_lt _))
      have HPL : Hid (plainOf C.str C.lines p i (i + 1) sp = p.set.has C.s[i].toNat) := by show _ = _; unfold plainOf; simp [HO.out, hbt]
      generalize p.set.has C.s[i].toNat = hb at *
      go_enter Try.func70, Try.ntmps70
      go_wp2_with fail
      refine wp_region_inv 16 (Grow) (by kernel_rfl) (by kernel_rfl) (Grow.refl) (fun _ _ _ => Grow.trans) ?_
      simp only [fill, dstOf, Act.put, List.take_succ_cons, List.take_zero, List.getElem?_toArray, List.getElem?_cons_zero, List.getElem?_cons_succ, Option.bind_some, List.setIfInBounds_toArray, List.set_cons_zero, List.set_cons_succ]
      refine Plan.det 1 rfl (Grow.refl) ?_
      apply Exists.intro
      refine ⟨fun vs x hR hF K hK => ?_, ?_⟩
      · clear hF
        go_simp
        exact hK _ _ (Grow.refl _) rfl
      refine Plan.det 2 rfl (Grow.refl) ?_
      apply Exists.intro
      refine ⟨fun vs x hR hF K hK => ?_, ?_⟩
      · clear hF
        go_simp
        exact hK _ _ (Grow.refl _) rfl
      refine Plan.det 3 rfl (Grow.refl) ?_
      apply Exists.intro
      refine ⟨fun vs x hR hF K hK => ?_, ?_⟩
      · have f1 := hF 0 _ _ rfl rfl; clear hF
        go_simp
        exact hK _ _ (Grow.refl _) rfl
      refine Plan.det 4 rfl (Grow.refl) ?_
      apply Exists.intro
      refine ⟨fun vs x hR hF K hK => ?_, ?_⟩
      · have f0 := hF 2 _ _ rfl rfl; have f2 := hF 0 _ _ rfl rfl; clear hF
        go_simp
        exact hK _ _ (Grow.refl _) rfl
      refine Plan.det 5 rfl (Grow.refl) ?_
      apply Exists.intro
      refine ⟨fun vs x hR hF K hK => ?_, ?_⟩
      · have f3 := hF 0 _ _ rfl rfl; clear hF
        go_simp
        exact hK _ _ (Grow.refl _) rfl
      refine Plan.det 6 rfl (Grow.refl) ?_
      apply Exists.intro
      refine ⟨fun vs x hR hF K hK => ?_, ?_⟩
      · have f4 := hF 0 _ _ rfl rfl; clear hF
        go_simp
        exact hK _ _ (Grow.refl _) rfl
      refine Plan.det 7 rfl (Grow.refl) ?_
      apply Exists.intro
      refine ⟨fun vs x hR hF K hK => ?_, ?_⟩
      · have f4 := hF 1 _ _ rfl rfl; have f5 := hF 0 _ _ rfl rfl; have hc := HC.out x hR; clear hF
        go_simp
        exact hK _ _ (Grow.refl _) rfl
      refine Plan.det 8 rfl (Grow.refl) ?_
      apply Exists.intro
      refine ⟨fun vs x hR hF K hK => ?_, ?_⟩
      · have f4 := hF 2 _ _ rfl rfl; clear hF
        go_simp
        exact hK _ _ (Grow.refl _) rfl
      refine Plan.det 9 rfl (Grow.refl) ?_
      apply Exists.intro
      refine ⟨fun vs x hR hF K hK => ?_, ?_⟩
      · have f4 := hF 3 _ _ rfl rfl; have f7 := hF 0 _ _ rfl rfl; clear hF
        go_simp
        exact hK _ _ (Grow.refl _) rfl
      refine Plan.det 10 rfl (Grow.refl) ?_
      apply Exists.intro
      refine ⟨fun vs x hR hF K hK => ?_, ?_⟩
      · have f4 := hF 4 _ _ rfl rfl; have f8 := hF 0 _ _ rfl rfl; clear hF
        go_simp
        exact hK _ _ (Grow.refl _) rfl
      refine Plan.det 11 rfl (Grow.refl) ?_
      apply Exists.intro
      refine ⟨fun vs x hR hF K hK => ?_, ?_⟩
      · have f4 := hF 5 _ _ rfl rfl; have f9 := hF 0 _ _ rfl rfl; have hc := HC.out x hR; clear hF
        go_simp
        exact hK _ _ (Grow.refl _) rfl
      refine Plan.det 12 rfl (Grow.refl) ?_
      apply Exists.intro
      refine ⟨fun vs x hR hF K hK => ?_, ?_⟩
      · have f4 := hF 6 _ _ rfl rfl; clear hF
        go_simp
        exact hK _ _ (Grow.refl _) rfl
      refine Plan.det 13 rfl (Grow.refl) ?_
      apply Exists.intro
      refine ⟨fun vs x hR hF K hK => ?_, ?_⟩
      · have f4 := hF 7 _ _ rfl rfl; have f10 := hF 1 _ _ rfl rfl; have f11 := hF 0 _ _ rfl rfl; clear hF
        go_simp
        exact hK _ _ (Grow.refl _) rfl
      refine Plan.det 14 rfl (Grow.refl) ?_
      apply Exists.intro
      refine ⟨fun vs x hR hF K hK => ?_, ?_⟩
      · have f4 := hF 8 _ _ rfl rfl; have f6 := hF 6 _ _ rfl rfl; have f12 := hF 0 _ _ rfl rfl; clear hF
        go_simp
        refine (HHa.out x).mono ?_
        rintro e x1 ⟨rfl, hbe⟩
        exact ⟨_, rfl, hK _ _ hbe rfl⟩
      refine Plan.det 15 rfl (Grow.refl) ?_
      apply Exists.intro
      refine ⟨fun vs x hR hF K hK => ?_, ?_⟩
      · have f4 := hF 9 _ _ rfl rfl; have f13 := hF 0 _ _ rfl rfl; clear hF
        go_simp
        exact hK _ _ (Grow.refl _) rfl
      refine Plan.det 16 rfl (Grow.refl) ?_
      apply Exists.intro
      refine ⟨fun vs x hR hF K hK => ?_, ?_⟩
      · have f0 := hF 14 _ _ rfl rfl; have f1 := hF 13 _ _ rfl rfl; have f2 := hF 12 _ _ rfl rfl; have f3 := hF 11 _ _ rfl rfl; have f4 := hF 10 _ _ rfl rfl; have f5 := hF 9 _ _ rfl rfl; have f6 := hF 8 _ _ rfl rfl; have f7 := hF 7 _ _ rfl rfl; have f8 := hF 6 _ _ rfl rfl; have f9 := hF 5 _ _ rfl rfl; have f10 := hF 4 _ _ rfl rfl; have f11 := hF 3 _ _ rfl rfl; have f12 := hF 2 _ _ rfl rfl; have f13 := hF 1 _ _ rfl rfl; have f14 := hF 0 _ _ rfl rfl; clear hF
        go_simp
        exact hK _ _ (Grow.refl _) rfl
      refine Plan.nil (fun vs x hR hF => ?_)
      have f0 := hF 15 _ _ rfl; have f1 := hF 14 _ _ rfl; have f2 := hF 13 _ _ rfl; have f3 := hF 12 _ _ rfl; have f4 := hF 11 _ _ rfl; have f5 := hF 10 _ _ rfl; have f6 := hF 9 _ _ rfl; have f7 := hF 8 _ _ rfl; have f8 := hF 7 _ _ rfl; have f9 := hF 6 _ _ rfl; have f10 := hF 5 _ _ rfl; have f11 := hF 4 _ _ rfl; have f12 := hF 3 _ _ rfl; have f13 := hF 2 _ _ rfl; have f14 := hF 1 _ _ rfl; have f15 := hF 0 _ _ rfl
      clear hF
      simp only [f0, f1, f2, f3, f4, f5, f6, f7, f8, f9, f10, f11, f12, f13, f14, f15]
      clear f0 f1 f2 f3 f4 f5 f6 f7 f8 f9 f10 f11 f12 f13 f14 f15
      simp only [List.drop_succ_cons, List.drop_zero]
      have hbx : Below w.heap.size w x := below_grow HB2.out (by simp; try omega) hR
      have HBX := hid hbx
      clear HC hR hbx q0 qc
      go_wp2_with fail
      go_ret
      exact ⟨ret_bool (by rw [HPL.out]; try rfl), HBX.out⟩
    · have d2 : ((k : Int) == (i : Int) + 1) = false := by simp; omega
      have HPL : Hid (plainOf C.str C.lines p i k sp = false) := by show _ = _; unfold plainOf; simp [HO.out, hki]
      go_enter Try.func70, Try.ntmps70
      go_wp2_with fail
      refine wp_region_inv 16 (Grow) (by kernel_rfl) (by kernel_rfl) (Grow.refl) (fun _ _ _ => Grow.trans) ?_
      simp only [fill, dstOf, Act.put, List.take_succ_cons, List.take_zero, List.getElem?_toArray, List.getElem?_cons_zero, List.getElem?_cons_succ, Option.bind_some, List.setIfInBounds_toArray, List.set_cons_zero, List.set_cons_succ]
      refine Plan.det 1 rfl (Grow.refl) ?_
      apply Exists.intro
      refine ⟨fun vs x hR hF K hK => ?_, ?_⟩
      · clear hF
        go_simp
        exact hK _ _ (Grow.refl _) rfl
      refine Plan.det 2 rfl (Grow.refl) ?_
      apply Exists.intro
      refine ⟨fun vs x hR hF K hK => ?_, ?_⟩
      · clear hF
        go_simp
        exact hK _ _ (Grow.refl _) rfl
      refine Plan.det 3 rfl (Grow.refl) ?_
      apply Exists.intro
      refine ⟨fun vs x hR hF K hK => ?_, ?_⟩
      · have f1 := hF 0 _ _ rfl rfl; clear hF
        go_simp
        exact hK _ _ (Grow.refl _) rfl
      refine Plan.det 4 rfl (Grow.refl) ?_
      apply Exists.intro
      refine ⟨fun vs x hR hF K hK => ?_, ?_⟩
      · have f0 := hF 2 _ _ rfl rfl; have f2 := hF 0 _ _ rfl rfl; clear hF
        go_simp
        exact hK _ _ (Grow.refl _) rfl
      refine Plan.det 5 rfl (Grow.refl) ?_
      apply Exists.intro
      refine ⟨fun vs x hR hF K hK => ?_, ?_⟩
      · have f3 := hF 0 _ _ rfl rfl; clear hF
        go_simp
        exact hK _ _ (Grow.refl _) rfl
      refine Plan.det 6 rfl (Grow.refl) ?_
      apply Exists.intro
      refine ⟨fun vs x hR hF K hK => ?_, ?_⟩
      · have f4 := hF 0 _ _ rfl rfl; clear hF
        go_simp
        exact hK _ _ (Grow.refl _) rfl
      refine Plan.det 7 rfl (Grow.refl) ?_
      apply Exists.intro
      refine ⟨fun vs x hR hF K hK => ?_, ?_⟩
      · have f4 := hF 1 _ _ rfl rfl; have f5 := hF 0 _ _ rfl rfl; have hc := HC.out x hR; clear hF
        go_simp
        exact hK _ _ (Grow.refl _) rfl
      refine Plan.det 8 rfl (Grow.refl) ?_
      apply Exists.intro
      refine ⟨fun vs x hR hF K hK => ?_, ?_⟩
      · have f4 := hF 2 _ _ rfl rfl; clear hF
        go_simp
        exact hK _ _ (Grow.refl _) rfl
      refine Plan.det 9 rfl (Grow.refl) ?_
      apply Exists.intro
      refine ⟨fun vs x hR hF K hK => ?_, ?_⟩
      · have f4 := hF 3 _ _ rfl rfl; have f7 := hF 0 _ _ rfl rfl; clear hF
        go_simp
        exact hK _ _ (Grow.refl _) rfl
      refine Plan.det 10 rfl (Grow.refl) ?_
      apply Exists.intro
      refine ⟨fun vs x hR hF K hK => ?_, ?_⟩
      · have f4 := hF 4 _ _ rfl rfl; have f8 := hF 0 _ _ rfl rfl; clear hF
        go_simp
        exact hK _ _ (Grow.refl _) rfl
      refine Plan.det 11 rfl (Grow.refl) ?_
      apply Exists.intro
      refine ⟨fun vs x hR hF K hK => ?_, ?_⟩
      · have f4 := hF 5 _ _ rfl rfl; have f9 := hF 0 _ _ rfl rfl; have hc := HC.out x hR; clear hF
        go_simp
        exact hK _ _ (Grow.refl _) rfl
      refine Plan.det 12 rfl (Grow.refl) ?_
      apply Exists.intro
      refine ⟨fun vs x hR hF K hK => ?_, ?_⟩
      · have f4 := hF 6 _ _ rfl rfl; clear hF
        go_simp
        exact hK _ _ (Grow.refl _) rfl
      refine Plan.det 13 rfl (Grow.refl) ?_
      apply Exists.intro
      refine ⟨fun vs x hR hF K hK => ?_, ?_⟩
      · have f4 := hF 7 _ _ rfl rfl; have f10 := hF 1 _ _ rfl rfl; have f11 := hF 0 _ _ rfl rfl; clear hF
        go_simp
        exact hK _ _ (Grow.refl _) rfl
      refine Plan.det 14 rfl (Grow.refl) ?_
      apply Exists.intro
      refine ⟨fun vs x hR hF K hK => ?_, ?_⟩
      · have f4 := hF 8 _ _ rfl rfl; have f6 := hF 6 _ _ rfl rfl; have f12 := hF 0 _ _ rfl rfl; clear hF
        go_simp
        exact hK _ _ (Grow.refl _) rfl
      refine Plan.det 15 rfl (Grow.refl) ?_
      apply Exists.intro
      refine ⟨fun vs x hR hF K hK => ?_, ?_⟩
      · have f4 := hF 9 _ _ rfl rfl; have f13 := hF 0 _ _ rfl rfl; clear hF
        go_simp
        exact hK _ _ (Grow.refl _) rfl
      refine Plan.det 16 rfl (Grow.refl) ?_
      apply Exists.intro
      refine ⟨fun vs x hR hF K hK => ?_, ?_⟩
      · have f0 := hF 14 _ _ rfl rfl; have f1 := hF 13 _ _ rfl rfl; have f2 := hF 12 _ _ rfl rfl; have f3 := hF 11 _ _ rfl rfl; have f4 := hF 10 _ _ rfl rfl; have f5 := hF 9 _ _ rfl rfl; have f6 := hF 8 _ _ rfl rfl; have f7 := hF 7 _ _ rfl rfl; have f8 := hF 6 _ _ rfl rfl; have f9 := hF 5 _ _ rfl rfl; have f10 := hF 4 _ _ rfl rfl; have f11 := hF 3 _ _ rfl rfl; have f12 := hF 2 _ _ rfl rfl; have f13 := hF 1 _ _ rfl rfl; have f14 := hF 0 _ _ rfl rfl; clear hF
        go_simp
        exact hK _ _ (Grow.refl _) rfl
      refine Plan.nil (fun vs x hR hF => ?_)
      have f0 := hF 15 _ _ rfl; have f1 := hF 14 _ _ rfl; have f2 := hF 13 _ _ rfl; have f3 := hF 12 _ _ rfl; have f4 := hF 11 _ _ rfl; have f5 := hF 10 _ _ rfl; have f6 := hF 9 _ _ rfl; have f7 := hF 8 _ _ rfl; have f8 := hF 7 _ _ rfl; have f9 := hF 6 _ _ rfl; have f10 := hF 5 _ _ rfl; have f11 := hF 4 _ _ rfl; have f12 := hF 3 _ _ rfl; have f13 := hF 2 _ _ rfl; have f14 := hF 1 _ _ rfl; have f15 := hF 0 _ _ rfl
      clear hF
      simp only [f0, f1, f2, f3, f4, f5, f6, f7, f8, f9, f10, f11, f12, f13, f14, f15]
      clear f0 f1 f2 f3 f4 f5 f6 f7 f8 f9 f10 f11 f12 f13 f14 f15
      simp only [List.drop_succ_cons, List.drop_zero]
      have hbx : Below w.heap.size w x := below_grow HB2.out (by simp; try omega) hR
      have HBX := hid hbx
      clear HC hR hbx q0 qc
      go_wp2_with fail
      go_ret
      exact ⟨ret_bool (by rw [HPL.out]; try rfl), HBX.out⟩
  · have HO := hid ho
    clear ho
    have e1 : (p.op == 1) = false := by rw [HO.out]; decide
    have e2 : (p.op == 2) = false := by rw [HO.out]; decide
    have e7 : (p.op == 7) = true := by rw [HO.out]; decide
    by_cases hki : k = i
    · subst hki
      rcases Nat.eq_zero_or_pos k with rfl | h0
      · have HPL : Hid (plainOf C.str C.lines p 0 0 sp = true) := by show _ = _; unfold plainOf; simp [HO.out]
        go_enter Try.func70, Try.ntmps70
        go_wp2_with fail
        all_goals go_ret
        all_goals exact ⟨ret_bool (by rw [HPL.out]; try rfl), HB.out⟩
      · obtain ⟨j, rfl⟩ : ∃ j, k = j + 1 := ⟨k - 1, by omega⟩
        have hj : (j : Int) < C.s.size := by omega
        have hwj : IntKind.i64.wrap (j : Int) = j := by rw [IntKind.wrap_i64]; omega
        have d0 : ((j : Int) + 1 == 0) = false := by simp; omega
        have hbt : byteAt C.str j = C.s[j] := byteAt_eq (by omega)
        rcases Bool.eq_false_or_eq_true C.lines with hln | hln
        · rw [hln] at qc
          by_cases hb : C.s[j].toNat = 10
          · have HPL : Hid (plainOf C.str C.lines p (j + 1) (j + 1) sp = true) := by show _ = _; unfold plainOf; simp [HO.out, hln, hbt, ← UInt8.toNat_inj, hb]
            have d1 : ((C.s[j].toNat : Int) == 10) = true := by simp; omega
            go_enter Try.func70, Try.ntmps70
            go_wp2_with fail
            all_goals go_ret
            all_goals exact ⟨ret_bool (by rw [HPL.out]; try rfl), HB.out⟩
          · have HPL : Hid (plainOf C.str C.lines p (j + 1) (j + 1) sp = false) := by show _ = _; unfold plainOf; simp [HO.out, hln, hbt, ← UInt8.toNat_inj, hb]
            have d1 : ((C.s[j].toNat : Int) == 10) = false := by simp; omega
            go_enter Try.func70, Try.ntmps70
            go_wp2_with fail
            all_goals go_ret
            all_goals exact ⟨ret_bool (by rw [HPL.out]; try rfl), HB.out⟩
        · rw [hln] at qc
          have HPL : Hid (plainOf C.str C.lines p (j + 1) (j + 1) sp = false) := by show _ = _; unfold plainOf; simp [HO.out, hln]
          go_enter Try.func70, Try.ntmps70
          go_wp2_with fail
          all_goals go_ret
          all_goals exact ⟨ret_bool (by rw [HPL.out]; try rfl), HB.out⟩
    · have d2 : ((i : Int) == (k : Int)) = false := by simp; omega
      have HPL : Hid (plainOf C.str C.lines p i k sp = false) := by show _ = _; unfold plainOf; simp [HO.out, hki]
      go_enter Try.func70, Try.ntmps70
      go_wp2_with fail
      all_goals go_ret
      all_goals exact ⟨ret_bool (by rw [HPL.out]; try rfl), HB.out⟩
  · have HO := hid ho
    clear ho
    have e1 : (p.op == 1) = false := by rw [HO.out]; decide
    have e2 : (p.op == 2) = false := by rw [HO.out]; decide
    have e7 : (p.op == 7) = false := by rw [HO.out]; decide
    have e8 : (p.op == 8) = true := by rw [HO.out]; decide
    by_cases hki : k = i
    · subst hki
      rcases Nat.lt_or_ge k C.s.size with hkl | hkl
      rotate_left
      · have d0 : ((k : Int) == (C.s.size : Int)) = true := by simp; omega
        have HPL : Hid (plainOf C.str C.lines p k k sp = true) := by show _ = _; unfold plainOf; rw [HSL.out]; simp [HO.out]; omega
        go_enter Try.func70, Try.ntmps70
        go_wp2_with fail
        all_goals go_ret
        all_goals exact ⟨ret_bool (by rw [HPL.out]; try rfl), HB.out⟩
      · have hj : (k : Int) < C.s.size := by omega
        have d0 : ((k : Int) == (C.s.size : Int)) = false := by simp; omega
        have hbt : byteAt C.str k = C.s[k] := byteAt_eq (by omega)
        rcases Bool.eq_false_or_eq_true C.lines with hln | hln
        · rw [hln] at qc
          by_cases hb : C.s[k].toNat = 10
          · have HPL : Hid (plainOf C.str C.lines p k k sp = true) := by show _ = _; unfold plainOf; rw [HSL.out]; simp [HO.out, hln, hbt, ← UInt8.toNat_inj, hb]
            have d1 : ((C.s[k].toNat : Int) == 10) = true := by simp; omega
            go_enter Try.func70, Try.ntmps70
            go_wp2_with fail
            all_goals go_ret
            all_goals exact ⟨ret_bool (by rw [HPL.out]; try rfl), HB.out⟩
          · have HPL : Hid (plainOf C.str C.lines p k k sp = false) := by show _ = _; unfold plainOf; rw [HSL.out]; simp [HO.out, hln, hbt, ← UInt8.toNat_inj, hb]; omega
            have d1 : ((C.s[k].toNat : Int) == 10) = false := by simp; omega
            go_enter Try.func70, Try.ntmps70
            go_wp2_with fail
            all_goals go_ret
            all_goals exact ⟨ret_bool (by rw [HPL.out]; try rfl), HB.out⟩
        · rw [hln] at qc
          have HPL : Hid (plainOf C.str C.lines p k k sp = false) := by show _ = _; unfold plainOf; rw [HSL.out]; simp [HO.out, hln]; omega
          go_enter Try.func70, Try.ntmps70
          go_wp2_with fail
          all_goals go_ret
          all_goals exact ⟨ret_bool (by rw [HPL.out]; try rfl), HB.out⟩
    · have d2 : ((i : Int) == (k : Int)) = false := by simp; omega
      have HPL : Hid (plainOf C.str C.lines p i k sp = false) := by show _ = _; unfold plainOf; simp [HO.out, hki]
      go_enter Try.func70, Try.ntmps70
      go_wp2_with fail
      all_goals go_ret
      all_goals exact ⟨ret_bool (by rw [HPL.out]; try rfl), HB.out⟩
  · have HO := hid ho
    clear ho
    have e1 : (p.op == 1) = false := by rw [HO.out]; decide
    have e2 : (p.op == 2) = false := by rw [HO.out]; decide
    have e7 : (p.op == 7) = false := by rw [HO.out]; decide
    have e8 : (p.op == 8) = false := by rw [HO.out]; decide
    have hgr' := hgr HO.out
    have hfew := HH.out.few
    obtain ⟨g, hg, hgl⟩ : ∃ g : Nat, p.gr - 1 = (g : Int) ∧ g < sp.length := ⟨(p.gr - 1).toNat, by omega, by rw [hok.1]; omega⟩
    rcases hsp with ⟨h1, -⟩ | ⟨-, sb, sc', more, e, hsb, hrow⟩
    · subst h1; simp at hgl
    have hx := spc_get sp g sp[g] (by simp [hgl])
    have hok' := hok.2 sp[g] (List.getElem_mem _)
    have hgd : sp.getD (p.gr.toNat - 1) (-1, -1) = sp[g] := by
      rw [show p.gr.toNat - 1 = g by omega, List.getD_eq_getElem?_getD, List.getElem?_eq_getElem hgl]; rfl
    have hgs : g * 2 < (spc sp).length := by rw [spc_length]; omega
    injection e with e1 _ e3
    subst e1
    clear e3
    have hrow1 := hrow.below HB.out hrow.lt
    have s0 := hrow1.cell (g * 2)
    have s1 := hrow1.cell (g * 2 + 1)
    rw [List.getElem?_append_left hgs, show g * 2 = 2 * g by omega, hx.1] at s0
    rw [List.getElem?_append_left (by rw [spc_length]; omega), show g * 2 + 1 = 2 * g + 1 by omega, hx.2] at s1
    rw [show 2 * g = g * 2 by omega] at s0
    rw [show 2 * g + 1 = g * 2 + 1 by omega] at s1
    generalize hxe : sp[g] = x at *
    obtain ⟨x1, x2⟩ := x
    dsimp only at s0 s1
    have HGD := hid hgd
    have hgl' : (g : Int) < (sp.length : Int) := by omega
    clear hrow hrow1 hx hgd hgs hxe hok
    rcases Int.lt_or_le x1 0 with hneg | hpos
    · have d0 : decide (0 ≤ x1) = false := by simp; omega
      have HPL : Hid (plainOf C.str C.lines p i k sp = false) := by show _ = _; rw [plainOf_back HO.out HGD.out, d0]; rfl
      have HB2 := hid (HB.out.alloc (by simp) (.cells #[.int .i64 x1, .int .i64 x2] 44))
      have HC := hid (fun (x : World) (hx : Grow (((w.alloc (.cells #[.int .i64 p.op, .int .u64 p.set.a, .int .u64 p.set.b, .int .u64 p.set.c, .int .u64 p.set.d, .int .i64 p.lo, .int .i64 p.hi, .int .i64 p.gr, .slice ta tn tc] 28)).alloc (.cells #[.int .i64 x1, .int .i64 x2] 44))).drew x) => (⟨((Row.new (w := (w.alloc (.cells #[.int .i64 p.op, .int .u64 p.set.a, .int .u64 p.set.b, .int .u64 p.set.c, .int .u64 p.set.d, .int .i64 p.lo, .int .i64 p.hi, .int .i64 p.gr, .slice ta tn tc] 28))) (B := w.heap.size + 1) (cs := [.int .i64 x1, .int .i64 x2]) (T := 44) (by simp)).grow hx).two, ((HH.out.later HB2.out).later (grow_below hx)).c⟩ : _ ∧ _))
      go_enter Try.func70, Try.ntmps70
      go_wp2_with fail
      refine wp_region_inv 34 (Grow) (by kernel_rfl) (by kernel_rfl) (Grow.refl) (fun _ _ _ => Grow.trans) ?_
      simp only [fill, dstOf, Act.put, List.take_succ_cons, List.take_zero, List.getElem?_toArray, List.getElem?_cons_zero, List.getElem?_cons_succ, Option.bind_some, List.setIfInBounds_toArray, List.set_cons_zero, List.set_cons_succ]
      refine Plan.det 1 rfl (Grow.refl) ?_
      apply Exists.intro
      refine ⟨fun vs x hR hF K hK => ?_, ?_⟩
      · clear hF
        go_simp
        exact hK _ _ (Grow.refl _) rfl
      refine Plan.det 2 rfl (Grow.refl) ?_
      apply Exists.intro
      refine ⟨fun vs x hR hF K hK => ?_, ?_⟩
      · have f0 := hF 0 _ _ rfl rfl; have hc := HC.out x hR; clear hF
        go_simp
        exact hK _ _ (Grow.refl _) rfl
      refine Plan.det 3 rfl (Grow.refl) ?_
      apply Exists.intro
      refine ⟨fun vs x hR hF K hK => ?_, ?_⟩
      · have f1 := hF 0 _ _ rfl rfl; clear hF
        go_simp
        exact hK _ _ (Grow.refl _) rfl
      refine Plan.det 4 rfl (Grow.refl) ?_
      apply Exists.intro
      refine ⟨fun vs x hR hF K hK => ?_, ?_⟩
      · have f2 := hF 0 _ _ rfl rfl; clear hF
        go_simp
        exact hK _ _ (Grow.refl _) rfl
      refine Plan.det 5 rfl (Grow.refl) ?_
      apply Exists.intro
      refine ⟨fun vs x hR hF K hK => ?_, ?_⟩
      · have f3 := hF 0 _ _ rfl rfl; clear hF
        go_simp
        exact hK _ _ (Grow.refl _) rfl
      refine Plan.det 6 rfl (Grow.refl) ?_
      apply Exists.intro
      refine ⟨fun vs x hR hF K hK => ?_, ?_⟩
      · have f3 := hF 1 _ _ rfl rfl; clear hF
        go_simp
        exact hK _ _ (Grow.refl _) rfl
      refine Plan.det 7 rfl (Grow.refl) ?_
      apply Exists.intro
      refine ⟨fun vs x hR hF K hK => ?_, ?_⟩
      · have f3 := hF 2 _ _ rfl rfl; have f4 := hF 1 _ _ rfl rfl; have f5 := hF 0 _ _ rfl rfl; clear hF
        go_simp
        exact hK _ _ (Grow.refl _) rfl
      refine Plan.det 8 rfl (Grow.refl) ?_
      apply Exists.intro
      refine ⟨fun vs x hR hF K hK => ?_, ?_⟩
      · have f3 := hF 3 _ _ rfl rfl; clear hF
        go_simp
        exact hK _ _ (Grow.refl _) rfl
      refine Plan.det 9 rfl (Grow.refl) ?_
      apply Exists.intro
      refine ⟨fun vs x hR hF K hK => ?_, ?_⟩
      · have f3 := hF 4 _ _ rfl rfl; have f7 := hF 0 _ _ rfl rfl; have hc := HC.out x hR; clear hF
        go_simp
        exact hK _ _ (Grow.refl _) rfl
      refine Plan.det 10 rfl (Grow.refl) ?_
      apply Exists.intro
      refine ⟨fun vs x hR hF K hK => ?_, ?_⟩
      · have f3 := hF 5 _ _ rfl rfl; clear hF
        go_simp
        exact hK _ _ (Grow.refl _) rfl
      refine Plan.det 11 rfl (Grow.refl) ?_
      apply Exists.intro
      refine ⟨fun vs x hR hF K hK => ?_, ?_⟩
      · have f3 := hF 6 _ _ rfl rfl; have f9 := hF 0 _ _ rfl rfl; have hc := HC.out x hR; clear hF
        go_simp
        exact hK _ _ (Grow.refl _) rfl
      refine Plan.det 12 rfl (Grow.refl) ?_
      apply Exists.intro
      refine ⟨fun vs x hR hF K hK => ?_, ?_⟩
      · have f3 := hF 7 _ _ rfl rfl; have f8 := hF 2 _ _ rfl rfl; have f10 := hF 0 _ _ rfl rfl; clear hF
        go_simp
        exact hK _ _ (Grow.refl _) rfl
      refine Plan.det 13 rfl (Grow.refl) ?_
      apply Exists.intro
      refine ⟨fun vs x hR hF K hK => ?_, ?_⟩
      · have f3 := hF 8 _ _ rfl rfl; have f6 := hF 5 _ _ rfl rfl; have f11 := hF 0 _ _ rfl rfl; clear hF
        go_simp
        exact hK _ _ (Grow.refl _) rfl
      refine Plan.det 14 rfl (Grow.refl) ?_
      apply Exists.intro
      refine ⟨fun vs x hR hF K hK => ?_, ?_⟩
      · have f3 := hF 9 _ _ rfl rfl; have f12 := hF 0 _ _ rfl rfl; clear hF
        go_simp
        exact hK _ _ (Grow.refl _) rfl
      refine Plan.det 15 rfl (Grow.refl) ?_
      apply Exists.intro
      refine ⟨fun vs x hR hF K hK => ?_, ?_⟩
      · have f3 := hF 10 _ _ rfl rfl; have f13 := hF 0 _ _ rfl rfl; clear hF
        go_simp
        exact hK _ _ (Grow.refl _) rfl
      refine Plan.det 16 rfl (Grow.refl) ?_
      apply Exists.intro
      refine ⟨fun vs x hR hF K hK => ?_, ?_⟩
      · have f14 := hF 0 _ _ rfl rfl; clear hF
        go_simp
        exact hK _ _ (Grow.refl _) rfl
      refine Plan.det 17 rfl (Grow.refl) ?_
      apply Exists.intro
      refine ⟨fun vs x hR hF K hK => ?_, ?_⟩
      · have f14 := hF 1 _ _ rfl rfl; have f15 := hF 0 _ _ rfl rfl; clear hF
        go_simp
        exact hK _ _ (Grow.refl _) rfl
      refine Plan.det 18 rfl (Grow.refl) ?_
      apply Exists.intro
      refine ⟨fun vs x hR hF K hK => ?_, ?_⟩
      · have f14 := hF 2 _ _ rfl rfl; have f16 := hF 0 _ _ rfl rfl; clear hF
        go_simp
        exact hK _ _ (Grow.refl _) rfl
      refine Plan.det 19 rfl (Grow.refl) ?_
      apply Exists.intro
      refine ⟨fun vs x hR hF K hK => ?_, ?_⟩
      · have f14 := hF 3 _ _ rfl rfl; have f17 := hF 0 _ _ rfl rfl; have hc := HC.out x hR; clear hF
        go_simp
        exact hK _ _ (Grow.refl _) rfl
      refine Plan.det 20 rfl (Grow.refl) ?_
      apply Exists.intro
      refine ⟨fun vs x hR hF K hK => ?_, ?_⟩
      · have f14 := hF 4 _ _ rfl rfl; clear hF
        go_simp
        exact hK _ _ (Grow.refl _) rfl
      refine Plan.det 21 rfl (Grow.refl) ?_
      apply Exists.intro
      refine ⟨fun vs x hR hF K hK => ?_, ?_⟩
      · have f14 := hF 5 _ _ rfl rfl; clear hF
        go_simp
        exact hK _ _ (Grow.refl _) rfl
      refine Plan.det 22 rfl (Grow.refl) ?_
      apply Exists.intro
      refine ⟨fun vs x hR hF K hK => ?_, ?_⟩
      · have f14 := hF 6 _ _ rfl rfl; have f18 := hF 2 _ _ rfl rfl; have f19 := hF 1 _ _ rfl rfl; have f20 := hF 0 _ _ rfl rfl; clear hF
        go_simp
        exact hK _ _ (Grow.refl _) rfl
      refine Plan.det 23 rfl (Grow.refl) ?_
      apply Exists.intro
      refine ⟨fun vs x hR hF K hK => ?_, ?_⟩
      · have f14 := hF 7 _ _ rfl rfl; clear hF
        go_simp
        exact hK _ _ (Grow.refl _) rfl
      refine Plan.det 24 rfl (Grow.refl) ?_
      apply Exists.intro
      refine ⟨fun vs x hR hF K hK => ?_, ?_⟩
      · have f14 := hF 8 _ _ rfl rfl; have f22 := hF 0 _ _ rfl rfl; clear hF
        go_simp
        exact hK _ _ (Grow.refl _) rfl
      refine Plan.det 25 rfl (Grow.refl) ?_
      apply Exists.intro
      refine ⟨fun vs x hR hF K hK => ?_, ?_⟩
      · have f14 := hF 9 _ _ rfl rfl; have f23 := hF 0 _ _ rfl rfl; clear hF
        go_simp
        exact hK _ _ (Grow.refl _) rfl
      refine Plan.det 26 rfl (Grow.refl) ?_
      apply Exists.intro
      refine ⟨fun vs x hR hF K hK => ?_, ?_⟩
      · have f14 := hF 10 _ _ rfl rfl; have f24 := hF 0 _ _ rfl rfl; have hc := HC.out x hR; clear hF
        go_simp
        exact hK _ _ (Grow.refl _) rfl
      refine Plan.det 27 rfl (Grow.refl) ?_
      apply Exists.intro
      refine ⟨fun vs x hR hF K hK => ?_, ?_⟩
      · have f14 := hF 11 _ _ rfl rfl; clear hF
        go_simp
        exact hK _ _ (Grow.refl _) rfl
      refine Plan.det 28 rfl (Grow.refl) ?_
      apply Exists.intro
      refine ⟨fun vs x hR hF K hK => ?_, ?_⟩
      · have f14 := hF 12 _ _ rfl rfl; have f26 := hF 0 _ _ rfl rfl; have hc := HC.out x hR; clear hF
        go_simp
        exact hK _ _ (Grow.refl _) rfl
      refine Plan.det 29 rfl (Grow.refl) ?_
      apply Exists.intro
      refine ⟨fun vs x hR hF K hK => ?_, ?_⟩
      · have f14 := hF 13 _ _ rfl rfl; clear hF
        go_simp
        exact hK _ _ (Grow.refl _) rfl
      refine Plan.det 30 rfl (Grow.refl) ?_
      apply Exists.intro
      refine ⟨fun vs x hR hF K hK => ?_, ?_⟩
      · have f14 := hF 14 _ _ rfl rfl; have f28 := hF 0 _ _ rfl rfl; have hc := HC.out x hR; clear hF
        go_simp
        exact hK _ _ (Grow.refl _) rfl
      refine Plan.det 31 rfl (Grow.refl) ?_
      apply Exists.intro
      refine ⟨fun vs x hR hF K hK => ?_, ?_⟩
      · have f14 := hF 15 _ _ rfl rfl; have f25 := hF 4 _ _ rfl rfl; have f27 := hF 2 _ _ rfl rfl; have f29 := hF 0 _ _ rfl rfl; clear hF
        go_simp
        exact hK _ _ (Grow.refl _) rfl
      refine Plan.det 32 rfl (Grow.refl) ?_
      apply Exists.intro
      refine ⟨fun vs x hR hF K hK => ?_, ?_⟩
      · have f14 := hF 16 _ _ rfl rfl; have f21 := hF 9 _ _ rfl rfl; have f30 := hF 0 _ _ rfl rfl; clear hF
        go_simp
        exact hK _ _ (Grow.refl _) rfl
      refine Plan.det 33 rfl (Grow.refl) ?_
      apply Exists.intro
      refine ⟨fun vs x hR hF K hK => ?_, ?_⟩
      · have f14 := hF 17 _ _ rfl rfl; have f31 := hF 0 _ _ rfl rfl; clear hF
        go_simp
        exact hK _ _ (Grow.refl _) rfl
      refine Plan.det 34 rfl (Grow.refl) ?_
      apply Exists.intro
      refine ⟨fun vs x hR hF K hK => ?_, ?_⟩
      · have f0 := hF 32 _ _ rfl rfl; have f1 := hF 31 _ _ rfl rfl; have f2 := hF 30 _ _ rfl rfl; have f3 := hF 29 _ _ rfl rfl; have f4 := hF 28 _ _ rfl rfl; have f5 := hF 27 _ _ rfl rfl; have f6 := hF 26 _ _ rfl rfl; have f7 := hF 25 _ _ rfl rfl; have f8 := hF 24 _ _ rfl rfl; have f9 := hF 23 _ _ rfl rfl; have f10 := hF 22 _ _ rfl rfl; have f11 := hF 21 _ _ rfl rfl; have f12 := hF 20 _ _ rfl rfl; have f13 := hF 19 _ _ rfl rfl; have f14 := hF 18 _ _ rfl rfl; have f15 := hF 17 _ _ rfl rfl; have f16 := hF 16 _ _ rfl rfl; have f17 := hF 15 _ _ rfl rfl; have f18 := hF 14 _ _ rfl rfl; have f19 := hF 13 _ _ rfl rfl; have f20 := hF 12 _ _ rfl rfl; have f21 := hF 11 _ _ rfl rfl; have f22 := hF 10 _ _ rfl rfl; have f23 := hF 9 _ _ rfl rfl; have f24 := hF 8 _ _ rfl rfl; have f25 := hF 7 _ _ rfl rfl; have f26 := hF 6 _ _ rfl rfl; have f27 := hF 5 _ _ rfl rfl; have f28 := hF 4 _ _ rfl rfl; have f29 := hF 3 _ _ rfl rfl; have f30 := hF 2 _ _ rfl rfl; have f31 := hF 1 _ _ rfl rfl; have f32 := hF 0 _ _ rfl rfl; clear hF
        go_simp
        exact hK _ _ (Grow.refl _) rfl
      refine Plan.nil (fun vs x hR hF => ?_)
      have f0 := hF 33 _ _ rfl; have f1 := hF 32 _ _ rfl; have f2 := hF 31 _ _ rfl; have f3 := hF 30 _ _ rfl; have f4 := hF 29 _ _ rfl; have f5 := hF 28 _ _ rfl; have f6 := hF 27 _ _ rfl; have f7 := hF 26 _ _ rfl; have f8 := hF 25 _ _ rfl; have f9 := hF 24 _ _ rfl; have f10 := hF 23 _ _ rfl; have f11 := hF 22 _ _ rfl; have f12 := hF 21 _ _ rfl; have f13 := hF 20 _ _ rfl; have f14 := hF 19 _ _ rfl; have f15 := hF 18 _ _ rfl; have f16 := hF 17 _ _ rfl; have f17 := hF 16 _ _ rfl; have f18 := hF 15 _ _ rfl; have f19 := hF 14 _ _ rfl; have f20 := hF 13 _ _ rfl; have f21 := hF 12 _ _ rfl; have f22 := hF 11 _ _ rfl; have f23 := hF 10 _ _ rfl; have f24 := hF 9 _ _ rfl; have f25 := hF 8 _ _ rfl; have f26 := hF 7 _ _ rfl; have f27 := hF 6 _ _ rfl; have f28 := hF 5 _ _ rfl; have f29 := hF 4 _ _ rfl; have f30 := hF 3 _ _ rfl; have f31 := hF 2 _ _ rfl; have f32 := hF 1 _ _ rfl; have f33 := hF 0 _ _ rfl
      clear hF
      simp only [f0, f1, f2, f3, f4, f5, f6, f7, f8, f9, f10, f11, f12, f13, f14, f15, f16, f17, f18, f19, f20, f21, f22, f23, f24, f25, f26, f27, f28, f29, f30, f31, f32, f33]
      clear f0 f1 f2 f3 f4 f5 f6 f7 f8 f9 f10 f11 f12 f13 f14 f15 f16 f17 f18 f19 f20 f21 f22 f23 f24 f25 f26 f27 f28 f29 f30 f31 f32 f33
      simp only [List.drop_succ_cons, List.drop_zero]
      have hbx : Below w.heap.size w x := below_grow HB2.out (by simp; try omega) hR
      have HBX := hid hbx
      clear HC hR hbx q0 qc
      go_wp2_with fail
      go_ret
      exact ⟨ret_bool (by rw [HPL.out]; try rfl), HBX.out⟩
    · have hok2 : 0 ≤ x1 ∧ x1 ≤ x2 ∧ x2 ≤ C.s.size := by
        rcases hok' with e | e
        · injection e with e1 e2; omega
        · exact e
      clear hok'
      obtain ⟨a, rfl⟩ : ∃ a : Nat, x1 = a := ⟨x1.toNat, by omega⟩
      obtain ⟨b, rfl⟩ : ∃ b : Nat, x2 = b := ⟨x2.toNat, by omega⟩
      by_cases hk : (k : Int) - (i : Int) = (b : Int) - (a : Int)
      · have d0 : ((k : Int) - (i : Int) == (b : Int) - (a : Int)) = true := by simp; omega
        have hpl : plainOf C.str C.lines p i k sp = decide ((C.s.extract i k).toList = (C.s.extract a b).toList) := by
          rw [plainOf_back HO.out HGD.out, ext_list, ext_list]
          have e : b - a = k - i := by omega
          simp only [Int.toNat_natCast, e]
          rw [decide_eq_true (show (0 : Int) ≤ (a : Int) by omega), decide_eq_true (show (k : Int) - i = (b : Int) - a by omega)]
          rfl
        have hv1 : IntKind.i64.wrap ((k : Int) - (i : Int)) = (b : Int) - (a : Int) := by rw [IntKind.wrap_i64]; omega
        have hv2 : IntKind.i64.wrap ((b : Int) - (a : Int)) = (b : Int) - (a : Int) := by rw [IntKind.wrap_i64]; omega
        have HK := hid hk
        clear hk
        by_cases hse : (C.s.extract i k).toList = (C.s.extract a b).toList
        · have HPL : Hid (plainOf C.str C.lines p i k sp = true) := by show _ = _; rw [hpl]; simp [hse]
          have hse' : ((C.s.extract i k).toList = (C.s.extract a b).toList) = True := by simp [hse]
          have hsb' : ((C.s.extract i k).toList == (C.s.extract a b).toList) = true := by simp [hse]
          clear hpl hse
          have HB2 := hid (HB.out.alloc (by simp) (.cells #[.int .i64 a, .int .i64 b] 44))
          have HC := hid (fun (x : World) (hx : Grow (((w.alloc (.cells #[.int .i64 p.op, .int .u64 p.set.a, .int .u64 p.set.b, .int .u64 p.set.c, .int .u64 p.set.d, .int .i64 p.lo, .int .i64 p.hi, .int .i64 p.gr, .slice ta tn tc] 28)).alloc (.cells #[.int .i64 a, .int .i64 b] 44))).drew x) => (⟨((Row.new (w := (w.alloc (.cells #[.int .i64 p.op, .int .u64 p.set.a, .int .u64 p.set.b, .int .u64 p.set.c, .int .u64 p.set.d, .int .i64 p.lo, .int .i64 p.hi, .int .i64 p.gr, .slice ta tn tc] 28))) (B := w.heap.size + 1) (cs := [.int .i64 a, .int .i64 b]) (T := 44) (by simp)).grow hx).two, ((HH.out.later HB2.out).later (grow_below hx)).c⟩ : _ ∧ _))
          go_enter Try.func70, Try.ntmps70
          go_wp2_with fail
          refine wp_region_inv 34 (Grow) (by kernel_rfl) (by kernel_rfl) (Grow.refl) (fun _ _ _ => Grow.trans) ?_
          simp only [fill, dstOf, Act.put, List.take_succ_cons, List.take_zero, List.getElem?_toArray, List.getElem?_cons_zero, List.getElem?_cons_succ, Option.bind_some, List.setIfInBounds_toArray, List.set_cons_zero, List.set_cons_succ]
          refine Plan.det 1 rfl (Grow.refl) ?_
          apply Exists.intro
          refine ⟨fun vs x hR hF K hK => ?_, ?_⟩
          · clear hF
            go_simp
            exact hK _ _ (Grow.refl _) rfl
          refine Plan.det 2 rfl (Grow.refl) ?_
          apply Exists.intro
          refine ⟨fun vs x hR hF K hK => ?_, ?_⟩
          · have f0 := hF 0 _ _ rfl rfl; have hc := HC.out x hR; clear hF
            go_simp
            exact hK _ _ (Grow.refl _) rfl
          refine Plan.det 3 rfl (Grow.refl) ?_
          apply Exists.intro
          refine ⟨fun vs x hR hF K hK => ?_, ?_⟩
          · have f1 := hF 0 _ _ rfl rfl; clear hF
            go_simp
            exact hK _ _ (Grow.refl _) rfl
          refine Plan.det 4 rfl (Grow.refl) ?_
          apply Exists.intro
          refine ⟨fun vs x hR hF K hK => ?_, ?_⟩
          · have f2 := hF 0 _ _ rfl rfl; clear hF
            go_simp
            exact hK _ _ (Grow.refl _) rfl
          refine Plan.det 5 rfl (Grow.refl) ?_
          apply Exists.intro
          refine ⟨fun vs x hR hF K hK => ?_, ?_⟩
          · have f3 := hF 0 _ _ rfl rfl; clear hF
            go_simp
            exact hK _ _ (Grow.refl _) rfl
          refine Plan.det 6 rfl (Grow.refl) ?_
          apply Exists.intro
          refine ⟨fun vs x hR hF K hK => ?_, ?_⟩
          · have f3 := hF 1 _ _ rfl rfl; clear hF
            go_simp
            exact hK _ _ (Grow.refl _) rfl
          refine Plan.det 7 rfl (Grow.refl) ?_
          apply Exists.intro
          refine ⟨fun vs x hR hF K hK => ?_, ?_⟩
          · have f3 := hF 2 _ _ rfl rfl; have f4 := hF 1 _ _ rfl rfl; have f5 := hF 0 _ _ rfl rfl; clear hF
            go_simp
            exact hK _ _ (Grow.refl _) rfl
          refine Plan.det 8 rfl (Grow.refl) ?_
          apply Exists.intro
          refine ⟨fun vs x hR hF K hK => ?_, ?_⟩
          · have f3 := hF 3 _ _ rfl rfl; clear hF
            go_simp
            exact hK _ _ (Grow.refl _) rfl
          refine Plan.det 9 rfl (Grow.refl) ?_
          apply Exists.intro
          refine ⟨fun vs x hR hF K hK => ?_, ?_⟩
          · have f3 := hF 4 _ _ rfl rfl; have f7 := hF 0 _ _ rfl rfl; have hc := HC.out x hR; clear hF
            go_simp
            exact hK _ _ (Grow.refl _) rfl
          refine Plan.det 10 rfl (Grow.refl) ?_
          apply Exists.intro
          refine ⟨fun vs x hR hF K hK => ?_, ?_⟩
          · have f3 := hF 5 _ _ rfl rfl; clear hF
            go_simp
            exact hK _ _ (Grow.refl _) rfl
          refine Plan.det 11 rfl (Grow.refl) ?_
          apply Exists.intro
          refine ⟨fun vs x hR hF K hK => ?_, ?_⟩
          · have f3 := hF 6 _ _ rfl rfl; have f9 := hF 0 _ _ rfl rfl; have hc := HC.out x hR; clear hF
            go_simp
            exact hK _ _ (Grow.refl _) rfl
          refine Plan.det 12 rfl (Grow.refl) ?_
          apply Exists.intro
          refine ⟨fun vs x hR hF K hK => ?_, ?_⟩
          · have f3 := hF 7 _ _ rfl rfl; have f8 := hF 2 _ _ rfl rfl; have f10 := hF 0 _ _ rfl rfl; clear hF
            go_simp
            exact hK _ _ (Grow.refl _) rfl
          refine Plan.det 13 rfl (Grow.refl) ?_
          apply Exists.intro
          refine ⟨fun vs x hR hF K hK => ?_, ?_⟩
          · have f3 := hF 8 _ _ rfl rfl; have f6 := hF 5 _ _ rfl rfl; have f11 := hF 0 _ _ rfl rfl; clear hF
            go_simp
            exact hK _ _ (Grow.refl _) rfl
          refine Plan.det 14 rfl (Grow.refl) ?_
          apply Exists.intro
          refine ⟨fun vs x hR hF K hK => ?_, ?_⟩
          · have f3 := hF 9 _ _ rfl rfl; have f12 := hF 0 _ _ rfl rfl; clear hF
            go_simp
            exact hK _ _ (Grow.refl _) rfl
          refine Plan.det 15 rfl (Grow.refl) ?_
          apply Exists.intro
          refine ⟨fun vs x hR hF K hK => ?_, ?_⟩
          · have f3 := hF 10 _ _ rfl rfl; have f13 := hF 0 _ _ rfl rfl; clear hF
            go_simp
            exact hK _ _ (Grow.refl _) rfl
          refine Plan.det 16 rfl (Grow.refl) ?_
          apply Exists.intro
          refine ⟨fun vs x hR hF K hK => ?_, ?_⟩
          · have f14 := hF 0 _ _ rfl rfl; clear hF
            go_simp
            exact hK _ _ (Grow.refl _) rfl
          refine Plan.det 17 rfl (Grow.refl) ?_
          apply Exists.intro
          refine ⟨fun vs x hR hF K hK => ?_, ?_⟩
          · have f14 := hF 1 _ _ rfl rfl; have f15 := hF 0 _ _ rfl rfl; clear hF
            go_simp
            exact hK _ _ (Grow.refl _) rfl
          refine Plan.det 18 rfl (Grow.refl) ?_
          apply Exists.intro
          refine ⟨fun vs x hR hF K hK => ?_, ?_⟩
          · have f14 := hF 2 _ _ rfl rfl; have f16 := hF 0 _ _ rfl rfl; clear hF
            go_simp
            exact hK _ _ (Grow.refl _) rfl
          refine Plan.det 19 rfl (Grow.refl) ?_
          apply Exists.intro
          refine ⟨fun vs x hR hF K hK => ?_, ?_⟩
          · have f14 := hF 3 _ _ rfl rfl; have f17 := hF 0 _ _ rfl rfl; have hc := HC.out x hR; clear hF
            go_simp
            exact hK _ _ (Grow.refl _) rfl
          refine Plan.det 20 rfl (Grow.refl) ?_
          apply Exists.intro
          refine ⟨fun vs x hR hF K hK => ?_, ?_⟩
          · have f14 := hF 4 _ _ rfl rfl; clear hF
            go_simp
            exact hK _ _ (Grow.refl _) rfl
          refine Plan.det 21 rfl (Grow.refl) ?_
          apply Exists.intro
          refine ⟨fun vs x hR hF K hK => ?_, ?_⟩
          · have f14 := hF 5 _ _ rfl rfl; clear hF
            go_simp
            exact hK _ _ (Grow.refl _) rfl
          refine Plan.det 22 rfl (Grow.refl) ?_
          apply Exists.intro
          refine ⟨fun vs x hR hF K hK => ?_, ?_⟩
          · have f14 := hF 6 _ _ rfl rfl; have f18 := hF 2 _ _ rfl rfl; have f19 := hF 1 _ _ rfl rfl; have f20 := hF 0 _ _ rfl rfl; clear hF
            go_simp
            exact hK _ _ (Grow.refl _) rfl
          refine Plan.det 23 rfl (Grow.refl) ?_
          apply Exists.intro
          refine ⟨fun vs x hR hF K hK => ?_, ?_⟩
          · have f14 := hF 7 _ _ rfl rfl; clear hF
            go_simp
            exact hK _ _ (Grow.refl _) rfl
          refine Plan.det 24 rfl (Grow.refl) ?_
          apply Exists.intro
          refine ⟨fun vs x hR hF K hK => ?_, ?_⟩
          · have f14 := hF 8 _ _ rfl rfl; have f22 := hF 0 _ _ rfl rfl; clear hF
            go_simp
            exact hK _ _ (Grow.refl _) rfl
          refine Plan.det 25 rfl (Grow.refl) ?_
          apply Exists.intro
          refine ⟨fun vs x hR hF K hK => ?_, ?_⟩
          · have f14 := hF 9 _ _ rfl rfl; have f23 := hF 0 _ _ rfl rfl; clear hF
            go_simp
            exact hK _ _ (Grow.refl _) rfl
          refine Plan.det 26 rfl (Grow.refl) ?_
          apply Exists.intro
          refine ⟨fun vs x hR hF K hK => ?_, ?_⟩
          · have f14 := hF 10 _ _ rfl rfl; have f24 := hF 0 _ _ rfl rfl; have hc := HC.out x hR; clear hF
            go_simp
            exact hK _ _ (Grow.refl _) rfl
          refine Plan.det 27 rfl (Grow.refl) ?_
          apply Exists.intro
          refine ⟨fun vs x hR hF K hK => ?_, ?_⟩
          · have f14 := hF 11 _ _ rfl rfl; clear hF
            go_simp
            exact hK _ _ (Grow.refl _) rfl
          refine Plan.det 28 rfl (Grow.refl) ?_
          apply Exists.intro
          refine ⟨fun vs x hR hF K hK => ?_, ?_⟩
          · have f14 := hF 12 _ _ rfl rfl; have f26 := hF 0 _ _ rfl rfl; have hc := HC.out x hR; clear hF
            go_simp
            exact hK _ _ (Grow.refl _) rfl
          refine Plan.det 29 rfl (Grow.refl) ?_
          apply Exists.intro
          refine ⟨fun vs x hR hF K hK => ?_, ?_⟩
          · have f14 := hF 13 _ _ rfl rfl; clear hF
            go_simp
            exact hK _ _ (Grow.refl _) rfl
          refine Plan.det 30 rfl (Grow.refl) ?_
          apply Exists.intro
          refine ⟨fun vs x hR hF K hK => ?_, ?_⟩
          · have f14 := hF 14 _ _ rfl rfl; have f28 := hF 0 _ _ rfl rfl; have hc := HC.out x hR; clear hF
            go_simp
            exact hK _ _ (Grow.refl _) rfl
          refine Plan.det 31 rfl (Grow.refl) ?_
          apply Exists.intro
          refine ⟨fun vs x hR hF K hK => ?_, ?_⟩
          · have f14 := hF 15 _ _ rfl rfl; have f25 := hF 4 _ _ rfl rfl; have f27 := hF 2 _ _ rfl rfl; have f29 := hF 0 _ _ rfl rfl; clear hF
            go_simp
            exact hK _ _ (Grow.refl _) rfl
          refine Plan.det 32 rfl (Grow.refl) ?_
          apply Exists.intro
          refine ⟨fun vs x hR hF K hK => ?_, ?_⟩
          · have f14 := hF 16 _ _ rfl rfl; have f21 := hF 9 _ _ rfl rfl; have f30 := hF 0 _ _ rfl rfl; clear hF
            go_simp
            exact hK _ _ (Grow.refl _) rfl
          refine Plan.det 33 rfl (Grow.refl) ?_
          apply Exists.intro
          refine ⟨fun vs x hR hF K hK => ?_, ?_⟩
          · have f14 := hF 17 _ _ rfl rfl; have f31 := hF 0 _ _ rfl rfl; clear hF
            go_simp
            exact hK _ _ (Grow.refl _) rfl
          refine Plan.det 34 rfl (Grow.refl) ?_
          apply Exists.intro
          refine ⟨fun vs x hR hF K hK => ?_, ?_⟩
          · have f0 := hF 32 _ _ rfl rfl; have f1 := hF 31 _ _ rfl rfl; have f2 := hF 30 _ _ rfl rfl; have f3 := hF 29 _ _ rfl rfl; have f4 := hF 28 _ _ rfl rfl; have f5 := hF 27 _ _ rfl rfl; have f6 := hF 26 _ _ rfl rfl; have f7 := hF 25 _ _ rfl rfl; have f8 := hF 24 _ _ rfl rfl; have f9 := hF 23 _ _ rfl rfl; have f10 := hF 22 _ _ rfl rfl; have f11 := hF 21 _ _ rfl rfl; have f12 := hF 20 _ _ rfl rfl; have f13 := hF 19 _ _ rfl rfl; have f14 := hF 18 _ _ rfl rfl; have f15 := hF 17 _ _ rfl rfl; have f16 := hF 16 _ _ rfl rfl; have f17 := hF 15 _ _ rfl rfl; have f18 := hF 14 _ _ rfl rfl; have f19 := hF 13 _ _ rfl rfl; have f20 := hF 12 _ _ rfl rfl; have f21 := hF 11 _ _ rfl rfl; have f22 := hF 10 _ _ rfl rfl; have f23 := hF 9 _ _ rfl rfl; have f24 := hF 8 _ _ rfl rfl; have f25 := hF 7 _ _ rfl rfl; have f26 := hF 6 _ _ rfl rfl; have f27 := hF 5 _ _ rfl rfl; have f28 := hF 4 _ _ rfl rfl; have f29 := hF 3 _ _ rfl rfl; have f30 := hF 2 _ _ rfl rfl; have f31 := hF 1 _ _ rfl rfl; have f32 := hF 0 _ _ rfl rfl; clear hF
            go_simp
            exact hK _ _ (Grow.refl _) rfl
          refine Plan.nil (fun vs x hR hF => ?_)
          have f0 := hF 33 _ _ rfl; have f1 := hF 32 _ _ rfl; have f2 := hF 31 _ _ rfl; have f3 := hF 30 _ _ rfl; have f4 := hF 29 _ _ rfl; have f5 := hF 28 _ _ rfl; have f6 := hF 27 _ _ rfl; have f7 := hF 26 _ _ rfl; have f8 := hF 25 _ _ rfl; have f9 := hF 24 _ _ rfl; have f10 := hF 23 _ _ rfl; have f11 := hF 22 _ _ rfl; have f12 := hF 21 _ _ rfl; have f13 := hF 20 _ _ rfl; have f14 := hF 19 _ _ rfl; have f15 := hF 18 _ _ rfl; have f16 := hF 17 _ _ rfl; have f17 := hF 16 _ _ rfl; have f18 := hF 15 _ _ rfl; have f19 := hF 14 _ _ rfl; have f20 := hF 13 _ _ rfl; have f21 := hF 12 _ _ rfl; have f22 := hF 11 _ _ rfl; have f23 := hF 10 _ _ rfl; have f24 := hF 9 _ _ rfl; have f25 := hF 8 _ _ rfl; have f26 := hF 7 _ _ rfl; have f27 := hF 6 _ _ rfl; have f28 := hF 5 _ _ rfl; have f29 := hF 4 _ _ rfl; have f30 := hF 3 _ _ rfl; have f31 := hF 2 _ _ rfl; have f32 := hF 1 _ _ rfl; have f33 := hF 0 _ _ rfl
          clear hF
          simp only [f0, f1, f2, f3, f4, f5, f6, f7, f8, f9, f10, f11, f12, f13, f14, f15, f16, f17, f18, f19, f20, f21, f22, f23, f24, f25, f26, f27, f28, f29, f30, f31, f32, f33]
          clear f0 f1 f2 f3 f4 f5 f6 f7 f8 f9 f10 f11 f12 f13 f14 f15 f16 f17 f18 f19 f20 f21 f22 f23 f24 f25 f26 f27 f28 f29 f30 f31 f32 f33
          simp only [List.drop_succ_cons, List.drop_zero]
          have hbx : Below w.heap.size w x := below_grow HB2.out (by simp; try omega) hR
          have HBX := hid hbx
          clear HC hR hbx q0 qc
          go_wp2_with fail
          go_ret
          exact ⟨ret_bool (by rw [HPL.out]; try rfl), HBX.out⟩
        · have HPL : Hid (plainOf C.str C.lines p i k sp = false) := by show _ = _; rw [hpl]; simp [hse]
          have hsb' : ((C.s.extract i k).toList == (C.s.extract a b).toList) = false := by simp [hse]
          clear hpl
          have HB2 := hid (HB.out.alloc (by simp) (.cells #[.int .i64 a, .int .i64 b] 44))
          have HC := hid (fun (x : World) (hx : Grow (((w.alloc (.cells #[.int .i64 p.op, .int .u64 p.set.a, .int .u64 p.set.b, .int .u64 p.set.c, .int .u64 p.set.d, .int .i64 p.lo, .int .i64 p.hi, .int .i64 p.gr, .slice ta tn tc] 28)).alloc (.cells #[.int .i64 a, .int .i64 b] 44))).drew x) => (⟨((Row.new (w := (w.alloc (.cells #[.int .i64 p.op, .int .u64 p.set.a, .int .u64 p.set.b, .int .u64 p.set.c, .int .u64 p.set.d, .int .i64 p.lo, .int .i64 p.hi, .int .i64 p.gr, .slice ta tn tc] 28))) (B := w.heap.size + 1) (cs := [.int .i64 a, .int .i64 b]) (T := 44) (by simp)).grow hx).two, ((HH.out.later HB2.out).later (grow_below hx)).c⟩ : _ ∧ _))
          go_enter Try.func70, Try.ntmps70
          go_wp2_with fail
          refine wp_region_inv 34 (Grow) (by kernel_rfl) (by kernel_rfl) (Grow.refl) (fun _ _ _ => Grow.trans) ?_
          simp only [fill, dstOf, Act.put, List.take_succ_cons, List.take_zero, List.getElem?_toArray, List.getElem?_cons_zero, List.getElem?_cons_succ, Option.bind_some, List.setIfInBounds_toArray, List.set_cons_zero, List.set_cons_succ]
          refine Plan.det 1 rfl (Grow.refl) ?_
          apply Exists.intro
          refine ⟨fun vs x hR hF K hK => ?_, ?_⟩
          · clear hF
            go_simp
            exact hK _ _ (Grow.refl _) rfl
          refine Plan.det 2 rfl (Grow.refl) ?_
          apply Exists.intro
          refine ⟨fun vs x hR hF K hK => ?_, ?_⟩
          · have f0 := hF 0 _ _ rfl rfl; have hc := HC.out x hR; clear hF
            go_simp
            exact hK _ _ (Grow.refl _) rfl
          refine Plan.det 3 rfl (Grow.refl) ?_
          apply Exists.intro
          refine ⟨fun vs x hR hF K hK => ?_, ?_⟩
          · have f1 := hF 0 _ _ rfl rfl; clear hF
            go_simp
            exact hK _ _ (Grow.refl _) rfl
          refine Plan.det 4 rfl (Grow.refl) ?_
          apply Exists.intro
          refine ⟨fun vs x hR hF K hK => ?_, ?_⟩
          · have f2 := hF 0 _ _ rfl rfl; clear hF
            go_simp
            exact hK _ _ (Grow.refl _) rfl
          refine Plan.det 5 rfl (Grow.refl) ?_
          apply Exists.intro
          refine ⟨fun vs x hR hF K hK => ?_, ?_⟩
          · have f3 := hF 0 _ _ rfl rfl; clear hF
            go_simp
            exact hK _ _ (Grow.refl _) rfl
          refine Plan.det 6 rfl (Grow.refl) ?_
          apply Exists.intro
          refine ⟨fun vs x hR hF K hK => ?_, ?_⟩
          · have f3 := hF 1 _ _ rfl rfl; clear hF
            go_simp
            exact hK _ _ (Grow.refl _) rfl
          refine Plan.det 7 rfl (Grow.refl) ?_
          apply Exists.intro
          refine ⟨fun vs x hR hF K hK => ?_, ?_⟩
          · have f3 := hF 2 _ _ rfl rfl; have f4 := hF 1 _ _ rfl rfl; have f5 := hF 0 _ _ rfl rfl; clear hF
            go_simp
            exact hK _ _ (Grow.refl _) rfl
          refine Plan.det 8 rfl (Grow.refl) ?_
          apply Exists.intro
          refine ⟨fun vs x hR hF K hK => ?_, ?_⟩
          · have f3 := hF 3 _ _ rfl rfl; clear hF
            go_simp
            exact hK _ _ (Grow.refl _) rfl
          refine Plan.det 9 rfl (Grow.refl) ?_
          apply Exists.intro
          refine ⟨fun vs x hR hF K hK => ?_, ?_⟩
          · have f3 := hF 4 _ _ rfl rfl; have f7 := hF 0 _ _ rfl rfl; have hc := HC.out x hR; clear hF
            go_simp
            exact hK _ _ (Grow.refl _) rfl
          refine Plan.det 10 rfl (Grow.refl) ?_
          apply Exists.intro
          refine ⟨fun vs x hR hF K hK => ?_, ?_⟩
          · have f3 := hF 5 _ _ rfl rfl; clear hF
            go_simp
            exact hK _ _ (Grow.refl _) rfl
          refine Plan.det 11 rfl (Grow.refl) ?_
          apply Exists.intro
          refine ⟨fun vs x hR hF K hK => ?_, ?_⟩
          · have f3 := hF 6 _ _ rfl rfl; have f9 := hF 0 _ _ rfl rfl; have hc := HC.out x hR; clear hF
            go_simp
            exact hK _ _ (Grow.refl _) rfl
          refine Plan.det 12 rfl (Grow.refl) ?_
          apply Exists.intro
          refine ⟨fun vs x hR hF K hK => ?_, ?_⟩
          · have f3 := hF 7 _ _ rfl rfl; have f8 := hF 2 _ _ rfl rfl; have f10 := hF 0 _ _ rfl rfl; clear hF
            go_simp
            exact hK _ _ (Grow.refl _) rfl
          refine Plan.det 13 rfl (Grow.refl) ?_
          apply Exists.intro
          refine ⟨fun vs x hR hF K hK => ?_, ?_⟩
          · have f3 := hF 8 _ _ rfl rfl; have f6 := hF 5 _ _ rfl rfl; have f11 := hF 0 _ _ rfl rfl; clear hF
            go_simp
            exact hK _ _ (Grow.refl _) rfl
          refine Plan.det 14 rfl (Grow.refl) ?_
          apply Exists.intro
          refine ⟨fun vs x hR hF K hK => ?_, ?_⟩
          · have f3 := hF 9 _ _ rfl rfl; have f12 := hF 0 _ _ rfl rfl; clear hF
            go_simp
            exact hK _ _ (Grow.refl _) rfl
          refine Plan.det 15 rfl (Grow.refl) ?_
          apply Exists.intro
          refine ⟨fun vs x hR hF K hK => ?_, ?_⟩
          · have f3 := hF 10 _ _ rfl rfl; have f13 := hF 0 _ _ rfl rfl; clear hF
            go_simp
            exact hK _ _ (Grow.refl _) rfl
          refine Plan.det 16 rfl (Grow.refl) ?_
          apply Exists.intro
          refine ⟨fun vs x hR hF K hK => ?_, ?_⟩
          · have f14 := hF 0 _ _ rfl rfl; clear hF
            go_simp
            exact hK _ _ (Grow.refl _) rfl
          refine Plan.det 17 rfl (Grow.refl) ?_
          apply Exists.intro
          refine ⟨fun vs x hR hF K hK => ?_, ?_⟩
          · have f14 := hF 1 _ _ rfl rfl; have f15 := hF 0 _ _ rfl rfl; clear hF
            go_simp
            exact hK _ _ (Grow.refl _) rfl
          refine Plan.det 18 rfl (Grow.refl) ?_
          apply Exists.intro
          refine ⟨fun vs x hR hF K hK => ?_, ?_⟩
          · have f14 := hF 2 _ _ rfl rfl; have f16 := hF 0 _ _ rfl rfl; clear hF
            go_simp
            exact hK _ _ (Grow.refl _) rfl
          refine Plan.det 19 rfl (Grow.refl) ?_
          apply Exists.intro
          refine ⟨fun vs x hR hF K hK => ?_, ?_⟩
          · have f14 := hF 3 _ _ rfl rfl; have f17 := hF 0 _ _ rfl rfl; have hc := HC.out x hR; clear hF
            go_simp
            exact hK _ _ (Grow.refl _) rfl
          refine Plan.det 20 rfl (Grow.refl) ?_
          apply Exists.intro
          refine ⟨fun vs x hR hF K hK => ?_, ?_⟩
          · have f14 := hF 4 _ _ rfl rfl; clear hF
            go_simp
            exact hK _ _ (Grow.refl _) rfl
          refine Plan.det 21 rfl (Grow.refl) ?_
          apply Exists.intro
          refine ⟨fun vs x hR hF K hK => ?_, ?_⟩
          · have f14 := hF 5 _ _ rfl rfl; clear hF
            go_simp
            exact hK _ _ (Grow.refl _) rfl
          refine Plan.det 22 rfl (Grow.refl) ?_
          apply Exists.intro
          refine ⟨fun vs x hR hF K hK => ?_, ?_⟩
          · have f14 := hF 6 _ _ rfl rfl; have f18 := hF 2 _ _ rfl rfl; have f19 := hF 1 _ _ rfl rfl; have f20 := hF 0 _ _ rfl rfl; clear hF
            go_simp
            exact hK _ _ (Grow.refl _) rfl
          refine Plan.det 23 rfl (Grow.refl) ?_
          apply Exists.intro
          refine ⟨fun vs x hR hF K hK => ?_, ?_⟩
          · have f14 := hF 7 _ _ rfl rfl; clear hF
            go_simp
            exact hK _ _ (Grow.refl _) rfl
          refine Plan.det 24 rfl (Grow.refl) ?_
          apply Exists.intro
          refine ⟨fun vs x hR hF K hK => ?_, ?_⟩
          · have f14 := hF 8 _ _ rfl rfl; have f22 := hF 0 _ _ rfl rfl; clear hF
            go_simp
            exact hK _ _ (Grow.refl _) rfl
          refine Plan.det 25 rfl (Grow.refl) ?_
          apply Exists.intro
          refine ⟨fun vs x hR hF K hK => ?_, ?_⟩
          · have f14 := hF 9 _ _ rfl rfl; have f23 := hF 0 _ _ rfl rfl; clear hF
            go_simp
            exact hK _ _ (Grow.refl _) rfl
          refine Plan.det 26 rfl (Grow.refl) ?_
          apply Exists.intro
          refine ⟨fun vs x hR hF K hK => ?_, ?_⟩
          · have f14 := hF 10 _ _ rfl rfl; have f24 := hF 0 _ _ rfl rfl; have hc := HC.out x hR; clear hF
            go_simp
            exact hK _ _ (Grow.refl _) rfl
          refine Plan.det 27 rfl (Grow.refl) ?_
          apply Exists.intro
          refine ⟨fun vs x hR hF K hK => ?_, ?_⟩
          · have f14 := hF 11 _ _ rfl rfl; clear hF
            go_simp
            exact hK _ _ (Grow.refl _) rfl
          refine Plan.det 28 rfl (Grow.refl) ?_
          apply Exists.intro
          refine ⟨fun vs x hR hF K hK => ?_, ?_⟩
          · have f14 := hF 12 _ _ rfl rfl; have f26 := hF 0 _ _ rfl rfl; have hc := HC.out x hR; clear hF
            go_simp
            exact hK _ _ (Grow.refl _) rfl
          refine Plan.det 29 rfl (Grow.refl) ?_
          apply Exists.intro
          refine ⟨fun vs x hR hF K hK => ?_, ?_⟩
          · have f14 := hF 13 _ _ rfl rfl; clear hF
            go_simp
            exact hK _ _ (Grow.refl _) rfl
          refine Plan.det 30 rfl (Grow.refl) ?_
          apply Exists.intro
          refine ⟨fun vs x hR hF K hK => ?_, ?_⟩
          · have f14 := hF 14 _ _ rfl rfl; have f28 := hF 0 _ _ rfl rfl; have hc := HC.out x hR; clear hF
            go_simp
            exact hK _ _ (Grow.refl _) rfl
          refine Plan.det 31 rfl (Grow.refl) ?_
          apply Exists.intro
          refine ⟨fun vs x hR hF K hK => ?_, ?_⟩
          · have f14 := hF 15 _ _ rfl rfl; have f25 := hF 4 _ _ rfl rfl; have f27 := hF 2 _ _ rfl rfl; have f29 := hF 0 _ _ rfl rfl; clear hF
            go_simp
            exact hK _ _ (Grow.refl _) rfl
          refine Plan.det 32 rfl (Grow.refl) ?_
          apply Exists.intro
          refine ⟨fun vs x hR hF K hK => ?_, ?_⟩
          · have f14 := hF 16 _ _ rfl rfl; have f21 := hF 9 _ _ rfl rfl; have f30 := hF 0 _ _ rfl rfl; clear hF
            go_simp
            exact hK _ _ (Grow.refl _) rfl
          refine Plan.det 33 rfl (Grow.refl) ?_
          apply Exists.intro
          refine ⟨fun vs x hR hF K hK => ?_, ?_⟩
          · have f14 := hF 17 _ _ rfl rfl; have f31 := hF 0 _ _ rfl rfl; clear hF
            go_simp
            exact hK _ _ (Grow.refl _) rfl
          refine Plan.det 34 rfl (Grow.refl) ?_
          apply Exists.intro
          refine ⟨fun vs x hR hF K hK => ?_, ?_⟩
          · have f0 := hF 32 _ _ rfl rfl; have f1 := hF 31 _ _ rfl rfl; have f2 := hF 30 _ _ rfl rfl; have f3 := hF 29 _ _ rfl rfl; have f4 := hF 28 _ _ rfl rfl; have f5 := hF 27 _ _ rfl rfl; have f6 := hF 26 _ _ rfl rfl; have f7 := hF 25 _ _ rfl rfl; have f8 := hF 24 _ _ rfl rfl; have f9 := hF 23 _ _ rfl rfl; have f10 := hF 22 _ _ rfl rfl; have f11 := hF 21 _ _ rfl rfl; have f12 := hF 20 _ _ rfl rfl; have f13 := hF 19 _ _ rfl rfl; have f14 := hF 18 _ _ rfl rfl; have f15 := hF 17 _ _ rfl rfl; have f16 := hF 16 _ _ rfl rfl; have f17 := hF 15 _ _ rfl rfl; have f18 := hF 14 _ _ rfl rfl; have f19 := hF 13 _ _ rfl rfl; have f20 := hF 12 _ _ rfl rfl; have f21 := hF 11 _ _ rfl rfl; have f22 := hF 10 _ _ rfl rfl; have f23 := hF 9 _ _ rfl rfl; have f24 := hF 8 _ _ rfl rfl; have f25 := hF 7 _ _ rfl rfl; have f26 := hF 6 _ _ rfl rfl; have f27 := hF 5 _ _ rfl rfl; have f28 := hF 4 _ _ rfl rfl; have f29 := hF 3 _ _ rfl rfl; have f30 := hF 2 _ _ rfl rfl; have f31 := hF 1 _ _ rfl rfl; have f32 := hF 0 _ _ rfl rfl; clear hF
            go_simp
            exact hK _ _ (Grow.refl _) rfl
          refine Plan.nil (fun vs x hR hF => ?_)
          have f0 := hF 33 _ _ rfl; have f1 := hF 32 _ _ rfl; have f2 := hF 31 _ _ rfl; have f3 := hF 30 _ _ rfl; have f4 := hF 29 _ _ rfl; have f5 := hF 28 _ _ rfl; have f6 := hF 27 _ _ rfl; have f7 := hF 26 _ _ rfl; have f8 := hF 25 _ _ rfl; have f9 := hF 24 _ _ rfl; have f10 := hF 23 _ _ rfl; have f11 := hF 22 _ _ rfl; have f12 := hF 21 _ _ rfl; have f13 := hF 20 _ _ rfl; have f14 := hF 19 _ _ rfl; have f15 := hF 18 _ _ rfl; have f16 := hF 17 _ _ rfl; have f17 := hF 16 _ _ rfl; have f18 := hF 15 _ _ rfl; have f19 := hF 14 _ _ rfl; have f20 := hF 13 _ _ rfl; have f21 := hF 12 _ _ rfl; have f22 := hF 11 _ _ rfl; have f23 := hF 10 _ _ rfl; have f24 := hF 9 _ _ rfl; have f25 := hF 8 _ _ rfl; have f26 := hF 7 _ _ rfl; have f27 := hF 6 _ _ rfl; have f28 := hF 5 _ _ rfl; have f29 := hF 4 _ _ rfl; have f30 := hF 3 _ _ rfl; have f31 := hF 2 _ _ rfl; have f32 := hF 1 _ _ rfl; have f33 := hF 0 _ _ rfl
          clear hF
          simp only [f0, f1, f2, f3, f4, f5, f6, f7, f8, f9, f10, f11, f12, f13, f14, f15, f16, f17, f18, f19, f20, f21, f22, f23, f24, f25, f26, f27, f28, f29, f30, f31, f32, f33]
          clear f0 f1 f2 f3 f4 f5 f6 f7 f8 f9 f10 f11 f12 f13 f14 f15 f16 f17 f18 f19 f20 f21 f22 f23 f24 f25 f26 f27 f28 f29 f30 f31 f32 f33
          simp only [List.drop_succ_cons, List.drop_zero]
          have hbx : Below w.heap.size w x := below_grow HB2.out (by simp; try omega) hR
          have HBX := hid hbx
          clear HC hR hbx q0 qc
          go_wp2_with fail
          go_ret
          exact ⟨ret_bool (by rw [HPL.out]; try rfl), HBX.out⟩
      · have d0 : ((k : Int) - (i : Int) == (b : Int) - (a : Int)) = false := by simp; omega
        have hv1 : IntKind.i64.wrap ((k : Int) - (i : Int)) = (k : Int) - (i : Int) := by rw [IntKind.wrap_i64]; omega
        have hv2 : IntKind.i64.wrap ((b : Int) - (a : Int)) = (b : Int) - (a : Int) := by rw [IntKind.wrap_i64]; omega
        have HPL : Hid (plainOf C.str C.lines p i k sp = false) := by show _ = _; rw [plainOf_back HO.out HGD.out]; simp; omega
        have HB2 := hid (HB.out.alloc (by simp) (.cells #[.int .i64 a, .int .i64 b] 44))
        have HC := hid (fun (x : World) (hx : Grow (((w.alloc (.cells #[.int .i64 p.op, .int .u64 p.set.a, .int .u64 p.set.b, .int .u64 p.set.c, .int .u64 p.set.d, .int .i64 p.lo, .int .i64 p.hi, .int .i64 p.gr, .slice ta tn tc] 28)).alloc (.cells #[.int .i64 a, .int .i64 b] 44))).drew x) => (⟨((Row.new (w := (w.alloc (.cells #[.int .i64 p.op, .int .u64 p.set.a, .int .u64 p.set.b, .int .u64 p.set.c, .int .u64 p.set.d, .int .i64 p.lo, .int .i64 p.hi, .int .i64 p.gr, .slice ta tn tc] 28))) (B := w.heap.size + 1) (cs := [.int .i64 a, .int .i64 b]) (T := 44) (by simp)).grow hx).two, ((HH.out.later HB2.out).later (grow_below hx)).c⟩ : _ ∧ _))
        go_enter Try.func70, Try.ntmps70
        go_wp2_with fail
        refine wp_region_inv 34 (Grow) (by kernel_rfl) (by kernel_rfl) (Grow.refl) (fun _ _ _ => Grow.trans) ?_
        simp only [fill, dstOf, Act.put, List.take_succ_cons, List.take_zero, List.getElem?_toArray, List.getElem?_cons_zero, List.getElem?_cons_succ, Option.bind_some, List.setIfInBounds_toArray, List.set_cons_zero, List.set_cons_succ]
        refine Plan.det 1 rfl (Grow.refl) ?_
        apply Exists.intro
        refine ⟨fun vs x hR hF K hK => ?_, ?_⟩
        · clear hF
          go_simp
          exact hK _ _ (Grow.refl _) rfl
        refine Plan.det 2 rfl (Grow.refl) ?_
        apply Exists.intro
        refine ⟨fun vs x hR hF K hK => ?_, ?_⟩
        · have f0 := hF 0 _ _ rfl rfl; have hc := HC.out x hR; clear hF
          go_simp
          exact hK _ _ (Grow.refl _) rfl
        refine Plan.det 3 rfl (Grow.refl) ?_
        apply Exists.intro
        refine ⟨fun vs x hR hF K hK => ?_, ?_⟩
        · have f1 := hF 0 _ _ rfl rfl; clear hF
          go_simp
          exact hK _ _ (Grow.refl _) rfl
        refine Plan.det 4 rfl (Grow.refl) ?_
        apply Exists.intro
        refine ⟨fun vs x hR hF K hK => ?_, ?_⟩
        · have f2 := hF 0 _ _ rfl rfl; clear hF
          go_simp
          exact hK _ _ (Grow.refl _) rfl
        refine Plan.det 5 rfl (Grow.refl) ?_
        apply Exists.intro
        refine ⟨fun vs x hR hF K hK => ?_, ?_⟩
        · have f3 := hF 0 _ _ rfl rfl; clear hF
          go_simp
          exact hK _ _ (Grow.refl _) rfl
        refine Plan.det 6 rfl (Grow.refl) ?_
        apply Exists.intro
        refine ⟨fun vs x hR hF K hK => ?_, ?_⟩
        · have f3 := hF 1 _ _ rfl rfl; clear hF
          go_simp
          exact hK _ _ (Grow.refl _) rfl
        refine Plan.det 7 rfl (Grow.refl) ?_
        apply Exists.intro
        refine ⟨fun vs x hR hF K hK => ?_, ?_⟩
        · have f3 := hF 2 _ _ rfl rfl; have f4 := hF 1 _ _ rfl rfl; have f5 := hF 0 _ _ rfl rfl; clear hF
          go_simp
          exact hK _ _ (Grow.refl _) rfl
        refine Plan.det 8 rfl (Grow.refl) ?_
        apply Exists.intro
        refine ⟨fun vs x hR hF K hK => ?_, ?_⟩
        · have f3 := hF 3 _ _ rfl rfl; clear hF
          go_simp
          exact hK _ _ (Grow.refl _) rfl
        refine Plan.det 9 rfl (Grow.refl) ?_
        apply Exists.intro
        refine ⟨fun vs x hR hF K hK => ?_, ?_⟩
        · have f3 := hF 4 _ _ rfl rfl; have f7 := hF 0 _ _ rfl rfl; have hc := HC.out x hR; clear hF
          go_simp
          exact hK _ _ (Grow.refl _) rfl
        refine Plan.det 10 rfl (Grow.refl) ?_
        apply Exists.intro
        refine ⟨fun vs x hR hF K hK => ?_, ?_⟩
        · have f3 := hF 5 _ _ rfl rfl; clear hF
          go_simp
          exact hK _ _ (Grow.refl _) rfl
        refine Plan.det 11 rfl (Grow.refl) ?_
        apply Exists.intro
        refine ⟨fun vs x hR hF K hK => ?_, ?_⟩
        · have f3 := hF 6 _ _ rfl rfl; have f9 := hF 0 _ _ rfl rfl; have hc := HC.out x hR; clear hF
          go_simp
          exact hK _ _ (Grow.refl _) rfl
        refine Plan.det 12 rfl (Grow.refl) ?_
        apply Exists.intro
        refine ⟨fun vs x hR hF K hK => ?_, ?_⟩
        · have f3 := hF 7 _ _ rfl rfl; have f8 := hF 2 _ _ rfl rfl; have f10 := hF 0 _ _ rfl rfl; clear hF
          go_simp
          exact hK _ _ (Grow.refl _) rfl
        refine Plan.det 13 rfl (Grow.refl) ?_
        apply Exists.intro
        refine ⟨fun vs x hR hF K hK => ?_, ?_⟩
        · have f3 := hF 8 _ _ rfl rfl; have f6 := hF 5 _ _ rfl rfl; have f11 := hF 0 _ _ rfl rfl; clear hF
          go_simp
          exact hK _ _ (Grow.refl _) rfl
        refine Plan.det 14 rfl (Grow.refl) ?_
        apply Exists.intro
        refine ⟨fun vs x hR hF K hK => ?_, ?_⟩
        · have f3 := hF 9 _ _ rfl rfl; have f12 := hF 0 _ _ rfl rfl; clear hF
          go_simp
          exact hK _ _ (Grow.refl _) rfl
        refine Plan.det 15 rfl (Grow.refl) ?_
        apply Exists.intro
        refine ⟨fun vs x hR hF K hK => ?_, ?_⟩
        · have f3 := hF 10 _ _ rfl rfl; have f13 := hF 0 _ _ rfl rfl; clear hF
          go_simp
          exact hK _ _ (Grow.refl _) rfl
        refine Plan.det 16 rfl (Grow.refl) ?_
        apply Exists.intro
        refine ⟨fun vs x hR hF K hK => ?_, ?_⟩
        · have f14 := hF 0 _ _ rfl rfl; clear hF
          go_simp
          exact hK _ _ (Grow.refl _) rfl
        refine Plan.det 17 rfl (Grow.refl) ?_
        apply Exists.intro
        refine ⟨fun vs x hR hF K hK => ?_, ?_⟩
        · have f14 := hF 1 _ _ rfl rfl; have f15 := hF 0 _ _ rfl rfl; clear hF
          go_simp
          exact hK _ _ (Grow.refl _) rfl
        refine Plan.det 18 rfl (Grow.refl) ?_
        apply Exists.intro
        refine ⟨fun vs x hR hF K hK => ?_, ?_⟩
        · have f14 := hF 2 _ _ rfl rfl; have f16 := hF 0 _ _ rfl rfl; clear hF
          go_simp
          exact hK _ _ (Grow.refl _) rfl
        refine Plan.det 19 rfl (Grow.refl) ?_
        apply Exists.intro
        refine ⟨fun vs x hR hF K hK => ?_, ?_⟩
        · have f14 := hF 3 _ _ rfl rfl; have f17 := hF 0 _ _ rfl rfl; have hc := HC.out x hR; clear hF
          go_simp
          exact hK _ _ (Grow.refl _) rfl
        refine Plan.det 20 rfl (Grow.refl) ?_
        apply Exists.intro
        refine ⟨fun vs x hR hF K hK => ?_, ?_⟩
        · have f14 := hF 4 _ _ rfl rfl; clear hF
          go_simp
          exact hK _ _ (Grow.refl _) rfl
        refine Plan.det 21 rfl (Grow.refl) ?_
        apply Exists.intro
        refine ⟨fun vs x hR hF K hK => ?_, ?_⟩
        · have f14 := hF 5 _ _ rfl rfl; clear hF
          go_simp
          exact hK _ _ (Grow.refl _) rfl
        refine Plan.det 22 rfl (Grow.refl) ?_
        apply Exists.intro
        refine ⟨fun vs x hR hF K hK => ?_, ?_⟩
        · have f14 := hF 6 _ _ rfl rfl; have f18 := hF 2 _ _ rfl rfl; have f19 := hF 1 _ _ rfl rfl; have f20 := hF 0 _ _ rfl rfl; clear hF
          go_simp
          exact hK _ _ (Grow.refl _) rfl
        refine Plan.det 23 rfl (Grow.refl) ?_
        apply Exists.intro
        refine ⟨fun vs x hR hF K hK => ?_, ?_⟩
        · have f14 := hF 7 _ _ rfl rfl; clear hF
          go_simp
          exact hK _ _ (Grow.refl _) rfl
        refine Plan.det 24 rfl (Grow.refl) ?_
        apply Exists.intro
        refine ⟨fun vs x hR hF K hK => ?_, ?_⟩
        · have f14 := hF 8 _ _ rfl rfl; have f22 := hF 0 _ _ rfl rfl; clear hF
          go_simp
          exact hK _ _ (Grow.refl _) rfl
        refine Plan.det 25 rfl (Grow.refl) ?_
        apply Exists.intro
        refine ⟨fun vs x hR hF K hK => ?_, ?_⟩
        · have f14 := hF 9 _ _ rfl rfl; have f23 := hF 0 _ _ rfl rfl; clear hF
          go_simp
          exact hK _ _ (Grow.refl _) rfl
        refine Plan.det 26 rfl (Grow.refl) ?_
        apply Exists.intro
        refine ⟨fun vs x hR hF K hK => ?_, ?_⟩
        · have f14 := hF 10 _ _ rfl rfl; have f24 := hF 0 _ _ rfl rfl; have hc := HC.out x hR; clear hF
          go_simp
          exact hK _ _ (Grow.refl _) rfl
        refine Plan.det 27 rfl (Grow.refl) ?_
        apply Exists.intro
        refine ⟨fun vs x hR hF K hK => ?_, ?_⟩
        · have f14 := hF 11 _ _ rfl rfl; clear hF
          go_simp
          exact hK _ _ (Grow.refl _) rfl
        refine Plan.det 28 rfl (Grow.refl) ?_
        apply Exists.intro
        refine ⟨fun vs x hR hF K hK => ?_, ?_⟩
        · have f14 := hF 12 _ _ rfl rfl; have f26 := hF 0 _ _ rfl rfl; have hc := HC.out x hR; clear hF
          go_simp
          exact hK _ _ (Grow.refl _) rfl
        refine Plan.det 29 rfl (Grow.refl) ?_
        apply Exists.intro
        refine ⟨fun vs x hR hF K hK => ?_, ?_⟩
        · have f14 := hF 13 _ _ rfl rfl; clear hF
          go_simp
          exact hK _ _ (Grow.refl _) rfl
        refine Plan.det 30 rfl (Grow.refl) ?_
        apply Exists.intro
        refine ⟨fun vs x hR hF K hK => ?_, ?_⟩
        · have f14 := hF 14 _ _ rfl rfl; have f28 := hF 0 _ _ rfl rfl; have hc := HC.out x hR; clear hF
          go_simp
          exact hK _ _ (Grow.refl _) rfl
        refine Plan.det 31 rfl (Grow.refl) ?_
        apply Exists.intro
        refine ⟨fun vs x hR hF K hK => ?_, ?_⟩
        · have f14 := hF 15 _ _ rfl rfl; have f25 := hF 4 _ _ rfl rfl; have f27 := hF 2 _ _ rfl rfl; have f29 := hF 0 _ _ rfl rfl; clear hF
          go_simp
          exact hK _ _ (Grow.refl _) rfl
        refine Plan.det 32 rfl (Grow.refl) ?_
        apply Exists.intro
        refine ⟨fun vs x hR hF K hK => ?_, ?_⟩
        · have f14 := hF 16 _ _ rfl rfl; have f21 := hF 9 _ _ rfl rfl; have f30 := hF 0 _ _ rfl rfl; clear hF
          go_simp
          exact hK _ _ (Grow.refl _) rfl
        refine Plan.det 33 rfl (Grow.refl) ?_
        apply Exists.intro
        refine ⟨fun vs x hR hF K hK => ?_, ?_⟩
        · have f14 := hF 17 _ _ rfl rfl; have f31 := hF 0 _ _ rfl rfl; clear hF
          go_simp
          exact hK _ _ (Grow.refl _) rfl
        refine Plan.det 34 rfl (Grow.refl) ?_
        apply Exists.intro
        refine ⟨fun vs x hR hF K hK => ?_, ?_⟩
        · have f0 := hF 32 _ _ rfl rfl; have f1 := hF 31 _ _ rfl rfl; have f2 := hF 30 _ _ rfl rfl; have f3 := hF 29 _ _ rfl rfl; have f4 := hF 28 _ _ rfl rfl; have f5 := hF 27 _ _ rfl rfl; have f6 := hF 26 _ _ rfl rfl; have f7 := hF 25 _ _ rfl rfl; have f8 := hF 24 _ _ rfl rfl; have f9 := hF 23 _ _ rfl rfl; have f10 := hF 22 _ _ rfl rfl; have f11 := hF 21 _ _ rfl rfl; have f12 := hF 20 _ _ rfl rfl; have f13 := hF 19 _ _ rfl rfl; have f14 := hF 18 _ _ rfl rfl; have f15 := hF 17 _ _ rfl rfl; have f16 := hF 16 _ _ rfl rfl; have f17 := hF 15 _ _ rfl rfl; have f18 := hF 14 _ _ rfl rfl; have f19 := hF 13 _ _ rfl rfl; have f20 := hF 12 _ _ rfl rfl; have f21 := hF 11 _ _ rfl rfl; have f22 := hF 10 _ _ rfl rfl; have f23 := hF 9 _ _ rfl rfl; have f24 := hF 8 _ _ rfl rfl; have f25 := hF 7 _ _ rfl rfl; have f26 := hF 6 _ _ rfl rfl; have f27 := hF 5 _ _ rfl rfl; have f28 := hF 4 _ _ rfl rfl; have f29 := hF 3 _ _ rfl rfl; have f30 := hF 2 _ _ rfl rfl; have f31 := hF 1 _ _ rfl rfl; have f32 := hF 0 _ _ rfl rfl; clear hF
          go_simp
          exact hK _ _ (Grow.refl _) rfl
        refine Plan.nil (fun vs x hR hF => ?_)
        have f0 := hF 33 _ _ rfl; have f1 := hF 32 _ _ rfl; have f2 := hF 31 _ _ rfl; have f3 := hF 30 _ _ rfl; have f4 := hF 29 _ _ rfl; have f5 := hF 28 _ _ rfl; have f6 := hF 27 _ _ rfl; have f7 := hF 26 _ _ rfl; have f8 := hF 25 _ _ rfl; have f9 := hF 24 _ _ rfl; have f10 := hF 23 _ _ rfl; have f11 := hF 22 _ _ rfl; have f12 := hF 21 _ _ rfl; have f13 := hF 20 _ _ rfl; have f14 := hF 19 _ _ rfl; have f15 := hF 18 _ _ rfl; have f16 := hF 17 _ _ rfl; have f17 := hF 16 _ _ rfl; have f18 := hF 15 _ _ rfl; have f19 := hF 14 _ _ rfl; have f20 := hF 13 _ _ rfl; have f21 := hF 12 _ _ rfl; have f22 := hF 11 _ _ rfl; have f23 := hF 10 _ _ rfl; have f24 := hF 9 _ _ rfl; have f25 := hF 8 _ _ rfl; have f26 := hF 7 _ _ rfl; have f27 := hF 6 _ _ rfl; have f28 := hF 5 _ _ rfl; have f29 := hF 4 _ _ rfl; have f30 := hF 3 _ _ rfl; have f31 := hF 2 _ _ rfl; have f32 := hF 1 _ _ rfl; have f33 := hF 0 _ _ rfl
        clear hF
        simp only [f0, f1, f2, f3, f4, f5, f6, f7, f8, f9, f10, f11, f12, f13, f14, f15, f16, f17, f18, f19, f20, f21, f22, f23, f24, f25, f26, f27, f28, f29, f30, f31, f32, f33]
        clear f0 f1 f2 f3 f4 f5 f6 f7 f8 f9 f10 f11 f12 f13 f14 f15 f16 f17 f18 f19 f20 f21 f22 f23 f24 f25 f26 f27 f28 f29 f30 f31 f32 f33
        simp only [List.drop_succ_cons, List.drop_zero]
        have hbx : Below w.heap.size w x := below_grow HB2.out (by simp; try omega) hR
        have HBX := hid hbx
        clear HC hR hbx q0 qc
        go_wp2_with fail
        go_ret
        exact ⟨ret_bool (by rw [HPL.out]; try rfl), HBX.out⟩
end Go.Proofs.Ytnnocekencaadaa
