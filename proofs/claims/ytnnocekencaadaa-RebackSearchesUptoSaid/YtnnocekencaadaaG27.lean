/- The fields that a node may have, as the program asks. -/
import Derived.Test.YtnnocekencaadaaG11
import Derived.Test.YtnnocekencaadaaG02
import Derived.Test.YtnnocekencaadaaG01
import Derived.MapKept
namespace Go.Proofs.Ytnnocekencaadaa
open Go.RowKit
attribute [local go_sem] gives givesUpon

set_option maxRecDepth 100000 in
set_option maxHeartbeats 4000000 in
theorem shaped_any (p : Pay) (ad : Option Addr) (n cap : Nat) (w : World) (hn : n ≤ maxLen) (_hop : I64 p.op) :
    Calls Try.prog 56 #[.agg #[.int .i64 p.op, .int .u64 p.set.a, .int .u64 p.set.b, .int .u64 p.set.c, .int .u64 p.set.d, .int .i64 p.lo, .int .i64 p.hi, .int .i64 p.gr, .slice ad n cap]] w fun e w' => e = .returned (.bool (p.shaped n)) ∧ Below w.heap.size w w' := by
  unfold maxLen at hn
  have heq := eq_none p
  have hd : ∃ b, p.shaped n = b := ⟨_, rfl⟩
  obtain ⟨b, hb⟩ := hd
  rw [hb]
  unfold Pay.shaped at hb
  generalize hz : decide (p.set = Cs.none) = z at heq hb
  have HB := hid hb
  clear hb hz
  have HC : ∀ x, Below (w.heap.size + 2) ((w.alloc (.cells #[.int .i64 p.op, .int .u64 p.set.a, .int .u64 p.set.b, .int .u64 p.set.c, .int .u64 p.set.d, .int .i64 p.lo, .int .i64 p.hi, .int .i64 p.gr, .slice ad n cap] 28)).alloc (.cells #[.int .u64 0, .int .u64 0, .int .u64 0, .int .u64 0] 25)).drew x →
      (x.cell? ⟨w.heap.size, 0, none⟩ = some (.int .i64 p.op) ∧ x.cell? ⟨w.heap.size, 1, none⟩ = some (.int .u64 p.set.a) ∧ x.cell? ⟨w.heap.size, 2, none⟩ = some (.int .u64 p.set.b) ∧ x.cell? ⟨w.heap.size, 3, none⟩ = some (.int .u64 p.set.c) ∧ x.cell? ⟨w.heap.size, 4, none⟩ = some (.int .u64 p.set.d) ∧ x.cell? ⟨w.heap.size, 5, none⟩ = some (.int .i64 p.lo) ∧
        x.cell? ⟨w.heap.size, 6, none⟩ = some (.int .i64 p.hi) ∧ x.cell? ⟨w.heap.size, 7, none⟩ = some (.int .i64 p.gr) ∧ x.cell? ⟨w.heap.size, 8, none⟩ = some (.slice ad n cap)) ∧
      (x.cell? ⟨w.heap.size + 1, 0, none⟩ = some (.int .u64 0) ∧ x.cell? ⟨w.heap.size + 1, 1, none⟩ = some (.int .u64 0) ∧ x.cell? ⟨w.heap.size + 1, 2, none⟩ = some (.int .u64 0) ∧ x.cell? ⟨w.heap.size + 1, 3, none⟩ = some (.int .u64 0)) := fun x hx =>
    ⟨(((Row.new (cs := [_, _, _, _, _, _, _, _, _]) rfl).alloc _).drew.below hx (by omega)).c9.1, ((Row.new (cs := [_, _, _, _]) (by simp)).drew.below hx (by omega)).c4.1⟩
  have HC' := hid HC
  clear HC
  have hlo2 : (p.lo == 0) = true ∨ (p.lo == 0) = false := by cases (p.lo == 0) <;> simp
  rcases hlo2 with dlo | dlo
  · go_enter Try.func56, Try.ntmps56
    go_wp2_with fail
    refine wp_region_inv 18 (Below (w.heap.size + 2)) (by kernel_rfl) (by kernel_rfl) (Below.refl _) (fun _ _ _ => Below.trans) ?_
    simp only [fill, dstOf, Act.put, List.take_succ_cons, List.take_zero, List.getElem?_toArray, List.getElem?_cons_zero, List.getElem?_cons_succ, Option.bind_some, List.setIfInBounds_toArray, List.set_cons_zero, List.set_cons_succ]
    refine Plan.det 1 rfl (Below.refl _) ?_
    apply Exists.intro
    refine ⟨fun vs x hR hF K hK => ?_, ?_⟩
    · clear hF
      go_simp
      exact hK _ _ (Below.refl _ _) rfl
    refine Plan.det 2 rfl (Below.refl _) ?_
    apply Exists.intro
    refine ⟨fun vs x hR hF K hK => ?_, ?_⟩
    · have f0 := hF 0 _ _ rfl rfl; have hc := HC'.out x hR; clear hF
      go_simp
      exact hK _ _ (Below.refl _ _) rfl
    refine Plan.det 3 rfl (Below.refl _) ?_
    apply Exists.intro
    refine ⟨fun vs x hR hF K hK => ?_, ?_⟩
    · have f1 := hF 0 _ _ rfl rfl; clear hF
      go_simp
      exact hK _ _ (Below.refl _ _) rfl
    refine Plan.det 4 rfl (Below.refl _) ?_
    apply Exists.intro
    refine ⟨fun vs x hR hF K hK => ?_, ?_⟩
    · have f2 := hF 0 _ _ rfl rfl; clear hF
      go_simp
      exact hK _ _ (Below.refl _ _) rfl
    refine Plan.det 5 rfl (Below.refl _) ?_
    apply Exists.intro
    refine ⟨fun vs x hR hF K hK => ?_, ?_⟩
    · have f3 := hF 0 _ _ rfl rfl; clear hF
      go_simp
      exact hK _ _ (Below.refl _ _) rfl
    refine Plan.det 6 rfl (Below.refl _) ?_
    apply Exists.intro
    refine ⟨fun vs x hR hF K hK => ?_, ?_⟩
    · have f3 := hF 1 _ _ rfl rfl; have f4 := hF 0 _ _ rfl rfl; have hc := HC'.out x hR; clear hF
      go_simp
      exact hK _ _ (Below.refl _ _) rfl
    refine Plan.det 7 rfl (Below.refl _) ?_
    apply Exists.intro
    refine ⟨fun vs x hR hF K hK => ?_, ?_⟩
    · have f3 := hF 2 _ _ rfl rfl; have f5 := hF 0 _ _ rfl rfl; clear hF
      go_simp
      exact hK _ _ (Below.refl _ _) rfl
    refine Plan.det 8 rfl (Below.refl _) ?_
    apply Exists.intro
    refine ⟨fun vs x hR hF K hK => ?_, ?_⟩
    · have f3 := hF 3 _ _ rfl rfl; have f6 := hF 0 _ _ rfl rfl; clear hF
      go_simp
      exact hK _ _ (Below.refl _ _) rfl
    refine Plan.det 9 rfl (Below.refl _) ?_
    apply Exists.intro
    refine ⟨fun vs x hR hF K hK => ?_, ?_⟩
    · clear hF
      go_simp
      exact hK _ _ (Below.refl _ _) rfl
    refine Plan.det 10 rfl (Below.refl _) ?_
    apply Exists.intro
    refine ⟨fun vs x hR hF K hK => ?_, ?_⟩
    · have f8 := hF 0 _ _ rfl rfl; have hc := HC'.out x hR; clear hF
      go_simp
      exact hK _ _ (Below.refl _ _) rfl
    refine Plan.det 11 rfl (Below.refl _) ?_
    apply Exists.intro
    refine ⟨fun vs x hR hF K hK => ?_, ?_⟩
    · have f9 := hF 0 _ _ rfl rfl; clear hF
      go_simp
      exact hK _ _ (Below.refl _ _) rfl
    refine Plan.det 12 rfl (Below.refl _) ?_
    apply Exists.intro
    refine ⟨fun vs x hR hF K hK => ?_, ?_⟩
    · clear hF
      go_simp
      exact hK _ _ (Below.refl _ _) rfl
    refine Plan.det 13 rfl (Below.refl _) ?_
    apply Exists.intro
    refine ⟨fun vs x hR hF K hK => ?_, ?_⟩
    · have f11 := hF 0 _ _ rfl rfl; have hc := HC'.out x hR; clear hF
      go_simp
      exact hK _ _ (Below.refl _ _) rfl
    refine Plan.det 14 rfl (Below.refl _) ?_
    apply Exists.intro
    refine ⟨fun vs x hR hF K hK => ?_, ?_⟩
    · have hc := HC'.out x hR; clear hF
      go_simp
      exact hK _ _ (Below.refl _ _) rfl
    refine Plan.det 15 rfl (Below.refl _) ?_
    apply Exists.intro
    refine ⟨fun vs x hR hF K hK => ?_, ?_⟩
    · have f12 := hF 1 _ _ rfl rfl; have f13 := hF 0 _ _ rfl rfl; clear hF
      go_simp
      exact hK _ _ (Below.refl _ _) rfl
    refine Plan.det 16 rfl (Below.refl _) ?_
    apply Exists.intro
    refine ⟨fun vs x hR hF K hK => ?_, ?_⟩
    · have f0 := hF 14 _ _ rfl rfl; have f1 := hF 13 _ _ rfl rfl; have f2 := hF 12 _ _ rfl rfl; have f3 := hF 11 _ _ rfl rfl; have f4 := hF 10 _ _ rfl rfl; have f5 := hF 9 _ _ rfl rfl; have f6 := hF 8 _ _ rfl rfl; have f7 := hF 7 _ _ rfl rfl; clear hF
      go_simp
      exact hK _ _ (Below.refl _ _) rfl
    refine Plan.det 17 rfl (Below.refl _) ?_
    apply Exists.intro
    refine ⟨fun vs x hR hF K hK => ?_, ?_⟩
    · have f0 := hF 15 _ _ rfl rfl; have f1 := hF 14 _ _ rfl rfl; have f2 := hF 13 _ _ rfl rfl; have f3 := hF 12 _ _ rfl rfl; have f4 := hF 11 _ _ rfl rfl; have f5 := hF 10 _ _ rfl rfl; have f6 := hF 9 _ _ rfl rfl; have f7 := hF 8 _ _ rfl rfl; have f8 := hF 7 _ _ rfl rfl; have f9 := hF 6 _ _ rfl rfl; have f10 := hF 5 _ _ rfl rfl; have f15 := hF 0 _ _ rfl rfl; clear hF
      go_simp
      exact hK _ _ (Below.refl _ _) rfl
    refine Plan.det 18 rfl (Below.refl _) ?_
    apply Exists.intro
    refine ⟨fun vs x hR hF K hK => ?_, ?_⟩
    · have f0 := hF 16 _ _ rfl rfl; have f1 := hF 15 _ _ rfl rfl; have f2 := hF 14 _ _ rfl rfl; have f3 := hF 13 _ _ rfl rfl; have f4 := hF 12 _ _ rfl rfl; have f5 := hF 11 _ _ rfl rfl; have f6 := hF 10 _ _ rfl rfl; have f7 := hF 9 _ _ rfl rfl; have f8 := hF 8 _ _ rfl rfl; have f9 := hF 7 _ _ rfl rfl; have f10 := hF 6 _ _ rfl rfl; have f11 := hF 5 _ _ rfl rfl; have f12 := hF 4 _ _ rfl rfl; have f13 := hF 3 _ _ rfl rfl; have f14 := hF 2 _ _ rfl rfl; have f15 := hF 1 _ _ rfl rfl; have f16 := hF 0 _ _ rfl rfl; clear hF
      go_simp
      exact hK _ _ (Below.refl _ _) rfl
    refine Plan.nil (fun vs x hR hF => ?_)
    have f0 := hF 17 _ _ rfl; have f1 := hF 16 _ _ rfl; have f2 := hF 15 _ _ rfl; have f3 := hF 14 _ _ rfl; have f4 := hF 13 _ _ rfl; have f5 := hF 12 _ _ rfl; have f6 := hF 11 _ _ rfl; have f7 := hF 10 _ _ rfl; have f8 := hF 9 _ _ rfl; have f9 := hF 8 _ _ rfl; have f10 := hF 7 _ _ rfl; have f11 := hF 6 _ _ rfl; have f12 := hF 5 _ _ rfl; have f13 := hF 4 _ _ rfl; have f14 := hF 3 _ _ rfl; have f15 := hF 2 _ _ rfl; have f16 := hF 1 _ _ rfl; have f17 := hF 0 _ _ rfl
    clear hF
    simp only [f0, f1, f2, f3, f4, f5, f6, f7, f8, f9, f10, f11, f12, f13, f14, f15, f16, f17]
    clear f0 f1 f2 f3 f4 f5 f6 f7 f8 f9 f10 f11 f12 f13 f14 f15 f16 f17
    simp only [List.drop_succ_cons, List.drop_zero]
    have hz : w.heap.size + 1 < x.heap.size := by have := hR.size; simp at this; omega
    have hc := HC'.out x hR
    have hbw : Hid (Below w.heap.size w x) := (((Below.refl _ w).alloc (Nat.le_refl _) _).alloc (by simp) _).drew.trans (hR.mono (by omega))
    clear hR HC'
    rcases (show p.op = 1 ∨ p.op = 2 ∨ p.op = 3 ∨ p.op = 4 ∨ p.op = 5 ∨ p.op = 6 ∨ p.op = 7 ∨ p.op = 8 ∨ p.op = 9 ∨ ¬ (1 ≤ p.op ∧ p.op ≤ 9) by omega) with h | h | h | h | h | h | h | h | h | h
    all_goals
      go_wp2
      all_goals
        go_ret
        refine ⟨ret_bool ?_, hbw.out⟩
        have hb := HB.out
        clear HB heq
        rw [Bool.eq_iff_iff, ← hb]
        clear hb
        first | (simp_all; done) | (simp_all; omega)
  · go_enter Try.func56, Try.ntmps56
    go_wp2_with fail
    refine wp_region_inv 18 (Below (w.heap.size + 2)) (by kernel_rfl) (by kernel_rfl) (Below.refl _) (fun _ _ _ => Below.trans) ?_
    simp only [fill, dstOf, Act.put, List.take_succ_cons, List.take_zero, List.getElem?_toArray, List.getElem?_cons_zero, List.getElem?_cons_succ, Option.bind_some, List.setIfInBounds_toArray, List.set_cons_zero, List.set_cons_succ]
    refine Plan.det 1 rfl (Below.refl _) ?_
    apply Exists.intro
    refine ⟨fun vs x hR hF K hK => ?_, ?_⟩
    · clear hF
      go_simp
      exact hK _ _ (Below.refl _ _) rfl
    refine Plan.det 2 rfl (Below.refl _) ?_
    apply Exists.intro
    refine ⟨fun vs x hR hF K hK => ?_, ?_⟩
    · have f0 := hF 0 _ _ rfl rfl; have hc := HC'.out x hR; clear hF
      go_simp
      exact hK _ _ (Below.refl _ _) rfl
    refine Plan.det 3 rfl (Below.refl _) ?_
    apply Exists.intro
    refine ⟨fun vs x hR hF K hK => ?_, ?_⟩
    · have f1 := hF 0 _ _ rfl rfl; clear hF
      go_simp
      exact hK _ _ (Below.refl _ _) rfl
    refine Plan.det 4 rfl (Below.refl _) ?_
    apply Exists.intro
    refine ⟨fun vs x hR hF K hK => ?_, ?_⟩
    · have f2 := hF 0 _ _ rfl rfl; clear hF
      go_simp
      exact hK _ _ (Below.refl _ _) rfl
    refine Plan.det 5 rfl (Below.refl _) ?_
    apply Exists.intro
    refine ⟨fun vs x hR hF K hK => ?_, ?_⟩
    · have f3 := hF 0 _ _ rfl rfl; clear hF
      go_simp
      exact hK _ _ (Below.refl _ _) rfl
    refine Plan.det 6 rfl (Below.refl _) ?_
    apply Exists.intro
    refine ⟨fun vs x hR hF K hK => ?_, ?_⟩
    · have f3 := hF 1 _ _ rfl rfl; have f4 := hF 0 _ _ rfl rfl; have hc := HC'.out x hR; clear hF
      go_simp
      exact hK _ _ (Below.refl _ _) rfl
    refine Plan.det 7 rfl (Below.refl _) ?_
    apply Exists.intro
    refine ⟨fun vs x hR hF K hK => ?_, ?_⟩
    · have f3 := hF 2 _ _ rfl rfl; have f5 := hF 0 _ _ rfl rfl; clear hF
      go_simp
      exact hK _ _ (Below.refl _ _) rfl
    refine Plan.det 8 rfl (Below.refl _) ?_
    apply Exists.intro
    refine ⟨fun vs x hR hF K hK => ?_, ?_⟩
    · have f3 := hF 3 _ _ rfl rfl; have f6 := hF 0 _ _ rfl rfl; clear hF
      go_simp
      exact hK _ _ (Below.refl _ _) rfl
    refine Plan.det 9 rfl (Below.refl _) ?_
    apply Exists.intro
    refine ⟨fun vs x hR hF K hK => ?_, ?_⟩
    · clear hF
      go_simp
      exact hK _ _ (Below.refl _ _) rfl
    refine Plan.det 10 rfl (Below.refl _) ?_
    apply Exists.intro
    refine ⟨fun vs x hR hF K hK => ?_, ?_⟩
    · have f8 := hF 0 _ _ rfl rfl; have hc := HC'.out x hR; clear hF
      go_simp
      exact hK _ _ (Below.refl _ _) rfl
    refine Plan.det 11 rfl (Below.refl _) ?_
    apply Exists.intro
    refine ⟨fun vs x hR hF K hK => ?_, ?_⟩
    · have f9 := hF 0 _ _ rfl rfl; clear hF
      go_simp
      exact hK _ _ (Below.refl _ _) rfl
    refine Plan.det 12 rfl (Below.refl _) ?_
    apply Exists.intro
    refine ⟨fun vs x hR hF K hK => ?_, ?_⟩
    · clear hF
      go_simp
      exact hK _ _ (Below.refl _ _) rfl
    refine Plan.det 13 rfl (Below.refl _) ?_
    apply Exists.intro
    refine ⟨fun vs x hR hF K hK => ?_, ?_⟩
    · have f11 := hF 0 _ _ rfl rfl; have hc := HC'.out x hR; clear hF
      go_simp
      exact hK _ _ (Below.refl _ _) rfl
    refine Plan.det 14 rfl (Below.refl _) ?_
    apply Exists.intro
    refine ⟨fun vs x hR hF K hK => ?_, ?_⟩
    · have hc := HC'.out x hR; clear hF
      go_simp
      exact hK _ _ (Below.refl _ _) rfl
    refine Plan.det 15 rfl (Below.refl _) ?_
    apply Exists.intro
    refine ⟨fun vs x hR hF K hK => ?_, ?_⟩
    · have f12 := hF 1 _ _ rfl rfl; have f13 := hF 0 _ _ rfl rfl; clear hF
      go_simp
      exact hK _ _ (Below.refl _ _) rfl
    refine Plan.det 16 rfl (Below.refl _) ?_
    apply Exists.intro
    refine ⟨fun vs x hR hF K hK => ?_, ?_⟩
    · have f0 := hF 14 _ _ rfl rfl; have f1 := hF 13 _ _ rfl rfl; have f2 := hF 12 _ _ rfl rfl; have f3 := hF 11 _ _ rfl rfl; have f4 := hF 10 _ _ rfl rfl; have f5 := hF 9 _ _ rfl rfl; have f6 := hF 8 _ _ rfl rfl; have f7 := hF 7 _ _ rfl rfl; clear hF
      go_simp
      exact hK _ _ (Below.refl _ _) rfl
    refine Plan.det 17 rfl (Below.refl _) ?_
    apply Exists.intro
    refine ⟨fun vs x hR hF K hK => ?_, ?_⟩
    · have f0 := hF 15 _ _ rfl rfl; have f1 := hF 14 _ _ rfl rfl; have f2 := hF 13 _ _ rfl rfl; have f3 := hF 12 _ _ rfl rfl; have f4 := hF 11 _ _ rfl rfl; have f5 := hF 10 _ _ rfl rfl; have f6 := hF 9 _ _ rfl rfl; have f7 := hF 8 _ _ rfl rfl; have f8 := hF 7 _ _ rfl rfl; have f9 := hF 6 _ _ rfl rfl; have f10 := hF 5 _ _ rfl rfl; have f15 := hF 0 _ _ rfl rfl; clear hF
      go_simp
      exact hK _ _ (Below.refl _ _) rfl
    refine Plan.det 18 rfl (Below.refl _) ?_
    apply Exists.intro
    refine ⟨fun vs x hR hF K hK => ?_, ?_⟩
    · have f0 := hF 16 _ _ rfl rfl; have f1 := hF 15 _ _ rfl rfl; have f2 := hF 14 _ _ rfl rfl; have f3 := hF 13 _ _ rfl rfl; have f4 := hF 12 _ _ rfl rfl; have f5 := hF 11 _ _ rfl rfl; have f6 := hF 10 _ _ rfl rfl; have f7 := hF 9 _ _ rfl rfl; have f8 := hF 8 _ _ rfl rfl; have f9 := hF 7 _ _ rfl rfl; have f10 := hF 6 _ _ rfl rfl; have f11 := hF 5 _ _ rfl rfl; have f12 := hF 4 _ _ rfl rfl; have f13 := hF 3 _ _ rfl rfl; have f14 := hF 2 _ _ rfl rfl; have f15 := hF 1 _ _ rfl rfl; have f16 := hF 0 _ _ rfl rfl; clear hF
      go_simp
      exact hK _ _ (Below.refl _ _) rfl
    refine Plan.nil (fun vs x hR hF => ?_)
    have f0 := hF 17 _ _ rfl; have f1 := hF 16 _ _ rfl; have f2 := hF 15 _ _ rfl; have f3 := hF 14 _ _ rfl; have f4 := hF 13 _ _ rfl; have f5 := hF 12 _ _ rfl; have f6 := hF 11 _ _ rfl; have f7 := hF 10 _ _ rfl; have f8 := hF 9 _ _ rfl; have f9 := hF 8 _ _ rfl; have f10 := hF 7 _ _ rfl; have f11 := hF 6 _ _ rfl; have f12 := hF 5 _ _ rfl; have f13 := hF 4 _ _ rfl; have f14 := hF 3 _ _ rfl; have f15 := hF 2 _ _ rfl; have f16 := hF 1 _ _ rfl; have f17 := hF 0 _ _ rfl
    clear hF
    simp only [f0, f1, f2, f3, f4, f5, f6, f7, f8, f9, f10, f11, f12, f13, f14, f15, f16, f17]
    clear f0 f1 f2 f3 f4 f5 f6 f7 f8 f9 f10 f11 f12 f13 f14 f15 f16 f17
    simp only [List.drop_succ_cons, List.drop_zero]
    have hz : w.heap.size + 1 < x.heap.size := by have := hR.size; simp at this; omega
    have hc := HC'.out x hR
    have hbw : Hid (Below w.heap.size w x) := (((Below.refl _ w).alloc (Nat.le_refl _) _).alloc (by simp) _).drew.trans (hR.mono (by omega))
    clear hR HC'
    rcases (show p.op = 1 ∨ p.op = 2 ∨ p.op = 3 ∨ p.op = 4 ∨ p.op = 5 ∨ p.op = 6 ∨ p.op = 7 ∨ p.op = 8 ∨ p.op = 9 ∨ ¬ (1 ≤ p.op ∧ p.op ≤ 9) by omega) with h | h | h | h | h | h | h | h | h | h
    all_goals
      go_wp2
      all_goals
        go_ret
        refine ⟨ret_bool ?_, hbw.out⟩
        have hb := HB.out
        clear HB heq
        rw [Bool.eq_iff_iff, ← hb]
        clear hb
        first | (simp_all; done) | (simp_all; omega)
end Go.Proofs.Ytnnocekencaadaa

/- Maps with int keys: what a look-up gives, and what a store leaves. Nothing here speaks of the program. -/
namespace Go.Proofs.Ytnnocekencaadaa
open Go.RowKit

def keyIs (k : Int) (e : MapEntry) : Bool := match e.key with | .int .i64 k' => k == k' | _ => false
def findE (k : Int) : List MapEntry → Option Value
  | [] => none
  | e :: es => if keyIs k e then some e.val else findE k es
/-- Block M is a map with int keys, whose element at k is f k. -/
def IMap (w : World) (M : Nat) (f : Int → Option Value) : Prop :=
  ∃ es clock, w.heap[M]? = some (.map es clock) ∧ (∀ e, e ∈ es.toList → ∃ k, e.key = .int .i64 k) ∧ ∀ k, f k = findE k es.toList

theorem IMap.lt {w : World} {M : Nat} {f : Int → Option Value} (h : IMap w M f) : M < w.heap.size := by
  obtain ⟨es, c, h1, _⟩ := h
  rcases Nat.lt_or_ge M w.heap.size with h2 | h2
  · exact h2
  · simp [Array.getElem?_eq_none h2] at h1
theorem IMap.of_block {w w' : World} {M : Nat} {f : Int → Option Value} (h : IMap w M f) (hb : w'.heap[M]? = w.heap[M]?) : IMap w' M f := by
  obtain ⟨es, c, h1, h2⟩ := h
  exact ⟨es, c, hb.trans h1, h2⟩
theorem IMap.but {S : List Nat} {w w' : World} {M : Nat} {f : Int → Option Value} (h : IMap w M f) (hb : But S w w') (hM : M ∉ S) : IMap w' M f := h.of_block (hb.block M h.lt hM)
theorem IMap.below {n : Nat} {w w' : World} {M : Nat} {f : Int → Option Value} (h : IMap w M f) (hb : Below n w w') (hM : M < n) : IMap w' M f := h.of_block (hb.block M hM)
theorem IMap.alloc {w : World} {M : Nat} {f : Int → Option Value} (h : IMap w M f) (o : Obj) : IMap (w.alloc o) M f := h.of_block (Below.heap_alloc _ _ _ h.lt)
theorem IMap.drew {w : World} {M : Nat} {f : Int → Option Value} (h : IMap w M f) : IMap w.drew M f := h
theorem IMap.new {w : World} {M : Nat} (h : M = w.heap.size) : IMap (w.alloc (.map #[] 0)) M (fun _ => none) := by
  subst h
  exact ⟨#[], 0, by show (w.heap.push _)[w.heap.size]? = _; simp, by simp, fun k => rfl⟩
theorem IMap.other {w : World} {M B : Nat} {f : Int → Option Value} (h : IMap w M f) (hn : M ≠ B) (j : Nat) (v : Value) : IMap (w.setCell ⟨B, j, none⟩ v) M f := h.of_block (Below.heap_setCell _ _ _ _ hn)

theorem findNow_int (k : Int) : ∀ (es : List MapEntry) (i : Nat), (∀ e, e ∈ es → ∃ k, e.key = .int .i64 k) →
    ∃ r, Instr.findNow (.int .i64) (.int .i64 k) es i = some r ∧ r.map (·.2) = findE k es ∧ ∀ j v, r = some (j, v) → i ≤ j ∧ ∃ e, es[j - i]? = some e ∧ e.key = .int .i64 k ∧ e.val = v ∧ ∀ m, m < j - i → ∀ e', es[m]? = some e' → keyIs k e' = false
  | [], i, _ => ⟨none, rfl, rfl, fun _ _ h => by cases h⟩
  | e :: es, i, h => by
    obtain ⟨k', hk'⟩ := h e (by simp)
    obtain ⟨r, h1, h2, h3⟩ := findNow_int k es (i + 1) (fun e he => h e (by simp [he]))
    by_cases hkk : k = k'
    · subst hkk
      refine ⟨some (i, e.val), by simp [Instr.findNow, hk', Instr.sameNow], by simp [findE, keyIs, hk'], fun j v hj => ?_⟩
      simp only [Option.some.injEq, Prod.mk.injEq] at hj
      obtain ⟨rfl, rfl⟩ := hj
      exact ⟨Nat.le_refl _, e, by simp, hk', rfl, fun m hm => by omega⟩
    · have hb : (k == k') = false := by simpa using hkk
      refine ⟨r, by simp [Instr.findNow, hk', Instr.sameNow, hb, h1], by simp [findE, keyIs, hk', hb, h2], fun j v hj => ?_⟩
      obtain ⟨h4, e', h5, h6, h7, h8⟩ := h3 j v hj
      refine ⟨by omega, e', ?_, h6, h7, fun m hm e'' he'' => ?_⟩
      · rw [show j - i = (j - (i + 1)) + 1 by omega]; simpa using h5
      · cases m with
        | zero => simp at he''; subst he''; simp [keyIs, hk', hb]
        | succ m => exact h8 m (by omega) e'' (by simpa using he'')

section
variable {P : Program}
theorem IMap.run_lookup {w : World} {M : Nat} {f : Int → Option Value} (h : IMap w M f) (T K E : TypeId) (hT : P.underlying T = some (.map K E)) (hK : P.underlying K = some (.int .i64)) (z : Value) (hz : (zeroValue E).run P w = .ok z w) (k : Int) :
    (Instr.lookup T (.map (some M)) (.int .i64 k) false).run P w = .ok ((f k).getD z) w := by
  obtain ⟨es, c, h1, h2, h3⟩ := h
  obtain ⟨r, h4, h5, _⟩ := findNow_int k es.toList 0 h2
  have hck : (Instr.checkKey es.isEmpty 10000 K (.int .i64 k)).run P w = .ok () w := by
    unfold Instr.checkKey
    simp [run_underlying hK]
  have hfk : (Instr.findKey K (.int .i64 k) es.toList).run P w = .ok r w := by
    simp [Instr.findKey, run_underlying hK, h4]
  rw [h3 k, ← h5]
  cases r with
  | none => simp [Instr.lookup, run_underlying hT, MapKept.run_getObj_map h1, hck, hfk, hz, Result.andThen]
  | some p => simp [Instr.lookup, run_underlying hT, MapKept.run_getObj_map h1, hck, hfk, Result.andThen]

theorem findE_append (k : Int) (e : MapEntry) : ∀ es : List MapEntry, findE k (es ++ [e]) = match findE k es with | some v => some v | none => if keyIs k e then some e.val else none
  | [] => by simp [findE]
  | e' :: es => by
    simp only [List.cons_append, findE]
    split
    · rfl
    · exact findE_append k e es
theorem findE_modify (k k' : Int) (v : Value) (key : Value) (hkey : key = .int .i64 k) : ∀ (es : List MapEntry) (j : Nat), (∃ e, es[j]? = some e ∧ e.key = .int .i64 k) → (∀ m, m < j → ∀ e', es[m]? = some e' → keyIs k e' = false) →
    findE k' (es.modify j fun e => { e with key, val := v }) = if k' = k then some v else findE k' es
  | [], j, h, _ => by obtain ⟨e, h, _⟩ := h; simp at h
  | e :: es, 0, h, _ => by
    obtain ⟨e0, h0, h1⟩ := h
    simp at h0; subst h0
    simp only [List.modify_zero_cons, findE]
    have e1 : keyIs k' { e with key, val := v } = decide (k' = k) := by simp [keyIs, hkey]; rfl
    have e2 : keyIs k' e = decide (k' = k) := by simp [keyIs, h1]; rfl
    rw [e1, e2]
    by_cases hk : k' = k <;> simp [hk]
  | e :: es, j + 1, h, hm => by
    have ih := findE_modify k k' v key hkey es j (by simpa using h) (fun m hmj e' he' => hm (m + 1) (by omega) e' (by simpa using he'))
    have h0 := hm 0 (by omega) e rfl
    simp only [List.modify_succ_cons, findE]
    rw [ih]
    by_cases hk : k' = k
    · subst hk; simp [h0]
    · simp [hk]

theorem IMap.run_update {w : World} {M : Nat} {f : Int → Option Value} (h : IMap w M f) (T K E : TypeId) (hT : P.underlying T = some (.map K E)) (hK : P.underlying K = some (.int .i64)) (k : Int) (v : Value) :
    ∃ w', (Instr.mapUpdate T (.map (some M)) (.int .i64 k) v).run P w = .ok () w' ∧ IMap w' M (fun x => if x = k then some v else f x) ∧ But [M] w w' := by
  have hlt := h.lt
  obtain ⟨es, c, h1, h2, h3⟩ := h
  obtain ⟨r, h4, h5, h6⟩ := findNow_int k es.toList 0 h2
  have hck : (Instr.checkKey false 10000 K (.int .i64 k)).run P w = .ok () w := by
    unfold Instr.checkKey
    simp [run_underlying hK]
  have hfk : (Instr.findKey K (.int .i64 k) es.toList).run P w = .ok r w := by
    simp [Instr.findKey, run_underlying hK, h4]
  have hbut : ∀ o : Obj, But [M] w { w with heap := w.heap.setIfInBounds M o } := fun o => ⟨rfl, rfl, rfl, by simp, fun i hi hn => by
    have : M ≠ i := by simpa using Ne.symm (by simpa using hn)
    simp [this]⟩
  cases r with
  | none =>
    refine ⟨{ w with heap := w.heap.setIfInBounds M (.map (es.push { key := .int .i64 k, val := v, born := c }) (c + 1)) }, by simp [Instr.mapUpdate, run_underlying hT, MapKept.run_getObj_map h1, hck, hfk, MapKept.run_setObj_map _ h1, Result.andThen], ⟨es.push { key := .int .i64 k, val := v, born := c }, c + 1, by simp [hlt], ?_, ?_⟩, hbut _⟩
    · intro e he
      simp at he
      rcases he with he | he
      · exact h2 e (by simpa using he)
      · subst he; exact ⟨k, rfl⟩
    · intro x
      simp only [Array.toList_push, findE_append]
      have h7 := h3 k
      rw [← h5] at h7
      by_cases hx : x = k
      · subst hx
        rw [← h3 x, h7]
        simp [keyIs]
      · rw [← h3 x]
        have : keyIs x { key := .int .i64 k, val := v, born := c } = false := by simp [keyIs, hx]
        rw [this]
        cases f x <;> simp [hx]
  | some p =>
    obtain ⟨j, v0⟩ := p
    obtain ⟨_, e, h7, h8, h9, h10⟩ := h6 j v0 rfl
    simp only [Nat.sub_zero] at h7 h10
    have hstay : (Instr.keyThatStays (((es[j]?).map (·.key)).getD (.int .i64 k)) (.int .i64 k)).run P w = .ok (.int .i64 k) w := by
      have : es[j]? = some e := by simpa using h7
      simp [this, h8, Instr.keyThatStays, Instr.sameBits]
    refine ⟨{ w with heap := w.heap.setIfInBounds M (.map (es.modify j fun e => { e with key := .int .i64 k, val := v }) c) }, by simp only [Instr.mapUpdate, Sem.run_bind, run_underlying hT, MapKept.run_getObj_map h1, hck, hfk, Result.andThen_ok, hstay, MapKept.run_setObj_map _ h1], ⟨es.modify j fun e => { e with key := .int .i64 k, val := v }, c, by simp [hlt], ?_, ?_⟩, hbut _⟩
    · intro e' he'
      obtain ⟨m, hm⟩ := List.mem_iff_getElem?.1 he'
      rw [Array.getElem?_toList, Array.getElem?_modify] at hm
      by_cases hjm : j = m
      · subst hjm
        rw [if_pos rfl] at hm
        obtain ⟨e0, _, rfl⟩ := Option.map_eq_some_iff.1 hm
        exact ⟨k, rfl⟩
      · rw [if_neg hjm] at hm
        exact h2 e' (List.mem_iff_getElem?.2 ⟨m, by simpa using hm⟩)
    · intro x
      rw [Array.toList_modify, findE_modify k x v _ rfl _ _ ⟨e, h7, h8⟩ h10]
      by_cases hx : x = k
      · simp [hx]
      · simp [hx, h3 x]

theorem wpList_lookup_imap {ops : Array Oper} {rest : List Oper} {o : Oper} {a : Act} {w : World} {Q : Exit → Act → World → Prop} (hgd : o.guard = none) (T : TypeId) (x y : Operand) (ho : o.op = .lookup T x y false) (M : Nat) (f : Int → Option Value) (h : IMap w M f)
    (hx : a.eval x = .map (some M)) (k : Int) (hy : a.eval y = .int .i64 k) (K E : TypeId) (hT : P.underlying T = some (.map K E)) (hK : P.underlying K = some (.int .i64)) (z : Value) (hz : (zeroValue E).run P w = .ok z w)
    (hn : wpList P ops Q rest (a.put o.dst ((f k).getD z)) w) : wpList P ops Q (o :: rest) a w := by
  refine wpList_plain hgd fun K' hK' => ?_
  unfold Oper.wp
  simp [execOp, ho, hx, hy, h.run_lookup T K E hT hK z hz k, Result.andThen]
  exact hK' _ _ hn
theorem wpList_update_imap {ops : Array Oper} {rest : List Oper} {o : Oper} {a : Act} {w : World} {Q : Exit → Act → World → Prop} (hgd : o.guard = none) (T : TypeId) (x y z : Operand) (ho : o.op = .mapUpdate T x y z) (M : Nat) (f : Int → Option Value) (h : IMap w M f)
    (hx : a.eval x = .map (some M)) (k : Int) (hy : a.eval y = .int .i64 k) (v : Value) (hz : a.eval z = v) (K E : TypeId) (hT : P.underlying T = some (.map K E)) (hK : P.underlying K = some (.int .i64))
    (hn : ∀ w', IMap w' M (fun x => if x = k then some v else f x) → But [M] w w' → wpList P ops Q rest (a.put o.dst undef) w') : wpList P ops Q (o :: rest) a w := by
  refine wpList_plain hgd fun K' hK' => ?_
  obtain ⟨w', h1, h2, h3⟩ := h.run_update T K E hT hK k v
  unfold Oper.wp
  simp [execOp, ho, hx, hy, hz, h1, Result.andThen]
  exact hK' _ _ (hn w' h2 h3)
end
end Go.Proofs.Ytnnocekencaadaa
