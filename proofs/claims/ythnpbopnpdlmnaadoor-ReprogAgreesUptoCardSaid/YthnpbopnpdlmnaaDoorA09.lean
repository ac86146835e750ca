/- Equality of sets, and the fields that a node may have. -/
import Derived.Test.YthnpbopnpdlmnaaDoorA03
import Derived.ChangeKeysEq
import Derived.Test.YthnpbopnpdlmnaaDoorA02
namespace Go.Proofs.YthnpbopnpdlmnaaDoor
open Go.RowKit

theorem info_u64 : (Tryd.prog.info? 22).map (fun i => (i.zero, i.size, i.bytes)) = some (some (.int .u64 0), 1, 8) := by kernel_rfl
theorem run_eqIn_cs (a b c d a' b' c' d' : Nat) (w : World) : (Op.equalIn 10000 25 (.agg #[.int .u64 a, .int .u64 b, .int .u64 c, .int .u64 d]) (.agg #[.int .u64 a', .int .u64 b', .int .u64 c', .int .u64 d'])).run Tryd.prog w = .ok (decide ((⟨a, b, c, d⟩ : Cs) = ⟨a', b', c', d'⟩)) w := by
  have hf : (Tryd.prog.fieldsOf 25).toList = [{ name := "Bits", type := 23, offset := 0, embedded := false, tag := "", pkgPath := "", byteOffset := 0 }] := by kernel_rfl
  obtain ⟨i, hi, _, _, _⟩ := info_parts info_u64
  have hc : Tryd.prog.cellsOf 22 = 1 := by kernel_rfl
  have key : decide ((⟨a, b, c, d⟩ : Cs) = ⟨a', b', c', d'⟩) = (((a : Int) == a') && ((b : Int) == b') && ((c : Int) == c') && ((d : Int) == d')) := by
    rw [Bool.eq_iff_iff]
    simp [and_assoc]
    omega
  rw [key, run_equalIn_agg _ 9999 25 _ _ (by kernel_rfl) (by kernel_rfl), hf]
  simp [Op.eqFields, go_sem]
  rw [run_equalIn_array _ 9998 _ _ Tryd.underlying23 hi, hc]
  simp [Op.eqItems, List.range_succ, go_sem]
  by_cases h1 : (a : Int) = a' <;> by_cases h2 : (b : Int) = b' <;> by_cases h3 : (c : Int) = c' <;> by_cases h4 : (d : Int) = d' <;> simp [h1, h2, h3, h4]

def Pay.shaped (p : Pay) (n : Nat) : Bool :=
  if p.op = 1 ∨ p.op = 7 ∨ p.op = 8 then decide (n = 0) && (decide (p.lo = 0) && decide (p.hi = 0)) && decide (p.gr = 0) && decide (p.set = Cs.none)
  else if p.op = 2 then decide (n = 0) && (decide (p.lo = 0) && decide (p.hi = 0)) && decide (p.gr = 0) && !decide (p.set = Cs.none)
  else if p.op = 3 ∨ p.op = 4 then decide (2 ≤ n) && (decide (p.lo = 0) && decide (p.hi = 0)) && decide (p.gr = 0) && decide (p.set = Cs.none)
  else if p.op = 5 then decide (n = 1) && decide (p.gr = 0) && decide (p.set = Cs.none)
  else if p.op = 6 then decide (n = 1) && (decide (p.lo = 0) && decide (p.hi = 0)) && decide (p.set = Cs.none)
  else if p.op = 9 then decide (n = 0) && (decide (p.lo = 0) && decide (p.hi = 0)) && decide (p.set = Cs.none)
  else false

theorem eq_none (p : Pay) (w : World) : (Op.equalIn 10000 25 (.agg #[.int .u64 p.set.a, .int .u64 p.set.b, .int .u64 p.set.c, .int .u64 p.set.d]) (.agg #[.int .u64 0, .int .u64 0, .int .u64 0, .int .u64 0])).run Tryd.prog w = .ok (decide (p.set = Cs.none)) w :=
  run_eqIn_cs p.set.a p.set.b p.set.c p.set.d 0 0 0 0 w


end Go.Proofs.YthnpbopnpdlmnaaDoor

/- The fields that a node may have, as the program asks. -/
namespace Go.Proofs.YthnpbopnpdlmnaaDoor
open Go.RowKit
attribute [local go_sem] gives givesUpon

set_option maxRecDepth 100000 in
set_option maxHeartbeats 4000000 in
theorem shaped_any (p : Pay) (ad : Option Addr) (n cap : Nat) (w : World) (hn : n ≤ maxLen) (_hop : I64 p.op) :
    Calls Tryd.prog 39 #[.agg #[.int .i64 p.op, .int .u64 p.set.a, .int .u64 p.set.b, .int .u64 p.set.c, .int .u64 p.set.d, .int .i64 p.lo, .int .i64 p.hi, .int .i64 p.gr, .slice ad n cap]] w fun e w' => e = .returned (.bool (p.shaped n)) ∧ Below w.heap.size w w' := by
  unfold maxLen at hn
  have heq := eq_none p
  have hd : ∃ b, p.shaped n = b := ⟨_, rfl⟩
  obtain ⟨b, hb⟩ := hd
  rw [hb]
  unfold Pay.shaped at hb
  generalize hz : decide (p.set = Cs.none) = z at heq hb
  have HB := hid hb
  clear hb hz
  have HC : ∀ x, Below (w.heap.size + 2) ((w.alloc (.cells #[.int .i64 p.op, .int .u64 p.set.a, .int .u64 p.set.b, .int .u64 p.set.c, .int .u64 p.set.d, .int .i64 p.lo, .int .i64 p.hi, .int .i64 p.gr, .slice ad n cap] 28)).alloc (.cells #[.int .u64 0, .int .u64 0, .int .u64 0, .int .u64 0] 25)).drew x →
      (x.cell? ⟨w.heap.size, 0, none⟩ = some (.int .i64 p.op) ∧ x.cell? ⟨w.heap.size, 1, none⟩ = some (.int .u64 p.set.a) ∧ x.cell? ⟨w.heap.size, 2, none⟩ = some (.int .u64 p.set.b) ∧ x.cell? ⟨w.heap.size, 3, none⟩ = some (.int .u64 p.set.c) ∧ x.cell? ⟨w.heap.size, 4, none⟩ = some (.int .u64 p.set.d) ∧ x.cell? ⟨w.heap.size, 5, none⟩ = some (.int .i64 p.lo) ∧
        x.cell? ⟨w.heap.size, 6, none⟩ = some (.int .i64 p.hi) ∧ x.cell? ⟨w.heap.size, 7, none⟩ = some (.int .i64 p.gr) ∧ x.cell? ⟨w.heap.size, 8, none⟩ = some (.slice ad n cap)) ∧
      (x.cell? ⟨w.heap.size + 1, 0, none⟩ = some (.int .u64 0) ∧ x.cell? ⟨w.heap.size + 1, 1, none⟩ = some (.int .u64 0) ∧ x.cell? ⟨w.heap.size + 1, 2, none⟩ = some (.int .u64 0) ∧ x.cell? ⟨w.heap.size + 1, 3, none⟩ = some (.int .u64 0)) := fun x hx =>
    ⟨(((Row.new (cs := [_, _, _, _, _, _, _, _, _]) rfl).alloc _).drew.below hx (by omega)).c9.1, ((Row.new (cs := [_, _, _, _]) (by simp)).drew.below hx (by omega)).c4.1⟩
  have HC' := hid HC
  clear HC
  have hlo2 : (p.lo == 0) = true ∨ (p.lo == 0) = false := by cases (p.lo == 0) <;> simp
  rcases hlo2 with dlo | dlo
  · go_enter Tryd.func39, Tryd.ntmps39
    go_wp2_with fail
    refine wp_region_inv 18 (Below (w.heap.size + 2)) (by kernel_rfl) (by kernel_rfl) (Below.refl _) (fun _ _ _ => Below.trans) ?_
    simp only [fill, dstOf, Act.put, List.take_succ_cons, List.take_zero, List.getElem?_toArray, List.getElem?_cons_zero, List.getElem?_cons_succ, Option.bind_some, List.setIfInBounds_toArray, List.set_cons_zero, List.set_cons_succ]
    refine Plan.det 1 rfl (Below.refl _) ?_
    apply Exists.intro
    refine ⟨fun vs x hR hF K hK => ?_, ?_⟩
    · clear hF
      go_simp
      exact hK _ _ (Below.refl _ _) rfl
    refine Plan.det 2 rfl (Below.refl _) ?_
    apply Exists.intro
    refine ⟨fun vs x hR hF K hK => ?_, ?_⟩
    · have f0 := hF 0 _ _ rfl rfl; have hc := HC'.out x hR; clear hF
      go_simp
      exact hK _ _ (Below.refl _ _) rfl
    refine Plan.det 3 rfl (Below.refl _) ?_
    apply Exists.intro
    refine ⟨fun vs x hR hF K hK => ?_, ?_⟩
    · have f1 := hF 0 _ _ rfl rfl; clear hF
      go_simp
      exact hK _ _ (Below.refl _ _) rfl
    refine Plan.det 4 rfl (Below.refl _) ?_
    apply Exists.intro
    refine ⟨fun vs x hR hF K hK => ?_, ?_⟩
    · have f2 := hF 0 _ _ rfl rfl; clear hF
      go_simp
      exact hK _ _ (Below.refl _ _) rfl
    refine Plan.det 5 rfl (Below.refl _) ?_
    apply Exists.intro
    refine ⟨fun vs x hR hF K hK => ?_, ?_⟩
    · have f3 := hF 0 _ _ rfl rfl; clear hF
      go_simp
      exact hK _ _ (Below.refl _ _) rfl
    refine Plan.det 6 rfl (Below.refl _) ?_
    apply Exists.intro
    refine ⟨fun vs x hR hF K hK => ?_, ?_⟩
    · have f3 := hF 1 _ _ rfl rfl; have f4 := hF 0 _ _ rfl rfl; have hc := HC'.out x hR; clear hF
      go_simp
      exact hK _ _ (Below.refl _ _) rfl
    refine Plan.det 7 rfl (Below.refl _) ?_
    apply Exists.intro
    refine ⟨fun vs x hR hF K hK => ?_, ?_⟩
    · have f3 := hF 2 _ _ rfl rfl; have f5 := hF 0 _ _ rfl rfl; clear hF
      go_simp
      exact hK _ _ (Below.refl _ _) rfl
    refine Plan.det 8 rfl (Below.refl _) ?_
    apply Exists.intro
    refine ⟨fun vs x hR hF K hK => ?_, ?_⟩
    · have f3 := hF 3 _ _ rfl rfl; have f6 := hF 0 _ _ rfl rfl; clear hF
      go_simp
      exact hK _ _ (Below.refl _ _) rfl
    refine Plan.det 9 rfl (Below.refl _) ?_
    apply Exists.intro
    refine ⟨fun vs x hR hF K hK => ?_, ?_⟩
    · clear hF
      go_simp
      exact hK _ _ (Below.refl _ _) rfl
    refine Plan.det 10 rfl (Below.refl _) ?_
    apply Exists.intro
    refine ⟨fun vs x hR hF K hK => ?_, ?_⟩
    · have f8 := hF 0 _ _ rfl rfl; have hc := HC'.out x hR; clear hF
      go_simp
      exact hK _ _ (Below.refl _ _) rfl
    refine Plan.det 11 rfl (Below.refl _) ?_
    apply Exists.intro
    refine ⟨fun vs x hR hF K hK => ?_, ?_⟩
    · have f9 := hF 0 _ _ rfl rfl; clear hF
      go_simp
      exact hK _ _ (Below.refl _ _) rfl
    refine Plan.det 12 rfl (Below.refl _) ?_
    apply Exists.intro
    refine ⟨fun vs x hR hF K hK => ?_, ?_⟩
    · clear hF
      go_simp
      exact hK _ _ (Below.refl _ _) rfl
    refine Plan.det 13 rfl (Below.refl _) ?_
    apply Exists.intro
    refine ⟨fun vs x hR hF K hK => ?_, ?_⟩
    · have f11 := hF 0 _ _ rfl rfl; have hc := HC'.out x hR; clear hF
      go_simp
      exact hK _ _ (Below.refl _ _) rfl
    refine Plan.det 14 rfl (Below.refl _) ?_
    apply Exists.intro
    refine ⟨fun vs x hR hF K hK => ?_, ?_⟩
    · have hc := HC'.out x hR; clear hF
      go_simp
      exact hK _ _ (Below.refl _ _) rfl
    refine Plan.det 15 rfl (Below.refl _) ?_
    apply Exists.intro
    refine ⟨fun vs x hR hF K hK => ?_, ?_⟩
    · have f12 := hF 1 _ _ rfl rfl; have f13 := hF 0 _ _ rfl rfl; clear hF
      go_simp
      exact hK _ _ (Below.refl _ _) rfl
    refine Plan.det 16 rfl (Below.refl _) ?_
    apply Exists.intro
    refine ⟨fun vs x hR hF K hK => ?_, ?_⟩
    · have f0 := hF 14 _ _ rfl rfl; have f1 := hF 13 _ _ rfl rfl; have f2 := hF 12 _ _ rfl rfl; have f3 := hF 11 _ _ rfl rfl; have f4 := hF 10 _ _ rfl rfl; have f5 := hF 9 _ _ rfl rfl; have f6 := hF 8 _ _ rfl rfl; have f7 := hF 7 _ _ rfl rfl; clear hF
      go_simp
      exact hK _ _ (Below.refl _ _) rfl
    refine Plan.det 17 rfl (Below.refl _) ?_
    apply Exists.intro
    refine ⟨fun vs x hR hF K hK => ?_, ?_⟩
    · have f0 := hF 15 _ _ rfl rfl; have f1 := hF 14 _ _ rfl rfl; have f2 := hF 13 _ _ rfl rfl; have f3 := hF 12 _ _ rfl rfl; have f4 := hF 11 _ _ rfl rfl; have f5 := hF 10 _ _ rfl rfl; have f6 := hF 9 _ _ rfl rfl; have f7 := hF 8 _ _ rfl rfl; have f8 := hF 7 _ _ rfl rfl; have f9 := hF 6 _ _ rfl rfl; have f10 := hF 5 _ _ rfl rfl; have f15 := hF 0 _ _ rfl rfl; clear hF
      go_simp
      exact hK _ _ (Below.refl _ _) rfl
    refine Plan.det 18 rfl (Below.refl _) ?_
    apply Exists.intro
    refine ⟨fun vs x hR hF K hK => ?_, ?_⟩
    · have f0 := hF 16 _ _ rfl rfl; have f1 := hF 15 _ _ rfl rfl; have f2 := hF 14 _ _ rfl rfl; have f3 := hF 13 _ _ rfl rfl; have f4 := hF 12 _ _ rfl rfl; have f5 := hF 11 _ _ rfl rfl; have f6 := hF 10 _ _ rfl rfl; have f7 := hF 9 _ _ rfl rfl; have f8 := hF 8 _ _ rfl rfl; have f9 := hF 7 _ _ rfl rfl; have f10 := hF 6 _ _ rfl rfl; have f11 := hF 5 _ _ rfl rfl; have f12 := hF 4 _ _ rfl rfl; have f13 := hF 3 _ _ rfl rfl; have f14 := hF 2 _ _ rfl rfl; have f15 := hF 1 _ _ rfl rfl; have f16 := hF 0 _ _ rfl rfl; clear hF
      go_simp
      exact hK _ _ (Below.refl _ _) rfl
    refine Plan.nil (fun vs x hR hF => ?_)
    have f0 := hF 17 _ _ rfl; have f1 := hF 16 _ _ rfl; have f2 := hF 15 _ _ rfl; have f3 := hF 14 _ _ rfl; have f4 := hF 13 _ _ rfl; have f5 := hF 12 _ _ rfl; have f6 := hF 11 _ _ rfl; have f7 := hF 10 _ _ rfl; have f8 := hF 9 _ _ rfl; have f9 := hF 8 _ _ rfl; have f10 := hF 7 _ _ rfl; have f11 := hF 6 _ _ rfl; have f12 := hF 5 _ _ rfl; have f13 := hF 4 _ _ rfl; have f14 := hF 3 _ _ rfl; have f15 := hF 2 _ _ rfl; have f16 := hF 1 _ _ rfl; have f17 := hF 0 _ _ rfl
    clear hF
    simp only [f0, f1, f2, f3, f4, f5, f6, f7, f8, f9, f10, f11, f12, f13, f14, f15, f16, f17]
    clear f0 f1 f2 f3 f4 f5 f6 f7 f8 f9 f10 f11 f12 f13 f14 f15 f16 f17
    simp only [List.drop_succ_cons, List.drop_zero]
    have hz : w.heap.size + 1 < x.heap.size := by have := hR.size; simp at this; omega
    have hc := HC'.out x hR
    have hbw : Hid (Below w.heap.size w x) := (((Below.refl _ w).alloc (Nat.le_refl _) _).alloc (by simp) _).drew.trans (hR.mono (by omega))
    clear hR HC'
    rcases (show p.op = 1 ∨ p.op = 2 ∨ p.op = 3 ∨ p.op = 4 ∨ p.op = 5 ∨ p.op = 6 ∨ p.op = 7 ∨ p.op = 8 ∨ p.op = 9 ∨ ¬ (1 ≤ p.op ∧ p.op ≤ 9) by omega) with h | h | h | h | h | h | h | h | h | h
    all_goals
      go_wp2
      all_goals
        go_ret
        refine ⟨ret_bool ?_, hbw.out⟩
        have hb := HB.out
        clear HB heq
        rw [Bool.eq_iff_iff, ← hb]
        clear hb
        first | (simp_all; done) | (simp_all; omega)
  · go_enter Tryd.func39, Tryd.ntmps39
    go_wp2_with fail
    refine wp_region_inv 18 (Below (w.heap.size + 2)) (by kernel_rfl) (by kernel_rfl) (Below.refl _) (fun _ _ _ => Below.trans) ?_
    simp only [fill, dstOf, Act.put, List.take_succ_cons, List.take_zero, List.getElem?_toArray, List.getElem?_cons_zero, List.getElem?_cons_succ, Option.bind_some, List.setIfInBounds_toArray, List.set_cons_zero, List.set_cons_succ]
    refine Plan.det 1 rfl (Below.refl _) ?_
    apply Exists.intro
    refine ⟨fun vs x hR hF K hK => ?_, ?_⟩
    · clear hF
      go_simp
      exact hK _ _ (Below.refl _ _) rfl
    refine Plan.det 2 rfl (Below.refl _) ?_
    apply Exists.intro
    refine ⟨fun vs x hR hF K hK => ?_, ?_⟩
    · have f0 := hF 0 _ _ rfl rfl; have hc := HC'.out x hR; clear hF
      go_simp
      exact hK _ _ (Below.refl _ _) rfl
    refine Plan.det 3 rfl (Below.refl _) ?_
    apply Exists.intro
    refine ⟨fun vs x hR hF K hK => ?_, ?_⟩
    · have f1 := hF 0 _ _ rfl rfl; clear hF
      go_simp
      exact hK _ _ (Below.refl _ _) rfl
    refine Plan.det 4 rfl (Below.refl _) ?_
    apply Exists.intro
    refine ⟨fun vs x hR hF K hK => ?_, ?_⟩
    · have f2 := hF 0 _ _ rfl rfl; clear hF
      go_simp
      exact hK _ _ (Below.refl _ _) rfl
    refine Plan.det 5 rfl (Below.refl _) ?_
    apply Exists.intro
    refine ⟨fun vs x hR hF K hK => ?_, ?_⟩
    · have f3 := hF 0 _ _ rfl rfl; clear hF
      go_simp
      exact hK _ _ (Below.refl _ _) rfl
    refine Plan.det 6 rfl (Below.refl _) ?_
    apply Exists.intro
    refine ⟨fun vs x hR hF K hK => ?_, ?_⟩
    · have f3 := hF 1 _ _ rfl rfl; have f4 := hF 0 _ _ rfl rfl; have hc := HC'.out x hR; clear hF
      go_simp
      exact hK _ _ (Below.refl _ _) rfl
    refine Plan.det 7 rfl (Below.refl _) ?_
    apply Exists.intro
    refine ⟨fun vs x hR hF K hK => ?_, ?_⟩
    · have f3 := hF 2 _ _ rfl rfl; have f5 := hF 0 _ _ rfl rfl; clear hF
      go_simp
      exact hK _ _ (Below.refl _ _) rfl
    refine Plan.det 8 rfl (Below.refl _) ?_
    apply Exists.intro
    refine ⟨fun vs x hR hF K hK => ?_, ?_⟩
    · have f3 := hF 3 _ _ rfl rfl; have f6 := hF 0 _ _ rfl rfl; clear hF
      go_simp
      exact hK _ _ (Below.refl _ _) rfl
    refine Plan.det 9 rfl (Below.refl _) ?_
    apply Exists.intro
    refine ⟨fun vs x hR hF K hK => ?_, ?_⟩
    · clear hF
      go_simp
      exact hK _ _ (Below.refl _ _) rfl
    refine Plan.det 10 rfl (Below.refl _) ?_
    apply Exists.intro
    refine ⟨fun vs x hR hF K hK => ?_, ?_⟩
    · have f8 := hF 0 _ _ rfl rfl; have hc := HC'.out x hR; clear hF
      go_simp
      exact hK _ _ (Below.refl _ _) rfl
    refine Plan.det 11 rfl (Below.refl _) ?_
    apply Exists.intro
    refine ⟨fun vs x hR hF K hK => ?_, ?_⟩
    · have f9 := hF 0 _ _ rfl rfl; clear hF
      go_simp
      exact hK _ _ (Below.refl _ _) rfl
    refine Plan.det 12 rfl (Below.refl _) ?_
    apply Exists.intro
    refine ⟨fun vs x hR hF K hK => ?_, ?_⟩
    · clear hF
      go_simp
      exact hK _ _ (Below.refl _ _) rfl
    refine Plan.det 13 rfl (Below.refl _) ?_
    apply Exists.intro
    refine ⟨fun vs x hR hF K hK => ?_, ?_⟩
    · have f11 := hF 0 _ _ rfl rfl; have hc := HC'.out x hR; clear hF
      go_simp
      exact hK _ _ (Below.refl _ _) rfl
    refine Plan.det 14 rfl (Below.refl _) ?_
    apply Exists.intro
    refine ⟨fun vs x hR hF K hK => ?_, ?_⟩
    · have hc := HC'.out x hR; clear hF
      go_simp
      exact hK _ _ (Below.refl _ _) rfl
    refine Plan.det 15 rfl (Below.refl _) ?_
    apply Exists.intro
    refine ⟨fun vs x hR hF K hK => ?_, ?_⟩
    · have f12 := hF 1 _ _ rfl rfl; have f13 := hF 0 _ _ rfl rfl; clear hF
      go_simp
      exact hK _ _ (Below.refl _ _) rfl
    refine Plan.det 16 rfl (Below.refl _) ?_
    apply Exists.intro
    refine ⟨fun vs x hR hF K hK => ?_, ?_⟩
    · have f0 := hF 14 _ _ rfl rfl; have f1 := hF 13 _ _ rfl rfl; have f2 := hF 12 _ _ rfl rfl; have f3 := hF 11 _ _ rfl rfl; have f4 := hF 10 _ _ rfl rfl; have f5 := hF 9 _ _ rfl rfl; have f6 := hF 8 _ _ rfl rfl; have f7 := hF 7 _ _ rfl rfl; clear hF
      go_simp
      exact hK _ _ (Below.refl _ _) rfl
    refine Plan.det 17 rfl (Below.refl _) ?_
    apply Exists.intro
    refine ⟨fun vs x hR hF K hK => ?_, ?_⟩
    · have f0 := hF 15 _ _ rfl rfl; have f1 := hF 14 _ _ rfl rfl; have f2 := hF 13 _ _ rfl rfl; have f3 := hF 12 _ _ rfl rfl; have f4 := hF 11 _ _ rfl rfl; have f5 := hF 10 _ _ rfl rfl; have f6 := hF 9 _ _ rfl rfl; have f7 := hF 8 _ _ rfl rfl; have f8 := hF 7 _ _ rfl rfl; have f9 := hF 6 _ _ rfl rfl; have f10 := hF 5 _ _ rfl rfl; have f15 := hF 0 _ _ rfl rfl; clear hF
      go_simp
      exact hK _ _ (Below.refl _ _) rfl
    refine Plan.det 18 rfl (Below.refl _) ?_
    apply Exists.intro
    refine ⟨fun vs x hR hF K hK => ?_, ?_⟩
    · have f0 := hF 16 _ _ rfl rfl; have f1 := hF 15 _ _ rfl rfl; have f2 := hF 14 _ _ rfl rfl; have f3 := hF 13 _ _ rfl rfl; have f4 := hF 12 _ _ rfl rfl; have f5 := hF 11 _ _ rfl rfl; have f6 := hF 10 _ _ rfl rfl; have f7 := hF 9 _ _ rfl rfl; have f8 := hF 8 _ _ rfl rfl; have f9 := hF 7 _ _ rfl rfl; have f10 := hF 6 _ _ rfl rfl; have f11 := hF 5 _ _ rfl rfl; have f12 := hF 4 _ _ rfl rfl; have f13 := hF 3 _ _ rfl rfl; have f14 := hF 2 _ _ rfl rfl; have f15 := hF 1 _ _ rfl rfl; have f16 := hF 0 _ _ rfl rfl; clear hF
      go_simp
      exact hK _ _ (Below.refl _ _) rfl
    refine Plan.nil (fun vs x hR hF => ?_)
    have f0 := hF 17 _ _ rfl; have f1 := hF 16 _ _ rfl; have f2 := hF 15 _ _ rfl; have f3 := hF 14 _ _ rfl; have f4 := hF 13 _ _ rfl; have f5 := hF 12 _ _ rfl; have f6 := hF 11 _ _ rfl; have f7 := hF 10 _ _ rfl; have f8 := hF 9 _ _ rfl; have f9 := hF 8 _ _ rfl; have f10 := hF 7 _ _ rfl; have f11 := hF 6 _ _ rfl; have f12 := hF 5 _ _ rfl; have f13 := hF 4 _ _ rfl; have f14 := hF 3 _ _ rfl; have f15 := hF 2 _ _ rfl; have f16 := hF 1 _ _ rfl; have f17 := hF 0 _ _ rfl
    clear hF
    simp only [f0, f1, f2, f3, f4, f5, f6, f7, f8, f9, f10, f11, f12, f13, f14, f15, f16, f17]
    clear f0 f1 f2 f3 f4 f5 f6 f7 f8 f9 f10 f11 f12 f13 f14 f15 f16 f17
    simp only [List.drop_succ_cons, List.drop_zero]
    have hz : w.heap.size + 1 < x.heap.size := by have := hR.size; simp at this; omega
    have hc := HC'.out x hR
    have hbw : Hid (Below w.heap.size w x) := (((Below.refl _ w).alloc (Nat.le_refl _) _).alloc (by simp) _).drew.trans (hR.mono (by omega))
    clear hR HC'
    rcases (show p.op = 1 ∨ p.op = 2 ∨ p.op = 3 ∨ p.op = 4 ∨ p.op = 5 ∨ p.op = 6 ∨ p.op = 7 ∨ p.op = 8 ∨ p.op = 9 ∨ ¬ (1 ≤ p.op ∧ p.op ≤ 9) by omega) with h | h | h | h | h | h | h | h | h | h
    all_goals
      go_wp2
      all_goals
        go_ret
        refine ⟨ret_bool ?_, hbw.out⟩
        have hb := HB.out
        clear HB heq
        rw [Bool.eq_iff_iff, ← hb]
        clear hb
        first | (simp_all; done) | (simp_all; omega)
end Go.Proofs.YthnpbopnpdlmnaaDoor
