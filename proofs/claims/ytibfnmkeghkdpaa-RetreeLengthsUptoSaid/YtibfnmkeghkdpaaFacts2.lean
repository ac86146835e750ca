/- The program's alt of two facts. -/
import Derived.Test.YtibfnmkeghkdpaaFacts
import Derived.Deep.DeepCutAuto
import Derived.Deep.CutBlock
namespace Go.Proofs.Ytibfnmkeghkdpaa
open Go.RowKit
attribute [local go_sem] gives givesUpon

-- def FA := .agg #[.bool a.null, .int .i64 a.least, .int .i64 a.most, .int .u64 a.first.a, .int .u64 a.first.b, .int .u64 a.first.c, .int .u64 a.first.d]
-- def FB := .agg #[.bool b.null, .int .i64 b.least, .int .i64 b.most, .int .u64 b.first.a, .int .u64 b.first.b, .int .u64 b.first.c, .int .u64 b.first.d]
-- def CA := [.bool a.null, .int .i64 a.least, .int .i64 a.most, .int .u64 a.first.a, .int .u64 a.first.b, .int .u64 a.first.c, .int .u64 a.first.d]
-- def CB := [.bool b.null, .int .i64 b.least, .int .i64 b.most, .int .u64 b.first.a, .int .u64 b.first.b, .int .u64 b.first.c, .int .u64 b.first.d]
-- def C0 := [.bool false, .int .i64 0, .int .i64 0, .int .u64 0, .int .u64 0, .int .u64 0, .int .u64 0]
-- def W3 := (((w.alloc (.cells #[.bool a.null, .int .i64 a.least, .int .i64 a.most, .int .u64 a.first.a, .int .u64 a.first.b, .int .u64 a.first.c, .int .u64 a.first.d] 66)).alloc (.cells #[.bool b.null, .int .i64 b.least, .int .i64 b.most, .int .u64 b.first.a, .int .u64 b.first.b, .int .u64 b.first.c, .int .u64 b.first.d] 66)).alloc (.cells #[.bool false, .int .i64 0, .int .i64 0, .int .u64 0, .int .u64 0, .int .u64 0, .int .u64 0] 66))

set_option maxHeartbeats 2000000 in
theorem alt_any (a b : Facts) (w : World) (ha : a.wf) (hb : b.wf) :
    Calls Try.prog 70 #[.agg #[.bool a.null, .int .i64 a.least, .int .i64 a.most, .int .u64 a.first.a, .int .u64 a.first.b, .int .u64 a.first.c, .int .u64 a.first.d], .agg #[.bool b.null, .int .i64 b.least, .int .i64 b.most, .int .u64 b.first.a, .int .u64 b.first.b, .int .u64 b.first.c, .int .u64 b.first.d]] w fun e w' =>
      e = .returned (.agg (a.alt b).cells.toArray) ∧ Below w.heap.size w w' := by
  have HU := hid (fun x => Union_any a.first b.first x ha.first hb.first)
  have HR : Hid (Row (((w.alloc (.cells #[.bool a.null, .int .i64 a.least, .int .i64 a.most, .int .u64 a.first.a, .int .u64 a.first.b, .int .u64 a.first.c, .int .u64 a.first.d] 66)).alloc (.cells #[.bool b.null, .int .i64 b.least, .int .i64 b.most, .int .u64 b.first.a, .int .u64 b.first.b, .int .u64 b.first.c, .int .u64 b.first.d] 66)).alloc (.cells #[.bool false, .int .i64 0, .int .i64 0, .int .u64 0, .int .u64 0, .int .u64 0, .int .u64 0] 66)) w.heap.size [.bool a.null, .int .i64 a.least, .int .i64 a.most, .int .u64 a.first.a, .int .u64 a.first.b, .int .u64 a.first.c, .int .u64 a.first.d] 66 ∧ Row (((w.alloc (.cells #[.bool a.null, .int .i64 a.least, .int .i64 a.most, .int .u64 a.first.a, .int .u64 a.first.b, .int .u64 a.first.c, .int .u64 a.first.d] 66)).alloc (.cells #[.bool b.null, .int .i64 b.least, .int .i64 b.most, .int .u64 b.first.a, .int .u64 b.first.b, .int .u64 b.first.c, .int .u64 b.first.d] 66)).alloc (.cells #[.bool false, .int .i64 0, .int .i64 0, .int .u64 0, .int .u64 0, .int .u64 0, .int .u64 0] 66)) (w.heap.size + 1) [.bool b.null, .int .i64 b.least, .int .i64 b.most, .int .u64 b.first.a, .int .u64 b.first.b, .int .u64 b.first.c, .int .u64 b.first.d] 66 ∧ Row (((w.alloc (.cells #[.bool a.null, .int .i64 a.least, .int .i64 a.most, .int .u64 a.first.a, .int .u64 a.first.b, .int .u64 a.first.c, .int .u64 a.first.d] 66)).alloc (.cells #[.bool b.null, .int .i64 b.least, .int .i64 b.most, .int .u64 b.first.a, .int .u64 b.first.b, .int .u64 b.first.c, .int .u64 b.first.d] 66)).alloc (.cells #[.bool false, .int .i64 0, .int .i64 0, .int .u64 0, .int .u64 0, .int .u64 0, .int .u64 0] 66)) (w.heap.size + 2) [.bool false, .int .i64 0, .int .i64 0, .int .u64 0, .int .u64 0, .int .u64 0, .int .u64 0] 66 ∧ Below w.heap.size w (((w.alloc (.cells #[.bool a.null, .int .i64 a.least, .int .i64 a.most, .int .u64 a.first.a, .int .u64 a.first.b, .int .u64 a.first.c, .int .u64 a.first.d] 66)).alloc (.cells #[.bool b.null, .int .i64 b.least, .int .i64 b.most, .int .u64 b.first.a, .int .u64 b.first.b, .int .u64 b.first.c, .int .u64 b.first.d] 66)).alloc (.cells #[.bool false, .int .i64 0, .int .i64 0, .int .u64 0, .int .u64 0, .int .u64 0, .int .u64 0] 66))) :=
    ⟨((Row.new (cs := [_, _, _, _, _, _, _]) rfl).alloc _).alloc _, (Row.new (cs := [_, _, _, _, _, _, _]) (by simp)).alloc _, Row.new (cs := [_, _, _, _, _, _, _]) (by simp), (((Below.refl _ w).alloc (Nat.le_refl _) _).alloc (by simp) _).alloc (by simp; omega) _⟩
  have HC : Hid (∀ x, Grow (World.drew (((w.alloc (.cells #[.bool a.null, .int .i64 a.least, .int .i64 a.most, .int .u64 a.first.a, .int .u64 a.first.b, .int .u64 a.first.c, .int .u64 a.first.d] 66)).alloc (.cells #[.bool b.null, .int .i64 b.least, .int .i64 b.most, .int .u64 b.first.a, .int .u64 b.first.b, .int .u64 b.first.c, .int .u64 b.first.d] 66)).alloc (.cells #[.bool false, .int .i64 0, .int .i64 0, .int .u64 0, .int .u64 0, .int .u64 0, .int .u64 0] 66))) x → (x.cell? ⟨w.heap.size, 0, none⟩ = some (.bool a.null) ∧ x.cell? ⟨w.heap.size, 1, none⟩ = some (.int .i64 a.least) ∧ x.cell? ⟨w.heap.size, 2, none⟩ = some (.int .i64 a.most) ∧ x.cell? ⟨w.heap.size, 3, none⟩ = some (.int .u64 a.first.a) ∧ x.cell? ⟨w.heap.size, 4, none⟩ = some (.int .u64 a.first.b) ∧ x.cell? ⟨w.heap.size, 5, none⟩ = some (.int .u64 a.first.c) ∧ x.cell? ⟨w.heap.size, 6, none⟩ = some (.int .u64 a.first.d)) ∧
      (x.cell? ⟨w.heap.size + 1, 0, none⟩ = some (.bool b.null) ∧ x.cell? ⟨w.heap.size + 1, 1, none⟩ = some (.int .i64 b.least) ∧ x.cell? ⟨w.heap.size + 1, 2, none⟩ = some (.int .i64 b.most) ∧ x.cell? ⟨w.heap.size + 1, 3, none⟩ = some (.int .u64 b.first.a) ∧ x.cell? ⟨w.heap.size + 1, 4, none⟩ = some (.int .u64 b.first.b) ∧ x.cell? ⟨w.heap.size + 1, 5, none⟩ = some (.int .u64 b.first.c) ∧ x.cell? ⟨w.heap.size + 1, 6, none⟩ = some (.int .u64 b.first.d))) := fun x hx =>
    ⟨(HR.out.1.drew.below hx HR.out.1.drew.lt).c7f.1, (HR.out.2.1.drew.below hx HR.out.2.1.drew.lt).c7f.1⟩
  obtain ⟨⟨hl1, hl2⟩, ⟨hm1, hm2⟩, hf⟩ := ha
  obtain ⟨⟨hl3, hl4⟩, ⟨hm3, hm4⟩, hf'⟩ := hb
  generalize hnn : (a.null || b.null) = nn
  have HNN := hid hnn
  clear hnn
  rcases (show a.null = true ∨ a.null = false by cases a.null <;> simp) with hn | hn
  · have HN := hid hn
    rw [hn] at HC HR
    rw [hn]
    clear hn
    go_enter Try.func70, Try.ntmps70
    go_wp2_with fail
    refine wp_region_inv 23 (Grow) (by kernel_rfl) (by kernel_rfl) (Grow.refl) (fun _ _ _ => Grow.trans) ?_
    simp only [fill, dstOf, Act.put, List.take_succ_cons, List.take_zero, List.getElem?_toArray, List.getElem?_cons_zero, List.getElem?_cons_succ, Option.bind_some, List.setIfInBounds_toArray, List.set_cons_zero, List.set_cons_succ]
    refine Plan.det 1 rfl (Grow.refl) ?_
    apply Exists.intro
    refine ⟨fun vs x hR hF K hK => ?_, ?_⟩
    · clear hF
      go_simp
      exact hK _ _ (Grow.refl _) rfl
    refine Plan.det 2 rfl (Grow.refl) ?_
    apply Exists.intro
    refine ⟨fun vs x hR hF K hK => ?_, ?_⟩
    · have f0 := hF 0 _ _ rfl rfl; have hc := HC.out x hR; clear hF
      go_simp
      exact hK _ _ (Grow.refl _) rfl
    refine Plan.det 3 rfl (Grow.refl) ?_
    apply Exists.intro
    refine ⟨fun vs x hR hF K hK => ?_, ?_⟩
    · have f1 := hF 0 _ _ rfl rfl; clear hF
      go_simp
      exact hK _ _ (Grow.refl _) rfl
    refine Plan.det 4 rfl (Grow.refl) ?_
    apply Exists.intro
    refine ⟨fun vs x hR hF K hK => ?_, ?_⟩
    · have f2 := hF 0 _ _ rfl rfl; clear hF
      go_simp
      exact hK _ _ (Grow.refl _) rfl
    refine Plan.det 5 rfl (Grow.refl) ?_
    apply Exists.intro
    refine ⟨fun vs x hR hF K hK => ?_, ?_⟩
    · have f2 := hF 1 _ _ rfl rfl; have f3 := hF 0 _ _ rfl rfl; have hc := HC.out x hR; clear hF
      go_simp
      exact hK _ _ (Grow.refl _) rfl
    refine Plan.det 6 rfl (Grow.refl) ?_
    apply Exists.intro
    refine ⟨fun vs x hR hF K hK => ?_, ?_⟩
    · have f2 := hF 2 _ _ rfl rfl; have f4 := hF 0 _ _ rfl rfl; clear hF
      go_simp
      exact hK _ _ (Grow.refl _) rfl
    refine Plan.det 7 rfl (Grow.refl) ?_
    apply Exists.intro
    refine ⟨fun vs x hR hF K hK => ?_, ?_⟩
    · clear hF
      go_simp
      exact hK _ _ (Grow.refl _) rfl
    refine Plan.det 8 rfl (Grow.refl) ?_
    apply Exists.intro
    refine ⟨fun vs x hR hF K hK => ?_, ?_⟩
    · have f6 := hF 0 _ _ rfl rfl; have hc := HC.out x hR; clear hF
      go_simp
      exact hK _ _ (Grow.refl _) rfl
    refine Plan.det 9 rfl (Grow.refl) ?_
    apply Exists.intro
    refine ⟨fun vs x hR hF K hK => ?_, ?_⟩
    · clear hF
      go_simp
      exact hK _ _ (Grow.refl _) rfl
    refine Plan.det 10 rfl (Grow.refl) ?_
    apply Exists.intro
    refine ⟨fun vs x hR hF K hK => ?_, ?_⟩
    · have f8 := hF 0 _ _ rfl rfl; have hc := HC.out x hR; clear hF
      go_simp
      exact hK _ _ (Grow.refl _) rfl
    refine Plan.det 11 rfl (Grow.refl) ?_
    apply Exists.intro
    refine ⟨fun vs x hR hF K hK => ?_, ?_⟩
    · have f7 := hF 2 _ _ rfl rfl; have f9 := hF 0 _ _ rfl rfl; clear hF
      go_simp
      exact hK _ _ (Grow.refl _) rfl
    refine Plan.det 12 rfl (Grow.refl) ?_
    apply Exists.intro
    refine ⟨fun vs x hR hF K hK => ?_, ?_⟩
    · clear hF
      go_simp
      exact hK _ _ (Grow.refl _) rfl
    refine Plan.det 13 rfl (Grow.refl) ?_
    apply Exists.intro
    refine ⟨fun vs x hR hF K hK => ?_, ?_⟩
    · have f11 := hF 0 _ _ rfl rfl; have hc := HC.out x hR; clear hF
      go_simp
      exact hK _ _ (Grow.refl _) rfl
    refine Plan.det 14 rfl (Grow.refl) ?_
    apply Exists.intro
    refine ⟨fun vs x hR hF K hK => ?_, ?_⟩
    · clear hF
      go_simp
      exact hK _ _ (Grow.refl _) rfl
    refine Plan.det 15 rfl (Grow.refl) ?_
    apply Exists.intro
    refine ⟨fun vs x hR hF K hK => ?_, ?_⟩
    · have f13 := hF 0 _ _ rfl rfl; have hc := HC.out x hR; clear hF
      go_simp
      exact hK _ _ (Grow.refl _) rfl
    refine Plan.det 16 rfl (Grow.refl) ?_
    apply Exists.intro
    refine ⟨fun vs x hR hF K hK => ?_, ?_⟩
    · have f12 := hF 2 _ _ rfl rfl; have f14 := hF 0 _ _ rfl rfl; clear hF
      go_simp
      exact hK _ _ (Grow.refl _) rfl
    refine Plan.det 17 rfl (Grow.refl) ?_
    apply Exists.intro
    refine ⟨fun vs x hR hF K hK => ?_, ?_⟩
    · clear hF
      go_simp
      exact hK _ _ (Grow.refl _) rfl
    refine Plan.det 18 rfl (Grow.refl) ?_
    apply Exists.intro
    refine ⟨fun vs x hR hF K hK => ?_, ?_⟩
    · have f16 := hF 0 _ _ rfl rfl; have hc := HC.out x hR; clear hF
      go_simp
      exact hK _ _ (Grow.refl _) rfl
    refine Plan.det 19 rfl (Grow.refl) ?_
    apply Exists.intro
    refine ⟨fun vs x hR hF K hK => ?_, ?_⟩
    · clear hF
      go_simp
      exact hK _ _ (Grow.refl _) rfl
    refine Plan.det 20 rfl (Grow.refl) ?_
    apply Exists.intro
    refine ⟨fun vs x hR hF K hK => ?_, ?_⟩
    · have f18 := hF 0 _ _ rfl rfl; have hc := HC.out x hR; clear hF
      go_simp
      exact hK _ _ (Grow.refl _) rfl
    refine Plan.det 21 rfl (Grow.refl) ?_
    apply Exists.intro
    refine ⟨fun vs x hR hF K hK => ?_, ?_⟩
    · have f2 := hF 17 _ _ rfl rfl; have f17 := hF 2 _ _ rfl rfl; have f19 := hF 0 _ _ rfl rfl; clear hF
      go_simp
      refine (HU.out x).mono ?_
      rintro e x1 ⟨rfl, hbe⟩
      exact ⟨_, rfl, hK _ _ hbe rfl⟩
    refine Plan.det 22 rfl (Grow.refl) ?_
    apply Exists.intro
    refine ⟨fun vs x hR hF K hK => ?_, ?_⟩
    · have f5 := hF 15 _ _ rfl rfl; have f10 := hF 10 _ _ rfl rfl; have f15 := hF 5 _ _ rfl rfl; have f20 := hF 0 _ _ rfl rfl; clear hF
      go_simp
      exact hK _ _ (Grow.refl _) rfl
    refine Plan.rel 23 rfl (Grow.refl) (fun v x => ∃ b, v = .pointer (some ⟨b, 0, none⟩) ∧ (w.heap.size + 3) ≤ b ∧ Row x b [.bool false, .int .i64 0, .int .i64 0, .int .u64 0, .int .u64 0, .int .u64 0, .int .u64 0] 66) (fun v x y hR ⟨b, h1, h2, h3⟩ => ⟨b, h1, h2, h3.below hR h3.lt⟩) (fun vs x hR hF K hK => ?_) ?_
    · skip
      go_simp
      exact hK _ _ (Grow.alloc _ _) ⟨_, rfl, (by have := Grow.size hR; simp at this; omega), Row.at _ _ _⟩
    refine Plan.nil (fun vs x hR hF => ?_)
    have f0 := hF 22 _ _ rfl; have f1 := hF 21 _ _ rfl; have f2 := hF 20 _ _ rfl; have f3 := hF 19 _ _ rfl; have f4 := hF 18 _ _ rfl; have f5 := hF 17 _ _ rfl; have f6 := hF 16 _ _ rfl; have f7 := hF 15 _ _ rfl; have f8 := hF 14 _ _ rfl; have f9 := hF 13 _ _ rfl; have f10 := hF 12 _ _ rfl; have f11 := hF 11 _ _ rfl; have f12 := hF 10 _ _ rfl; have f13 := hF 9 _ _ rfl; have f14 := hF 8 _ _ rfl; have f15 := hF 7 _ _ rfl; have f16 := hF 6 _ _ rfl; have f17 := hF 5 _ _ rfl; have f18 := hF 4 _ _ rfl; have f19 := hF 3 _ _ rfl; have f20 := hF 2 _ _ rfl; have f21 := hF 1 _ _ rfl; have f22 := hF 0 _ _ rfl
    clear hF
    simp only [f0, f1, f2, f3, f4, f5, f6, f7, f8, f9, f10, f11, f12, f13, f14, f15, f16, f17, f18, f19, f20, f21]
    clear f0 f1 f2 f3 f4 f5 f6 f7 f8 f9 f10 f11 f12 f13 f14 f15 f16 f17 f18 f19 f20 f21
    simp only [List.drop_succ_cons, List.drop_zero]
    obtain ⟨bk, e22, hbk, hrow⟩ := f22
    simp only [e22]
    have q1 := HC.out x hR
    have qb := hrow.c7f
    have hz := hrow.lt
    have HRO := hid hrow
    have HBX := hid (HR.out.2.2.2.drew.trans (hR.mono (by simp; omega)))
    have r2 := HR.out.2.2.1.drew.below hR HR.out.2.2.1.drew.lt
    have HR2 := hid r2
    have q2 := r2.c7f
    have hx3 : w.heap.size + 3 ≤ x.heap.size := by have := Grow.size hR; simp at this; omega
    clear hR HC HR HU hrow r2
    generalize hle : (if b.least < a.least then b.least else a.least) = le
    generalize hmo : (if a.most < b.most then b.most else a.most) = mo
    have HLE : Hid (le = min a.least b.least) := by show _ = _; rw [← hle]; split <;> omega
    have HMO : Hid (mo = max a.most b.most) := by show _ = _; rw [← hmo]; split <;> omega
    have HBK : Hid (w.heap.size + 2 ≠ bk ∧ w.heap.size ≤ bk) := ⟨by omega, by omega⟩
    have hb1 : w.heap.size + 2 < bk := by omega
    have hb2 : w.heap.size + 2 < x.heap.size := by omega
    clear hle hmo hl1 hl2 hm1 hm2 hl3 hl4 hm3 hm4 hf hf' hx3 hbk e22
    rcases (show decide (a.most < 0) = true ∨ (decide (a.most < 0) = false ∧ decide (b.most < 0) = true) ∨ (decide (a.most < 0) = false ∧ decide (b.most < 0) = false) by cases decide (a.most < 0) <;> cases decide (b.most < 0) <;> simp) with hd | ⟨hd, hd'⟩ | ⟨hd, hd'⟩
    · go_upto_region 3 with fail
      have s1 := HRO.out.set7 (.bool true) (.int .i64 le) (.int .i64 mo) (.int .u64 (a.first.union b.first).a) (.int .u64 (a.first.union b.first).b) (.int .u64 (a.first.union b.first).c) (.int .u64 (a.first.union b.first).d)
      have s2 := HR2.out.other7 HBK.out.1 (.bool true) (.int .i64 le) (.int .i64 mo) (.int .u64 (a.first.union b.first).a) (.int .u64 (a.first.union b.first).b) (.int .u64 (a.first.union b.first).c) (.int .u64 (a.first.union b.first).d)
      have s3 := below7 HBX.out HBK.out.2 (.bool true) (.int .i64 le) (.int .i64 mo) (.int .u64 (a.first.union b.first).a) (.int .u64 (a.first.union b.first).b) (.int .u64 (a.first.union b.first).c) (.int .u64 (a.first.union b.first).d)
      generalize (((((((x.setCell ⟨bk, 0, none⟩ (.bool true)).setCell ⟨bk, 1, none⟩ (.int .i64 le)).setCell ⟨bk, 2, none⟩ (.int .i64 mo)).setCell ⟨bk, 3, none⟩ (.int .u64 (a.first.union b.first).a)).setCell ⟨bk, 4, none⟩ (.int .u64 (a.first.union b.first).b)).setCell ⟨bk, 5, none⟩ (.int .u64 (a.first.union b.first).c)).setCell ⟨bk, 6, none⟩ (.int .u64 (a.first.union b.first).d)) = y at s1 s2 s3 ⊢
      have p1 := s1.c7f
      have p2 := s2.c7f
      have z1 := s1.lt
      have z2 := s2.lt
      have HS1 := hid s1
      have HS2 := hid s2
      have HS3 := hid s3
      clear s1 s2 s3 q1 qb q2
      go_wp2_with fail
      refine ret_row 4 66 rfl (w.heap.size + 2) rfl (a.alt b).cells (CellsAt.of_row (T := 66) ?_) _ Try.underlying66 rfl (size_facts _ _ _ _ _ _ _) rfl ⟨rfl, ?_⟩
      · rw [show (a.alt b).cells = [.bool true, .int .i64 le, .int .i64 (-1), .int .u64 (a.first.union b.first).a, .int .u64 (a.first.union b.first).b, .int .u64 (a.first.union b.first).c, .int .u64 (a.first.union b.first).d] by rw [HLE.out]; simp at hd; simp [Facts.alt, Facts.cells, HN.out, hd]]
        exact (HS2.out.other HBK.out.1 _ _).set7 _ _ _ _ _ _ _
      · exact below7 (HS3.out.setCell (by exact HBK.out.2) _) (by omega) _ _ _ _ _ _ _
    · go_upto_region 3 with fail
      have s1 := HRO.out.set7 (.bool true) (.int .i64 le) (.int .i64 mo) (.int .u64 (a.first.union b.first).a) (.int .u64 (a.first.union b.first).b) (.int .u64 (a.first.union b.first).c) (.int .u64 (a.first.union b.first).d)
      have s2 := HR2.out.other7 HBK.out.1 (.bool true) (.int .i64 le) (.int .i64 mo) (.int .u64 (a.first.union b.first).a) (.int .u64 (a.first.union b.first).b) (.int .u64 (a.first.union b.first).c) (.int .u64 (a.first.union b.first).d)
      have s3 := below7 HBX.out HBK.out.2 (.bool true) (.int .i64 le) (.int .i64 mo) (.int .u64 (a.first.union b.first).a) (.int .u64 (a.first.union b.first).b) (.int .u64 (a.first.union b.first).c) (.int .u64 (a.first.union b.first).d)
      generalize (((((((x.setCell ⟨bk, 0, none⟩ (.bool true)).setCell ⟨bk, 1, none⟩ (.int .i64 le)).setCell ⟨bk, 2, none⟩ (.int .i64 mo)).setCell ⟨bk, 3, none⟩ (.int .u64 (a.first.union b.first).a)).setCell ⟨bk, 4, none⟩ (.int .u64 (a.first.union b.first).b)).setCell ⟨bk, 5, none⟩ (.int .u64 (a.first.union b.first).c)).setCell ⟨bk, 6, none⟩ (.int .u64 (a.first.union b.first).d)) = y at s1 s2 s3 ⊢
      have p1 := s1.c7f
      have p2 := s2.c7f
      have z1 := s1.lt
      have z2 := s2.lt
      have HS1 := hid s1
      have HS2 := hid s2
      have HS3 := hid s3
      clear s1 s2 s3 q1 qb q2
      go_wp2_with fail
      refine ret_row 4 66 rfl (w.heap.size + 2) rfl (a.alt b).cells (CellsAt.of_row (T := 66) ?_) _ Try.underlying66 rfl (size_facts _ _ _ _ _ _ _) rfl ⟨rfl, ?_⟩
      · rw [show (a.alt b).cells = [.bool true, .int .i64 le, .int .i64 (-1), .int .u64 (a.first.union b.first).a, .int .u64 (a.first.union b.first).b, .int .u64 (a.first.union b.first).c, .int .u64 (a.first.union b.first).d] by rw [HLE.out]; simp at hd'; simp [Facts.alt, Facts.cells, HN.out, hd']]
        exact (HS2.out.other HBK.out.1 _ _).set7 _ _ _ _ _ _ _
      · exact below7 (HS3.out.setCell (by exact HBK.out.2) _) (by omega) _ _ _ _ _ _ _
    · go_wp2_with fail
      refine ret_row 4 66 rfl (w.heap.size + 2) rfl (a.alt b).cells (CellsAt.of_row (T := 66) ?_) _ Try.underlying66 rfl (size_facts _ _ _ _ _ _ _) rfl ⟨rfl, ?_⟩
      · rw [show (a.alt b).cells = [.bool true, .int .i64 le, .int .i64 mo, .int .u64 (a.first.union b.first).a, .int .u64 (a.first.union b.first).b, .int .u64 (a.first.union b.first).c, .int .u64 (a.first.union b.first).d] by rw [HLE.out, HMO.out]; simp at hd hd'; simp [Facts.alt, Facts.cells, HN.out]; omega]
        exact (HR2.out.other7 HBK.out.1 _ _ _ _ _ _ _).set7 _ _ _ _ _ _ _
      · exact below7 (below7 HBX.out HBK.out.2 _ _ _ _ _ _ _) (by omega) _ _ _ _ _ _ _
  · have HN := hid hn
    rw [hn] at HC HR
    rw [hn]
    clear hn
    go_enter Try.func70, Try.ntmps70
    go_wp2_with fail
    refine wp_region_inv 23 (Grow) (by kernel_rfl) (by kernel_rfl) (Grow.refl) (fun _ _ _ => Grow.trans) ?_
    simp only [fill, dstOf, Act.put, List.take_succ_cons, List.take_zero, List.getElem?_toArray, List.getElem?_cons_zero, List.getElem?_cons_succ, Option.bind_some, List.setIfInBounds_toArray, List.set_cons_zero, List.set_cons_succ]
    refine Plan.det 1 rfl (Grow.refl) ?_
    apply Exists.intro
    refine ⟨fun vs x hR hF K hK => ?_, ?_⟩
    · clear hF
      go_simp
      exact hK _ _ (Grow.refl _) rfl
    refine Plan.det 2 rfl (Grow.refl) ?_
    apply Exists.intro
    refine ⟨fun vs x hR hF K hK => ?_, ?_⟩
    · have f0 := hF 0 _ _ rfl rfl; have hc := HC.out x hR; clear hF
      go_simp
      exact hK _ _ (Grow.refl _) rfl
    refine Plan.det 3 rfl (Grow.refl) ?_
    apply Exists.intro
    refine ⟨fun vs x hR hF K hK => ?_, ?_⟩
    · have f1 := hF 0 _ _ rfl rfl; clear hF
      go_simp
      exact hK _ _ (Grow.refl _) rfl
    refine Plan.det 4 rfl (Grow.refl) ?_
    apply Exists.intro
    refine ⟨fun vs x hR hF K hK => ?_, ?_⟩
    · have f2 := hF 0 _ _ rfl rfl; clear hF
      go_simp
      exact hK _ _ (Grow.refl _) rfl
    refine Plan.det 5 rfl (Grow.refl) ?_
    apply Exists.intro
    refine ⟨fun vs x hR hF K hK => ?_, ?_⟩
    · have f2 := hF 1 _ _ rfl rfl; have f3 := hF 0 _ _ rfl rfl; have hc := HC.out x hR; clear hF
      go_simp
      exact hK _ _ (Grow.refl _) rfl
    refine Plan.det 6 rfl (Grow.refl) ?_
    apply Exists.intro
    refine ⟨fun vs x hR hF K hK => ?_, ?_⟩
    · have f2 := hF 2 _ _ rfl rfl; have f4 := hF 0 _ _ rfl rfl; clear hF
      go_simp
      exact hK _ _ (Grow.refl _) rfl
    refine Plan.det 7 rfl (Grow.refl) ?_
    apply Exists.intro
    refine ⟨fun vs x hR hF K hK => ?_, ?_⟩
    · clear hF
      go_simp
      exact hK _ _ (Grow.refl _) rfl
    refine Plan.det 8 rfl (Grow.refl) ?_
    apply Exists.intro
    refine ⟨fun vs x hR hF K hK => ?_, ?_⟩
    · have f6 := hF 0 _ _ rfl rfl; have hc := HC.out x hR; clear hF
      go_simp
      exact hK _ _ (Grow.refl _) rfl
    refine Plan.det 9 rfl (Grow.refl) ?_
    apply Exists.intro
    refine ⟨fun vs x hR hF K hK => ?_, ?_⟩
    · clear hF
      go_simp
      exact hK _ _ (Grow.refl _) rfl
    refine Plan.det 10 rfl (Grow.refl) ?_
    apply Exists.intro
    refine ⟨fun vs x hR hF K hK => ?_, ?_⟩
    · have f8 := hF 0 _ _ rfl rfl; have hc := HC.out x hR; clear hF
      go_simp
      exact hK _ _ (Grow.refl _) rfl
    refine Plan.det 11 rfl (Grow.refl) ?_
    apply Exists.intro
    refine ⟨fun vs x hR hF K hK => ?_, ?_⟩
    · have f7 := hF 2 _ _ rfl rfl; have f9 := hF 0 _ _ rfl rfl; clear hF
      go_simp
      exact hK _ _ (Grow.refl _) rfl
    refine Plan.det 12 rfl (Grow.refl) ?_
    apply Exists.intro
    refine ⟨fun vs x hR hF K hK => ?_, ?_⟩
    · clear hF
      go_simp
      exact hK _ _ (Grow.refl _) rfl
    refine Plan.det 13 rfl (Grow.refl) ?_
    apply Exists.intro
    refine ⟨fun vs x hR hF K hK => ?_, ?_⟩
    · have f11 := hF 0 _ _ rfl rfl; have hc := HC.out x hR; clear hF
      go_simp
      exact hK _ _ (Grow.refl _) rfl
    refine Plan.det 14 rfl (Grow.refl) ?_
    apply Exists.intro
    refine ⟨fun vs x hR hF K hK => ?_, ?_⟩
    · clear hF
      go_simp
      exact hK _ _ (Grow.refl _) rfl
    refine Plan.det 15 rfl (Grow.refl) ?_
    apply Exists.intro
    refine ⟨fun vs x hR hF K hK => ?_, ?_⟩
    · have f13 := hF 0 _ _ rfl rfl; have hc := HC.out x hR; clear hF
      go_simp
      exact hK _ _ (Grow.refl _) rfl
    refine Plan.det 16 rfl (Grow.refl) ?_
    apply Exists.intro
    refine ⟨fun vs x hR hF K hK => ?_, ?_⟩
    · have f12 := hF 2 _ _ rfl rfl; have f14 := hF 0 _ _ rfl rfl; clear hF
      go_simp
      exact hK _ _ (Grow.refl _) rfl
    refine Plan.det 17 rfl (Grow.refl) ?_
    apply Exists.intro
    refine ⟨fun vs x hR hF K hK => ?_, ?_⟩
    · clear hF
      go_simp
      exact hK _ _ (Grow.refl _) rfl
    refine Plan.det 18 rfl (Grow.refl) ?_
    apply Exists.intro
    refine ⟨fun vs x hR hF K hK => ?_, ?_⟩
    · have f16 := hF 0 _ _ rfl rfl; have hc := HC.out x hR; clear hF
      go_simp
      exact hK _ _ (Grow.refl _) rfl
    refine Plan.det 19 rfl (Grow.refl) ?_
    apply Exists.intro
    refine ⟨fun vs x hR hF K hK => ?_, ?_⟩
    · clear hF
      go_simp
      exact hK _ _ (Grow.refl _) rfl
    refine Plan.det 20 rfl (Grow.refl) ?_
    apply Exists.intro
    refine ⟨fun vs x hR hF K hK => ?_, ?_⟩
    · have f18 := hF 0 _ _ rfl rfl; have hc := HC.out x hR; clear hF
      go_simp
      exact hK _ _ (Grow.refl _) rfl
    refine Plan.det 21 rfl (Grow.refl) ?_
    apply Exists.intro
    refine ⟨fun vs x hR hF K hK => ?_, ?_⟩
    · have f2 := hF 17 _ _ rfl rfl; have f17 := hF 2 _ _ rfl rfl; have f19 := hF 0 _ _ rfl rfl; clear hF
      go_simp
      refine (HU.out x).mono ?_
      rintro e x1 ⟨rfl, hbe⟩
      exact ⟨_, rfl, hK _ _ hbe rfl⟩
    refine Plan.det 22 rfl (Grow.refl) ?_
    apply Exists.intro
    refine ⟨fun vs x hR hF K hK => ?_, ?_⟩
    · have f5 := hF 15 _ _ rfl rfl; have f10 := hF 10 _ _ rfl rfl; have f15 := hF 5 _ _ rfl rfl; have f20 := hF 0 _ _ rfl rfl; clear hF
      go_simp
      exact hK _ _ (Grow.refl _) rfl
    refine Plan.rel 23 rfl (Grow.refl) (fun v x => ∃ b, v = .pointer (some ⟨b, 0, none⟩) ∧ (w.heap.size + 3) ≤ b ∧ Row x b [.bool false, .int .i64 0, .int .i64 0, .int .u64 0, .int .u64 0, .int .u64 0, .int .u64 0] 66) (fun v x y hR ⟨b, h1, h2, h3⟩ => ⟨b, h1, h2, h3.below hR h3.lt⟩) (fun vs x hR hF K hK => ?_) ?_
    · skip
      go_simp
      exact hK _ _ (Grow.alloc _ _) ⟨_, rfl, (by have := Grow.size hR; simp at this; omega), Row.at _ _ _⟩
    refine Plan.nil (fun vs x hR hF => ?_)
    have f0 := hF 22 _ _ rfl; have f1 := hF 21 _ _ rfl; have f2 := hF 20 _ _ rfl; have f3 := hF 19 _ _ rfl; have f4 := hF 18 _ _ rfl; have f5 := hF 17 _ _ rfl; have f6 := hF 16 _ _ rfl; have f7 := hF 15 _ _ rfl; have f8 := hF 14 _ _ rfl; have f9 := hF 13 _ _ rfl; have f10 := hF 12 _ _ rfl; have f11 := hF 11 _ _ rfl; have f12 := hF 10 _ _ rfl; have f13 := hF 9 _ _ rfl; have f14 := hF 8 _ _ rfl; have f15 := hF 7 _ _ rfl; have f16 := hF 6 _ _ rfl; have f17 := hF 5 _ _ rfl; have f18 := hF 4 _ _ rfl; have f19 := hF 3 _ _ rfl; have f20 := hF 2 _ _ rfl; have f21 := hF 1 _ _ rfl; have f22 := hF 0 _ _ rfl
    clear hF
    simp only [f0, f1, f2, f3, f4, f5, f6, f7, f8, f9, f10, f11, f12, f13, f14, f15, f16, f17, f18, f19, f20, f21]
    clear f0 f1 f2 f3 f4 f5 f6 f7 f8 f9 f10 f11 f12 f13 f14 f15 f16 f17 f18 f19 f20 f21
    simp only [List.drop_succ_cons, List.drop_zero]
    obtain ⟨bk, e22, hbk, hrow⟩ := f22
    simp only [e22]
    have q1 := HC.out x hR
    have qb := hrow.c7f
    have hz := hrow.lt
    have HRO := hid hrow
    have HBX := hid (HR.out.2.2.2.drew.trans (hR.mono (by simp; omega)))
    have r2 := HR.out.2.2.1.drew.below hR HR.out.2.2.1.drew.lt
    have HR2 := hid r2
    have q2 := r2.c7f
    have hx3 : w.heap.size + 3 ≤ x.heap.size := by have := Grow.size hR; simp at this; omega
    clear hR HC HR HU hrow r2
    generalize hle : (if b.least < a.least then b.least else a.least) = le
    generalize hmo : (if a.most < b.most then b.most else a.most) = mo
    have HLE : Hid (le = min a.least b.least) := by show _ = _; rw [← hle]; split <;> omega
    have HMO : Hid (mo = max a.most b.most) := by show _ = _; rw [← hmo]; split <;> omega
    have HBK : Hid (w.heap.size + 2 ≠ bk ∧ w.heap.size ≤ bk) := ⟨by omega, by omega⟩
    have hb1 : w.heap.size + 2 < bk := by omega
    have hb2 : w.heap.size + 2 < x.heap.size := by omega
    clear hle hmo hl1 hl2 hm1 hm2 hl3 hl4 hm3 hm4 hf hf' hx3 hbk e22
    rcases (show decide (a.most < 0) = true ∨ (decide (a.most < 0) = false ∧ decide (b.most < 0) = true) ∨ (decide (a.most < 0) = false ∧ decide (b.most < 0) = false) by cases decide (a.most < 0) <;> cases decide (b.most < 0) <;> simp) with hd | ⟨hd, hd'⟩ | ⟨hd, hd'⟩
    · go_upto_region 3 with fail
      have s1 := HRO.out.set7 (.bool b.null) (.int .i64 le) (.int .i64 mo) (.int .u64 (a.first.union b.first).a) (.int .u64 (a.first.union b.first).b) (.int .u64 (a.first.union b.first).c) (.int .u64 (a.first.union b.first).d)
      have s2 := HR2.out.other7 HBK.out.1 (.bool b.null) (.int .i64 le) (.int .i64 mo) (.int .u64 (a.first.union b.first).a) (.int .u64 (a.first.union b.first).b) (.int .u64 (a.first.union b.first).c) (.int .u64 (a.first.union b.first).d)
      have s3 := below7 HBX.out HBK.out.2 (.bool b.null) (.int .i64 le) (.int .i64 mo) (.int .u64 (a.first.union b.first).a) (.int .u64 (a.first.union b.first).b) (.int .u64 (a.first.union b.first).c) (.int .u64 (a.first.union b.first).d)
      generalize (((((((x.setCell ⟨bk, 0, none⟩ (.bool b.null)).setCell ⟨bk, 1, none⟩ (.int .i64 le)).setCell ⟨bk, 2, none⟩ (.int .i64 mo)).setCell ⟨bk, 3, none⟩ (.int .u64 (a.first.union b.first).a)).setCell ⟨bk, 4, none⟩ (.int .u64 (a.first.union b.first).b)).setCell ⟨bk, 5, none⟩ (.int .u64 (a.first.union b.first).c)).setCell ⟨bk, 6, none⟩ (.int .u64 (a.first.union b.first).d)) = y at s1 s2 s3 ⊢
      have p1 := s1.c7f
      have p2 := s2.c7f
      have z1 := s1.lt
      have z2 := s2.lt
      have HS1 := hid s1
      have HS2 := hid s2
      have HS3 := hid s3
      clear s1 s2 s3 q1 qb q2
      go_wp2_with fail
      refine ret_row 4 66 rfl (w.heap.size + 2) rfl (a.alt b).cells (CellsAt.of_row (T := 66) ?_) _ Try.underlying66 rfl (size_facts _ _ _ _ _ _ _) rfl ⟨rfl, ?_⟩
      · rw [show (a.alt b).cells = [.bool b.null, .int .i64 le, .int .i64 (-1), .int .u64 (a.first.union b.first).a, .int .u64 (a.first.union b.first).b, .int .u64 (a.first.union b.first).c, .int .u64 (a.first.union b.first).d] by rw [HLE.out]; simp at hd; simp [Facts.alt, Facts.cells, HN.out, hd]]
        exact (HS2.out.other HBK.out.1 _ _).set7 _ _ _ _ _ _ _
      · exact below7 (HS3.out.setCell (by exact HBK.out.2) _) (by omega) _ _ _ _ _ _ _
    · go_upto_region 3 with fail
      have s1 := HRO.out.set7 (.bool b.null) (.int .i64 le) (.int .i64 mo) (.int .u64 (a.first.union b.first).a) (.int .u64 (a.first.union b.first).b) (.int .u64 (a.first.union b.first).c) (.int .u64 (a.first.union b.first).d)
      have s2 := HR2.out.other7 HBK.out.1 (.bool b.null) (.int .i64 le) (.int .i64 mo) (.int .u64 (a.first.union b.first).a) (.int .u64 (a.first.union b.first).b) (.int .u64 (a.first.union b.first).c) (.int .u64 (a.first.union b.first).d)
      have s3 := below7 HBX.out HBK.out.2 (.bool b.null) (.int .i64 le) (.int .i64 mo) (.int .u64 (a.first.union b.first).a) (.int .u64 (a.first.union b.first).b) (.int .u64 (a.first.union b.first).c) (.int .u64 (a.first.union b.first).d)
      generalize (((((((x.setCell ⟨bk, 0, none⟩ (.bool b.null)).setCell ⟨bk, 1, none⟩ (.int .i64 le)).setCell ⟨bk, 2, none⟩ (.int .i64 mo)).setCell ⟨bk, 3, none⟩ (.int .u64 (a.first.union b.first).a)).setCell ⟨bk, 4, none⟩ (.int .u64 (a.first.union b.first).b)).setCell ⟨bk, 5, none⟩ (.int .u64 (a.first.union b.first).c)).setCell ⟨bk, 6, none⟩ (.int .u64 (a.first.union b.first).d)) = y at s1 s2 s3 ⊢
      have p1 := s1.c7f
      have p2 := s2.c7f
      have z1 := s1.lt
      have z2 := s2.lt
      have HS1 := hid s1
      have HS2 := hid s2
      have HS3 := hid s3
      clear s1 s2 s3 q1 qb q2
      go_wp2_with fail
      refine ret_row 4 66 rfl (w.heap.size + 2) rfl (a.alt b).cells (CellsAt.of_row (T := 66) ?_) _ Try.underlying66 rfl (size_facts _ _ _ _ _ _ _) rfl ⟨rfl, ?_⟩
      · rw [show (a.alt b).cells = [.bool b.null, .int .i64 le, .int .i64 (-1), .int .u64 (a.first.union b.first).a, .int .u64 (a.first.union b.first).b, .int .u64 (a.first.union b.first).c, .int .u64 (a.first.union b.first).d] by rw [HLE.out]; simp at hd'; simp [Facts.alt, Facts.cells, HN.out, hd']]
        exact (HS2.out.other HBK.out.1 _ _).set7 _ _ _ _ _ _ _
      · exact below7 (HS3.out.setCell (by exact HBK.out.2) _) (by omega) _ _ _ _ _ _ _
    · go_wp2_with fail
      refine ret_row 4 66 rfl (w.heap.size + 2) rfl (a.alt b).cells (CellsAt.of_row (T := 66) ?_) _ Try.underlying66 rfl (size_facts _ _ _ _ _ _ _) rfl ⟨rfl, ?_⟩
      · rw [show (a.alt b).cells = [.bool b.null, .int .i64 le, .int .i64 mo, .int .u64 (a.first.union b.first).a, .int .u64 (a.first.union b.first).b, .int .u64 (a.first.union b.first).c, .int .u64 (a.first.union b.first).d] by rw [HLE.out, HMO.out]; simp at hd hd'; simp [Facts.alt, Facts.cells, HN.out]; omega]
        exact (HR2.out.other7 HBK.out.1 _ _ _ _ _ _ _).set7 _ _ _ _ _ _ _
      · exact below7 (below7 HBX.out HBK.out.2 _ _ _ _ _ _ _) (by omega) _ _ _ _ _ _ _
end Go.Proofs.Ytibfnmkeghkdpaa
