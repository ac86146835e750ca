/- The law RetreeBounds: its walk answers true. -/
import Derived.Test.YtibfnmkeghkdpaaKnownRef
import Derived.Test.YtibfnmkeghkdpaaLawCC
namespace Go.Proofs.Ytibfnmkeghkdpaa
open Go.RowKit
attribute [local go_sem] gives givesUpon

-- def BN := [.int .i64 p.op, .int .u64 p.set.a, .int .u64 p.set.b, .int .u64 p.set.c, .int .u64 p.set.d, .int .i64 p.lo, .int .i64 p.hi, .int .i64 p.gr, .slice ad n cap]
-- def FC := [.int .u64 F.first.a, .int .u64 F.first.b, .int .u64 F.first.c, .int .u64 F.first.d]
/-- What the walk knows of its tree. -/
structure Bd (w : World) (t : Re) (ca : List Value) (y : World) : Prop where
  bw : Below w.heap.size w y
  ra : Row y w.heap.size ca 28
  ia : t.In y ca
theorem Bd.later {w : World} {t : Re} {ca : List Value} {y z : World} (h : Bd w t ca y) (hb : Below y.heap.size y z) : Bd w t ca z :=
  ⟨h.bw.trans (hb.mono h.bw.size), h.ra.below hb h.ra.lt, h.ia.below hb⟩

set_option maxRecDepth 100000 in
set_option maxHeartbeats 8000000 in
theorem LawBounds_any (t : Re) (w : World) (cs : List Value) (hIn : t.In w cs) (hsz : t.size ≤ 1048576) :
    Calls Try.prog 5 #[.agg cs.toArray] w fun e w' => e = .returned (.bool true) ∧ Below w.heap.size w w' := by
  have hL1 := fun (x : World) (cs' : List Value) (h : t.In x cs') => Length_any t x cs' h hsz
  have hL2 := fun (x : World) (cs' : List Value) (h : t.In x cs') => LengthRef_any t x cs' h hsz
  have hF1 := fun (x : World) (cs' : List Value) (h : t.In x cs') => First_any t x cs' h hsz
  have hF2 := fun (x : World) (cs' : List Value) (h : t.In x cs') => FirstRef_any t x cs' h hsz
  have hN1 := fun (x : World) (cs' : List Value) (h : t.In x cs') => Nullable_any t x cs' h hsz
  have hN2 := fun (x : World) (cs' : List Value) (h : t.In x cs') => NullableRef_any t x cs' h hsz
  have hIn0 := hIn
  obtain ⟨p, ad, n, cap, rfl⟩ := Re.cells_shape hIn
  generalize t.facts = F at *
  simp only [Cs.cells] at hF1 hF2
  have heq := eq_self F.first
  have hal := (Below.refl w.heap.size w).alloc (Nat.le_refl _) (.cells #[.int .i64 p.op, .int .u64 p.set.a, .int .u64 p.set.b, .int .u64 p.set.c, .int .u64 p.set.d, .int .i64 p.lo, .int .i64 p.hi, .int .i64 p.gr, .slice ad n cap] 28)
  have B0 : Hid (Bd w t [.int .i64 p.op, .int .u64 p.set.a, .int .u64 p.set.b, .int .u64 p.set.c, .int .u64 p.set.d, .int .i64 p.lo, .int .i64 p.hi, .int .i64 p.gr, .slice ad n cap] (w.alloc (.cells #[.int .i64 p.op, .int .u64 p.set.a, .int .u64 p.set.b, .int .u64 p.set.c, .int .u64 p.set.d, .int .i64 p.lo, .int .i64 p.hi, .int .i64 p.gr, .slice ad n cap] 28))) := ⟨hal, Row.new (cs := [.int .i64 p.op, .int .u64 p.set.a, .int .u64 p.set.b, .int .u64 p.set.c, .int .u64 p.set.d, .int .i64 p.lo, .int .i64 p.hi, .int .i64 p.gr, .slice ad n cap]) rfl, hIn.below hal⟩
  have HL1 := hid hL1
  have HL2 := hid hL2
  have HF1 := hid hF1
  have HF2 := hid hF2
  have HN1 := hid hN1
  have HN2 := hid hN2
  clear hIn0 hIn hsz hL1 hL2 hF1 hF2 hN1 hN2 hal
  go_enter Try.func5, Try.ntmps5
  go_wp2_with fail
  refine (HL1.out _ _ B0.out.ia).mono ?_
  rintro e v1 ⟨rfl, hbv⟩
  have B1 := hid (B0.out.later hbv)
  have q1 := B1.out.ra.c9
  have z1 := B1.out.ra.lt
  clear hbv
  go_wp2_with fail
  refine (HL2.out _ _ B1.out.ia).mono ?_
  rintro e v2 ⟨rfl, hbv⟩
  have B2 := hid (B1.out.later hbv)
  clear hbv q1 z1
  have q2 := B2.out.ra.c9
  have z2 := B2.out.ra.lt
  go_wp2_with fail
  refine (HF1.out _ _ B2.out.ia).mono ?_
  rintro e v3 ⟨rfl, hbv⟩
  have B3 := hid (B2.out.later hbv)
  clear hbv q2 z2
  have q3 := B3.out.ra.c9
  have z3 := B3.out.ra.lt
  go_wp2_with fail
  have hal := (Below.refl v3.heap.size v3).alloc (Nat.le_refl _) (.cells #[.int .u64 F.first.a, .int .u64 F.first.b, .int .u64 F.first.c, .int .u64 F.first.d] 25)
  have B4 := hid (B3.out.later hal)
  have R4 := hid (Row.new (w := v3) (B := v3.heap.size) (cs := [.int .u64 F.first.a, .int .u64 F.first.b, .int .u64 F.first.c, .int .u64 F.first.d]) (T := 25) rfl)
  clear hal
  refine (HF2.out _ _ B4.out.ia).mono ?_
  rintro e v5 ⟨rfl, hbv⟩
  have B5 := hid (B4.out.later hbv)
  have R5 := hid (R4.out.below hbv R4.out.lt)
  clear hbv q3 z3
  have q5 := B5.out.ra.c9
  have z5 := B5.out.ra.lt
  have s5 := R5.out.c4
  have y5 := R5.out.lt
  generalize v3.heap.size = S1 at *
  go_wp2_with fail
  have hal := (Below.refl v5.heap.size v5).alloc (Nat.le_refl _) (.cells #[.int .u64 F.first.a, .int .u64 F.first.b, .int .u64 F.first.c, .int .u64 F.first.d] 25)
  have B6 := hid (B5.out.later hal)
  have R6 := hid (R5.out.below hal R5.out.lt)
  have R7 := hid (Row.new (w := v5) (B := v5.heap.size) (cs := [.int .u64 F.first.a, .int .u64 F.first.b, .int .u64 F.first.c, .int .u64 F.first.d]) (T := 25) rfl)
  clear hal q5 z5 s5 y5
  generalize v5.heap.size = S2 at *
  generalize v5.alloc (.cells #[.int .u64 F.first.a, .int .u64 F.first.b, .int .u64 F.first.c, .int .u64 F.first.d] 25) = y at *
  have HC := hid (fun (x : World) (hx : Grow y.drew x) => And.intro ((B6.out.ra.drew.below hx B6.out.ra.drew.lt).c9) (And.intro ((R6.out.drew.below hx R6.out.drew.lt).c4) ((R7.out.drew.below hx R7.out.drew.lt).c4)))
  have BX := hid (fun (x : World) (hx : Grow y.drew x) => B6.out.later ((Below.refl _ y).drew.trans hx))
  refine wp_region_inv 29 (Grow) (by kernel_rfl) (by kernel_rfl) (Grow.refl) (fun _ _ _ => Grow.trans) ?_
  simp only [fill, dstOf, Act.put, List.take_succ_cons, List.take_zero, List.getElem?_toArray, List.getElem?_cons_zero, List.getElem?_cons_succ, Option.bind_some, List.setIfInBounds_toArray, List.set_cons_zero, List.set_cons_succ]
  refine Plan.det 1 rfl (Grow.refl) ?_
  apply Exists.intro
  refine ⟨fun vs x hR hF K hK => ?_, ?_⟩
  · clear hF
    go_simp
    exact hK _ _ (Grow.refl _) rfl
  refine Plan.det 2 rfl (Grow.refl) ?_
  apply Exists.intro
  refine ⟨fun vs x hR hF K hK => ?_, ?_⟩
  · clear hF
    go_simp
    exact hK _ _ (Grow.refl _) rfl
  refine Plan.det 3 rfl (Grow.refl) ?_
  apply Exists.intro
  refine ⟨fun vs x hR hF K hK => ?_, ?_⟩
  · have f0 := hF 1 _ _ rfl rfl; have f1 := hF 0 _ _ rfl rfl; clear hF
    go_simp
    exact hK _ _ (Grow.refl _) rfl
  refine Plan.det 4 rfl (Grow.refl) ?_
  apply Exists.intro
  refine ⟨fun vs x hR hF K hK => ?_, ?_⟩
  · have f2 := hF 0 _ _ rfl rfl; clear hF
    go_simp
    exact hK _ _ (Grow.refl _) rfl
  refine Plan.det 5 rfl (Grow.refl) ?_
  apply Exists.intro
  refine ⟨fun vs x hR hF K hK => ?_, ?_⟩
  · have f3 := hF 0 _ _ rfl rfl; clear hF
    go_simp
    exact hK _ _ (Grow.refl _) rfl
  refine Plan.det 6 rfl (Grow.refl) ?_
  apply Exists.intro
  refine ⟨fun vs x hR hF K hK => ?_, ?_⟩
  · have f3 := hF 1 _ _ rfl rfl; clear hF
    go_simp
    exact hK _ _ (Grow.refl _) rfl
  refine Plan.det 7 rfl (Grow.refl) ?_
  apply Exists.intro
  refine ⟨fun vs x hR hF K hK => ?_, ?_⟩
  · have f3 := hF 2 _ _ rfl rfl; have f4 := hF 1 _ _ rfl rfl; have f5 := hF 0 _ _ rfl rfl; clear hF
    go_simp
    exact hK _ _ (Grow.refl _) rfl
  refine Plan.det 8 rfl (Grow.refl) ?_
  apply Exists.intro
  refine ⟨fun vs x hR hF K hK => ?_, ?_⟩
  · have f3 := hF 3 _ _ rfl rfl; have f6 := hF 0 _ _ rfl rfl; clear hF
    go_simp
    exact hK _ _ (Grow.refl _) rfl
  refine Plan.det 9 rfl (Grow.refl) ?_
  apply Exists.intro
  refine ⟨fun vs x hR hF K hK => ?_, ?_⟩
  · have f3 := hF 4 _ _ rfl rfl; have f7 := hF 0 _ _ rfl rfl; clear hF
    go_simp
    exact hK _ _ (Grow.refl _) rfl
  refine Plan.det 10 rfl (Grow.refl) ?_
  apply Exists.intro
  refine ⟨fun vs x hR hF K hK => ?_, ?_⟩
  · have f8 := hF 0 _ _ rfl rfl; have hc := HC.out x hR; clear hF
    go_simp
    exact hK _ _ (Grow.refl _) rfl
  refine Plan.det 11 rfl (Grow.refl) ?_
  apply Exists.intro
  refine ⟨fun vs x hR hF K hK => ?_, ?_⟩
  · have f8 := hF 1 _ _ rfl rfl; have hc := HC.out x hR; clear hF
    go_simp
    exact hK _ _ (Grow.refl _) rfl
  refine Plan.det 12 rfl (Grow.refl) ?_
  apply Exists.intro
  refine ⟨fun vs x hR hF K hK => ?_, ?_⟩
  · have f8 := hF 2 _ _ rfl rfl; have f9 := hF 1 _ _ rfl rfl; have f10 := hF 0 _ _ rfl rfl; clear hF
    go_simp
    exact hK _ _ (Grow.refl _) rfl
  refine Plan.det 13 rfl (Grow.refl) ?_
  apply Exists.intro
  refine ⟨fun vs x hR hF K hK => ?_, ?_⟩
  · have f8 := hF 3 _ _ rfl rfl; have f11 := hF 0 _ _ rfl rfl; clear hF
    go_simp
    exact hK _ _ (Grow.refl _) rfl
  refine Plan.det 14 rfl (Grow.refl) ?_
  apply Exists.intro
  refine ⟨fun vs x hR hF K hK => ?_, ?_⟩
  · have f8 := hF 4 _ _ rfl rfl; have f12 := hF 0 _ _ rfl rfl; clear hF
    go_simp
    exact hK _ _ (Grow.refl _) rfl
  refine Plan.det 15 rfl (Grow.refl) ?_
  apply Exists.intro
  refine ⟨fun vs x hR hF K hK => ?_, ?_⟩
  · have f13 := hF 0 _ _ rfl rfl; clear hF
    go_simp
    exact hK _ _ (Grow.refl _) rfl
  refine Plan.det 16 rfl (Grow.refl) ?_
  apply Exists.intro
  refine ⟨fun vs x hR hF K hK => ?_, ?_⟩
  · have f13 := hF 1 _ _ rfl rfl; clear hF
    go_simp
    exact hK _ _ (Grow.refl _) rfl
  refine Plan.det 17 rfl (Grow.refl) ?_
  apply Exists.intro
  refine ⟨fun vs x hR hF K hK => ?_, ?_⟩
  · have f13 := hF 2 _ _ rfl rfl; have f14 := hF 1 _ _ rfl rfl; have f15 := hF 0 _ _ rfl rfl; clear hF
    go_simp
    exact hK _ _ (Grow.refl _) rfl
  refine Plan.det 18 rfl (Grow.refl) ?_
  apply Exists.intro
  refine ⟨fun vs x hR hF K hK => ?_, ?_⟩
  · have f13 := hF 3 _ _ rfl rfl; have f16 := hF 0 _ _ rfl rfl; clear hF
    go_simp
    exact hK _ _ (Grow.refl _) rfl
  refine Plan.det 19 rfl (Grow.refl) ?_
  apply Exists.intro
  refine ⟨fun vs x hR hF K hK => ?_, ?_⟩
  · have f13 := hF 4 _ _ rfl rfl; have f17 := hF 0 _ _ rfl rfl; clear hF
    go_simp
    exact hK _ _ (Grow.refl _) rfl
  refine Plan.det 20 rfl (Grow.refl) ?_
  apply Exists.intro
  refine ⟨fun vs x hR hF K hK => ?_, ?_⟩
  · have f18 := hF 0 _ _ rfl rfl; have hc := HC.out x hR; clear hF
    go_simp
    exact hK _ _ (Grow.refl _) rfl
  refine Plan.det 21 rfl (Grow.refl) ?_
  apply Exists.intro
  refine ⟨fun vs x hR hF K hK => ?_, ?_⟩
  · have f18 := hF 1 _ _ rfl rfl; have f19 := hF 0 _ _ rfl rfl; clear hF
    go_simp
    refine (HN1.out x _ (BX.out x hR).ia).mono ?_
    rintro e x1 ⟨rfl, hbe⟩
    exact ⟨_, rfl, hK _ _ hbe rfl⟩
  refine Plan.det 22 rfl (Grow.refl) ?_
  apply Exists.intro
  refine ⟨fun vs x hR hF K hK => ?_, ?_⟩
  · have f18 := hF 2 _ _ rfl rfl; have hc := HC.out x hR; clear hF
    go_simp
    exact hK _ _ (Grow.refl _) rfl
  refine Plan.det 23 rfl (Grow.refl) ?_
  apply Exists.intro
  refine ⟨fun vs x hR hF K hK => ?_, ?_⟩
  · have f18 := hF 3 _ _ rfl rfl; have f20 := hF 1 _ _ rfl rfl; have f21 := hF 0 _ _ rfl rfl; clear hF
    go_simp
    refine (HN2.out x _ (BX.out x hR).ia).mono ?_
    rintro e x1 ⟨rfl, hbe⟩
    exact ⟨_, rfl, hK _ _ hbe rfl⟩
  refine Plan.det 24 rfl (Grow.refl) ?_
  apply Exists.intro
  refine ⟨fun vs x hR hF K hK => ?_, ?_⟩
  · have f18 := hF 4 _ _ rfl rfl; have f20 := hF 2 _ _ rfl rfl; have f22 := hF 0 _ _ rfl rfl; clear hF
    go_simp
    exact hK _ _ (Grow.refl _) rfl
  refine Plan.det 25 rfl (Grow.refl) ?_
  apply Exists.intro
  refine ⟨fun vs x hR hF K hK => ?_, ?_⟩
  · have f18 := hF 5 _ _ rfl rfl; have f23 := hF 0 _ _ rfl rfl; clear hF
    go_simp
    exact hK _ _ (Grow.refl _) rfl
  refine Plan.det 26 rfl (Grow.refl) ?_
  apply Exists.intro
  refine ⟨fun vs x hR hF K hK => ?_, ?_⟩
  · have f22 := hF 2 _ _ rfl rfl; have f24 := hF 0 _ _ rfl rfl; clear hF
    go_simp
    exact hK _ _ (Grow.refl _) rfl
  refine Plan.det 27 rfl (Grow.refl) ?_
  apply Exists.intro
  refine ⟨fun vs x hR hF K hK => ?_, ?_⟩
  · have f25 := hF 0 _ _ rfl rfl; clear hF
    go_simp
    refine (awake_any x).mono ?_
    rintro e x1 ⟨rfl, hbe⟩
    exact ⟨_, rfl, hK _ _ hbe rfl⟩
  refine Plan.det 28 rfl (Grow.refl) ?_
  apply Exists.intro
  refine ⟨fun vs x hR hF K hK => ?_, ?_⟩
  · have f25 := hF 1 _ _ rfl rfl; have f26 := hF 0 _ _ rfl rfl; clear hF
    go_simp
    exact hK _ _ (Grow.refl _) rfl
  refine Plan.det 29 rfl (Grow.refl) ?_
  apply Exists.intro
  refine ⟨fun vs x hR hF K hK => ?_, ?_⟩
  · have f0 := hF 27 _ _ rfl rfl; have f1 := hF 26 _ _ rfl rfl; have f2 := hF 25 _ _ rfl rfl; have f3 := hF 24 _ _ rfl rfl; have f4 := hF 23 _ _ rfl rfl; have f5 := hF 22 _ _ rfl rfl; have f6 := hF 21 _ _ rfl rfl; have f7 := hF 20 _ _ rfl rfl; have f8 := hF 19 _ _ rfl rfl; have f9 := hF 18 _ _ rfl rfl; have f10 := hF 17 _ _ rfl rfl; have f11 := hF 16 _ _ rfl rfl; have f12 := hF 15 _ _ rfl rfl; have f13 := hF 14 _ _ rfl rfl; have f14 := hF 13 _ _ rfl rfl; have f15 := hF 12 _ _ rfl rfl; have f16 := hF 11 _ _ rfl rfl; have f17 := hF 10 _ _ rfl rfl; have f18 := hF 9 _ _ rfl rfl; have f19 := hF 8 _ _ rfl rfl; have f20 := hF 7 _ _ rfl rfl; have f21 := hF 6 _ _ rfl rfl; have f22 := hF 5 _ _ rfl rfl; have f23 := hF 4 _ _ rfl rfl; have f24 := hF 3 _ _ rfl rfl; have f25 := hF 2 _ _ rfl rfl; have f26 := hF 1 _ _ rfl rfl; have f27 := hF 0 _ _ rfl rfl; clear hF
    go_simp
    exact hK _ _ (Grow.refl _) rfl
  refine Plan.nil (fun vs x hR hF => ?_)
  have f0 := hF 28 _ _ rfl; have f1 := hF 27 _ _ rfl; have f2 := hF 26 _ _ rfl; have f3 := hF 25 _ _ rfl; have f4 := hF 24 _ _ rfl; have f5 := hF 23 _ _ rfl; have f6 := hF 22 _ _ rfl; have f7 := hF 21 _ _ rfl; have f8 := hF 20 _ _ rfl; have f9 := hF 19 _ _ rfl; have f10 := hF 18 _ _ rfl; have f11 := hF 17 _ _ rfl; have f12 := hF 16 _ _ rfl; have f13 := hF 15 _ _ rfl; have f14 := hF 14 _ _ rfl; have f15 := hF 13 _ _ rfl; have f16 := hF 12 _ _ rfl; have f17 := hF 11 _ _ rfl; have f18 := hF 10 _ _ rfl; have f19 := hF 9 _ _ rfl; have f20 := hF 8 _ _ rfl; have f21 := hF 7 _ _ rfl; have f22 := hF 6 _ _ rfl; have f23 := hF 5 _ _ rfl; have f24 := hF 4 _ _ rfl; have f25 := hF 3 _ _ rfl; have f26 := hF 2 _ _ rfl; have f27 := hF 1 _ _ rfl; have f28 := hF 0 _ _ rfl
  clear hF
  simp only [f0, f1, f2, f3, f4, f5, f6, f7, f8, f9, f10, f11, f12, f13, f14, f15, f16, f17, f18, f19, f20, f21, f22, f23, f24, f25, f26, f27, f28]
  clear f0 f1 f2 f3 f4 f5 f6 f7 f8 f9 f10 f11 f12 f13 f14 f15 f16 f17 f18 f19 f20 f21 f22 f23 f24 f25 f26 f27 f28
  simp only [List.drop_succ_cons, List.drop_zero]
  have HBX := hid (BX.out x hR).bw
  clear hR HC BX
  go_wp2_with fail
  all_goals go_ret
  all_goals exact ⟨rfl, HBX.out⟩
end Go.Proofs.Ytibfnmkeghkdpaa
