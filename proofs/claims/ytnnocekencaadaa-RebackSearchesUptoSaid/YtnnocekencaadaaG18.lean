/- Reback's reference: try of a group. -/
import Derived.Test.YtnnocekencaadaaG17
import Derived.Test.YtnnocekencaadaaG13
namespace Go.Proofs.Ytnnocekencaadaa
open Go.RowKit
attribute [local go_sem] gives givesUpon
variable {C : RCtx}

-- def FN := (*texttools/texttoolsref14.search).try
-- def XR := [.int .i64 p.op, .int .u64 p.set.a, .int .u64 p.set.b, .int .u64 p.set.c, .int .u64 p.set.d, .int .i64 p.lo, .int .i64 p.hi, .int .i64 p.gr, .slice (some ⟨bb, o, none⟩) 1 tc]
-- def TR := (Tk 1 p (.slice (some ⟨bb, o, none⟩) 1 tc) (.int .i64 i) (.int .i64 k) cv av (.pointer q))
-- def W2 := (w.alloc (.cells #[.int .i64 p.op, .int .u64 p.set.a, .int .u64 p.set.b, .int .u64 p.set.c, .int .u64 p.set.d, .int .i64 p.lo, .int .i64 p.hi, .int .i64 p.gr, .slice (some ⟨bb, o, none⟩) 1 tc] 28))
set_option maxRecDepth 100000 in
set_option maxHeartbeats 8000000 in
theorem rtry_group (n : Nat) (HT : RTryC C n) (w : World) (b : Nat) (p : Pay) (x0 : Re) (ta : Option Addr) (tc i k : Nat) (cv av : Value) (sp : Spans) (K : Kont) (sa : Option Addr) (sc : Nat) (q : Option Addr) (ho : p.op = 6) (hr : Row w b (Tk 1 p (.slice ta 1 tc) (.int .i64 i) (.int .i64 k) cv av (.pointer q)) 90)
    (hin : (Re.mk p [x0]).In C.w0 (p.cells (.slice ta 1 tc))) (hok : (Re.mk p [x0]).ok C.N) (hik : i ≤ k) (hks : k ≤ C.s.size) (h : RPre C n (C.B - n) sp K (.slice sa sp.length sc) (.pointer q) w) :
    Calls Try.prog 67 #[.pointer (some ⟨C.X, 0, none⟩), .pointer (some ⟨b, 0, none⟩), .slice sa sp.length sc] w (RGood C (Ev C.str C.lines (.try (.mk p [x0]) i k) sp K (n + 1)) w) := by
  rw [Re.In] at hin
  obtain ⟨ad, cp, e, hwf, hcl, hcm, -, hall⟩ := hin
  simp only [Pay.cells, List.cons.injEq, Value.slice.injEq] at e
  obtain ⟨-, -, -, -, -, -, -, -, ⟨rfl, -, rfl⟩, -⟩ := e
  obtain ⟨bb, o, p', ad, n', c', rfl, hxc, hx, hbw⟩ := hall.first (Below.refl _ _)
  rw [Re.ok, Re.oks] at hok
  have hgr := hok.2.2.2.1 (.inl ho)
  have hg1 : 1 ≤ p.gr.toNat ∧ p.gr.toNat ≤ C.N := by omega
  have HG1 := hid hg1
  have HX0 := hid hok.2.2.2.2.1
  have HX := hid hx
  have HXC := hid hxc
  have HP := hid h
  have HTT := hid HT
  have HO := hid ho
  have hB : Below w.heap.size w (w.alloc (.cells #[.int .i64 p.op, .int .u64 p.set.a, .int .u64 p.set.b, .int .u64 p.set.c, .int .u64 p.set.d, .int .i64 p.lo, .int .i64 p.hi, .int .i64 p.gr, .slice (some ⟨bb, o, none⟩) 1 tc] 28)) := (Below.refl w.heap.size w).alloc (Nat.le_refl _) _
  have HRW : Hid (Row (w.alloc (.cells #[.int .i64 p.op, .int .u64 p.set.a, .int .u64 p.set.b, .int .u64 p.set.c, .int .u64 p.set.d, .int .i64 p.lo, .int .i64 p.hi, .int .i64 p.gr, .slice (some ⟨bb, o, none⟩) 1 tc] 28)) b (Tk 1 p (.slice (some ⟨bb, o, none⟩) 1 tc) (.int .i64 i) (.int .i64 k) cv av (.pointer q)) 90 ∧ Row (w.alloc (.cells #[.int .i64 p.op, .int .u64 p.set.a, .int .u64 p.set.b, .int .u64 p.set.c, .int .u64 p.set.d, .int .i64 p.lo, .int .i64 p.hi, .int .i64 p.gr, .slice (some ⟨bb, o, none⟩) 1 tc] 28)) w.heap.size [.int .i64 p.op, .int .u64 p.set.a, .int .u64 p.set.b, .int .u64 p.set.c, .int .u64 p.set.d, .int .i64 p.lo, .int .i64 p.hi, .int .i64 p.gr, .slice (some ⟨bb, o, none⟩) 1 tc] 28) := ⟨hr.alloc _, Row.new rfl⟩
  have HP1 := hid (h.later hB)
  have HB := hid hB
  have p0w := hr.c15
  have p0 := HRW.out.1.c15
  have p1 := HRW.out.2.c9
  have e6 : (p.op == 6) = true := by rw [ho]; decide
  have HC := hid (fun (x : World) (hx : Grow (w.alloc (.cells #[.int .i64 p.op, .int .u64 p.set.a, .int .u64 p.set.b, .int .u64 p.set.c, .int .u64 p.set.d, .int .i64 p.lo, .int .i64 p.hi, .int .i64 p.gr, .slice (some ⟨bb, o, none⟩) 1 tc] 28)).drew x) => (⟨(HRW.out.1.grow hx).c15, (HRW.out.2.grow hx).c9⟩ : _ ∧ _))
  clear h HT hall hok ho hr hB hgr hg1 hx hxc
  go_enter Try.func67, Try.ntmps67
  go_wp2_with fail
  refine wp_region_inv 15 (Grow) (by kernel_rfl) (by kernel_rfl) (Grow.refl) (fun _ _ _ => Grow.trans) ?_
  simp only [fill, dstOf, Act.put, List.take_succ_cons, List.take_zero, List.getElem?_toArray, List.getElem?_cons_zero, List.getElem?_cons_succ, Option.bind_some, List.setIfInBounds_toArray, List.set_cons_zero, List.set_cons_succ]
  refine Plan.det 1 rfl (Grow.refl) ?_
  apply Exists.intro
  refine ⟨fun vs x hR hF K hK => ?_, ?_⟩
  · have hc := HC.out x hR; clear hF
    go_simp
    exact hK _ _ (Grow.refl _) rfl
  refine Plan.det 2 rfl (Grow.refl) ?_
  apply Exists.intro
  refine ⟨fun vs x hR hF K hK => ?_, ?_⟩
  · clear hF
    go_simp
    exact hK _ _ (Grow.refl _) rfl
  refine Plan.det 3 rfl (Grow.refl) ?_
  apply Exists.intro
  refine ⟨fun vs x hR hF K hK => ?_, ?_⟩
  · have f1 := hF 0 _ _ rfl rfl; clear hF
    go_simp
    exact hK _ _ (Grow.refl _) rfl
  refine Plan.det 4 rfl (Grow.refl) ?_
  apply Exists.intro
  refine ⟨fun vs x hR hF K hK => ?_, ?_⟩
  · have f2 := hF 0 _ _ rfl rfl; clear hF
    go_simp
    exact hK _ _ (Grow.refl _) rfl
  refine Plan.det 5 rfl (Grow.refl) ?_
  apply Exists.intro
  refine ⟨fun vs x hR hF K hK => ?_, ?_⟩
  · have f3 := hF 0 _ _ rfl rfl; have hc := HC.out x hR; clear hF
    go_simp
    exact hK _ _ (Grow.refl _) rfl
  refine Plan.det 6 rfl (Grow.refl) ?_
  apply Exists.intro
  refine ⟨fun vs x hR hF K hK => ?_, ?_⟩
  · clear hF
    go_simp
    exact hK _ _ (Grow.refl _) rfl
  refine Plan.det 7 rfl (Grow.refl) ?_
  apply Exists.intro
  refine ⟨fun vs x hR hF K hK => ?_, ?_⟩
  · have f5 := hF 0 _ _ rfl rfl; clear hF
    go_simp
    exact hK _ _ (Grow.refl _) rfl
  refine Plan.det 8 rfl (Grow.refl) ?_
  apply Exists.intro
  refine ⟨fun vs x hR hF K hK => ?_, ?_⟩
  · have f6 := hF 0 _ _ rfl rfl; clear hF
    go_simp
    exact hK _ _ (Grow.refl _) rfl
  refine Plan.det 9 rfl (Grow.refl) ?_
  apply Exists.intro
  refine ⟨fun vs x hR hF K hK => ?_, ?_⟩
  · have f7 := hF 0 _ _ rfl rfl; have hc := HC.out x hR; clear hF
    go_simp
    exact hK _ _ (Grow.refl _) rfl
  refine Plan.det 10 rfl (Grow.refl) ?_
  apply Exists.intro
  refine ⟨fun vs x hR hF K hK => ?_, ?_⟩
  · clear hF
    go_simp
    exact hK _ _ (Grow.refl _) rfl
  refine Plan.det 11 rfl (Grow.refl) ?_
  apply Exists.intro
  refine ⟨fun vs x hR hF K hK => ?_, ?_⟩
  · have f9 := hF 0 _ _ rfl rfl; clear hF
    go_simp
    exact hK _ _ (Grow.refl _) rfl
  refine Plan.det 12 rfl (Grow.refl) ?_
  apply Exists.intro
  refine ⟨fun vs x hR hF K hK => ?_, ?_⟩
  · have f10 := hF 0 _ _ rfl rfl; clear hF
    go_simp
    exact hK _ _ (Grow.refl _) rfl
  refine Plan.det 13 rfl (Grow.refl) ?_
  apply Exists.intro
  refine ⟨fun vs x hR hF K hK => ?_, ?_⟩
  · have f11 := hF 0 _ _ rfl rfl; have hc := HC.out x hR; clear hF
    go_simp
    exact hK _ _ (Grow.refl _) rfl
  refine Plan.det 14 rfl (Grow.refl) ?_
  apply Exists.intro
  refine ⟨fun vs x hR hF K hK => ?_, ?_⟩
  · have f0 := hF 12 _ _ rfl rfl; have f4 := hF 8 _ _ rfl rfl; have f8 := hF 4 _ _ rfl rfl; have f12 := hF 0 _ _ rfl rfl; clear hF
    go_simp
    exact hK _ _ (Grow.refl _) rfl
  refine Plan.rel 15 rfl (Grow.refl) (fun v x => ∃ b, v = .pointer (some ⟨b, 0, none⟩) ∧ w.heap.size ≤ b ∧ Row x b (Tk 4 p (.slice (some ⟨bb, o, none⟩) 1 tc) (.int .i64 i) (.int .i64 k) (.int .i64 0) (.slice none 0 0) (.pointer q)) 90) (fun v x y hR ⟨b, h1, h2, h3⟩ => ⟨b, h1, h2, h3.below hR h3.lt⟩) (fun vs x hR hF K hK => ?_) ?_
  · have f13 := hF 0 _ _ rfl rfl
    go_simp
    exact hK _ _ (Grow.alloc _ _) ⟨_, rfl, (by have := Grow.size hR; simp at this; omega), Row.at _ _ _⟩
  refine Plan.nil (fun vs x hR hF => ?_)
  have f0 := hF 14 _ _ rfl; have f1 := hF 13 _ _ rfl; have f2 := hF 12 _ _ rfl; have f3 := hF 11 _ _ rfl; have f4 := hF 10 _ _ rfl; have f5 := hF 9 _ _ rfl; have f6 := hF 8 _ _ rfl; have f7 := hF 7 _ _ rfl; have f8 := hF 6 _ _ rfl; have f9 := hF 5 _ _ rfl; have f10 := hF 4 _ _ rfl; have f11 := hF 3 _ _ rfl; have f12 := hF 2 _ _ rfl; have f13 := hF 1 _ _ rfl; have f14 := hF 0 _ _ rfl
  clear hF
  simp only [f0, f1, f2, f3, f4, f5, f6, f7, f8, f9, f10, f11, f12, f13]
  clear f0 f1 f2 f3 f4 f5 f6 f7 f8 f9 f10 f11 f12 f13
  simp only [List.drop_succ_cons, List.drop_zero]
  obtain ⟨ab, ha1, ha2, ha3⟩ := f14
  generalize vs 14 = v14 at *
  subst ha1
  have HBX := hid (grow_below hR)
  have HA := hid ha3
  clear HC hR p0 p1 p0w ha3
  obtain ⟨z, hz⟩ : ∃ z : World, z = x := ⟨x, rfl⟩
  subst hz
  have HRZ := hid (And.intro (HRW.out.1.below HBX.out HRW.out.1.lt) (HRW.out.2.below HBX.out HRW.out.2.lt))
  have HPZ := hid (HP1.out.later HBX.out)
  have HC := hid (fun (x : World) (hx : Grow z.drew x) => (⟨(HRZ.out.1.grow hx).c15, (HRZ.out.2.grow hx).c9⟩ : _ ∧ _))
  have HX1 := hid (fun (x : World) (hx : Grow z.drew x) => HXC.out.below (HPZ.out.st.below.trans ((grow_below hx).mono HPZ.out.st.below.size)))
  have p0 := HRZ.out.1.c15
  have p1 := HRZ.out.2.c9
  go_wp2_with fail
  refine wp_region_two 17 22 rfl (Grow) (by kernel_rfl) (by kernel_rfl) (Grow.refl) (fun _ _ _ => Grow.trans) ?_
  simp only [fill, dstOf, Act.put, List.take_succ_cons, List.take_zero, List.getElem?_toArray, List.getElem?_cons_zero, List.getElem?_cons_succ, Option.bind_some, List.setIfInBounds_toArray, List.set_cons_zero, List.set_cons_succ]
  refine Plan.det 1 rfl (Grow.refl) ?_
  apply Exists.intro
  refine ⟨fun vs x hR hF K hK => ?_, ?_⟩
  · clear hF
    go_simp
    exact hK _ _ (Grow.refl _) rfl
  refine Plan.det 2 rfl (Grow.refl) ?_
  apply Exists.intro
  refine ⟨fun vs x hR hF K hK => ?_, ?_⟩
  · clear hF
    go_simp
    exact hK _ _ (Grow.refl _) rfl
  refine Plan.det 3 rfl (Grow.refl) ?_
  apply Exists.intro
  refine ⟨fun vs x hR hF K hK => ?_, ?_⟩
  · have f1 := hF 0 _ _ rfl rfl; have hc := HC.out x hR; clear hF
    go_simp
    exact hK _ _ (Grow.refl _) rfl
  refine Plan.det 4 rfl (Grow.refl) ?_
  apply Exists.intro
  refine ⟨fun vs x hR hF K hK => ?_, ?_⟩
  · have f2 := hF 0 _ _ rfl rfl; clear hF
    go_simp
    exact hK _ _ (Grow.refl _) rfl
  refine Plan.det 5 rfl (Grow.refl) ?_
  apply Exists.intro
  refine ⟨fun vs x hR hF K hK => ?_, ?_⟩
  · have f3 := hF 0 _ _ rfl rfl; have hc := HC.out x hR; clear hF
    rw [if_pos (show Region.wanted _ _ = true from rfl)]
    refine gives_load_agg 28 _ rfl bb o f3 _ _ (HX1.out _ hR) Try.underlying28 rfl (size_re9 _ _ _ _ _ _ _ _ _) ?_
    exact hK _ _ (Grow.refl _) rfl
  refine Plan.det 6 rfl (Grow.refl) ?_
  apply Exists.intro
  refine ⟨fun vs x hR hF K hK => ?_, ?_⟩
  · clear hF
    go_simp
    exact hK _ _ (Grow.refl _) rfl
  refine Plan.det 7 rfl (Grow.refl) ?_
  apply Exists.intro
  refine ⟨fun vs x hR hF K hK => ?_, ?_⟩
  · have f5 := hF 0 _ _ rfl rfl; clear hF
    go_simp
    exact hK _ _ (Grow.refl _) rfl
  refine Plan.det 8 rfl (Grow.refl) ?_
  apply Exists.intro
  refine ⟨fun vs x hR hF K hK => ?_, ?_⟩
  · have f6 := hF 0 _ _ rfl rfl; clear hF
    go_simp
    exact hK _ _ (Grow.refl _) rfl
  refine Plan.det 9 rfl (Grow.refl) ?_
  apply Exists.intro
  refine ⟨fun vs x hR hF K hK => ?_, ?_⟩
  · have f7 := hF 0 _ _ rfl rfl; have hc := HC.out x hR; clear hF
    go_simp
    exact hK _ _ (Grow.refl _) rfl
  refine Plan.det 10 rfl (Grow.refl) ?_
  apply Exists.intro
  refine ⟨fun vs x hR hF K hK => ?_, ?_⟩
  · clear hF
    go_simp
    exact hK _ _ (Grow.refl _) rfl
  refine Plan.det 11 rfl (Grow.refl) ?_
  apply Exists.intro
  refine ⟨fun vs x hR hF K hK => ?_, ?_⟩
  · have f9 := hF 0 _ _ rfl rfl; clear hF
    go_simp
    exact hK _ _ (Grow.refl _) rfl
  refine Plan.det 12 rfl (Grow.refl) ?_
  apply Exists.intro
  refine ⟨fun vs x hR hF K hK => ?_, ?_⟩
  · have f10 := hF 0 _ _ rfl rfl; clear hF
    go_simp
    exact hK _ _ (Grow.refl _) rfl
  refine Plan.det 13 rfl (Grow.refl) ?_
  apply Exists.intro
  refine ⟨fun vs x hR hF K hK => ?_, ?_⟩
  · have f11 := hF 0 _ _ rfl rfl; have hc := HC.out x hR; clear hF
    go_simp
    exact hK _ _ (Grow.refl _) rfl
  refine Plan.det 14 rfl (Grow.refl) ?_
  apply Exists.intro
  refine ⟨fun vs x hR hF K hK => ?_, ?_⟩
  · clear hF
    go_simp
    exact hK _ _ (Grow.refl _) rfl
  refine Plan.det 15 rfl (Grow.refl) ?_
  apply Exists.intro
  refine ⟨fun vs x hR hF K hK => ?_, ?_⟩
  · have f4 := hF 9 _ _ rfl rfl; have f8 := hF 5 _ _ rfl rfl; have f12 := hF 1 _ _ rfl rfl; have f13 := hF 0 _ _ rfl rfl; clear hF
    go_simp
    exact hK _ _ (Grow.refl _) rfl
  refine Plan.rel 16 rfl (Grow.refl) (fun v x => ∃ b, v = .pointer (some ⟨b, 0, none⟩) ∧ z.heap.size ≤ b ∧ Row x b (Tk 1 p' (.slice ad n' c') (.int .i64 i) (.int .i64 k) (.int .i64 0) (.slice none 0 0) (.pointer (some ⟨ab, 0, none⟩))) 90) (fun v x y hR ⟨b, h1, h2, h3⟩ => ⟨b, h1, h2, h3.below hR h3.lt⟩) (fun vs x hR hF K hK => ?_) ?_
  · have f14 := hF 0 _ _ rfl rfl
    go_simp
    exact hK _ _ (Grow.alloc _ _) ⟨_, rfl, (by have := Grow.size hR; simp at this; omega), Row.at _ _ _⟩
  refine Plan.det 17 rfl (Grow.refl) ?_
  apply Exists.intro
  refine ⟨fun vs x hR hF K hK => ?_, ?_⟩
  · clear hF
    go_simp
    exact hK _ _ (Grow.refl _) rfl
  refine PlanEnd (by simp) (fun vs x hR hF => ?_)
  have f0 := hF 16 _ _ rfl; have f1 := hF 15 _ _ rfl; have f2 := hF 14 _ _ rfl; have f3 := hF 13 _ _ rfl; have f4 := hF 12 _ _ rfl; have f5 := hF 11 _ _ rfl; have f6 := hF 10 _ _ rfl; have f7 := hF 9 _ _ rfl; have f8 := hF 8 _ _ rfl; have f9 := hF 7 _ _ rfl; have f10 := hF 6 _ _ rfl; have f11 := hF 5 _ _ rfl; have f12 := hF 4 _ _ rfl; have f13 := hF 3 _ _ rfl; have f14 := hF 2 _ _ rfl; have f15 := hF 1 _ _ rfl; have f16 := hF 0 _ _ rfl
  clear hF
  simp only [f0, f1, f2, f3, f4, f5, f6, f7, f8, f9, f10, f11, f12, f13, f14, f16]
  clear f0 f1 f2 f3 f4 f5 f6 f7 f8 f9 f10 f11 f12 f13 f14 f16
  intro oo hoo KQ hK
  obtain rfl := Option.some.inj hoo
  clear hoo
  obtain ⟨tb, ht1, ht2, ht3⟩ := f15
  generalize vs 15 = v15 at *
  subst ht1
  have HBY := hid (grow_below hR)
  have HT3 := hid ht3
  clear ht3 HX1 hR
  go_simp
  have HA1 := hid (HA.out.below HBY.out HA.out.lt)
  have HPY := hid (HPZ.out.later HBY.out)
  refine (RTryC.lit HTT.out _ tb x0 p' ad n' c' i k _ _ sp (.mark p.gr.toNat i k K) _ _ _ HT3.out HX.out HX0.out hik hks ⟨HPY.out.st, HPY.out.span, HPY.out.ok, .mark HA1.out (by have := HG1.out; omega) HPY.out.k, HG1.out.1, HG1.out.2, hik, hks, HP.out.kok.mono (Nat.le_succ _)⟩).mono ?_
  rintro e w' hg
  obtain ⟨a9, l9, c9, fo, rfl, HG⟩ := hg.on (But.of_below (HB.out.trans ((HBX.out.trans (HBY.out.mono HBX.out.size)).mono HB.out.size))) (fun o m he => Ev.tryGroup (s := C.str) (lines := C.lines) HO.out he)
  clear hg
  refine ⟨_, rfl, hK _ _ ?_⟩
  clear hK
  unfold AfterC
  simp only [fill, dstOf, Act.put, List.getElem?_toArray, List.getElem?_cons_zero, List.getElem?_cons_succ, Option.bind_some, List.setIfInBounds_toArray, List.set_cons_zero, List.set_cons_succ, List.drop_succ_cons, List.drop_zero]
  refine Plan.det 19 rfl (fun _ => rfl) ?_
  apply Exists.intro
  refine ⟨fun vs x hR hF K hK => ?_, ?_⟩
  · have f17 := hF 0 _ _ rfl rfl; clear hF
    go_simp
    exact hK _ _ rfl rfl
  refine Plan.det 20 rfl (fun _ => rfl) ?_
  apply Exists.intro
  refine ⟨fun vs x hR hF K hK => ?_, ?_⟩
  · have f17 := hF 1 _ _ rfl rfl; clear hF
    go_simp
    exact hK _ _ rfl rfl
  refine Plan.det 21 rfl (fun _ => rfl) ?_
  apply Exists.intro
  refine ⟨fun vs x hR hF K hK => ?_, ?_⟩
  · have f17 := hF 2 _ _ rfl rfl; have f18 := hF 1 _ _ rfl rfl; have f19 := hF 0 _ _ rfl rfl; clear hF
    go_simp
    exact hK _ _ rfl rfl
  refine Plan.det 22 rfl (fun _ => rfl) ?_
  apply Exists.intro
  refine ⟨fun vs x hR hF K hK => ?_, ?_⟩
  · have f17 := hF 3 _ _ rfl rfl; have f18 := hF 2 _ _ rfl rfl; have f19 := hF 1 _ _ rfl rfl; have f20 := hF 0 _ _ rfl rfl; clear hF
    go_simp
    exact hK _ _ rfl rfl
  refine Plan.nil (fun vs x hR2 hF => ?_)
  have f17 := hF 4 _ _ rfl; have f18 := hF 3 _ _ rfl; have f19 := hF 2 _ _ rfl; have f20 := hF 1 _ _ rfl; have f21 := hF 0 _ _ rfl
  clear hF
  simp only [f17, f18, f19, f20, f21]
  clear f17 f18 f19 f20 f21
  subst hR2
  simp only [List.drop_succ_cons, List.drop_nil]
  clear HC p0 p1
  go_wp2_with fail
  go_ret2
  exact HG.out
end Go.Proofs.Ytnnocekencaadaa

/- Reback: alternatives. -/
namespace Go.Proofs.Ytnnocekencaadaa
open Go.RowKit
attribute [local go_sem] gives givesUpon
variable {C : Ctx}

-- def TK := [.int .i64 p.op, .int .u64 p.set.a, .int .u64 p.set.b, .int .u64 p.set.c, .int .u64 p.set.d, .int .i64 p.lo, .int .i64 p.hi, .int .i64 p.gr, .slice ta xs.length tc, .int .i64 i, .int .i64 k, .slice sa sp.length sc, .func (.func fid) #[] cap]
-- def W1 := (w.alloc (.cells #[.int .i64 p.op, .int .u64 p.set.a, .int .u64 p.set.b, .int .u64 p.set.c, .int .u64 p.set.d, .int .i64 p.lo, .int .i64 p.hi, .int .i64 p.gr, .slice ta xs.length tc, .int .i64 i, .int .i64 k, .slice sa sp.length sc, .func (.func fid) #[] cap] 74))
theorem Re.oks_get {N : Nat} : ∀ {xs : List Re}, Re.oks N xs → ∀ (d : Nat) (h : d < xs.length), xs[d].ok N
  | t :: ts, h, 0, hd => by rw [Re.oks] at h; exact h.1
  | t :: ts, h, d + 1, hd => by rw [Re.oks] at h; exact Re.oks_get h.2 d (by simpa using hd)
/-- What the loop over alternatives keeps: d of them have failed. -/
def AltL (C : Ctx) (w : World) (n : Nat) (xs : List Re) (i k : Nat) (sp : Spans) (K : Kont) (TKL : List Value) (sv nv : Value) (d : Nat) (wr : World) : Prop :=
  Row wr w.heap.size TKL 74 ∧ EndsL C w n (Ev C.str C.lines (.alt xs i k) sp K n) (fun n' d => Ev C.str C.lines (.alt (xs.drop d) i k) sp K n') sp K sv nv d false wr
set_option maxRecDepth 100000 in
set_option maxHeartbeats 8000000 in
theorem arm4 (n : Nat) (HT : ∀ m, m ≤ n → TryC C m) : ArmC C n 4 38 (fun t => #[.pointer (some ⟨C.M, 0, none⟩), t]) := by
  intro w p xs ta tc i k sp K sa sc fid cap h ho hin hok hik hks
  rw [Re.In] at hin
  obtain ⟨ad, cp, e, hwf, hcl, hcm, -, hall⟩ := hin
  simp only [Pay.cells, List.cons.injEq, Value.slice.injEq] at e
  obtain ⟨-, -, -, -, -, -, -, -, ⟨rfl, -, rfl⟩, -⟩ := e
  rw [Re.ok] at hok
  have HGO : Hid (∀ (e : Ending) (w' : World), Good C (Ev C.str C.lines (.alt xs i k) sp K n) w e w' → Good C (Ev C.str C.lines (.try (.mk p xs) i k) sp K (n + 1)) w e w') := fun e w' hg => hg.mono fun o m he => .tryAlt ho he
  have hml : xs.length ≤ maxLen := by omega
  unfold maxLen at hml
  have HP := hid h
  have HTT := hid HT
  have HAL := hid hall
  have HOK := hid hok.2.2.2.2
  have R0 : Row (w.alloc (.cells #[.int .i64 p.op, .int .u64 p.set.a, .int .u64 p.set.b, .int .u64 p.set.c, .int .u64 p.set.d, .int .i64 p.lo, .int .i64 p.hi, .int .i64 p.gr, .slice ta xs.length tc, .int .i64 i, .int .i64 k, .slice sa sp.length sc, .func (.func fid) #[] cap] 74)) w.heap.size [.int .i64 p.op, .int .u64 p.set.a, .int .u64 p.set.b, .int .u64 p.set.c, .int .u64 p.set.d, .int .i64 p.lo, .int .i64 p.hi, .int .i64 p.gr, .slice ta xs.length tc, .int .i64 i, .int .i64 k, .slice sa sp.length sc, .func (.func fid) #[] cap] 74 := Row.new rfl
  have HB := hid ((Below.refl w.heap.size w).alloc (Nat.le_refl _) (.cells #[.int .i64 p.op, .int .u64 p.set.a, .int .u64 p.set.b, .int .u64 p.set.c, .int .u64 p.set.d, .int .i64 p.lo, .int .i64 p.hi, .int .i64 p.gr, .slice ta xs.length tc, .int .i64 i, .int .i64 k, .slice sa sp.length sc, .func (.func fid) #[] cap] 74))
  have q0 := R0.c13
  have HR0 := hid R0
  clear h hok hall ho R0 HT
  go_enter Try.func38, Try.ntmps38
  go_wp2_with fail
  go_loopw [11] (fun v wr => ∃ d : Nat, v = .int .i64 d ∧ d ≤ xs.length ∧ Hid (AltL C w n xs i k sp K [.int .i64 p.op, .int .u64 p.set.a, .int .u64 p.set.b, .int .u64 p.set.c, .int .u64 p.set.d, .int .i64 p.lo, .int .i64 p.hi, .int .i64 p.gr, .slice ta xs.length tc, .int .i64 i, .int .i64 k, .slice sa sp.length sc, .func (.func fid) #[] cap] (.slice sa sp.length sc) (.func (.func fid) #[] cap) d wr)) (fun v wr => xs.length - (intOf v).toNat)
  case atStart =>
    exact ⟨0, rfl, Nat.zero_le _, HR0.out, But.of_below HB.out, fun _ => ⟨n, Nat.le_refl _, HP.out.later HB.out, fun o m he => he⟩, fun e => (by cases e)⟩
  case round =>
    obtain ⟨d, rfl, hd, HL⟩ := hrel
    obtain ⟨r0, hbut, hpr, -⟩ := HL.out
    obtain ⟨m', hm', hpre, hrest⟩ := hpr rfl
    have HPR := hid hpre
    have HRS := hid hrest
    have HBU := hid hbut
    have HRR := hid r0
    have p0 := r0.c13
    have hwl := r0.lt
    by_cases hlt : d < xs.length
    · obtain ⟨b, o, p', ad', n', cap', rfl, HC, HI0, hbb⟩ := HAL.out.kid hpre.st.below d hlt
      have qc := hpre.st.c
      clear hbut hpr hpre hrest r0 q0 HL
      have hltI : (d : Int) < xs.length := by omega
      go_wp2_with (first | (with_reducible (refine wpList_load_agg rfl 28 _ rfl b (o + (d * 9)) rfl _ _ HC.out Try.underlying28 rfl (size_re9 _ _ _ _ _ _ _ _ _) ?_)))
      have hal := (Below.refl wr.heap.size wr).alloc (Nat.le_refl _) (.cells #[.int .i64 p'.op, .int .u64 p'.set.a, .int .u64 p'.set.b, .int .u64 p'.set.c, .int .u64 p'.set.d, .int .i64 p'.lo, .int .i64 p'.hi, .int .i64 p'.gr, .slice ad' n' cap'] 28)
      have hdr : xs.drop d = xs[d] :: xs.drop (d + 1) := List.drop_eq_getElem_cons hlt
      have HDR := hid hdr
      refine (TryC.lit (HTT.out m' hm') _ xs[d] p' ad' n' cap' i k sp K _ _ HI0.out (Re.oks_get HOK.out d hlt) hik hks ((HPR.out.later hal).mono (Nat.le_succ _))).mono ?_
      rintro e w' ⟨o', m, h1, rfl, h3, h4, h5⟩
      have HE := hid h1
      have HST := hid h3
      have HFD := hid h5
      have HBW : Hid (But C.S wr w') := (But.of_below hal).trans h4
      have hr4 := HRR.out.but HBW.out (HPR.out.st.nS HRR.out (by decide) (by decide))
      have HR4 := hid hr4
      clear h1 h3 h4 h5 hal hdr qc p0
      have p1 := hr4.c13
      have hsz := hr4.lt
      clear hr4
      cases o' with
      | found l =>
        simp only [Out.isFound]
        go_wp2_with fail
        go_ret
        exact HGO.out _ _ ⟨.found l, m, HRS.out _ _ (by rw [HDR.out]; exact .altHit HE.out (by intro h; cases h)), rfl, HST.out, HBU.out.trans HBW.out, HFD.out⟩
      | fail =>
        simp only [Out.isFound]
        have qc := HST.out.c
        simp only [Out.isOver] at qc
        go_wp2_with fail
        refine ⟨⟨d + 1, by go_num, by omega, HR4.out, HBU.out.trans HBW.out, fun _ => ⟨m, ?_, ?_, fun o2 m2 he => ?_⟩, fun e => (by cases e)⟩, ?_⟩
        · have := (Ev.left C.str C.lines HE.out).1; omega
        · exact ⟨HST.out, HPR.out.span.but HBW.out, HPR.out.ok, HPR.out.k.but HPR.out.st HBW.out, HPR.out.kok.mono (by have := (Ev.left C.str C.lines HE.out).1; omega)⟩
        · exact HRS.out _ _ (by rw [HDR.out]; exact .altMiss HE.out he)
        · simp [intOf]; omega
      | over =>
        simp only [Out.isFound]
        have qc := HST.out.c
        simp only [Out.isOver] at qc
        go_wp2_with fail
        go_ret
        exact HGO.out _ _ ⟨.over, m, HRS.out _ _ (by rw [HDR.out]; exact .altHit HE.out (by intro h; cases h)), rfl, HST.out, HBU.out.trans HBW.out, HFD.out⟩
    · obtain rfl : d = xs.length := by omega
      clear hbut hpr hpre hrest r0 q0 HL
      go_wp2_with fail
      go_ret
      exact HGO.out _ _ ⟨.fail, m', HRS.out _ _ (by rw [List.drop_length]; exact .altNone), rfl, HPR.out.st, HBU.out, fun l hl => (by cases hl)⟩
end Go.Proofs.Ytnnocekencaadaa
