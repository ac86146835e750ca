/- Reback's reference: try, by the node's kind. -/
import Derived.Test.YtnnocekencaadaaG15
import Derived.Test.YtnnocekencaadaaG16
import Derived.Deep.QuietTactic
import Derived.BigQuiet
namespace Go.Proofs.Ytnnocekencaadaa
open Go.RowKit
attribute [local go_sem] gives givesUpon
variable {C : RCtx}

theorem Ev.catOf {s : List UInt8} {lines : Bool} {xs : List Re} {j k : Nat} {sp : Spans} {K : Kont} {n : Nat} {o : Out} {m : Nat} (h : Ev s lines .next sp (.cat xs j k K) n o m) : Ev s lines (.cat xs j k) sp K n o m := by
  cases h with
  | nextCat hn => exact hn
theorem Ev.repOf {s : List UInt8} {lines : Bool} {p : Pay} {x : Re} {c j k : Nat} {sp : Spans} {K : Kont} {n : Nat} {o : Out} {m : Nat} (h : Ev s lines .next sp (.rep p x c j k K) n o m) : Ev s lines (.rep p x c j k) sp K n o m := by
  cases h with
  | nextRep hn => exact hn

-- def FN := (*texttools/texttoolsref14.search).try
-- def XL := [.int .i64 p.op, .int .u64 p.set.a, .int .u64 p.set.b, .int .u64 p.set.c, .int .u64 p.set.d, .int .i64 p.lo, .int .i64 p.hi, .int .i64 p.gr, .slice ta xs.length tc]
-- def TK := (Tk 1 p (.slice ta xs.length tc) (.int .i64 i) (.int .i64 k) cv av (.pointer q))
-- def W1 := (w.alloc (.cells #[.int .i64 p.op, .int .u64 p.set.a, .int .u64 p.set.b, .int .u64 p.set.c, .int .u64 p.set.d, .int .i64 p.lo, .int .i64 p.hi, .int .i64 p.gr, .slice ta xs.length tc] 28))
set_option maxRecDepth 100000 in
set_option maxHeartbeats 8000000 in
theorem rtry_cat (n : Nat) (HN : ∀ K, RNextC C n K) (w : World) (b : Nat) (p : Pay) (xs : List Re) (ta : Option Addr) (tc i k : Nat) (cv av : Value) (sp : Spans) (K : Kont) (sa : Option Addr) (sc : Nat) (q : Option Addr) (ho : p.op = 3) (hr : Row w b (Tk 1 p (.slice ta xs.length tc) (.int .i64 i) (.int .i64 k) cv av (.pointer q)) 90)
    (hin : (Re.mk p xs).In C.w0 (p.cells (.slice ta xs.length tc))) (hok : (Re.mk p xs).ok C.N) (hik : i ≤ k) (hks : k ≤ C.s.size) (h : RPre C n (C.B - n) sp K (.slice sa sp.length sc) (.pointer q) w) :
    Calls Try.prog 67 #[.pointer (some ⟨C.X, 0, none⟩), .pointer (some ⟨b, 0, none⟩), .slice sa sp.length sc] w (RGood C (Ev C.str C.lines (.try (.mk p xs) i k) sp K (n + 1)) w) := by
  rw [Re.In] at hin
  obtain ⟨ad, cp, e, hwf, hcl, hcm, -, hall⟩ := hin
  simp only [Pay.cells, List.cons.injEq, Value.slice.injEq] at e
  obtain ⟨-, -, -, -, -, -, -, -, ⟨rfl, -, rfl⟩, -⟩ := e
  rw [Re.ok] at hok
  have HP := hid h
  have HNN := hid HN
  have HAL := hid hall
  have HNE := hid (hok.2.1 (.inl ho))
  have HOK := hid hok.2.2.2.2
  have HO := hid ho
  have hB : Below w.heap.size w (w.alloc (.cells #[.int .i64 p.op, .int .u64 p.set.a, .int .u64 p.set.b, .int .u64 p.set.c, .int .u64 p.set.d, .int .i64 p.lo, .int .i64 p.hi, .int .i64 p.gr, .slice ta xs.length tc] 28)) := (Below.refl w.heap.size w).alloc (Nat.le_refl _) _
  have HRW : Hid (Row (w.alloc (.cells #[.int .i64 p.op, .int .u64 p.set.a, .int .u64 p.set.b, .int .u64 p.set.c, .int .u64 p.set.d, .int .i64 p.lo, .int .i64 p.hi, .int .i64 p.gr, .slice ta xs.length tc] 28)) b (Tk 1 p (.slice ta xs.length tc) (.int .i64 i) (.int .i64 k) cv av (.pointer q)) 90 ∧ Row (w.alloc (.cells #[.int .i64 p.op, .int .u64 p.set.a, .int .u64 p.set.b, .int .u64 p.set.c, .int .u64 p.set.d, .int .i64 p.lo, .int .i64 p.hi, .int .i64 p.gr, .slice ta xs.length tc] 28)) w.heap.size [.int .i64 p.op, .int .u64 p.set.a, .int .u64 p.set.b, .int .u64 p.set.c, .int .u64 p.set.d, .int .i64 p.lo, .int .i64 p.hi, .int .i64 p.gr, .slice ta xs.length tc] 28) := ⟨hr.alloc _, Row.new rfl⟩
  have HP1 := hid (h.later hB)
  have HB := hid hB
  have p0w := hr.c15
  have p0 := HRW.out.1.c15
  have p1 := HRW.out.2.c9
  have e6 : (p.op == 6) = false := by rw [ho]; decide
  have e4 : (p.op == 4) = false := by rw [ho]; decide
  have e3 : (p.op == 3) = true := by rw [ho]; decide
  have HC := hid (fun (x : World) (hx : Grow (w.alloc (.cells #[.int .i64 p.op, .int .u64 p.set.a, .int .u64 p.set.b, .int .u64 p.set.c, .int .u64 p.set.d, .int .i64 p.lo, .int .i64 p.hi, .int .i64 p.gr, .slice ta xs.length tc] 28)).drew x) => (⟨(HRW.out.1.grow hx).c15, (HRW.out.2.grow hx).c9⟩ : _ ∧ _))
  clear h HN hall hok ho hr hB
  go_enter Try.func67, Try.ntmps67
  go_wp2_with fail
  refine wp_region_two 18 23 rfl (Grow) (by kernel_rfl) (by kernel_rfl) (Grow.refl) (fun _ _ _ => Grow.trans) ?_
  simp only [fill, dstOf, Act.put, List.take_succ_cons, List.take_zero, List.getElem?_toArray, List.getElem?_cons_zero, List.getElem?_cons_succ, Option.bind_some, List.setIfInBounds_toArray, List.set_cons_zero, List.set_cons_succ]
  refine Plan.det 1 rfl (Grow.refl) ?_
  apply Exists.intro
  refine ⟨fun vs x hR hF K hK => ?_, ?_⟩
  · clear hF
    go_simp
    exact hK _ _ (Grow.refl _) rfl
  refine Plan.det 2 rfl (Grow.refl) ?_
  apply Exists.intro
  refine ⟨fun vs x hR hF K hK => ?_, ?_⟩
  · clear hF
    go_simp
    exact hK _ _ (Grow.refl _) rfl
  refine Plan.det 3 rfl (Grow.refl) ?_
  apply Exists.intro
  refine ⟨fun vs x hR hF K hK => ?_, ?_⟩
  · have f1 := hF 0 _ _ rfl rfl; have hc := HC.out x hR; clear hF
    go_simp
    exact hK _ _ (Grow.refl _) rfl
  refine Plan.det 4 rfl (Grow.refl) ?_
  apply Exists.intro
  refine ⟨fun vs x hR hF K hK => ?_, ?_⟩
  · clear hF
    go_simp
    exact hK _ _ (Grow.refl _) rfl
  refine Plan.det 5 rfl (Grow.refl) ?_
  apply Exists.intro
  refine ⟨fun vs x hR hF K hK => ?_, ?_⟩
  · have f3 := hF 0 _ _ rfl rfl; clear hF
    go_simp
    exact hK _ _ (Grow.refl _) rfl
  refine Plan.det 6 rfl (Grow.refl) ?_
  apply Exists.intro
  refine ⟨fun vs x hR hF K hK => ?_, ?_⟩
  · have f4 := hF 0 _ _ rfl rfl; clear hF
    go_simp
    exact hK _ _ (Grow.refl _) rfl
  refine Plan.det 7 rfl (Grow.refl) ?_
  apply Exists.intro
  refine ⟨fun vs x hR hF K hK => ?_, ?_⟩
  · have f5 := hF 0 _ _ rfl rfl; have hc := HC.out x hR; clear hF
    go_simp
    exact hK _ _ (Grow.refl _) rfl
  refine Plan.det 8 rfl (Grow.refl) ?_
  apply Exists.intro
  refine ⟨fun vs x hR hF K hK => ?_, ?_⟩
  · clear hF
    go_simp
    exact hK _ _ (Grow.refl _) rfl
  refine Plan.det 9 rfl (Grow.refl) ?_
  apply Exists.intro
  refine ⟨fun vs x hR hF K hK => ?_, ?_⟩
  · have f7 := hF 0 _ _ rfl rfl; clear hF
    go_simp
    exact hK _ _ (Grow.refl _) rfl
  refine Plan.det 10 rfl (Grow.refl) ?_
  apply Exists.intro
  refine ⟨fun vs x hR hF K hK => ?_, ?_⟩
  · have f8 := hF 0 _ _ rfl rfl; clear hF
    go_simp
    exact hK _ _ (Grow.refl _) rfl
  refine Plan.det 11 rfl (Grow.refl) ?_
  apply Exists.intro
  refine ⟨fun vs x hR hF K hK => ?_, ?_⟩
  · have f9 := hF 0 _ _ rfl rfl; have hc := HC.out x hR; clear hF
    go_simp
    exact hK _ _ (Grow.refl _) rfl
  refine Plan.det 12 rfl (Grow.refl) ?_
  apply Exists.intro
  refine ⟨fun vs x hR hF K hK => ?_, ?_⟩
  · clear hF
    go_simp
    exact hK _ _ (Grow.refl _) rfl
  refine Plan.det 13 rfl (Grow.refl) ?_
  apply Exists.intro
  refine ⟨fun vs x hR hF K hK => ?_, ?_⟩
  · have f11 := hF 0 _ _ rfl rfl; clear hF
    go_simp
    exact hK _ _ (Grow.refl _) rfl
  refine Plan.det 14 rfl (Grow.refl) ?_
  apply Exists.intro
  refine ⟨fun vs x hR hF K hK => ?_, ?_⟩
  · have f12 := hF 0 _ _ rfl rfl; clear hF
    go_simp
    exact hK _ _ (Grow.refl _) rfl
  refine Plan.det 15 rfl (Grow.refl) ?_
  apply Exists.intro
  refine ⟨fun vs x hR hF K hK => ?_, ?_⟩
  · have f13 := hF 0 _ _ rfl rfl; have hc := HC.out x hR; clear hF
    go_simp
    exact hK _ _ (Grow.refl _) rfl
  refine Plan.det 16 rfl (Grow.refl) ?_
  apply Exists.intro
  refine ⟨fun vs x hR hF K hK => ?_, ?_⟩
  · have f2 := hF 12 _ _ rfl rfl; have f6 := hF 8 _ _ rfl rfl; have f10 := hF 4 _ _ rfl rfl; have f14 := hF 0 _ _ rfl rfl; clear hF
    go_simp
    exact hK _ _ (Grow.refl _) rfl
  refine Plan.rel 17 rfl (Grow.refl) (fun v x => ∃ b, v = .pointer (some ⟨b, 0, none⟩) ∧ w.heap.size ≤ b ∧ Row x b (Tk 2 Pay.zero (.slice none 0 0) (.int .i64 i) (.int .i64 k) (.int .i64 0) (.slice ta xs.length tc) (.pointer q)) 90) (fun v x y hR ⟨b, h1, h2, h3⟩ => ⟨b, h1, h2, h3.below hR h3.lt⟩) (fun vs x hR hF K hK => ?_) ?_
  · have f15 := hF 0 _ _ rfl rfl
    go_simp
    exact hK _ _ (Grow.alloc _ _) ⟨_, rfl, (by have := Grow.size hR; simp at this; omega), Row.at _ _ _⟩
  refine Plan.det 18 rfl (Grow.refl) ?_
  apply Exists.intro
  refine ⟨fun vs x hR hF K hK => ?_, ?_⟩
  · clear hF
    go_simp
    exact hK _ _ (Grow.refl _) rfl
  refine PlanEnd (by simp) (fun vs x hR hF => ?_)
  have f0 := hF 17 _ _ rfl; have f1 := hF 16 _ _ rfl; have f2 := hF 15 _ _ rfl; have f3 := hF 14 _ _ rfl; have f4 := hF 13 _ _ rfl; have f5 := hF 12 _ _ rfl; have f6 := hF 11 _ _ rfl; have f7 := hF 10 _ _ rfl; have f8 := hF 9 _ _ rfl; have f9 := hF 8 _ _ rfl; have f10 := hF 7 _ _ rfl; have f11 := hF 6 _ _ rfl; have f12 := hF 5 _ _ rfl; have f13 := hF 4 _ _ rfl; have f14 := hF 3 _ _ rfl; have f15 := hF 2 _ _ rfl; have f16 := hF 1 _ _ rfl; have f17 := hF 0 _ _ rfl
  clear hF
  simp only [f0, f1, f2, f3, f4, f5, f6, f7, f8, f9, f10, f11, f12, f13, f14, f15, f17]
  clear f0 f1 f2 f3 f4 f5 f6 f7 f8 f9 f10 f11 f12 f13 f14 f15 f17
  intro oo hoo KQ hK
  obtain rfl := Option.some.inj hoo
  clear hoo
  obtain ⟨tb, ht1, ht2, ht3⟩ := f16
  generalize vs 16 = v16 at *
  subst ht1
  have HBX := hid (grow_below hR)
  have HT3 := hid ht3
  clear ht3
  go_simp
  have HPX := hid (HP1.out.later HBX.out)
  refine (HNN.out (.cat xs i k K) _ sp _ _ _ ⟨HPX.out.st, HPX.out.span, HPX.out.ok, .cat HT3.out HAL.out ⟨hcl, hcm⟩ HPX.out.k, HNE.out, HOK.out, hik, hks, HP.out.kok⟩).mono ?_
  rintro e w' hg
  obtain ⟨a9, l9, c9, fo, rfl, HG⟩ := hg.on (But.of_below (HB.out.trans (HBX.out.mono HB.out.size))) (fun o m he => Ev.tryCat (s := C.str) (lines := C.lines) HO.out he.catOf)
  clear hg
  refine ⟨_, rfl, hK _ _ ?_⟩
  clear hK
  unfold AfterC
  simp only [fill, dstOf, Act.put, List.getElem?_toArray, List.getElem?_cons_zero, List.getElem?_cons_succ, Option.bind_some, List.setIfInBounds_toArray, List.set_cons_zero, List.set_cons_succ, List.drop_succ_cons, List.drop_zero]
  refine Plan.det 20 rfl (fun _ => rfl) ?_
  apply Exists.intro
  refine ⟨fun vs x hR hF K hK => ?_, ?_⟩
  · have f18 := hF 0 _ _ rfl rfl; clear hF
    go_simp
    exact hK _ _ rfl rfl
  refine Plan.det 21 rfl (fun _ => rfl) ?_
  apply Exists.intro
  refine ⟨fun vs x hR hF K hK => ?_, ?_⟩
  · have f18 := hF 1 _ _ rfl rfl; clear hF
    go_simp
    exact hK _ _ rfl rfl
  refine Plan.det 22 rfl (fun _ => rfl) ?_
  apply Exists.intro
  refine ⟨fun vs x hR hF K hK => ?_, ?_⟩
  · have f18 := hF 2 _ _ rfl rfl; have f19 := hF 1 _ _ rfl rfl; have f20 := hF 0 _ _ rfl rfl; clear hF
    go_simp
    exact hK _ _ rfl rfl
  refine Plan.det 23 rfl (fun _ => rfl) ?_
  apply Exists.intro
  refine ⟨fun vs x hR hF K hK => ?_, ?_⟩
  · have f18 := hF 3 _ _ rfl rfl; have f19 := hF 2 _ _ rfl rfl; have f20 := hF 1 _ _ rfl rfl; have f21 := hF 0 _ _ rfl rfl; clear hF
    go_simp
    exact hK _ _ rfl rfl
  refine Plan.nil (fun vs x hR2 hF => ?_)
  have f18 := hF 4 _ _ rfl; have f19 := hF 3 _ _ rfl; have f20 := hF 2 _ _ rfl; have f21 := hF 1 _ _ rfl; have f22 := hF 0 _ _ rfl
  clear hF
  simp only [f18, f19, f20, f21, f22]
  clear f18 f19 f20 f21 f22
  subst hR2
  simp only [List.drop_succ_cons, List.drop_nil]
  clear HC hR p0 p1 p0w
  go_wp2_with fail
  go_ret2
  exact HG.out
-- def XR := [.int .i64 p.op, .int .u64 p.set.a, .int .u64 p.set.b, .int .u64 p.set.c, .int .u64 p.set.d, .int .i64 p.lo, .int .i64 p.hi, .int .i64 p.gr, .slice ta 1 tc]
-- def TR := (Tk 1 p (.slice ta 1 tc) (.int .i64 i) (.int .i64 k) cv av (.pointer q))
-- def W2 := (w.alloc (.cells #[.int .i64 p.op, .int .u64 p.set.a, .int .u64 p.set.b, .int .u64 p.set.c, .int .u64 p.set.d, .int .i64 p.lo, .int .i64 p.hi, .int .i64 p.gr, .slice ta 1 tc] 28))
set_option maxRecDepth 100000 in
set_option maxHeartbeats 8000000 in
theorem rtry_rep (n : Nat) (HN : ∀ K, RNextC C n K) (w : World) (b : Nat) (p : Pay) (x0 : Re) (ta : Option Addr) (tc i k : Nat) (cv av : Value) (sp : Spans) (K : Kont) (sa : Option Addr) (sc : Nat) (q : Option Addr) (ho : p.op = 5) (hr : Row w b (Tk 1 p (.slice ta 1 tc) (.int .i64 i) (.int .i64 k) cv av (.pointer q)) 90)
    (hin : (Re.mk p [x0]).In C.w0 (p.cells (.slice ta 1 tc))) (hok : (Re.mk p [x0]).ok C.N) (hik : i ≤ k) (hks : k ≤ C.s.size) (h : RPre C n (C.B - n) sp K (.slice sa sp.length sc) (.pointer q) w) :
    Calls Try.prog 67 #[.pointer (some ⟨C.X, 0, none⟩), .pointer (some ⟨b, 0, none⟩), .slice sa sp.length sc] w (RGood C (Ev C.str C.lines (.try (.mk p [x0]) i k) sp K (n + 1)) w) := by
  have HP := hid h
  have HNN := hid HN
  have HIN := hid hin
  have HOK := hid hok
  have HO := hid ho
  have hB : Below w.heap.size w (w.alloc (.cells #[.int .i64 p.op, .int .u64 p.set.a, .int .u64 p.set.b, .int .u64 p.set.c, .int .u64 p.set.d, .int .i64 p.lo, .int .i64 p.hi, .int .i64 p.gr, .slice ta 1 tc] 28)) := (Below.refl w.heap.size w).alloc (Nat.le_refl _) _
  have HRW : Hid (Row (w.alloc (.cells #[.int .i64 p.op, .int .u64 p.set.a, .int .u64 p.set.b, .int .u64 p.set.c, .int .u64 p.set.d, .int .i64 p.lo, .int .i64 p.hi, .int .i64 p.gr, .slice ta 1 tc] 28)) b (Tk 1 p (.slice ta 1 tc) (.int .i64 i) (.int .i64 k) cv av (.pointer q)) 90 ∧ Row (w.alloc (.cells #[.int .i64 p.op, .int .u64 p.set.a, .int .u64 p.set.b, .int .u64 p.set.c, .int .u64 p.set.d, .int .i64 p.lo, .int .i64 p.hi, .int .i64 p.gr, .slice ta 1 tc] 28)) w.heap.size [.int .i64 p.op, .int .u64 p.set.a, .int .u64 p.set.b, .int .u64 p.set.c, .int .u64 p.set.d, .int .i64 p.lo, .int .i64 p.hi, .int .i64 p.gr, .slice ta 1 tc] 28) := ⟨hr.alloc _, Row.new rfl⟩
  have HP1 := hid (h.later hB)
  have HB := hid hB
  have p0w := hr.c15
  have p0 := HRW.out.1.c15
  have p1 := HRW.out.2.c9
  have e6 : (p.op == 6) = false := by rw [ho]; decide
  have e4 : (p.op == 4) = false := by rw [ho]; decide
  have e3 : (p.op == 3) = false := by rw [ho]; decide
  have e5 : (p.op == 5) = true := by rw [ho]; decide
  have HC := hid (fun (x : World) (hx : Grow (w.alloc (.cells #[.int .i64 p.op, .int .u64 p.set.a, .int .u64 p.set.b, .int .u64 p.set.c, .int .u64 p.set.d, .int .i64 p.lo, .int .i64 p.hi, .int .i64 p.gr, .slice ta 1 tc] 28)).drew x) => (⟨(HRW.out.1.grow hx).c15, (HRW.out.2.grow hx).c9⟩ : _ ∧ _))
  clear h HN hin hok ho hr hB
  go_enter Try.func67, Try.ntmps67
  go_wp2_with fail
  refine wp_region_two 17 22 rfl (Grow) (by kernel_rfl) (by kernel_rfl) (Grow.refl) (fun _ _ _ => Grow.trans) ?_
  simp only [fill, dstOf, Act.put, List.take_succ_cons, List.take_zero, List.getElem?_toArray, List.getElem?_cons_zero, List.getElem?_cons_succ, Option.bind_some, List.setIfInBounds_toArray, List.set_cons_zero, List.set_cons_succ]
  refine Plan.det 1 rfl (Grow.refl) ?_
  apply Exists.intro
  refine ⟨fun vs x hR hF K hK => ?_, ?_⟩
  · clear hF
    go_simp
    exact hK _ _ (Grow.refl _) rfl
  refine Plan.det 2 rfl (Grow.refl) ?_
  apply Exists.intro
  refine ⟨fun vs x hR hF K hK => ?_, ?_⟩
  · have hc := HC.out x hR; clear hF
    go_simp
    exact hK _ _ (Grow.refl _) rfl
  refine Plan.det 3 rfl (Grow.refl) ?_
  apply Exists.intro
  refine ⟨fun vs x hR hF K hK => ?_, ?_⟩
  · clear hF
    go_simp
    exact hK _ _ (Grow.refl _) rfl
  refine Plan.det 4 rfl (Grow.refl) ?_
  apply Exists.intro
  refine ⟨fun vs x hR hF K hK => ?_, ?_⟩
  · have f2 := hF 0 _ _ rfl rfl; clear hF
    go_simp
    exact hK _ _ (Grow.refl _) rfl
  refine Plan.det 5 rfl (Grow.refl) ?_
  apply Exists.intro
  refine ⟨fun vs x hR hF K hK => ?_, ?_⟩
  · have f3 := hF 0 _ _ rfl rfl; clear hF
    go_simp
    exact hK _ _ (Grow.refl _) rfl
  refine Plan.det 6 rfl (Grow.refl) ?_
  apply Exists.intro
  refine ⟨fun vs x hR hF K hK => ?_, ?_⟩
  · have f4 := hF 0 _ _ rfl rfl; have hc := HC.out x hR; clear hF
    go_simp
    exact hK _ _ (Grow.refl _) rfl
  refine Plan.det 7 rfl (Grow.refl) ?_
  apply Exists.intro
  refine ⟨fun vs x hR hF K hK => ?_, ?_⟩
  · clear hF
    go_simp
    exact hK _ _ (Grow.refl _) rfl
  refine Plan.det 8 rfl (Grow.refl) ?_
  apply Exists.intro
  refine ⟨fun vs x hR hF K hK => ?_, ?_⟩
  · have f6 := hF 0 _ _ rfl rfl; clear hF
    go_simp
    exact hK _ _ (Grow.refl _) rfl
  refine Plan.det 9 rfl (Grow.refl) ?_
  apply Exists.intro
  refine ⟨fun vs x hR hF K hK => ?_, ?_⟩
  · have f7 := hF 0 _ _ rfl rfl; clear hF
    go_simp
    exact hK _ _ (Grow.refl _) rfl
  refine Plan.det 10 rfl (Grow.refl) ?_
  apply Exists.intro
  refine ⟨fun vs x hR hF K hK => ?_, ?_⟩
  · have f8 := hF 0 _ _ rfl rfl; have hc := HC.out x hR; clear hF
    go_simp
    exact hK _ _ (Grow.refl _) rfl
  refine Plan.det 11 rfl (Grow.refl) ?_
  apply Exists.intro
  refine ⟨fun vs x hR hF K hK => ?_, ?_⟩
  · clear hF
    go_simp
    exact hK _ _ (Grow.refl _) rfl
  refine Plan.det 12 rfl (Grow.refl) ?_
  apply Exists.intro
  refine ⟨fun vs x hR hF K hK => ?_, ?_⟩
  · have f10 := hF 0 _ _ rfl rfl; clear hF
    go_simp
    exact hK _ _ (Grow.refl _) rfl
  refine Plan.det 13 rfl (Grow.refl) ?_
  apply Exists.intro
  refine ⟨fun vs x hR hF K hK => ?_, ?_⟩
  · have f11 := hF 0 _ _ rfl rfl; clear hF
    go_simp
    exact hK _ _ (Grow.refl _) rfl
  refine Plan.det 14 rfl (Grow.refl) ?_
  apply Exists.intro
  refine ⟨fun vs x hR hF K hK => ?_, ?_⟩
  · have f12 := hF 0 _ _ rfl rfl; have hc := HC.out x hR; clear hF
    go_simp
    exact hK _ _ (Grow.refl _) rfl
  refine Plan.det 15 rfl (Grow.refl) ?_
  apply Exists.intro
  refine ⟨fun vs x hR hF K hK => ?_, ?_⟩
  · have f1 := hF 12 _ _ rfl rfl; have f5 := hF 8 _ _ rfl rfl; have f9 := hF 4 _ _ rfl rfl; have f13 := hF 0 _ _ rfl rfl; clear hF
    go_simp
    exact hK _ _ (Grow.refl _) rfl
  refine Plan.rel 16 rfl (Grow.refl) (fun v x => ∃ b, v = .pointer (some ⟨b, 0, none⟩) ∧ w.heap.size ≤ b ∧ Row x b (Tk 3 p (.slice ta 1 tc) (.int .i64 i) (.int .i64 k) (.int .i64 0) (.slice none 0 0) (.pointer q)) 90) (fun v x y hR ⟨b, h1, h2, h3⟩ => ⟨b, h1, h2, h3.below hR h3.lt⟩) (fun vs x hR hF K hK => ?_) ?_
  · have f14 := hF 0 _ _ rfl rfl
    go_simp
    exact hK _ _ (Grow.alloc _ _) ⟨_, rfl, (by have := Grow.size hR; simp at this; omega), Row.at _ _ _⟩
  refine Plan.det 17 rfl (Grow.refl) ?_
  apply Exists.intro
  refine ⟨fun vs x hR hF K hK => ?_, ?_⟩
  · clear hF
    go_simp
    exact hK _ _ (Grow.refl _) rfl
  refine PlanEnd (by simp) (fun vs x hR hF => ?_)
  have f0 := hF 16 _ _ rfl; have f1 := hF 15 _ _ rfl; have f2 := hF 14 _ _ rfl; have f3 := hF 13 _ _ rfl; have f4 := hF 12 _ _ rfl; have f5 := hF 11 _ _ rfl; have f6 := hF 10 _ _ rfl; have f7 := hF 9 _ _ rfl; have f8 := hF 8 _ _ rfl; have f9 := hF 7 _ _ rfl; have f10 := hF 6 _ _ rfl; have f11 := hF 5 _ _ rfl; have f12 := hF 4 _ _ rfl; have f13 := hF 3 _ _ rfl; have f14 := hF 2 _ _ rfl; have f15 := hF 1 _ _ rfl; have f16 := hF 0 _ _ rfl
  clear hF
  simp only [f0, f1, f2, f3, f4, f5, f6, f7, f8, f9, f10, f11, f12, f13, f14, f16]
  clear f0 f1 f2 f3 f4 f5 f6 f7 f8 f9 f10 f11 f12 f13 f14 f16
  intro oo hoo KQ hK
  obtain rfl := Option.some.inj hoo
  clear hoo
  obtain ⟨tb, ht1, ht2, ht3⟩ := f15
  generalize vs 15 = v15 at *
  subst ht1
  have HBX := hid (grow_below hR)
  have HT3 := hid ht3
  clear ht3
  go_simp
  have HPX := hid (HP1.out.later HBX.out)
  refine (HNN.out (.rep p x0 0 i k K) _ sp _ _ _ ⟨HPX.out.st, HPX.out.span, HPX.out.ok, .rep (c := 0) HT3.out HIN.out HPX.out.k, HO.out, HOK.out, Nat.zero_le _, hik, hks, HP.out.kok⟩).mono ?_
  rintro e w' hg
  obtain ⟨a9, l9, c9, fo, rfl, HG⟩ := hg.on (But.of_below (HB.out.trans (HBX.out.mono HB.out.size))) (fun o m he => Ev.tryRep (s := C.str) (lines := C.lines) HO.out he.repOf)
  clear hg
  refine ⟨_, rfl, hK _ _ ?_⟩
  clear hK
  unfold AfterC
  simp only [fill, dstOf, Act.put, List.getElem?_toArray, List.getElem?_cons_zero, List.getElem?_cons_succ, Option.bind_some, List.setIfInBounds_toArray, List.set_cons_zero, List.set_cons_succ, List.drop_succ_cons, List.drop_zero]
  refine Plan.det 19 rfl (fun _ => rfl) ?_
  apply Exists.intro
  refine ⟨fun vs x hR hF K hK => ?_, ?_⟩
  · have f17 := hF 0 _ _ rfl rfl; clear hF
    go_simp
    exact hK _ _ rfl rfl
  refine Plan.det 20 rfl (fun _ => rfl) ?_
  apply Exists.intro
  refine ⟨fun vs x hR hF K hK => ?_, ?_⟩
  · have f17 := hF 1 _ _ rfl rfl; clear hF
    go_simp
    exact hK _ _ rfl rfl
  refine Plan.det 21 rfl (fun _ => rfl) ?_
  apply Exists.intro
  refine ⟨fun vs x hR hF K hK => ?_, ?_⟩
  · have f17 := hF 2 _ _ rfl rfl; have f18 := hF 1 _ _ rfl rfl; have f19 := hF 0 _ _ rfl rfl; clear hF
    go_simp
    exact hK _ _ rfl rfl
  refine Plan.det 22 rfl (fun _ => rfl) ?_
  apply Exists.intro
  refine ⟨fun vs x hR hF K hK => ?_, ?_⟩
  · have f17 := hF 3 _ _ rfl rfl; have f18 := hF 2 _ _ rfl rfl; have f19 := hF 1 _ _ rfl rfl; have f20 := hF 0 _ _ rfl rfl; clear hF
    go_simp
    exact hK _ _ rfl rfl
  refine Plan.nil (fun vs x hR2 hF => ?_)
  have f17 := hF 4 _ _ rfl; have f18 := hF 3 _ _ rfl; have f19 := hF 2 _ _ rfl; have f20 := hF 1 _ _ rfl; have f21 := hF 0 _ _ rfl
  clear hF
  simp only [f17, f18, f19, f20, f21]
  clear f17 f18 f19 f20 f21
  subst hR2
  simp only [List.drop_succ_cons, List.drop_nil]
  clear HC hR p0 p1 p0w
  go_wp2_with fail
  go_ret2
  exact HG.out
set_option maxRecDepth 100000 in
set_option maxHeartbeats 8000000 in
theorem rtry_plain (n : Nat) (K : Kont) (HN : RNextC C n K) (w : World) (b : Nat) (p : Pay) (xs : List Re) (ta : Option Addr) (tc i k : Nat) (cv av : Value) (sp : Spans) (sa : Option Addr) (sc : Nat) (q : Option Addr) (hop : p.op = 1 ∨ p.op = 2 ∨ p.op = 7 ∨ p.op = 8 ∨ p.op = 9) (hr : Row w b (Tk 1 p (.slice ta xs.length tc) (.int .i64 i) (.int .i64 k) cv av (.pointer q)) 90)
    (hin : (Re.mk p xs).In C.w0 (p.cells (.slice ta xs.length tc))) (hok : (Re.mk p xs).ok C.N) (hik : i ≤ k) (hks : k ≤ C.s.size) (h : RPre C n (C.B - n) sp K (.slice sa sp.length sc) (.pointer q) w) :
    Calls Try.prog 67 #[.pointer (some ⟨C.X, 0, none⟩), .pointer (some ⟨b, 0, none⟩), .slice sa sp.length sc] w (RGood C (Ev C.str C.lines (.try (.mk p xs) i k) sp K (n + 1)) w) := by
  have hwf := hin.wf
  rw [Re.ok] at hok
  have hgr : p.op = 9 → 1 ≤ p.gr ∧ p.gr ≤ C.N := fun e => by have := hok.2.2.2.1 (.inr e); omega
  have HP := hid h
  have HNN := hid HN
  have hnp : Hid (¬ partOp p) := fun e => by unfold partOp at e; omega
  have hB : Below w.heap.size w (w.alloc (.cells #[.int .i64 p.op, .int .u64 p.set.a, .int .u64 p.set.b, .int .u64 p.set.c, .int .u64 p.set.d, .int .i64 p.lo, .int .i64 p.hi, .int .i64 p.gr, .slice ta xs.length tc] 28)) := (Below.refl w.heap.size w).alloc (Nat.le_refl _) _
  have HRW : Hid (Row (w.alloc (.cells #[.int .i64 p.op, .int .u64 p.set.a, .int .u64 p.set.b, .int .u64 p.set.c, .int .u64 p.set.d, .int .i64 p.lo, .int .i64 p.hi, .int .i64 p.gr, .slice ta xs.length tc] 28)) b (Tk 1 p (.slice ta xs.length tc) (.int .i64 i) (.int .i64 k) cv av (.pointer q)) 90 ∧ Row (w.alloc (.cells #[.int .i64 p.op, .int .u64 p.set.a, .int .u64 p.set.b, .int .u64 p.set.c, .int .u64 p.set.d, .int .i64 p.lo, .int .i64 p.hi, .int .i64 p.gr, .slice ta xs.length tc] 28)) w.heap.size [.int .i64 p.op, .int .u64 p.set.a, .int .u64 p.set.b, .int .u64 p.set.c, .int .u64 p.set.d, .int .i64 p.lo, .int .i64 p.hi, .int .i64 p.gr, .slice ta xs.length tc] 28) := ⟨hr.alloc _, Row.new rfl⟩
  have HP1 := hid (h.later hB)
  have HB := hid hB
  have HPC := hid (fun (x : World) (hx : Grow (w.alloc (.cells #[.int .i64 p.op, .int .u64 p.set.a, .int .u64 p.set.b, .int .u64 p.set.c, .int .u64 p.set.d, .int .i64 p.lo, .int .i64 p.hi, .int .i64 p.gr, .slice ta xs.length tc] 28)).drew x) => rplain_any x n false p ta xs.length tc i k sp sa sc _ (HP1.out.later (grow_below hx)).st (HP1.out.later (grow_below hx)).span h.ok hwf hik hks hop hgr)
  have p0w := hr.c15
  have p0 := HRW.out.1.c15
  have p1 := HRW.out.2.c9
  have e6 : (p.op == 6) = false := by rcases hop with e | e | e | e | e <;> rw [e] <;> decide
  have e4 : (p.op == 4) = false := by rcases hop with e | e | e | e | e <;> rw [e] <;> decide
  have e3 : (p.op == 3) = false := by rcases hop with e | e | e | e | e <;> rw [e] <;> decide
  have e5 : (p.op == 5) = false := by rcases hop with e | e | e | e | e <;> rw [e] <;> decide
  have HC := hid (fun (x : World) (hx : Grow (w.alloc (.cells #[.int .i64 p.op, .int .u64 p.set.a, .int .u64 p.set.b, .int .u64 p.set.c, .int .u64 p.set.d, .int .i64 p.lo, .int .i64 p.hi, .int .i64 p.gr, .slice ta xs.length tc] 28)).drew x) => (⟨(HRW.out.1.grow hx).c15, (HRW.out.2.grow hx).c9⟩ : _ ∧ _))
  obtain ⟨pl, hpl⟩ : ∃ pl, pl = plainOf C.str C.lines p i k sp := ⟨_, rfl⟩
  rw [← hpl] at HPC
  have HPL := hid hpl
  clear h HN hin hok hop hgr hr hB hpl
  go_enter Try.func67, Try.ntmps67
  go_wp2_with fail
  refine wp_region_inv 13 (Grow) (by kernel_rfl) (by kernel_rfl) (Grow.refl) (fun _ _ _ => Grow.trans) ?_
  simp only [fill, dstOf, Act.put, List.take_succ_cons, List.take_zero, List.getElem?_toArray, List.getElem?_cons_zero, List.getElem?_cons_succ, Option.bind_some, List.setIfInBounds_toArray, List.set_cons_zero, List.set_cons_succ]
  refine Plan.det 1 rfl (Grow.refl) ?_
  apply Exists.intro
  refine ⟨fun vs x hR hF K hK => ?_, ?_⟩
  · clear hF
    go_simp
    exact hK _ _ (Grow.refl _) rfl
  refine Plan.det 2 rfl (Grow.refl) ?_
  apply Exists.intro
  refine ⟨fun vs x hR hF K hK => ?_, ?_⟩
  · have hc := HC.out x hR; clear hF
    go_simp
    exact hK _ _ (Grow.refl _) rfl
  refine Plan.det 3 rfl (Grow.refl) ?_
  apply Exists.intro
  refine ⟨fun vs x hR hF K hK => ?_, ?_⟩
  · clear hF
    go_simp
    exact hK _ _ (Grow.refl _) rfl
  refine Plan.det 4 rfl (Grow.refl) ?_
  apply Exists.intro
  refine ⟨fun vs x hR hF K hK => ?_, ?_⟩
  · have f2 := hF 0 _ _ rfl rfl; clear hF
    go_simp
    exact hK _ _ (Grow.refl _) rfl
  refine Plan.det 5 rfl (Grow.refl) ?_
  apply Exists.intro
  refine ⟨fun vs x hR hF K hK => ?_, ?_⟩
  · have f3 := hF 0 _ _ rfl rfl; clear hF
    go_simp
    exact hK _ _ (Grow.refl _) rfl
  refine Plan.det 6 rfl (Grow.refl) ?_
  apply Exists.intro
  refine ⟨fun vs x hR hF K hK => ?_, ?_⟩
  · have f4 := hF 0 _ _ rfl rfl; have hc := HC.out x hR; clear hF
    go_simp
    exact hK _ _ (Grow.refl _) rfl
  refine Plan.det 7 rfl (Grow.refl) ?_
  apply Exists.intro
  refine ⟨fun vs x hR hF K hK => ?_, ?_⟩
  · clear hF
    go_simp
    exact hK _ _ (Grow.refl _) rfl
  refine Plan.det 8 rfl (Grow.refl) ?_
  apply Exists.intro
  refine ⟨fun vs x hR hF K hK => ?_, ?_⟩
  · have f6 := hF 0 _ _ rfl rfl; clear hF
    go_simp
    exact hK _ _ (Grow.refl _) rfl
  refine Plan.det 9 rfl (Grow.refl) ?_
  apply Exists.intro
  refine ⟨fun vs x hR hF K hK => ?_, ?_⟩
  · have f7 := hF 0 _ _ rfl rfl; clear hF
    go_simp
    exact hK _ _ (Grow.refl _) rfl
  refine Plan.det 10 rfl (Grow.refl) ?_
  apply Exists.intro
  refine ⟨fun vs x hR hF K hK => ?_, ?_⟩
  · have f8 := hF 0 _ _ rfl rfl; have hc := HC.out x hR; clear hF
    go_simp
    exact hK _ _ (Grow.refl _) rfl
  refine Plan.det 11 rfl (Grow.refl) ?_
  apply Exists.intro
  refine ⟨fun vs x hR hF K hK => ?_, ?_⟩
  · clear hF
    go_simp
    exact hK _ _ (Grow.refl _) rfl
  refine Plan.det 12 rfl (Grow.refl) ?_
  apply Exists.intro
  refine ⟨fun vs x hR hF K hK => ?_, ?_⟩
  · have f0 := hF 10 _ _ rfl rfl; have f1 := hF 9 _ _ rfl rfl; have f5 := hF 5 _ _ rfl rfl; have f9 := hF 1 _ _ rfl rfl; have f10 := hF 0 _ _ rfl rfl; clear hF
    go_simp
    refine (HPC.out x hR).mono ?_
    rintro e x1 ⟨rfl, hbe⟩
    exact ⟨_, rfl, hK _ _ hbe rfl⟩
  refine Plan.det 13 rfl (Grow.refl) ?_
  apply Exists.intro
  refine ⟨fun vs x hR hF K hK => ?_, ?_⟩
  · have f11 := hF 0 _ _ rfl rfl; clear hF
    go_simp
    exact hK _ _ (Grow.refl _) rfl
  refine Plan.nil (fun vs x hR hF => ?_)
  have f0 := hF 12 _ _ rfl; have f1 := hF 11 _ _ rfl; have f2 := hF 10 _ _ rfl; have f3 := hF 9 _ _ rfl; have f4 := hF 8 _ _ rfl; have f5 := hF 7 _ _ rfl; have f6 := hF 6 _ _ rfl; have f7 := hF 5 _ _ rfl; have f8 := hF 4 _ _ rfl; have f9 := hF 3 _ _ rfl; have f10 := hF 2 _ _ rfl; have f11 := hF 1 _ _ rfl; have f12 := hF 0 _ _ rfl
  clear hF
  simp only [f0, f1, f2, f3, f4, f5, f6, f7, f8, f9, f10, f11, f12]
  clear f0 f1 f2 f3 f4 f5 f6 f7 f8 f9 f10 f11 f12
  simp only [List.drop_succ_cons, List.drop_zero]
  have HBX := hid (grow_below hR)
  have HRX := hid (HRW.out.1.below HBX.out HRW.out.1.lt)
  have HPX := hid (HP1.out.later HBX.out)
  clear HC hR p0 p1 p0w HPC
  have p0 := HRX.out.c15
  cases pl with
  | false =>
    go_wp2_with fail
    go_ret2
    exact ⟨.fail, n, none, 0, 0, .leafFail hnp.out HPL.out.symm, rfl, HPX.out.st, But.of_below (HB.out.trans (HBX.out.mono HB.out.size)), fun l hl => (by cases hl), fun _ => ⟨rfl, rfl, rfl⟩⟩
  | true =>
    go_wp2_with fail
    refine (HNN.out _ sp sa sc q HPX.out).mono ?_
    rintro e w' hg
    obtain ⟨a9, l9, c9, fo, rfl, HG⟩ := hg.on (But.of_below (HB.out.trans (HBX.out.mono HB.out.size))) (fun o m he => Ev.leaf (s := C.str) (lines := C.lines) (xs := xs) hnp.out HPL.out.symm he)
    clear hg
    go_wp2_with fail
    go_ret2
    exact HG.out
end Go.Proofs.Ytnnocekencaadaa
