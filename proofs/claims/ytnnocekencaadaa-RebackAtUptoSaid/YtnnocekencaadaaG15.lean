/- Reback's reference: trees one after the other. -/
import Derived.Test.YtnnocekencaadaaG05
import Derived.Test.YtnnocekencaadaaG13
import Derived.Test.YtnnocekencaadaaG14
namespace Go.Proofs.Ytnnocekencaadaa
open Go.RowKit
attribute [local go_sem] gives givesUpon
variable {C : RCtx}

-- def FN := (*texttools/texttoolsref14.search).cat
/-- A tree whose nine cells are these. -/
theorem Re.In.opens {w : World} {e : Re} {p : Pay} {ad : Option Addr} {n c : Nat} (h : e.In w (p.cells (.slice ad n c))) : ∃ xs, e = .mk p xs ∧ n = xs.length := by
  obtain ⟨p2, xs⟩ := e
  rw [Re.In] at h
  obtain ⟨ad2, cp, e, -⟩ := h
  simp only [Pay.cells, List.cons.injEq, Value.slice.injEq, Value.int.injEq, true_and, and_true] at e
  obtain ⟨e1, e2, e3, e4, e5, e6, e7, e8, -, e9, -⟩ := e
  obtain ⟨o1, ⟨a1, b1, c1, d1⟩, l1, h1, g1⟩ := p
  obtain ⟨o2, ⟨a2, b2, c2, d2⟩, l2, h2, g2⟩ := p2
  dsimp only at *
  simp only [Int.natCast_inj] at *
  subst_vars
  exact ⟨xs, rfl, rfl⟩
theorem RTryC.lit {n : Nat} (HT : RTryC C n) (w : World) (b : Nat) (e : Re) (p : Pay) (ad : Option Addr) (n' c' i k : Nat) (cv av : Value) (sp : Spans) (K : Kont) (sa : Option Addr) (sc : Nat) (q : Option Addr) (hr : Row w b (Tk 1 p (.slice ad n' c') (.int .i64 i) (.int .i64 k) cv av (.pointer q)) 90)
    (hin : e.In C.w0 (p.cells (.slice ad n' c'))) (hok : e.ok C.N) (hik : i ≤ k) (hks : k ≤ C.s.size) (h : RPre C n (C.B - n + 1) sp K (.slice sa sp.length sc) (.pointer q) w) :
    Calls Try.prog 54 #[.pointer (some ⟨C.X, 0, none⟩), .pointer (some ⟨b, 0, none⟩), .slice sa sp.length sc] w (RGood C (Ev C.str C.lines (.try e i k) sp K n) w) := by
  obtain ⟨xs, rfl, rfl⟩ := hin.opens
  exact HT w b p xs ad c' i k cv av sp K sa sc q hr hin hok hik hks h

set_option maxRecDepth 100000 in
set_option maxHeartbeats 8000000 in
theorem rcat_one (n : Nat) (HT : RTryC C n) (w : World) (b : Nat) (p : Pay) (sl cv : Value) (a : Option Addr) (r : Nat) (x0 : Re) (i k : Nat) (sp : Spans) (K : Kont) (sa : Option Addr) (sc : Nat) (q : Option Addr) (hr : Row w b (Tk 2 p sl (.int .i64 i) (.int .i64 k) cv (.slice a 1 r) (.pointer q)) 90)
    (hin : Re.AllIn C.w0 [x0] a 0) (_hq : 1 ≤ r) (hok : x0.ok C.N) (hik : i ≤ k) (hks : k ≤ C.s.size) (h : RPre C n (C.B - n) sp K (.slice sa sp.length sc) (.pointer q) w) :
    Calls Try.prog 68 #[.pointer (some ⟨C.X, 0, none⟩), .pointer (some ⟨b, 0, none⟩), .slice sa sp.length sc] w (RGood C (Ev C.str C.lines (.cat [x0] i k) sp K n) w) := by
  obtain ⟨bb, o, p', ad, n', c', rfl, hc, hx, hbw⟩ := hin.first (Below.refl _ _)
  have HP := hid h
  have HX := hid hx
  have HO := hid hok
  have HTT := hid HT
  have q0 := hr.c15
  have HC := hid (fun (x : World) (hx : Grow w.drew x) => (⟨(hr.grow hx).c15, (h.st.later (grow_below hx)).c⟩ : _ ∧ _))
  have HX1 := hid (fun (x : World) (hx : Grow w.drew x) => hc.below (h.st.below.trans ((grow_below hx).mono h.st.below.size)))
  clear h hx hok HT hr hc hin
  go_enter Try.func68, Try.ntmps68
  go_wp2_with fail
  refine wp_region_two 22 27 rfl (Grow) (by kernel_rfl) (by kernel_rfl) (Grow.refl) (fun _ _ _ => Grow.trans) ?_
  simp only [fill, dstOf, Act.put, List.take_succ_cons, List.take_zero, List.getElem?_toArray, List.getElem?_cons_zero, List.getElem?_cons_succ, Option.bind_some, List.setIfInBounds_toArray, List.set_cons_zero, List.set_cons_succ]
  refine Plan.det 1 rfl (Grow.refl) ?_
  apply Exists.intro
  refine ⟨fun vs x hR hF K hK => ?_, ?_⟩
  · clear hF
    go_simp
    exact hK _ _ (Grow.refl _) rfl
  refine Plan.det 2 rfl (Grow.refl) ?_
  apply Exists.intro
  refine ⟨fun vs x hR hF K hK => ?_, ?_⟩
  · clear hF
    go_simp
    exact hK _ _ (Grow.refl _) rfl
  refine Plan.det 3 rfl (Grow.refl) ?_
  apply Exists.intro
  refine ⟨fun vs x hR hF K hK => ?_, ?_⟩
  · have f1 := hF 0 _ _ rfl rfl; clear hF
    go_simp
    exact hK _ _ (Grow.refl _) rfl
  refine Plan.det 4 rfl (Grow.refl) ?_
  apply Exists.intro
  refine ⟨fun vs x hR hF K hK => ?_, ?_⟩
  · have f2 := hF 0 _ _ rfl rfl; clear hF
    go_simp
    exact hK _ _ (Grow.refl _) rfl
  refine Plan.det 5 rfl (Grow.refl) ?_
  apply Exists.intro
  refine ⟨fun vs x hR hF K hK => ?_, ?_⟩
  · have f3 := hF 0 _ _ rfl rfl; have hc := HC.out x hR; clear hF
    go_simp
    exact hK _ _ (Grow.refl _) rfl
  refine Plan.det 6 rfl (Grow.refl) ?_
  apply Exists.intro
  refine ⟨fun vs x hR hF K hK => ?_, ?_⟩
  · have f4 := hF 0 _ _ rfl rfl; clear hF
    go_simp
    exact hK _ _ (Grow.refl _) rfl
  refine Plan.det 7 rfl (Grow.refl) ?_
  apply Exists.intro
  refine ⟨fun vs x hR hF K hK => ?_, ?_⟩
  · have f5 := hF 0 _ _ rfl rfl; have hc := HC.out x hR; clear hF
    rw [if_pos (show Region.wanted _ _ = true from rfl)]
    refine gives_load_agg 28 _ rfl bb o f5 _ _ (HX1.out x hR) Try.underlying28 rfl (size_re9 _ _ _ _ _ _ _ _ _) ?_
    exact hK _ _ (Grow.refl _) rfl
  refine Plan.det 8 rfl (Grow.refl) ?_
  apply Exists.intro
  refine ⟨fun vs x hR hF K hK => ?_, ?_⟩
  · clear hF
    go_simp
    exact hK _ _ (Grow.refl _) rfl
  refine Plan.det 9 rfl (Grow.refl) ?_
  apply Exists.intro
  refine ⟨fun vs x hR hF K hK => ?_, ?_⟩
  · have f7 := hF 0 _ _ rfl rfl; clear hF
    go_simp
    exact hK _ _ (Grow.refl _) rfl
  refine Plan.det 10 rfl (Grow.refl) ?_
  apply Exists.intro
  refine ⟨fun vs x hR hF K hK => ?_, ?_⟩
  · have f8 := hF 0 _ _ rfl rfl; clear hF
    go_simp
    exact hK _ _ (Grow.refl _) rfl
  refine Plan.det 11 rfl (Grow.refl) ?_
  apply Exists.intro
  refine ⟨fun vs x hR hF K hK => ?_, ?_⟩
  · have f9 := hF 0 _ _ rfl rfl; have hc := HC.out x hR; clear hF
    go_simp
    exact hK _ _ (Grow.refl _) rfl
  refine Plan.det 12 rfl (Grow.refl) ?_
  apply Exists.intro
  refine ⟨fun vs x hR hF K hK => ?_, ?_⟩
  · clear hF
    go_simp
    exact hK _ _ (Grow.refl _) rfl
  refine Plan.det 13 rfl (Grow.refl) ?_
  apply Exists.intro
  refine ⟨fun vs x hR hF K hK => ?_, ?_⟩
  · have f11 := hF 0 _ _ rfl rfl; clear hF
    go_simp
    exact hK _ _ (Grow.refl _) rfl
  refine Plan.det 14 rfl (Grow.refl) ?_
  apply Exists.intro
  refine ⟨fun vs x hR hF K hK => ?_, ?_⟩
  · have f12 := hF 0 _ _ rfl rfl; clear hF
    go_simp
    exact hK _ _ (Grow.refl _) rfl
  refine Plan.det 15 rfl (Grow.refl) ?_
  apply Exists.intro
  refine ⟨fun vs x hR hF K hK => ?_, ?_⟩
  · have f13 := hF 0 _ _ rfl rfl; have hc := HC.out x hR; clear hF
    go_simp
    exact hK _ _ (Grow.refl _) rfl
  refine Plan.det 16 rfl (Grow.refl) ?_
  apply Exists.intro
  refine ⟨fun vs x hR hF K hK => ?_, ?_⟩
  · clear hF
    go_simp
    exact hK _ _ (Grow.refl _) rfl
  refine Plan.det 17 rfl (Grow.refl) ?_
  apply Exists.intro
  refine ⟨fun vs x hR hF K hK => ?_, ?_⟩
  · have f15 := hF 0 _ _ rfl rfl; clear hF
    go_simp
    exact hK _ _ (Grow.refl _) rfl
  refine Plan.det 18 rfl (Grow.refl) ?_
  apply Exists.intro
  refine ⟨fun vs x hR hF K hK => ?_, ?_⟩
  · have f16 := hF 0 _ _ rfl rfl; clear hF
    go_simp
    exact hK _ _ (Grow.refl _) rfl
  refine Plan.det 19 rfl (Grow.refl) ?_
  apply Exists.intro
  refine ⟨fun vs x hR hF K hK => ?_, ?_⟩
  · have f17 := hF 0 _ _ rfl rfl; have hc := HC.out x hR; clear hF
    go_simp
    exact hK _ _ (Grow.refl _) rfl
  refine Plan.det 20 rfl (Grow.refl) ?_
  apply Exists.intro
  refine ⟨fun vs x hR hF K hK => ?_, ?_⟩
  · have f6 := hF 12 _ _ rfl rfl; have f10 := hF 8 _ _ rfl rfl; have f14 := hF 4 _ _ rfl rfl; have f18 := hF 0 _ _ rfl rfl; clear hF
    go_simp
    exact hK _ _ (Grow.refl _) rfl
  refine Plan.rel 21 rfl (Grow.refl) (fun v x => ∃ b, v = .pointer (some ⟨b, 0, none⟩) ∧ w.heap.size ≤ b ∧ Row x b (Tk 1 p' (.slice ad n' c') (.int .i64 i) (.int .i64 k) (.int .i64 0) (.slice none 0 0) (.pointer q)) 90) (fun v x y hR ⟨b, h1, h2, h3⟩ => ⟨b, h1, h2, h3.below hR h3.lt⟩) (fun vs x hR hF K hK => ?_) ?_
  · have f19 := hF 0 _ _ rfl rfl
    go_simp
    exact hK _ _ (Grow.alloc _ _) ⟨_, rfl, (by have := Grow.size hR; simp at this; omega), Row.at _ _ _⟩
  refine Plan.det 22 rfl (Grow.refl) ?_
  apply Exists.intro
  refine ⟨fun vs x hR hF K hK => ?_, ?_⟩
  · clear hF
    go_simp
    exact hK _ _ (Grow.refl _) rfl
  refine PlanEnd (by simp) (fun vs x hR hF => ?_)
  have f0 := hF 21 _ _ rfl; have f1 := hF 20 _ _ rfl; have f2 := hF 19 _ _ rfl; have f3 := hF 18 _ _ rfl; have f4 := hF 17 _ _ rfl; have f5 := hF 16 _ _ rfl; have f6 := hF 15 _ _ rfl; have f7 := hF 14 _ _ rfl; have f8 := hF 13 _ _ rfl; have f9 := hF 12 _ _ rfl; have f10 := hF 11 _ _ rfl; have f11 := hF 10 _ _ rfl; have f12 := hF 9 _ _ rfl; have f13 := hF 8 _ _ rfl; have f14 := hF 7 _ _ rfl; have f15 := hF 6 _ _ rfl; have f16 := hF 5 _ _ rfl; have f17 := hF 4 _ _ rfl; have f18 := hF 3 _ _ rfl; have f19 := hF 2 _ _ rfl; have f20 := hF 1 _ _ rfl; have f21 := hF 0 _ _ rfl
  clear hF
  simp only [f0, f1, f2, f3, f4, f5, f6, f7, f8, f9, f10, f11, f12, f13, f14, f15, f16, f17, f18, f19, f21]
  clear f0 f1 f2 f3 f4 f5 f6 f7 f8 f9 f10 f11 f12 f13 f14 f15 f16 f17 f18 f19 f21
  intro oo hoo KQ hK
  obtain rfl := Option.some.inj hoo
  clear hoo
  obtain ⟨tb, ht1, ht2, ht3⟩ := f20
  generalize vs 20 = v20 at *
  subst ht1
  have HBX := hid (grow_below hR)
  have HT3 := hid ht3
  clear HX1 ht3
  go_simp
  refine (RTryC.lit HTT.out _ tb x0 p' ad n' c' i k _ _ sp K _ _ _ HT3.out HX.out HO.out hik hks ((HP.out.later HBX.out).mono (Nat.le_succ _))).mono ?_
  rintro e w' hg
  obtain ⟨a9, l9, c9, fo, rfl, HG⟩ := hg.on (But.of_below HBX.out) (fun o m he => Ev.catOne (s := C.str) (lines := C.lines) he)
  clear hg
  refine ⟨_, rfl, hK _ _ ?_⟩
  clear hK
  unfold AfterC
  simp only [fill, dstOf, Act.put, List.getElem?_toArray, List.getElem?_cons_zero, List.getElem?_cons_succ, Option.bind_some, List.setIfInBounds_toArray, List.set_cons_zero, List.set_cons_succ, List.drop_succ_cons, List.drop_zero]
  refine Plan.det 24 rfl (fun _ => rfl) ?_
  apply Exists.intro
  refine ⟨fun vs x hR hF K hK => ?_, ?_⟩
  · have f22 := hF 0 _ _ rfl rfl; clear hF
    go_simp
    exact hK _ _ rfl rfl
  refine Plan.det 25 rfl (fun _ => rfl) ?_
  apply Exists.intro
  refine ⟨fun vs x hR hF K hK => ?_, ?_⟩
  · have f22 := hF 1 _ _ rfl rfl; clear hF
    go_simp
    exact hK _ _ rfl rfl
  refine Plan.det 26 rfl (fun _ => rfl) ?_
  apply Exists.intro
  refine ⟨fun vs x hR hF K hK => ?_, ?_⟩
  · have f22 := hF 2 _ _ rfl rfl; have f23 := hF 1 _ _ rfl rfl; have f24 := hF 0 _ _ rfl rfl; clear hF
    go_simp
    exact hK _ _ rfl rfl
  refine Plan.det 27 rfl (fun _ => rfl) ?_
  apply Exists.intro
  refine ⟨fun vs x hR hF K hK => ?_, ?_⟩
  · have f22 := hF 3 _ _ rfl rfl; have f23 := hF 2 _ _ rfl rfl; have f24 := hF 1 _ _ rfl rfl; have f25 := hF 0 _ _ rfl rfl; clear hF
    go_simp
    exact hK _ _ rfl rfl
  refine Plan.nil (fun vs x hR2 hF => ?_)
  have f22 := hF 4 _ _ rfl; have f23 := hF 3 _ _ rfl; have f24 := hF 2 _ _ rfl; have f25 := hF 1 _ _ rfl; have f26 := hF 0 _ _ rfl
  clear hF
  simp only [f22, f23, f24, f25, f26]
  clear f22 f23 f24 f25 f26
  subst hR2
  simp only [List.drop_succ_cons, List.drop_nil]
  clear HC hR q0
  go_wp2_with fail
  go_ret2
  exact HG.out
/-- What a loop over ends keeps in the reference. -/
def REndsL (C : RCtx) (w : World) (n : Nat) (E : Out → Nat → Prop) (rest : Nat → Nat → Out → Nat → Prop) (sp : Spans) (K : Kont) (sv rv : Value) (c : Nat) (ov : Bool) (wr : World) : Prop :=
  But [C.X] w wr ∧ (ov = false → ∃ n', n' ≤ n ∧ RPre C n' (C.B - n') sp K sv rv wr ∧ ∀ o m, rest n' c o m → E o m) ∧ (ov = true → C.St 0 true wr ∧ E .over 0)
/-- Nothing found, and no more tries. -/
theorem REndsL.over {w : World} {n : Nat} {E : Out → Nat → Prop} {rest : Nat → Nat → Out → Nat → Prop} {sp : Spans} {K : Kont} {sv rv : Value} {c : Nat} {wr : World} (h : REndsL C w n E rest sp K sv rv c true wr) : RGood C E w (.returned (.tuple #[.slice none 0 0, .bool false])) wr :=
  ⟨.over, 0, none, 0, 0, (h.2.2 rfl).2, rfl, (h.2.2 rfl).1, h.1, fun l hl => (by cases hl), fun _ => ⟨rfl, rfl, rfl⟩⟩
def Pay.zero : Pay := ⟨0, ⟨0, 0, 0, 0⟩, 0, 0, 0⟩

set_option maxRecDepth 100000 in
set_option maxHeartbeats 8000000 in
theorem rcat_more (n : Nat) (HT : ∀ m, m ≤ n → RTryC C m) (w : World) (b : Nat) (p : Pay) (sl cv : Value) (a : Option Addr) (r : Nat) (x0 y0 : Re) (ys : List Re) (i k : Nat) (sp : Spans) (K : Kont) (sa : Option Addr) (sc : Nat) (q : Option Addr) (hr : Row w b (Tk 2 p sl (.int .i64 i) (.int .i64 k) cv (.slice a (x0 :: y0 :: ys).length r) (.pointer q)) 90)
    (hin : Re.AllIn C.w0 (x0 :: y0 :: ys) a 0) (hq : (y0 :: ys).length + 1 ≤ r) (hqm : r ≤ maxLen) (hok : Re.oks C.N (x0 :: y0 :: ys)) (hik : i ≤ k) (hks : k ≤ C.s.size) (h : RPre C n (C.B - n) sp K (.slice sa sp.length sc) (.pointer q) w) :
    Calls Try.prog 68 #[.pointer (some ⟨C.X, 0, none⟩), .pointer (some ⟨b, 0, none⟩), .slice sa sp.length sc] w (RGood C (Ev C.str C.lines (.cat (x0 :: y0 :: ys) i k) sp K n) w) := by
  obtain ⟨bb, o, p', ad, n', c', rfl, hc, hx, hbw⟩ := hin.first (Below.refl _ _)
  obtain ⟨xs, hxs⟩ : ∃ xs : List Re, xs = y0 :: ys := ⟨_, rfl⟩
  have hne : xs ≠ [] := by rw [hxs]; simp
  have hlen : 1 ≤ xs.length := by rw [hxs]; simp
  rw [show (x0 :: y0 :: ys).length = xs.length + 1 by rw [hxs]; rfl] at hr
  rw [← hxs] at hq hin hok
  have HGO : Hid (∀ (e : Ending) (w' : World), RGood C (Ev C.str C.lines (.catj x0 xs i k (k + 1 - i)) sp K n) w e w' → RGood C (Ev C.str C.lines (.cat (x0 :: y0 :: ys) i k) sp K n) w e w') := by
    intro e w' hg
    rw [hxs] at hg
    exact hg.mono fun o m he => .catMore he
  clear hxs
  rw [Re.AllIn] at hin
  have HXS : Hid (Re.AllIn C.w0 xs (some ⟨bb, o + 9, none⟩) 0) := Re.AllIn.shift (k := 0) hin.2
  have d1 : ((xs.length : Int) + 1 == 1) = false := by simp; omega
  have q0 := hr.c15
  have HR := hid hr
  have HP := hid h
  have HX := hid hx
  have HO := hid hok
  have HTT := hid HT
  have HNE := hid hne
  have HCC := hid hc
  have hsl := h.st.len
  clear hc hx hok h HT hin hne hr
  go_enter Try.func68, Try.ntmps68
  go_wp2_with fail
  go_loopw [8] (fun v wr => ∃ (J : Int) (c : Nat) (ov : Bool), v = .int .i64 J ∧ c ≤ k + 1 - i ∧ Hid (Row wr b (Tk 2 p sl (.int .i64 i) (.int .i64 k) cv (.slice (some ⟨bb, o, none⟩) (xs.length + 1) r) (.pointer q)) 90 ∧ J = (i : Int) + c - 1 ∧ REndsL C w n (Ev C.str C.lines (.catj x0 xs i k (k + 1 - i)) sp K n) (fun n' c => Ev C.str C.lines (.catj x0 xs i k c) sp K n') sp K (.slice sa sp.length sc) (.pointer q) c ov wr)) (fun v _ => (intOf v + 1 - i).toNat)
  case atStart =>
    exact ⟨(k : Int), k + 1 - i, false, rfl, Nat.le_refl _, ⟨HR.out, by omega, But.refl _ _, fun _ => ⟨n, Nat.le_refl _, HP.out, fun o m he => he⟩, fun e => (by cases e)⟩⟩
  case round =>
    obtain ⟨J, c, ov, rfl, hcl, HL⟩ := hrel
    cases ov with
    | true =>
      obtain ⟨r0, hJ, hE⟩ := HL.out
      have HG := hid hE.over
      have qc := (hE.2.2 rfl).1.c
      have p0 := r0.c15
      clear r0 hJ hE q0 HL
      by_cases hJi : (i : Int) ≤ J
      · have d2 : decide ((i : Int) ≤ J) = true := by simp [hJi]
        go_wp2_with fail
        go_ret2
        exact HGO.out _ _ HG.out
      · have d2 : decide ((i : Int) ≤ J) = false := by simp [hJi]
        go_wp2_with fail
        go_ret2
        exact HGO.out _ _ HG.out
    | false =>
      obtain ⟨r0, hJ, hbut, hpr, -⟩ := HL.out
      obtain ⟨m', hm', hpre, hrest⟩ := hpr rfl
      have qc := hpre.st.c
      have p0 := r0.c15
      have HPR := hid hpre
      have HRS := hid hrest
      have HBU := hid hbut
      cases c with
      | zero =>
        have d2 : decide ((i : Int) ≤ J) = false := by simp; omega
        clear r0 hJ hbut hpr hpre hrest q0 HL
        go_wp2_with fail
        go_ret2
        exact HGO.out _ _ ⟨.fail, m', none, 0, 0, HRS.out _ _ .catjNone, rfl, HPR.out.st, HBU.out, fun l hl => (by cases hl), fun _ => ⟨rfl, rfl, rfl⟩⟩
      | succ c =>
        obtain ⟨j, hj⟩ : ∃ j : Nat, j = i + c := ⟨_, rfl⟩
        obtain rfl : J = (j : Int) := by omega
        have d2 : decide ((i : Int) ≤ (j : Int)) = true := by simp; omega
        have hij2 : i ≤ j := by omega
        have hjk : j ≤ k := by omega
        have HJ := hid hj
        have HR0 := hid r0
        have HC := hid (fun (x : World) (hx : Grow wr.drew x) => (⟨(r0.grow hx).c15, (hpre.st.later (grow_below hx)).c⟩ : _ ∧ _))
        have hq1 : (1 : Int) ≤ xs.length + 1 := by omega
        have hr1 : (r = 1) = False := by simp; omega
        clear r0 hJ hbut hpr hpre hrest q0 hj
        go_wp2_with fail
        refine wp_region_inv 16 (Grow) (by kernel_rfl) (by kernel_rfl) (Grow.refl) (fun _ _ _ => Grow.trans) ?_
        simp only [fill, dstOf, Act.put, List.take_succ_cons, List.take_zero, List.getElem?_toArray, List.getElem?_cons_zero, List.getElem?_cons_succ, Option.bind_some, List.setIfInBounds_toArray, List.set_cons_zero, List.set_cons_succ]
        refine Plan.det 1 rfl (Grow.refl) ?_
        apply Exists.intro
        refine ⟨fun vs x hR hF K hK => ?_, ?_⟩
        · clear hF
          go_simp
          exact hK _ _ (Grow.refl _) rfl
        refine Plan.det 2 rfl (Grow.refl) ?_
        apply Exists.intro
        refine ⟨fun vs x hR hF K hK => ?_, ?_⟩
        · have f0 := hF 0 _ _ rfl rfl; clear hF
          go_simp
          exact hK _ _ (Grow.refl _) rfl
        refine Plan.det 3 rfl (Grow.refl) ?_
        apply Exists.intro
        refine ⟨fun vs x hR hF K hK => ?_, ?_⟩
        · have f1 := hF 0 _ _ rfl rfl; clear hF
          go_simp
          exact hK _ _ (Grow.refl _) rfl
        refine Plan.det 4 rfl (Grow.refl) ?_
        apply Exists.intro
        refine ⟨fun vs x hR hF K hK => ?_, ?_⟩
        · have f2 := hF 0 _ _ rfl rfl; have hc := HC.out x hR; clear hF
          go_simp
          exact hK _ _ (Grow.refl _) rfl
        refine Plan.det 5 rfl (Grow.refl) ?_
        apply Exists.intro
        refine ⟨fun vs x hR hF K hK => ?_, ?_⟩
        · have f3 := hF 0 _ _ rfl rfl; clear hF
          go_simp
          exact hK _ _ (Grow.refl _) rfl
        refine Plan.det 6 rfl (Grow.refl) ?_
        apply Exists.intro
        refine ⟨fun vs x hR hF K hK => ?_, ?_⟩
        · clear hF
          go_simp
          exact hK _ _ (Grow.refl _) rfl
        refine Plan.det 7 rfl (Grow.refl) ?_
        apply Exists.intro
        refine ⟨fun vs x hR hF K hK => ?_, ?_⟩
        · clear hF
          go_simp
          exact hK _ _ (Grow.refl _) rfl
        refine Plan.det 8 rfl (Grow.refl) ?_
        apply Exists.intro
        refine ⟨fun vs x hR hF K hK => ?_, ?_⟩
        · have f6 := hF 0 _ _ rfl rfl; clear hF
          go_simp
          exact hK _ _ (Grow.refl _) rfl
        refine Plan.det 9 rfl (Grow.refl) ?_
        apply Exists.intro
        refine ⟨fun vs x hR hF K hK => ?_, ?_⟩
        · have f7 := hF 0 _ _ rfl rfl; clear hF
          go_simp
          exact hK _ _ (Grow.refl _) rfl
        refine Plan.det 10 rfl (Grow.refl) ?_
        apply Exists.intro
        refine ⟨fun vs x hR hF K hK => ?_, ?_⟩
        · have f8 := hF 0 _ _ rfl rfl; have hc := HC.out x hR; clear hF
          go_simp
          exact hK _ _ (Grow.refl _) rfl
        refine Plan.det 11 rfl (Grow.refl) ?_
        apply Exists.intro
        refine ⟨fun vs x hR hF K hK => ?_, ?_⟩
        · clear hF
          go_simp
          exact hK _ _ (Grow.refl _) rfl
        refine Plan.det 12 rfl (Grow.refl) ?_
        apply Exists.intro
        refine ⟨fun vs x hR hF K hK => ?_, ?_⟩
        · have f10 := hF 0 _ _ rfl rfl; clear hF
          go_simp
          exact hK _ _ (Grow.refl _) rfl
        refine Plan.det 13 rfl (Grow.refl) ?_
        apply Exists.intro
        refine ⟨fun vs x hR hF K hK => ?_, ?_⟩
        · have f11 := hF 0 _ _ rfl rfl; clear hF
          go_simp
          exact hK _ _ (Grow.refl _) rfl
        refine Plan.det 14 rfl (Grow.refl) ?_
        apply Exists.intro
        refine ⟨fun vs x hR hF K hK => ?_, ?_⟩
        · have f12 := hF 0 _ _ rfl rfl; have hc := HC.out x hR; clear hF
          go_simp
          exact hK _ _ (Grow.refl _) rfl
        refine Plan.det 15 rfl (Grow.refl) ?_
        apply Exists.intro
        refine ⟨fun vs x hR hF K hK => ?_, ?_⟩
        · have f4 := hF 9 _ _ rfl rfl; have f5 := hF 8 _ _ rfl rfl; have f9 := hF 4 _ _ rfl rfl; have f13 := hF 0 _ _ rfl rfl; clear hF
          go_simp
          exact hK _ _ (Grow.refl _) rfl
        refine Plan.rel 16 rfl (Grow.refl) (fun v x => ∃ b, v = .pointer (some ⟨b, 0, none⟩) ∧ wr.heap.size ≤ b ∧ Row x b (Tk 2 Pay.zero (.slice none 0 0) (.int .i64 j) (.int .i64 k) (.int .i64 0) (.slice (some ⟨bb, o + 9, none⟩) xs.length (r - 1)) (.pointer q)) 90) (fun v x y hR ⟨b, h1, h2, h3⟩ => ⟨b, h1, h2, h3.below hR h3.lt⟩) (fun vs x hR hF K hK => ?_) ?_
        · have f14 := hF 0 _ _ rfl rfl
          go_simp
          exact hK _ _ (Grow.alloc _ _) ⟨_, rfl, (by have := Grow.size hR; simp at this; omega), Row.at _ _ _⟩
        refine Plan.nil (fun vs x hR hF => ?_)
        have f0 := hF 15 _ _ rfl; have f1 := hF 14 _ _ rfl; have f2 := hF 13 _ _ rfl; have f3 := hF 12 _ _ rfl; have f4 := hF 11 _ _ rfl; have f5 := hF 10 _ _ rfl; have f6 := hF 9 _ _ rfl; have f7 := hF 8 _ _ rfl; have f8 := hF 7 _ _ rfl; have f9 := hF 6 _ _ rfl; have f10 := hF 5 _ _ rfl; have f11 := hF 4 _ _ rfl; have f12 := hF 3 _ _ rfl; have f13 := hF 2 _ _ rfl; have f14 := hF 1 _ _ rfl; have f15 := hF 0 _ _ rfl
        clear hF
        simp only [f0, f1, f2, f3, f4, f5, f6, f7, f8, f9, f10, f11, f12, f13, f14]
        clear f0 f1 f2 f3 f4 f5 f6 f7 f8 f9 f10 f11 f12 f13 f14
        simp only [List.drop_succ_cons, List.drop_zero]
        obtain ⟨ab, ha1, ha2, ha3⟩ := f15
        generalize vs 15 = v15 at *
        subst ha1
        have HBX := hid (grow_below hR)
        have HA := hid ha3
        clear HC hR p0 qc ha3
        obtain ⟨z, hz⟩ : ∃ z : World, z = x := ⟨x, rfl⟩
        subst hz
        have HR1 : Hid (Row z b (Tk 2 p sl (.int .i64 i) (.int .i64 k) cv (.slice (some ⟨bb, o, none⟩) (xs.length + 1) r) (.pointer q)) 90) := HR0.out.below HBX.out HR0.out.lt
        have HPX := hid (HPR.out.later HBX.out)
        have HC := hid (fun (y : World) (hy : Grow z.drew y) => (⟨(HR1.out.grow hy).c15, (HPX.out.st.later (grow_below hy)).c⟩ : _ ∧ _))
        have HX1 := hid (fun (y : World) (hy : Grow z.drew y) => HCC.out.below (HPX.out.st.below.trans ((grow_below hy).mono HPX.out.st.below.size)))
        have p0 := HR1.out.c15
        have qc := HPX.out.st.c
        go_wp2_with fail
        refine wp_region_two 16 22 rfl (Grow) (by kernel_rfl) (by kernel_rfl) (Grow.refl) (fun _ _ _ => Grow.trans) ?_
        simp only [fill, dstOf, Act.put, List.take_succ_cons, List.take_zero, List.getElem?_toArray, List.getElem?_cons_zero, List.getElem?_cons_succ, Option.bind_some, List.setIfInBounds_toArray, List.set_cons_zero, List.set_cons_succ]
        refine Plan.det 1 rfl (Grow.refl) ?_
        apply Exists.intro
        refine ⟨fun vs x hR hF K hK => ?_, ?_⟩
        · clear hF
          go_simp
          exact hK _ _ (Grow.refl _) rfl
        refine Plan.det 2 rfl (Grow.refl) ?_
        apply Exists.intro
        refine ⟨fun vs x hR hF K hK => ?_, ?_⟩
        · clear hF
          go_simp
          exact hK _ _ (Grow.refl _) rfl
        refine Plan.det 3 rfl (Grow.refl) ?_
        apply Exists.intro
        refine ⟨fun vs x hR hF K hK => ?_, ?_⟩
        · have f1 := hF 0 _ _ rfl rfl; clear hF
          go_simp
          exact hK _ _ (Grow.refl _) rfl
        refine Plan.det 4 rfl (Grow.refl) ?_
        apply Exists.intro
        refine ⟨fun vs x hR hF K hK => ?_, ?_⟩
        · have f2 := hF 0 _ _ rfl rfl; clear hF
          go_simp
          exact hK _ _ (Grow.refl _) rfl
        refine Plan.det 5 rfl (Grow.refl) ?_
        apply Exists.intro
        refine ⟨fun vs x hR hF K hK => ?_, ?_⟩
        · have f3 := hF 0 _ _ rfl rfl; have hc := HC.out x hR; clear hF
          go_simp
          exact hK _ _ (Grow.refl _) rfl
        refine Plan.det 6 rfl (Grow.refl) ?_
        apply Exists.intro
        refine ⟨fun vs x hR hF K hK => ?_, ?_⟩
        · have f4 := hF 0 _ _ rfl rfl; clear hF
          go_simp
          exact hK _ _ (Grow.refl _) rfl
        refine Plan.det 7 rfl (Grow.refl) ?_
        apply Exists.intro
        refine ⟨fun vs x hR hF K hK => ?_, ?_⟩
        · have f5 := hF 0 _ _ rfl rfl; have hc := HC.out x hR; clear hF
          rw [if_pos (show Region.wanted _ _ = true from rfl)]
          refine gives_load_agg 28 _ rfl bb o f5 _ _ (HX1.out _ hR) Try.underlying28 rfl (size_re9 _ _ _ _ _ _ _ _ _) ?_
          exact hK _ _ (Grow.refl _) rfl
        refine Plan.det 8 rfl (Grow.refl) ?_
        apply Exists.intro
        refine ⟨fun vs x hR hF K hK => ?_, ?_⟩
        · clear hF
          go_simp
          exact hK _ _ (Grow.refl _) rfl
        refine Plan.det 9 rfl (Grow.refl) ?_
        apply Exists.intro
        refine ⟨fun vs x hR hF K hK => ?_, ?_⟩
        · have f7 := hF 0 _ _ rfl rfl; clear hF
          go_simp
          exact hK _ _ (Grow.refl _) rfl
        refine Plan.det 10 rfl (Grow.refl) ?_
        apply Exists.intro
        refine ⟨fun vs x hR hF K hK => ?_, ?_⟩
        · have f8 := hF 0 _ _ rfl rfl; clear hF
          go_simp
          exact hK _ _ (Grow.refl _) rfl
        refine Plan.det 11 rfl (Grow.refl) ?_
        apply Exists.intro
        refine ⟨fun vs x hR hF K hK => ?_, ?_⟩
        · have f9 := hF 0 _ _ rfl rfl; have hc := HC.out x hR; clear hF
          go_simp
          exact hK _ _ (Grow.refl _) rfl
        refine Plan.det 12 rfl (Grow.refl) ?_
        apply Exists.intro
        refine ⟨fun vs x hR hF K hK => ?_, ?_⟩
        · clear hF
          go_simp
          exact hK _ _ (Grow.refl _) rfl
        refine Plan.det 13 rfl (Grow.refl) ?_
        apply Exists.intro
        refine ⟨fun vs x hR hF K hK => ?_, ?_⟩
        · clear hF
          go_simp
          exact hK _ _ (Grow.refl _) rfl
        refine Plan.det 14 rfl (Grow.refl) ?_
        apply Exists.intro
        refine ⟨fun vs x hR hF K hK => ?_, ?_⟩
        · have f6 := hF 6 _ _ rfl rfl; have f10 := hF 2 _ _ rfl rfl; have f11 := hF 1 _ _ rfl rfl; have f12 := hF 0 _ _ rfl rfl; clear hF
          go_simp
          exact hK _ _ (Grow.refl _) rfl
        refine Plan.rel 15 rfl (Grow.refl) (fun v x => ∃ b, v = .pointer (some ⟨b, 0, none⟩) ∧ z.heap.size ≤ b ∧ Row x b (Tk 1 p' (.slice ad n' c') (.int .i64 i) (.int .i64 j) (.int .i64 0) (.slice none 0 0) (.pointer (some ⟨ab, 0, none⟩))) 90) (fun v x y hR ⟨b, h1, h2, h3⟩ => ⟨b, h1, h2, h3.below hR h3.lt⟩) (fun vs x hR hF K hK => ?_) ?_
        · have f13 := hF 0 _ _ rfl rfl
          go_simp
          exact hK _ _ (Grow.alloc _ _) ⟨_, rfl, (by have := Grow.size hR; simp at this; omega), Row.at _ _ _⟩
        refine Plan.det 16 rfl (Grow.refl) ?_
        apply Exists.intro
        refine ⟨fun vs x hR hF K hK => ?_, ?_⟩
        · clear hF
          go_simp
          exact hK _ _ (Grow.refl _) rfl
        refine PlanEnd (by simp) (fun vs x hR hF => ?_)
        have f0 := hF 15 _ _ rfl; have f1 := hF 14 _ _ rfl; have f2 := hF 13 _ _ rfl; have f3 := hF 12 _ _ rfl; have f4 := hF 11 _ _ rfl; have f5 := hF 10 _ _ rfl; have f6 := hF 9 _ _ rfl; have f7 := hF 8 _ _ rfl; have f8 := hF 7 _ _ rfl; have f9 := hF 6 _ _ rfl; have f10 := hF 5 _ _ rfl; have f11 := hF 4 _ _ rfl; have f12 := hF 3 _ _ rfl; have f13 := hF 2 _ _ rfl; have f14 := hF 1 _ _ rfl; have f15 := hF 0 _ _ rfl
        clear hF
        simp only [f0, f1, f2, f3, f4, f5, f6, f7, f8, f9, f10, f11, f12, f13, f15]
        clear f0 f1 f2 f3 f4 f5 f6 f7 f8 f9 f10 f11 f12 f13 f15
        intro oo hoo KQ hK
        obtain rfl := Option.some.inj hoo
        clear hoo
        obtain ⟨tb, ht1, ht2, ht3⟩ := f14
        generalize vs 14 = v14 at *
        subst ht1
        have HBY := hid (grow_below hR)
        have HT3 := hid ht3
        clear HX1 ht3 hR
        go_simp
        have HA1 := hid (HA.out.below HBY.out HA.out.lt)
        have HPY := hid (HPX.out.later HBY.out)
        refine (RTryC.lit (HTT.out m' hm') _ tb x0 p' ad n' c' i j _ _ sp (.cat xs j k K) _ _ _ HT3.out HX.out (by have := HO.out; rw [Re.oks] at this; exact this.1) hij2 (by omega) ⟨HPY.out.st, HPY.out.span, HPY.out.ok, .cat HA1.out HXS.out ⟨by omega, by omega⟩ HPY.out.k, HNE.out, by have := HO.out; rw [Re.oks] at this; exact this.2, hjk, hks, HPR.out.kok.mono (Nat.le_succ _)⟩).mono ?_
        rintro e w' ⟨o', m, a9, l9, c9, h1, rfl, h3, h4, h5, h6⟩
        have HE := hid h1
        have HST := hid h3
        have HFD := hid (And.intro h5 h6)
        have HBW : Hid (But [C.X] wr w') := (But.of_below (HBX.out.trans (HBY.out.mono HBX.out.size))).trans h4
        have HR4 := hid (HR0.out.but HBW.out (HPR.out.st.nX HR0.out (by decide)))
        clear h1 h3 h4 h5 h6
        refine ⟨_, rfl, hK _ _ ?_⟩
        clear hK
        unfold AfterC
        simp only [fill, dstOf, Act.put, List.getElem?_toArray, List.getElem?_cons_zero, List.getElem?_cons_succ, Option.bind_some, List.setIfInBounds_toArray, List.set_cons_zero, List.set_cons_succ, List.drop_succ_cons, List.drop_zero]
        refine Plan.det 18 rfl (fun _ => rfl) ?_
        apply Exists.intro
        refine ⟨fun vs x hR hF K hK => ?_, ?_⟩
        · have f16 := hF 0 _ _ rfl rfl; clear hF
          go_simp
          exact hK _ _ rfl rfl
        refine Plan.det 19 rfl (fun _ => rfl) ?_
        apply Exists.intro
        refine ⟨fun vs x hR hF K hK => ?_, ?_⟩
        · have f17 := hF 0 _ _ rfl rfl; clear hF
          go_simp
          exact hK _ _ rfl rfl
        refine Plan.det 20 rfl (fun _ => rfl) ?_
        apply Exists.intro
        refine ⟨fun vs x hR hF K hK => ?_, ?_⟩
        · have f17 := hF 1 _ _ rfl rfl; clear hF
          go_simp
          exact hK _ _ rfl rfl
        refine Plan.det 21 rfl (fun _ => rfl) ?_
        apply Exists.intro
        refine ⟨fun vs x hR hF K hK => ?_, ?_⟩
        · have f16 := hF 3 _ _ rfl rfl; have f17 := hF 2 _ _ rfl rfl; have f18 := hF 1 _ _ rfl rfl; clear hF
          go_simp
          exact hK _ _ rfl rfl
        refine Plan.det 22 rfl (fun _ => rfl) ?_
        apply Exists.intro
        refine ⟨fun vs x hR hF K hK => ?_, ?_⟩
        · have f16 := hF 4 _ _ rfl rfl; have f17 := hF 3 _ _ rfl rfl; have f18 := hF 2 _ _ rfl rfl; have f19 := hF 1 _ _ rfl rfl; have f20 := hF 0 _ _ rfl rfl; clear hF
          go_simp
          exact hK _ _ rfl rfl
        refine Plan.nil (fun vs x hR2 hF => ?_)
        have f16 := hF 5 _ _ rfl; have f17 := hF 4 _ _ rfl; have f18 := hF 3 _ _ rfl; have f19 := hF 2 _ _ rfl; have f20 := hF 1 _ _ rfl; have f21 := hF 0 _ _ rfl
        clear hF
        simp only [f16, f17, f18, f19, f20, f21]
        clear f16 f17 f18 f19 f20 f21
        subst hR2
        simp only [List.drop_succ_cons, List.drop_nil]
        clear HC p0 qc
        have hjw : IntKind.i64.wrap ((j : Int) - 1) = (j : Int) - 1 := by rw [IntKind.wrap_i64]; omega
        cases o' with
        | found l =>
          simp only [Out.isFound]
          go_wp2_with fail
          go_ret2
          exact HGO.out _ _ ⟨.found l, m, a9, l9, c9, HRS.out _ _ (.catjHit (by have := HE.out; rw [HJ.out] at this; exact this) (by intro h; cases h)), rfl, HST.out, HBU.out.trans HBW.out, HFD.out.1, fun h => (by cases h)⟩
        | fail =>
          simp only [Out.isFound]
          have p0 := HR4.out.c15
          have qc := HST.out.c
          go_wp2_with fail
          refine ⟨⟨(j : Int) - 1, c, false, rfl, by omega, ⟨HR4.out, by have := HJ.out; omega, HBU.out.trans HBW.out, fun _ => ⟨m, ?_, ?_, fun o2 m2 he => ?_⟩, fun e => by cases e⟩⟩, ?_⟩
          · have := (Ev.left C.str C.lines HE.out).1; omega
          · exact ⟨HST.out, HPR.out.span.but HBW.out, HPR.out.ok, HPR.out.k.but HPR.out.st HBW.out, HPR.out.kok.mono (by have := (Ev.left C.str C.lines HE.out).1; omega)⟩
          · exact HRS.out _ _ (.catjMiss (by have := HE.out; rw [HJ.out] at this; exact this) he)
          · simp [intOf]; omega
        | over =>
          simp only [Out.isFound]
          have p0 := HR4.out.c15
          have qc := HST.out.c
          go_wp2_with fail
          have h0 := (Ev.left C.str C.lines HE.out).2 rfl
          subst h0
          refine ⟨⟨(j : Int) - 1, c, true, rfl, by omega, ⟨HR4.out, by have := HJ.out; omega, HBU.out.trans HBW.out, fun e => (by cases e), fun _ => ⟨?_, ?_⟩⟩⟩, ?_⟩
          · exact HST.out
          · exact HRS.out _ _ (.catjHit (by have := HE.out; rw [HJ.out] at this; exact this) (by intro h; cases h))
          · simp [intOf]; omega

theorem rcat_any (n : Nat) (HT : ∀ m, m ≤ n → RTryC C m) : RCatC C n := by
  intro w b p sl cv a r xs i k sp K sa sc q hr hne hin hq hqm hok hik hks h
  match xs, hne with
  | [x0], _ => exact rcat_one n (HT n (Nat.le_refl _)) w b p sl cv a r x0 i k sp K sa sc q hr hin hq (by rw [Re.oks] at hok; exact hok.1) hik hks h
  | x0 :: y0 :: ys, _ => exact rcat_more n HT w b p sl cv a r x0 y0 ys i k sp K sa sc q hr hin hq hqm hok hik hks h
end Go.Proofs.Ytnnocekencaadaa
