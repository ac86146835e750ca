/- Reback's reference: try of alternatives. -/
import Derived.Test.YtnnocekencaadaaG17
import Derived.Test.YtnnocekencaadaaG18
import Derived.Test.YtnnocekencaadaaG01
namespace Go.Proofs.Ytnnocekencaadaa
open Go.RowKit
attribute [local go_sem] gives givesUpon
variable {C : RCtx}

-- def FN := (*texttools/texttoolsref14.search).try
-- def XL := [.int .i64 p.op, .int .u64 p.set.a, .int .u64 p.set.b, .int .u64 p.set.c, .int .u64 p.set.d, .int .i64 p.lo, .int .i64 p.hi, .int .i64 p.gr, .slice (some ⟨bb, o, none⟩) xs.length tc]
-- def TK := (Tk 1 p (.slice (some ⟨bb, o, none⟩) xs.length tc) (.int .i64 i) (.int .i64 k) cv av (.pointer q))
-- def W1 := (w.alloc (.cells #[.int .i64 p.op, .int .u64 p.set.a, .int .u64 p.set.b, .int .u64 p.set.c, .int .u64 p.set.d, .int .i64 p.lo, .int .i64 p.hi, .int .i64 p.gr, .slice (some ⟨bb, o, none⟩) xs.length tc] 28))
set_option maxRecDepth 100000 in
set_option maxHeartbeats 8000000 in
theorem rtry_alt (n : Nat) (HT : ∀ m, m ≤ n → RTryC C m) (w : World) (b : Nat) (p : Pay) (xs : List Re) (ta : Option Addr) (tc i k : Nat) (cv av : Value) (sp : Spans) (K : Kont) (sa : Option Addr) (sc : Nat) (q : Option Addr) (ho : p.op = 4) (hr : Row w b (Tk 1 p (.slice ta xs.length tc) (.int .i64 i) (.int .i64 k) cv av (.pointer q)) 90)
    (hin : (Re.mk p xs).In C.w0 (p.cells (.slice ta xs.length tc))) (hok : (Re.mk p xs).ok C.N) (hik : i ≤ k) (hks : k ≤ C.s.size) (h : RPre C n (C.B - n) sp K (.slice sa sp.length sc) (.pointer q) w) :
    Calls Try.prog 67 #[.pointer (some ⟨C.X, 0, none⟩), .pointer (some ⟨b, 0, none⟩), .slice sa sp.length sc] w (RGood C (Ev C.str C.lines (.try (.mk p xs) i k) sp K (n + 1)) w) := by
  rw [Re.In] at hin
  obtain ⟨ad, cp, e, hwf, hcl, hcm, -, hall⟩ := hin
  simp only [Pay.cells, List.cons.injEq, Value.slice.injEq] at e
  obtain ⟨-, -, -, -, -, -, -, -, ⟨rfl, -, rfl⟩, -⟩ := e
  rw [Re.ok] at hok
  have hne : xs ≠ [] := hok.2.1 (.inr ho)
  obtain ⟨bb, o, -, -, -, -, rfl, -, -, -⟩ := hall.kid (Below.refl _ _) 0 (List.length_pos_iff.2 hne)
  have hml : xs.length ≤ 9223372036854775807 := by unfold maxLen at hcm; omega
  have HAL := hid hall
  have HOK := hid hok.2.2.2.2
  have HP := hid h
  have HTT := hid HT
  have HO := hid ho
  have hB : Below w.heap.size w (w.alloc (.cells #[.int .i64 p.op, .int .u64 p.set.a, .int .u64 p.set.b, .int .u64 p.set.c, .int .u64 p.set.d, .int .i64 p.lo, .int .i64 p.hi, .int .i64 p.gr, .slice (some ⟨bb, o, none⟩) xs.length tc] 28)) := (Below.refl w.heap.size w).alloc (Nat.le_refl _) _
  have HRW0 : Hid (Row (w.alloc (.cells #[.int .i64 p.op, .int .u64 p.set.a, .int .u64 p.set.b, .int .u64 p.set.c, .int .u64 p.set.d, .int .i64 p.lo, .int .i64 p.hi, .int .i64 p.gr, .slice (some ⟨bb, o, none⟩) xs.length tc] 28)) b (Tk 1 p (.slice (some ⟨bb, o, none⟩) xs.length tc) (.int .i64 i) (.int .i64 k) cv av (.pointer q)) 90 ∧ Row (w.alloc (.cells #[.int .i64 p.op, .int .u64 p.set.a, .int .u64 p.set.b, .int .u64 p.set.c, .int .u64 p.set.d, .int .i64 p.lo, .int .i64 p.hi, .int .i64 p.gr, .slice (some ⟨bb, o, none⟩) xs.length tc] 28)) w.heap.size [.int .i64 p.op, .int .u64 p.set.a, .int .u64 p.set.b, .int .u64 p.set.c, .int .u64 p.set.d, .int .i64 p.lo, .int .i64 p.hi, .int .i64 p.gr, .slice (some ⟨bb, o, none⟩) xs.length tc] 28) := ⟨hr.alloc _, Row.new rfl⟩
  have HP1 := hid (h.later hB)
  have HB := hid hB
  have p0w := hr.c15
  have p0 := HRW0.out.1.c15
  have p1 := HRW0.out.2.c9
  have e6 : (p.op == 6) = false := by rw [ho]; decide
  have e4 : (p.op == 4) = true := by rw [ho]; decide
  clear h HT hall hok ho hr hB hne hcm hcl
  go_enter Try.func67, Try.ntmps67
  go_wp2_with fail
  go_loopw [10] (fun v wr => ∃ (d : Nat) (ov : Bool), v = .int .i64 d ∧ d ≤ xs.length ∧ Hid ((Row wr b (Tk 1 p (.slice (some ⟨bb, o, none⟩) xs.length tc) (.int .i64 i) (.int .i64 k) cv av (.pointer q)) 90 ∧ Row wr w.heap.size [.int .i64 p.op, .int .u64 p.set.a, .int .u64 p.set.b, .int .u64 p.set.c, .int .u64 p.set.d, .int .i64 p.lo, .int .i64 p.hi, .int .i64 p.gr, .slice (some ⟨bb, o, none⟩) xs.length tc] 28) ∧ REndsL C w n (Ev C.str C.lines (.alt xs i k) sp K n) (fun n' d => Ev C.str C.lines (.alt (xs.drop d) i k) sp K n') sp K (.slice sa sp.length sc) (.pointer q) d ov wr)) (fun v _ => xs.length - (intOf v).toNat)
  case atStart =>
    exact ⟨0, false, rfl, Nat.zero_le _, HRW0.out, But.of_below HB.out, fun _ => ⟨n, Nat.le_refl _, HP1.out, fun o2 m2 he => he⟩, fun e => (by cases e)⟩
  case round =>
    obtain ⟨d, ov, rfl, hd, HL⟩ := hrel
    obtain ⟨hrows, hE⟩ := HL.out
    have HRW := hid hrows
    clear HL p0 p1 p0w hrows
    have p0 := HRW.out.1.c15
    have p1 := HRW.out.2.c9
    cases ov with
    | true =>
      have HG := hid (hE.over.mono fun o m he => Ev.tryAlt (s := C.str) (lines := C.lines) (xs := xs) HO.out he)
      have qc := (hE.2.2 rfl).1.c
      clear hE
      by_cases hlt : d < xs.length
      · have hltI : (d : Int) < xs.length := by omega
        go_wp2_with fail
        go_ret2
        exact HG.out
      · have hltI : ¬ (d : Int) < xs.length := by omega
        go_wp2_with fail
        go_ret2
        exact HG.out
    | false =>
      obtain ⟨hbut, hpr, -⟩ := hE
      obtain ⟨m', hm', hpre, hrest⟩ := hpr rfl
      have HPR := hid hpre
      have HRS : Hid (∀ o m, Ev C.str C.lines (.alt (xs.drop d) i k) sp K m' o m → Ev C.str C.lines (.alt xs i k) sp K n o m) := hrest
      have HBU := hid hbut
      have HM' := hid hm'
      have qc := hpre.st.c
      clear hbut hpr hpre hrest
      by_cases hlt : d < xs.length
      · obtain ⟨b3, o3, p', ad', n', cap', e3, HCk, HI0, hbb⟩ := HAL.out.kid (Below.refl _ _) d hlt
        injection e3 with e3
        injection e3 with e31 e32
        subst e31
        subst e32
        have hltI : (d : Int) < xs.length := by omega
        have hdr : xs.drop d = xs[d] :: xs.drop (d + 1) := List.drop_eq_getElem_cons hlt
        have HDR := hid hdr
        have HC := hid (fun (x : World) (hx : Grow wr.drew x) => (⟨(HRW.out.1.grow hx).c15, (HRW.out.2.grow hx).c9⟩ : _ ∧ _))
        have HX1 := hid (fun (x : World) (hx : Grow wr.drew x) => HCk.out.below (HPR.out.st.below.trans ((grow_below hx).mono HPR.out.st.below.size)))
        have hwd : IntKind.i64.wrap ((d : Int) + 1) = (d : Int) + 1 := by rw [IntKind.wrap_i64]; omega
        clear hdr
        go_wp2_with fail
        refine wp_region_two 21 27 rfl (Grow) (by kernel_rfl) (by kernel_rfl) (Grow.refl) (fun _ _ _ => Grow.trans) ?_
        simp only [fill, dstOf, Act.put, List.take_succ_cons, List.take_zero, List.getElem?_toArray, List.getElem?_cons_zero, List.getElem?_cons_succ, Option.bind_some, List.setIfInBounds_toArray, List.set_cons_zero, List.set_cons_succ]
        refine Plan.det 1 rfl (Grow.refl) ?_
        apply Exists.intro
        refine ⟨fun vs x hR hF K hK => ?_, ?_⟩
        · clear hF
          go_simp
          exact hK _ _ (Grow.refl _) rfl
        refine Plan.det 2 rfl (Grow.refl) ?_
        apply Exists.intro
        refine ⟨fun vs x hR hF K hK => ?_, ?_⟩
        · clear hF
          go_simp
          exact hK _ _ (Grow.refl _) rfl
        refine Plan.det 3 rfl (Grow.refl) ?_
        apply Exists.intro
        refine ⟨fun vs x hR hF K hK => ?_, ?_⟩
        · have f1 := hF 0 _ _ rfl rfl; have hc := HC.out x hR; clear hF
          go_simp
          exact hK _ _ (Grow.refl _) rfl
        refine Plan.det 4 rfl (Grow.refl) ?_
        apply Exists.intro
        refine ⟨fun vs x hR hF K hK => ?_, ?_⟩
        · clear hF
          go_simp
          exact hK _ _ (Grow.refl _) rfl
        refine Plan.det 5 rfl (Grow.refl) ?_
        apply Exists.intro
        refine ⟨fun vs x hR hF K hK => ?_, ?_⟩
        · have f2 := hF 1 _ _ rfl rfl; have f3 := hF 0 _ _ rfl rfl; clear hF
          go_simp
          exact hK _ _ (Grow.refl _) rfl
        refine Plan.det 6 rfl (Grow.refl) ?_
        apply Exists.intro
        refine ⟨fun vs x hR hF K hK => ?_, ?_⟩
        · have f4 := hF 0 _ _ rfl rfl; have hc := HC.out x hR; clear hF
          rw [if_pos (show Region.wanted _ _ = true from rfl)]
          refine gives_load_agg 28 _ rfl bb (o + d * 9) f4 _ _ (HX1.out _ hR) Try.underlying28 rfl (size_re9 _ _ _ _ _ _ _ _ _) ?_
          exact hK _ _ (Grow.refl _) rfl
        refine Plan.det 7 rfl (Grow.refl) ?_
        apply Exists.intro
        refine ⟨fun vs x hR hF K hK => ?_, ?_⟩
        · clear hF
          go_simp
          exact hK _ _ (Grow.refl _) rfl
        refine Plan.det 8 rfl (Grow.refl) ?_
        apply Exists.intro
        refine ⟨fun vs x hR hF K hK => ?_, ?_⟩
        · have f6 := hF 0 _ _ rfl rfl; clear hF
          go_simp
          exact hK _ _ (Grow.refl _) rfl
        refine Plan.det 9 rfl (Grow.refl) ?_
        apply Exists.intro
        refine ⟨fun vs x hR hF K hK => ?_, ?_⟩
        · have f7 := hF 0 _ _ rfl rfl; clear hF
          go_simp
          exact hK _ _ (Grow.refl _) rfl
        refine Plan.det 10 rfl (Grow.refl) ?_
        apply Exists.intro
        refine ⟨fun vs x hR hF K hK => ?_, ?_⟩
        · have f8 := hF 0 _ _ rfl rfl; have hc := HC.out x hR; clear hF
          go_simp
          exact hK _ _ (Grow.refl _) rfl
        refine Plan.det 11 rfl (Grow.refl) ?_
        apply Exists.intro
        refine ⟨fun vs x hR hF K hK => ?_, ?_⟩
        · clear hF
          go_simp
          exact hK _ _ (Grow.refl _) rfl
        refine Plan.det 12 rfl (Grow.refl) ?_
        apply Exists.intro
        refine ⟨fun vs x hR hF K hK => ?_, ?_⟩
        · have f10 := hF 0 _ _ rfl rfl; clear hF
          go_simp
          exact hK _ _ (Grow.refl _) rfl
        refine Plan.det 13 rfl (Grow.refl) ?_
        apply Exists.intro
        refine ⟨fun vs x hR hF K hK => ?_, ?_⟩
        · have f11 := hF 0 _ _ rfl rfl; clear hF
          go_simp
          exact hK _ _ (Grow.refl _) rfl
        refine Plan.det 14 rfl (Grow.refl) ?_
        apply Exists.intro
        refine ⟨fun vs x hR hF K hK => ?_, ?_⟩
        · have f12 := hF 0 _ _ rfl rfl; have hc := HC.out x hR; clear hF
          go_simp
          exact hK _ _ (Grow.refl _) rfl
        refine Plan.det 15 rfl (Grow.refl) ?_
        apply Exists.intro
        refine ⟨fun vs x hR hF K hK => ?_, ?_⟩
        · clear hF
          go_simp
          exact hK _ _ (Grow.refl _) rfl
        refine Plan.det 16 rfl (Grow.refl) ?_
        apply Exists.intro
        refine ⟨fun vs x hR hF K hK => ?_, ?_⟩
        · have f14 := hF 0 _ _ rfl rfl; clear hF
          go_simp
          exact hK _ _ (Grow.refl _) rfl
        refine Plan.det 17 rfl (Grow.refl) ?_
        apply Exists.intro
        refine ⟨fun vs x hR hF K hK => ?_, ?_⟩
        · have f15 := hF 0 _ _ rfl rfl; clear hF
          go_simp
          exact hK _ _ (Grow.refl _) rfl
        refine Plan.det 18 rfl (Grow.refl) ?_
        apply Exists.intro
        refine ⟨fun vs x hR hF K hK => ?_, ?_⟩
        · have f16 := hF 0 _ _ rfl rfl; have hc := HC.out x hR; clear hF
          go_simp
          exact hK _ _ (Grow.refl _) rfl
        refine Plan.det 19 rfl (Grow.refl) ?_
        apply Exists.intro
        refine ⟨fun vs x hR hF K hK => ?_, ?_⟩
        · have f5 := hF 12 _ _ rfl rfl; have f9 := hF 8 _ _ rfl rfl; have f13 := hF 4 _ _ rfl rfl; have f17 := hF 0 _ _ rfl rfl; clear hF
          go_simp
          exact hK _ _ (Grow.refl _) rfl
        refine Plan.rel 20 rfl (Grow.refl) (fun v x => ∃ b, v = .pointer (some ⟨b, 0, none⟩) ∧ wr.heap.size ≤ b ∧ Row x b (Tk 1 p' (.slice ad' n' cap') (.int .i64 i) (.int .i64 k) (.int .i64 0) (.slice none 0 0) (.pointer q)) 90) (fun v x y hR ⟨b, h1, h2, h3⟩ => ⟨b, h1, h2, h3.below hR h3.lt⟩) (fun vs x hR hF K hK => ?_) ?_
        · have f18 := hF 0 _ _ rfl rfl
          go_simp
          exact hK _ _ (Grow.alloc _ _) ⟨_, rfl, (by have := Grow.size hR; simp at this; omega), Row.at _ _ _⟩
        refine Plan.det 21 rfl (Grow.refl) ?_
        apply Exists.intro
        refine ⟨fun vs x hR hF K hK => ?_, ?_⟩
        · clear hF
          go_simp
          exact hK _ _ (Grow.refl _) rfl
        refine PlanEnd (by simp) (fun vs x hR hF => ?_)
        have f0 := hF 20 _ _ rfl; have f1 := hF 19 _ _ rfl; have f2 := hF 18 _ _ rfl; have f3 := hF 17 _ _ rfl; have f4 := hF 16 _ _ rfl; have f5 := hF 15 _ _ rfl; have f6 := hF 14 _ _ rfl; have f7 := hF 13 _ _ rfl; have f8 := hF 12 _ _ rfl; have f9 := hF 11 _ _ rfl; have f10 := hF 10 _ _ rfl; have f11 := hF 9 _ _ rfl; have f12 := hF 8 _ _ rfl; have f13 := hF 7 _ _ rfl; have f14 := hF 6 _ _ rfl; have f15 := hF 5 _ _ rfl; have f16 := hF 4 _ _ rfl; have f17 := hF 3 _ _ rfl; have f18 := hF 2 _ _ rfl; have f19 := hF 1 _ _ rfl; have f20 := hF 0 _ _ rfl
        clear hF
        simp only [f0, f1, f2, f3, f4, f5, f6, f7, f8, f9, f10, f11, f12, f13, f14, f15, f16, f17, f18, f20]
        clear f0 f1 f2 f3 f4 f5 f6 f7 f8 f9 f10 f11 f12 f13 f14 f15 f16 f17 f18 f20
        intro oo hoo KQ hK
        obtain rfl := Option.some.inj hoo
        clear hoo
        obtain ⟨tb, ht1, ht2, ht3⟩ := f19
        generalize vs 19 = v19 at *
        subst ht1
        have HBY := hid (grow_below hR)
        have HT3 := hid ht3
        clear HX1 ht3 hR
        go_simp
        have HPY := hid (HPR.out.later HBY.out)
        refine (RTryC.lit (HTT.out m' HM'.out) _ tb xs[d] p' ad' n' cap' i k _ _ sp K _ _ _ HT3.out HI0.out (Re.oks_get HOK.out d hlt) hik hks (HPY.out.mono (Nat.le_succ _))).mono ?_
        rintro e w' ⟨o', m, a9, l9, c9, h1, rfl, h3, h4, h5, h6⟩
        have HE := hid h1
        have HST := hid h3
        have HFD := hid (And.intro h5 h6)
        have HBW : Hid (But [C.X] wr w') := (But.of_below HBY.out).trans h4
        have HR4 : Hid (_ ∧ _) := ⟨HRW.out.1.but HBW.out (HPR.out.st.nX HRW.out.1 (by decide)), HRW.out.2.but HBW.out (HPR.out.st.nX HRW.out.2 (by decide))⟩
        clear h1 h3 h4 h5 h6
        refine ⟨_, rfl, hK _ _ ?_⟩
        clear hK
        unfold AfterC
        simp only [fill, dstOf, Act.put, List.getElem?_toArray, List.getElem?_cons_zero, List.getElem?_cons_succ, Option.bind_some, List.setIfInBounds_toArray, List.set_cons_zero, List.set_cons_succ, List.drop_succ_cons, List.drop_zero]
        refine Plan.det 23 rfl (fun _ => rfl) ?_
        apply Exists.intro
        refine ⟨fun vs x hR hF K hK => ?_, ?_⟩
        · have f21 := hF 0 _ _ rfl rfl; clear hF
          go_simp
          exact hK _ _ rfl rfl
        refine Plan.det 24 rfl (fun _ => rfl) ?_
        apply Exists.intro
        refine ⟨fun vs x hR hF K hK => ?_, ?_⟩
        · have f22 := hF 0 _ _ rfl rfl; clear hF
          go_simp
          exact hK _ _ rfl rfl
        refine Plan.det 25 rfl (fun _ => rfl) ?_
        apply Exists.intro
        refine ⟨fun vs x hR hF K hK => ?_, ?_⟩
        · have f22 := hF 1 _ _ rfl rfl; clear hF
          go_simp
          exact hK _ _ rfl rfl
        refine Plan.det 26 rfl (fun _ => rfl) ?_
        apply Exists.intro
        refine ⟨fun vs x hR hF K hK => ?_, ?_⟩
        · have f21 := hF 3 _ _ rfl rfl; have f22 := hF 2 _ _ rfl rfl; have f23 := hF 1 _ _ rfl rfl; clear hF
          go_simp
          exact hK _ _ rfl rfl
        refine Plan.det 27 rfl (fun _ => rfl) ?_
        apply Exists.intro
        refine ⟨fun vs x hR hF K hK => ?_, ?_⟩
        · have f21 := hF 4 _ _ rfl rfl; have f22 := hF 3 _ _ rfl rfl; have f23 := hF 2 _ _ rfl rfl; have f24 := hF 1 _ _ rfl rfl; have f25 := hF 0 _ _ rfl rfl; clear hF
          go_simp
          exact hK _ _ rfl rfl
        refine Plan.nil (fun vs x hR2 hF => ?_)
        have f21 := hF 5 _ _ rfl; have f22 := hF 4 _ _ rfl; have f23 := hF 3 _ _ rfl; have f24 := hF 2 _ _ rfl; have f25 := hF 1 _ _ rfl; have f26 := hF 0 _ _ rfl
        clear hF
        simp only [f21, f22, f23, f24, f25, f26]
        clear f21 f22 f23 f24 f25 f26
        subst hR2
        simp only [List.drop_succ_cons, List.drop_nil]
        clear HC p0 p1 qc
        cases o' with
        | found l =>
          simp only [Out.isFound]
          go_wp2_with fail
          go_ret2
          exact ⟨.found l, m, a9, l9, c9, .tryAlt HO.out (HRS.out _ _ (by rw [HDR.out]; exact .altHit HE.out (by intro h; cases h))), rfl, HST.out, HBU.out.trans HBW.out, HFD.out.1, fun h => (by cases h)⟩
        | fail =>
          simp only [Out.isFound]
          have p0 := HR4.out.1.c15
          have p1 := HR4.out.2.c9
          have qc := HST.out.c
          go_wp2_with fail
          refine ⟨⟨d + 1, false, by go_num, by omega, ⟨HR4.out, HBU.out.trans HBW.out, fun _ => ⟨m, ?_, ?_, fun o2 m2 he => ?_⟩, fun e => (by cases e)⟩⟩, ?_⟩
          · have := (Ev.left C.str C.lines HE.out).1; have := HM'.out; omega
          · exact ⟨HST.out, HPR.out.span.but HBW.out, HPR.out.ok, HPR.out.k.but HPR.out.st HBW.out, HPR.out.kok.mono (by have := (Ev.left C.str C.lines HE.out).1; omega)⟩
          · exact HRS.out _ _ (by rw [HDR.out]; exact .altMiss HE.out he)
          · simp [intOf] <;> omega
        | over =>
          simp only [Out.isFound]
          have p0 := HR4.out.1.c15
          have p1 := HR4.out.2.c9
          have qc := HST.out.c
          go_wp2_with fail
          have h0 := (Ev.left C.str C.lines HE.out).2 rfl
          subst h0
          refine ⟨⟨d + 1, true, by go_num, by omega, ⟨HR4.out, HBU.out.trans HBW.out, fun e => (by cases e), fun _ => ⟨?_, ?_⟩⟩⟩, ?_⟩
          · exact HST.out
          · exact HRS.out _ _ (by rw [HDR.out]; exact .altHit HE.out (by intro h; cases h))
          · simp [intOf] <;> omega
      · obtain rfl : d = xs.length := by omega
        go_wp2_with fail
        go_ret2
        exact ⟨.fail, m', none, 0, 0, .tryAlt HO.out (HRS.out _ _ (by rw [List.drop_length]; exact .altNone)), rfl, HPR.out.st, HBU.out, fun l hl => (by cases hl), fun _ => ⟨rfl, rfl, rfl⟩⟩
end Go.Proofs.Ytnnocekencaadaa

/- Append to a slice of the call's own: what is owned behind it, and where it may lie. Nothing here speaks of the program. -/
namespace Go.Proofs.Ytnnocekencaadaa
open Go.RowKit

theorem ownsRow_base {w : World} {b b' : Nat} {e : TypeId} {size : Nat} {v : Value} {n : Nat} {xs : List Value} (h : w.ownsRow b e size v n xs) (hb : b' ≤ b) : w.ownsRow b' e size v n xs := by
  obtain ⟨h1, h2⟩ := h
  refine ⟨h1, ?_⟩
  rcases h2 with h2 | ⟨g, cap, cur, hv, hg, hr⟩
  · exact .inl h2
  · exact .inr ⟨g, cap, cur, hv, Nat.le_trans hb hg, hr⟩
theorem ownsRow_shape {w : World} {b : Nat} {e : TypeId} {size : Nat} {v : Value} {n : Nat} {xs : List Value} (h : w.ownsRow b e size v n xs) : ∃ a c, v = .slice a n c := by
  rcases h.2 with ⟨rfl, rfl⟩ | ⟨g, cap, cur, rfl, _⟩
  · exact ⟨_, _, rfl⟩
  · exact ⟨_, _, rfl⟩

theorem wpList_append_row {P : Program} {ops : Array Oper} {rest : List Oper} {o : Oper} {a : Act} {w : World} {Q : Exit → Act → World → Prop} (hgd : o.guard = none) (s x : Operand) (t : TypeId)
    (ho : o.op = .call { callee := .builtin .append, args := #[s, x], argTypes := #[t, t] })
    (base : Nat) (e : TypeId) (i : TypeInfo) (z : Value) (size bytes : Nat) (ht : P.underlying t = some (.slice e)) (hi : P.info? e = some i) (hz : i.zero = some z)
    (hsize : i.size = size) (hby : i.bytes = bytes) (hzs : z.cells.size = size) (hsz : 0 < size)
    (v : Value) (n : Nat) (xs : List Value) (hs : a.eval s = v) (hown : w.ownsRow base e size v n xs)
    (ad : Addr) (m c : Nat) (news : List Value) (hx : a.eval x = .slice (some ad) m c) (hl : news.length = m * size) (hnews : ∀ j u, news[j]? = some u → w.cell? (ad.add j) = some u) (h1 : ∀ u ∈ news, u.oneCell' = true)
    (h63 : n + m ≤ maxLen) (hbytes : (n + m) * bytes ≤ 140737488355328) (hbase : base ≤ w.heap.size) (hm : 0 < m)
    (h : ∀ a' c' w', w'.ownsRow base e size (.slice a' (n + m) c') (n + m) (xs ++ news) → w.grownBy w' v.ownBlock → (∀ g, (Value.slice a' (n + m) c').ownBlock = some g → v.ownBlock = some g ∨ w.heap.size ≤ g) →
      wpList P ops Q rest (a.put o.dst (.slice a' (n + m) c')) w') : wpList P ops Q (o :: rest) a w := by
  have grows : ∀ (ao : Option Addr) (cap : Nat), a.eval s = .slice ao n cap → (ao = none → n = 0 ∧ cap = 0) → (∀ b, ao = some b → ∀ j u, xs[j]? = some u → w.cell? (b.add j) = some u) → cap < n + m → wpList P ops Q (o :: rest) a w := by
    intro ao cap hs' hnone hold hfull
    refine wpList_append_grows w hgd s x t ho e i z size bytes ht hi hz hsize hby hzs hsz ao n cap xs hs' hnone hown.1 hold ad m c news hx hl hnews h1 hfull h63 hbytes fun v' w' ho' hg' => ?_
    obtain ⟨a', c', rfl⟩ := ownsRow_shape ho'
    refine h a' c' w' (ownsRow_base ho' hbase) ⟨hg'.os, hg'.tape, hg'.output, hg'.size, fun k hk _ => hg'.block k hk (by simp)⟩ fun g hg => .inr ?_
    exact (World.ownsRow.lt ho' g hg).1
  have hown0 := hown
  obtain ⟨hlen, hv⟩ := hown
  rcases hv with ⟨rfl, rfl⟩ | ⟨g, cap, cur, rfl, hg, hcur, hnc, hcm, hsz2, hxs⟩
  · exact grows none 0 hs (fun _ => ⟨rfl, rfl⟩) (fun b hb => by cases hb) (by omega)
  · by_cases hfit : n + m ≤ cap
    · exact wpList_append_fits w hgd s x t ho base e i size ht hi hsize g n cap xs hs hown0 ad m c news hx hl hnews h1 hfit fun w' h2 h3 => h _ _ w' h2 h3 fun k hk => .inl hk
    · exact grows (some ⟨g, 0, none⟩) cap hs (fun hb => by cases hb) (fun b hb j u hj => by cases hb; exact World.ownsRow.cells hown0 rfl j u hj) (by omega)
end Go.Proofs.Ytnnocekencaadaa
