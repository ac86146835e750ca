/- Reback: what follows in a list of trees; the tree that is such a list. -/
import Derived.Test.YthnpbopnpdlmnaaD29
import Derived.Test.YthnpbopnpdlmnaaD03
namespace Go.Proofs.Ythnpbopnpdlmnaa
open Go.RowKit
attribute [local go_sem] gives givesUpon
variable {C : Ctx}

theorem Re.AllIn.shift {w : World} {b o : Nat} : ∀ {xs : List Re} {k d : Nat}, Re.AllIn w xs (some ⟨b, o, none⟩) (k + d) → Re.AllIn w xs (some ⟨b, o + d, none⟩) k
  | [], k, d, h => by rw [Re.AllIn]; trivial
  | t :: ts, k, d, h => by
    rw [Re.AllIn] at h ⊢
    obtain ⟨⟨b', o', cs, h1, h2, h3⟩, h4⟩ := h
    injection h1 with h1
    injection h1 with e1 e2 e3
    subst e1; subst e2
    refine ⟨⟨b, o + d, cs, rfl, by rw [show o + d + k = o + (k + d) by omega]; exact h2, h3⟩, ?_⟩
    exact Re.AllIn.shift (k := k + 9) (by rw [show k + 9 + d = k + d + 9 by omega]; exact h4)
theorem Good.on {E E' : Out → Nat → Prop} {v w : World} {e : Ending} {w' : World} (h : Good C E w e w') (hb : Below v.heap.size v w) (hE : ∀ o m, E o m → E' o m) : ∃ fo, e = .returned (.bool fo) ∧ Hid (Good C E' v (.returned (.bool fo)) w') := by
  obtain ⟨o, m, h1, rfl, h3, h4, h5⟩ := h
  exact ⟨o.isFound, rfl, o, m, hE o m h1, rfl, h3, (But.of_below hb).trans h4, h5⟩

set_option maxRecDepth 100000 in
set_option maxHeartbeats 8000000 in
theorem next_cat (n : Nat) (HC : CatC C n) (xs : List Re) (j k : Nat) (K : Kont) : NextC C n (.cat xs j k K) := by
  intro w sp sv fid' cap' h
  have hk := h.k
  obtain ⟨sa, sc, rfl⟩ := h.span.form
  have hkok := h.kok
  cases hk with
  | @cat mb ab tb jb a q x _ p sa' ta i sn' sc' tn tc _ _ fid cap _ hm ha hx hq ht hj hk =>
    rw [Kont.ok] at hkok
    obtain ⟨k1, k2, k3, k4, k5⟩ := hkok
    obtain ⟨b, o, p', ad, n', c', rfl, -⟩ := hx.first (Below.refl _ _)
    rw [Re.AllIn] at hx
    have HX : Hid (Re.AllIn C.w0 xs (some ⟨b, o + 9, none⟩) 0) := Re.AllIn.shift (k := 0) hx.2
    have HP := hid h
    have HK := hid hk
    have HCC := hid HC
    have HOK := hid k2
    have HK5 := hid k5
    have HNE := hid k1
    have HRR := hid (fun (x : World) (hx : Grow w.drew x) => (⟨(hm.grow hx).cell 0, (ha.grow hx).cell 0, (ht.grow hx).c13, (hj.grow hx).cell 0⟩ : _ ∧ _ ∧ _ ∧ _))
    have hlen : 1 ≤ xs.length := by
      cases xs with
      | nil => exact absurd rfl k1
      | cons => simp
    have hq1 : (1 : Int) ≤ xs.length + 1 := by omega
    clear h hx hk HC k5 k2 k1 hm ha ht hj
    go_enter Try.func100, Try.ntmps100
    go_wp2_with fail
    have HC := HRR
    refine wp_region_inv 12 (Grow) (by kernel_rfl) (by kernel_rfl) (Grow.refl) (fun _ _ _ => Grow.trans) ?_
    simp only [fill, dstOf, Act.put, List.take_succ_cons, List.take_zero, List.getElem?_toArray, List.getElem?_cons_zero, List.getElem?_cons_succ, Option.bind_some, List.setIfInBounds_toArray, List.set_cons_zero, List.set_cons_succ]
    refine Plan.det 1 rfl (Grow.refl) ?_
    apply Exists.intro
    refine ⟨fun vs x hR hF K hK => ?_, ?_⟩
    · have hc := HC.out x hR; clear hF
      go_simp
      exact hK _ _ (Grow.refl _) rfl
    refine Plan.det 2 rfl (Grow.refl) ?_
    apply Exists.intro
    refine ⟨fun vs x hR hF K hK => ?_, ?_⟩
    · have hc := HC.out x hR; clear hF
      go_simp
      exact hK _ _ (Grow.refl _) rfl
    refine Plan.det 3 rfl (Grow.refl) ?_
    apply Exists.intro
    refine ⟨fun vs x hR hF K hK => ?_, ?_⟩
    · have f1 := hF 0 _ _ rfl rfl; clear hF
      go_simp
      exact hK _ _ (Grow.refl _) rfl
    refine Plan.det 4 rfl (Grow.refl) ?_
    apply Exists.intro
    refine ⟨fun vs x hR hF K hK => ?_, ?_⟩
    · clear hF
      go_simp
      exact hK _ _ (Grow.refl _) rfl
    refine Plan.det 5 rfl (Grow.refl) ?_
    apply Exists.intro
    refine ⟨fun vs x hR hF K hK => ?_, ?_⟩
    · have f3 := hF 0 _ _ rfl rfl; have hc := HC.out x hR; clear hF
      go_simp
      exact hK _ _ (Grow.refl _) rfl
    refine Plan.det 6 rfl (Grow.refl) ?_
    apply Exists.intro
    refine ⟨fun vs x hR hF K hK => ?_, ?_⟩
    · have hc := HC.out x hR; clear hF
      go_simp
      exact hK _ _ (Grow.refl _) rfl
    refine Plan.det 7 rfl (Grow.refl) ?_
    apply Exists.intro
    refine ⟨fun vs x hR hF K hK => ?_, ?_⟩
    · clear hF
      go_simp
      exact hK _ _ (Grow.refl _) rfl
    refine Plan.det 8 rfl (Grow.refl) ?_
    apply Exists.intro
    refine ⟨fun vs x hR hF K hK => ?_, ?_⟩
    · have f6 := hF 0 _ _ rfl rfl; have hc := HC.out x hR; clear hF
      go_simp
      exact hK _ _ (Grow.refl _) rfl
    refine Plan.det 9 rfl (Grow.refl) ?_
    apply Exists.intro
    refine ⟨fun vs x hR hF K hK => ?_, ?_⟩
    · clear hF
      go_simp
      exact hK _ _ (Grow.refl _) rfl
    refine Plan.det 10 rfl (Grow.refl) ?_
    apply Exists.intro
    refine ⟨fun vs x hR hF K hK => ?_, ?_⟩
    · clear hF
      go_simp
      exact hK _ _ (Grow.refl _) rfl
    refine Plan.det 11 rfl (Grow.refl) ?_
    apply Exists.intro
    refine ⟨fun vs x hR hF K hK => ?_, ?_⟩
    · have f9 := hF 0 _ _ rfl rfl; have hc := HC.out x hR; clear hF
      go_simp
      exact hK _ _ (Grow.refl _) rfl
    refine Plan.det 12 rfl (Grow.refl) ?_
    apply Exists.intro
    refine ⟨fun vs x hR hF K hK => ?_, ?_⟩
    · have f4 := hF 6 _ _ rfl rfl; have f5 := hF 5 _ _ rfl rfl; have f7 := hF 3 _ _ rfl rfl; have f8 := hF 2 _ _ rfl rfl; have f10 := hF 0 _ _ rfl rfl; clear hF
      go_simp
      exact hK _ _ (Grow.refl _) rfl
    refine Plan.nil (fun vs x hR hF => ?_)
    have f0 := hF 11 _ _ rfl; have f1 := hF 10 _ _ rfl; have f2 := hF 9 _ _ rfl; have f3 := hF 8 _ _ rfl; have f4 := hF 7 _ _ rfl; have f5 := hF 6 _ _ rfl; have f6 := hF 5 _ _ rfl; have f7 := hF 4 _ _ rfl; have f8 := hF 3 _ _ rfl; have f9 := hF 2 _ _ rfl; have f10 := hF 1 _ _ rfl; have f11 := hF 0 _ _ rfl
    clear hF
    simp only [f0, f1, f2, f3, f4, f5, f6, f7, f8, f9, f10, f11]
    clear f0 f1 f2 f3 f4 f5 f6 f7 f8 f9 f10 f11
    simp only [List.drop_succ_cons, List.drop_zero]
    have HBX := hid (grow_below hR)
    clear HC HRR hR
    go_wp2_with fail
    refine (HCC.out _ xs (some ⟨b, o + 9, none⟩) (q - 1) p ta tn tc j k sp K sa sc fid cap HNE.out HX.out (by omega) (by omega) HOK.out k3 k4 ⟨(HP.out.later HBX.out).st, (HP.out.later HBX.out).span, HP.out.ok, HK.out.later HP.out.st HBX.out, HK5.out⟩).mono ?_
    rintro e w' hg
    obtain ⟨fo, rfl, HG⟩ := hg.on HBX.out (fun o m he => Ev.nextCat (s := C.str) (lines := C.lines) he)
    clear hg
    go_wp2_with fail
    go_ret
    exact HG.out

set_option maxRecDepth 100000 in
set_option maxHeartbeats 8000000 in
theorem arm3 (n : Nat) (HC : CatC C n) : ArmC C n 3 79 (fun t => #[t, .pointer (some ⟨C.MB, 0, none⟩)]) := by
  intro w p xs ta tc i k sp K sa sc fid cap h ho hin hok hik hks
  rw [Re.In] at hin
  obtain ⟨ad, cp, e, hwf, hcl, hcm, -, hall⟩ := hin
  simp only [Pay.cells, List.cons.injEq, Value.slice.injEq] at e
  obtain ⟨-, -, -, -, -, -, -, -, ⟨rfl, -, rfl⟩, -⟩ := e
  rw [Re.ok] at hok
  have HP := hid h
  have HCC := hid HC
  have HAL := hid hall
  have HNE := hid (hok.2.1 (.inl ho))
  have HOK := hid hok.2.2.2.2
  have HO := hid ho
  have R0 : Row (w.alloc (.cells #[.int .i64 p.op, .int .u64 p.set.a, .int .u64 p.set.b, .int .u64 p.set.c, .int .u64 p.set.d, .int .i64 p.lo, .int .i64 p.hi, .int .i64 p.gr, .slice ta xs.length tc, .int .i64 i, .int .i64 k, .slice sa sp.length sc, .func (.func fid) #[] cap] 138)) w.heap.size _ _ := Row.new rfl
  have HB := hid ((Below.refl w.heap.size w).alloc (Nat.le_refl _) (.cells #[.int .i64 p.op, .int .u64 p.set.a, .int .u64 p.set.b, .int .u64 p.set.c, .int .u64 p.set.d, .int .i64 p.lo, .int .i64 p.hi, .int .i64 p.gr, .slice ta xs.length tc, .int .i64 i, .int .i64 k, .slice sa sp.length sc, .func (.func fid) #[] cap] 138))
  have q0 := R0.c13
  have q1 := (h.later HB.out).st.mb.cell 0
  clear h hok hall ho R0 HC
  go_enter Try.func79, Try.ntmps79
  go_wp2_with fail
  refine (HCC.out _ xs ta tc p ta xs.length tc i k sp K sa sc fid cap HNE.out HAL.out hcl hcm HOK.out hik hks (HP.out.later HB.out)).mono ?_
  rintro e w' hg
  obtain ⟨fo, rfl, HG⟩ := hg.on HB.out (fun o m he => Ev.tryCat (s := C.str) (lines := C.lines) (xs := xs) HO.out he)
  clear hg
  go_wp2_with fail
  go_ret
  exact HG.out
end Go.Proofs.Ythnpbopnpdlmnaa

/- Reback: alternatives. -/
namespace Go.Proofs.Ythnpbopnpdlmnaa
open Go.RowKit
attribute [local go_sem] gives givesUpon
variable {C : Ctx}

theorem Re.oks_get {N : Nat} : ∀ {xs : List Re}, Re.oks N xs → ∀ (d : Nat) (h : d < xs.length), xs[d].ok N
  | t :: ts, h, 0, hd => by rw [Re.oks] at h; exact h.1
  | t :: ts, h, d + 1, hd => by rw [Re.oks] at h; exact Re.oks_get h.2 d (by simpa using hd)
def AltLK (C : Ctx) (w : World) (n : Nat) (xs : List Re) (i k : Nat) (sp : Spans) (K : Kont) (TKL : List Value) (sv nv : Value) (d : Nat) (wr : World) : Prop :=
  Row wr w.heap.size TKL 138 ∧ EndsL C w n (Ev C.str C.lines (.alt xs i k) sp K n) (fun n' d => Ev C.str C.lines (.alt (xs.drop d) i k) sp K n') sp K sv nv d false wr
set_option maxRecDepth 100000 in
set_option maxHeartbeats 8000000 in
theorem arm4 (n : Nat) (HT : ∀ m, m ≤ n → TryC C m) : ArmC C n 4 81 (fun t => #[.pointer (some ⟨C.M, 0, none⟩), t]) := by
  intro w p xs ta tc i k sp K sa sc fid cap h ho hin hok hik hks
  rw [Re.In] at hin
  obtain ⟨ad, cp, e, hwf, hcl, hcm, -, hall⟩ := hin
  simp only [Pay.cells, List.cons.injEq, Value.slice.injEq] at e
  obtain ⟨-, -, -, -, -, -, -, -, ⟨rfl, -, rfl⟩, -⟩ := e
  rw [Re.ok] at hok
  have HGO : Hid (∀ (e : Ending) (w' : World), Good C (Ev C.str C.lines (.alt xs i k) sp K n) w e w' → Good C (Ev C.str C.lines (.try (.mk p xs) i k) sp K (n + 1)) w e w') := fun e w' hg => hg.mono fun o m he => .tryAlt ho he
  have hml : xs.length ≤ maxLen := by omega
  unfold maxLen at hml
  have HP := hid h
  have HTT := hid HT
  have HAL := hid hall
  have HOK := hid hok.2.2.2.2
  have R0 : Row (w.alloc (.cells #[.int .i64 p.op, .int .u64 p.set.a, .int .u64 p.set.b, .int .u64 p.set.c, .int .u64 p.set.d, .int .i64 p.lo, .int .i64 p.hi, .int .i64 p.gr, .slice ta xs.length tc, .int .i64 i, .int .i64 k, .slice sa sp.length sc, .func (.func fid) #[] cap] 138)) w.heap.size [.int .i64 p.op, .int .u64 p.set.a, .int .u64 p.set.b, .int .u64 p.set.c, .int .u64 p.set.d, .int .i64 p.lo, .int .i64 p.hi, .int .i64 p.gr, .slice ta xs.length tc, .int .i64 i, .int .i64 k, .slice sa sp.length sc, .func (.func fid) #[] cap] 138 := Row.new rfl
  have HB := hid ((Below.refl w.heap.size w).alloc (Nat.le_refl _) (.cells #[.int .i64 p.op, .int .u64 p.set.a, .int .u64 p.set.b, .int .u64 p.set.c, .int .u64 p.set.d, .int .i64 p.lo, .int .i64 p.hi, .int .i64 p.gr, .slice ta xs.length tc, .int .i64 i, .int .i64 k, .slice sa sp.length sc, .func (.func fid) #[] cap] 138))
  have q0 := R0.c13
  have HR0 := hid R0
  clear h hok hall ho R0 HT
  go_enter Try.func81, Try.ntmps81
  go_wp2_with fail
  go_loopw [11] (fun v wr => ∃ d : Nat, v = .int .i64 d ∧ d ≤ xs.length ∧ Hid (AltLK C w n xs i k sp K [.int .i64 p.op, .int .u64 p.set.a, .int .u64 p.set.b, .int .u64 p.set.c, .int .u64 p.set.d, .int .i64 p.lo, .int .i64 p.hi, .int .i64 p.gr, .slice ta xs.length tc, .int .i64 i, .int .i64 k, .slice sa sp.length sc, .func (.func fid) #[] cap] (.slice sa sp.length sc) (.func (.func fid) #[] cap) d wr)) (fun v wr => xs.length - (intOf v).toNat)
  case atStart =>
    exact ⟨0, rfl, Nat.zero_le _, HR0.out, But.of_below HB.out, fun _ => ⟨n, Nat.le_refl _, HP.out.later HB.out, fun o m he => he⟩, fun e => (by cases e)⟩
  case round =>
    obtain ⟨d, rfl, hd, HL⟩ := hrel
    obtain ⟨r0, hbut, hpr, -⟩ := HL.out
    obtain ⟨m', hm', hpre, hrest⟩ := hpr rfl
    have HPR := hid hpre
    have HRS := hid hrest
    have HBU := hid hbut
    have HRR := hid r0
    have p0 := r0.c13
    have hwl := r0.lt
    by_cases hlt : d < xs.length
    · obtain ⟨b, o, p', ad', n', cap', rfl, HC, HI0, hbb⟩ := HAL.out.kid hpre.st.below d hlt
      have qc := hpre.st.c
      clear hbut hpr hpre hrest r0 q0 HL
      have hltI : (d : Int) < xs.length := by omega
      go_wp2_with (first | (with_reducible (refine wpList_load_agg rfl 28 _ rfl b (o + (d * 9)) rfl _ _ HC.out Try.underlying28 rfl (size_re9 _ _ _ _ _ _ _ _ _) ?_)))
      have hal := (Below.refl wr.heap.size wr).alloc (Nat.le_refl _) (.cells #[.int .i64 p'.op, .int .u64 p'.set.a, .int .u64 p'.set.b, .int .u64 p'.set.c, .int .u64 p'.set.d, .int .i64 p'.lo, .int .i64 p'.hi, .int .i64 p'.gr, .slice ad' n' cap'] 28)
      have hdr : xs.drop d = xs[d] :: xs.drop (d + 1) := List.drop_eq_getElem_cons hlt
      have HDR := hid hdr
      refine (TryC.lit (HTT.out m' hm') _ xs[d] p' ad' n' cap' i k sp K _ _ HI0.out (Re.oks_get HOK.out d hlt) hik hks ((HPR.out.later hal).mono (Nat.le_succ _))).mono ?_
      rintro e w' ⟨o', m, h1, rfl, h3, h4, h5⟩
      have HE := hid h1
      have HST := hid h3
      have HFD := hid h5
      have HBW : Hid (But C.S wr w') := (But.of_below hal).trans h4
      have hr4 := HRR.out.but HBW.out (HPR.out.st.nS HRR.out (by decide) (by decide))
      have HR4 := hid hr4
      clear h1 h3 h4 h5 hal hdr qc p0
      have p1 := hr4.c13
      have hsz := hr4.lt
      clear hr4
      cases o' with
      | found l =>
        simp only [Out.isFound]
        go_wp2_with fail
        go_ret
        exact HGO.out _ _ ⟨.found l, m, HRS.out _ _ (by rw [HDR.out]; exact .altHit HE.out (by intro h; cases h)), rfl, HST.out, HBU.out.trans HBW.out, HFD.out⟩
      | fail =>
        simp only [Out.isFound]
        have qc := HST.out.c
        simp only [Out.isOver] at qc
        go_wp2_with fail
        refine ⟨⟨d + 1, by go_num, by omega, HR4.out, HBU.out.trans HBW.out, fun _ => ⟨m, ?_, ?_, fun o2 m2 he => ?_⟩, fun e => (by cases e)⟩, ?_⟩
        · have := (Ev.left C.str C.lines HE.out).1; omega
        · exact ⟨HST.out, HPR.out.span.but HBW.out, HPR.out.ok, HPR.out.k.but HPR.out.st HBW.out, HPR.out.kok.mono (by have := (Ev.left C.str C.lines HE.out).1; omega)⟩
        · exact HRS.out _ _ (by rw [HDR.out]; exact .altMiss HE.out he)
        · simp [intOf]; omega
      | over =>
        simp only [Out.isFound]
        have qc := HST.out.c
        simp only [Out.isOver] at qc
        go_wp2_with fail
        go_ret
        exact HGO.out _ _ ⟨.over, m, HRS.out _ _ (by rw [HDR.out]; exact .altHit HE.out (by intro h; cases h)), rfl, HST.out, HBU.out.trans HBW.out, HFD.out⟩
    · obtain rfl : d = xs.length := by omega
      clear hbut hpr hpre hrest r0 q0 HL
      go_wp2_with fail
      go_ret
      exact HGO.out _ _ ⟨.fail, m', HRS.out _ _ (by rw [List.drop_length]; exact .altNone), rfl, HPR.out.st, HBU.out, fun l hl => (by cases hl)⟩
end Go.Proofs.Ythnpbopnpdlmnaa

/- Reback: a group, and what follows in it. -/
namespace Go.Proofs.Ythnpbopnpdlmnaa
open Go.RowKit
attribute [local go_sem] gives givesUpon
variable {C : Ctx}


theorem SpOk.set {N L : Nat} {sp : Spans} (h : SpOk N L sp) (g i k : Nat) (hik : i ≤ k) (hk : k ≤ L) : SpOk N L (sp.set g ((i : Int), (k : Int))) := by
  refine ⟨by rw [List.length_set]; exact h.1, fun x hx => ?_⟩
  rcases List.mem_or_eq_of_mem_set hx with hx | hx
  · exact h.2 x hx
  · subst hx; right; dsimp only; omega

set_option maxRecDepth 100000 in
set_option maxHeartbeats 8000000 in
theorem next_mark (n : Nat) (g0 i k : Nat) (K : Kont) (HN : NextC C n K) : NextC C n (.mark g0 i k K) := by
  intro w sp sv fid' cap' h
  have hk := h.k
  have hkok := h.kok
  have hfew := h.st.few
  have hN := h.ok.1
  cases hk with
  | @mark b p sl _ _ sa sn sc fid cap _ hr hg hk =>
    rw [Kont.ok] at hkok
    obtain ⟨k1, k2, k3, k4, k5⟩ := hkok
    obtain ⟨g, hge, hgl⟩ : ∃ g : Nat, p.gr - 1 = (g : Int) ∧ g < sp.length := ⟨(p.gr - 1).toNat, by omega, by omega⟩
    have hgi : (g : Int) < (sp.length : Int) := by omega
    have hg0 : 1 ≤ p.gr ∧ p.gr ≤ 9 := by omega
    have hs0 : sp ≠ [] := by rintro rfl; simp at hgl
    have HCL := hid (cloneS_any w _ sv sp h.span (by omega))
    obtain ⟨sa2, sc2, rfl⟩ := h.span.form
    have HP := hid h
    have HK := hid hk
    have HK5 := hid k5
    have HNN := hid HN
    have HR := hid hr
    have hent := hk.enter
    clear h hk HN k5 hr hN
    go_enter Try.func103, Try.ntmps103
    go_wp2_with fail
    refine HCL.out.mono ?_
    rintro e w1 ⟨a1, c1, rfl, hb1, hsp⟩
    rcases hsp with ⟨h0, -⟩ | ⟨-, b1, c1', more, e, hb2, hrow⟩
    · exact absurd h0 hs0
    injection e with e1 _ e2
    subst e1; subst e2
    have hr1 := HR.out.below hb1 HR.out.lt
    have q1 := hr1.c13
    have hsl := spc_length sp
    have hx := spc_get sp g sp[g] (by simp [hgl])
    have s0 := hrow.cell (g * 2)
    have s1 := hrow.cell (g * 2 + 1)
    rw [List.getElem?_append_left (by omega), show g * 2 = 2 * g by omega, hx.1, show 2 * g = g * 2 by omega] at s0
    rw [List.getElem?_append_left (by omega), show g * 2 + 1 = 2 * g + 1 by omega, hx.2, show 2 * g + 1 = g * 2 + 1 by omega] at s1
    have f0 := hrow.free (g * 2)
    have f1 := hrow.free (g * 2 + 1)
    have hne : w.heap.size ≤ b1 := hb2
    have hbl := HR.out.lt
    have HROW := hid hrow
    have HB1 := hid hb1
    have HR1 := hid hr1
    clear hx hrow hb1 hr1 hsl HCL
    generalize sp[g] = x0 at *
    go_wp2_with fail
    have hb2 : Below w.heap.size w ((w1.setCell ⟨b1, g * 2, none⟩ (.int .i64 i)).setCell ⟨b1, g * 2 + 1, none⟩ (.int .i64 k)) := (HB1.out.setCell (p := ⟨b1, g * 2, none⟩) hne _).setCell (p := ⟨b1, g * 2 + 1, none⟩) hne _
    have hge2 : p.gr.toNat - 1 = g := by omega
    have hpre : Pre C n (C.B - n) (sp.set (p.gr.toNat - 1) ((i : Int), (k : Int))) K (.slice (some ⟨b1, 0, none⟩) sp.length c1) (.func (.func fid) #[] cap) ((w1.setCell ⟨b1, g * 2, none⟩ (.int .i64 i)).setCell ⟨b1, g * 2 + 1, none⟩ (.int .i64 k)) := by
      refine ⟨HP.out.st.later hb2, .inr ⟨?_, b1, c1, more, by rw [List.length_set], HP.out.st.new hne, ?_⟩, HP.out.ok.set _ _ _ k3 k4, HK.out.later HP.out.st hb2, HK5.out⟩
      · intro e
        exact hs0 (by have := congrArg List.length e; rw [List.length_set] at this; exact List.eq_nil_of_length_eq_zero this)
      · rw [hge2]
        exact HROW.out.span hgl ((i : Int), (k : Int))
    refine (HNN.out _ _ _ fid cap hpre).mono ?_
    rintro e w' hg'
    obtain ⟨fo, rfl, HG⟩ := hg'.on hb2 (fun o m he => Ev.nextMark (s := C.str) (lines := C.lines) he)
    clear hg' hpre hb2 s0 s1 f0 f1 q1
    go_wp2_with fail
    go_ret
    exact HG.out

set_option maxRecDepth 100000 in
set_option maxHeartbeats 8000000 in
theorem arm6 (n : Nat) (HT : TryC C n) : ArmC C n 6 85 (fun t => #[.pointer (some ⟨C.M, 0, none⟩), t]) := by
  intro w p xs ta tc i k sp K sa sc fid cap h ho hin hok hik hks
  rw [Re.In] at hin
  obtain ⟨ad, cp, e, hwf, hcl, hcm, -, hall⟩ := hin
  simp only [Pay.cells, List.cons.injEq, Value.slice.injEq] at e
  obtain ⟨-, -, -, -, -, -, -, -, ⟨rfl, -, rfl⟩, -⟩ := e
  rw [Re.ok] at hok
  obtain ⟨-, -, hk1, hk2, hk3⟩ := hok
  obtain ⟨x0, hx0⟩ := hk1 (.inr ho)
  have hgr := hk2 (.inl ho)
  subst hx0
  obtain ⟨b, o, p', ad, n', c', rfl, hc, hx, hbw⟩ := hall.first (Below.refl _ _)
  have HGO : Hid (∀ (o : Out) (m : Nat), Ev C.str C.lines (.try x0 i k) sp (.mark p.gr.toNat i k K) n o m → Ev C.str C.lines (.try (.mk p [x0]) i k) sp K (n + 1) o m) := fun o m he => .tryGroup ho he
  obtain ⟨xs, hxs⟩ : ∃ xs : List Re, xs = [x0] := ⟨_, rfl⟩
  rw [← hxs]
  have hlen : 0 < xs.length := by rw [hxs]; simp
  have hlenI : (0 : Int) < (xs.length : Int) := by omega
  have R0 : Row (w.alloc (.cells #[.int .i64 p.op, .int .u64 p.set.a, .int .u64 p.set.b, .int .u64 p.set.c, .int .u64 p.set.d, .int .i64 p.lo, .int .i64 p.hi, .int .i64 p.gr, .slice (some ⟨b, o, none⟩) xs.length tc, .int .i64 i, .int .i64 k, .slice sa sp.length sc, .func (.func fid) #[] cap] 138)) w.heap.size [.int .i64 p.op, .int .u64 p.set.a, .int .u64 p.set.b, .int .u64 p.set.c, .int .u64 p.set.d, .int .i64 p.lo, .int .i64 p.hi, .int .i64 p.gr, .slice (some ⟨b, o, none⟩) xs.length tc, .int .i64 i, .int .i64 k, .slice sa sp.length sc, .func (.func fid) #[] cap] 138 := Row.new rfl
  have HB := hid ((Below.refl w.heap.size w).alloc (Nat.le_refl _) (.cells #[.int .i64 p.op, .int .u64 p.set.a, .int .u64 p.set.b, .int .u64 p.set.c, .int .u64 p.set.d, .int .i64 p.lo, .int .i64 p.hi, .int .i64 p.gr, .slice (some ⟨b, o, none⟩) xs.length tc, .int .i64 i, .int .i64 k, .slice sa sp.length sc, .func (.func fid) #[] cap] 138))
  have hpre := h.later HB.out
  have HC := hid (fun (x : World) (hx : Grow ((w.alloc (.cells #[.int .i64 p.op, .int .u64 p.set.a, .int .u64 p.set.b, .int .u64 p.set.c, .int .u64 p.set.d, .int .i64 p.lo, .int .i64 p.hi, .int .i64 p.gr, .slice (some ⟨b, o, none⟩) xs.length tc, .int .i64 i, .int .i64 k, .slice sa sp.length sc, .func (.func fid) #[] cap] 138))).drew x) => (R0.grow hx).c13)
  have HX1 := hid (fun (x : World) (hx : Grow ((w.alloc (.cells #[.int .i64 p.op, .int .u64 p.set.a, .int .u64 p.set.b, .int .u64 p.set.c, .int .u64 p.set.d, .int .i64 p.lo, .int .i64 p.hi, .int .i64 p.gr, .slice (some ⟨b, o, none⟩) xs.length tc, .int .i64 i, .int .i64 k, .slice sa sp.length sc, .func (.func fid) #[] cap] 138))).drew x) => hc.below (hpre.st.below.trans ((grow_below hx).mono hpre.st.below.size)))
  have HP := hid h
  have HX := hid hx
  have HO := hid hk3
  have HTT := hid HT
  have HR0 := hid R0
  have HXS := hid hxs
  have q0 := R0.c13
  clear hc hx hk1 hk2 hk3 h HT R0 hall hpre ho hxs
  go_enter Try.func85, Try.ntmps85
  go_wp2_with fail
  refine wp_region_inv 14 (Grow) (by kernel_rfl) (by kernel_rfl) (Grow.refl) (fun _ _ _ => Grow.trans) ?_
  simp only [fill, dstOf, Act.put, List.take_succ_cons, List.take_zero, List.getElem?_toArray, List.getElem?_cons_zero, List.getElem?_cons_succ, Option.bind_some, List.setIfInBounds_toArray, List.set_cons_zero, List.set_cons_succ]
  refine Plan.det 1 rfl (Grow.refl) ?_
  apply Exists.intro
  refine ⟨fun vs x hR hF K hK => ?_, ?_⟩
  · clear hF
    go_simp
    exact hK _ _ (Grow.refl _) rfl
  refine Plan.det 2 rfl (Grow.refl) ?_
  apply Exists.intro
  refine ⟨fun vs x hR hF K hK => ?_, ?_⟩
  · clear hF
    go_simp
    exact hK _ _ (Grow.refl _) rfl
  refine Plan.det 3 rfl (Grow.refl) ?_
  apply Exists.intro
  refine ⟨fun vs x hR hF K hK => ?_, ?_⟩
  · have f1 := hF 0 _ _ rfl rfl; clear hF
    go_simp
    exact hK _ _ (Grow.refl _) rfl
  refine Plan.det 4 rfl (Grow.refl) ?_
  apply Exists.intro
  refine ⟨fun vs x hR hF K hK => ?_, ?_⟩
  · have f2 := hF 0 _ _ rfl rfl; have hc := HC.out x hR; clear hF
    go_simp
    exact hK _ _ (Grow.refl _) rfl
  refine Plan.det 5 rfl (Grow.refl) ?_
  apply Exists.intro
  refine ⟨fun vs x hR hF K hK => ?_, ?_⟩
  · have f3 := hF 0 _ _ rfl rfl; clear hF
    go_simp
    exact hK _ _ (Grow.refl _) rfl
  refine Plan.det 6 rfl (Grow.refl) ?_
  apply Exists.intro
  refine ⟨fun vs x hR hF K hK => ?_, ?_⟩
  · have f4 := hF 0 _ _ rfl rfl; have hc := HC.out x hR; clear hF
    rw [if_pos (show Region.wanted _ _ = true from rfl)]
    refine gives_load_agg 28 _ rfl b o f4 _ _ (HX1.out x hR) Try.underlying28 rfl (size_re9 _ _ _ _ _ _ _ _ _) ?_
    exact hK _ _ (Grow.refl _) rfl
  refine Plan.det 7 rfl (Grow.refl) ?_
  apply Exists.intro
  refine ⟨fun vs x hR hF K hK => ?_, ?_⟩
  · clear hF
    go_simp
    exact hK _ _ (Grow.refl _) rfl
  refine Plan.det 8 rfl (Grow.refl) ?_
  apply Exists.intro
  refine ⟨fun vs x hR hF K hK => ?_, ?_⟩
  · have f6 := hF 0 _ _ rfl rfl; have hc := HC.out x hR; clear hF
    go_simp
    exact hK _ _ (Grow.refl _) rfl
  refine Plan.det 9 rfl (Grow.refl) ?_
  apply Exists.intro
  refine ⟨fun vs x hR hF K hK => ?_, ?_⟩
  · clear hF
    go_simp
    exact hK _ _ (Grow.refl _) rfl
  refine Plan.det 10 rfl (Grow.refl) ?_
  apply Exists.intro
  refine ⟨fun vs x hR hF K hK => ?_, ?_⟩
  · have f8 := hF 0 _ _ rfl rfl; have hc := HC.out x hR; clear hF
    go_simp
    exact hK _ _ (Grow.refl _) rfl
  refine Plan.det 11 rfl (Grow.refl) ?_
  apply Exists.intro
  refine ⟨fun vs x hR hF K hK => ?_, ?_⟩
  · clear hF
    go_simp
    exact hK _ _ (Grow.refl _) rfl
  refine Plan.det 12 rfl (Grow.refl) ?_
  apply Exists.intro
  refine ⟨fun vs x hR hF K hK => ?_, ?_⟩
  · have f10 := hF 0 _ _ rfl rfl; have hc := HC.out x hR; clear hF
    go_simp
    exact hK _ _ (Grow.refl _) rfl
  refine Plan.det 13 rfl (Grow.refl) ?_
  apply Exists.intro
  refine ⟨fun vs x hR hF K hK => ?_, ?_⟩
  · clear hF
    go_simp
    exact hK _ _ (Grow.refl _) rfl
  refine Plan.det 14 rfl (Grow.refl) ?_
  apply Exists.intro
  refine ⟨fun vs x hR hF K hK => ?_, ?_⟩
  · have f5 := hF 7 _ _ rfl rfl; have f7 := hF 5 _ _ rfl rfl; have f9 := hF 3 _ _ rfl rfl; have f11 := hF 1 _ _ rfl rfl; have f12 := hF 0 _ _ rfl rfl; clear hF
    go_simp
    exact hK _ _ (Grow.refl _) rfl
  refine Plan.nil (fun vs x hR hF => ?_)
  have f0 := hF 13 _ _ rfl; have f1 := hF 12 _ _ rfl; have f2 := hF 11 _ _ rfl; have f3 := hF 10 _ _ rfl; have f4 := hF 9 _ _ rfl; have f5 := hF 8 _ _ rfl; have f6 := hF 7 _ _ rfl; have f7 := hF 6 _ _ rfl; have f8 := hF 5 _ _ rfl; have f9 := hF 4 _ _ rfl; have f10 := hF 3 _ _ rfl; have f11 := hF 2 _ _ rfl; have f12 := hF 1 _ _ rfl; have f13 := hF 0 _ _ rfl
  clear hF
  simp only [f0, f1, f2, f3, f4, f5, f6, f7, f8, f9, f10, f11, f12, f13]
  clear f0 f1 f2 f3 f4 f5 f6 f7 f8 f9 f10 f11 f12 f13
  simp only [List.drop_succ_cons, List.drop_zero]
  have hbx : Below w.heap.size w x := below_grow HB.out (by simp) hR
  have HBX := hid hbx
  have hrx := HR0.out.grow hR
  have HKA : Hid (KAt C x (.func (.func 103) #[] #[.pointer (some ⟨w.heap.size, 0, none⟩)]) (.mark p.gr.toNat i k K)) := .mark hrx (by omega) (HP.out.later hbx).k
  have HPX : Hid (Pre C n (C.B - n + 1) sp (.mark p.gr.toNat i k K) (.slice sa sp.length sc) (.func (.func 103) #[] #[.pointer (some ⟨w.heap.size, 0, none⟩)]) x) :=
    ⟨(HP.out.later hbx).st, (HP.out.later hbx).span, HP.out.ok, HKA.out, by omega, by omega, hik, hks, HP.out.kok.mono (Nat.le_succ _)⟩
  clear HC hR hbx q0 HX1 hrx
  go_wp2_with fail
  refine (TryC.lit HTT.out _ x0 p' ad n' c' i k sp _ _ _ HX.out (by have := HO.out; rw [Re.oks] at this; exact this.1) hik hks HPX.out).mono ?_
  rintro e w' hg'
  obtain ⟨fo, rfl, HG⟩ := hg'.on HBX.out HGO.out
  clear hg'
  go_wp2_with fail
  go_ret
  have := HXS.out
  subst this
  exact HG.out
end Go.Proofs.Ythnpbopnpdlmnaa
