/- Reback's reference: a repetition. -/
import Derived.Test.YtnnocekencaadaaG15
import Derived.Test.YtnnocekencaadaaG24
import Derived.Deep.QuietTactic
import Derived.BigQuiet
namespace Go.Proofs.Ytnnocekencaadaa
open Go.RowKit
attribute [local go_sem] gives givesUpon
variable {C : RCtx}

-- def FN := (*texttools/texttoolsref14.search).repeat
-- def TK := (Tk 3 p (.slice (some ⟨bb, o, none⟩) 1 tc) (.int .i64 i) (.int .i64 k) (.int .i64 c) av (.pointer q))
-- def XL := [.int .i64 p.op, .int .u64 p.set.a, .int .u64 p.set.b, .int .u64 p.set.c, .int .u64 p.set.d, .int .i64 p.lo, .int .i64 p.hi, .int .i64 p.gr, .slice (some ⟨bb, o, none⟩) 1 tc]
theorem RGood.later {E : Out → Nat → Prop} {w : World} {e : Ending} {w' w'' : World} (h : RGood C E w e w') (hb : Below w'.heap.size w' w'') : RGood C E w e w'' := by
  obtain ⟨o, m, a, ln, c, h1, h2, h3, h4, h5, h6⟩ := h
  exact ⟨o, m, a, ln, c, h1, h2, h3.later hb, h4.trans (But.of_below hb), fun l hl => ⟨(h5 l hl).1, (h5 l hl).2.but (But.of_below hb)⟩, h6⟩

/-- What a call that hands on the end of another one makes of it, and where it is. -/
theorem REndsL.later {w : World} {n : Nat} {E : Out → Nat → Prop} {rest : Nat → Nat → Out → Nat → Prop} {sp : Spans} {K : Kont} {sv rv : Value} {c : Nat} {ov : Bool} {wr x : World} (h : REndsL C w n E rest sp K sv rv c ov wr) (hb : Below wr.heap.size wr x) : REndsL C w n E rest sp K sv rv c ov x := by
  refine ⟨h.1.trans (But.of_below hb), fun e => ?_, fun e => ?_⟩
  · obtain ⟨n', h1, h2, h3⟩ := h.2.1 e
    exact ⟨n', h1, h2.later hb, h3⟩
  · exact ⟨(h.2.2 e).1.later hb, (h.2.2 e).2⟩

set_option maxRecDepth 100000 in
set_option maxHeartbeats 16000000 in
theorem rrep_any (n : Nat) (K : Kont) (HT : ∀ m, m ≤ n → RTryC C m) (HN : ∀ m, m ≤ n → RNextC C m K) : RRepC C n K := by
  intro w b p x0 ta tc av c i k sp sa sc q hr ho hin hok hc hik hks h
  have hwf := hin.wf
  rw [Re.In] at hin
  obtain ⟨ad, cp, e, -, hcl, hcm, -, hall⟩ := hin
  simp only [Pay.cells, List.cons.injEq, Value.slice.injEq] at e
  obtain ⟨-, -, -, -, -, -, -, -, ⟨rfl, -, rfl⟩, -⟩ := e
  obtain ⟨bb, o, p', ad, n', c', rfl, hxc, hx, hbw⟩ := hall.first (Below.refl _ _)
  have hok' := hok
  rw [Re.ok, Re.oks] at hok'
  have HX0 := hid hok'.2.2.2.2.1
  have HOKK := hid hok
  have HO := hid ho
  have HINN : Hid ((Re.mk p [x0]).In C.w0 (p.cells (.slice (some ⟨bb, o, none⟩) 1 tc))) := by
    show Re.In _ _ _
    rw [Re.In]
    exact ⟨_, _, rfl, hwf, hcl, hcm, (fun e => by cases e), hall⟩
  have hbig := h.st.big
  have hfew := h.st.few
  have hsl := h.st.len
  have hB : Below w.heap.size w (w.alloc (.cells #[.int .i64 p.op, .int .u64 p.set.a, .int .u64 p.set.b, .int .u64 p.set.c, .int .u64 p.set.d, .int .i64 p.lo, .int .i64 p.hi, .int .i64 p.gr, .slice (some ⟨bb, o, none⟩) 1 tc] 28)) := (Below.refl w.heap.size w).alloc (Nat.le_refl _) _
  have HRW0 : Hid (Row (w.alloc (.cells #[.int .i64 p.op, .int .u64 p.set.a, .int .u64 p.set.b, .int .u64 p.set.c, .int .u64 p.set.d, .int .i64 p.lo, .int .i64 p.hi, .int .i64 p.gr, .slice (some ⟨bb, o, none⟩) 1 tc] 28)) b (Tk 3 p (.slice (some ⟨bb, o, none⟩) 1 tc) (.int .i64 i) (.int .i64 k) (.int .i64 c) av (.pointer q)) 90 ∧ Row (w.alloc (.cells #[.int .i64 p.op, .int .u64 p.set.a, .int .u64 p.set.b, .int .u64 p.set.c, .int .u64 p.set.d, .int .i64 p.lo, .int .i64 p.hi, .int .i64 p.gr, .slice (some ⟨bb, o, none⟩) 1 tc] 28)) w.heap.size [.int .i64 p.op, .int .u64 p.set.a, .int .u64 p.set.b, .int .u64 p.set.c, .int .u64 p.set.d, .int .i64 p.lo, .int .i64 p.hi, .int .i64 p.gr, .slice (some ⟨bb, o, none⟩) 1 tc] 28) := ⟨hr.alloc _, Row.new rfl⟩
  have HPR0 := hid (h.later hB)
  have HB0 := hid hB
  have HX := hid hx
  have HXC := hid hxc
  have HTT := hid HT
  have HNN := hid HN
  have p0 := HRW0.out.1.c15
  have p0w := hr.c15
  have p1 := HRW0.out.2.c9
  have HC := hid (fun (x : World) (hx : Grow (w.alloc (.cells #[.int .i64 p.op, .int .u64 p.set.a, .int .u64 p.set.b, .int .u64 p.set.c, .int .u64 p.set.d, .int .i64 p.lo, .int .i64 p.hi, .int .i64 p.gr, .slice (some ⟨bb, o, none⟩) 1 tc] 28)).drew x) => (⟨(HRW0.out.1.grow hx).c15, (HRW0.out.2.grow hx).c9, (HPR0.out.st.later (grow_below hx)).c⟩ : _ ∧ _ ∧ _))
  obtain ⟨lo, hlo0⟩ : ∃ lo : Nat, lo = repLow p c i := ⟨_, rfl⟩
  have hLow : (decide (p.lo ≤ (c : Int)) = false ∧ lo = i) ∨ (decide (p.lo ≤ (c : Int)) = true ∧ lo = i + 1) := by
    unfold repLow at hlo0
    by_cases h1 : (c : Int) < p.lo
    · rw [if_pos h1] at hlo0; left; exact ⟨by simp; omega, hlo0⟩
    · rw [if_neg h1] at hlo0; right; exact ⟨by simp; omega, hlo0⟩
  have HLO := hid hlo0
  have hlo1 : i ≤ lo ∧ lo ≤ i + 1 := by omega
  have HLOW := hid hLow
  clear h hok hok' HT HN hall hx hxc ho hr hB hlo0 hLow
  go_enter Try.func69, Try.ntmps69
  by_cases hmay : mayRep p c
  · have HMAY := hid hmay
    have g1 : (p.hi == -1) = true ∨ ((p.hi == -1) = false ∧ decide ((c : Int) < p.hi) = true) := by
      unfold mayRep at hmay
      by_cases h1 : p.hi = -1
      · left; simp [h1]
      · right; simp [h1]; omega
    clear hmay
    rcases g1 with g1 | ⟨g1, g2⟩
    all_goals
      go_wp2_with fail
      go_quiet (fail)
      have HBX : Hid (Below (w.alloc (.cells #[.int .i64 p.op, .int .u64 p.set.a, .int .u64 p.set.b, .int .u64 p.set.c, .int .u64 p.set.d, .int .i64 p.lo, .int .i64 p.hi, .int .i64 p.gr, .slice (some ⟨bb, o, none⟩) 1 tc] 28)).heap.size (w.alloc (.cells #[.int .i64 p.op, .int .u64 p.set.a, .int .u64 p.set.b, .int .u64 p.set.c, .int .u64 p.set.d, .int .i64 p.lo, .int .i64 p.hi, .int .i64 p.gr, .slice (some ⟨bb, o, none⟩) 1 tc] 28)) ((w.alloc (.cells #[.int .i64 p.op, .int .u64 p.set.a, .int .u64 p.set.b, .int .u64 p.set.c, .int .u64 p.set.d, .int .i64 p.lo, .int .i64 p.hi, .int .i64 p.gr, .slice (some ⟨bb, o, none⟩) 1 tc] 28)).drewN nq)) := below_drewN (Below.refl _ _) nq
      generalize (w.alloc (.cells #[.int .i64 p.op, .int .u64 p.set.a, .int .u64 p.set.b, .int .u64 p.set.c, .int .u64 p.set.d, .int .i64 p.lo, .int .i64 p.hi, .int .i64 p.gr, .slice (some ⟨bb, o, none⟩) 1 tc] 28)).drewN nq = x at HBX ⊢
      have HRX : Hid (Row x b (Tk 3 p (.slice (some ⟨bb, o, none⟩) 1 tc) (.int .i64 i) (.int .i64 k) (.int .i64 c) av (.pointer q)) 90 ∧ Row x w.heap.size [.int .i64 p.op, .int .u64 p.set.a, .int .u64 p.set.b, .int .u64 p.set.c, .int .u64 p.set.d, .int .i64 p.lo, .int .i64 p.hi, .int .i64 p.gr, .slice (some ⟨bb, o, none⟩) 1 tc] 28) := ⟨HRW0.out.1.below HBX.out HRW0.out.1.lt, HRW0.out.2.below HBX.out HRW0.out.2.lt⟩
      have HPX := hid (HPR0.out.later HBX.out)
      have HBU0 : Hid (But [C.X] w x) := But.of_below (HB0.out.trans (HBX.out.mono HB0.out.size))
      clear HC p0 p1 p0w
      have p0 := HRX.out.1.c15
      have p1 := HRX.out.2.c9
      go_wp2_with fail
      go_loopw [9] (fun v wr => ∃ (J : Int) (q2 : Nat) (ov : Bool), v = .int .i64 J ∧ q2 ≤ k + 1 - lo ∧ Hid ((J = (lo : Int) + q2 - 1 ∨ (J = (i : Int) - 1 ∧ q2 = 0)) ∧ (Row wr b (Tk 3 p (.slice (some ⟨bb, o, none⟩) 1 tc) (.int .i64 i) (.int .i64 k) (.int .i64 c) av (.pointer q)) 90 ∧ Row wr w.heap.size [.int .i64 p.op, .int .u64 p.set.a, .int .u64 p.set.b, .int .u64 p.set.c, .int .u64 p.set.d, .int .i64 p.lo, .int .i64 p.hi, .int .i64 p.gr, .slice (some ⟨bb, o, none⟩) 1 tc] 28) ∧ REndsL C w n (Ev C.str C.lines (.rep p x0 c i k) sp K n) (fun n' q2 => Ev C.str C.lines (.repj p x0 c i k lo q2) sp K n') sp K (.slice sa sp.length sc) (.pointer q) q2 ov wr)) (fun v _ => (intOf v + 1 - i).toNat)
      case atStart =>
        exact ⟨(k : Int), k + 1 - lo, false, rfl, Nat.le_refl _, .inl (by omega), HRX.out, HBU0.out, fun _ => ⟨n, Nat.le_refl _, HPX.out, fun o2 m2 he => .repMay HMAY.out (by have h9 := HLO.out; rw [h9] at he; exact he)⟩, fun e => (by cases e)⟩
      case round =>
        obtain ⟨J, q2, ov, rfl, hq2, HL⟩ := hrel
        obtain ⟨hJ, hrows, hE⟩ := HL.out
        have HRW := hid hrows
        clear HL p0 p1 hrows
        cases ov with
        | true =>
          have HG := hid hE.over
          have qc := (hE.2.2 rfl).1.c
          have p0 := HRW.out.1.c15
          have p1 := HRW.out.2.c9
          have HE0 := hid (hE.2.2 rfl).1
          have HC := hid (fun (x : World) (hx : Grow wr.drew x) => (⟨(HRW.out.1.grow hx).c15, (HRW.out.2.grow hx).c9, (HE0.out.later (grow_below hx)).c⟩ : _ ∧ _ ∧ _))
          clear hE hJ
          by_cases hJi : (i : Int) ≤ J
          · have d2 : decide ((i : Int) ≤ J) = true := by simp [hJi]
            go_wp2_with fail
            go_quiet (fail)
            go_wp2_with fail
            go_ret2
            exact HG.out.later (below_drewN (Below.refl _ _) _)
          · have d2 : decide ((i : Int) ≤ J) = false := by simp [hJi]
            go_wp2_with fail
            go_quiet (fail)
            go_wp2_with fail
            go_ret2
            exact HG.out.later (below_drewN (Below.refl _ _) _)
        | false =>
          have HEE := hid hE
          obtain ⟨hbut, hpr, -⟩ := hE
          obtain ⟨m', hm', hpre, hrest⟩ := hpr rfl
          have HPR := hid hpre
          have HRS := hid hrest
          have HBU := hid hbut
          have HE0 := HPR
          have HM' := hid hm'
          have qc := hpre.st.c
          have p0 := HRW.out.1.c15
          have p1 := HRW.out.2.c9
          have HC := hid (fun (x : World) (hx : Grow wr.drew x) => (⟨(HRW.out.1.grow hx).c15, (HRW.out.2.grow hx).c9, (HE0.out.st.later (grow_below hx)).c⟩ : _ ∧ _ ∧ _))
          clear hbut hpr hpre hrest
          by_cases hJi : (i : Int) ≤ J
          · have d2 : decide ((i : Int) ≤ J) = true := by simp [hJi]
            cases q2 with
            | zero =>
              obtain rfl : J = (i : Int) := by omega
              have t2 : decide (p.lo ≤ (c : Int)) = true := by
                rcases HLOW.out with ⟨-, h⟩ | ⟨h, -⟩
                · omega
                · exact h
              have hwi : IntKind.i64.wrap ((i : Int) - 1) = (i : Int) - 1 := by rw [IntKind.wrap_i64]; omega
              clear hJ HC
              go_wp2_with fail
              go_quiet (fail)
              go_wp2_with fail
              refine ⟨⟨(i : Int) - 1, 0, false, rfl, Nat.zero_le _, ⟨.inr ⟨rfl, rfl⟩, ⟨HRW.out.1.below (below_drewN (Below.refl _ _) _) HRW.out.1.lt, HRW.out.2.below (below_drewN (Below.refl _ _) _) HRW.out.2.lt⟩, HEE.out.later (below_drewN (Below.refl _ _) _)⟩⟩, ?_⟩
              simp [intOf] <;> omega
            | succ q3 =>
              obtain ⟨j, hj⟩ : ∃ j : Nat, j = lo + q3 := ⟨_, rfl⟩
              obtain rfl : J = (j : Int) := by omega
              have hij : i ≤ j := by omega
              have hjk : j ≤ k := by omega
              have HJ := hid hj
              have hcj : ((j : Int) == (i : Int)) = false ∨ (((j : Int) == (i : Int)) = true ∧ decide (p.lo ≤ (c : Int)) = false) := by
                by_cases h : j = i
                · right
                  refine ⟨by simp; omega, ?_⟩
                  rcases HLOW.out with ⟨h1, -⟩ | ⟨-, h1⟩
                  · exact h1
                  · omega
                · left; simp; omega
              have HWI : Hid (withinOf (.mk p [x0]) = withinOf x0) := by
                show _ = _
                rw [withinOf, if_neg (by rw [HO.out]; decide), withinAll, withinAll]; simp
              have hcw : IntKind.i64.wrap ((c : Int) + 1) = (c : Int) + 1 := by rw [IntKind.wrap_i64]; omega
              have hjw : IntKind.i64.wrap ((j : Int) - 1) = (j : Int) - 1 := by rw [IntKind.wrap_i64]; omega
              clear hJ HC hj
              rcases hcj with t1 | ⟨t1, t2⟩
              all_goals
                go_wp2_with fail
                go_quiet (fail)
                have HBZ : Hid (Below wr.heap.size wr (wr.drewN nq)) := below_drewN (Below.refl _ _) nq
                generalize wr.drewN nq = z at HBZ ⊢
                have HRZ : Hid (Row z b (Tk 3 p (.slice (some ⟨bb, o, none⟩) 1 tc) (.int .i64 i) (.int .i64 k) (.int .i64 c) av (.pointer q)) 90 ∧ Row z w.heap.size [.int .i64 p.op, .int .u64 p.set.a, .int .u64 p.set.b, .int .u64 p.set.c, .int .u64 p.set.d, .int .i64 p.lo, .int .i64 p.hi, .int .i64 p.gr, .slice (some ⟨bb, o, none⟩) 1 tc] 28) := ⟨HRW.out.1.below HBZ.out HRW.out.1.lt, HRW.out.2.below HBZ.out HRW.out.2.lt⟩
                have HPZ := hid (HPR.out.later HBZ.out)
                have HC := hid (fun (x : World) (hx : Grow z.drew x) => (⟨(HRZ.out.1.grow hx).c15, (HRZ.out.2.grow hx).c9, (HPZ.out.st.later (grow_below hx)).c⟩ : _ ∧ _ ∧ _))
                clear p0 p1 qc
                have p0 := HRZ.out.1.c15
                have p1 := HRZ.out.2.c9
                have qc := HPZ.out.st.c
                go_wp2_with fail
                refine wp_region_inv 17 (Grow) (by kernel_rfl) (by kernel_rfl) (Grow.refl) (fun _ _ _ => Grow.trans) ?_
                simp only [fill, dstOf, Act.put, List.take_succ_cons, List.take_zero, List.getElem?_toArray, List.getElem?_cons_zero, List.getElem?_cons_succ, Option.bind_some, List.setIfInBounds_toArray, List.set_cons_zero, List.set_cons_succ]
                refine Plan.det 1 rfl (Grow.refl) ?_
                apply Exists.intro
                refine ⟨fun vs x hR hF K hK => ?_, ?_⟩
                · have hc := HC.out x hR; clear hF
                  go_simp
                  exact hK _ _ (Grow.refl _) rfl
                refine Plan.det 2 rfl (Grow.refl) ?_
                apply Exists.intro
                refine ⟨fun vs x hR hF K hK => ?_, ?_⟩
                · clear hF
                  go_simp
                  exact hK _ _ (Grow.refl _) rfl
                refine Plan.det 3 rfl (Grow.refl) ?_
                apply Exists.intro
                refine ⟨fun vs x hR hF K hK => ?_, ?_⟩
                · clear hF
                  go_simp
                  exact hK _ _ (Grow.refl _) rfl
                refine Plan.det 4 rfl (Grow.refl) ?_
                apply Exists.intro
                refine ⟨fun vs x hR hF K hK => ?_, ?_⟩
                · have f2 := hF 0 _ _ rfl rfl; clear hF
                  go_simp
                  exact hK _ _ (Grow.refl _) rfl
                refine Plan.det 5 rfl (Grow.refl) ?_
                apply Exists.intro
                refine ⟨fun vs x hR hF K hK => ?_, ?_⟩
                · have f3 := hF 0 _ _ rfl rfl; clear hF
                  go_simp
                  exact hK _ _ (Grow.refl _) rfl
                refine Plan.det 6 rfl (Grow.refl) ?_
                apply Exists.intro
                refine ⟨fun vs x hR hF K hK => ?_, ?_⟩
                · have f4 := hF 0 _ _ rfl rfl; have hc := HC.out x hR; clear hF
                  go_simp
                  exact hK _ _ (Grow.refl _) rfl
                refine Plan.det 7 rfl (Grow.refl) ?_
                apply Exists.intro
                refine ⟨fun vs x hR hF K hK => ?_, ?_⟩
                · clear hF
                  go_simp
                  exact hK _ _ (Grow.refl _) rfl
                refine Plan.det 8 rfl (Grow.refl) ?_
                apply Exists.intro
                refine ⟨fun vs x hR hF K hK => ?_, ?_⟩
                · have f6 := hF 0 _ _ rfl rfl; clear hF
                  go_simp
                  exact hK _ _ (Grow.refl _) rfl
                refine Plan.det 9 rfl (Grow.refl) ?_
                apply Exists.intro
                refine ⟨fun vs x hR hF K hK => ?_, ?_⟩
                · have f7 := hF 0 _ _ rfl rfl; clear hF
                  go_simp
                  exact hK _ _ (Grow.refl _) rfl
                refine Plan.det 10 rfl (Grow.refl) ?_
                apply Exists.intro
                refine ⟨fun vs x hR hF K hK => ?_, ?_⟩
                · have f8 := hF 0 _ _ rfl rfl; have hc := HC.out x hR; clear hF
                  go_simp
                  exact hK _ _ (Grow.refl _) rfl
                refine Plan.det 11 rfl (Grow.refl) ?_
                apply Exists.intro
                refine ⟨fun vs x hR hF K hK => ?_, ?_⟩
                · have f9 := hF 0 _ _ rfl rfl; clear hF
                  go_simp
                  exact hK _ _ (Grow.refl _) rfl
                refine Plan.det 12 rfl (Grow.refl) ?_
                apply Exists.intro
                refine ⟨fun vs x hR hF K hK => ?_, ?_⟩
                · clear hF
                  go_simp
                  exact hK _ _ (Grow.refl _) rfl
                refine Plan.det 13 rfl (Grow.refl) ?_
                apply Exists.intro
                refine ⟨fun vs x hR hF K hK => ?_, ?_⟩
                · have f11 := hF 0 _ _ rfl rfl; clear hF
                  go_simp
                  exact hK _ _ (Grow.refl _) rfl
                refine Plan.det 14 rfl (Grow.refl) ?_
                apply Exists.intro
                refine ⟨fun vs x hR hF K hK => ?_, ?_⟩
                · have f12 := hF 0 _ _ rfl rfl; clear hF
                  go_simp
                  exact hK _ _ (Grow.refl _) rfl
                refine Plan.det 15 rfl (Grow.refl) ?_
                apply Exists.intro
                refine ⟨fun vs x hR hF K hK => ?_, ?_⟩
                · have f13 := hF 0 _ _ rfl rfl; have hc := HC.out x hR; clear hF
                  go_simp
                  exact hK _ _ (Grow.refl _) rfl
                refine Plan.det 16 rfl (Grow.refl) ?_
                apply Exists.intro
                refine ⟨fun vs x hR hF K hK => ?_, ?_⟩
                · have f0 := hF 14 _ _ rfl rfl; have f1 := hF 13 _ _ rfl rfl; have f5 := hF 9 _ _ rfl rfl; have f10 := hF 4 _ _ rfl rfl; have f14 := hF 0 _ _ rfl rfl; clear hF
                  go_simp
                  exact hK _ _ (Grow.refl _) rfl
                refine Plan.rel 17 rfl (Grow.refl) (fun v x => ∃ b, v = .pointer (some ⟨b, 0, none⟩) ∧ z.heap.size ≤ b ∧ Row x b (Tk 3 p (.slice (some ⟨bb, o, none⟩) 1 tc) (.int .i64 j) (.int .i64 k) (.int .i64 ((c : Int) + 1)) (.slice none 0 0) (.pointer q)) 90) (fun v x y hR ⟨b, h1, h2, h3⟩ => ⟨b, h1, h2, h3.below hR h3.lt⟩) (fun vs x hR hF K hK => ?_) ?_
                · have f15 := hF 0 _ _ rfl rfl
                  go_simp
                  exact hK _ _ (Grow.alloc _ _) ⟨_, rfl, (by have := Grow.size hR; simp at this; omega), Row.at _ _ _⟩
                refine Plan.nil (fun vs x hR hF => ?_)
                have f0 := hF 16 _ _ rfl; have f1 := hF 15 _ _ rfl; have f2 := hF 14 _ _ rfl; have f3 := hF 13 _ _ rfl; have f4 := hF 12 _ _ rfl; have f5 := hF 11 _ _ rfl; have f6 := hF 10 _ _ rfl; have f7 := hF 9 _ _ rfl; have f8 := hF 8 _ _ rfl; have f9 := hF 7 _ _ rfl; have f10 := hF 6 _ _ rfl; have f11 := hF 5 _ _ rfl; have f12 := hF 4 _ _ rfl; have f13 := hF 3 _ _ rfl; have f14 := hF 2 _ _ rfl; have f15 := hF 1 _ _ rfl; have f16 := hF 0 _ _ rfl
                clear hF
                simp only [f0, f1, f2, f3, f4, f5, f6, f7, f8, f9, f10, f11, f12, f13, f14, f15]
                clear f0 f1 f2 f3 f4 f5 f6 f7 f8 f9 f10 f11 f12 f13 f14 f15
                simp only [List.drop_succ_cons, List.drop_zero]
                obtain ⟨ab, ha1, ha2, ha3⟩ := f16
                generalize vs 16 = v16 at *
                subst ha1
                have HBX2 := hid (grow_below hR)
                have HA : Hid (Row x ab (Tk 3 p (.slice (some ⟨bb, o, none⟩) 1 tc) (.int .i64 j) (.int .i64 k) (.int .i64 ((c + 1 : Nat) : Int)) (.slice none 0 0) (.pointer q)) 90) := by
                  have h9 := ha3
                  rw [show (c : Int) + 1 = ((c + 1 : Nat) : Int) by omega] at h9
                  exact h9
                clear HC hR p0 p1 qc ha3
                obtain ⟨y, hy⟩ : ∃ y : World, y = x := ⟨x, rfl⟩
                subst hy
                have HRX2 : Hid (Row y b (Tk 3 p (.slice (some ⟨bb, o, none⟩) 1 tc) (.int .i64 i) (.int .i64 k) (.int .i64 c) av (.pointer q)) 90 ∧ Row y w.heap.size [.int .i64 p.op, .int .u64 p.set.a, .int .u64 p.set.b, .int .u64 p.set.c, .int .u64 p.set.d, .int .i64 p.lo, .int .i64 p.hi, .int .i64 p.gr, .slice (some ⟨bb, o, none⟩) 1 tc] 28) := ⟨HRZ.out.1.below HBX2.out HRZ.out.1.lt, HRZ.out.2.below HBX2.out HRZ.out.2.lt⟩
                have HPX2 := hid (HPZ.out.later HBX2.out)
                have HC := hid (fun (x : World) (hx : Grow y.drew x) => (⟨(HRX2.out.1.grow hx).c15, (HRX2.out.2.grow hx).c9, (HPX2.out.st.later (grow_below hx)).c⟩ : _ ∧ _ ∧ _))
                have HX1 := hid (fun (x : World) (hx : Grow y.drew x) => HXC.out.below (HPX2.out.st.below.trans ((grow_below hx).mono HPX2.out.st.below.size)))
                have HWO : Hid (∀ x, Grow y.drew x → Calls Try.prog 71 #[.agg #[.int .i64 p.op, .int .u64 p.set.a, .int .u64 p.set.b, .int .u64 p.set.c, .int .u64 p.set.d, .int .i64 p.lo, .int .i64 p.hi, .int .i64 p.gr, .slice (some ⟨bb, o, none⟩) 1 tc], .slice sa sp.length sc] x fun e w' => ∃ a c, e = .returned (.slice a sp.length c) ∧ Below x.heap.size x w' ∧ SpB (x.heap.size ≤ ·) w' (.slice a sp.length c) (unset sp (withinOf x0))) := by
                  intro x hx
                  have h9 := rclear_any C.w0 C.N hfew (.mk p [x0]) x _ _ _ sp HINN.out HOKK.out (HPX2.out.st.below.trans ((grow_below hx).mono HPX2.out.st.below.size)) (HPX2.out.later (grow_below hx)).span HPR.out.ok.1
                  rw [HWI.out] at h9
                  exact h9
                have p0 := HRX2.out.1.c15
                have p1 := HRX2.out.2.c9
                have qc := HPX2.out.st.c
                go_wp2_with fail
                refine wp_region_two 16 22 rfl (Grow) (by kernel_rfl) (by kernel_rfl) (Grow.refl) (fun _ _ _ => Grow.trans) ?_
                simp only [fill, dstOf, Act.put, List.take_succ_cons, List.take_zero, List.getElem?_toArray, List.getElem?_cons_zero, List.getElem?_cons_succ, Option.bind_some, List.setIfInBounds_toArray, List.set_cons_zero, List.set_cons_succ]
                refine Plan.det 1 rfl (Grow.refl) ?_
                apply Exists.intro
                refine ⟨fun vs x hR hF K hK => ?_, ?_⟩
                · clear hF
                  go_simp
                  exact hK _ _ (Grow.refl _) rfl
                refine Plan.det 2 rfl (Grow.refl) ?_
                apply Exists.intro
                refine ⟨fun vs x hR hF K hK => ?_, ?_⟩
                · clear hF
                  go_simp
                  exact hK _ _ (Grow.refl _) rfl
                refine Plan.det 3 rfl (Grow.refl) ?_
                apply Exists.intro
                refine ⟨fun vs x hR hF K hK => ?_, ?_⟩
                · have f1 := hF 0 _ _ rfl rfl; have hc := HC.out x hR; clear hF
                  go_simp
                  exact hK _ _ (Grow.refl _) rfl
                refine Plan.det 4 rfl (Grow.refl) ?_
                apply Exists.intro
                refine ⟨fun vs x hR hF K hK => ?_, ?_⟩
                · have f2 := hF 0 _ _ rfl rfl; clear hF
                  go_simp
                  exact hK _ _ (Grow.refl _) rfl
                refine Plan.det 5 rfl (Grow.refl) ?_
                apply Exists.intro
                refine ⟨fun vs x hR hF K hK => ?_, ?_⟩
                · have f3 := hF 0 _ _ rfl rfl; have hc := HC.out x hR; clear hF
                  rw [if_pos (show Region.wanted _ _ = true from rfl)]
                  refine gives_load_agg 28 _ rfl bb o f3 _ _ (HX1.out _ hR) Try.underlying28 rfl (size_re9 _ _ _ _ _ _ _ _ _) ?_
                  exact hK _ _ (Grow.refl _) rfl
                refine Plan.det 6 rfl (Grow.refl) ?_
                apply Exists.intro
                refine ⟨fun vs x hR hF K hK => ?_, ?_⟩
                · clear hF
                  go_simp
                  exact hK _ _ (Grow.refl _) rfl
                refine Plan.det 7 rfl (Grow.refl) ?_
                apply Exists.intro
                refine ⟨fun vs x hR hF K hK => ?_, ?_⟩
                · have f5 := hF 0 _ _ rfl rfl; clear hF
                  go_simp
                  exact hK _ _ (Grow.refl _) rfl
                refine Plan.det 8 rfl (Grow.refl) ?_
                apply Exists.intro
                refine ⟨fun vs x hR hF K hK => ?_, ?_⟩
                · have f6 := hF 0 _ _ rfl rfl; clear hF
                  go_simp
                  exact hK _ _ (Grow.refl _) rfl
                refine Plan.det 9 rfl (Grow.refl) ?_
                apply Exists.intro
                refine ⟨fun vs x hR hF K hK => ?_, ?_⟩
                · have f7 := hF 0 _ _ rfl rfl; have hc := HC.out x hR; clear hF
                  go_simp
                  exact hK _ _ (Grow.refl _) rfl
                refine Plan.det 10 rfl (Grow.refl) ?_
                apply Exists.intro
                refine ⟨fun vs x hR hF K hK => ?_, ?_⟩
                · clear hF
                  go_simp
                  exact hK _ _ (Grow.refl _) rfl
                refine Plan.det 11 rfl (Grow.refl) ?_
                apply Exists.intro
                refine ⟨fun vs x hR hF K hK => ?_, ?_⟩
                · clear hF
                  go_simp
                  exact hK _ _ (Grow.refl _) rfl
                refine Plan.det 12 rfl (Grow.refl) ?_
                apply Exists.intro
                refine ⟨fun vs x hR hF K hK => ?_, ?_⟩
                · have f4 := hF 6 _ _ rfl rfl; have f8 := hF 2 _ _ rfl rfl; have f9 := hF 1 _ _ rfl rfl; have f10 := hF 0 _ _ rfl rfl; clear hF
                  go_simp
                  exact hK _ _ (Grow.refl _) rfl
                refine Plan.rel 13 rfl (Grow.refl) (fun v x => ∃ b, v = .pointer (some ⟨b, 0, none⟩) ∧ y.heap.size ≤ b ∧ Row x b (Tk 1 p' (.slice ad n' c') (.int .i64 i) (.int .i64 j) (.int .i64 0) (.slice none 0 0) (.pointer (some ⟨ab, 0, none⟩))) 90) (fun v x y hR ⟨b, h1, h2, h3⟩ => ⟨b, h1, h2, h3.below hR h3.lt⟩) (fun vs x hR hF K hK => ?_) ?_
                · have f11 := hF 0 _ _ rfl rfl
                  go_simp
                  exact hK _ _ (Grow.alloc _ _) ⟨_, rfl, (by have := Grow.size hR; simp at this; omega), Row.at _ _ _⟩
                refine Plan.det 14 rfl (Grow.refl) ?_
                apply Exists.intro
                refine ⟨fun vs x hR hF K hK => ?_, ?_⟩
                · have hc := HC.out x hR; clear hF
                  go_simp
                  exact hK _ _ (Grow.refl _) rfl
                refine Plan.det 15 rfl (Grow.refl) ?_
                apply Exists.intro
                refine ⟨fun vs x hR hF K hK => ?_, ?_⟩
                · clear hF
                  go_simp
                  exact hK _ _ (Grow.refl _) rfl
                refine Plan.rel 16 rfl (Grow.refl) (fun v u => ∃ (a : Option Addr) (c2 : Nat), v = .slice a sp.length c2 ∧ SpB (y.heap.size ≤ ·) u (.slice a sp.length c2) (unset sp (withinOf x0))) (fun v a b hR ⟨a1, c1, h1, h2⟩ => ⟨a1, c1, h1, h2.below hR⟩) (fun vs x hR hF K hK => ?_) ?_
                · have f13 := hF 1 _ _ rfl rfl; have f14 := hF 0 _ _ rfl rfl
                  go_simp
                  refine (HWO.out _ hR).mono ?_
                  rintro e x1 ⟨a, c2, rfl, hbe, h1⟩
                  exact ⟨_, rfl, hK _ _ hbe ⟨a, c2, rfl, h1.mono (fun b _ h2 => Nat.le_trans (grow_below hR).size h2)⟩⟩
                refine PlanEnd (by simp) (fun vs x hR hF => ?_)
                have f0 := hF 15 _ _ rfl; have f1 := hF 14 _ _ rfl; have f2 := hF 13 _ _ rfl; have f3 := hF 12 _ _ rfl; have f4 := hF 11 _ _ rfl; have f5 := hF 10 _ _ rfl; have f6 := hF 9 _ _ rfl; have f7 := hF 8 _ _ rfl; have f8 := hF 7 _ _ rfl; have f9 := hF 6 _ _ rfl; have f10 := hF 5 _ _ rfl; have f11 := hF 4 _ _ rfl; have f12 := hF 3 _ _ rfl; have f13 := hF 2 _ _ rfl; have f14 := hF 1 _ _ rfl; have f15 := hF 0 _ _ rfl
                clear hF
                simp only [f0, f1, f2, f3, f4, f5, f6, f7, f8, f9, f10, f11, f13, f14]
                clear f0 f1 f2 f3 f4 f5 f6 f7 f8 f9 f10 f11 f13 f14
                intro oo hoo KQ hK
                obtain rfl := Option.some.inj hoo
                clear hoo
                obtain ⟨tb, ht1, ht2, ht3⟩ := f12
                obtain ⟨a5, c5, h51, h52⟩ := f15
                generalize vs 12 = v12 at *
                generalize vs 15 = v15 at *
                subst ht1
                subst h51
                have HBY := hid (grow_below hR)
                have HT3 := hid ht3
                have HSP := hid h52
                clear HX1 ht3 hR h52 HWO
                go_simp
                have HA1 := hid (HA.out.below HBY.out HA.out.lt)
                have HPY := hid (HPX2.out.later HBY.out)
                have HCL := RTryC.lit (HTT.out m' HM'.out) _ tb x0 p' ad n' c' i j _ _ (unset sp (withinOf x0)) (.rep p x0 (c + 1) j k K) a5 c5 _ HT3.out HX.out HX0.out hij (by omega) ⟨HPY.out.st, (by rw [unset_length]; exact HSP.out.mono (fun b _ hb => HPX2.out.st.new hb)), unset_ok _ HPR.out.ok, .rep HA1.out HINN.out HPY.out.k, HO.out, HOKK.out, by have := HM'.out; omega, hjk, hks, HPR.out.kok.mono (Nat.le_succ _)⟩
                simp only [unset_length] at HCL
                refine HCL.mono ?_
                clear HCL
                rintro e w' ⟨o', m, a9, l9, c9, h1, rfl, h3, h4, h5, h6⟩
                have HE := hid h1
                have HST := hid h3
                have HFD := hid (And.intro h5 h6)
                have HBW : Hid (But [C.X] wr w') := (But.of_below (HBZ.out.trans ((HBX2.out.trans (HBY.out.mono HBX2.out.size)).mono HBZ.out.size))).trans h4
                have HR4 : Hid (_ ∧ _) := ⟨HRW.out.1.but HBW.out (HPR.out.st.nX HRW.out.1 (by decide)), HRW.out.2.but HBW.out (HPR.out.st.nX HRW.out.2 (by decide))⟩
                clear h1 h3 h4 h5 h6
                refine ⟨_, rfl, hK _ _ ?_⟩
                clear hK
                unfold AfterC
                simp only [fill, dstOf, Act.put, List.getElem?_toArray, List.getElem?_cons_zero, List.getElem?_cons_succ, Option.bind_some, List.setIfInBounds_toArray, List.set_cons_zero, List.set_cons_succ, List.drop_succ_cons, List.drop_zero]
                refine Plan.det 18 rfl (fun _ => rfl) ?_
                apply Exists.intro
                refine ⟨fun vs x hR hF K hK => ?_, ?_⟩
                · have f16 := hF 0 _ _ rfl rfl; clear hF
                  go_simp
                  exact hK _ _ rfl rfl
                refine Plan.det 19 rfl (fun _ => rfl) ?_
                apply Exists.intro
                refine ⟨fun vs x hR hF K hK => ?_, ?_⟩
                · have f17 := hF 0 _ _ rfl rfl; clear hF
                  go_simp
                  exact hK _ _ rfl rfl
                refine Plan.det 20 rfl (fun _ => rfl) ?_
                apply Exists.intro
                refine ⟨fun vs x hR hF K hK => ?_, ?_⟩
                · have f17 := hF 1 _ _ rfl rfl; clear hF
                  go_simp
                  exact hK _ _ rfl rfl
                refine Plan.det 21 rfl (fun _ => rfl) ?_
                apply Exists.intro
                refine ⟨fun vs x hR hF K hK => ?_, ?_⟩
                · have f16 := hF 3 _ _ rfl rfl; have f17 := hF 2 _ _ rfl rfl; have f18 := hF 1 _ _ rfl rfl; clear hF
                  go_simp
                  exact hK _ _ rfl rfl
                refine Plan.det 22 rfl (fun _ => rfl) ?_
                apply Exists.intro
                refine ⟨fun vs x hR hF K hK => ?_, ?_⟩
                · have f16 := hF 4 _ _ rfl rfl; have f17 := hF 3 _ _ rfl rfl; have f18 := hF 2 _ _ rfl rfl; have f19 := hF 1 _ _ rfl rfl; have f20 := hF 0 _ _ rfl rfl; clear hF
                  go_simp
                  exact hK _ _ rfl rfl
                refine Plan.nil (fun vs x hR2 hF => ?_)
                have f16 := hF 5 _ _ rfl; have f17 := hF 4 _ _ rfl; have f18 := hF 3 _ _ rfl; have f19 := hF 2 _ _ rfl; have f20 := hF 1 _ _ rfl; have f21 := hF 0 _ _ rfl
                clear hF
                simp only [f16, f17, f18, f19, f20, f21]
                clear f16 f17 f18 f19 f20 f21
                subst hR2
                simp only [List.drop_succ_cons, List.drop_nil]
                clear HC p0 p1 qc
                cases o' with
                | found l =>
                  simp only [Out.isFound]
                  go_wp2_with fail
                  go_ret2
                  exact ⟨.found l, m, a9, l9, c9, HRS.out _ _ (.repjHit (by have := HE.out; rw [HJ.out] at this; exact this) (by intro h; cases h)), rfl, HST.out, HBU.out.trans HBW.out, HFD.out.1, fun h => (by cases h)⟩
                | fail =>
                  simp only [Out.isFound]
                  have p0 := HR4.out.1.c15
                  have p1 := HR4.out.2.c9
                  have qc := HST.out.c
                  go_wp2_with fail
                  refine ⟨⟨(j : Int) - 1, q3, false, rfl, by omega, ⟨.inl (by have := HJ.out; omega), HR4.out, HBU.out.trans HBW.out, fun _ => ⟨m, ?_, ?_, fun o2 m2 he => ?_⟩, fun e => by cases e⟩⟩, ?_⟩
                  · have := (Ev.left C.str C.lines HE.out).1; have := HM'.out; omega
                  · exact ⟨HST.out, HPR.out.span.but HBW.out, HPR.out.ok, HPR.out.k.but HPR.out.st HBW.out, HPR.out.kok.mono (by have := (Ev.left C.str C.lines HE.out).1; omega)⟩
                  · exact HRS.out _ _ (.repjMiss (by have := HE.out; rw [HJ.out] at this; exact this) he)
                  · simp [intOf] <;> omega
                | over =>
                  simp only [Out.isFound]
                  have p0 := HR4.out.1.c15
                  have p1 := HR4.out.2.c9
                  have qc := HST.out.c
                  go_wp2_with fail
                  have h0 := (Ev.left C.str C.lines HE.out).2 rfl
                  subst h0
                  refine ⟨⟨(j : Int) - 1, q3, true, rfl, by omega, ⟨.inl (by have := HJ.out; omega), HR4.out, HBU.out.trans HBW.out, fun e => (by cases e), fun _ => ⟨?_, ?_⟩⟩⟩, ?_⟩
                  · exact HST.out
                  · exact HRS.out _ _ (.repjHit (by have := HE.out; rw [HJ.out] at this; exact this) (by intro h; cases h))
                  · simp [intOf] <;> omega
          · have d2 : decide ((i : Int) ≤ J) = false := by simp [hJi]
            obtain rfl : q2 = 0 := by omega
            clear hJ hJi
            by_cases hik2 : i = k
            · subst hik2
              by_cases hlo : p.lo ≤ (c : Int)
              · have t3 : decide ((c : Int) < p.lo) = false := by simp; omega
                go_wp2_with fail
                go_quiet (fail)
                go_wp2_with fail
                refine ((HNN.out m' HM'.out) _ sp sa sc q (HPR.out.later (below_drewN (Below.refl _ _) _))).mono ?_
                rintro e w' hg
                obtain ⟨a9, l9, c9, fo, rfl, HG⟩ := hg.on (HBU.out.trans (But.of_below (below_drewN (Below.refl _ _) _))) (fun o m he => HRS.out _ _ (.repjEnd ⟨rfl, hlo⟩ he))
                clear hg
                go_wp2_with fail
                go_ret2
                exact HG.out
              · have t3 : decide ((c : Int) < p.lo) = true := by simp; omega
                have HNL := hid hlo
                clear hlo
                go_wp2_with fail
                go_quiet (fail)
                go_wp2_with fail
                go_ret2
                exact RGood.later ⟨.fail, m', none, 0, 0, HRS.out _ _ (.repjFail (fun h => by have h1 := h.2; have h2 := HNL.out; omega)), rfl, HPR.out.st, HBU.out, fun l hl => (by cases hl), fun _ => ⟨rfl, rfl, rfl⟩⟩ (below_drewN (Below.refl _ _) _)
            · have t1 : ((i : Int) == (k : Int)) = false := by simp; omega
              have t1n : ((i : Int) != (k : Int)) = true := by simp; omega
              have HIK := hid hik2
              clear hik2
              go_wp2_with fail
              go_quiet (fail)
              go_wp2_with fail
              go_ret2
              exact RGood.later ⟨.fail, m', none, 0, 0, HRS.out _ _ (.repjFail (fun h => HIK.out h.1)), rfl, HPR.out.st, HBU.out, fun l hl => (by cases hl), fun _ => ⟨rfl, rfl, rfl⟩⟩ (below_drewN (Below.refl _ _) _)
  · have g1 : (p.hi == -1) = false := by unfold mayRep at hmay; simp; omega
    have g2 : decide ((c : Int) < p.hi) = false := by unfold mayRep at hmay; simp; omega
    have HMAY := hid hmay
    clear hmay HC
    have HTL : Hid (∀ o m, Ev C.str C.lines (.repj p x0 c i k lo 0) sp K n o m → Ev C.str C.lines (.rep p x0 c i k) sp K n o m) := fun o m he => .repNot HMAY.out (by have h9 := HLO.out; rw [h9] at he; exact he)
    go_wp2_with fail
    go_quiet (fail)
    have HBX : Hid (Below (w.alloc (.cells #[.int .i64 p.op, .int .u64 p.set.a, .int .u64 p.set.b, .int .u64 p.set.c, .int .u64 p.set.d, .int .i64 p.lo, .int .i64 p.hi, .int .i64 p.gr, .slice (some ⟨bb, o, none⟩) 1 tc] 28)).heap.size (w.alloc (.cells #[.int .i64 p.op, .int .u64 p.set.a, .int .u64 p.set.b, .int .u64 p.set.c, .int .u64 p.set.d, .int .i64 p.lo, .int .i64 p.hi, .int .i64 p.gr, .slice (some ⟨bb, o, none⟩) 1 tc] 28)) ((w.alloc (.cells #[.int .i64 p.op, .int .u64 p.set.a, .int .u64 p.set.b, .int .u64 p.set.c, .int .u64 p.set.d, .int .i64 p.lo, .int .i64 p.hi, .int .i64 p.gr, .slice (some ⟨bb, o, none⟩) 1 tc] 28)).drewN nq)) := below_drewN (Below.refl _ _) nq
    generalize (w.alloc (.cells #[.int .i64 p.op, .int .u64 p.set.a, .int .u64 p.set.b, .int .u64 p.set.c, .int .u64 p.set.d, .int .i64 p.lo, .int .i64 p.hi, .int .i64 p.gr, .slice (some ⟨bb, o, none⟩) 1 tc] 28)).drewN nq = x at HBX ⊢
    have HRX : Hid (Row x b (Tk 3 p (.slice (some ⟨bb, o, none⟩) 1 tc) (.int .i64 i) (.int .i64 k) (.int .i64 c) av (.pointer q)) 90 ∧ Row x w.heap.size [.int .i64 p.op, .int .u64 p.set.a, .int .u64 p.set.b, .int .u64 p.set.c, .int .u64 p.set.d, .int .i64 p.lo, .int .i64 p.hi, .int .i64 p.gr, .slice (some ⟨bb, o, none⟩) 1 tc] 28) := ⟨HRW0.out.1.below HBX.out HRW0.out.1.lt, HRW0.out.2.below HBX.out HRW0.out.2.lt⟩
    have HPX := hid (HPR0.out.later HBX.out)
    have HBU0 : Hid (But [C.X] w x) := But.of_below (HB0.out.trans (HBX.out.mono HB0.out.size))
    clear p0 p1 p0w
    have p0 := HRX.out.1.c15
    have p1 := HRX.out.2.c9
    have qc := HPX.out.st.c
    by_cases hik2 : i = k
    · subst hik2
      by_cases hlo : p.lo ≤ (c : Int)
      · have t3 : decide ((c : Int) < p.lo) = false := by simp; omega
        go_wp2_with fail
        go_quiet (fail)
        go_wp2_with fail
        refine ((HNN.out n (Nat.le_refl _)) _ sp sa sc q (HPX.out.later (below_drewN (Below.refl _ _) _))).mono ?_
        rintro e w' hg
        obtain ⟨a9, l9, c9, fo, rfl, HG⟩ := hg.on (HBU0.out.trans (But.of_below (below_drewN (Below.refl _ _) _))) (fun o m he => HTL.out _ _ (.repjEnd ⟨rfl, hlo⟩ he))
        clear hg
        go_wp2_with fail
        go_ret2
        exact HG.out
      · have t3 : decide ((c : Int) < p.lo) = true := by simp; omega
        have HNL := hid hlo
        clear hlo
        go_wp2_with fail
        go_quiet (fail)
        go_wp2_with fail
        go_ret2
        exact RGood.later ⟨.fail, n, none, 0, 0, HTL.out _ _ (.repjFail (fun h => by have h1 := h.2; have h2 := HNL.out; omega)), rfl, HPX.out.st, HBU0.out, fun l hl => (by cases hl), fun _ => ⟨rfl, rfl, rfl⟩⟩ (below_drewN (Below.refl _ _) _)
    · have t1 : ((i : Int) == (k : Int)) = false := by simp; omega
      have t1n : ((i : Int) != (k : Int)) = true := by simp; omega
      have HIK := hid hik2
      clear hik2
      go_wp2_with fail
      go_quiet (fail)
      go_wp2_with fail
      go_ret2
      exact RGood.later ⟨.fail, n, none, 0, 0, HTL.out _ _ (.repjFail (fun h => HIK.out h.1)), rfl, HPX.out.st, HBU0.out, fun l hl => (by cases hl), fun _ => ⟨rfl, rfl, rfl⟩⟩ (below_drewN (Below.refl _ _) _)
end Go.Proofs.Ytnnocekencaadaa
