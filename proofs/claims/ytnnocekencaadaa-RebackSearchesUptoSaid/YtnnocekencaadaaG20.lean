/- Reback: a group, and what follows in it. -/
import Derived.Test.YtnnocekencaadaaG18
import Derived.Test.YtnnocekencaadaaG19
import Derived.Test.YtnnocekencaadaaG05
namespace Go.Proofs.Ytnnocekencaadaa
open Go.RowKit
attribute [local go_sem] gives givesUpon
variable {C : Ctx}

theorem info_span : (Try.prog.info? 44).map (fun i => (i.zero, i.size, i.bytes)) = some (some (.agg #[.int .i64 0, .int .i64 0]), 2, 16) := by kernel_rfl
theorem spc_one : ∀ (l : Spans) (u : Value), u ∈ spc l → u.oneCell' = true
  | x :: l, u, h => by
    simp only [spc, List.mem_cons] at h
    rcases h with rfl | rfl | h
    · rfl
    · rfl
    · exact spc_one l u h
/-- A list of spans that the call itself owns. -/
theorem SpB.own {w : World} {base : Nat} {a : Option Addr} {c n : Nat} {sp : Spans} (h : w.ownsRow base 44 2 (.slice a n c) n (spc sp)) (hn : n = sp.length) (h0 : sp ≠ []) : SpB (base ≤ ·) w (.slice a n c) sp := by
  subst hn
  rcases h.2 with ⟨e1, e2⟩ | ⟨g, cap, cur, hv, hg, hcur, hnc, hcm, hsz, hxs⟩
  · exact absurd (List.eq_nil_of_length_eq_zero (by simpa using e2)) h0
  · refine .inr ⟨h0, g, cap, cur.toList.drop (sp.length * 2), hv, hg, ?_⟩
    have e : spc sp ++ cur.toList.drop (sp.length * 2) = cur.toList := by
      rw [← hxs]
      exact List.take_append_drop _ _
    unfold Row
    rw [e]
    exact hcur
set_option maxRecDepth 100000 in
set_option maxHeartbeats 8000000 in
theorem cloneS_any (w : World) (p : Nat → Prop) (v : Value) (sp : Spans) (h : SpB p w v sp) (hl : sp.length ≤ 9) :
    Calls Try.prog 61 #[v] w fun e w' => ∃ a c, e = .returned (.slice a sp.length c) ∧ Below w.heap.size w w' ∧ SpB (w.heap.size ≤ ·) w' (.slice a sp.length c) sp := by
  rcases h with ⟨rfl, rfl⟩ | ⟨h0, b, c, more, rfl, hp, hr⟩
  · have hcmp : ∀ x : World, Sem.run Try.prog (binOp .eql 33 (.slice none 0 0) (.slice none 0 0)) x = .ok (.bool true) x := fun x => rfl
    go_enter Try.func61, Try.ntmps61
    go_wp2_with fail
    go_ret
    exact ⟨none, 0, rfl, Below.refl _ _, .inl ⟨rfl, rfl⟩⟩
  · obtain ⟨i0, hi, hz0, hz1, hz2⟩ := info_parts info_span
    have hpos : 0 < sp.length := List.length_pos_iff.2 h0
    have HR := hid hr
    clear hr
    have hcmp : ∀ x : World, Sem.run Try.prog (binOp .eql 33 (.slice (some ⟨b, 0, none⟩) sp.length c) (.slice none 0 0)) x = .ok (.bool false) x := fun x => rfl
    go_enter Try.func61, Try.ntmps61
    go_wp2_with (at_builtin; refine wpList_append_row rfl _ _ 33 rfl w.heap.size 44 i0 (.agg #[.int .i64 0, .int .i64 0]) 2 16 Try.underlying33 hi hz0 hz1 hz2 rfl (by decide) _ 0 [] rfl ?c0 ⟨b, 0, none⟩ sp.length c (spc sp) rfl (spc_length sp) ?c1 ?c2 ?c3 ?c4 ?c5 hpos ?_)
    case c0 => exact World.ownsRow_made w #[] 0 (Nat.le_refl _) (by unfold maxLen; omega) rfl
    case c1 =>
      intro j u hj
      rw [Addr.add_lit, Nat.zero_add, (HR.out.alloc _).cell j]
      exact List.getElem?_append_left (List.getElem?_eq_some_iff.1 hj).1 ▸ hj
    case c2 => exact spc_one sp
    case c3 => unfold maxLen; omega
    case c4 => omega
    case c5 => simp
    intro a2 c2 w3 hown hgrow hnw
    have hb3 : Below w.heap.size w w3 := ((Below.refl w.heap.size w).alloc (Nat.le_refl _) _).grown hgrow (by simp) (fun g hg => by simp [Value.ownBlock] at hg; omega)
    have HB3 := hid hb3
    have HOW := hid hown
    clear hown hgrow hnw hb3
    go_wp2_with fail
    go_ret
    exact ⟨a2, c2, rfl, HB3.out, SpB.own HOW.out rfl h0⟩

theorem SpOk.set {N L : Nat} {sp : Spans} (h : SpOk N L sp) (g i k : Nat) (hik : i ≤ k) (hk : k ≤ L) : SpOk N L (sp.set g ((i : Int), (k : Int))) := by
  refine ⟨by rw [List.length_set]; exact h.1, fun x hx => ?_⟩
  rcases List.mem_or_eq_of_mem_set hx with hx | hx
  · exact h.2 x hx
  · subst hx; right; dsimp only; omega
theorem Row.span {w : World} {b g : Nat} {sp : Spans} {more : List Value} {T : TypeId} (h : Row w b (spc sp ++ more) T) (hg : g < sp.length) (x : Int × Int) :
    Row ((w.setCell ⟨b, g * 2, none⟩ (.int .i64 x.1)).setCell ⟨b, g * 2 + 1, none⟩ (.int .i64 x.2)) b (spc (sp.set g x) ++ more) T := by
  have := (h.set (g * 2) (.int .i64 x.1)).set (g * 2 + 1) (.int .i64 x.2)
  have hl := spc_length sp
  rw [List.set_append_left _ _ (by omega), List.set_append_left _ _ (by rw [List.length_set]; omega)] at this
  rw [spc_set, show 2 * g = g * 2 by omega]
  exact this

set_option maxRecDepth 100000 in
set_option maxHeartbeats 8000000 in
theorem next_mark (n : Nat) (g0 i k : Nat) (K : Kont) (HN : NextC C n K) : NextC C n (.mark g0 i k K) := by
  intro w sp sv fid' cap' h
  have hk := h.k
  have hkok := h.kok
  have hfew := h.st.few
  have hN := h.ok.1
  cases hk with
  | @mark b p sl _ _ sa sn sc fid cap _ hr hg hk =>
    rw [Kont.ok] at hkok
    obtain ⟨k1, k2, k3, k4, k5⟩ := hkok
    obtain ⟨g, hge, hgl⟩ : ∃ g : Nat, p.gr - 1 = (g : Int) ∧ g < sp.length := ⟨(p.gr - 1).toNat, by omega, by omega⟩
    have hgi : (g : Int) < (sp.length : Int) := by omega
    have hg0 : 1 ≤ p.gr ∧ p.gr ≤ 9 := by omega
    have hs0 : sp ≠ [] := by rintro rfl; simp at hgl
    have HCL := hid (cloneS_any w _ sv sp h.span (by omega))
    obtain ⟨sa2, sc2, rfl⟩ := h.span.form
    have HP := hid h
    have HK := hid hk
    have HK5 := hid k5
    have HNN := hid HN
    have HR := hid hr
    have hent := hk.enter
    clear h hk HN k5 hr hN
    go_enter Try.func60, Try.ntmps60
    go_wp2_with fail
    refine HCL.out.mono ?_
    rintro e w1 ⟨a1, c1, rfl, hb1, hsp⟩
    rcases hsp with ⟨h0, -⟩ | ⟨-, b1, c1', more, e, hb2, hrow⟩
    · exact absurd h0 hs0
    injection e with e1 _ e2
    subst e1; subst e2
    have hr1 := HR.out.below hb1 HR.out.lt
    have q1 := hr1.c13
    have hsl := spc_length sp
    have hx := spc_get sp g sp[g] (by simp [hgl])
    have s0 := hrow.cell (g * 2)
    have s1 := hrow.cell (g * 2 + 1)
    rw [List.getElem?_append_left (by omega), show g * 2 = 2 * g by omega, hx.1, show 2 * g = g * 2 by omega] at s0
    rw [List.getElem?_append_left (by omega), show g * 2 + 1 = 2 * g + 1 by omega, hx.2, show 2 * g + 1 = g * 2 + 1 by omega] at s1
    have f0 := hrow.free (g * 2)
    have f1 := hrow.free (g * 2 + 1)
    have hne : w.heap.size ≤ b1 := hb2
    have hbl := HR.out.lt
    have HROW := hid hrow
    have HB1 := hid hb1
    have HR1 := hid hr1
    clear hx hrow hb1 hr1 hsl HCL
    generalize sp[g] = x0 at *
    go_wp2_with fail
    have hb2 : Below w.heap.size w ((w1.setCell ⟨b1, g * 2, none⟩ (.int .i64 i)).setCell ⟨b1, g * 2 + 1, none⟩ (.int .i64 k)) := (HB1.out.setCell (p := ⟨b1, g * 2, none⟩) hne _).setCell (p := ⟨b1, g * 2 + 1, none⟩) hne _
    have hge2 : p.gr.toNat - 1 = g := by omega
    have hpre : Pre C n (C.B - n) (sp.set (p.gr.toNat - 1) ((i : Int), (k : Int))) K (.slice (some ⟨b1, 0, none⟩) sp.length c1) (.func (.func fid) #[] cap) ((w1.setCell ⟨b1, g * 2, none⟩ (.int .i64 i)).setCell ⟨b1, g * 2 + 1, none⟩ (.int .i64 k)) := by
      refine ⟨HP.out.st.later hb2, .inr ⟨?_, b1, c1, more, by rw [List.length_set], HP.out.st.new hne, ?_⟩, HP.out.ok.set _ _ _ k3 k4, HK.out.later HP.out.st hb2, HK5.out⟩
      · intro e
        exact hs0 (by have := congrArg List.length e; rw [List.length_set] at this; exact List.eq_nil_of_length_eq_zero this)
      · rw [hge2]
        exact HROW.out.span hgl ((i : Int), (k : Int))
    refine (HNN.out _ _ _ fid cap hpre).mono ?_
    rintro e w' hg'
    obtain ⟨fo, rfl, HG⟩ := hg'.on hb2 (fun o m he => Ev.nextMark (s := C.str) (lines := C.lines) he)
    clear hg' hpre hb2 s0 s1 f0 f1 q1
    go_wp2_with fail
    go_ret
    exact HG.out

-- def TK := [.int .i64 p.op, .int .u64 p.set.a, .int .u64 p.set.b, .int .u64 p.set.c, .int .u64 p.set.d, .int .i64 p.lo, .int .i64 p.hi, .int .i64 p.gr, .slice (some ⟨b, o, none⟩) xs.length tc, .int .i64 i, .int .i64 k, .slice sa sp.length sc, .func (.func fid) #[] cap]
-- def W1 := (w.alloc (.cells #[.int .i64 p.op, .int .u64 p.set.a, .int .u64 p.set.b, .int .u64 p.set.c, .int .u64 p.set.d, .int .i64 p.lo, .int .i64 p.hi, .int .i64 p.gr, .slice (some ⟨b, o, none⟩) xs.length tc, .int .i64 i, .int .i64 k, .slice sa sp.length sc, .func (.func fid) #[] cap] 74))
set_option maxRecDepth 100000 in
set_option maxHeartbeats 8000000 in
theorem arm6 (n : Nat) (HT : TryC C n) : ArmC C n 6 42 (fun t => #[.pointer (some ⟨C.M, 0, none⟩), t]) := by
  intro w p xs ta tc i k sp K sa sc fid cap h ho hin hok hik hks
  rw [Re.In] at hin
  obtain ⟨ad, cp, e, hwf, hcl, hcm, -, hall⟩ := hin
  simp only [Pay.cells, List.cons.injEq, Value.slice.injEq] at e
  obtain ⟨-, -, -, -, -, -, -, -, ⟨rfl, -, rfl⟩, -⟩ := e
  rw [Re.ok] at hok
  obtain ⟨-, -, hk1, hk2, hk3⟩ := hok
  obtain ⟨x0, hx0⟩ := hk1 (.inr ho)
  have hgr := hk2 (.inl ho)
  subst hx0
  obtain ⟨b, o, p', ad, n', c', rfl, hc, hx, hbw⟩ := hall.first (Below.refl _ _)
  have HGO : Hid (∀ (o : Out) (m : Nat), Ev C.str C.lines (.try x0 i k) sp (.mark p.gr.toNat i k K) n o m → Ev C.str C.lines (.try (.mk p [x0]) i k) sp K (n + 1) o m) := fun o m he => .tryGroup ho he
  obtain ⟨xs, hxs⟩ : ∃ xs : List Re, xs = [x0] := ⟨_, rfl⟩
  rw [← hxs]
  have hlen : 0 < xs.length := by rw [hxs]; simp
  have hlenI : (0 : Int) < (xs.length : Int) := by omega
  have R0 : Row (w.alloc (.cells #[.int .i64 p.op, .int .u64 p.set.a, .int .u64 p.set.b, .int .u64 p.set.c, .int .u64 p.set.d, .int .i64 p.lo, .int .i64 p.hi, .int .i64 p.gr, .slice (some ⟨b, o, none⟩) xs.length tc, .int .i64 i, .int .i64 k, .slice sa sp.length sc, .func (.func fid) #[] cap] 74)) w.heap.size [.int .i64 p.op, .int .u64 p.set.a, .int .u64 p.set.b, .int .u64 p.set.c, .int .u64 p.set.d, .int .i64 p.lo, .int .i64 p.hi, .int .i64 p.gr, .slice (some ⟨b, o, none⟩) xs.length tc, .int .i64 i, .int .i64 k, .slice sa sp.length sc, .func (.func fid) #[] cap] 74 := Row.new rfl
  have HB := hid ((Below.refl w.heap.size w).alloc (Nat.le_refl _) (.cells #[.int .i64 p.op, .int .u64 p.set.a, .int .u64 p.set.b, .int .u64 p.set.c, .int .u64 p.set.d, .int .i64 p.lo, .int .i64 p.hi, .int .i64 p.gr, .slice (some ⟨b, o, none⟩) xs.length tc, .int .i64 i, .int .i64 k, .slice sa sp.length sc, .func (.func fid) #[] cap] 74))
  have hpre := h.later HB.out
  have HC := hid (fun (x : World) (hx : Grow ((w.alloc (.cells #[.int .i64 p.op, .int .u64 p.set.a, .int .u64 p.set.b, .int .u64 p.set.c, .int .u64 p.set.d, .int .i64 p.lo, .int .i64 p.hi, .int .i64 p.gr, .slice (some ⟨b, o, none⟩) xs.length tc, .int .i64 i, .int .i64 k, .slice sa sp.length sc, .func (.func fid) #[] cap] 74))).drew x) => (R0.grow hx).c13)
  have HX1 := hid (fun (x : World) (hx : Grow ((w.alloc (.cells #[.int .i64 p.op, .int .u64 p.set.a, .int .u64 p.set.b, .int .u64 p.set.c, .int .u64 p.set.d, .int .i64 p.lo, .int .i64 p.hi, .int .i64 p.gr, .slice (some ⟨b, o, none⟩) xs.length tc, .int .i64 i, .int .i64 k, .slice sa sp.length sc, .func (.func fid) #[] cap] 74))).drew x) => hc.below (hpre.st.below.trans ((grow_below hx).mono hpre.st.below.size)))
  have HP := hid h
  have HX := hid hx
  have HO := hid hk3
  have HTT := hid HT
  have HR0 := hid R0
  have HXS := hid hxs
  have q0 := R0.c13
  clear hc hx hk1 hk2 hk3 h HT R0 hall hpre ho hxs
  go_enter Try.func42, Try.ntmps42
  go_wp2_with fail
  refine wp_region_inv 14 (Grow) (by kernel_rfl) (by kernel_rfl) (Grow.refl) (fun _ _ _ => Grow.trans) ?_
  simp only [fill, dstOf, Act.put, List.take_succ_cons, List.take_zero, List.getElem?_toArray, List.getElem?_cons_zero, List.getElem?_cons_succ, Option.bind_some, List.setIfInBounds_toArray, List.set_cons_zero, List.set_cons_succ]
  refine Plan.det 1 rfl (Grow.refl) ?_
  apply Exists.intro
  refine ⟨fun vs x hR hF K hK => ?_, ?_⟩
  · clear hF
    go_simp
    exact hK _ _ (Grow.refl _) rfl
  refine Plan.det 2 rfl (Grow.refl) ?_
  apply Exists.intro
  refine ⟨fun vs x hR hF K hK => ?_, ?_⟩
  · clear hF
    go_simp
    exact hK _ _ (Grow.refl _) rfl
  refine Plan.det 3 rfl (Grow.refl) ?_
  apply Exists.intro
  refine ⟨fun vs x hR hF K hK => ?_, ?_⟩
  · have f1 := hF 0 _ _ rfl rfl; clear hF
    go_simp
    exact hK _ _ (Grow.refl _) rfl
  refine Plan.det 4 rfl (Grow.refl) ?_
  apply Exists.intro
  refine ⟨fun vs x hR hF K hK => ?_, ?_⟩
  · have f2 := hF 0 _ _ rfl rfl; have hc := HC.out x hR; clear hF
    go_simp
    exact hK _ _ (Grow.refl _) rfl
  refine Plan.det 5 rfl (Grow.refl) ?_
  apply Exists.intro
  refine ⟨fun vs x hR hF K hK => ?_, ?_⟩
  · have f3 := hF 0 _ _ rfl rfl; clear hF
    go_simp
    exact hK _ _ (Grow.refl _) rfl
  refine Plan.det 6 rfl (Grow.refl) ?_
  apply Exists.intro
  refine ⟨fun vs x hR hF K hK => ?_, ?_⟩
  · have f4 := hF 0 _ _ rfl rfl; have hc := HC.out x hR; clear hF
    rw [if_pos (show Region.wanted _ _ = true from rfl)]
    refine gives_load_agg 28 _ rfl b o f4 _ _ (HX1.out x hR) Try.underlying28 rfl (size_re9 _ _ _ _ _ _ _ _ _) ?_
    exact hK _ _ (Grow.refl _) rfl
  refine Plan.det 7 rfl (Grow.refl) ?_
  apply Exists.intro
  refine ⟨fun vs x hR hF K hK => ?_, ?_⟩
  · clear hF
    go_simp
    exact hK _ _ (Grow.refl _) rfl
  refine Plan.det 8 rfl (Grow.refl) ?_
  apply Exists.intro
  refine ⟨fun vs x hR hF K hK => ?_, ?_⟩
  · have f6 := hF 0 _ _ rfl rfl; have hc := HC.out x hR; clear hF
    go_simp
    exact hK _ _ (Grow.refl _) rfl
  refine Plan.det 9 rfl (Grow.refl) ?_
  apply Exists.intro
  refine ⟨fun vs x hR hF K hK => ?_, ?_⟩
  · clear hF
    go_simp
    exact hK _ _ (Grow.refl _) rfl
  refine Plan.det 10 rfl (Grow.refl) ?_
  apply Exists.intro
  refine ⟨fun vs x hR hF K hK => ?_, ?_⟩
  · have f8 := hF 0 _ _ rfl rfl; have hc := HC.out x hR; clear hF
    go_simp
    exact hK _ _ (Grow.refl _) rfl
  refine Plan.det 11 rfl (Grow.refl) ?_
  apply Exists.intro
  refine ⟨fun vs x hR hF K hK => ?_, ?_⟩
  · clear hF
    go_simp
    exact hK _ _ (Grow.refl _) rfl
  refine Plan.det 12 rfl (Grow.refl) ?_
  apply Exists.intro
  refine ⟨fun vs x hR hF K hK => ?_, ?_⟩
  · have f10 := hF 0 _ _ rfl rfl; have hc := HC.out x hR; clear hF
    go_simp
    exact hK _ _ (Grow.refl _) rfl
  refine Plan.det 13 rfl (Grow.refl) ?_
  apply Exists.intro
  refine ⟨fun vs x hR hF K hK => ?_, ?_⟩
  · clear hF
    go_simp
    exact hK _ _ (Grow.refl _) rfl
  refine Plan.det 14 rfl (Grow.refl) ?_
  apply Exists.intro
  refine ⟨fun vs x hR hF K hK => ?_, ?_⟩
  · have f5 := hF 7 _ _ rfl rfl; have f7 := hF 5 _ _ rfl rfl; have f9 := hF 3 _ _ rfl rfl; have f11 := hF 1 _ _ rfl rfl; have f12 := hF 0 _ _ rfl rfl; clear hF
    go_simp
    exact hK _ _ (Grow.refl _) rfl
  refine Plan.nil (fun vs x hR hF => ?_)
  have f0 := hF 13 _ _ rfl; have f1 := hF 12 _ _ rfl; have f2 := hF 11 _ _ rfl; have f3 := hF 10 _ _ rfl; have f4 := hF 9 _ _ rfl; have f5 := hF 8 _ _ rfl; have f6 := hF 7 _ _ rfl; have f7 := hF 6 _ _ rfl; have f8 := hF 5 _ _ rfl; have f9 := hF 4 _ _ rfl; have f10 := hF 3 _ _ rfl; have f11 := hF 2 _ _ rfl; have f12 := hF 1 _ _ rfl; have f13 := hF 0 _ _ rfl
  clear hF
  simp only [f0, f1, f2, f3, f4, f5, f6, f7, f8, f9, f10, f11, f12, f13]
  clear f0 f1 f2 f3 f4 f5 f6 f7 f8 f9 f10 f11 f12 f13
  simp only [List.drop_succ_cons, List.drop_zero]
  have hbx : Below w.heap.size w x := below_grow HB.out (by simp) hR
  have HBX := hid hbx
  have hrx := HR0.out.grow hR
  have HKA : Hid (KAt C x (.func (.func 60) #[] #[.pointer (some ⟨w.heap.size, 0, none⟩)]) (.mark p.gr.toNat i k K)) := .mark hrx (by omega) (HP.out.later hbx).k
  have HPX : Hid (Pre C n (C.B - n + 1) sp (.mark p.gr.toNat i k K) (.slice sa sp.length sc) (.func (.func 60) #[] #[.pointer (some ⟨w.heap.size, 0, none⟩)]) x) :=
    ⟨(HP.out.later hbx).st, (HP.out.later hbx).span, HP.out.ok, HKA.out, by omega, by omega, hik, hks, HP.out.kok.mono (Nat.le_succ _)⟩
  clear HC hR hbx q0 HX1 hrx
  go_wp2_with fail
  refine (TryC.lit HTT.out _ x0 p' ad n' c' i k sp _ _ _ HX.out (by have := HO.out; rw [Re.oks] at this; exact this.1) hik hks HPX.out).mono ?_
  rintro e w' hg'
  obtain ⟨fo, rfl, HG⟩ := hg'.on HBX.out HGO.out
  clear hg'
  go_wp2_with fail
  go_ret
  have := HXS.out
  subst this
  exact HG.out
end Go.Proofs.Ytnnocekencaadaa

/- Reback's reference: do. -/
namespace Go.Proofs.Ytnnocekencaadaa
open Go.RowKit
attribute [local go_sem] gives givesUpon
variable {C : RCtx}

set_option maxHeartbeats 4000000 in
theorem rnext_done (n : Nat) : RNextC C n .done := by
  intro w sp sa sc q h
  have hk := h.k
  cases hk
  have HP := hid h
  clear h
  go_enter Try.func54, Try.ntmps54
  go_wp2_with fail
  go_ret2
  exact ⟨.found sp, n, sa, sp.length, sc, .nextDone, rfl, HP.out.st, But.refl _ _, fun l hl => (by injection hl with hl; subst hl; exact ⟨HP.out.ok, HP.out.span⟩), fun h => (by cases h)⟩

set_option maxRecDepth 100000 in
set_option maxHeartbeats 8000000 in
theorem rnext_cat (n : Nat) (HC : RCatC C n) (xs : List Re) (j k : Nat) (K : Kont) : RNextC C n (.cat xs j k K) := by
  intro w sp sa sc q h
  have hk := h.k
  have hkok := h.kok
  cases hk with
  | @cat b p sl cv a r _ _ _ q _ hr hx hq hk =>
    rw [Kont.ok] at hkok
    obtain ⟨k1, k2, k3, k4, k5⟩ := hkok
    have HH := hid (HC w b p sl cv a r xs j k sp K sa sc q hr k1 hx hq.1 hq.2 k2 k3 k4 ⟨h.st, h.span, h.ok, hk, k5⟩)
    have q0 := hr.c15
    clear h hr hx hk k5 k2 k1 HC hq
    go_enter Try.func54, Try.ntmps54
    go_wp2_with fail
    refine HH.out.mono ?_
    rintro e w' hg
    obtain ⟨a9, l9, c9, fo, rfl, HG⟩ := hg.on (But.refl _ _) (fun o m he => Ev.nextCat (s := C.str) (lines := C.lines) he)
    clear hg HH
    go_wp2_with fail
    go_ret2
    exact HG.out
set_option maxRecDepth 100000 in
set_option maxHeartbeats 8000000 in
theorem rnext_rep (n : Nat) (p : Pay) (x0 : Re) (c j k : Nat) (K : Kont) (HR : RRepC C n K) : RNextC C n (.rep p x0 c j k K) := by
  intro w sp sa sc q h
  have hk := h.k
  have hkok := h.kok
  cases hk with
  | @rep b _ _ ta tc _ _ _ av q _ hr he hk =>
    rw [Kont.ok] at hkok
    obtain ⟨k1, k2, k3, k4, k5, k6⟩ := hkok
    have HH := hid (HR w b p x0 ta tc av c j k sp sa sc q hr k1 he k2 k3 k4 k5 ⟨h.st, h.span, h.ok, hk, k6⟩)
    have q0 := hr.c15
    clear h hr he hk k6 k2 k1 HR
    go_enter Try.func54, Try.ntmps54
    go_wp2_with fail
    refine HH.out.mono ?_
    rintro e w' hg
    obtain ⟨a9, l9, c9, fo, rfl, HG⟩ := hg.on (But.refl _ _) (fun o m he => Ev.nextRep (s := C.str) (lines := C.lines) he)
    clear hg HH
    go_wp2_with fail
    go_ret2
    exact HG.out

set_option maxRecDepth 100000 in
set_option maxHeartbeats 8000000 in
theorem rtry_zero : RTryC C 0 := by
  intro w b p xs ta tc i k cv av sp K sa sc q hr hin hok hik hks h
  have HP := hid h
  have HR := hid hr
  have q0 := hr.c15
  have HC := hid (fun (x : World) (hx : Grow w.drew x) => (h.st.later (grow_below hx)).c)
  have d0 : (((C.B - 0 : Nat) : Int) == (C.B : Int)) = true := by simp
  clear h hr hin hok
  go_enter Try.func54, Try.ntmps54
  go_wp2_with fail
  refine wp_region_inv 9 (Grow) (by kernel_rfl) (by kernel_rfl) (Grow.refl) (fun _ _ _ => Grow.trans) ?_
  simp only [fill, dstOf, Act.put, List.take_succ_cons, List.take_zero, List.getElem?_toArray, List.getElem?_cons_zero, List.getElem?_cons_succ, Option.bind_some, List.setIfInBounds_toArray, List.set_cons_zero, List.set_cons_succ]
  refine Plan.det 1 rfl (Grow.refl) ?_
  apply Exists.intro
  refine ⟨fun vs x hR hF K hK => ?_, ?_⟩
  · clear hF
    go_simp
    exact hK _ _ (Grow.refl _) rfl
  refine Plan.det 2 rfl (Grow.refl) ?_
  apply Exists.intro
  refine ⟨fun vs x hR hF K hK => ?_, ?_⟩
  · have f0 := hF 0 _ _ rfl rfl; clear hF
    go_simp
    exact hK _ _ (Grow.refl _) rfl
  refine Plan.det 3 rfl (Grow.refl) ?_
  apply Exists.intro
  refine ⟨fun vs x hR hF K hK => ?_, ?_⟩
  · have f1 := hF 0 _ _ rfl rfl; clear hF
    go_simp
    exact hK _ _ (Grow.refl _) rfl
  refine Plan.det 4 rfl (Grow.refl) ?_
  apply Exists.intro
  refine ⟨fun vs x hR hF K hK => ?_, ?_⟩
  · have f2 := hF 0 _ _ rfl rfl; have hc := HC.out x hR; clear hF
    go_simp
    exact hK _ _ (Grow.refl _) rfl
  refine Plan.det 5 rfl (Grow.refl) ?_
  apply Exists.intro
  refine ⟨fun vs x hR hF K hK => ?_, ?_⟩
  · clear hF
    go_simp
    exact hK _ _ (Grow.refl _) rfl
  refine Plan.det 6 rfl (Grow.refl) ?_
  apply Exists.intro
  refine ⟨fun vs x hR hF K hK => ?_, ?_⟩
  · have f4 := hF 0 _ _ rfl rfl; clear hF
    go_simp
    exact hK _ _ (Grow.refl _) rfl
  refine Plan.det 7 rfl (Grow.refl) ?_
  apply Exists.intro
  refine ⟨fun vs x hR hF K hK => ?_, ?_⟩
  · have f5 := hF 0 _ _ rfl rfl; clear hF
    go_simp
    exact hK _ _ (Grow.refl _) rfl
  refine Plan.det 8 rfl (Grow.refl) ?_
  apply Exists.intro
  refine ⟨fun vs x hR hF K hK => ?_, ?_⟩
  · have f6 := hF 0 _ _ rfl rfl; have hc := HC.out x hR; clear hF
    go_simp
    exact hK _ _ (Grow.refl _) rfl
  refine Plan.det 9 rfl (Grow.refl) ?_
  apply Exists.intro
  refine ⟨fun vs x hR hF K hK => ?_, ?_⟩
  · have f3 := hF 4 _ _ rfl rfl; have f7 := hF 0 _ _ rfl rfl; clear hF
    go_simp
    exact hK _ _ (Grow.refl _) rfl
  refine Plan.nil (fun vs x hR hF => ?_)
  have f0 := hF 8 _ _ rfl; have f1 := hF 7 _ _ rfl; have f2 := hF 6 _ _ rfl; have f3 := hF 5 _ _ rfl; have f4 := hF 4 _ _ rfl; have f5 := hF 3 _ _ rfl; have f6 := hF 2 _ _ rfl; have f7 := hF 1 _ _ rfl; have f8 := hF 0 _ _ rfl
  clear hF
  simp only [f0, f1, f2, f3, f4, f5, f6, f7, f8]
  clear f0 f1 f2 f3 f4 f5 f6 f7 f8
  simp only [List.drop_succ_cons, List.drop_zero]
  have hbx := grow_below hR
  have HX := hid (HP.out.later hbx)
  have HBX := hid hbx
  clear HC hR hbx q0
  have hc := HX.out.st.c
  have hf := HX.out.st.x.free 4
  go_wp2_with fail
  go_ret2
  obtain ⟨h1, h2, h3, h4, h5, h6, h7⟩ := HX.out.st
  exact ⟨.over, 0, none, 0, 0, .tryOver, rfl, ⟨h1.setCell (by exact h3) _, h2.set 4 (.bool true), h3, h4, h5, h6, h7⟩, (But.of_below HBX.out).setCell (.inl (by simp)) _, fun l hl => (by cases hl), fun _ => ⟨rfl, rfl, rfl⟩⟩

set_option maxRecDepth 100000 in
set_option maxHeartbeats 8000000 in
theorem rtry_succ (n : Nat) (HT : RTry2C C n) : RTryC C (n + 1) := by
  intro w b p xs ta tc i k cv av sp K sa sc q hr hin hok hik hks h
  have HP := hid h
  have HR := hid hr
  have HI := hid hin
  have HO := hid hok
  have HTT := hid HT
  have hnB := h.st.nB
  have hbig := h.st.big
  have q0 := hr.c15
  have HC := hid (fun (x : World) (hx : Grow w.drew x) => (h.st.later (grow_below hx)).c)
  have d0 : (((C.B - (n + 1) : Nat) : Int) == (C.B : Int)) = false := by simp; omega
  have hw1 : IntKind.i64.wrap (((C.B - (n + 1) : Nat) : Int) + 1) = ((C.B - n : Nat) : Int) := by rw [IntKind.wrap_i64]; omega
  have hw2 : ((C.B - (n + 1) : Nat) : Int) + 1 = ((C.B - n : Nat) : Int) := by omega
  clear h hr hin hok HT
  go_enter Try.func54, Try.ntmps54
  go_wp2_with fail
  refine wp_region_inv 9 (Grow) (by kernel_rfl) (by kernel_rfl) (Grow.refl) (fun _ _ _ => Grow.trans) ?_
  simp only [fill, dstOf, Act.put, List.take_succ_cons, List.take_zero, List.getElem?_toArray, List.getElem?_cons_zero, List.getElem?_cons_succ, Option.bind_some, List.setIfInBounds_toArray, List.set_cons_zero, List.set_cons_succ]
  refine Plan.det 1 rfl (Grow.refl) ?_
  apply Exists.intro
  refine ⟨fun vs x hR hF K hK => ?_, ?_⟩
  · clear hF
    go_simp
    exact hK _ _ (Grow.refl _) rfl
  refine Plan.det 2 rfl (Grow.refl) ?_
  apply Exists.intro
  refine ⟨fun vs x hR hF K hK => ?_, ?_⟩
  · have f0 := hF 0 _ _ rfl rfl; clear hF
    go_simp
    exact hK _ _ (Grow.refl _) rfl
  refine Plan.det 3 rfl (Grow.refl) ?_
  apply Exists.intro
  refine ⟨fun vs x hR hF K hK => ?_, ?_⟩
  · have f1 := hF 0 _ _ rfl rfl; clear hF
    go_simp
    exact hK _ _ (Grow.refl _) rfl
  refine Plan.det 4 rfl (Grow.refl) ?_
  apply Exists.intro
  refine ⟨fun vs x hR hF K hK => ?_, ?_⟩
  · have f2 := hF 0 _ _ rfl rfl; have hc := HC.out x hR; clear hF
    go_simp
    exact hK _ _ (Grow.refl _) rfl
  refine Plan.det 5 rfl (Grow.refl) ?_
  apply Exists.intro
  refine ⟨fun vs x hR hF K hK => ?_, ?_⟩
  · clear hF
    go_simp
    exact hK _ _ (Grow.refl _) rfl
  refine Plan.det 6 rfl (Grow.refl) ?_
  apply Exists.intro
  refine ⟨fun vs x hR hF K hK => ?_, ?_⟩
  · have f4 := hF 0 _ _ rfl rfl; clear hF
    go_simp
    exact hK _ _ (Grow.refl _) rfl
  refine Plan.det 7 rfl (Grow.refl) ?_
  apply Exists.intro
  refine ⟨fun vs x hR hF K hK => ?_, ?_⟩
  · have f5 := hF 0 _ _ rfl rfl; clear hF
    go_simp
    exact hK _ _ (Grow.refl _) rfl
  refine Plan.det 8 rfl (Grow.refl) ?_
  apply Exists.intro
  refine ⟨fun vs x hR hF K hK => ?_, ?_⟩
  · have f6 := hF 0 _ _ rfl rfl; have hc := HC.out x hR; clear hF
    go_simp
    exact hK _ _ (Grow.refl _) rfl
  refine Plan.det 9 rfl (Grow.refl) ?_
  apply Exists.intro
  refine ⟨fun vs x hR hF K hK => ?_, ?_⟩
  · have f3 := hF 4 _ _ rfl rfl; have f7 := hF 0 _ _ rfl rfl; clear hF
    go_simp
    exact hK _ _ (Grow.refl _) rfl
  refine Plan.nil (fun vs x hR hF => ?_)
  have f0 := hF 8 _ _ rfl; have f1 := hF 7 _ _ rfl; have f2 := hF 6 _ _ rfl; have f3 := hF 5 _ _ rfl; have f4 := hF 4 _ _ rfl; have f5 := hF 3 _ _ rfl; have f6 := hF 2 _ _ rfl; have f7 := hF 1 _ _ rfl; have f8 := hF 0 _ _ rfl
  clear hF
  simp only [f0, f1, f2, f3, f4, f5, f6, f7, f8]
  clear f0 f1 f2 f3 f4 f5 f6 f7 f8
  simp only [List.drop_succ_cons, List.drop_zero]
  have hbx := grow_below hR
  have HX := hid (HP.out.later hbx)
  have HRX := hid (HR.out.below hbx HR.out.lt)
  have HBX := hid hbx
  clear HC hR hbx q0
  have hc := HX.out.st.c
  have hf := HX.out.st.x.free 2
  go_wp2_with fail
  have hst : C.St n false (x.setCell ⟨C.X, 2, none⟩ (.int .i64 ((C.B - n : Nat) : Int))) := by
    obtain ⟨h1, h2, h3, h4, h5, h6, h7⟩ := HX.out.st
    exact ⟨h1.setCell (by exact h3) _, h2.set 2 (.int .i64 ((C.B - n : Nat) : Int)), h3, by omega, h5, h6, h7⟩
  have hbut : But [C.X] x (x.setCell ⟨C.X, 2, none⟩ (.int .i64 ((C.B - n : Nat) : Int))) := (But.refl _ _).setCell (.inl (by simp)) _
  refine (HTT.out _ b p xs ta tc i k cv av sp K sa sc q (HRX.out.but hbut (HX.out.st.nX HRX.out (by decide))) HI.out HO.out hik hks ⟨hst, HX.out.span.but hbut, HX.out.ok, HX.out.k.but HX.out.st hbut, HX.out.kok.mono (by omega)⟩).mono ?_
  rintro e w' hg
  obtain ⟨a9, l9, c9, fo, rfl, HG⟩ := hg.on ((But.of_below HBX.out).trans hbut) (fun o m he => he)
  clear hg hst hbut hc hf
  go_wp2_with fail
  go_ret2
  exact HG.out
end Go.Proofs.Ytnnocekencaadaa
