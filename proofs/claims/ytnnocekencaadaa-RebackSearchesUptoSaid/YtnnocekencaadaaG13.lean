/- Reback: what follows in a list of trees; the tree that is such a list. -/
import Derived.Test.YtnnocekencaadaaG12
namespace Go.Proofs.Ytnnocekencaadaa
open Go.RowKit
attribute [local go_sem] gives givesUpon
variable {C : Ctx}

theorem Re.AllIn.shift {w : World} {b o : Nat} : ∀ {xs : List Re} {k d : Nat}, Re.AllIn w xs (some ⟨b, o, none⟩) (k + d) → Re.AllIn w xs (some ⟨b, o + d, none⟩) k
  | [], k, d, h => by rw [Re.AllIn]; trivial
  | t :: ts, k, d, h => by
    rw [Re.AllIn] at h ⊢
    obtain ⟨⟨b', o', cs, h1, h2, h3⟩, h4⟩ := h
    injection h1 with h1
    injection h1 with e1 e2 e3
    subst e1; subst e2
    refine ⟨⟨b, o + d, cs, rfl, by rw [show o + d + k = o + (k + d) by omega]; exact h2, h3⟩, ?_⟩
    exact Re.AllIn.shift (k := k + 9) (by rw [show k + 9 + d = k + d + 9 by omega]; exact h4)
/-- What a call that hands on the end of another one makes of it. -/
theorem Good.on {E E' : Out → Nat → Prop} {v w : World} {e : Ending} {w' : World} (h : Good C E w e w') (hb : Below v.heap.size v w) (hE : ∀ o m, E o m → E' o m) : ∃ fo, e = .returned (.bool fo) ∧ Hid (Good C E' v (.returned (.bool fo)) w') := by
  obtain ⟨o, m, h1, rfl, h3, h4, h5⟩ := h
  exact ⟨o.isFound, rfl, o, m, hE o m h1, rfl, h3, (But.of_below hb).trans h4, h5⟩

set_option maxRecDepth 100000 in
set_option maxHeartbeats 8000000 in
theorem next_cat (n : Nat) (HC : CatC C n) (xs : List Re) (j k : Nat) (K : Kont) : NextC C n (.cat xs j k K) := by
  intro w sp sv fid' cap' h
  have hk := h.k
  obtain ⟨sa, sc, rfl⟩ := h.span.form
  have hkok := h.kok
  cases hk with
  | @cat mb ab tb jb a q x _ p sa' ta i sn' sc' tn tc _ _ fid cap _ hm ha hx hq ht hj hk =>
    rw [Kont.ok] at hkok
    obtain ⟨k1, k2, k3, k4, k5⟩ := hkok
    obtain ⟨b, o, p', ad, n', c', rfl, -⟩ := hx.first (Below.refl _ _)
    rw [Re.AllIn] at hx
    have HX : Hid (Re.AllIn C.w0 xs (some ⟨b, o + 9, none⟩) 0) := Re.AllIn.shift (k := 0) hx.2
    have HP := hid h
    have HK := hid hk
    have HCC := hid HC
    have HOK := hid k2
    have HK5 := hid k5
    have HNE := hid k1
    have HRR := hid (fun (x : World) (hx : Grow w.drew x) => (⟨(hm.grow hx).cell 0, (ha.grow hx).cell 0, (ht.grow hx).c13, (hj.grow hx).cell 0⟩ : _ ∧ _ ∧ _ ∧ _))
    have hlen : 1 ≤ xs.length := by
      cases xs with
      | nil => exact absurd rfl k1
      | cons => simp
    have hq1 : (1 : Int) ≤ xs.length + 1 := by omega
    clear h hx hk HC k5 k2 k1 hm ha ht hj
    go_enter Try.func57, Try.ntmps57
    go_wp2_with fail
    have HC := HRR
    refine wp_region_inv 12 (Grow) (by kernel_rfl) (by kernel_rfl) (Grow.refl) (fun _ _ _ => Grow.trans) ?_
    simp only [fill, dstOf, Act.put, List.take_succ_cons, List.take_zero, List.getElem?_toArray, List.getElem?_cons_zero, List.getElem?_cons_succ, Option.bind_some, List.setIfInBounds_toArray, List.set_cons_zero, List.set_cons_succ]
    refine Plan.det 1 rfl (Grow.refl) ?_
    apply Exists.intro
    refine ⟨fun vs x hR hF K hK => ?_, ?_⟩
    · have hc := HC.out x hR; clear hF
      go_simp
      exact hK _ _ (Grow.refl _) rfl
    refine Plan.det 2 rfl (Grow.refl) ?_
    apply Exists.intro
    refine ⟨fun vs x hR hF K hK => ?_, ?_⟩
    · have hc := HC.out x hR; clear hF
      go_simp
      exact hK _ _ (Grow.refl _) rfl
    refine Plan.det 3 rfl (Grow.refl) ?_
    apply Exists.intro
    refine ⟨fun vs x hR hF K hK => ?_, ?_⟩
    · have f1 := hF 0 _ _ rfl rfl; clear hF
      go_simp
      exact hK _ _ (Grow.refl _) rfl
    refine Plan.det 4 rfl (Grow.refl) ?_
    apply Exists.intro
    refine ⟨fun vs x hR hF K hK => ?_, ?_⟩
    · clear hF
      go_simp
      exact hK _ _ (Grow.refl _) rfl
    refine Plan.det 5 rfl (Grow.refl) ?_
    apply Exists.intro
    refine ⟨fun vs x hR hF K hK => ?_, ?_⟩
    · have f3 := hF 0 _ _ rfl rfl; have hc := HC.out x hR; clear hF
      go_simp
      exact hK _ _ (Grow.refl _) rfl
    refine Plan.det 6 rfl (Grow.refl) ?_
    apply Exists.intro
    refine ⟨fun vs x hR hF K hK => ?_, ?_⟩
    · have hc := HC.out x hR; clear hF
      go_simp
      exact hK _ _ (Grow.refl _) rfl
    refine Plan.det 7 rfl (Grow.refl) ?_
    apply Exists.intro
    refine ⟨fun vs x hR hF K hK => ?_, ?_⟩
    · clear hF
      go_simp
      exact hK _ _ (Grow.refl _) rfl
    refine Plan.det 8 rfl (Grow.refl) ?_
    apply Exists.intro
    refine ⟨fun vs x hR hF K hK => ?_, ?_⟩
    · have f6 := hF 0 _ _ rfl rfl; have hc := HC.out x hR; clear hF
      go_simp
      exact hK _ _ (Grow.refl _) rfl
    refine Plan.det 9 rfl (Grow.refl) ?_
    apply Exists.intro
    refine ⟨fun vs x hR hF K hK => ?_, ?_⟩
    · clear hF
      go_simp
      exact hK _ _ (Grow.refl _) rfl
    refine Plan.det 10 rfl (Grow.refl) ?_
    apply Exists.intro
    refine ⟨fun vs x hR hF K hK => ?_, ?_⟩
    · clear hF
      go_simp
      exact hK _ _ (Grow.refl _) rfl
    refine Plan.det 11 rfl (Grow.refl) ?_
    apply Exists.intro
    refine ⟨fun vs x hR hF K hK => ?_, ?_⟩
    · have f9 := hF 0 _ _ rfl rfl; have hc := HC.out x hR; clear hF
      go_simp
      exact hK _ _ (Grow.refl _) rfl
    refine Plan.det 12 rfl (Grow.refl) ?_
    apply Exists.intro
    refine ⟨fun vs x hR hF K hK => ?_, ?_⟩
    · have f4 := hF 6 _ _ rfl rfl; have f5 := hF 5 _ _ rfl rfl; have f7 := hF 3 _ _ rfl rfl; have f8 := hF 2 _ _ rfl rfl; have f10 := hF 0 _ _ rfl rfl; clear hF
      go_simp
      exact hK _ _ (Grow.refl _) rfl
    refine Plan.nil (fun vs x hR hF => ?_)
    have f0 := hF 11 _ _ rfl; have f1 := hF 10 _ _ rfl; have f2 := hF 9 _ _ rfl; have f3 := hF 8 _ _ rfl; have f4 := hF 7 _ _ rfl; have f5 := hF 6 _ _ rfl; have f6 := hF 5 _ _ rfl; have f7 := hF 4 _ _ rfl; have f8 := hF 3 _ _ rfl; have f9 := hF 2 _ _ rfl; have f10 := hF 1 _ _ rfl; have f11 := hF 0 _ _ rfl
    clear hF
    simp only [f0, f1, f2, f3, f4, f5, f6, f7, f8, f9, f10, f11]
    clear f0 f1 f2 f3 f4 f5 f6 f7 f8 f9 f10 f11
    simp only [List.drop_succ_cons, List.drop_zero]
    have HBX := hid (grow_below hR)
    clear HC HRR hR
    go_wp2_with fail
    refine (HCC.out _ xs (some ⟨b, o + 9, none⟩) (q - 1) p ta tn tc j k sp K sa sc fid cap HNE.out HX.out (by omega) (by omega) HOK.out k3 k4 ⟨(HP.out.later HBX.out).st, (HP.out.later HBX.out).span, HP.out.ok, HK.out.later HP.out.st HBX.out, HK5.out⟩).mono ?_
    rintro e w' hg
    obtain ⟨fo, rfl, HG⟩ := hg.on HBX.out (fun o m he => Ev.nextCat (s := C.str) (lines := C.lines) he)
    clear hg
    go_wp2_with fail
    go_ret
    exact HG.out

set_option maxRecDepth 100000 in
set_option maxHeartbeats 8000000 in
theorem arm3 (n : Nat) (HC : CatC C n) : ArmC C n 3 36 (fun t => #[t, .pointer (some ⟨C.MB, 0, none⟩)]) := by
  intro w p xs ta tc i k sp K sa sc fid cap h ho hin hok hik hks
  rw [Re.In] at hin
  obtain ⟨ad, cp, e, hwf, hcl, hcm, -, hall⟩ := hin
  simp only [Pay.cells, List.cons.injEq, Value.slice.injEq] at e
  obtain ⟨-, -, -, -, -, -, -, -, ⟨rfl, -, rfl⟩, -⟩ := e
  rw [Re.ok] at hok
  have HP := hid h
  have HCC := hid HC
  have HAL := hid hall
  have HNE := hid (hok.2.1 (.inl ho))
  have HOK := hid hok.2.2.2.2
  have HO := hid ho
  have R0 : Row (w.alloc (.cells #[.int .i64 p.op, .int .u64 p.set.a, .int .u64 p.set.b, .int .u64 p.set.c, .int .u64 p.set.d, .int .i64 p.lo, .int .i64 p.hi, .int .i64 p.gr, .slice ta xs.length tc, .int .i64 i, .int .i64 k, .slice sa sp.length sc, .func (.func fid) #[] cap] 74)) w.heap.size _ _ := Row.new rfl
  have HB := hid ((Below.refl w.heap.size w).alloc (Nat.le_refl _) (.cells #[.int .i64 p.op, .int .u64 p.set.a, .int .u64 p.set.b, .int .u64 p.set.c, .int .u64 p.set.d, .int .i64 p.lo, .int .i64 p.hi, .int .i64 p.gr, .slice ta xs.length tc, .int .i64 i, .int .i64 k, .slice sa sp.length sc, .func (.func fid) #[] cap] 74))
  have q0 := R0.c13
  have q1 := (h.later HB.out).st.mb.cell 0
  clear h hok hall ho R0 HC
  go_enter Try.func36, Try.ntmps36
  go_wp2_with fail
  refine (HCC.out _ xs ta tc p ta xs.length tc i k sp K sa sc fid cap HNE.out HAL.out hcl hcm HOK.out hik hks (HP.out.later HB.out)).mono ?_
  rintro e w' hg
  obtain ⟨fo, rfl, HG⟩ := hg.on HB.out (fun o m he => Ev.tryCat (s := C.str) (lines := C.lines) (xs := xs) HO.out he)
  clear hg
  go_wp2_with fail
  go_ret
  exact HG.out
end Go.Proofs.Ytnnocekencaadaa
