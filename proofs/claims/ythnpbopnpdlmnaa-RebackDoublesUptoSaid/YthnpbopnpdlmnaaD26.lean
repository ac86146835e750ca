/- Reback: the trees without parts (LeafS). -/
import Derived.Test.YthnpbopnpdlmnaaD24
namespace Go.Proofs.Ythnpbopnpdlmnaa
open Go.RowKit
attribute [local go_sem] gives givesUpon
variable {C : Ctx}

set_option maxRecDepth 100000 in
set_option maxHeartbeats 8000000 in
theorem set_any (n : Nat) (K : Kont) (HN : NextC C n K) (w : World) (p : Pay) (xs : List Re) (ta : Option Addr) (tn tc i k : Nat) (sp : Spans) (sa : Option Addr) (sn sc fid : Nat) (cap : Array Value) (h : Pre C n (C.B - n) sp K (.slice sa sn sc) (.func (.func fid) #[] cap) w) (ho : p.op = 2) (hwf : p.wf) (hik : i ≤ k) (hks : k ≤ C.s.size) :
    Calls Try.prog 76 #[.agg #[.int .i64 p.op, .int .u64 p.set.a, .int .u64 p.set.b, .int .u64 p.set.c, .int .u64 p.set.d, .int .i64 p.lo, .int .i64 p.hi, .int .i64 p.gr, .slice ta tn tc, .int .i64 i, .int .i64 k, .slice sa sn sc, .func (.func fid) #[] cap], .pointer (some ⟨C.MB, 0, none⟩)] w (Good C (Ev C.str C.lines (.try (.mk p xs) i k) sp K (n + 1)) w) := by
  have HP := hid h
  have HC := hid (fun (x : World) (hx : Grow (w.alloc (.cells #[.int .i64 p.op, .int .u64 p.set.a, .int .u64 p.set.b, .int .u64 p.set.c, .int .u64 p.set.d, .int .i64 p.lo, .int .i64 p.hi, .int .i64 p.gr, .slice ta tn tc, .int .i64 i, .int .i64 k, .slice sa sn sc, .func (.func fid) #[] cap] 138)).drew x) => (⟨(leafHC (cs := [.int .i64 p.op, .int .u64 p.set.a, .int .u64 p.set.b, .int .u64 p.set.c, .int .u64 p.set.d, .int .i64 p.lo, .int .i64 p.hi, .int .i64 p.gr, .slice ta tn tc, .int .i64 i, .int .i64 k, .slice sa sn sc, .func (.func fid) #[] cap]) h hx).1.c13, (leafHC (cs := [.int .i64 p.op, .int .u64 p.set.a, .int .u64 p.set.b, .int .u64 p.set.c, .int .u64 p.set.d, .int .i64 p.lo, .int .i64 p.hi, .int .i64 p.gr, .slice ta tn tc, .int .i64 i, .int .i64 k, .slice sa sn sc, .func (.func fid) #[] cap]) h hx).2.c⟩ : _ ∧ _))
  have hHB := (Below.refl w.heap.size w).alloc (Nat.le_refl _) (.cells #[.int .i64 p.op, .int .u64 p.set.a, .int .u64 p.set.b, .int .u64 p.set.c, .int .u64 p.set.d, .int .i64 p.lo, .int .i64 p.hi, .int .i64 p.gr, .slice ta tn tc, .int .i64 i, .int .i64 k, .slice sa sn sc, .func (.func fid) #[] cap] 138)
  have HB := hid hHB
  have HNN := hid HN
  have q := (Row.new (w := w) (B := w.heap.size) (cs := [.int .i64 p.op, .int .u64 p.set.a, .int .u64 p.set.b, .int .u64 p.set.c, .int .u64 p.set.d, .int .i64 p.lo, .int .i64 p.hi, .int .i64 p.gr, .slice ta tn tc, .int .i64 i, .int .i64 k, .slice sa sn sc, .func (.func fid) #[] cap]) (T := 138) rfl).c13
  have qc := (h.later hHB).st.c
  have HO := hid ho
  have HWF := hid hwf
  have hent := h.k.enter
  have hlen := h.st.len
  clear h HN ho hwf hHB
  by_cases hki : k = i + 1
  · subst hki
    have hwj : IntKind.i64.wrap (i : Int) = i := by rw [IntKind.wrap_i64]; omega
    have hj : (i : Int) < C.s.size := by omega
    have hj2 : (i : Int) + 1 ≤ C.s.size := by omega
    have hw1 : IntKind.i64.wrap ((i : Int) + 1) = (i : Int) + 1 := by rw [IntKind.wrap_i64]; omega
    have hbt : byteAt C.str i = C.s[i] := byteAt_eq (by omega)
    have HH := hid (fun x => PHas_any p.set C.s[i].toNat x HWF.out.set (UInt8.toNat_lt _))
    rcases Bool.eq_false_or_eq_true (p.set.has C.s[i].toNat) with hb | hb
    · have HPL : Hid (plainOf C.str C.lines p i (i + 1) sp = true) := by show _ = _; unfold plainOf; simp [HO.out, hbt, hb]
      rw [hb] at HH
      go_enter Try.func76, Try.ntmps76
      go_wp2_with fail
      refine wp_region_inv 34 (Grow) (by kernel_rfl) (by kernel_rfl) (Grow.refl) (fun _ _ _ => Grow.trans) ?_
      simp only [fill, dstOf, Act.put, List.take_succ_cons, List.take_zero, List.getElem?_toArray, List.getElem?_cons_zero, List.getElem?_cons_succ, Option.bind_some, List.setIfInBounds_toArray, List.set_cons_zero, List.set_cons_succ]
      refine Plan.det 1 rfl (Grow.refl) ?_
      apply Exists.intro
      refine ⟨fun vs x hR hF K hK => ?_, ?_⟩
      · clear hF
        go_simp
        exact hK _ _ (Grow.refl _) rfl
      refine Plan.det 2 rfl (Grow.refl) ?_
      apply Exists.intro
      refine ⟨fun vs x hR hF K hK => ?_, ?_⟩
      · have f0 := hF 0 _ _ rfl rfl; have hc := HC.out x hR; clear hF
        go_simp
        exact hK _ _ (Grow.refl _) rfl
      refine Plan.det 3 rfl (Grow.refl) ?_
      apply Exists.intro
      refine ⟨fun vs x hR hF K hK => ?_, ?_⟩
      · clear hF
        go_simp
        exact hK _ _ (Grow.refl _) rfl
      refine Plan.det 4 rfl (Grow.refl) ?_
      apply Exists.intro
      refine ⟨fun vs x hR hF K hK => ?_, ?_⟩
      · have f2 := hF 0 _ _ rfl rfl; have hc := HC.out x hR; clear hF
        go_simp
        exact hK _ _ (Grow.refl _) rfl
      refine Plan.det 5 rfl (Grow.refl) ?_
      apply Exists.intro
      refine ⟨fun vs x hR hF K hK => ?_, ?_⟩
      · have f3 := hF 0 _ _ rfl rfl; clear hF
        go_simp
        exact hK _ _ (Grow.refl _) rfl
      refine Plan.det 6 rfl (Grow.refl) ?_
      apply Exists.intro
      refine ⟨fun vs x hR hF K hK => ?_, ?_⟩
      · have f1 := hF 3 _ _ rfl rfl; have f4 := hF 0 _ _ rfl rfl; clear hF
        go_simp
        exact hK _ _ (Grow.refl _) rfl
      refine Plan.det 7 rfl (Grow.refl) ?_
      apply Exists.intro
      refine ⟨fun vs x hR hF K hK => ?_, ?_⟩
      · have f5 := hF 0 _ _ rfl rfl; clear hF
        go_simp
        exact hK _ _ (Grow.refl _) rfl
      refine Plan.det 8 rfl (Grow.refl) ?_
      apply Exists.intro
      refine ⟨fun vs x hR hF K hK => ?_, ?_⟩
      · have f6 := hF 0 _ _ rfl rfl; clear hF
        go_simp
        exact hK _ _ (Grow.refl _) rfl
      refine Plan.det 9 rfl (Grow.refl) ?_
      apply Exists.intro
      refine ⟨fun vs x hR hF K hK => ?_, ?_⟩
      · have f6 := hF 1 _ _ rfl rfl; have f7 := hF 0 _ _ rfl rfl; have hc := HC.out x hR; clear hF
        go_simp
        exact hK _ _ (Grow.refl _) rfl
      refine Plan.det 10 rfl (Grow.refl) ?_
      apply Exists.intro
      refine ⟨fun vs x hR hF K hK => ?_, ?_⟩
      · have f6 := hF 2 _ _ rfl rfl; have hc := HC.out x hR; clear hF
        go_simp
        exact hK _ _ (Grow.refl _) rfl
      refine Plan.det 11 rfl (Grow.refl) ?_
      apply Exists.intro
      refine ⟨fun vs x hR hF K hK => ?_, ?_⟩
      · have f6 := hF 3 _ _ rfl rfl; have f9 := hF 0 _ _ rfl rfl; clear hF
        go_simp
        exact hK _ _ (Grow.refl _) rfl
      refine Plan.det 12 rfl (Grow.refl) ?_
      apply Exists.intro
      refine ⟨fun vs x hR hF K hK => ?_, ?_⟩
      · have f6 := hF 4 _ _ rfl rfl; have f10 := hF 0 _ _ rfl rfl; clear hF
        go_simp
        exact hK _ _ (Grow.refl _) rfl
      refine Plan.det 13 rfl (Grow.refl) ?_
      apply Exists.intro
      refine ⟨fun vs x hR hF K hK => ?_, ?_⟩
      · have f6 := hF 5 _ _ rfl rfl; have f11 := hF 0 _ _ rfl rfl; have hc := HC.out x hR; clear hF
        go_simp
        exact hK _ _ (Grow.refl _) rfl
      refine Plan.det 14 rfl (Grow.refl) ?_
      apply Exists.intro
      refine ⟨fun vs x hR hF K hK => ?_, ?_⟩
      · have f6 := hF 6 _ _ rfl rfl; have f12 := hF 0 _ _ rfl rfl; clear hF
        go_simp
        exact hK _ _ (Grow.refl _) rfl
      refine Plan.det 15 rfl (Grow.refl) ?_
      apply Exists.intro
      refine ⟨fun vs x hR hF K hK => ?_, ?_⟩
      · have f6 := hF 7 _ _ rfl rfl; have f8 := hF 5 _ _ rfl rfl; have f13 := hF 0 _ _ rfl rfl; clear hF
        go_simp
        exact hK _ _ (Grow.refl _) rfl
      refine Plan.det 16 rfl (Grow.refl) ?_
      apply Exists.intro
      refine ⟨fun vs x hR hF K hK => ?_, ?_⟩
      · have f6 := hF 8 _ _ rfl rfl; have f14 := hF 0 _ _ rfl rfl; clear hF
        go_simp
        exact hK _ _ (Grow.refl _) rfl
      refine Plan.det 17 rfl (Grow.refl) ?_
      apply Exists.intro
      refine ⟨fun vs x hR hF K hK => ?_, ?_⟩
      · have f6 := hF 9 _ _ rfl rfl; have f15 := hF 0 _ _ rfl rfl; clear hF
        go_simp
        exact hK _ _ (Grow.refl _) rfl
      refine Plan.det 18 rfl (Grow.refl) ?_
      apply Exists.intro
      refine ⟨fun vs x hR hF K hK => ?_, ?_⟩
      · have f16 := hF 0 _ _ rfl rfl; clear hF
        go_simp
        exact hK _ _ (Grow.refl _) rfl
      refine Plan.det 19 rfl (Grow.refl) ?_
      apply Exists.intro
      refine ⟨fun vs x hR hF K hK => ?_, ?_⟩
      · have f16 := hF 1 _ _ rfl rfl; have f17 := hF 0 _ _ rfl rfl; clear hF
        go_simp
        exact hK _ _ (Grow.refl _) rfl
      refine Plan.det 20 rfl (Grow.refl) ?_
      apply Exists.intro
      refine ⟨fun vs x hR hF K hK => ?_, ?_⟩
      · have f16 := hF 2 _ _ rfl rfl; have f18 := hF 0 _ _ rfl rfl; have hc := HC.out x hR; clear hF
        go_simp
        exact hK _ _ (Grow.refl _) rfl
      refine Plan.det 21 rfl (Grow.refl) ?_
      apply Exists.intro
      refine ⟨fun vs x hR hF K hK => ?_, ?_⟩
      · have f16 := hF 3 _ _ rfl rfl; have hc := HC.out x hR; clear hF
        go_simp
        exact hK _ _ (Grow.refl _) rfl
      refine Plan.det 22 rfl (Grow.refl) ?_
      apply Exists.intro
      refine ⟨fun vs x hR hF K hK => ?_, ?_⟩
      · have f16 := hF 4 _ _ rfl rfl; have f20 := hF 0 _ _ rfl rfl; clear hF
        go_simp
        exact hK _ _ (Grow.refl _) rfl
      refine Plan.det 23 rfl (Grow.refl) ?_
      apply Exists.intro
      refine ⟨fun vs x hR hF K hK => ?_, ?_⟩
      · have f16 := hF 5 _ _ rfl rfl; have f21 := hF 0 _ _ rfl rfl; clear hF
        go_simp
        exact hK _ _ (Grow.refl _) rfl
      refine Plan.det 24 rfl (Grow.refl) ?_
      apply Exists.intro
      refine ⟨fun vs x hR hF K hK => ?_, ?_⟩
      · have f16 := hF 6 _ _ rfl rfl; have f22 := hF 0 _ _ rfl rfl; have hc := HC.out x hR; clear hF
        go_simp
        exact hK _ _ (Grow.refl _) rfl
      refine Plan.det 25 rfl (Grow.refl) ?_
      apply Exists.intro
      refine ⟨fun vs x hR hF K hK => ?_, ?_⟩
      · have f16 := hF 7 _ _ rfl rfl; clear hF
        go_simp
        exact hK _ _ (Grow.refl _) rfl
      refine Plan.det 26 rfl (Grow.refl) ?_
      apply Exists.intro
      refine ⟨fun vs x hR hF K hK => ?_, ?_⟩
      · have f16 := hF 8 _ _ rfl rfl; have f24 := hF 0 _ _ rfl rfl; have hc := HC.out x hR; clear hF
        go_simp
        exact hK _ _ (Grow.refl _) rfl
      refine Plan.det 27 rfl (Grow.refl) ?_
      apply Exists.intro
      refine ⟨fun vs x hR hF K hK => ?_, ?_⟩
      · have f16 := hF 9 _ _ rfl rfl; have f23 := hF 2 _ _ rfl rfl; have f25 := hF 0 _ _ rfl rfl; clear hF
        go_simp
        exact hK _ _ (Grow.refl _) rfl
      refine Plan.det 28 rfl (Grow.refl) ?_
      apply Exists.intro
      refine ⟨fun vs x hR hF K hK => ?_, ?_⟩
      · have f16 := hF 10 _ _ rfl rfl; have f19 := hF 7 _ _ rfl rfl; have f26 := hF 0 _ _ rfl rfl; clear hF
        go_simp
        refine (HH.out x).mono ?_
        rintro e x1 ⟨rfl, hbe⟩
        exact ⟨_, rfl, hK _ _ hbe rfl⟩
      refine Plan.det 29 rfl (Grow.refl) ?_
      apply Exists.intro
      refine ⟨fun vs x hR hF K hK => ?_, ?_⟩
      · have f16 := hF 11 _ _ rfl rfl; have f27 := hF 0 _ _ rfl rfl; clear hF
        go_simp
        exact hK _ _ (Grow.refl _) rfl
      refine Plan.det 30 rfl (Grow.refl) ?_
      apply Exists.intro
      refine ⟨fun vs x hR hF K hK => ?_, ?_⟩
      · have f27 := hF 1 _ _ rfl rfl; have f28 := hF 0 _ _ rfl rfl; clear hF
        go_simp
        exact hK _ _ (Grow.refl _) rfl
      refine Plan.det 31 rfl (Grow.refl) ?_
      apply Exists.intro
      refine ⟨fun vs x hR hF K hK => ?_, ?_⟩
      · have f29 := hF 0 _ _ rfl rfl; clear hF
        go_simp
        exact hK _ _ (Grow.refl _) rfl
      refine Plan.det 32 rfl (Grow.refl) ?_
      apply Exists.intro
      refine ⟨fun vs x hR hF K hK => ?_, ?_⟩
      · have f29 := hF 1 _ _ rfl rfl; have f30 := hF 0 _ _ rfl rfl; have hc := HC.out x hR; clear hF
        go_simp
        exact hK _ _ (Grow.refl _) rfl
      refine Plan.det 33 rfl (Grow.refl) ?_
      apply Exists.intro
      refine ⟨fun vs x hR hF K hK => ?_, ?_⟩
      · have f29 := hF 2 _ _ rfl rfl; clear hF
        go_simp
        exact hK _ _ (Grow.refl _) rfl
      refine Plan.det 34 rfl (Grow.refl) ?_
      apply Exists.intro
      refine ⟨fun vs x hR hF K hK => ?_, ?_⟩
      · have f29 := hF 3 _ _ rfl rfl; have f32 := hF 0 _ _ rfl rfl; have hc := HC.out x hR; clear hF
        go_simp
        exact hK _ _ (Grow.refl _) rfl
      refine Plan.nil (fun vs x hR hF => ?_)
      have f0 := hF 33 _ _ rfl; have f1 := hF 32 _ _ rfl; have f2 := hF 31 _ _ rfl; have f3 := hF 30 _ _ rfl; have f4 := hF 29 _ _ rfl; have f5 := hF 28 _ _ rfl; have f6 := hF 27 _ _ rfl; have f7 := hF 26 _ _ rfl; have f8 := hF 25 _ _ rfl; have f9 := hF 24 _ _ rfl; have f10 := hF 23 _ _ rfl; have f11 := hF 22 _ _ rfl; have f12 := hF 21 _ _ rfl; have f13 := hF 20 _ _ rfl; have f14 := hF 19 _ _ rfl; have f15 := hF 18 _ _ rfl; have f16 := hF 17 _ _ rfl; have f17 := hF 16 _ _ rfl; have f18 := hF 15 _ _ rfl; have f19 := hF 14 _ _ rfl; have f20 := hF 13 _ _ rfl; have f21 := hF 12 _ _ rfl; have f22 := hF 11 _ _ rfl; have f23 := hF 10 _ _ rfl; have f24 := hF 9 _ _ rfl; have f25 := hF 8 _ _ rfl; have f26 := hF 7 _ _ rfl; have f27 := hF 6 _ _ rfl; have f28 := hF 5 _ _ rfl; have f29 := hF 4 _ _ rfl; have f30 := hF 3 _ _ rfl; have f31 := hF 2 _ _ rfl; have f32 := hF 1 _ _ rfl; have f33 := hF 0 _ _ rfl
      clear hF
      simp only [f0, f1, f2, f3, f4, f5, f6, f7, f8, f9, f10, f11, f12, f13, f14, f15, f16, f17, f18, f19, f20, f21, f22, f23, f24, f25, f26, f27, f28, f29, f30, f31, f32, f33]
      clear f0 f1 f2 f3 f4 f5 f6 f7 f8 f9 f10 f11 f12 f13 f14 f15 f16 f17 f18 f19 f20 f21 f22 f23 f24 f25 f26 f27 f28 f29 f30 f31 f32 f33
      simp only [List.drop_succ_cons, List.drop_zero]
      have hbx : Below w.heap.size w x := below_grow HB.out (by simp) hR
      have HBX := hid hbx
      clear HC hR hbx q qc
      go_wp2_with fail
      refine (HNN.out _ _ _ _ _ (HP.out.later HBX.out)).mono ?_
      rintro e w' ⟨o, m, h1, rfl, h3, h4, h5⟩
      have HG : Hid (Good C (Ev C.str C.lines .next sp K n) w (.returned (.bool o.isFound)) w') := ⟨o, m, h1, rfl, h3, (But.of_below HBX.out).trans h4, h5⟩
      clear h1 h3 h4 h5
      generalize o.isFound = fo at *
      go_wp2_with fail
      go_ret
      exact HG.out.leafYes (not_part HO.out) HPL.out
    · have HPL : Hid (plainOf C.str C.lines p i (i + 1) sp = false) := by show _ = _; unfold plainOf; simp [HO.out, hbt, hb]
      rw [hb] at HH
      go_enter Try.func76, Try.ntmps76
      go_wp2_with fail
      refine wp_region_inv 34 (Grow) (by kernel_rfl) (by kernel_rfl) (Grow.refl) (fun _ _ _ => Grow.trans) ?_
      simp only [fill, dstOf, Act.put, List.take_succ_cons, List.take_zero, List.getElem?_toArray, List.getElem?_cons_zero, List.getElem?_cons_succ, Option.bind_some, List.setIfInBounds_toArray, List.set_cons_zero, List.set_cons_succ]
      refine Plan.det 1 rfl (Grow.refl) ?_
      apply Exists.intro
      refine ⟨fun vs x hR hF K hK => ?_, ?_⟩
      · clear hF
        go_simp
        exact hK _ _ (Grow.refl _) rfl
      refine Plan.det 2 rfl (Grow.refl) ?_
      apply Exists.intro
      refine ⟨fun vs x hR hF K hK => ?_, ?_⟩
      · have f0 := hF 0 _ _ rfl rfl; have hc := HC.out x hR; clear hF
        go_simp
        exact hK _ _ (Grow.refl _) rfl
      refine Plan.det 3 rfl (Grow.refl) ?_
      apply Exists.intro
      refine ⟨fun vs x hR hF K hK => ?_, ?_⟩
      · clear hF
        go_simp
        exact hK _ _ (Grow.refl _) rfl
      refine Plan.det 4 rfl (Grow.refl) ?_
      apply Exists.intro
      refine ⟨fun vs x hR hF K hK => ?_, ?_⟩
      · have f2 := hF 0 _ _ rfl rfl; have hc := HC.out x hR; clear hF
        go_simp
        exact hK _ _ (Grow.refl _) rfl
      refine Plan.det 5 rfl (Grow.refl) ?_
      apply Exists.intro
      refine ⟨fun vs x hR hF K hK => ?_, ?_⟩
      · have f3 := hF 0 _ _ rfl rfl; clear hF
        go_simp
        exact hK _ _ (Grow.refl _) rfl
      refine Plan.det 6 rfl (Grow.refl) ?_
      apply Exists.intro
      refine ⟨fun vs x hR hF K hK => ?_, ?_⟩
      · have f1 := hF 3 _ _ rfl rfl; have f4 := hF 0 _ _ rfl rfl; clear hF
        go_simp
        exact hK _ _ (Grow.refl _) rfl
      refine Plan.det 7 rfl (Grow.refl) ?_
      apply Exists.intro
      refine ⟨fun vs x hR hF K hK => ?_, ?_⟩
      · have f5 := hF 0 _ _ rfl rfl; clear hF
        go_simp
        exact hK _ _ (Grow.refl _) rfl
      refine Plan.det 8 rfl (Grow.refl) ?_
      apply Exists.intro
      refine ⟨fun vs x hR hF K hK => ?_, ?_⟩
      · have f6 := hF 0 _ _ rfl rfl; clear hF
        go_simp
        exact hK _ _ (Grow.refl _) rfl
      refine Plan.det 9 rfl (Grow.refl) ?_
      apply Exists.intro
      refine ⟨fun vs x hR hF K hK => ?_, ?_⟩
      · have f6 := hF 1 _ _ rfl rfl; have f7 := hF 0 _ _ rfl rfl; have hc := HC.out x hR; clear hF
        go_simp
        exact hK _ _ (Grow.refl _) rfl
      refine Plan.det 10 rfl (Grow.refl) ?_
      apply Exists.intro
      refine ⟨fun vs x hR hF K hK => ?_, ?_⟩
      · have f6 := hF 2 _ _ rfl rfl; have hc := HC.out x hR; clear hF
        go_simp
        exact hK _ _ (Grow.refl _) rfl
      refine Plan.det 11 rfl (Grow.refl) ?_
      apply Exists.intro
      refine ⟨fun vs x hR hF K hK => ?_, ?_⟩
      · have f6 := hF 3 _ _ rfl rfl; have f9 := hF 0 _ _ rfl rfl; clear hF
        go_simp
        exact hK _ _ (Grow.refl _) rfl
      refine Plan.det 12 rfl (Grow.refl) ?_
      apply Exists.intro
      refine ⟨fun vs x hR hF K hK => ?_, ?_⟩
      · have f6 := hF 4 _ _ rfl rfl; have f10 := hF 0 _ _ rfl rfl; clear hF
        go_simp
        exact hK _ _ (Grow.refl _) rfl
      refine Plan.det 13 rfl (Grow.refl) ?_
      apply Exists.intro
      refine ⟨fun vs x hR hF K hK => ?_, ?_⟩
      · have f6 := hF 5 _ _ rfl rfl; have f11 := hF 0 _ _ rfl rfl; have hc := HC.out x hR; clear hF
        go_simp
        exact hK _ _ (Grow.refl _) rfl
      refine Plan.det 14 rfl (Grow.refl) ?_
      apply Exists.intro
      refine ⟨fun vs x hR hF K hK => ?_, ?_⟩
      · have f6 := hF 6 _ _ rfl rfl; have f12 := hF 0 _ _ rfl rfl; clear hF
        go_simp
        exact hK _ _ (Grow.refl _) rfl
      refine Plan.det 15 rfl (Grow.refl) ?_
      apply Exists.intro
      refine ⟨fun vs x hR hF K hK => ?_, ?_⟩
      · have f6 := hF 7 _ _ rfl rfl; have f8 := hF 5 _ _ rfl rfl; have f13 := hF 0 _ _ rfl rfl; clear hF
        go_simp
        exact hK _ _ (Grow.refl _) rfl
      refine Plan.det 16 rfl (Grow.refl) ?_
      apply Exists.intro
      refine ⟨fun vs x hR hF K hK => ?_, ?_⟩
      · have f6 := hF 8 _ _ rfl rfl; have f14 := hF 0 _ _ rfl rfl; clear hF
        go_simp
        exact hK _ _ (Grow.refl _) rfl
      refine Plan.det 17 rfl (Grow.refl) ?_
      apply Exists.intro
      refine ⟨fun vs x hR hF K hK => ?_, ?_⟩
      · have f6 := hF 9 _ _ rfl rfl; have f15 := hF 0 _ _ rfl rfl; clear hF
        go_simp
        exact hK _ _ (Grow.refl _) rfl
      refine Plan.det 18 rfl (Grow.refl) ?_
      apply Exists.intro
      refine ⟨fun vs x hR hF K hK => ?_, ?_⟩
      · have f16 := hF 0 _ _ rfl rfl; clear hF
        go_simp
        exact hK _ _ (Grow.refl _) rfl
      refine Plan.det 19 rfl (Grow.refl) ?_
      apply Exists.intro
      refine ⟨fun vs x hR hF K hK => ?_, ?_⟩
      · have f16 := hF 1 _ _ rfl rfl; have f17 := hF 0 _ _ rfl rfl; clear hF
        go_simp
        exact hK _ _ (Grow.refl _) rfl
      refine Plan.det 20 rfl (Grow.refl) ?_
      apply Exists.intro
      refine ⟨fun vs x hR hF K hK => ?_, ?_⟩
      · have f16 := hF 2 _ _ rfl rfl; have f18 := hF 0 _ _ rfl rfl; have hc := HC.out x hR; clear hF
        go_simp
        exact hK _ _ (Grow.refl _) rfl
      refine Plan.det 21 rfl (Grow.refl) ?_
      apply Exists.intro
      refine ⟨fun vs x hR hF K hK => ?_, ?_⟩
      · have f16 := hF 3 _ _ rfl rfl; have hc := HC.out x hR; clear hF
        go_simp
        exact hK _ _ (Grow.refl _) rfl
      refine Plan.det 22 rfl (Grow.refl) ?_
      apply Exists.intro
      refine ⟨fun vs x hR hF K hK => ?_, ?_⟩
      · have f16 := hF 4 _ _ rfl rfl; have f20 := hF 0 _ _ rfl rfl; clear hF
        go_simp
        exact hK _ _ (Grow.refl _) rfl
      refine Plan.det 23 rfl (Grow.refl) ?_
      apply Exists.intro
      refine ⟨fun vs x hR hF K hK => ?_, ?_⟩
      · have f16 := hF 5 _ _ rfl rfl; have f21 := hF 0 _ _ rfl rfl; clear hF
        go_simp
        exact hK _ _ (Grow.refl _) rfl
      refine Plan.det 24 rfl (Grow.refl) ?_
      apply Exists.intro
      refine ⟨fun vs x hR hF K hK => ?_, ?_⟩
      · have f16 := hF 6 _ _ rfl rfl; have f22 := hF 0 _ _ rfl rfl; have hc := HC.out x hR; clear hF
        go_simp
        exact hK _ _ (Grow.refl _) rfl
      refine Plan.det 25 rfl (Grow.refl) ?_
      apply Exists.intro
      refine ⟨fun vs x hR hF K hK => ?_, ?_⟩
      · have f16 := hF 7 _ _ rfl rfl; clear hF
        go_simp
        exact hK _ _ (Grow.refl _) rfl
      refine Plan.det 26 rfl (Grow.refl) ?_
      apply Exists.intro
      refine ⟨fun vs x hR hF K hK => ?_, ?_⟩
      · have f16 := hF 8 _ _ rfl rfl; have f24 := hF 0 _ _ rfl rfl; have hc := HC.out x hR; clear hF
        go_simp
        exact hK _ _ (Grow.refl _) rfl
      refine Plan.det 27 rfl (Grow.refl) ?_
      apply Exists.intro
      refine ⟨fun vs x hR hF K hK => ?_, ?_⟩
      · have f16 := hF 9 _ _ rfl rfl; have f23 := hF 2 _ _ rfl rfl; have f25 := hF 0 _ _ rfl rfl; clear hF
        go_simp
        exact hK _ _ (Grow.refl _) rfl
      refine Plan.det 28 rfl (Grow.refl) ?_
      apply Exists.intro
      refine ⟨fun vs x hR hF K hK => ?_, ?_⟩
      · have f16 := hF 10 _ _ rfl rfl; have f19 := hF 7 _ _ rfl rfl; have f26 := hF 0 _ _ rfl rfl; clear hF
        go_simp
        refine (HH.out x).mono ?_
        rintro e x1 ⟨rfl, hbe⟩
        exact ⟨_, rfl, hK _ _ hbe rfl⟩
      refine Plan.det 29 rfl (Grow.refl) ?_
      apply Exists.intro
      refine ⟨fun vs x hR hF K hK => ?_, ?_⟩
      · have f16 := hF 11 _ _ rfl rfl; have f27 := hF 0 _ _ rfl rfl; clear hF
        go_simp
        exact hK _ _ (Grow.refl _) rfl
      refine Plan.det 30 rfl (Grow.refl) ?_
      apply Exists.intro
      refine ⟨fun vs x hR hF K hK => ?_, ?_⟩
      · have f27 := hF 1 _ _ rfl rfl; have f28 := hF 0 _ _ rfl rfl; clear hF
        go_simp
        exact hK _ _ (Grow.refl _) rfl
      refine Plan.det 31 rfl (Grow.refl) ?_
      apply Exists.intro
      refine ⟨fun vs x hR hF K hK => ?_, ?_⟩
      · have f29 := hF 0 _ _ rfl rfl; clear hF
        go_simp
        exact hK _ _ (Grow.refl _) rfl
      refine Plan.det 32 rfl (Grow.refl) ?_
      apply Exists.intro
      refine ⟨fun vs x hR hF K hK => ?_, ?_⟩
      · have f29 := hF 1 _ _ rfl rfl; have f30 := hF 0 _ _ rfl rfl; have hc := HC.out x hR; clear hF
        go_simp
        exact hK _ _ (Grow.refl _) rfl
      refine Plan.det 33 rfl (Grow.refl) ?_
      apply Exists.intro
      refine ⟨fun vs x hR hF K hK => ?_, ?_⟩
      · have f29 := hF 2 _ _ rfl rfl; clear hF
        go_simp
        exact hK _ _ (Grow.refl _) rfl
      refine Plan.det 34 rfl (Grow.refl) ?_
      apply Exists.intro
      refine ⟨fun vs x hR hF K hK => ?_, ?_⟩
      · have f29 := hF 3 _ _ rfl rfl; have f32 := hF 0 _ _ rfl rfl; have hc := HC.out x hR; clear hF
        go_simp
        exact hK _ _ (Grow.refl _) rfl
      refine Plan.nil (fun vs x hR hF => ?_)
      have f0 := hF 33 _ _ rfl; have f1 := hF 32 _ _ rfl; have f2 := hF 31 _ _ rfl; have f3 := hF 30 _ _ rfl; have f4 := hF 29 _ _ rfl; have f5 := hF 28 _ _ rfl; have f6 := hF 27 _ _ rfl; have f7 := hF 26 _ _ rfl; have f8 := hF 25 _ _ rfl; have f9 := hF 24 _ _ rfl; have f10 := hF 23 _ _ rfl; have f11 := hF 22 _ _ rfl; have f12 := hF 21 _ _ rfl; have f13 := hF 20 _ _ rfl; have f14 := hF 19 _ _ rfl; have f15 := hF 18 _ _ rfl; have f16 := hF 17 _ _ rfl; have f17 := hF 16 _ _ rfl; have f18 := hF 15 _ _ rfl; have f19 := hF 14 _ _ rfl; have f20 := hF 13 _ _ rfl; have f21 := hF 12 _ _ rfl; have f22 := hF 11 _ _ rfl; have f23 := hF 10 _ _ rfl; have f24 := hF 9 _ _ rfl; have f25 := hF 8 _ _ rfl; have f26 := hF 7 _ _ rfl; have f27 := hF 6 _ _ rfl; have f28 := hF 5 _ _ rfl; have f29 := hF 4 _ _ rfl; have f30 := hF 3 _ _ rfl; have f31 := hF 2 _ _ rfl; have f32 := hF 1 _ _ rfl; have f33 := hF 0 _ _ rfl
      clear hF
      simp only [f0, f1, f2, f3, f4, f5, f6, f7, f8, f9, f10, f11, f12, f13, f14, f15, f16, f17, f18, f19, f20, f21, f22, f23, f24, f25, f26, f27, f28, f29, f30, f31, f32, f33]
      clear f0 f1 f2 f3 f4 f5 f6 f7 f8 f9 f10 f11 f12 f13 f14 f15 f16 f17 f18 f19 f20 f21 f22 f23 f24 f25 f26 f27 f28 f29 f30 f31 f32 f33
      simp only [List.drop_succ_cons, List.drop_zero]
      have hbx : Below w.heap.size w x := below_grow HB.out (by simp) hR
      have HBX := hid hbx
      clear HC hR hbx q qc
      go_wp2_with fail
      go_ret
      exact Good.leafNo HP.out HBX.out (not_part HO.out) HPL.out
  · have hw1 : IntKind.i64.wrap ((i : Int) + 1) = (i : Int) + 1 := by rw [IntKind.wrap_i64]; omega
    have d2 : ((k : Int) == (i : Int) + 1) = false := by simp; omega
    have HPL : Hid (plainOf C.str C.lines p i k sp = false) := by show _ = _; unfold plainOf; simp [HO.out, hki]
    go_enter Try.func76, Try.ntmps76
    go_wp2_with fail
    refine wp_region_inv 34 (Grow) (by kernel_rfl) (by kernel_rfl) (Grow.refl) (fun _ _ _ => Grow.trans) ?_
    simp only [fill, dstOf, Act.put, List.take_succ_cons, List.take_zero, List.getElem?_toArray, List.getElem?_cons_zero, List.getElem?_cons_succ, Option.bind_some, List.setIfInBounds_toArray, List.set_cons_zero, List.set_cons_succ]
    refine Plan.det 1 rfl (Grow.refl) ?_
    apply Exists.intro
    refine ⟨fun vs x hR hF K hK => ?_, ?_⟩
    · clear hF
      go_simp
      exact hK _ _ (Grow.refl _) rfl
    refine Plan.det 2 rfl (Grow.refl) ?_
    apply Exists.intro
    refine ⟨fun vs x hR hF K hK => ?_, ?_⟩
    · have f0 := hF 0 _ _ rfl rfl; have hc := HC.out x hR; clear hF
      go_simp
      exact hK _ _ (Grow.refl _) rfl
    refine Plan.det 3 rfl (Grow.refl) ?_
    apply Exists.intro
    refine ⟨fun vs x hR hF K hK => ?_, ?_⟩
    · clear hF
      go_simp
      exact hK _ _ (Grow.refl _) rfl
    refine Plan.det 4 rfl (Grow.refl) ?_
    apply Exists.intro
    refine ⟨fun vs x hR hF K hK => ?_, ?_⟩
    · have f2 := hF 0 _ _ rfl rfl; have hc := HC.out x hR; clear hF
      go_simp
      exact hK _ _ (Grow.refl _) rfl
    refine Plan.det 5 rfl (Grow.refl) ?_
    apply Exists.intro
    refine ⟨fun vs x hR hF K hK => ?_, ?_⟩
    · have f3 := hF 0 _ _ rfl rfl; clear hF
      go_simp
      exact hK _ _ (Grow.refl _) rfl
    refine Plan.det 6 rfl (Grow.refl) ?_
    apply Exists.intro
    refine ⟨fun vs x hR hF K hK => ?_, ?_⟩
    · have f1 := hF 3 _ _ rfl rfl; have f4 := hF 0 _ _ rfl rfl; clear hF
      go_simp
      exact hK _ _ (Grow.refl _) rfl
    refine Plan.det 7 rfl (Grow.refl) ?_
    apply Exists.intro
    refine ⟨fun vs x hR hF K hK => ?_, ?_⟩
    · have f5 := hF 0 _ _ rfl rfl; clear hF
      go_simp
      exact hK _ _ (Grow.refl _) rfl
    refine Plan.det 8 rfl (Grow.refl) ?_
    apply Exists.intro
    refine ⟨fun vs x hR hF K hK => ?_, ?_⟩
    · have f6 := hF 0 _ _ rfl rfl; clear hF
      go_simp
      exact hK _ _ (Grow.refl _) rfl
    refine Plan.det 9 rfl (Grow.refl) ?_
    apply Exists.intro
    refine ⟨fun vs x hR hF K hK => ?_, ?_⟩
    · have f6 := hF 1 _ _ rfl rfl; have f7 := hF 0 _ _ rfl rfl; have hc := HC.out x hR; clear hF
      go_simp
      exact hK _ _ (Grow.refl _) rfl
    refine Plan.det 10 rfl (Grow.refl) ?_
    apply Exists.intro
    refine ⟨fun vs x hR hF K hK => ?_, ?_⟩
    · have f6 := hF 2 _ _ rfl rfl; have hc := HC.out x hR; clear hF
      go_simp
      exact hK _ _ (Grow.refl _) rfl
    refine Plan.det 11 rfl (Grow.refl) ?_
    apply Exists.intro
    refine ⟨fun vs x hR hF K hK => ?_, ?_⟩
    · have f6 := hF 3 _ _ rfl rfl; have f9 := hF 0 _ _ rfl rfl; clear hF
      go_simp
      exact hK _ _ (Grow.refl _) rfl
    refine Plan.det 12 rfl (Grow.refl) ?_
    apply Exists.intro
    refine ⟨fun vs x hR hF K hK => ?_, ?_⟩
    · have f6 := hF 4 _ _ rfl rfl; have f10 := hF 0 _ _ rfl rfl; clear hF
      go_simp
      exact hK _ _ (Grow.refl _) rfl
    refine Plan.det 13 rfl (Grow.refl) ?_
    apply Exists.intro
    refine ⟨fun vs x hR hF K hK => ?_, ?_⟩
    · have f6 := hF 5 _ _ rfl rfl; have f11 := hF 0 _ _ rfl rfl; have hc := HC.out x hR; clear hF
      go_simp
      exact hK _ _ (Grow.refl _) rfl
    refine Plan.det 14 rfl (Grow.refl) ?_
    apply Exists.intro
    refine ⟨fun vs x hR hF K hK => ?_, ?_⟩
    · have f6 := hF 6 _ _ rfl rfl; have f12 := hF 0 _ _ rfl rfl; clear hF
      go_simp
      exact hK _ _ (Grow.refl _) rfl
    refine Plan.det 15 rfl (Grow.refl) ?_
    apply Exists.intro
    refine ⟨fun vs x hR hF K hK => ?_, ?_⟩
    · have f6 := hF 7 _ _ rfl rfl; have f8 := hF 5 _ _ rfl rfl; have f13 := hF 0 _ _ rfl rfl; clear hF
      go_simp
      exact hK _ _ (Grow.refl _) rfl
    refine Plan.det 16 rfl (Grow.refl) ?_
    apply Exists.intro
    refine ⟨fun vs x hR hF K hK => ?_, ?_⟩
    · have f6 := hF 8 _ _ rfl rfl; have f14 := hF 0 _ _ rfl rfl; clear hF
      go_simp
      exact hK _ _ (Grow.refl _) rfl
    refine Plan.det 17 rfl (Grow.refl) ?_
    apply Exists.intro
    refine ⟨fun vs x hR hF K hK => ?_, ?_⟩
    · have f6 := hF 9 _ _ rfl rfl; have f15 := hF 0 _ _ rfl rfl; clear hF
      go_simp
      exact hK _ _ (Grow.refl _) rfl
    refine Plan.det 18 rfl (Grow.refl) ?_
    apply Exists.intro
    refine ⟨fun vs x hR hF K hK => ?_, ?_⟩
    · have f16 := hF 0 _ _ rfl rfl; clear hF
      go_simp
      exact hK _ _ (Grow.refl _) rfl
    refine Plan.det 19 rfl (Grow.refl) ?_
    apply Exists.intro
    refine ⟨fun vs x hR hF K hK => ?_, ?_⟩
    · have f16 := hF 1 _ _ rfl rfl; have f17 := hF 0 _ _ rfl rfl; clear hF
      go_simp
      exact hK _ _ (Grow.refl _) rfl
    refine Plan.det 20 rfl (Grow.refl) ?_
    apply Exists.intro
    refine ⟨fun vs x hR hF K hK => ?_, ?_⟩
    · have f16 := hF 2 _ _ rfl rfl; have f18 := hF 0 _ _ rfl rfl; have hc := HC.out x hR; clear hF
      go_simp
      exact hK _ _ (Grow.refl _) rfl
    refine Plan.det 21 rfl (Grow.refl) ?_
    apply Exists.intro
    refine ⟨fun vs x hR hF K hK => ?_, ?_⟩
    · have f16 := hF 3 _ _ rfl rfl; have hc := HC.out x hR; clear hF
      go_simp
      exact hK _ _ (Grow.refl _) rfl
    refine Plan.det 22 rfl (Grow.refl) ?_
    apply Exists.intro
    refine ⟨fun vs x hR hF K hK => ?_, ?_⟩
    · have f16 := hF 4 _ _ rfl rfl; have f20 := hF 0 _ _ rfl rfl; clear hF
      go_simp
      exact hK _ _ (Grow.refl _) rfl
    refine Plan.det 23 rfl (Grow.refl) ?_
    apply Exists.intro
    refine ⟨fun vs x hR hF K hK => ?_, ?_⟩
    · have f16 := hF 5 _ _ rfl rfl; have f21 := hF 0 _ _ rfl rfl; clear hF
      go_simp
      exact hK _ _ (Grow.refl _) rfl
    refine Plan.det 24 rfl (Grow.refl) ?_
    apply Exists.intro
    refine ⟨fun vs x hR hF K hK => ?_, ?_⟩
    · have f16 := hF 6 _ _ rfl rfl; have f22 := hF 0 _ _ rfl rfl; have hc := HC.out x hR; clear hF
      go_simp
      exact hK _ _ (Grow.refl _) rfl
    refine Plan.det 25 rfl (Grow.refl) ?_
    apply Exists.intro
    refine ⟨fun vs x hR hF K hK => ?_, ?_⟩
    · have f16 := hF 7 _ _ rfl rfl; clear hF
      go_simp
      exact hK _ _ (Grow.refl _) rfl
    refine Plan.det 26 rfl (Grow.refl) ?_
    apply Exists.intro
    refine ⟨fun vs x hR hF K hK => ?_, ?_⟩
    · have f16 := hF 8 _ _ rfl rfl; have f24 := hF 0 _ _ rfl rfl; have hc := HC.out x hR; clear hF
      go_simp
      exact hK _ _ (Grow.refl _) rfl
    refine Plan.det 27 rfl (Grow.refl) ?_
    apply Exists.intro
    refine ⟨fun vs x hR hF K hK => ?_, ?_⟩
    · have f16 := hF 9 _ _ rfl rfl; have f23 := hF 2 _ _ rfl rfl; have f25 := hF 0 _ _ rfl rfl; clear hF
      go_simp
      exact hK _ _ (Grow.refl _) rfl
    refine Plan.det 28 rfl (Grow.refl) ?_
    apply Exists.intro
    refine ⟨fun vs x hR hF K hK => ?_, ?_⟩
    · have f16 := hF 10 _ _ rfl rfl; have f19 := hF 7 _ _ rfl rfl; have f26 := hF 0 _ _ rfl rfl; clear hF
      go_simp
      exact hK _ _ (Grow.refl _) rfl
    refine Plan.det 29 rfl (Grow.refl) ?_
    apply Exists.intro
    refine ⟨fun vs x hR hF K hK => ?_, ?_⟩
    · have f16 := hF 11 _ _ rfl rfl; have f27 := hF 0 _ _ rfl rfl; clear hF
      go_simp
      exact hK _ _ (Grow.refl _) rfl
    refine Plan.det 30 rfl (Grow.refl) ?_
    apply Exists.intro
    refine ⟨fun vs x hR hF K hK => ?_, ?_⟩
    · have f27 := hF 1 _ _ rfl rfl; have f28 := hF 0 _ _ rfl rfl; clear hF
      go_simp
      exact hK _ _ (Grow.refl _) rfl
    refine Plan.det 31 rfl (Grow.refl) ?_
    apply Exists.intro
    refine ⟨fun vs x hR hF K hK => ?_, ?_⟩
    · have f29 := hF 0 _ _ rfl rfl; clear hF
      go_simp
      exact hK _ _ (Grow.refl _) rfl
    refine Plan.det 32 rfl (Grow.refl) ?_
    apply Exists.intro
    refine ⟨fun vs x hR hF K hK => ?_, ?_⟩
    · have f29 := hF 1 _ _ rfl rfl; have f30 := hF 0 _ _ rfl rfl; have hc := HC.out x hR; clear hF
      go_simp
      exact hK _ _ (Grow.refl _) rfl
    refine Plan.det 33 rfl (Grow.refl) ?_
    apply Exists.intro
    refine ⟨fun vs x hR hF K hK => ?_, ?_⟩
    · have f29 := hF 2 _ _ rfl rfl; clear hF
      go_simp
      exact hK _ _ (Grow.refl _) rfl
    refine Plan.det 34 rfl (Grow.refl) ?_
    apply Exists.intro
    refine ⟨fun vs x hR hF K hK => ?_, ?_⟩
    · have f29 := hF 3 _ _ rfl rfl; have f32 := hF 0 _ _ rfl rfl; have hc := HC.out x hR; clear hF
      go_simp
      exact hK _ _ (Grow.refl _) rfl
    refine Plan.nil (fun vs x hR hF => ?_)
    have f0 := hF 33 _ _ rfl; have f1 := hF 32 _ _ rfl; have f2 := hF 31 _ _ rfl; have f3 := hF 30 _ _ rfl; have f4 := hF 29 _ _ rfl; have f5 := hF 28 _ _ rfl; have f6 := hF 27 _ _ rfl; have f7 := hF 26 _ _ rfl; have f8 := hF 25 _ _ rfl; have f9 := hF 24 _ _ rfl; have f10 := hF 23 _ _ rfl; have f11 := hF 22 _ _ rfl; have f12 := hF 21 _ _ rfl; have f13 := hF 20 _ _ rfl; have f14 := hF 19 _ _ rfl; have f15 := hF 18 _ _ rfl; have f16 := hF 17 _ _ rfl; have f17 := hF 16 _ _ rfl; have f18 := hF 15 _ _ rfl; have f19 := hF 14 _ _ rfl; have f20 := hF 13 _ _ rfl; have f21 := hF 12 _ _ rfl; have f22 := hF 11 _ _ rfl; have f23 := hF 10 _ _ rfl; have f24 := hF 9 _ _ rfl; have f25 := hF 8 _ _ rfl; have f26 := hF 7 _ _ rfl; have f27 := hF 6 _ _ rfl; have f28 := hF 5 _ _ rfl; have f29 := hF 4 _ _ rfl; have f30 := hF 3 _ _ rfl; have f31 := hF 2 _ _ rfl; have f32 := hF 1 _ _ rfl; have f33 := hF 0 _ _ rfl
    clear hF
    simp only [f0, f1, f2, f3, f4, f5, f6, f7, f8, f9, f10, f11, f12, f13, f14, f15, f16, f17, f18, f19, f20, f21, f22, f23, f24, f25, f26, f27, f28, f29, f30, f31, f32, f33]
    clear f0 f1 f2 f3 f4 f5 f6 f7 f8 f9 f10 f11 f12 f13 f14 f15 f16 f17 f18 f19 f20 f21 f22 f23 f24 f25 f26 f27 f28 f29 f30 f31 f32 f33
    simp only [List.drop_succ_cons, List.drop_zero]
    have hbx : Below w.heap.size w x := below_grow HB.out (by simp) hR
    have HBX := hid hbx
    clear HC hR hbx q qc
    go_wp2_with fail
    go_ret
    exact Good.leafNo HP.out HBX.out (not_part HO.out) HPL.out
end Go.Proofs.Ythnpbopnpdlmnaa
