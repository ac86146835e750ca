/- The program of layer 9: parses, op 2. -/
import Derived.Test.YthnpbopnpdlmnaaDoorA32
import Derived.Test.YthnpbopnpdlmnaaDoorA31
namespace Go.Proofs.YthnpbopnpdlmnaaDoor
open Go.RowKit
attribute [local go_sem] gives givesUpon

set_option maxRecDepth 100000 in
set_option maxHeartbeats 16000000 in
theorem ppar2 (wb : World) (N : Nat) (hN : N ≤ 9) (s : ByteArray) (hs : s.size ≤ 1000000) (lines : Bool) (p : Pay) (xs : List Re) (hop : p.op = 2) : PPar wb N s lines (.mk p xs) := by
  intro w cs M sa sc sp i hIn hok hsz hbw hM hsp hspo hi ht
  rw [Re.In] at hIn
  obtain ⟨ad, cap, rfl, hwf, -, -, -, -⟩ := hIn
  simp only [Pay.cells]
  have hP : PAt w M s lines [.int .i64 p.op, .int .u64 p.set.a, .int .u64 p.set.b, .int .u64 p.set.c, .int .u64 p.set.d, .int .i64 p.lo, .int .i64 p.hi, .int .i64 p.gr, .slice ad xs.length cap] (.int .i64 i) (.slice sa sp.length sc) (((w.alloc (.cells #[.int .i64 p.op, .int .u64 p.set.a, .int .u64 p.set.b, .int .u64 p.set.c, .int .u64 p.set.d, .int .i64 p.lo, .int .i64 p.hi, .int .i64 p.gr, .slice ad xs.length cap] 28)).alloc (.cells #[.int .i64 i, .slice sa sp.length sc] 71)).alloc (.cells #[.slice none 0 0] 39)) := ⟨((Row.new rfl).alloc _).alloc _, (Row.new (by simp)).alloc _, ((hM.alloc _).alloc _).alloc _, (((Below.refl _ _).alloc (Nat.le_refl _) _).alloc (by simp) _).alloc (by simp; omega) _⟩
  have hO : OutV (w.heap.size + 2) (.slice none 0 0) [] (((w.alloc (.cells #[.int .i64 p.op, .int .u64 p.set.a, .int .u64 p.set.b, .int .u64 p.set.c, .int .u64 p.set.d, .int .i64 p.lo, .int .i64 p.hi, .int .i64 p.gr, .slice ad xs.length cap] 28)).alloc (.cells #[.int .i64 i, .slice sa sp.length sc] 71)).alloc (.cells #[.slice none 0 0] 39)) := ⟨Row.new (by simp), OwnP.nil _ _⟩
  have q0 := hP.1.c9
  have q1 := hP.2.1.two9
  have q2 := hP.2.2.1.two9
  have HP := hid (⟨hP, hO⟩ : _ ∧ _)
  have HT := hid ht
  have HSP := hid (⟨hsp, hspo⟩ : _ ∧ _)
  have HO := hid hop
  have hsl : s.data.toList.length = s.size := by rw [Array.length_toList]; rfl
  have HSL := hid hsl
  clear hP hO hok hsz hbw hM hsp hspo ht hop hsl
  have e1 : (p.op == 1) = false := by rw [HO.out]; decide
  have e2 : (p.op == 2) = true := by rw [HO.out]; decide
  have e7 : (p.op == 7) = false := by rw [HO.out]; decide
  have e8 : (p.op == 8) = false := by rw [HO.out]; decide
  have e9 : (p.op == 9) = false := by rw [HO.out]; decide
  have HPA0 : Hid (parses s.data.toList lines (.mk p xs) i sp = some (if decide (i < s.size) && p.set.has (byteAt s.data.toList i).toNat then [(i + 1, sp)] else [])) := by show _ = _; rw [parses, HSL.out]; simp only [HO.out]; rfl
  have HC := hid (fun (x : World) (hx : Grow ((((w.alloc (.cells #[.int .i64 p.op, .int .u64 p.set.a, .int .u64 p.set.b, .int .u64 p.set.c, .int .u64 p.set.d, .int .i64 p.lo, .int .i64 p.hi, .int .i64 p.gr, .slice ad xs.length cap] 28)).alloc (.cells #[.int .i64 i, .slice sa sp.length sc] 71)).alloc (.cells #[.slice none 0 0] 39))).drew x) => (⟨(HP.out.1.later (grow_below hx)).1.c9, (HP.out.1.later (grow_below hx)).2.2.1.two9⟩ : _ ∧ _))
  have hsz3 : w.heap.size + 2 < ((((w.alloc (.cells #[.int .i64 p.op, .int .u64 p.set.a, .int .u64 p.set.b, .int .u64 p.set.c, .int .u64 p.set.d, .int .i64 p.lo, .int .i64 p.hi, .int .i64 p.gr, .slice ad xs.length cap] 28)).alloc (.cells #[.int .i64 i, .slice sa sp.length sc] 71)).alloc (.cells #[.slice none 0 0] 39))).heap.size := by simp
  by_cases hlt : i < s.size
  · have hltI : (i : Int) < (s.size : Int) := by omega
    have hmin : min (i : Int) ((s.size : Int) - 1) = (i : Int) := by omega
    have hw1 : IntKind.i64.wrap ((s.size : Int) - 1) = (s.size : Int) - 1 := by rw [IntKind.wrap_i64]; omega
    have hw2 : IntKind.i64.wrap ((i : Int) + 1) = (i : Int) + 1 := by rw [IntKind.wrap_i64]; omega
    have hbt : byteAt s.data.toList i = s[i] := byteAt_eq hlt
    have hb256 : s[i].toNat < 256 := by have := s[i].toNat_lt; omega
    obtain ⟨k, hk⟩ : ∃ k, k = p.set.has s[i].toNat := ⟨_, rfl⟩
    obtain ⟨L, hL⟩ : ∃ L : List Parse, L = if k = true then [] ++ [(i + 1, sp)] else [] := ⟨_, rfl⟩
    have HPA : Hid (parses s.data.toList lines (.mk p xs) i sp = some L) := by show _ = _; rw [HPA0.out, hbt, ← hk, hL]; simp [hlt]
    have HQ : Hid (∀ q, q ∈ L → POk N s.size 0 q) := fun q hq => by
      rw [hL] at hq
      split at hq
      · rw [List.mem_singleton.1 hq]; exact ⟨Nat.zero_le _, hlt, HSP.out.2⟩
      · cases hq
    have HFI : Hid (fin s.size L = some L) := by
      show _ = _
      rw [hL]
      split
      · exact fin_one (q := (i + 1, sp)) hlt
      · exact fin_nil _
    have HLN : Hid (L.length ≤ 200000) := by unfold Hid; rw [hL]; split <;> simp
    have HLL := hid hL
    clear hL
    have HHAS := hid (fun x : World => PHas_any p.set s[i].toNat x hwf.2 hb256)
    rw [← hk] at HHAS
    clear hbt hk HPA0
    go_enter Tryd.func37, Tryd.ntmps37
    go_wp2_with fail
    refine wp_region_two 30 31 rfl (Grow) (by kernel_rfl) (by kernel_rfl) (Grow.refl) (fun _ _ _ => Grow.trans) ?_
    simp only [fill, dstOf, Act.put, List.take_succ_cons, List.take_zero, List.getElem?_toArray, List.getElem?_cons_zero, List.getElem?_cons_succ, Option.bind_some, List.setIfInBounds_toArray, List.set_cons_zero, List.set_cons_succ]
    refine Plan.det 1 rfl (Grow.refl) ?_
    apply Exists.intro
    refine ⟨fun vs x hR hF K hK => ?_, ?_⟩
    · clear hF
      go_simp
      exact hK _ _ (Grow.refl _) rfl
    refine Plan.det 2 rfl (Grow.refl) ?_
    apply Exists.intro
    refine ⟨fun vs x hR hF K hK => ?_, ?_⟩
    · clear hF
      go_simp
      exact hK _ _ (Grow.refl _) rfl
    refine Plan.det 3 rfl (Grow.refl) ?_
    apply Exists.intro
    refine ⟨fun vs x hR hF K hK => ?_, ?_⟩
    · clear hF
      go_simp
      exact hK _ _ (Grow.refl _) rfl
    refine Plan.det 4 rfl (Grow.refl) ?_
    apply Exists.intro
    refine ⟨fun vs x hR hF K hK => ?_, ?_⟩
    · have f2 := hF 0 _ _ rfl rfl; clear hF
      go_simp
      exact hK _ _ (Grow.refl _) rfl
    refine Plan.det 5 rfl (Grow.refl) ?_
    apply Exists.intro
    refine ⟨fun vs x hR hF K hK => ?_, ?_⟩
    · have f3 := hF 0 _ _ rfl rfl; clear hF
      go_simp
      exact hK _ _ (Grow.refl _) rfl
    refine Plan.det 6 rfl (Grow.refl) ?_
    apply Exists.intro
    refine ⟨fun vs x hR hF K hK => ?_, ?_⟩
    · have f4 := hF 0 _ _ rfl rfl; have hc := HC.out x hR; clear hF
      go_simp
      exact hK _ _ (Grow.refl _) rfl
    refine Plan.det 7 rfl (Grow.refl) ?_
    apply Exists.intro
    refine ⟨fun vs x hR hF K hK => ?_, ?_⟩
    · have f5 := hF 0 _ _ rfl rfl; clear hF
      go_simp
      exact hK _ _ (Grow.refl _) rfl
    refine Plan.det 8 rfl (Grow.refl) ?_
    apply Exists.intro
    refine ⟨fun vs x hR hF K hK => ?_, ?_⟩
    · have f1 := hF 5 _ _ rfl rfl; have f6 := hF 0 _ _ rfl rfl; clear hF
      go_simp
      exact hK _ _ (Grow.refl _) rfl
    refine Plan.det 9 rfl (Grow.refl) ?_
    apply Exists.intro
    refine ⟨fun vs x hR hF K hK => ?_, ?_⟩
    · have f7 := hF 0 _ _ rfl rfl; clear hF
      go_simp
      exact hK _ _ (Grow.refl _) rfl
    refine Plan.det 10 rfl (Grow.refl) ?_
    apply Exists.intro
    refine ⟨fun vs x hR hF K hK => ?_, ?_⟩
    · have f8 := hF 0 _ _ rfl rfl; clear hF
      go_simp
      exact hK _ _ (Grow.refl _) rfl
    refine Plan.det 11 rfl (Grow.refl) ?_
    apply Exists.intro
    refine ⟨fun vs x hR hF K hK => ?_, ?_⟩
    · have f8 := hF 1 _ _ rfl rfl; have f9 := hF 0 _ _ rfl rfl; have hc := HC.out x hR; clear hF
      go_simp
      exact hK _ _ (Grow.refl _) rfl
    refine Plan.det 12 rfl (Grow.refl) ?_
    apply Exists.intro
    refine ⟨fun vs x hR hF K hK => ?_, ?_⟩
    · have f8 := hF 2 _ _ rfl rfl; clear hF
      go_simp
      exact hK _ _ (Grow.refl _) rfl
    refine Plan.det 13 rfl (Grow.refl) ?_
    apply Exists.intro
    refine ⟨fun vs x hR hF K hK => ?_, ?_⟩
    · have f8 := hF 3 _ _ rfl rfl; have f11 := hF 0 _ _ rfl rfl; clear hF
      go_simp
      exact hK _ _ (Grow.refl _) rfl
    refine Plan.det 14 rfl (Grow.refl) ?_
    apply Exists.intro
    refine ⟨fun vs x hR hF K hK => ?_, ?_⟩
    · have f8 := hF 4 _ _ rfl rfl; have f12 := hF 0 _ _ rfl rfl; clear hF
      go_simp
      exact hK _ _ (Grow.refl _) rfl
    refine Plan.det 15 rfl (Grow.refl) ?_
    apply Exists.intro
    refine ⟨fun vs x hR hF K hK => ?_, ?_⟩
    · have f8 := hF 5 _ _ rfl rfl; have f13 := hF 0 _ _ rfl rfl; have hc := HC.out x hR; clear hF
      go_simp
      exact hK _ _ (Grow.refl _) rfl
    refine Plan.det 16 rfl (Grow.refl) ?_
    apply Exists.intro
    refine ⟨fun vs x hR hF K hK => ?_, ?_⟩
    · have f8 := hF 6 _ _ rfl rfl; clear hF
      go_simp
      exact hK _ _ (Grow.refl _) rfl
    refine Plan.det 17 rfl (Grow.refl) ?_
    apply Exists.intro
    refine ⟨fun vs x hR hF K hK => ?_, ?_⟩
    · have f8 := hF 7 _ _ rfl rfl; clear hF
      go_simp
      exact hK _ _ (Grow.refl _) rfl
    refine Plan.det 18 rfl (Grow.refl) ?_
    apply Exists.intro
    refine ⟨fun vs x hR hF K hK => ?_, ?_⟩
    · have f8 := hF 8 _ _ rfl rfl; have f16 := hF 0 _ _ rfl rfl; clear hF
      go_simp
      exact hK _ _ (Grow.refl _) rfl
    refine Plan.det 19 rfl (Grow.refl) ?_
    apply Exists.intro
    refine ⟨fun vs x hR hF K hK => ?_, ?_⟩
    · have f8 := hF 9 _ _ rfl rfl; have f17 := hF 0 _ _ rfl rfl; clear hF
      go_simp
      exact hK _ _ (Grow.refl _) rfl
    refine Plan.det 20 rfl (Grow.refl) ?_
    apply Exists.intro
    refine ⟨fun vs x hR hF K hK => ?_, ?_⟩
    · have f8 := hF 10 _ _ rfl rfl; have f18 := hF 0 _ _ rfl rfl; have hc := HC.out x hR; clear hF
      go_simp
      exact hK _ _ (Grow.refl _) rfl
    refine Plan.det 21 rfl (Grow.refl) ?_
    apply Exists.intro
    refine ⟨fun vs x hR hF K hK => ?_, ?_⟩
    · have f8 := hF 11 _ _ rfl rfl; have f19 := hF 0 _ _ rfl rfl; clear hF
      go_simp
      exact hK _ _ (Grow.refl _) rfl
    refine Plan.det 22 rfl (Grow.refl) ?_
    apply Exists.intro
    refine ⟨fun vs x hR hF K hK => ?_, ?_⟩
    · have f8 := hF 12 _ _ rfl rfl; have f20 := hF 0 _ _ rfl rfl; clear hF
      go_simp
      exact hK _ _ (Grow.refl _) rfl
    refine Plan.det 23 rfl (Grow.refl) ?_
    apply Exists.intro
    refine ⟨fun vs x hR hF K hK => ?_, ?_⟩
    · have f8 := hF 13 _ _ rfl rfl; have f15 := hF 6 _ _ rfl rfl; have f21 := hF 0 _ _ rfl rfl; clear hF
      go_simp
      exact hK _ _ (Grow.refl _) rfl
    refine Plan.det 24 rfl (Grow.refl) ?_
    apply Exists.intro
    refine ⟨fun vs x hR hF K hK => ?_, ?_⟩
    · have f8 := hF 14 _ _ rfl rfl; have f14 := hF 8 _ _ rfl rfl; have f22 := hF 0 _ _ rfl rfl; clear hF
      go_simp
      exact hK _ _ (Grow.refl _) rfl
    refine Plan.det 25 rfl (Grow.refl) ?_
    apply Exists.intro
    refine ⟨fun vs x hR hF K hK => ?_, ?_⟩
    · have f8 := hF 15 _ _ rfl rfl; have f10 := hF 13 _ _ rfl rfl; have f23 := hF 0 _ _ rfl rfl; clear hF
      go_simp
      refine (HHAS.out x).mono ?_
      rintro e x1 ⟨rfl, hbe⟩
      exact ⟨_, rfl, hK _ _ hbe rfl⟩
    refine Plan.det 26 rfl (Grow.refl) ?_
    apply Exists.intro
    refine ⟨fun vs x hR hF K hK => ?_, ?_⟩
    · have f8 := hF 16 _ _ rfl rfl; have f24 := hF 0 _ _ rfl rfl; clear hF
      go_simp
      exact hK _ _ (Grow.refl _) rfl
    refine Plan.det 27 rfl (Grow.refl) ?_
    apply Exists.intro
    refine ⟨fun vs x hR hF K hK => ?_, ?_⟩
    · clear hF
      go_simp
      exact hK _ _ (Grow.refl _) rfl
    refine Plan.det 28 rfl (Grow.refl) ?_
    apply Exists.intro
    refine ⟨fun vs x hR hF K hK => ?_, ?_⟩
    · have f26 := hF 0 _ _ rfl rfl; clear hF
      go_simp
      exact hK _ _ (Grow.refl _) rfl
    refine Plan.det 29 rfl (Grow.refl) ?_
    apply Exists.intro
    refine ⟨fun vs x hR hF K hK => ?_, ?_⟩
    · clear hF
      go_simp
      exact hK _ _ (Grow.refl _) rfl
    refine Plan.det 30 rfl (Grow.refl) ?_
    apply Exists.intro
    refine ⟨fun vs x hR hF K hK => ?_, ?_⟩
    · have f27 := hF 1 _ _ rfl rfl; have f28 := hF 0 _ _ rfl rfl; clear hF
      go_simp
      exact hK _ _ (Grow.refl _) rfl
    refine PlanEnd (by simp) (fun vs x hR hF => ?_)
    have f0 := hF 29 _ _ rfl; have f1 := hF 28 _ _ rfl; have f2 := hF 27 _ _ rfl; have f3 := hF 26 _ _ rfl; have f4 := hF 25 _ _ rfl; have f5 := hF 24 _ _ rfl; have f6 := hF 23 _ _ rfl; have f7 := hF 22 _ _ rfl; have f8 := hF 21 _ _ rfl; have f9 := hF 20 _ _ rfl; have f10 := hF 19 _ _ rfl; have f11 := hF 18 _ _ rfl; have f12 := hF 17 _ _ rfl; have f13 := hF 16 _ _ rfl; have f14 := hF 15 _ _ rfl; have f15 := hF 14 _ _ rfl; have f16 := hF 13 _ _ rfl; have f17 := hF 12 _ _ rfl; have f18 := hF 11 _ _ rfl; have f19 := hF 10 _ _ rfl; have f20 := hF 9 _ _ rfl; have f21 := hF 8 _ _ rfl; have f22 := hF 7 _ _ rfl; have f23 := hF 6 _ _ rfl; have f24 := hF 5 _ _ rfl; have f25 := hF 4 _ _ rfl; have f26 := hF 3 _ _ rfl; have f27 := hF 2 _ _ rfl; have f28 := hF 1 _ _ rfl; have f29 := hF 0 _ _ rfl
    clear hF
    simp only [f0, f1, f2, f3, f4, f5, f6, f7, f8, f9, f10, f11, f12, f13, f14, f15, f16, f17, f18, f19, f20, f21, f22, f23, f24, f25, f26, f27, f28, f29]
    clear f0 f1 f2 f3 f4 f5 f6 f7 f8 f9 f10 f11 f12 f13 f14 f15 f16 f17 f18 f19 f20 f21 f22 f23 f24 f25 f26 f27 f28 f29
    intro oo hoo KQ hK
    obtain rfl := Option.some.inj hoo
    clear hoo
    have HBX := hid (HP.out.1.2.2.2.trans ((grow_below hR).mono (by omega)))
    have HOX := hid (HP.out.2.below (grow_below hR))
    have HSX := hid (HSP.out.1.below HBX.out)
    clear hR
    go_simp
    have hpa := padd_any x (w.heap.size + 2) (.slice none 0 0) [] k (i + 1, sp) sa sc HOX.out (by simp) HSX.out
    rw [← HLL.out] at hpa
    refine hpa.mono ?_
    clear hpa
    rintro e z ⟨rfl, ov, hz⟩
    refine ⟨_, rfl, hK _ _ ?_⟩
    clear hK
    unfold AfterC
    simp only [fill, dstOf, Act.put, List.getElem?_toArray, List.getElem?_cons_zero, List.getElem?_cons_succ, Option.bind_some, List.setIfInBounds_toArray, List.set_cons_zero, List.set_cons_succ, List.drop_succ_cons, List.drop_zero]
    refine Plan.nil (fun vs x hR2 hF => ?_)
    have f30 := hF 0 _ _ rfl
    clear hF
    simp only [f30]
    clear f30
    subst hR2
    simp only [List.drop_succ_cons, List.drop_nil]
    clear HC q0 q1 q2 HHAS
    have HZ := hid (⟨hz.1, HBX.out.trans ((hz.low HOX.out).mono (by have := HBX.out.size; omega))⟩ : _ ∧ Below w.heap.size w z)
    have q3 := HZ.out.1.1.cell 0
    have HE := hid (pend_any w z _ ov _ N s.size _ HZ.out.1 HZ.out.2 HLN.out HQ.out hN hs HT.out HFI.out)
    clear hz
    go_wp2_with fail
    refine HE.out.mono ?_
    rintro e z2 ⟨hb2, a2, c2, rfl, h2⟩
    have HR := hid (⟨hb2, h2⟩ : _ ∧ _)
    clear hb2 h2
    go_wp2_with fail
    go_ret
    rw [HPA.out]
    exact ⟨HR.out.1, a2, c2, rfl, HR.out.2⟩
  · have hltI : ¬ (i : Int) < (s.size : Int) := by omega
    have hw2 : IntKind.i64.wrap ((i : Int) + 1) = (i : Int) + 1 := by rw [IntKind.wrap_i64]; omega
    have HPA : Hid (parses s.data.toList lines (.mk p xs) i sp = some []) := by show _ = _; rw [HPA0.out]; simp [hlt]
    have HQ : Hid (∀ q, q ∈ ([] : List Parse) → POk N s.size 0 q) := fun q hq => by cases hq
    have HFI := hid (fin_nil s.size)
    clear HPA0
    go_enter Tryd.func37, Tryd.ntmps37
    go_wp2_with fail
    refine wp_region_two 30 31 rfl (Grow) (by kernel_rfl) (by kernel_rfl) (Grow.refl) (fun _ _ _ => Grow.trans) ?_
    simp only [fill, dstOf, Act.put, List.take_succ_cons, List.take_zero, List.getElem?_toArray, List.getElem?_cons_zero, List.getElem?_cons_succ, Option.bind_some, List.setIfInBounds_toArray, List.set_cons_zero, List.set_cons_succ]
    refine Plan.det 1 rfl (Grow.refl) ?_
    apply Exists.intro
    refine ⟨fun vs x hR hF K hK => ?_, ?_⟩
    · clear hF
      go_simp
      exact hK _ _ (Grow.refl _) rfl
    refine Plan.det 2 rfl (Grow.refl) ?_
    apply Exists.intro
    refine ⟨fun vs x hR hF K hK => ?_, ?_⟩
    · clear hF
      go_simp
      exact hK _ _ (Grow.refl _) rfl
    refine Plan.det 3 rfl (Grow.refl) ?_
    apply Exists.intro
    refine ⟨fun vs x hR hF K hK => ?_, ?_⟩
    · clear hF
      go_simp
      exact hK _ _ (Grow.refl _) rfl
    refine Plan.det 4 rfl (Grow.refl) ?_
    apply Exists.intro
    refine ⟨fun vs x hR hF K hK => ?_, ?_⟩
    · have f2 := hF 0 _ _ rfl rfl; clear hF
      go_simp
      exact hK _ _ (Grow.refl _) rfl
    refine Plan.det 5 rfl (Grow.refl) ?_
    apply Exists.intro
    refine ⟨fun vs x hR hF K hK => ?_, ?_⟩
    · have f3 := hF 0 _ _ rfl rfl; clear hF
      go_simp
      exact hK _ _ (Grow.refl _) rfl
    refine Plan.det 6 rfl (Grow.refl) ?_
    apply Exists.intro
    refine ⟨fun vs x hR hF K hK => ?_, ?_⟩
    · have f4 := hF 0 _ _ rfl rfl; have hc := HC.out x hR; clear hF
      go_simp
      exact hK _ _ (Grow.refl _) rfl
    refine Plan.det 7 rfl (Grow.refl) ?_
    apply Exists.intro
    refine ⟨fun vs x hR hF K hK => ?_, ?_⟩
    · have f5 := hF 0 _ _ rfl rfl; clear hF
      go_simp
      exact hK _ _ (Grow.refl _) rfl
    refine Plan.det 8 rfl (Grow.refl) ?_
    apply Exists.intro
    refine ⟨fun vs x hR hF K hK => ?_, ?_⟩
    · have f1 := hF 5 _ _ rfl rfl; have f6 := hF 0 _ _ rfl rfl; clear hF
      go_simp
      exact hK _ _ (Grow.refl _) rfl
    refine Plan.det 9 rfl (Grow.refl) ?_
    apply Exists.intro
    refine ⟨fun vs x hR hF K hK => ?_, ?_⟩
    · have f7 := hF 0 _ _ rfl rfl; clear hF
      go_simp
      exact hK _ _ (Grow.refl _) rfl
    refine Plan.det 10 rfl (Grow.refl) ?_
    apply Exists.intro
    refine ⟨fun vs x hR hF K hK => ?_, ?_⟩
    · have f8 := hF 0 _ _ rfl rfl; clear hF
      go_simp
      exact hK _ _ (Grow.refl _) rfl
    refine Plan.det 11 rfl (Grow.refl) ?_
    apply Exists.intro
    refine ⟨fun vs x hR hF K hK => ?_, ?_⟩
    · have f8 := hF 1 _ _ rfl rfl; have f9 := hF 0 _ _ rfl rfl; have hc := HC.out x hR; clear hF
      go_simp
      exact hK _ _ (Grow.refl _) rfl
    refine Plan.det 12 rfl (Grow.refl) ?_
    apply Exists.intro
    refine ⟨fun vs x hR hF K hK => ?_, ?_⟩
    · have f8 := hF 2 _ _ rfl rfl; clear hF
      go_simp
      exact hK _ _ (Grow.refl _) rfl
    refine Plan.det 13 rfl (Grow.refl) ?_
    apply Exists.intro
    refine ⟨fun vs x hR hF K hK => ?_, ?_⟩
    · have f8 := hF 3 _ _ rfl rfl; have f11 := hF 0 _ _ rfl rfl; clear hF
      go_simp
      exact hK _ _ (Grow.refl _) rfl
    refine Plan.det 14 rfl (Grow.refl) ?_
    apply Exists.intro
    refine ⟨fun vs x hR hF K hK => ?_, ?_⟩
    · have f8 := hF 4 _ _ rfl rfl; have f12 := hF 0 _ _ rfl rfl; clear hF
      go_simp
      exact hK _ _ (Grow.refl _) rfl
    refine Plan.det 15 rfl (Grow.refl) ?_
    apply Exists.intro
    refine ⟨fun vs x hR hF K hK => ?_, ?_⟩
    · have f8 := hF 5 _ _ rfl rfl; have f13 := hF 0 _ _ rfl rfl; have hc := HC.out x hR; clear hF
      go_simp
      exact hK _ _ (Grow.refl _) rfl
    refine Plan.det 16 rfl (Grow.refl) ?_
    apply Exists.intro
    refine ⟨fun vs x hR hF K hK => ?_, ?_⟩
    · have f8 := hF 6 _ _ rfl rfl; clear hF
      go_simp
      exact hK _ _ (Grow.refl _) rfl
    refine Plan.det 17 rfl (Grow.refl) ?_
    apply Exists.intro
    refine ⟨fun vs x hR hF K hK => ?_, ?_⟩
    · have f8 := hF 7 _ _ rfl rfl; clear hF
      go_simp
      exact hK _ _ (Grow.refl _) rfl
    refine Plan.det 18 rfl (Grow.refl) ?_
    apply Exists.intro
    refine ⟨fun vs x hR hF K hK => ?_, ?_⟩
    · have f8 := hF 8 _ _ rfl rfl; have f16 := hF 0 _ _ rfl rfl; clear hF
      go_simp
      exact hK _ _ (Grow.refl _) rfl
    refine Plan.det 19 rfl (Grow.refl) ?_
    apply Exists.intro
    refine ⟨fun vs x hR hF K hK => ?_, ?_⟩
    · have f8 := hF 9 _ _ rfl rfl; have f17 := hF 0 _ _ rfl rfl; clear hF
      go_simp
      exact hK _ _ (Grow.refl _) rfl
    refine Plan.det 20 rfl (Grow.refl) ?_
    apply Exists.intro
    refine ⟨fun vs x hR hF K hK => ?_, ?_⟩
    · have f8 := hF 10 _ _ rfl rfl; have f18 := hF 0 _ _ rfl rfl; have hc := HC.out x hR; clear hF
      go_simp
      exact hK _ _ (Grow.refl _) rfl
    refine Plan.det 21 rfl (Grow.refl) ?_
    apply Exists.intro
    refine ⟨fun vs x hR hF K hK => ?_, ?_⟩
    · have f8 := hF 11 _ _ rfl rfl; have f19 := hF 0 _ _ rfl rfl; clear hF
      go_simp
      exact hK _ _ (Grow.refl _) rfl
    refine Plan.det 22 rfl (Grow.refl) ?_
    apply Exists.intro
    refine ⟨fun vs x hR hF K hK => ?_, ?_⟩
    · have f8 := hF 12 _ _ rfl rfl; have f20 := hF 0 _ _ rfl rfl; clear hF
      go_simp
      exact hK _ _ (Grow.refl _) rfl
    refine Plan.det 23 rfl (Grow.refl) ?_
    apply Exists.intro
    refine ⟨fun vs x hR hF K hK => ?_, ?_⟩
    · have f8 := hF 13 _ _ rfl rfl; have f15 := hF 6 _ _ rfl rfl; have f21 := hF 0 _ _ rfl rfl; clear hF
      go_simp
      exact hK _ _ (Grow.refl _) rfl
    refine Plan.det 24 rfl (Grow.refl) ?_
    apply Exists.intro
    refine ⟨fun vs x hR hF K hK => ?_, ?_⟩
    · have f8 := hF 14 _ _ rfl rfl; have f14 := hF 8 _ _ rfl rfl; have f22 := hF 0 _ _ rfl rfl; clear hF
      go_simp
      exact hK _ _ (Grow.refl _) rfl
    refine Plan.det 25 rfl (Grow.refl) ?_
    apply Exists.intro
    refine ⟨fun vs x hR hF K hK => ?_, ?_⟩
    · have f8 := hF 15 _ _ rfl rfl; have f10 := hF 13 _ _ rfl rfl; have f23 := hF 0 _ _ rfl rfl; clear hF
      go_simp
      exact hK _ _ (Grow.refl _) rfl
    refine Plan.det 26 rfl (Grow.refl) ?_
    apply Exists.intro
    refine ⟨fun vs x hR hF K hK => ?_, ?_⟩
    · have f8 := hF 16 _ _ rfl rfl; have f24 := hF 0 _ _ rfl rfl; clear hF
      go_simp
      exact hK _ _ (Grow.refl _) rfl
    refine Plan.det 27 rfl (Grow.refl) ?_
    apply Exists.intro
    refine ⟨fun vs x hR hF K hK => ?_, ?_⟩
    · clear hF
      go_simp
      exact hK _ _ (Grow.refl _) rfl
    refine Plan.det 28 rfl (Grow.refl) ?_
    apply Exists.intro
    refine ⟨fun vs x hR hF K hK => ?_, ?_⟩
    · have f26 := hF 0 _ _ rfl rfl; clear hF
      go_simp
      exact hK _ _ (Grow.refl _) rfl
    refine Plan.det 29 rfl (Grow.refl) ?_
    apply Exists.intro
    refine ⟨fun vs x hR hF K hK => ?_, ?_⟩
    · clear hF
      go_simp
      exact hK _ _ (Grow.refl _) rfl
    refine Plan.det 30 rfl (Grow.refl) ?_
    apply Exists.intro
    refine ⟨fun vs x hR hF K hK => ?_, ?_⟩
    · have f27 := hF 1 _ _ rfl rfl; have f28 := hF 0 _ _ rfl rfl; clear hF
      go_simp
      exact hK _ _ (Grow.refl _) rfl
    refine PlanEnd (by simp) (fun vs x hR hF => ?_)
    have f0 := hF 29 _ _ rfl; have f1 := hF 28 _ _ rfl; have f2 := hF 27 _ _ rfl; have f3 := hF 26 _ _ rfl; have f4 := hF 25 _ _ rfl; have f5 := hF 24 _ _ rfl; have f6 := hF 23 _ _ rfl; have f7 := hF 22 _ _ rfl; have f8 := hF 21 _ _ rfl; have f9 := hF 20 _ _ rfl; have f10 := hF 19 _ _ rfl; have f11 := hF 18 _ _ rfl; have f12 := hF 17 _ _ rfl; have f13 := hF 16 _ _ rfl; have f14 := hF 15 _ _ rfl; have f15 := hF 14 _ _ rfl; have f16 := hF 13 _ _ rfl; have f17 := hF 12 _ _ rfl; have f18 := hF 11 _ _ rfl; have f19 := hF 10 _ _ rfl; have f20 := hF 9 _ _ rfl; have f21 := hF 8 _ _ rfl; have f22 := hF 7 _ _ rfl; have f23 := hF 6 _ _ rfl; have f24 := hF 5 _ _ rfl; have f25 := hF 4 _ _ rfl; have f26 := hF 3 _ _ rfl; have f27 := hF 2 _ _ rfl; have f28 := hF 1 _ _ rfl; have f29 := hF 0 _ _ rfl
    clear hF
    simp only [f0, f1, f2, f3, f4, f5, f6, f7, f8, f9, f10, f11, f12, f13, f14, f15, f16, f17, f18, f19, f20, f21, f22, f23, f24, f25, f26, f27, f28, f29]
    clear f0 f1 f2 f3 f4 f5 f6 f7 f8 f9 f10 f11 f12 f13 f14 f15 f16 f17 f18 f19 f20 f21 f22 f23 f24 f25 f26 f27 f28 f29
    intro oo hoo KQ hK
    obtain rfl := Option.some.inj hoo
    clear hoo
    have HBX := hid (HP.out.1.2.2.2.trans ((grow_below hR).mono (by omega)))
    have HOX := hid (HP.out.2.below (grow_below hR))
    have HSX := hid (HSP.out.1.below HBX.out)
    clear hR
    go_simp
    refine (padd_any x (w.heap.size + 2) (.slice none 0 0) [] false (i + 1, sp) sa sc HOX.out (by simp) HSX.out).mono ?_
    rintro e z ⟨rfl, ov, hz⟩
    simp only [Bool.false_eq_true, if_false] at hz
    refine ⟨_, rfl, hK _ _ ?_⟩
    clear hK
    unfold AfterC
    simp only [fill, dstOf, Act.put, List.getElem?_toArray, List.getElem?_cons_zero, List.getElem?_cons_succ, Option.bind_some, List.setIfInBounds_toArray, List.set_cons_zero, List.set_cons_succ, List.drop_succ_cons, List.drop_zero]
    refine Plan.nil (fun vs x hR2 hF => ?_)
    have f30 := hF 0 _ _ rfl
    clear hF
    simp only [f30]
    clear f30
    subst hR2
    simp only [List.drop_succ_cons, List.drop_nil]
    clear HC q0 q1 q2
    have HZ := hid (⟨hz.1, HBX.out.trans ((hz.low HOX.out).mono (by have := HBX.out.size; omega))⟩ : _ ∧ Below w.heap.size w z)
    have q3 := HZ.out.1.1.cell 0
    have HE := hid (pend_any w z _ ov _ N s.size _ HZ.out.1 HZ.out.2 (by simp) HQ.out hN hs HT.out HFI.out)
    clear hz
    go_wp2_with fail
    refine HE.out.mono ?_
    rintro e z2 ⟨hb2, a2, c2, rfl, h2⟩
    have HR := hid (⟨hb2, h2⟩ : _ ∧ _)
    clear hb2 h2
    go_wp2_with fail
    go_ret
    rw [HPA.out]
    exact ⟨HR.out.1, a2, c2, rfl, HR.out.2⟩
end Go.Proofs.YthnpbopnpdlmnaaDoor

/- The program of layer 9: parses, op 7. -/
namespace Go.Proofs.YthnpbopnpdlmnaaDoor
open Go.RowKit
attribute [local go_sem] gives givesUpon

set_option maxRecDepth 100000 in
set_option maxHeartbeats 16000000 in
theorem ppar7 (wb : World) (N : Nat) (hN : N ≤ 9) (s : ByteArray) (hs : s.size ≤ 1000000) (lines : Bool) (p : Pay) (xs : List Re) (hop : p.op = 7) : PPar wb N s lines (.mk p xs) := by
  intro w cs M sa sc sp i hIn hok hsz hbw hM hsp hspo hi ht
  rw [Re.In] at hIn
  obtain ⟨ad, cap, rfl, hwf, -, -, -, -⟩ := hIn
  simp only [Pay.cells]
  have hP : PAt w M s lines [.int .i64 p.op, .int .u64 p.set.a, .int .u64 p.set.b, .int .u64 p.set.c, .int .u64 p.set.d, .int .i64 p.lo, .int .i64 p.hi, .int .i64 p.gr, .slice ad xs.length cap] (.int .i64 i) (.slice sa sp.length sc) (((w.alloc (.cells #[.int .i64 p.op, .int .u64 p.set.a, .int .u64 p.set.b, .int .u64 p.set.c, .int .u64 p.set.d, .int .i64 p.lo, .int .i64 p.hi, .int .i64 p.gr, .slice ad xs.length cap] 28)).alloc (.cells #[.int .i64 i, .slice sa sp.length sc] 71)).alloc (.cells #[.slice none 0 0] 39)) := ⟨((Row.new rfl).alloc _).alloc _, (Row.new (by simp)).alloc _, ((hM.alloc _).alloc _).alloc _, (((Below.refl _ _).alloc (Nat.le_refl _) _).alloc (by simp) _).alloc (by simp; omega) _⟩
  have hO : OutV (w.heap.size + 2) (.slice none 0 0) [] (((w.alloc (.cells #[.int .i64 p.op, .int .u64 p.set.a, .int .u64 p.set.b, .int .u64 p.set.c, .int .u64 p.set.d, .int .i64 p.lo, .int .i64 p.hi, .int .i64 p.gr, .slice ad xs.length cap] 28)).alloc (.cells #[.int .i64 i, .slice sa sp.length sc] 71)).alloc (.cells #[.slice none 0 0] 39)) := ⟨Row.new (by simp), OwnP.nil _ _⟩
  have q0 := hP.1.c9
  have q1 := hP.2.1.two9
  have q2 := hP.2.2.1.two9
  have HP := hid (⟨hP, hO⟩ : _ ∧ _)
  have HT := hid ht
  have HSP := hid (⟨hsp, hspo⟩ : _ ∧ _)
  have HO := hid hop
  have hsl : s.data.toList.length = s.size := by rw [Array.length_toList]; rfl
  have HSL := hid hsl
  have HI := hid hi
  clear hP hO hok hsz hbw hM hsp hspo ht hop hsl
  have e1 : (p.op == 1) = false := by rw [HO.out]; decide
  have e2 : (p.op == 2) = false := by rw [HO.out]; decide
  have e7 : (p.op == 7) = true := by rw [HO.out]; decide
  have e8 : (p.op == 8) = false := by rw [HO.out]; decide
  have e9 : (p.op == 9) = false := by rw [HO.out]; decide
  have hsz3 : w.heap.size + 2 < ((((w.alloc (.cells #[.int .i64 p.op, .int .u64 p.set.a, .int .u64 p.set.b, .int .u64 p.set.c, .int .u64 p.set.d, .int .i64 p.lo, .int .i64 p.hi, .int .i64 p.gr, .slice ad xs.length cap] 28)).alloc (.cells #[.int .i64 i, .slice sa sp.length sc] 71)).alloc (.cells #[.slice none 0 0] 39))).heap.size := by simp
  have HC := hid (fun (x : World) (hx : Grow ((((w.alloc (.cells #[.int .i64 p.op, .int .u64 p.set.a, .int .u64 p.set.b, .int .u64 p.set.c, .int .u64 p.set.d, .int .i64 p.lo, .int .i64 p.hi, .int .i64 p.gr, .slice ad xs.length cap] 28)).alloc (.cells #[.int .i64 i, .slice sa sp.length sc] 71)).alloc (.cells #[.slice none 0 0] 39))).drew x) => (⟨(HP.out.1.later (grow_below hx)).2.1.two9, (HP.out.1.later (grow_below hx)).2.2.1.two9⟩ : _ ∧ _))
  obtain ⟨k, hk⟩ : ∃ k, k = holdsOf s.data.toList lines 7 i := ⟨_, rfl⟩
  have HBG := hid (fun (x : World) (hx : Grow ((((w.alloc (.cells #[.int .i64 p.op, .int .u64 p.set.a, .int .u64 p.set.b, .int .u64 p.set.c, .int .u64 p.set.d, .int .i64 p.lo, .int .i64 p.hi, .int .i64 p.gr, .slice ad xs.length cap] 28)).alloc (.cells #[.int .i64 i, .slice sa sp.length sc] 71)).alloc (.cells #[.slice none 0 0] 39))).drew x) => pbegins_any x M s lines i (HP.out.1.later (grow_below hx)).2.2.1 HI.out hs)
  rw [← hk] at HBG
  obtain ⟨L, hL⟩ : ∃ L : List Parse, L = if k = true then [] ++ [(i, sp)] else [] := ⟨_, rfl⟩
  have HPA : Hid (parses s.data.toList lines (.mk p xs) i sp = some L) := by
    show _ = _
    have h9 : parses s.data.toList lines (.mk p xs) i sp = some (if holdsOf s.data.toList lines 7 i = true then [(i, sp)] else []) := by rw [parses]; simp only [HO.out, holdsOf]; rfl
    rw [h9, ← hk, hL]; simp
  have HQ : Hid (∀ q, q ∈ L → POk N s.size 0 q) := fun q hq => by
    rw [hL] at hq
    split at hq
    · rw [List.mem_singleton.1 hq]; exact ⟨Nat.zero_le _, HI.out, HSP.out.2⟩
    · cases hq
  have HFI : Hid (fin s.size L = some L) := by
    show _ = _
    rw [hL]
    split
    · exact fin_one (q := (i, sp)) HI.out
    · exact fin_nil _
  have HLN : Hid (L.length ≤ 200000) := by unfold Hid; rw [hL]; split <;> simp
  have HLL := hid hL
  clear hL hk
  go_enter Tryd.func37, Tryd.ntmps37
  go_wp2_with fail
  refine wp_region_two 5 6 rfl (Grow) (by kernel_rfl) (by kernel_rfl) (Grow.refl) (fun _ _ _ => Grow.trans) ?_
  simp only [fill, dstOf, Act.put, List.take_succ_cons, List.take_zero, List.getElem?_toArray, List.getElem?_cons_zero, List.getElem?_cons_succ, Option.bind_some, List.setIfInBounds_toArray, List.set_cons_zero, List.set_cons_succ]
  refine Plan.det 1 rfl (Grow.refl) ?_
  apply Exists.intro
  refine ⟨fun vs x hR hF K hK => ?_, ?_⟩
  · clear hF
    go_simp
    exact hK _ _ (Grow.refl _) rfl
  refine Plan.det 2 rfl (Grow.refl) ?_
  apply Exists.intro
  refine ⟨fun vs x hR hF K hK => ?_, ?_⟩
  · clear hF
    go_simp
    exact hK _ _ (Grow.refl _) rfl
  refine Plan.det 3 rfl (Grow.refl) ?_
  apply Exists.intro
  refine ⟨fun vs x hR hF K hK => ?_, ?_⟩
  · clear hF
    go_simp
    exact hK _ _ (Grow.refl _) rfl
  refine Plan.det 4 rfl (Grow.refl) ?_
  apply Exists.intro
  refine ⟨fun vs x hR hF K hK => ?_, ?_⟩
  · have f1 := hF 1 _ _ rfl rfl; have f2 := hF 0 _ _ rfl rfl; clear hF
    go_simp
    refine (HBG.out x hR).mono ?_
    rintro e x1 ⟨rfl, hbe⟩
    exact ⟨_, rfl, hK _ _ hbe rfl⟩
  refine Plan.det 5 rfl (Grow.refl) ?_
  apply Exists.intro
  refine ⟨fun vs x hR hF K hK => ?_, ?_⟩
  · have hc := HC.out x hR; clear hF
    go_simp
    exact hK _ _ (Grow.refl _) rfl
  refine PlanEnd (by simp) (fun vs x hR hF => ?_)
  have f0 := hF 4 _ _ rfl; have f1 := hF 3 _ _ rfl; have f2 := hF 2 _ _ rfl; have f3 := hF 1 _ _ rfl; have f4 := hF 0 _ _ rfl
  clear hF
  simp only [f0, f1, f2, f3, f4]
  clear f0 f1 f2 f3 f4
  intro oo hoo KQ hK
  obtain rfl := Option.some.inj hoo
  clear hoo
  have HBX := hid (HP.out.1.2.2.2.trans ((grow_below hR).mono (by omega)))
  have HOX := hid (HP.out.2.below (grow_below hR))
  have HSX := hid (HSP.out.1.below HBX.out)
  clear hR
  go_simp
  have hpa := padd_any x (w.heap.size + 2) (.slice none 0 0) [] k (i, sp) sa sc HOX.out (by simp) HSX.out
  rw [← HLL.out] at hpa
  refine hpa.mono ?_
  clear hpa
  rintro e z ⟨rfl, ov, hz⟩
  refine ⟨_, rfl, hK _ _ ?_⟩
  clear hK
  unfold AfterC
  simp only [fill, dstOf, Act.put, List.getElem?_toArray, List.getElem?_cons_zero, List.getElem?_cons_succ, Option.bind_some, List.setIfInBounds_toArray, List.set_cons_zero, List.set_cons_succ, List.drop_succ_cons, List.drop_zero]
  refine Plan.nil (fun vs x hR2 hF => ?_)
  have f5 := hF 0 _ _ rfl
  clear hF
  simp only [f5]
  clear f5
  subst hR2
  simp only [List.drop_succ_cons, List.drop_nil]
  clear HC q0 q1 q2 HBG
  have HZ := hid (⟨hz.1, HBX.out.trans ((hz.low HOX.out).mono (by have := HBX.out.size; omega))⟩ : _ ∧ Below w.heap.size w z)
  have q3 := HZ.out.1.1.cell 0
  have HE := hid (pend_any w z _ ov _ N s.size _ HZ.out.1 HZ.out.2 HLN.out HQ.out hN hs HT.out HFI.out)
  clear hz
  go_wp2_with fail
  refine HE.out.mono ?_
  rintro e z2 ⟨hb2, a2, c2, rfl, h2⟩
  have HR := hid (⟨hb2, h2⟩ : _ ∧ _)
  clear hb2 h2
  go_wp2_with fail
  go_ret
  rw [HPA.out]
  exact ⟨HR.out.1, a2, c2, rfl, HR.out.2⟩
end Go.Proofs.YthnpbopnpdlmnaaDoor
