/- The reference of the parses: trees without parts. -/
import Derived.Test.YthnpbopnpdlmnaaX30
namespace Go.Proofs.Ythnpbopnpdlmnaa
open Go.RowKit
attribute [local go_sem] gives givesUpon

set_option maxRecDepth 100000 in
set_option maxHeartbeats 8000000 in
theorem rpar1 (wb : World) (N : Nat) (hN : N ≤ 9) (s : ByteArray) (hs : s.size ≤ 1000000) (lines : Bool) (p : Pay) (xs : List Re) (hop : p.op = 1) : RPar wb N s lines (.mk p xs) := by
  intro w cs sa sc sp i hIn hok hsz hbw hsp hspo hi
  rw [Re.In] at hIn
  obtain ⟨ad, cap, rfl, hwf, -⟩ := hIn
  simp only [Pay.cells]
  have hT : Two w s lines [.int .i64 p.op, .int .u64 p.set.a, .int .u64 p.set.b, .int .u64 p.set.c, .int .u64 p.set.d, .int .i64 p.lo, .int .i64 p.hi, .int .i64 p.gr, .slice ad xs.length cap] ((w.alloc (.cells #[.string s, .bool lines] 75)).alloc (.cells #[.int .i64 p.op, .int .u64 p.set.a, .int .u64 p.set.b, .int .u64 p.set.c, .int .u64 p.set.d, .int .i64 p.lo, .int .i64 p.hi, .int .i64 p.gr, .slice ad xs.length cap] 28)) := ⟨(Row.new rfl).alloc _, Row.new (by simp), ((Below.refl _ _).alloc (Nat.le_refl _) _).alloc (by simp) _⟩
  have HT := hid hT
  have HS := hid (hsp.below hT.2.2)
  have q0 := hT.1.two9
  have q1 := hT.2.1.c9
  have HSO := hid hspo
  have HO := hid hop
  have HWF := hid hwf
  have hsl : s.data.toList.length = s.size := by rw [Array.length_toList]; rfl
  have HSL := hid hsl
  rw [Re.ok] at hok
  have hgr := hok.2.2.2.1
  have hspl : sp.length ≤ 9 := by have := hspo.1; omega
  clear hT hsp hspo hsl hok hwf
  have HR : Hid (fin s.size [(i, sp)] = parses s.data.toList lines (.mk p xs) i sp) := by show _ = _; rw [parses, if_pos hop, fin_one (by exact hi)]
  clear hop
  have e1 : (p.op == 1) = true := by rw [HO.out]; decide
  go_enter Try.func31, Try.ntmps31
  go_wp2_with fail
  refine (radd_any _ w.heap.size (.slice none 0 0) (.slice sa sp.length sc) [] i sp (OwnP.nil _ _) HS.out (by simp) HT.out.2.2.size (fun q hq => by have := List.mem_singleton.1 hq; subst this; exact ⟨by show sp.length ≤ 9; omega, by show i ≤ _; omega⟩)).mono ?_
  rintro e w1 ⟨a1, c1, rfl, ho, hg, -⟩
  have hT1 := HT.out.later (grown_nil hg)
  have HT1 := hid hT1
  have HO1 := hid ho.psq
  have q2 := hT1.1.two9
  have q3 := hT1.2.1.c9
  clear ho hg hT1
  have hl1 : (addP [] (i, sp)).length = 1 := rfl
  rw [hl1] at HO1 ⊢
  go_wp2_with fail
  refine (rdone_any _ _ _ [(i, sp)] [(i, sp)] s lines rfl HO1.out (by simp) hs).mono ?_
  rintro e w2 hr
  obtain ⟨a2, n2, c2, b2, rfl, HRR⟩ := hr.on HT1.out.2.2 HR.out
  clear hr
  go_wp2_with fail
  go_ret2
  exact HRR.out
end Go.Proofs.Ythnpbopnpdlmnaa

/- The reference of the parses: trees without parts. -/
namespace Go.Proofs.Ythnpbopnpdlmnaa
open Go.RowKit
attribute [local go_sem] gives givesUpon

set_option maxRecDepth 100000 in
set_option maxHeartbeats 8000000 in
theorem rpar2 (wb : World) (N : Nat) (hN : N ≤ 9) (s : ByteArray) (hs : s.size ≤ 1000000) (lines : Bool) (p : Pay) (xs : List Re) (hop : p.op = 2) : RPar wb N s lines (.mk p xs) := by
  intro w cs sa sc sp i hIn hok hsz hbw hsp hspo hi
  rw [Re.In] at hIn
  obtain ⟨ad, cap, rfl, hwf, -⟩ := hIn
  simp only [Pay.cells]
  have hT : Two w s lines [.int .i64 p.op, .int .u64 p.set.a, .int .u64 p.set.b, .int .u64 p.set.c, .int .u64 p.set.d, .int .i64 p.lo, .int .i64 p.hi, .int .i64 p.gr, .slice ad xs.length cap] ((w.alloc (.cells #[.string s, .bool lines] 75)).alloc (.cells #[.int .i64 p.op, .int .u64 p.set.a, .int .u64 p.set.b, .int .u64 p.set.c, .int .u64 p.set.d, .int .i64 p.lo, .int .i64 p.hi, .int .i64 p.gr, .slice ad xs.length cap] 28)) := ⟨(Row.new rfl).alloc _, Row.new (by simp), ((Below.refl _ _).alloc (Nat.le_refl _) _).alloc (by simp) _⟩
  have HT := hid hT
  have HS := hid (hsp.below hT.2.2)
  have q0 := hT.1.two9
  have q1 := hT.2.1.c9
  have HSO := hid hspo
  have HO := hid hop
  have HWF := hid hwf
  have hsl : s.data.toList.length = s.size := by rw [Array.length_toList]; rfl
  have HSL := hid hsl
  rw [Re.ok] at hok
  have hgr := hok.2.2.2.1
  have hspl : sp.length ≤ 9 := by have := hspo.1; omega
  clear hT hsp hspo hsl hok hwf
  have HPA : Hid (parses s.data.toList lines (.mk p xs) i sp = some (if decide (i < s.data.toList.length) && p.set.has (byteAt s.data.toList i).toNat then [(i + 1, sp)] else [])) := by show _ = _; rw [parses]; simp [hop]
  clear hop
  have e1 : (p.op == 1) = false := by rw [HO.out]; decide
  have e2 : (p.op == 2) = true := by rw [HO.out]; decide
  have HC := hid (fun (x : World) (hx : Grow (((w.alloc (.cells #[.string s, .bool lines] 75)).alloc (.cells #[.int .i64 p.op, .int .u64 p.set.a, .int .u64 p.set.b, .int .u64 p.set.c, .int .u64 p.set.d, .int .i64 p.lo, .int .i64 p.hi, .int .i64 p.gr, .slice ad xs.length cap] 28))).drew x) => (⟨((HT.out.later (grow_below hx)).1).two9, ((HT.out.later (grow_below hx)).2.1).c9⟩ : _ ∧ _))
  rw [HSL.out] at HPA
  by_cases hil : i < s.size
  · have hj : (i : Int) < s.size := by omega
    have hbt : byteAt s.data.toList i = s[i] := byteAt_eq hil
    have hw1 : IntKind.i64.wrap ((i : Int) + 1) = ((i + 1 : Nat) : Int) := by rw [IntKind.wrap_i64]; omega
    have hw2 : (i : Int) + 1 = ((i + 1 : Nat) : Int) := by omega
    have HHa := hid (fun x => Has_any p.set s[i].toNat x HWF.out.set (UInt8.toNat_lt _))
    rw [hbt] at HPA
    clear hbt hw2
    generalize p.set.has s[i].toNat = bb at HPA HHa
    cases bb with
    | true =>
      have HR : Hid (fin s.size [(i + 1, sp)] = parses s.data.toList lines (.mk p xs) i sp) := by show _ = _; rw [HPA.out, fin_one (by show i + 1 ≤ _; omega)]; simp [hil]
      clear HPA
      go_enter Try.func31, Try.ntmps31
      go_wp2_with fail
      refine wp_region_inv 14 (Grow) (by kernel_rfl) (by kernel_rfl) (Grow.refl) (fun _ _ _ => Grow.trans) ?_
      simp only [fill, dstOf, Act.put, List.take_succ_cons, List.take_zero, List.getElem?_toArray, List.getElem?_cons_zero, List.getElem?_cons_succ, Option.bind_some, List.setIfInBounds_toArray, List.set_cons_zero, List.set_cons_succ]
      refine Plan.det 1 rfl (Grow.refl) ?_
      apply Exists.intro
      refine ⟨fun vs x hR hF K hK => ?_, ?_⟩
      · clear hF
        go_simp
        exact hK _ _ (Grow.refl _) rfl
      refine Plan.det 2 rfl (Grow.refl) ?_
      apply Exists.intro
      refine ⟨fun vs x hR hF K hK => ?_, ?_⟩
      · clear hF
        go_simp
        exact hK _ _ (Grow.refl _) rfl
      refine Plan.det 3 rfl (Grow.refl) ?_
      apply Exists.intro
      refine ⟨fun vs x hR hF K hK => ?_, ?_⟩
      · have f1 := hF 0 _ _ rfl rfl; have hc := HC.out x hR; clear hF
        go_simp
        exact hK _ _ (Grow.refl _) rfl
      refine Plan.det 4 rfl (Grow.refl) ?_
      apply Exists.intro
      refine ⟨fun vs x hR hF K hK => ?_, ?_⟩
      · have f2 := hF 0 _ _ rfl rfl; clear hF
        go_simp
        exact hK _ _ (Grow.refl _) rfl
      refine Plan.det 5 rfl (Grow.refl) ?_
      apply Exists.intro
      refine ⟨fun vs x hR hF K hK => ?_, ?_⟩
      · have f0 := hF 3 _ _ rfl rfl; have f3 := hF 0 _ _ rfl rfl; clear hF
        go_simp
        exact hK _ _ (Grow.refl _) rfl
      refine Plan.det 6 rfl (Grow.refl) ?_
      apply Exists.intro
      refine ⟨fun vs x hR hF K hK => ?_, ?_⟩
      · have f4 := hF 0 _ _ rfl rfl; clear hF
        go_simp
        exact hK _ _ (Grow.refl _) rfl
      refine Plan.det 7 rfl (Grow.refl) ?_
      apply Exists.intro
      refine ⟨fun vs x hR hF K hK => ?_, ?_⟩
      · have f5 := hF 0 _ _ rfl rfl; clear hF
        go_simp
        exact hK _ _ (Grow.refl _) rfl
      refine Plan.det 8 rfl (Grow.refl) ?_
      apply Exists.intro
      refine ⟨fun vs x hR hF K hK => ?_, ?_⟩
      · have f5 := hF 1 _ _ rfl rfl; have f6 := hF 0 _ _ rfl rfl; have hc := HC.out x hR; clear hF
        go_simp
        exact hK _ _ (Grow.refl _) rfl
      refine Plan.det 9 rfl (Grow.refl) ?_
      apply Exists.intro
      refine ⟨fun vs x hR hF K hK => ?_, ?_⟩
      · have f5 := hF 2 _ _ rfl rfl; clear hF
        go_simp
        exact hK _ _ (Grow.refl _) rfl
      refine Plan.det 10 rfl (Grow.refl) ?_
      apply Exists.intro
      refine ⟨fun vs x hR hF K hK => ?_, ?_⟩
      · have f5 := hF 3 _ _ rfl rfl; have f8 := hF 0 _ _ rfl rfl; have hc := HC.out x hR; clear hF
        go_simp
        exact hK _ _ (Grow.refl _) rfl
      refine Plan.det 11 rfl (Grow.refl) ?_
      apply Exists.intro
      refine ⟨fun vs x hR hF K hK => ?_, ?_⟩
      · have f5 := hF 4 _ _ rfl rfl; clear hF
        go_simp
        exact hK _ _ (Grow.refl _) rfl
      refine Plan.det 12 rfl (Grow.refl) ?_
      apply Exists.intro
      refine ⟨fun vs x hR hF K hK => ?_, ?_⟩
      · have f5 := hF 5 _ _ rfl rfl; have f9 := hF 1 _ _ rfl rfl; have f10 := hF 0 _ _ rfl rfl; clear hF
        go_simp
        exact hK _ _ (Grow.refl _) rfl
      refine Plan.det 13 rfl (Grow.refl) ?_
      apply Exists.intro
      refine ⟨fun vs x hR hF K hK => ?_, ?_⟩
      · have f5 := hF 6 _ _ rfl rfl; have f7 := hF 4 _ _ rfl rfl; have f11 := hF 0 _ _ rfl rfl; clear hF
        go_simp
        refine (HHa.out x).mono ?_
        rintro e x1 ⟨rfl, hbe⟩
        exact ⟨_, rfl, hK _ _ hbe rfl⟩
      refine Plan.det 14 rfl (Grow.refl) ?_
      apply Exists.intro
      refine ⟨fun vs x hR hF K hK => ?_, ?_⟩
      · have f5 := hF 7 _ _ rfl rfl; have f12 := hF 0 _ _ rfl rfl; clear hF
        go_simp
        exact hK _ _ (Grow.refl _) rfl
      refine Plan.nil (fun vs x hR hF => ?_)
      have f0 := hF 13 _ _ rfl; have f1 := hF 12 _ _ rfl; have f2 := hF 11 _ _ rfl; have f3 := hF 10 _ _ rfl; have f4 := hF 9 _ _ rfl; have f5 := hF 8 _ _ rfl; have f6 := hF 7 _ _ rfl; have f7 := hF 6 _ _ rfl; have f8 := hF 5 _ _ rfl; have f9 := hF 4 _ _ rfl; have f10 := hF 3 _ _ rfl; have f11 := hF 2 _ _ rfl; have f12 := hF 1 _ _ rfl; have f13 := hF 0 _ _ rfl
      clear hF
      simp only [f0, f1, f2, f3, f4, f5, f6, f7, f8, f9, f10, f11, f12, f13]
      clear f0 f1 f2 f3 f4 f5 f6 f7 f8 f9 f10 f11 f12 f13
      simp only [List.drop_succ_cons, List.drop_zero]
      have hT9 := HT.out.later (grow_below hR)
      have HT9 := hid hT9
      have HS9 := hid (HS.out.below (grow_below hR))
      clear q0 q1 hR HC
      have q0 := hT9.1.two9
      have q1 := hT9.2.1.c9
      clear hT9
      go_wp2_with fail
      rw [show (i : Int) + 1 = ((i + 1 : Nat) : Int) by omega]
      refine (radd_any _ w.heap.size (.slice none 0 0) (.slice sa sp.length sc) [] (i + 1) sp (OwnP.nil _ _) HS9.out (by simp) HT9.out.2.2.size (fun q hq => by have := List.mem_singleton.1 hq; subst this; exact ⟨by show sp.length ≤ 9; omega, by show (i + 1) ≤ _; omega⟩)).mono ?_
      rintro e w1 ⟨a1, c1, rfl, ho, hg, -⟩
      have hT1 := HT9.out.later (grown_nil hg)
      have HT1 := hid hT1
      have HO1 := hid ho.psq
      have q2 := hT1.1.two9
      have q3 := hT1.2.1.c9
      clear ho hg hT1
      have hl1 : (addP [] ((i + 1), sp)).length = 1 := rfl
      rw [hl1] at HO1 ⊢
      go_wp2_with fail
      refine (rdone_any _ _ _ [((i + 1), sp)] [((i + 1), sp)] s lines rfl HO1.out (by simp) hs).mono ?_
      rintro e w2 hr
      obtain ⟨a2, n2, c2, b2, rfl, HRR⟩ := hr.on HT1.out.2.2 HR.out
      clear hr
      go_wp2_with fail
      go_ret2
      exact HRR.out
    | false =>
      have HR : Hid (fin s.size [] = parses s.data.toList lines (.mk p xs) i sp) := by show _ = _; rw [HPA.out, fin_nil]; simp
      clear HPA
      go_enter Try.func31, Try.ntmps31
      go_wp2_with fail
      refine wp_region_inv 14 (Grow) (by kernel_rfl) (by kernel_rfl) (Grow.refl) (fun _ _ _ => Grow.trans) ?_
      simp only [fill, dstOf, Act.put, List.take_succ_cons, List.take_zero, List.getElem?_toArray, List.getElem?_cons_zero, List.getElem?_cons_succ, Option.bind_some, List.setIfInBounds_toArray, List.set_cons_zero, List.set_cons_succ]
      refine Plan.det 1 rfl (Grow.refl) ?_
      apply Exists.intro
      refine ⟨fun vs x hR hF K hK => ?_, ?_⟩
      · clear hF
        go_simp
        exact hK _ _ (Grow.refl _) rfl
      refine Plan.det 2 rfl (Grow.refl) ?_
      apply Exists.intro
      refine ⟨fun vs x hR hF K hK => ?_, ?_⟩
      · clear hF
        go_simp
        exact hK _ _ (Grow.refl _) rfl
      refine Plan.det 3 rfl (Grow.refl) ?_
      apply Exists.intro
      refine ⟨fun vs x hR hF K hK => ?_, ?_⟩
      · have f1 := hF 0 _ _ rfl rfl; have hc := HC.out x hR; clear hF
        go_simp
        exact hK _ _ (Grow.refl _) rfl
      refine Plan.det 4 rfl (Grow.refl) ?_
      apply Exists.intro
      refine ⟨fun vs x hR hF K hK => ?_, ?_⟩
      · have f2 := hF 0 _ _ rfl rfl; clear hF
        go_simp
        exact hK _ _ (Grow.refl _) rfl
      refine Plan.det 5 rfl (Grow.refl) ?_
      apply Exists.intro
      refine ⟨fun vs x hR hF K hK => ?_, ?_⟩
      · have f0 := hF 3 _ _ rfl rfl; have f3 := hF 0 _ _ rfl rfl; clear hF
        go_simp
        exact hK _ _ (Grow.refl _) rfl
      refine Plan.det 6 rfl (Grow.refl) ?_
      apply Exists.intro
      refine ⟨fun vs x hR hF K hK => ?_, ?_⟩
      · have f4 := hF 0 _ _ rfl rfl; clear hF
        go_simp
        exact hK _ _ (Grow.refl _) rfl
      refine Plan.det 7 rfl (Grow.refl) ?_
      apply Exists.intro
      refine ⟨fun vs x hR hF K hK => ?_, ?_⟩
      · have f5 := hF 0 _ _ rfl rfl; clear hF
        go_simp
        exact hK _ _ (Grow.refl _) rfl
      refine Plan.det 8 rfl (Grow.refl) ?_
      apply Exists.intro
      refine ⟨fun vs x hR hF K hK => ?_, ?_⟩
      · have f5 := hF 1 _ _ rfl rfl; have f6 := hF 0 _ _ rfl rfl; have hc := HC.out x hR; clear hF
        go_simp
        exact hK _ _ (Grow.refl _) rfl
      refine Plan.det 9 rfl (Grow.refl) ?_
      apply Exists.intro
      refine ⟨fun vs x hR hF K hK => ?_, ?_⟩
      · have f5 := hF 2 _ _ rfl rfl; clear hF
        go_simp
        exact hK _ _ (Grow.refl _) rfl
      refine Plan.det 10 rfl (Grow.refl) ?_
      apply Exists.intro
      refine ⟨fun vs x hR hF K hK => ?_, ?_⟩
      · have f5 := hF 3 _ _ rfl rfl; have f8 := hF 0 _ _ rfl rfl; have hc := HC.out x hR; clear hF
        go_simp
        exact hK _ _ (Grow.refl _) rfl
      refine Plan.det 11 rfl (Grow.refl) ?_
      apply Exists.intro
      refine ⟨fun vs x hR hF K hK => ?_, ?_⟩
      · have f5 := hF 4 _ _ rfl rfl; clear hF
        go_simp
        exact hK _ _ (Grow.refl _) rfl
      refine Plan.det 12 rfl (Grow.refl) ?_
      apply Exists.intro
      refine ⟨fun vs x hR hF K hK => ?_, ?_⟩
      · have f5 := hF 5 _ _ rfl rfl; have f9 := hF 1 _ _ rfl rfl; have f10 := hF 0 _ _ rfl rfl; clear hF
        go_simp
        exact hK _ _ (Grow.refl _) rfl
      refine Plan.det 13 rfl (Grow.refl) ?_
      apply Exists.intro
      refine ⟨fun vs x hR hF K hK => ?_, ?_⟩
      · have f5 := hF 6 _ _ rfl rfl; have f7 := hF 4 _ _ rfl rfl; have f11 := hF 0 _ _ rfl rfl; clear hF
        go_simp
        refine (HHa.out x).mono ?_
        rintro e x1 ⟨rfl, hbe⟩
        exact ⟨_, rfl, hK _ _ hbe rfl⟩
      refine Plan.det 14 rfl (Grow.refl) ?_
      apply Exists.intro
      refine ⟨fun vs x hR hF K hK => ?_, ?_⟩
      · have f5 := hF 7 _ _ rfl rfl; have f12 := hF 0 _ _ rfl rfl; clear hF
        go_simp
        exact hK _ _ (Grow.refl _) rfl
      refine Plan.nil (fun vs x hR hF => ?_)
      have f0 := hF 13 _ _ rfl; have f1 := hF 12 _ _ rfl; have f2 := hF 11 _ _ rfl; have f3 := hF 10 _ _ rfl; have f4 := hF 9 _ _ rfl; have f5 := hF 8 _ _ rfl; have f6 := hF 7 _ _ rfl; have f7 := hF 6 _ _ rfl; have f8 := hF 5 _ _ rfl; have f9 := hF 4 _ _ rfl; have f10 := hF 3 _ _ rfl; have f11 := hF 2 _ _ rfl; have f12 := hF 1 _ _ rfl; have f13 := hF 0 _ _ rfl
      clear hF
      simp only [f0, f1, f2, f3, f4, f5, f6, f7, f8, f9, f10, f11, f12, f13]
      clear f0 f1 f2 f3 f4 f5 f6 f7 f8 f9 f10 f11 f12 f13
      simp only [List.drop_succ_cons, List.drop_zero]
      have hT9 := HT.out.later (grow_below hR)
      have HT9 := hid hT9
      clear q0 q1 hR HC
      have q0 := hT9.1.two9
      have q1 := hT9.2.1.c9
      clear hT9
      go_wp2_with fail
      refine (rdone_any _ (fun _ => True) _ [] [] s lines rfl (.inl ⟨rfl, rfl⟩) (by simp) hs).mono ?_
      rintro e w2 hr
      obtain ⟨a2, n2, c2, b2, rfl, HRR⟩ := hr.on HT9.out.2.2 HR.out
      clear hr
      go_wp2_with fail
      go_ret2
      exact HRR.out
  · have hj : ¬ (i : Int) < s.size := by omega
    have d0 : decide ((i : Int) < (s.size : Int)) = false := by simp; omega
    have HR : Hid (fin s.size [] = parses s.data.toList lines (.mk p xs) i sp) := by show _ = _; rw [HPA.out, fin_nil]; simp [hil]
    have d1 : decide (i < s.size) = false := by simp [hil]
    clear HPA
    go_enter Try.func31, Try.ntmps31
    go_wp2_with fail
    refine wp_region_inv 14 (Grow) (by kernel_rfl) (by kernel_rfl) (Grow.refl) (fun _ _ _ => Grow.trans) ?_
    simp only [fill, dstOf, Act.put, List.take_succ_cons, List.take_zero, List.getElem?_toArray, List.getElem?_cons_zero, List.getElem?_cons_succ, Option.bind_some, List.setIfInBounds_toArray, List.set_cons_zero, List.set_cons_succ]
    refine Plan.det 1 rfl (Grow.refl) ?_
    apply Exists.intro
    refine ⟨fun vs x hR hF K hK => ?_, ?_⟩
    · clear hF
      go_simp
      exact hK _ _ (Grow.refl _) rfl
    refine Plan.det 2 rfl (Grow.refl) ?_
    apply Exists.intro
    refine ⟨fun vs x hR hF K hK => ?_, ?_⟩
    · clear hF
      go_simp
      exact hK _ _ (Grow.refl _) rfl
    refine Plan.det 3 rfl (Grow.refl) ?_
    apply Exists.intro
    refine ⟨fun vs x hR hF K hK => ?_, ?_⟩
    · have f1 := hF 0 _ _ rfl rfl; have hc := HC.out x hR; clear hF
      go_simp
      exact hK _ _ (Grow.refl _) rfl
    refine Plan.det 4 rfl (Grow.refl) ?_
    apply Exists.intro
    refine ⟨fun vs x hR hF K hK => ?_, ?_⟩
    · have f2 := hF 0 _ _ rfl rfl; clear hF
      go_simp
      exact hK _ _ (Grow.refl _) rfl
    refine Plan.det 5 rfl (Grow.refl) ?_
    apply Exists.intro
    refine ⟨fun vs x hR hF K hK => ?_, ?_⟩
    · have f0 := hF 3 _ _ rfl rfl; have f3 := hF 0 _ _ rfl rfl; clear hF
      go_simp
      exact hK _ _ (Grow.refl _) rfl
    refine Plan.det 6 rfl (Grow.refl) ?_
    apply Exists.intro
    refine ⟨fun vs x hR hF K hK => ?_, ?_⟩
    · have f4 := hF 0 _ _ rfl rfl; clear hF
      go_simp
      exact hK _ _ (Grow.refl _) rfl
    refine Plan.det 7 rfl (Grow.refl) ?_
    apply Exists.intro
    refine ⟨fun vs x hR hF K hK => ?_, ?_⟩
    · have f5 := hF 0 _ _ rfl rfl; clear hF
      go_simp
      exact hK _ _ (Grow.refl _) rfl
    refine Plan.det 8 rfl (Grow.refl) ?_
    apply Exists.intro
    refine ⟨fun vs x hR hF K hK => ?_, ?_⟩
    · have f5 := hF 1 _ _ rfl rfl; have f6 := hF 0 _ _ rfl rfl; have hc := HC.out x hR; clear hF
      go_simp
      exact hK _ _ (Grow.refl _) rfl
    refine Plan.det 9 rfl (Grow.refl) ?_
    apply Exists.intro
    refine ⟨fun vs x hR hF K hK => ?_, ?_⟩
    · have f5 := hF 2 _ _ rfl rfl; clear hF
      go_simp
      exact hK _ _ (Grow.refl _) rfl
    refine Plan.det 10 rfl (Grow.refl) ?_
    apply Exists.intro
    refine ⟨fun vs x hR hF K hK => ?_, ?_⟩
    · have f5 := hF 3 _ _ rfl rfl; have f8 := hF 0 _ _ rfl rfl; have hc := HC.out x hR; clear hF
      go_simp
      exact hK _ _ (Grow.refl _) rfl
    refine Plan.det 11 rfl (Grow.refl) ?_
    apply Exists.intro
    refine ⟨fun vs x hR hF K hK => ?_, ?_⟩
    · have f5 := hF 4 _ _ rfl rfl; clear hF
      go_simp
      exact hK _ _ (Grow.refl _) rfl
    refine Plan.det 12 rfl (Grow.refl) ?_
    apply Exists.intro
    refine ⟨fun vs x hR hF K hK => ?_, ?_⟩
    · have f5 := hF 5 _ _ rfl rfl; have f9 := hF 1 _ _ rfl rfl; have f10 := hF 0 _ _ rfl rfl; clear hF
      go_simp
      exact hK _ _ (Grow.refl _) rfl
    refine Plan.det 13 rfl (Grow.refl) ?_
    apply Exists.intro
    refine ⟨fun vs x hR hF K hK => ?_, ?_⟩
    · have f5 := hF 6 _ _ rfl rfl; have f7 := hF 4 _ _ rfl rfl; have f11 := hF 0 _ _ rfl rfl; clear hF
      go_simp
      exact hK _ _ (Grow.refl _) rfl
    refine Plan.det 14 rfl (Grow.refl) ?_
    apply Exists.intro
    refine ⟨fun vs x hR hF K hK => ?_, ?_⟩
    · have f5 := hF 7 _ _ rfl rfl; have f12 := hF 0 _ _ rfl rfl; clear hF
      go_simp
      exact hK _ _ (Grow.refl _) rfl
    refine Plan.nil (fun vs x hR hF => ?_)
    have f0 := hF 13 _ _ rfl; have f1 := hF 12 _ _ rfl; have f2 := hF 11 _ _ rfl; have f3 := hF 10 _ _ rfl; have f4 := hF 9 _ _ rfl; have f5 := hF 8 _ _ rfl; have f6 := hF 7 _ _ rfl; have f7 := hF 6 _ _ rfl; have f8 := hF 5 _ _ rfl; have f9 := hF 4 _ _ rfl; have f10 := hF 3 _ _ rfl; have f11 := hF 2 _ _ rfl; have f12 := hF 1 _ _ rfl; have f13 := hF 0 _ _ rfl
    clear hF
    simp only [f0, f1, f2, f3, f4, f5, f6, f7, f8, f9, f10, f11, f12, f13]
    clear f0 f1 f2 f3 f4 f5 f6 f7 f8 f9 f10 f11 f12 f13
    simp only [List.drop_succ_cons, List.drop_zero]
    have hT9 := HT.out.later (grow_below hR)
    have HT9 := hid hT9
    clear q0 q1 hR HC
    have q0 := hT9.1.two9
    have q1 := hT9.2.1.c9
    clear hT9
    go_wp2_with fail
    refine (rdone_any _ (fun _ => True) _ [] [] s lines rfl (.inl ⟨rfl, rfl⟩) (by simp) hs).mono ?_
    rintro e w2 hr
    obtain ⟨a2, n2, c2, b2, rfl, HRR⟩ := hr.on HT9.out.2.2 HR.out
    clear hr
    go_wp2_with fail
    go_ret2
    exact HRR.out
end Go.Proofs.Ythnpbopnpdlmnaa

/- The reference of the parses: trees without parts. -/
namespace Go.Proofs.Ythnpbopnpdlmnaa
open Go.RowKit
attribute [local go_sem] gives givesUpon

set_option maxRecDepth 100000 in
set_option maxHeartbeats 8000000 in
theorem rpar7 (wb : World) (N : Nat) (hN : N ≤ 9) (s : ByteArray) (hs : s.size ≤ 1000000) (lines : Bool) (p : Pay) (xs : List Re) (hop : p.op = 7) : RPar wb N s lines (.mk p xs) := by
  intro w cs sa sc sp i hIn hok hsz hbw hsp hspo hi
  rw [Re.In] at hIn
  obtain ⟨ad, cap, rfl, hwf, -⟩ := hIn
  simp only [Pay.cells]
  have hT : Two w s lines [.int .i64 p.op, .int .u64 p.set.a, .int .u64 p.set.b, .int .u64 p.set.c, .int .u64 p.set.d, .int .i64 p.lo, .int .i64 p.hi, .int .i64 p.gr, .slice ad xs.length cap] ((w.alloc (.cells #[.string s, .bool lines] 75)).alloc (.cells #[.int .i64 p.op, .int .u64 p.set.a, .int .u64 p.set.b, .int .u64 p.set.c, .int .u64 p.set.d, .int .i64 p.lo, .int .i64 p.hi, .int .i64 p.gr, .slice ad xs.length cap] 28)) := ⟨(Row.new rfl).alloc _, Row.new (by simp), ((Below.refl _ _).alloc (Nat.le_refl _) _).alloc (by simp) _⟩
  have HT := hid hT
  have HS := hid (hsp.below hT.2.2)
  have q0 := hT.1.two9
  have q1 := hT.2.1.c9
  have HSO := hid hspo
  have HO := hid hop
  have HWF := hid hwf
  have hsl : s.data.toList.length = s.size := by rw [Array.length_toList]; rfl
  have HSL := hid hsl
  rw [Re.ok] at hok
  have hgr := hok.2.2.2.1
  have hspl : sp.length ≤ 9 := by have := hspo.1; omega
  clear hT hsp hspo hsl hok hwf
  have HPA : Hid (parses s.data.toList lines (.mk p xs) i sp = some (if holdsOf s.data.toList lines 7 i then [(i, sp)] else [])) := by show _ = _; rw [parses]; simp [hop, holdsOf]
  clear hop
  have e1 : (p.op == 1) = false := by rw [HO.out]; decide
  have e2 : (p.op == 2) = false := by rw [HO.out]; decide
  have e7 : (p.op == 7) = true := by rw [HO.out]; decide
  generalize hbb : holdsOf s.data.toList lines 7 i = bb at HPA
  have HBB := hid hbb
  clear hbb
  have hh := rholds_any ((w.alloc (.cells #[.string s, .bool lines] 75)).alloc (.cells #[.int .i64 p.op, .int .u64 p.set.a, .int .u64 p.set.b, .int .u64 p.set.c, .int .u64 p.set.d, .int .i64 p.lo, .int .i64 p.hi, .int .i64 p.gr, .slice ad xs.length cap] 28)) s lines p.op i (.inl HO.out) hi hs
  rw [show holdsOf s.data.toList lines p.op i = bb by rw [HO.out]; exact HBB.out] at hh
  have HH := hid hh
  clear hh
  go_enter Try.func31, Try.ntmps31
  go_wp2_with fail
  refine HH.out.mono ?_
  rintro e w9 ⟨rfl, hb9⟩
  have hT9 := HT.out.later hb9
  have HT9 := hid hT9
  have HS9 := hid (HS.out.below hb9)
  clear q0 q1 hb9 HH
  have q0 := hT9.1.two9
  have q1 := hT9.2.1.c9
  clear hT9
  cases bb with
  | true =>
    have HR : Hid (fin s.size [(i, sp)] = parses s.data.toList lines (.mk p xs) i sp) := by show _ = _; rw [HPA.out, fin_one (by exact hi)]; rfl
    go_wp2_with fail
    refine (radd_any _ w.heap.size (.slice none 0 0) (.slice sa sp.length sc) [] i sp (OwnP.nil _ _) HS9.out (by simp) HT9.out.2.2.size (fun q hq => by have := List.mem_singleton.1 hq; subst this; exact ⟨by show sp.length ≤ 9; omega, by show i ≤ _; omega⟩)).mono ?_
    rintro e w1 ⟨a1, c1, rfl, ho, hg, -⟩
    have hT1 := HT9.out.later (grown_nil hg)
    have HT1 := hid hT1
    have HO1 := hid ho.psq
    have q2 := hT1.1.two9
    have q3 := hT1.2.1.c9
    clear ho hg hT1
    have hl1 : (addP [] (i, sp)).length = 1 := rfl
    rw [hl1] at HO1 ⊢
    go_wp2_with fail
    refine (rdone_any _ _ _ [(i, sp)] [(i, sp)] s lines rfl HO1.out (by simp) hs).mono ?_
    rintro e w2 hr
    obtain ⟨a2, n2, c2, b2, rfl, HRR⟩ := hr.on HT1.out.2.2 HR.out
    clear hr
    go_wp2_with fail
    go_ret2
    exact HRR.out
  | false =>
    have HR : Hid (fin s.size [] = parses s.data.toList lines (.mk p xs) i sp) := by show _ = _; rw [HPA.out, fin_nil]; rfl
    go_wp2_with fail
    refine (rdone_any _ (fun _ => True) _ [] [] s lines rfl (.inl ⟨rfl, rfl⟩) (by simp) hs).mono ?_
    rintro e w2 hr
    obtain ⟨a2, n2, c2, b2, rfl, HRR⟩ := hr.on HT9.out.2.2 HR.out
    clear hr
    go_wp2_with fail
    go_ret2
    exact HRR.out
end Go.Proofs.Ythnpbopnpdlmnaa

/- The reference of the parses: trees without parts. -/
namespace Go.Proofs.Ythnpbopnpdlmnaa
open Go.RowKit
attribute [local go_sem] gives givesUpon

set_option maxRecDepth 100000 in
set_option maxHeartbeats 8000000 in
theorem rpar8 (wb : World) (N : Nat) (hN : N ≤ 9) (s : ByteArray) (hs : s.size ≤ 1000000) (lines : Bool) (p : Pay) (xs : List Re) (hop : p.op = 8) : RPar wb N s lines (.mk p xs) := by
  intro w cs sa sc sp i hIn hok hsz hbw hsp hspo hi
  rw [Re.In] at hIn
  obtain ⟨ad, cap, rfl, hwf, -⟩ := hIn
  simp only [Pay.cells]
  have hT : Two w s lines [.int .i64 p.op, .int .u64 p.set.a, .int .u64 p.set.b, .int .u64 p.set.c, .int .u64 p.set.d, .int .i64 p.lo, .int .i64 p.hi, .int .i64 p.gr, .slice ad xs.length cap] ((w.alloc (.cells #[.string s, .bool lines] 75)).alloc (.cells #[.int .i64 p.op, .int .u64 p.set.a, .int .u64 p.set.b, .int .u64 p.set.c, .int .u64 p.set.d, .int .i64 p.lo, .int .i64 p.hi, .int .i64 p.gr, .slice ad xs.length cap] 28)) := ⟨(Row.new rfl).alloc _, Row.new (by simp), ((Below.refl _ _).alloc (Nat.le_refl _) _).alloc (by simp) _⟩
  have HT := hid hT
  have HS := hid (hsp.below hT.2.2)
  have q0 := hT.1.two9
  have q1 := hT.2.1.c9
  have HSO := hid hspo
  have HO := hid hop
  have HWF := hid hwf
  have hsl : s.data.toList.length = s.size := by rw [Array.length_toList]; rfl
  have HSL := hid hsl
  rw [Re.ok] at hok
  have hgr := hok.2.2.2.1
  have hspl : sp.length ≤ 9 := by have := hspo.1; omega
  clear hT hsp hspo hsl hok hwf
  have HPA : Hid (parses s.data.toList lines (.mk p xs) i sp = some (if holdsOf s.data.toList lines 8 i then [(i, sp)] else [])) := by show _ = _; rw [parses]; simp [hop, holdsOf]
  clear hop
  have e1 : (p.op == 1) = false := by rw [HO.out]; decide
  have e2 : (p.op == 2) = false := by rw [HO.out]; decide
  have e7 : (p.op == 7) = false := by rw [HO.out]; decide
  have e8 : (p.op == 8) = true := by rw [HO.out]; decide
  generalize hbb : holdsOf s.data.toList lines 8 i = bb at HPA
  have HBB := hid hbb
  clear hbb
  have hh := rholds_any ((w.alloc (.cells #[.string s, .bool lines] 75)).alloc (.cells #[.int .i64 p.op, .int .u64 p.set.a, .int .u64 p.set.b, .int .u64 p.set.c, .int .u64 p.set.d, .int .i64 p.lo, .int .i64 p.hi, .int .i64 p.gr, .slice ad xs.length cap] 28)) s lines p.op i (.inr HO.out) hi hs
  rw [show holdsOf s.data.toList lines p.op i = bb by rw [HO.out]; exact HBB.out] at hh
  have HH := hid hh
  clear hh
  go_enter Try.func31, Try.ntmps31
  go_wp2_with fail
  refine HH.out.mono ?_
  rintro e w9 ⟨rfl, hb9⟩
  have hT9 := HT.out.later hb9
  have HT9 := hid hT9
  have HS9 := hid (HS.out.below hb9)
  clear q0 q1 hb9 HH
  have q0 := hT9.1.two9
  have q1 := hT9.2.1.c9
  clear hT9
  cases bb with
  | true =>
    have HR : Hid (fin s.size [(i, sp)] = parses s.data.toList lines (.mk p xs) i sp) := by show _ = _; rw [HPA.out, fin_one (by exact hi)]; rfl
    go_wp2_with fail
    refine (radd_any _ w.heap.size (.slice none 0 0) (.slice sa sp.length sc) [] i sp (OwnP.nil _ _) HS9.out (by simp) HT9.out.2.2.size (fun q hq => by have := List.mem_singleton.1 hq; subst this; exact ⟨by show sp.length ≤ 9; omega, by show i ≤ _; omega⟩)).mono ?_
    rintro e w1 ⟨a1, c1, rfl, ho, hg, -⟩
    have hT1 := HT9.out.later (grown_nil hg)
    have HT1 := hid hT1
    have HO1 := hid ho.psq
    have q2 := hT1.1.two9
    have q3 := hT1.2.1.c9
    clear ho hg hT1
    have hl1 : (addP [] (i, sp)).length = 1 := rfl
    rw [hl1] at HO1 ⊢
    go_wp2_with fail
    refine (rdone_any _ _ _ [(i, sp)] [(i, sp)] s lines rfl HO1.out (by simp) hs).mono ?_
    rintro e w2 hr
    obtain ⟨a2, n2, c2, b2, rfl, HRR⟩ := hr.on HT1.out.2.2 HR.out
    clear hr
    go_wp2_with fail
    go_ret2
    exact HRR.out
  | false =>
    have HR : Hid (fin s.size [] = parses s.data.toList lines (.mk p xs) i sp) := by show _ = _; rw [HPA.out, fin_nil]; rfl
    go_wp2_with fail
    refine (rdone_any _ (fun _ => True) _ [] [] s lines rfl (.inl ⟨rfl, rfl⟩) (by simp) hs).mono ?_
    rintro e w2 hr
    obtain ⟨a2, n2, c2, b2, rfl, HRR⟩ := hr.on HT9.out.2.2 HR.out
    clear hr
    go_wp2_with fail
    go_ret2
    exact HRR.out
end Go.Proofs.Ythnpbopnpdlmnaa

/- The reference of the parses: trees without parts. -/
namespace Go.Proofs.Ythnpbopnpdlmnaa
open Go.RowKit
attribute [local go_sem] gives givesUpon

set_option maxRecDepth 100000 in
set_option maxHeartbeats 8000000 in
theorem rpar9 (wb : World) (N : Nat) (hN : N ≤ 9) (s : ByteArray) (hs : s.size ≤ 1000000) (lines : Bool) (p : Pay) (xs : List Re) (hop : p.op = 9) : RPar wb N s lines (.mk p xs) := by
  intro w cs sa sc sp i hIn hok hsz hbw hsp hspo hi
  rw [Re.In] at hIn
  obtain ⟨ad, cap, rfl, hwf, -⟩ := hIn
  simp only [Pay.cells]
  have hT : Two w s lines [.int .i64 p.op, .int .u64 p.set.a, .int .u64 p.set.b, .int .u64 p.set.c, .int .u64 p.set.d, .int .i64 p.lo, .int .i64 p.hi, .int .i64 p.gr, .slice ad xs.length cap] ((w.alloc (.cells #[.string s, .bool lines] 75)).alloc (.cells #[.int .i64 p.op, .int .u64 p.set.a, .int .u64 p.set.b, .int .u64 p.set.c, .int .u64 p.set.d, .int .i64 p.lo, .int .i64 p.hi, .int .i64 p.gr, .slice ad xs.length cap] 28)) := ⟨(Row.new rfl).alloc _, Row.new (by simp), ((Below.refl _ _).alloc (Nat.le_refl _) _).alloc (by simp) _⟩
  have HT := hid hT
  have HS := hid (hsp.below hT.2.2)
  have q0 := hT.1.two9
  have q1 := hT.2.1.c9
  have HSO := hid hspo
  have HO := hid hop
  have HWF := hid hwf
  have hsl : s.data.toList.length = s.size := by rw [Array.length_toList]; rfl
  have HSL := hid hsl
  rw [Re.ok] at hok
  have hgr := hok.2.2.2.1
  have hspl : sp.length ≤ 9 := by have := hspo.1; omega
  clear hT hsp hspo hsl hok hwf
  have hg9 := hgr (.inr hop)
  have HPA : Hid (parses s.data.toList lines (.mk p xs) i sp = some (if againOf s.data.toList (sp.getD (p.gr.toNat - 1) (-1, -1)) i then [(i + ((sp.getD (p.gr.toNat - 1) (-1, -1)).2 - (sp.getD (p.gr.toNat - 1) (-1, -1)).1).toNat, sp)] else [])) := by show _ = _; rw [parses]; simp only [hop, againOf]; rfl
  clear hop
  have e1 : (p.op == 1) = false := by rw [HO.out]; decide
  have e2 : (p.op == 2) = false := by rw [HO.out]; decide
  have e7 : (p.op == 7) = false := by rw [HO.out]; decide
  have e8 : (p.op == 8) = false := by rw [HO.out]; decide
  have e9 : (p.op == 9) = true := by rw [HO.out]; decide
  obtain ⟨g, hge, hgl⟩ : ∃ g : Nat, p.gr - 1 = (g : Int) ∧ g < sp.length := ⟨(p.gr - 1).toNat, by omega, by have := HSO.out.1; omega⟩
  obtain ⟨b, cc, x1, x2, hq, ev, hb, -, p0, p1⟩ := HS.out.get hgl
  injection ev with ev1 ev2 ev3
  subst ev1; subst ev3
  clear ev2
  have hgd : sp.getD (p.gr.toNat - 1) (-1, -1) = (x1, x2) := by rw [show p.gr.toNat - 1 = g by omega, List.getD_eq_getElem?_getD, hq]; rfl
  rw [hgd] at HPA
  have hx : (x1 = -1 ∧ x2 = -1) ∨ (0 ≤ x1 ∧ x1 ≤ x2 ∧ x2 ≤ s.size) := by
    rcases HSO.out.2 (x1, x2) (List.mem_of_getElem? hq) with e | e
    · injection e with e1 e2; exact .inl ⟨e1, e2⟩
    · exact .inr e
  have HXX := hid hx
  have hgi : (g : Int) < (sp.length : Int) := by omega
  have hwg : IntKind.i64.wrap (g : Int) = (g : Int) := by rw [IntKind.wrap_i64]; omega
  have HAG := hid (fun (x : World) => ragain_any x s lines x1 x2 i hx hi hs)
  generalize hbb : againOf s.data.toList (x1, x2) i = bb at HPA HAG
  have HBB := hid hbb
  clear hbb hq hgd hx hgr hg9
  go_enter Try.func31, Try.ntmps31
  go_wp2_with fail
  refine (HAG.out _).mono ?_
  rintro e w9 ⟨rfl, hb9⟩
  have hb8 : Below (((w.alloc (.cells #[.string s, .bool lines] 75)).alloc (.cells #[.int .i64 p.op, .int .u64 p.set.a, .int .u64 p.set.b, .int .u64 p.set.c, .int .u64 p.set.d, .int .i64 p.lo, .int .i64 p.hi, .int .i64 p.gr, .slice ad xs.length cap] 28))).heap.size ((w.alloc (.cells #[.string s, .bool lines] 75)).alloc (.cells #[.int .i64 p.op, .int .u64 p.set.a, .int .u64 p.set.b, .int .u64 p.set.c, .int .u64 p.set.d, .int .i64 p.lo, .int .i64 p.hi, .int .i64 p.gr, .slice ad xs.length cap] 28)) w9 := ((Below.refl _ _).alloc (Nat.le_refl _) _).trans (hb9.mono (by simp))
  have hT9 := HT.out.later hb8
  have HT9 := hid hT9
  have HS9 := hid (HS.out.below hb8)
  have hxr := (Row.new (w := ((w.alloc (.cells #[.string s, .bool lines] 75)).alloc (.cells #[.int .i64 p.op, .int .u64 p.set.a, .int .u64 p.set.b, .int .u64 p.set.c, .int .u64 p.set.d, .int .i64 p.lo, .int .i64 p.hi, .int .i64 p.gr, .slice ad xs.length cap] 28))) (B := w.heap.size + 2) (cs := [.int .i64 x1, .int .i64 x2]) (T := 47) (by simp)).below hb9 (by simp)
  have s01 := hxr.two9
  clear q0 q1 hb9 hb8 HAG p0 p1 hxr
  have q0 := hT9.1.two9
  have q1 := hT9.2.1.c9
  clear hT9
  cases bb with
  | true =>
    have h3 : 0 ≤ x1 ∧ x1 ≤ x2 ∧ i + (x2 - x1).toNat ≤ s.size := by
      have h4 := HBB.out
      unfold againOf at h4
      simp only [Bool.and_eq_true, decide_eq_true_eq] at h4
      rw [HSL.out] at h4
      rcases HXX.out with ⟨rfl, rfl⟩ | h5
      · omega
      · exact ⟨h5.1, h5.2.1, h4.1.2⟩
    obtain ⟨m, hm⟩ : ∃ m : Nat, m = i + (x2 - x1).toNat := ⟨_, rfl⟩
    have HR : Hid (fin s.size [(m, sp)] = parses s.data.toList lines (.mk p xs) i sp) := by show _ = _; rw [HPA.out, fin_one (by show m ≤ _; omega)]; simp [hm]
    have hx2 : x2 ≤ s.size := by rcases HXX.out with h5 | h5 <;> omega
    have hwa : IntKind.i64.wrap ((i : Int) + x2) = (i : Int) + x2 := by rw [IntKind.wrap_i64]; omega
    have hwb : IntKind.i64.wrap ((i : Int) + x2 - x1) = (m : Int) := by rw [IntKind.wrap_i64]; omega
    have hms : m ≤ s.size := by omega
    have HM := hid (⟨h3, hm⟩ : _ ∧ _)
    clear h3 hm HPA
    go_wp2_with fail
    refine (radd_any _ w.heap.size (.slice none 0 0) (.slice (some ⟨b, 0, none⟩) sp.length sc) [] m sp (OwnP.nil _ _) HS9.out (by simp) HT9.out.2.2.size (fun q hq => by have := List.mem_singleton.1 hq; subst this; exact ⟨by show sp.length ≤ 9; omega, by show m ≤ _; omega⟩)).mono ?_
    rintro e w1 ⟨a1, c1, rfl, ho, hg, -⟩
    have hT1 := HT9.out.later (grown_nil hg)
    have HT1 := hid hT1
    have HO1 := hid ho.psq
    have q2 := hT1.1.two9
    have q3 := hT1.2.1.c9
    clear ho hg hT1
    have hl1 : (addP [] (m, sp)).length = 1 := rfl
    rw [hl1] at HO1 ⊢
    go_wp2_with fail
    refine (rdone_any _ _ _ [(m, sp)] [(m, sp)] s lines rfl HO1.out (by simp) hs).mono ?_
    rintro e w2 hr
    obtain ⟨a2, n2, c2, b2, rfl, HRR⟩ := hr.on HT1.out.2.2 HR.out
    clear hr
    go_wp2_with fail
    go_ret2
    exact HRR.out
  | false =>
    have HR : Hid (fin s.size [] = parses s.data.toList lines (.mk p xs) i sp) := by show _ = _; rw [HPA.out, fin_nil]; rfl
    go_wp2_with fail
    refine (rdone_any _ (fun _ => True) _ [] [] s lines rfl (.inl ⟨rfl, rfl⟩) (by simp) hs).mono ?_
    rintro e w2 hr
    obtain ⟨a2, n2, c2, b2, rfl, HRR⟩ := hr.on HT9.out.2.2 HR.out
    clear hr
    go_wp2_with fail
    go_ret2
    exact HRR.out
end Go.Proofs.Ythnpbopnpdlmnaa
