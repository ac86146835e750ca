/- Reback's law RebackFinds. -/
import Derived.Test.YthnpbopnpdlmnaaB44
import Derived.Test.YthnpbopnpdlmnaaB47
namespace Go.Proofs.Ythnpbopnpdlmnaa
open Go.RowKit
attribute [local go_sem] gives givesUpon

set_option maxRecDepth 100000 in
set_option maxHeartbeats 16000000 in
theorem LawFindsB_any (w : World) (t : Re) (cs : List Value) (s : ByteArray) (at_ budget : Int) (lines : Bool) (hin : t.In w cs) (hs : (s.size : Int) ≤ 9223372036854775807) :
    Calls Try.prog 4 #[.agg cs.toArray, .agg #[.string s, .int .i64 at_, .bool lines, .int .i64 budget]] w fun e w' => e = .returned (.bool true) ∧ Below w.heap.size w w' := by
  obtain ⟨p, ad, n, c, rfl⟩ := Re.cells_shape hin
  have hBl : Below w.heap.size w ((w.alloc (.cells #[.int .i64 p.op, .int .u64 p.set.a, .int .u64 p.set.b, .int .u64 p.set.c, .int .u64 p.set.d, .int .i64 p.lo, .int .i64 p.hi, .int .i64 p.gr, .slice ad n c] 28)).alloc (.cells #[.string s, .int .i64 at_, .bool lines, .int .i64 budget] 50)) := ((Below.refl w.heap.size w).alloc (Nat.le_refl _) _).alloc (by simp) _
  have hL : LB w t [.int .i64 p.op, .int .u64 p.set.a, .int .u64 p.set.b, .int .u64 p.set.c, .int .u64 p.set.d, .int .i64 p.lo, .int .i64 p.hi, .int .i64 p.gr, .slice ad n c] [.string s, .int .i64 at_, .bool lines, .int .i64 budget] ((w.alloc (.cells #[.int .i64 p.op, .int .u64 p.set.a, .int .u64 p.set.b, .int .u64 p.set.c, .int .u64 p.set.d, .int .i64 p.lo, .int .i64 p.hi, .int .i64 p.gr, .slice ad n c] 28)).alloc (.cells #[.string s, .int .i64 at_, .bool lines, .int .i64 budget] 50)) := ⟨(Row.new rfl).alloc _, Row.new (by simp), hBl, hin.below hBl⟩
  have HL := hid hL
  have HFE := hid (few14_any ((w.alloc (.cells #[.int .i64 p.op, .int .u64 p.set.a, .int .u64 p.set.b, .int .u64 p.set.c, .int .u64 p.set.d, .int .i64 p.lo, .int .i64 p.hi, .int .i64 p.gr, .slice ad n c] 28)).alloc (.cells #[.string s, .int .i64 at_, .bool lines, .int .i64 budget] 50)) t _ s at_ budget lines hL.2.2.2 hs)
  have q0 := hL.1.c9
  have q1 := hL.2.1.c4
  clear hin hs hBl hL
  go_enter Try.func4, Try.ntmps4
  go_wp2_with fail
  refine HFE.out.mono ?_
  rintro e w1 ⟨b, rfl, hfw, hb1⟩
  have HL1 := hid (HL.out.later hb1)
  have HFW := hid hfw
  clear hb1 HFE q0 q1 HL hfw
  have q0 := HL1.out.1.c9
  have q1 := HL1.out.2.1.c4
  cases b with
  | false =>
    clear HFW
    go_wp2_with fail
    refine (awakeB_any w1).mono ?_
    rintro e w2 ⟨rfl, hb⟩
    have HB2 := hid (HL1.out.later hb)
    clear hb
    go_wp2_with fail
    go_ret
    exact ⟨rfl, HB2.out.2.2.1⟩
  | true =>
    obtain ⟨hsz, hs12, hb20⟩ := HFW.out rfl
    clear HFW
    obtain ⟨⟨sp, okr, xr⟩, hr⟩ : ∃ r, r = atR (parsesR t s at_ lines) at_ := ⟨_, rfl⟩
    obtain ⟨⟨sp2, ok2, x2⟩, hr2⟩ : ∃ r, r = leftmostR t s at_ lines := ⟨_, rfl⟩
    have hln := atR_len (t := t) (s := s) (at_ := at_) (lines := lines)
    have hln2 := leftmostR_len (t := t) (s := s) (at_ := at_) (lines := lines)
    rw [← hr] at hln
    rw [← hr2] at hln2
    have HLN := hid (⟨hln, hln2⟩ : _ ∧ _)
    have HRR := hid hr
    have HRR2 := hid hr2
    clear hr hr2 hln hln2
    go_wp2_with fail
    refine (BAt_any w1 t _ s at_ lines 20000 20000 HL1.out.2.2.2 (by omega) (by omega) (by decide) (by omega)).mono ?_
    rintro e w2 ⟨o, k, x, v, ha, rfl, hb2, hf1, hf2⟩
    have hsp := SpB.lst hf1 hf2
    obtain ⟨va, vc, rfl⟩ := hsp.form
    have hal := (Below.refl w2.heap.size w2).alloc (Nat.le_refl _) (.cells #[.slice va o.lst.length vc] 43)
    have HL2 := hid ((HL1.out.later hb2).later hal)
    have HSP := hid (hsp.below hal).q
    have HA := hid ha
    have HOL := hid ha.len
    have HM := hid (Row.new (w := w2) (cs := [.slice va o.lst.length vc]) (T := 43) rfl)
    have hL2 := HL1.out.later hb2
    clear q0 q1
    have q0 := hL2.1.c9
    have q1 := hL2.2.1.c4
    have hz1 := hL2.1.lt
    have hz2 := hL2.2.1.lt
    have hp2 := RAt9_any (w2.alloc (.cells #[.slice va o.lst.length vc] 43)) t [.int .i64 p.op, .int .u64 p.set.a, .int .u64 p.set.b, .int .u64 p.set.c, .int .u64 p.set.d, .int .i64 p.lo, .int .i64 p.hi, .int .i64 p.gr, .slice ad n c] s at_ lines HL2.out.2.2.2 (by omega) (by omega)
    rw [← HRR.out] at hp2
    have HP2 := hid hp2
    have h3 : x = 11 ∨ (x ≠ 11 ∧ xr = 11) ∨ (x ≠ 11 ∧ xr ≠ 11 ∧ o.lst = sp ∧ o.isFound = okr ∧ x = xr) := by
      by_cases h1 : x = 11
      · exact .inl h1
      by_cases h2 : xr = 11
      · exact .inr (.inl ⟨h1, h2⟩)
      · have := finds_at ha h1 (by rw [← HRR.out]; exact h2)
        rw [← HRR.out] at this
        exact .inr (.inr ⟨h1, h2, this⟩)
    have H3 := hid h3
    clear h3 hp2 ha hb2 hf1 hf2 hsp hL2 HL1 hal HA
    generalize hoi : o.isFound = fo at *
    have HOI := hid hoi
    clear hoi
    go_wp2_with fail
    refine HP2.out.mono ?_
    rintro e w3 ⟨a3, c3, rfl, hb, hs3⟩
    dsimp only at hs3 ⊢
    have hal3 : Below w3.heap.size w3 (w3.alloc (.cells #[.slice a3 sp.length c3] 43)) := (Below.refl _ _).alloc (Nat.le_refl _) _
    have hM3 := HM.out.below hb HM.out.lt
    have HM3 := hid (⟨(HL2.out.later hb).later hal3, hM3.alloc _, (HSP.out.below hb).below hal3, hs3.below hal3⟩ : LB w t [.int .i64 p.op, .int .u64 p.set.a, .int .u64 p.set.b, .int .u64 p.set.c, .int .u64 p.set.d, .int .i64 p.lo, .int .i64 p.hi, .int .i64 p.gr, .slice ad n c] [.string s, .int .i64 at_, .bool lines, .int .i64 budget] (w3.alloc (.cells #[.slice a3 sp.length c3] 43)) ∧ Row (w3.alloc (.cells #[.slice a3 sp.length c3] 43)) w2.heap.size [.slice va o.lst.length vc] 43 ∧ SpQ (w3.alloc (.cells #[.slice a3 sp.length c3] 43)) (.slice va o.lst.length vc) o.lst ∧ SpQ (w3.alloc (.cells #[.slice a3 sp.length c3] 43)) (.slice a3 sp.length c3) sp)
    have q2 := hM3.cell 0
    have hz3 := hM3.lt
    have hL3 := HL2.out.later hb
    clear q0 q1
    have q0 := hL3.1.c9
    have q1 := hL3.2.1.c4
    have hy1 := hL3.1.lt
    have hy2 := hL3.2.1.lt
    clear hb hs3 HP2 hal3 hM3 hL3 HL2 HSP HM
    rcases H3.out with hc | ⟨hc1, hc2⟩ | ⟨hc1, hc2, hc3, hc4, hc5⟩
    · have d1 : (x == 11) = true := by simp [hc]
      have d2 : (x != 11) = false := by simp [hc]
      clear hc H3 q2
      have HL4 := hid HM3.out.1
      clear HM3
      go_wp2_with fail
      refine (BSearch_any _ t _ s at_ lines 20000 20000 HL4.out.2.2.2 (by omega) (by omega) (by decide) (by omega)).mono ?_
      rintro e w5 ⟨o2, k2, z, v2, ha2, rfl, hb5, hf3, hf4⟩
      have hsp2 := SpB.lst hf3 hf4
      obtain ⟨va2, vc2, rfl⟩ := hsp2.form
      have hal := (Below.refl w5.heap.size w5).alloc (Nat.le_refl _) (.cells #[.slice va2 o2.lst.length vc2] 43)
      have HL5 := hid ((HL4.out.later hb5).later hal)
      have HSP2 := hid (hsp2.below hal).q
      have HOL2 := hid ha2.len
      have HM5 := hid (Row.new (w := w5) (cs := [.slice va2 o2.lst.length vc2]) (T := 43) rfl)
      have hL5 := HL4.out.later hb5
      clear q0 q1
      have q0 := hL5.1.c9
      have q1 := hL5.2.1.c4
      have hx1 := hL5.1.lt
      have hx2 := hL5.2.1.lt
      have hp3 := RLeft_any (w5.alloc (.cells #[.slice va2 o2.lst.length vc2] 43)) t [.int .i64 p.op, .int .u64 p.set.a, .int .u64 p.set.b, .int .u64 p.set.c, .int .u64 p.set.d, .int .i64 p.lo, .int .i64 p.hi, .int .i64 p.gr, .slice ad n c] s at_ lines HL5.out.2.2.2 (by omega) (by omega)
      rw [← HRR2.out] at hp3
      have HP3 := hid hp3
      have h4 : z = 11 ∨ (z ≠ 11 ∧ x2 = 11) ∨ (z ≠ 11 ∧ x2 ≠ 11 ∧ o2.lst = sp2 ∧ o2.isFound = ok2 ∧ z = x2) := by
        by_cases h1 : z = 11
        · exact .inl h1
        by_cases h2 : x2 = 11
        · exact .inr (.inl ⟨h1, h2⟩)
        · have := finds_left ha2 h1 (by rw [← HRR2.out]; exact h2)
          rw [← HRR2.out] at this
          exact .inr (.inr ⟨h1, h2, this⟩)
      have H4 := hid h4
      clear h4 hp3 ha2 hb5 hf3 hf4 hsp2 hL5 HL4 hal
      generalize hoi2 : o2.isFound = fo2 at *
      have HOI2 := hid hoi2
      clear hoi2
      go_wp2_with fail
      refine HP3.out.mono ?_
      rintro e w6 ⟨a6, c6, rfl, hb, hs6⟩
      dsimp only at hs6 ⊢
      have hal6 : Below w6.heap.size w6 (w6.alloc (.cells #[.slice a6 sp2.length c6] 43)) := (Below.refl _ _).alloc (Nat.le_refl _) _
      have hM6 := HM5.out.below hb HM5.out.lt
      have HM6 := hid (⟨(HL5.out.later hb).later hal6, hM6.alloc _, (HSP2.out.below hb).below hal6, hs6.below hal6⟩ : LB w t [.int .i64 p.op, .int .u64 p.set.a, .int .u64 p.set.b, .int .u64 p.set.c, .int .u64 p.set.d, .int .i64 p.lo, .int .i64 p.hi, .int .i64 p.gr, .slice ad n c] [.string s, .int .i64 at_, .bool lines, .int .i64 budget] (w6.alloc (.cells #[.slice a6 sp2.length c6] 43)) ∧ Row (w6.alloc (.cells #[.slice a6 sp2.length c6] 43)) w5.heap.size [.slice va2 o2.lst.length vc2] 43 ∧ SpQ (w6.alloc (.cells #[.slice a6 sp2.length c6] 43)) (.slice va2 o2.lst.length vc2) o2.lst ∧ SpQ (w6.alloc (.cells #[.slice a6 sp2.length c6] 43)) (.slice a6 sp2.length c6) sp2)
      have q2 := hM6.cell 0
      have hz6 := hM6.lt
      clear q0 q1 hb hs6 HP3 hal6 hM6 HL5 HSP2 HM5
      rcases H4.out with hd | ⟨hd1, hd2⟩ | ⟨hd1, hd2, hd3, hd4, hd5⟩
      · have d5 : (z == 11) = true := by simp [hd]
        clear hd H4
        go_wp2_with fail
        refine (awakeB_any _).mono ?_
        rintro e w9 ⟨rfl, hb⟩
        have HB9 := hid (HM6.out.1.later hb)
        clear hb
        go_wp2_with fail
        go_ret
        exact ⟨rfl, HB9.out.2.2.1⟩
      · have d5 : (z == 11) = false := by simp [hd1]
        have d6 : (x2 == 11) = true := by simp [hd2]
        clear hd1 hd2 H4
        go_wp2_with fail
        refine (awakeB_any _).mono ?_
        rintro e w9 ⟨rfl, hb⟩
        have HB9 := hid (HM6.out.1.later hb)
        clear hb
        go_wp2_with fail
        go_ret
        exact ⟨rfl, HB9.out.2.2.1⟩
      · have d5 : (z == 11) = false := by simp [hd1]
        have d6 : (x2 == 11) = false := by simp [hd2]
        have HC6 := hid hd3
        clear hd1 hd2 hd3 H4
        subst hd4; subst hd5
        have d7 : (z == z) = true := by simp
        have d8 : (fo2 == fo2) = true := by simp
        go_wp2_with fail
        refine (sameQB_any _ va2 a6 vc2 c6 o2.lst sp2 HM6.out.2.2.1 HM6.out.2.2.2 HOL2.out (by have := HLN.out.2; omega)).mono ?_
        rintro e w8 ⟨rfl, hb8⟩
        have HL8 := hid (HM6.out.1.later hb8)
        rw [decide_eq_true HC6.out]
        clear hb8 q2
        go_wp2_with fail
        refine (awakeB_any _).mono ?_
        rintro e w9 ⟨rfl, hb⟩
        have HB9 := hid (HL8.out.later hb)
        clear hb
        go_wp2_with fail
        go_ret
        exact ⟨rfl, HB9.out.2.2.1⟩
    · have d1 : (x != 11) = true := by simp [hc1]
      have d2 : (xr != 11) = false := by simp [hc2]
      clear hc1 hc2 H3 q2
      have HL4 := hid HM3.out.1
      clear HM3
      go_wp2_with fail
      refine (BSearch_any _ t _ s at_ lines 20000 20000 HL4.out.2.2.2 (by omega) (by omega) (by decide) (by omega)).mono ?_
      rintro e w5 ⟨o2, k2, z, v2, ha2, rfl, hb5, hf3, hf4⟩
      have hsp2 := SpB.lst hf3 hf4
      obtain ⟨va2, vc2, rfl⟩ := hsp2.form
      have hal := (Below.refl w5.heap.size w5).alloc (Nat.le_refl _) (.cells #[.slice va2 o2.lst.length vc2] 43)
      have HL5 := hid ((HL4.out.later hb5).later hal)
      have HSP2 := hid (hsp2.below hal).q
      have HOL2 := hid ha2.len
      have HM5 := hid (Row.new (w := w5) (cs := [.slice va2 o2.lst.length vc2]) (T := 43) rfl)
      have hL5 := HL4.out.later hb5
      clear q0 q1
      have q0 := hL5.1.c9
      have q1 := hL5.2.1.c4
      have hx1 := hL5.1.lt
      have hx2 := hL5.2.1.lt
      have hp3 := RLeft_any (w5.alloc (.cells #[.slice va2 o2.lst.length vc2] 43)) t [.int .i64 p.op, .int .u64 p.set.a, .int .u64 p.set.b, .int .u64 p.set.c, .int .u64 p.set.d, .int .i64 p.lo, .int .i64 p.hi, .int .i64 p.gr, .slice ad n c] s at_ lines HL5.out.2.2.2 (by omega) (by omega)
      rw [← HRR2.out] at hp3
      have HP3 := hid hp3
      have h4 : z = 11 ∨ (z ≠ 11 ∧ x2 = 11) ∨ (z ≠ 11 ∧ x2 ≠ 11 ∧ o2.lst = sp2 ∧ o2.isFound = ok2 ∧ z = x2) := by
        by_cases h1 : z = 11
        · exact .inl h1
        by_cases h2 : x2 = 11
        · exact .inr (.inl ⟨h1, h2⟩)
        · have := finds_left ha2 h1 (by rw [← HRR2.out]; exact h2)
          rw [← HRR2.out] at this
          exact .inr (.inr ⟨h1, h2, this⟩)
      have H4 := hid h4
      clear h4 hp3 ha2 hb5 hf3 hf4 hsp2 hL5 HL4 hal
      generalize hoi2 : o2.isFound = fo2 at *
      have HOI2 := hid hoi2
      clear hoi2
      go_wp2_with fail
      refine HP3.out.mono ?_
      rintro e w6 ⟨a6, c6, rfl, hb, hs6⟩
      dsimp only at hs6 ⊢
      have hal6 : Below w6.heap.size w6 (w6.alloc (.cells #[.slice a6 sp2.length c6] 43)) := (Below.refl _ _).alloc (Nat.le_refl _) _
      have hM6 := HM5.out.below hb HM5.out.lt
      have HM6 := hid (⟨(HL5.out.later hb).later hal6, hM6.alloc _, (HSP2.out.below hb).below hal6, hs6.below hal6⟩ : LB w t [.int .i64 p.op, .int .u64 p.set.a, .int .u64 p.set.b, .int .u64 p.set.c, .int .u64 p.set.d, .int .i64 p.lo, .int .i64 p.hi, .int .i64 p.gr, .slice ad n c] [.string s, .int .i64 at_, .bool lines, .int .i64 budget] (w6.alloc (.cells #[.slice a6 sp2.length c6] 43)) ∧ Row (w6.alloc (.cells #[.slice a6 sp2.length c6] 43)) w5.heap.size [.slice va2 o2.lst.length vc2] 43 ∧ SpQ (w6.alloc (.cells #[.slice a6 sp2.length c6] 43)) (.slice va2 o2.lst.length vc2) o2.lst ∧ SpQ (w6.alloc (.cells #[.slice a6 sp2.length c6] 43)) (.slice a6 sp2.length c6) sp2)
      have q2 := hM6.cell 0
      have hz6 := hM6.lt
      clear q0 q1 hb hs6 HP3 hal6 hM6 HL5 HSP2 HM5
      rcases H4.out with hd | ⟨hd1, hd2⟩ | ⟨hd1, hd2, hd3, hd4, hd5⟩
      · have d5 : (z == 11) = true := by simp [hd]
        clear hd H4
        go_wp2_with fail
        refine (awakeB_any _).mono ?_
        rintro e w9 ⟨rfl, hb⟩
        have HB9 := hid (HM6.out.1.later hb)
        clear hb
        go_wp2_with fail
        go_ret
        exact ⟨rfl, HB9.out.2.2.1⟩
      · have d5 : (z == 11) = false := by simp [hd1]
        have d6 : (x2 == 11) = true := by simp [hd2]
        clear hd1 hd2 H4
        go_wp2_with fail
        refine (awakeB_any _).mono ?_
        rintro e w9 ⟨rfl, hb⟩
        have HB9 := hid (HM6.out.1.later hb)
        clear hb
        go_wp2_with fail
        go_ret
        exact ⟨rfl, HB9.out.2.2.1⟩
      · have d5 : (z == 11) = false := by simp [hd1]
        have d6 : (x2 == 11) = false := by simp [hd2]
        have HC6 := hid hd3
        clear hd1 hd2 hd3 H4
        subst hd4; subst hd5
        have d7 : (z == z) = true := by simp
        have d8 : (fo2 == fo2) = true := by simp
        go_wp2_with fail
        refine (sameQB_any _ va2 a6 vc2 c6 o2.lst sp2 HM6.out.2.2.1 HM6.out.2.2.2 HOL2.out (by have := HLN.out.2; omega)).mono ?_
        rintro e w8 ⟨rfl, hb8⟩
        have HL8 := hid (HM6.out.1.later hb8)
        rw [decide_eq_true HC6.out]
        clear hb8 q2
        go_wp2_with fail
        refine (awakeB_any _).mono ?_
        rintro e w9 ⟨rfl, hb⟩
        have HB9 := hid (HL8.out.later hb)
        clear hb
        go_wp2_with fail
        go_ret
        exact ⟨rfl, HB9.out.2.2.1⟩
    · have d1 : (x != 11) = true := by simp [hc1]
      have d2 : (xr != 11) = true := by simp [hc2]
      have HC3 := hid hc3
      clear hc1 hc2 hc3 H3
      subst hc4; subst hc5
      have d3 : (x != x) = false := by simp
      have d4 : (fo != fo) = false := by simp
      go_wp2_with fail
      refine (sameQB_any _ va a3 vc c3 o.lst sp HM3.out.2.2.1 HM3.out.2.2.2 HOL.out (by have := HLN.out.1; omega)).mono ?_
      rintro e w4 ⟨rfl, hb4⟩
      have HL4 := hid (HM3.out.1.later hb4)
      rw [decide_eq_true HC3.out]
      clear q0 q1
      have q0 := HL4.out.1.c9
      have q1 := HL4.out.2.1.c4
      clear hb4 HM3 q2
      go_wp2_with fail
      refine (BSearch_any _ t _ s at_ lines 20000 20000 HL4.out.2.2.2 (by omega) (by omega) (by decide) (by omega)).mono ?_
      rintro e w5 ⟨o2, k2, z, v2, ha2, rfl, hb5, hf3, hf4⟩
      have hsp2 := SpB.lst hf3 hf4
      obtain ⟨va2, vc2, rfl⟩ := hsp2.form
      have hal := (Below.refl w5.heap.size w5).alloc (Nat.le_refl _) (.cells #[.slice va2 o2.lst.length vc2] 43)
      have HL5 := hid ((HL4.out.later hb5).later hal)
      have HSP2 := hid (hsp2.below hal).q
      have HOL2 := hid ha2.len
      have HM5 := hid (Row.new (w := w5) (cs := [.slice va2 o2.lst.length vc2]) (T := 43) rfl)
      have hL5 := HL4.out.later hb5
      clear q0 q1
      have q0 := hL5.1.c9
      have q1 := hL5.2.1.c4
      have hx1 := hL5.1.lt
      have hx2 := hL5.2.1.lt
      have hp3 := RLeft_any (w5.alloc (.cells #[.slice va2 o2.lst.length vc2] 43)) t [.int .i64 p.op, .int .u64 p.set.a, .int .u64 p.set.b, .int .u64 p.set.c, .int .u64 p.set.d, .int .i64 p.lo, .int .i64 p.hi, .int .i64 p.gr, .slice ad n c] s at_ lines HL5.out.2.2.2 (by omega) (by omega)
      rw [← HRR2.out] at hp3
      have HP3 := hid hp3
      have h4 : z = 11 ∨ (z ≠ 11 ∧ x2 = 11) ∨ (z ≠ 11 ∧ x2 ≠ 11 ∧ o2.lst = sp2 ∧ o2.isFound = ok2 ∧ z = x2) := by
        by_cases h1 : z = 11
        · exact .inl h1
        by_cases h2 : x2 = 11
        · exact .inr (.inl ⟨h1, h2⟩)
        · have := finds_left ha2 h1 (by rw [← HRR2.out]; exact h2)
          rw [← HRR2.out] at this
          exact .inr (.inr ⟨h1, h2, this⟩)
      have H4 := hid h4
      clear h4 hp3 ha2 hb5 hf3 hf4 hsp2 hL5 HL4 hal
      generalize hoi2 : o2.isFound = fo2 at *
      have HOI2 := hid hoi2
      clear hoi2
      go_wp2_with fail
      refine HP3.out.mono ?_
      rintro e w6 ⟨a6, c6, rfl, hb, hs6⟩
      dsimp only at hs6 ⊢
      have hal6 : Below w6.heap.size w6 (w6.alloc (.cells #[.slice a6 sp2.length c6] 43)) := (Below.refl _ _).alloc (Nat.le_refl _) _
      have hM6 := HM5.out.below hb HM5.out.lt
      have HM6 := hid (⟨(HL5.out.later hb).later hal6, hM6.alloc _, (HSP2.out.below hb).below hal6, hs6.below hal6⟩ : LB w t [.int .i64 p.op, .int .u64 p.set.a, .int .u64 p.set.b, .int .u64 p.set.c, .int .u64 p.set.d, .int .i64 p.lo, .int .i64 p.hi, .int .i64 p.gr, .slice ad n c] [.string s, .int .i64 at_, .bool lines, .int .i64 budget] (w6.alloc (.cells #[.slice a6 sp2.length c6] 43)) ∧ Row (w6.alloc (.cells #[.slice a6 sp2.length c6] 43)) w5.heap.size [.slice va2 o2.lst.length vc2] 43 ∧ SpQ (w6.alloc (.cells #[.slice a6 sp2.length c6] 43)) (.slice va2 o2.lst.length vc2) o2.lst ∧ SpQ (w6.alloc (.cells #[.slice a6 sp2.length c6] 43)) (.slice a6 sp2.length c6) sp2)
      have q2 := hM6.cell 0
      have hz6 := hM6.lt
      clear q0 q1 hb hs6 HP3 hal6 hM6 HL5 HSP2 HM5
      rcases H4.out with hd | ⟨hd1, hd2⟩ | ⟨hd1, hd2, hd3, hd4, hd5⟩
      · have d5 : (z == 11) = true := by simp [hd]
        clear hd H4
        go_wp2_with fail
        refine (awakeB_any _).mono ?_
        rintro e w9 ⟨rfl, hb⟩
        have HB9 := hid (HM6.out.1.later hb)
        clear hb
        go_wp2_with fail
        go_ret
        exact ⟨rfl, HB9.out.2.2.1⟩
      · have d5 : (z == 11) = false := by simp [hd1]
        have d6 : (x2 == 11) = true := by simp [hd2]
        clear hd1 hd2 H4
        go_wp2_with fail
        refine (awakeB_any _).mono ?_
        rintro e w9 ⟨rfl, hb⟩
        have HB9 := hid (HM6.out.1.later hb)
        clear hb
        go_wp2_with fail
        go_ret
        exact ⟨rfl, HB9.out.2.2.1⟩
      · have d5 : (z == 11) = false := by simp [hd1]
        have d6 : (x2 == 11) = false := by simp [hd2]
        have HC6 := hid hd3
        clear hd1 hd2 hd3 H4
        subst hd4; subst hd5
        have d7 : (z == z) = true := by simp
        have d8 : (fo2 == fo2) = true := by simp
        go_wp2_with fail
        refine (sameQB_any _ va2 a6 vc2 c6 o2.lst sp2 HM6.out.2.2.1 HM6.out.2.2.2 HOL2.out (by have := HLN.out.2; omega)).mono ?_
        rintro e w8 ⟨rfl, hb8⟩
        have HL8 := hid (HM6.out.1.later hb8)
        rw [decide_eq_true HC6.out]
        clear hb8 q2
        go_wp2_with fail
        refine (awakeB_any _).mono ?_
        rintro e w9 ⟨rfl, hb⟩
        have HB9 := hid (HL8.out.later hb)
        clear hb
        go_wp2_with fail
        go_ret
        exact ⟨rfl, HB9.out.2.2.1⟩
end Go.Proofs.Ythnpbopnpdlmnaa
