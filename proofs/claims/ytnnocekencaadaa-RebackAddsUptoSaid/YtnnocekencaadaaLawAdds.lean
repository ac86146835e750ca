/- Reback's law RebackAdds: its walk answers true. -/
import Derived.Test.YtnnocekencaadaaLawB
namespace Go.Proofs.Ytnnocekencaadaa
open Go.RowKit
attribute [local go_sem] gives givesUpon

theorem chk_of {t : Re} {s : ByteArray} {i : Nat} (h : t.err = 0) (hi : i ≤ s.size) : chk t s i = 0 := by
  unfold chk
  rw [if_neg (by omega), if_neg (by omega)]
theorem at_of {t : Re} {s : ByteArray} {lines : Bool} {i ni mi B : Nat} {o o' : Out} {k' x' : Int} (he : t.err = 0) (hi : i ≤ s.size) (h : EvAt s.data.toList lines t t.groups i (s.data.toList.length + 1 - i) ni o mi) (ho : o ≠ .over) (hB : ni ≤ B) (h' : Api t s i (fun _ => 1) lines B o' k' x') : o' = o ∧ k' = ((ni - mi : Nat) : Int) ∧ x' = 0 := by
  have hl := (EvAt.left _ _ _ _ h).1
  have e := (EvAt.cost _ _ _ _ h ho B).1 (by omega)
  have hf : EvFind s.data.toList lines t t.groups i 1 B o (B - (ni - mi)) := by
    cases o with
    | fail => exact .miss e .none
    | found l => exact .hit e (by intro h; cases h)
    | over => exact absurd rfl ho
  obtain ⟨e1, e2, e3⟩ := Api.det h' (.inr ⟨chk_of he hi, _, by omega, hf, rfl, rfl⟩)
  refine ⟨e1, by rw [e2]; omega, by rw [e3]; cases o with | over => exact absurd rfl ho | found l => rfl | fail => rfl⟩
theorem lst_fo {o : Out} (h : o ≠ .over) : (∃ l, o = .found l) ∨ o = .fail := by
  cases o with
  | found l => exact .inl ⟨l, rfl⟩
  | fail => exact .inr rfl
  | over => exact absurd rfl h

-- def BX := [.int .i64 p.op, .int .u64 p.set.a, .int .u64 p.set.b, .int .u64 p.set.c, .int .u64 p.set.d, .int .i64 p.lo, .int .i64 p.hi, .int .i64 p.gr, .slice ad n c]
-- def CX := [.string s, .int .i64 at_, .bool lines, .int .i64 budget]
-- def CF := [.string s, .int .i64 f, .bool lines, .int .i64 budget]
-- def W2 := ((w.alloc (.cells #[.int .i64 p.op, .int .u64 p.set.a, .int .u64 p.set.b, .int .u64 p.set.c, .int .u64 p.set.d, .int .i64 p.lo, .int .i64 p.hi, .int .i64 p.gr, .slice ad n c] 28)).alloc (.cells #[.string s, .int .i64 at_, .bool lines, .int .i64 budget] 30))
set_option maxRecDepth 100000 in
set_option maxHeartbeats 16000000 in
theorem LawAdds_any (w : World) (t : Re) (cs : List Value) (s : ByteArray) (at_ budget : Int) (lines : Bool) (hin : t.In w cs) (hsz : t.size ≤ 1048576) (hs : (s.size : Int) ≤ 9223372036854775807) :
    Calls Try.prog 6 #[.agg cs.toArray, .agg #[.string s, .int .i64 at_, .bool lines, .int .i64 budget]] w fun e w' => e = .returned (.bool true) ∧ Below w.heap.size w w' := by
  obtain ⟨p, ad, n, c, rfl⟩ := Re.cells_shape hin
  have hBl : Below w.heap.size w ((w.alloc (.cells #[.int .i64 p.op, .int .u64 p.set.a, .int .u64 p.set.b, .int .u64 p.set.c, .int .u64 p.set.d, .int .i64 p.lo, .int .i64 p.hi, .int .i64 p.gr, .slice ad n c] 28)).alloc (.cells #[.string s, .int .i64 at_, .bool lines, .int .i64 budget] 30)) := ((Below.refl w.heap.size w).alloc (Nat.le_refl _) _).alloc (by simp) _
  have hL : LB w t [.int .i64 p.op, .int .u64 p.set.a, .int .u64 p.set.b, .int .u64 p.set.c, .int .u64 p.set.d, .int .i64 p.lo, .int .i64 p.hi, .int .i64 p.gr, .slice ad n c] [.string s, .int .i64 at_, .bool lines, .int .i64 budget] ((w.alloc (.cells #[.int .i64 p.op, .int .u64 p.set.a, .int .u64 p.set.b, .int .u64 p.set.c, .int .u64 p.set.d, .int .i64 p.lo, .int .i64 p.hi, .int .i64 p.gr, .slice ad n c] 28)).alloc (.cells #[.string s, .int .i64 at_, .bool lines, .int .i64 budget] 30)) := ⟨(Row.new rfl).alloc _, Row.new (by simp), hBl, hin.below hBl⟩
  have HL := hid hL
  have HFE := hid (few_any ((w.alloc (.cells #[.int .i64 p.op, .int .u64 p.set.a, .int .u64 p.set.b, .int .u64 p.set.c, .int .u64 p.set.d, .int .i64 p.lo, .int .i64 p.hi, .int .i64 p.gr, .slice ad n c] 28)).alloc (.cells #[.string s, .int .i64 at_, .bool lines, .int .i64 budget] 30)) t _ s at_ budget lines hL.2.2.2 hs)
  have q0 := hL.1.c9
  have q1 := hL.2.1.c4
  clear hin hs hBl hL
  go_enter Try.func6, Try.ntmps6
  go_wp2_with fail
  refine HFE.out.mono ?_
  rintro e w1 ⟨b, rfl, hfw, hb1⟩
  have HL1 := hid (HL.out.later hb1)
  have HFW := hid hfw
  clear hb1 HFE q0 q1 HL hfw
  have q0 := HL1.out.1.c9
  have q1 := HL1.out.2.1.c4
  by_cases hgo : b = true ∧ 0 ≤ at_ ∧ at_ ≤ (s.size : Int)
  · obtain ⟨rfl, hat0, hat1⟩ := hgo
    have hfw := HFW.out rfl
    obtain ⟨f, rfl⟩ : ∃ f : Nat, at_ = f := ⟨at_.toNat, by omega⟩
    have hfs : f ≤ s.size := by omega
    clear HFW hat0
    go_wp2_with fail
    refine (BSearch_any w1 t _ s f lines 20000 20000 HL1.out.2.2.2 hsz (by omega) (by decide) (by omega)).mono ?_
    rintro e w2 ⟨o, k, x, v, ha, rfl, hb2, hf1, hf2⟩
    have hsp := SpB.lst hf1 hf2
    obtain ⟨va, vc, rfl⟩ := hsp.form
    have HL2 := hid ((HL1.out.later hb2).later ((Below.refl _ _).alloc (Nat.le_refl _) (.cells #[.slice va o.lst.length vc] 35)))
    have HSP := hid (hsp.below ((Below.refl _ _).alloc (Nat.le_refl _) (.cells #[.slice va o.lst.length vc] 35)))
    have HA := hid ha
    have HM := hid (Row.new (w := w2) (cs := [.slice va o.lst.length vc]) (T := 35) rfl)
    have hL2 := HL1.out.later hb2
    have q0 := hL2.1.c9
    have q1 := hL2.2.1.c4
    have hz1 := hL2.1.lt
    have hz2 := hL2.2.1.lt
    have hws := HL1.out.2.2.1.size
    clear ha hb2 hf1 hf2 hsp hL2 HL1
    by_cases hx : x = 0
    · subst hx
      have hgood := Api.good HA.out
      obtain ⟨hc0, hover, m, hm, hev, hk⟩ := hgood
      subst hk
      have herr := (chk_zero hc0).1
      have hlen := HA.out.len
      have hsl : s.data.toList.length = s.size := by rw [Array.length_toList]; rfl
      have HEV : Hid (EvFind s.data.toList lines t t.groups f (s.size + 1 - f) 20000 o m) := hev
      have HOV := hid hover
      have HER := hid herr
      have HSL := hid hsl
      have hm2 : m ≤ 20000 := hm
      have hsn : (s.size : Int) ≤ 12 := by omega
      clear hc0 hev hover herr hsl
      generalize hoi : o.isFound = fo at *
      have HOI := hid hoi
      clear hoi
      go_wp2_with fail
      go_loopw [9, 10] (fun vs vi wr => ∃ (i ni : Nat), f ≤ i ∧ i ≤ s.size + 1 ∧ ni ≤ 20000 ∧ vs = .int .i64 ((20000 - ni : Nat) : Int) ∧ vi = .int .i64 i ∧ Hid (EvFind s.data.toList lines t t.groups i (s.size + 1 - i) ni o m) ∧ Hid (LB w t [.int .i64 p.op, .int .u64 p.set.a, .int .u64 p.set.b, .int .u64 p.set.c, .int .u64 p.set.d, .int .i64 p.lo, .int .i64 p.hi, .int .i64 p.gr, .slice ad n c] [.string s, .int .i64 f, .bool lines, .int .i64 budget] wr ∧ SpB (w1.heap.size ≤ ·) wr (.slice va o.lst.length vc) o.lst ∧ Row wr w2.heap.size [.slice va o.lst.length vc] 35)) (fun _ vi _ => s.size + 1 - (intOf vi).toNat)
      case atStart => exact ⟨f, 20000, Nat.le_refl _, by omega, Nat.le_refl _, rfl, rfl, HEV.out, HL2.out, HSP.out, HM.out⟩
      case round =>
        obtain ⟨i, ni, hfi, his, hni, rfl, rfl, HE, HX⟩ := hrel
        have r0 := HX.out.1.1.c9
        have r1 := HX.out.1.2.1.c4
        have r2 := HX.out.2.2.cell 0
        clear q0 q1
        by_cases hle : i ≤ s.size
        · have hleI : (i : Int) ≤ (s.size : Int) := by omega
          go_wp2_with fail
          refine (BAt_any wr t _ s i lines 20000 20000 HX.out.1.2.2.2 hsz (by omega) (by decide) (by omega)).mono ?_
          rintro e w3 ⟨o2, k2, x2, v2, ha2, rfl, hb3, hf3, hf4⟩
          have hsp2 := SpB.lst hf3 hf4
          obtain ⟨va2, vc2, rfl⟩ := hsp2.form
          have hal := (Below.refl w3.heap.size w3).alloc (Nat.le_refl _) (.cells #[.slice va2 o2.lst.length vc2] 35)
          have HX3 := hid (⟨(HX.out.1.later hb3).later hal, (HX.out.2.1.below hb3).below hal, (HX.out.2.2.below hb3 HX.out.2.2.lt).alloc (.cells #[.slice va2 o2.lst.length vc2] 35), hsp2.below hal⟩ : LB _ _ _ _ _ ∧ SpB _ _ _ _ ∧ Row _ _ _ _ ∧ SpB _ _ _ _)
          have hX3 := HX.out.1.later hb3
          have hr3 := HX.out.2.2.below hb3 HX.out.2.2.lt
          have q0 := hX3.1.c9
          have q1 := hX3.2.1.c4
          have q2 := hr3.cell 0
          have hy1 := hX3.1.lt
          have hy2 := hX3.2.1.lt
          have hy3 := hr3.lt
          clear hb3 hf3 hf4 hsp2 hal hX3 hr3 r0 r1 r2
          have he0 := HE.out
          rw [show s.size + 1 - i = (s.size - i) + 1 by omega] at he0
          cases he0 with
          | hit h hnf =>
            have hmn := (EvAt.left _ _ _ _ h).1
            obtain ⟨rfl, rfl, rfl⟩ := at_of HER.out hle h HOV.out hni ha2
            have hfo : fo = true := by
              rcases lst_fo HOV.out with ⟨l, e⟩ | e
              · rw [← HOI.out, e]; rfl
              · exact absurd e hnf
            have hoi := HOI.out
            rw [hoi]
            subst hfo
            have hsum : ((20000 - ni : Nat) : Int) + ((ni - m : Nat) : Int) = ((20000 - m : Nat) : Int) := by omega
            clear h hnf ha2 hoi
            go_wp2_with fail
            refine (sameB_any _ _ _ va2 va vc2 vc o2.lst o2.lst HX3.out.2.2.2 HX3.out.2.1 hlen hlen).mono ?_
            rintro e w4 ⟨rfl, hb4⟩
            have HL4 := hid (HX3.out.1.later hb4)
            rw [decide_eq_true rfl]
            clear hb4 q0 q1 q2
            go_wp2_with fail
            refine (awakeB_any _).mono ?_
            rintro e w9 ⟨rfl, hb⟩
            have HB9 := hid (HL4.out.later hb)
            clear hb
            go_wp2_with fail
            go_ret
            exact ⟨rfl, HB9.out.2.2.1⟩
          | @miss _ _ _ m1 _ _ h hr =>
            have hmn := (EvAt.left _ _ _ _ h).1
            have hmn2 := (EvFind.left _ _ _ _ hr).1
            obtain ⟨rfl, rfl, rfl⟩ := at_of HER.out hle h (by intro h; cases h) hni ha2
            have HR := hid hr
            simp only [Out.isFound]
            have hsum : ((20000 - ni : Nat) : Int) + ((ni - m1 : Nat) : Int) = ((20000 - m1 : Nat) : Int) := by omega
            clear h ha2 hr
            go_wp2_with fail
            refine ⟨⟨i + 1, m1, by omega, by omega, by omega, by go_num, by go_num, ?_, HX3.out.1, HX3.out.2.1, HX3.out.2.2.1⟩, ?_⟩
            · show EvFind _ _ _ _ _ _ _ _ _
              rw [show s.size + 1 - (i + 1) = s.size - i by omega]
              exact HR.out
            · simp [intOf]; omega
        · have hleI : ¬ (i : Int) ≤ (s.size : Int) := by omega
          have he0 := HE.out
          rw [show s.size + 1 - i = 0 by omega] at he0
          have hof : o = .fail ∧ m = ni := by cases he0; exact ⟨rfl, rfl⟩
          have hfo : fo = false := by rw [← HOI.out, hof.1]; rfl
          obtain ⟨-, rfl⟩ := hof
          subst hfo
          clear he0
          go_wp2_with fail
          refine (awakeB_any _).mono ?_
          rintro e w9 ⟨rfl, hb⟩
          have HB9 := hid (HX.out.1.later hb)
          clear hb
          go_wp2_with fail
          go_ret
          exact ⟨rfl, HB9.out.2.2.1⟩
    · have hx1 : (x != 0) = true := by simp [hx]
      clear hx
      go_wp2_with fail
      refine (awakeB_any _).mono ?_
      rintro e w9 ⟨rfl, hb⟩
      have HB9 := hid (HL2.out.later hb)
      clear hb
      go_wp2_with fail
      go_ret
      exact ⟨rfl, HB9.out.2.2.1⟩
  · have hcase : b = false ∨ (b = true ∧ at_ < 0) ∨ (b = true ∧ ¬ at_ < 0 ∧ (s.size : Int) < at_) := by
      cases b with
      | false => exact .inl rfl
      | true =>
        by_cases h1 : at_ < 0
        · exact .inr (.inl ⟨rfl, h1⟩)
        · exact .inr (.inr ⟨rfl, h1, by
            rcases Int.lt_or_le (s.size : Int) at_ with h | h
            · exact h
            · exact absurd ⟨rfl, by omega, h⟩ hgo⟩)
    clear hgo HFW
    rcases hcase with rfl | ⟨rfl, h1⟩ | ⟨rfl, h1, h2⟩
    all_goals
      go_wp2_with fail
      refine (awakeB_any w1).mono ?_
      rintro e w2 ⟨rfl, hb⟩
      have HB2 := hid (HL1.out.later hb)
      clear hb
      go_wp2_with fail
      go_ret
      exact ⟨rfl, HB2.out.2.2.1⟩
end Go.Proofs.Ytnnocekencaadaa
