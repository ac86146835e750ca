/- The laws of layer 9: RematchFinds. -/
import Derived.Test.YtkinnfejgpnddaaDoorLaw9PZ
namespace Go.Proofs.YtkinnfejgpnddaaDoor
open Go.RowKit
attribute [local go_sem] gives givesUpon

theorem atR_len {t : Re} {s : ByteArray} {at_ : Int} {lines : Bool} : (atR (parsesR t s at_ lines) at_).1.length ≤ 20 := by
  have h := parsesR_sp (t := t) (s := s) (at_ := at_) (lines := lines)
  unfold atR
  cases hl : (parsesR t s at_ lines).1 with
  | nil => simp
  | cons q l =>
    have := h q (by rw [hl]; simp)
    simp; omega
theorem leftR_len {t : Re} {s : ByteArray} {lines : Bool} : ∀ d i : Nat, (leftR t s lines d i).1.length ≤ 20
  | 0, i => by simp [leftR]
  | d + 1, i => by
    rw [leftR]
    split
    · exact atR_len
    · exact leftR_len d (i + 1)
theorem leftmostR_len {t : Re} {s : ByteArray} {at_ : Int} {lines : Bool} : (leftmostR t s at_ lines).1.length ≤ 20 := by
  unfold leftmostR
  split
  · simp
  · exact leftR_len _ _
set_option maxRecDepth 100000 in
set_option maxHeartbeats 16000000 in
theorem LawFinds9_any (w : World) (t : Re) (cs : List Value) (s : ByteArray) (at_ : Int) (lines : Bool) (hin : t.In w cs) (ht : Tabs9 w) :
    Calls Tryd.prog 4 #[.agg cs.toArray, .agg #[.string s, .int .i64 at_, .bool lines]] w (LawPost w) := by
  obtain ⟨p, ad, m, c, rfl⟩ := Re.cells_shape hin
  have hb2 : Below w.heap.size w ((w.alloc (.cells #[.int .i64 p.op, .int .u64 p.set.a, .int .u64 p.set.b, .int .u64 p.set.c, .int .u64 p.set.d, .int .i64 p.lo, .int .i64 p.hi, .int .i64 p.gr, .slice ad m c] 28)).alloc (.cells #[.string s, .int .i64 at_, .bool lines] 30)) := ((Below.refl _ _).alloc (Nat.le_refl _) _).alloc (by simp) _
  have hL : LawAt w t [.int .i64 p.op, .int .u64 p.set.a, .int .u64 p.set.b, .int .u64 p.set.c, .int .u64 p.set.d, .int .i64 p.lo, .int .i64 p.hi, .int .i64 p.gr, .slice ad m c] [.string s, .int .i64 at_, .bool lines] ((w.alloc (.cells #[.int .i64 p.op, .int .u64 p.set.a, .int .u64 p.set.b, .int .u64 p.set.c, .int .u64 p.set.d, .int .i64 p.lo, .int .i64 p.hi, .int .i64 p.gr, .slice ad m c] 28)).alloc (.cells #[.string s, .int .i64 at_, .bool lines] 30)) := ⟨(Row.new rfl).alloc _, Row.new (by simp), hb2, hin.below hb2, ht.on hb2⟩
  have HL := hid hL
  have HFEW := hid (few9_any ((w.alloc (.cells #[.int .i64 p.op, .int .u64 p.set.a, .int .u64 p.set.b, .int .u64 p.set.c, .int .u64 p.set.d, .int .i64 p.lo, .int .i64 p.hi, .int .i64 p.gr, .slice ad m c] 28)).alloc (.cells #[.string s, .int .i64 at_, .bool lines] 30)) t [.int .i64 p.op, .int .u64 p.set.a, .int .u64 p.set.b, .int .u64 p.set.c, .int .u64 p.set.d, .int .i64 p.lo, .int .i64 p.hi, .int .i64 p.gr, .slice ad m c] s hL.2.2.2.1)
  have q0 := hL.1.c9
  have q1 := hL.2.1.three9
  clear hb2 hL hin ht
  go_enter Tryd.func4, Tryd.ntmps4
  go_wp2_with fail
  refine HFEW.out.mono ?_
  rintro e w1 ⟨b, rfl, hbt, hb⟩
  have HL1 := hid (HL.out.later hb)
  have HBT := hid hbt
  clear hb hbt q0 q1 HL HFEW
  have q0 := HL1.out.1.c9
  have q1 := HL1.out.2.1.three9
  cases b with
  | false =>
    have HAW := hid (awake9_any w1 HL1.out.2.2.2.2)
    go_wp2_with fail
    refine HAW.out.mono ?_
    rintro e w2 ⟨rfl, hb⟩
    have HB := hid (HL1.out.2.2.1.trans (hb.mono HL1.out.2.2.1.size))
    clear hb q0 q1
    go_wp2_with fail
    go_ret
    exact ⟨rfl, HB.out⟩
  | true =>
    have hsz := (HBT.out (by simp)).1
    have hs := (HBT.out (by simp)).2
    obtain ⟨⟨sp, okr, xr⟩, hr⟩ : ∃ r, r = atR (parsesR t s at_ lines) at_ := ⟨_, rfl⟩
    obtain ⟨⟨sp2, ok2, x2⟩, hr2⟩ : ∃ r, r = leftmostR t s at_ lines := ⟨_, rfl⟩
    have hln := atR_len (t := t) (s := s) (at_ := at_) (lines := lines)
    have hln2 := leftmostR_len (t := t) (s := s) (at_ := at_) (lines := lines)
    rw [← hr] at hln
    rw [← hr2] at hln2
    have HLN := hid (⟨hln, hln2⟩ : _ ∧ _)
    have HRR := hid hr
    have HRR2 := hid hr2
    have hp1 := PAt9_any w1 t [.int .i64 p.op, .int .u64 p.set.a, .int .u64 p.set.b, .int .u64 p.set.c, .int .u64 p.set.d, .int .i64 p.lo, .int .i64 p.hi, .int .i64 p.gr, .slice ad m c] s at_ lines HL1.out.2.2.2.1 (by omega) (by omega) HL1.out.2.2.2.2
    rw [← hr] at hp1
    have HP1 := hid hp1
    clear hp1 hr hr2 hln hln2
    go_wp2_with fail
    refine HP1.out.mono ?_
    rintro e w2 ⟨a2, c2, rfl, hb, hs2⟩
    dsimp only at hs2 ⊢
    have hal2 : Below w2.heap.size w2 (w2.alloc (.cells #[.slice a2 sp.length c2] 41)) := (Below.refl _ _).alloc (Nat.le_refl _) _
    have HM2 := hid (⟨(HL1.out.later hb).later hal2, Row.new (w := w2) (cs := [.slice a2 sp.length c2]) (T := 41) rfl, hs2.below hal2⟩ : LawAt w t [.int .i64 p.op, .int .u64 p.set.a, .int .u64 p.set.b, .int .u64 p.set.c, .int .u64 p.set.d, .int .i64 p.lo, .int .i64 p.hi, .int .i64 p.gr, .slice ad m c] [.string s, .int .i64 at_, .bool lines] (w2.alloc (.cells #[.slice a2 sp.length c2] 41)) ∧ Row _ w2.heap.size _ _ ∧ SpQ _ _ _)
    clear hb hs2 q0 q1 HP1 hal2
    have q0 := HM2.out.1.1.c9
    have q1 := HM2.out.1.2.1.three9
    have hp2 := RAt9_any (w2.alloc (.cells #[.slice a2 sp.length c2] 41)) t [.int .i64 p.op, .int .u64 p.set.a, .int .u64 p.set.b, .int .u64 p.set.c, .int .u64 p.set.d, .int .i64 p.lo, .int .i64 p.hi, .int .i64 p.gr, .slice ad m c] s at_ lines HM2.out.1.2.2.2.1 (by omega) (by omega)
    rw [← HRR.out] at hp2
    have HP2 := hid hp2
    clear hp2
    go_wp2_with fail
    refine HP2.out.mono ?_
    rintro e w3 ⟨a3, c3, rfl, hb, hs3⟩
    dsimp only at hs3 ⊢
    have hal3 : Below w3.heap.size w3 (w3.alloc (.cells #[.slice a3 sp.length c3] 41)) := (Below.refl _ _).alloc (Nat.le_refl _) _
    have HM3 := hid (⟨(HM2.out.1.later hb).later hal3, (HM2.out.2.1.below hb HM2.out.2.1.lt).below hal3 (HM2.out.2.1.below hb HM2.out.2.1.lt).lt, (HM2.out.2.2.below hb).below hal3, Row.new (w := w3) (cs := [.slice a3 sp.length c3]) (T := 41) rfl, hs3.below hal3⟩ : LawAt w t [.int .i64 p.op, .int .u64 p.set.a, .int .u64 p.set.b, .int .u64 p.set.c, .int .u64 p.set.d, .int .i64 p.lo, .int .i64 p.hi, .int .i64 p.gr, .slice ad m c] [.string s, .int .i64 at_, .bool lines] (w3.alloc (.cells #[.slice a3 sp.length c3] 41)) ∧ Row _ w2.heap.size _ _ ∧ SpQ _ _ _ ∧ Row _ w3.heap.size _ _ ∧ SpQ _ _ _)
    clear hb hs3 q0 q1 HP2 hal3 HM2
    have q0 := HM3.out.1.1.c9
    have q1 := HM3.out.1.2.1.three9
    have hp3 := PLeft_any (w3.alloc (.cells #[.slice a3 sp.length c3] 41)) t [.int .i64 p.op, .int .u64 p.set.a, .int .u64 p.set.b, .int .u64 p.set.c, .int .u64 p.set.d, .int .i64 p.lo, .int .i64 p.hi, .int .i64 p.gr, .slice ad m c] s at_ lines HM3.out.1.2.2.2.1 (by omega) (by omega) HM3.out.1.2.2.2.2
    rw [← HRR2.out] at hp3
    have HP3 := hid hp3
    clear hp3
    go_wp2_with fail
    refine HP3.out.mono ?_
    rintro e w4 ⟨a4, c4, rfl, hb, hs4⟩
    dsimp only at hs4 ⊢
    have hal4 : Below w4.heap.size w4 (w4.alloc (.cells #[.slice a4 sp2.length c4] 41)) := (Below.refl _ _).alloc (Nat.le_refl _) _
    have k1 := (HM3.out.2.1.below hb HM3.out.2.1.lt)
    have k2 := (HM3.out.2.2.2.1.below hb HM3.out.2.2.2.1.lt)
    have HM4 := hid (⟨(HM3.out.1.later hb).later hal4, k1.below hal4 k1.lt, (HM3.out.2.2.1.below hb).below hal4, k2.below hal4 k2.lt, (HM3.out.2.2.2.2.below hb).below hal4, Row.new (w := w4) (cs := [.slice a4 sp2.length c4]) (T := 41) rfl, hs4.below hal4⟩ : LawAt w t [.int .i64 p.op, .int .u64 p.set.a, .int .u64 p.set.b, .int .u64 p.set.c, .int .u64 p.set.d, .int .i64 p.lo, .int .i64 p.hi, .int .i64 p.gr, .slice ad m c] [.string s, .int .i64 at_, .bool lines] (w4.alloc (.cells #[.slice a4 sp2.length c4] 41)) ∧ Row _ w2.heap.size _ _ ∧ SpQ _ _ _ ∧ Row _ w3.heap.size _ _ ∧ SpQ _ _ _ ∧ Row _ w4.heap.size _ _ ∧ SpQ _ _ _)
    clear hb hs4 q0 q1 HP3 hal4 HM3 k1 k2
    have q0 := HM4.out.1.1.c9
    have q1 := HM4.out.1.2.1.three9
    have hp4 := RLeft_any (w4.alloc (.cells #[.slice a4 sp2.length c4] 41)) t [.int .i64 p.op, .int .u64 p.set.a, .int .u64 p.set.b, .int .u64 p.set.c, .int .u64 p.set.d, .int .i64 p.lo, .int .i64 p.hi, .int .i64 p.gr, .slice ad m c] s at_ lines HM4.out.1.2.2.2.1 (by omega) (by omega)
    rw [← HRR2.out] at hp4
    have HP4 := hid hp4
    clear hp4
    go_wp2_with fail
    refine HP4.out.mono ?_
    rintro e w5 ⟨a5, c5, rfl, hb, hs5⟩
    dsimp only at hs5 ⊢
    have hal5 : Below w5.heap.size w5 (w5.alloc (.cells #[.slice a5 sp2.length c5] 41)) := (Below.refl _ _).alloc (Nat.le_refl _) _
    have k1 := (HM4.out.2.1.below hb HM4.out.2.1.lt)
    have k2 := (HM4.out.2.2.2.1.below hb HM4.out.2.2.2.1.lt)
    have k3 := (HM4.out.2.2.2.2.2.1.below hb HM4.out.2.2.2.2.2.1.lt)
    have HL5 := hid ((HM4.out.1.later hb).later hal5)
    have r1 := (k1.below hal5 k1.lt).cell 0
    have r2 := (k2.below hal5 k2.lt).cell 0
    have r3 := (k3.below hal5 k3.lt).cell 0
    have r4 := (Row.new (w := w5) (cs := [.slice a5 sp2.length c5]) (T := 41) rfl).cell 0
    have HSM1 := hid (SameMatch9_any (w5.alloc (.cells #[.slice a5 sp2.length c5] 41)) a2 a3 c2 c3 sp sp ((HM4.out.2.2.1.below hb).below hal5) ((HM4.out.2.2.2.2.1.below hb).below hal5) HLN.out.1 HLN.out.1)
    have HK := hid (⟨k1.below hal5 k1.lt, k2.below hal5 k2.lt, k3.below hal5 k3.lt, Row.new (w := w5) (cs := [.slice a5 sp2.length c5]) (T := 41) rfl, (HM4.out.2.2.2.2.2.2.below hb).below hal5, hs5.below hal5⟩ : Row _ _ _ _ ∧ Row _ _ _ _ ∧ Row _ _ _ _ ∧ Row _ _ _ _ ∧ SpQ _ _ _ ∧ SpQ _ _ _)
    clear hb hs5 q0 q1 HP4 hal5 HM4 k1 k2 k3
    go_wp2_with fail
    refine HSM1.out.mono ?_
    rintro e w6 ⟨rfl, hb⟩
    have HL6 := hid (HL5.out.later hb)
    have g3 := (HK.out.2.2.1.below hb HK.out.2.2.1.lt).cell 0
    have g4 := (HK.out.2.2.2.1.below hb HK.out.2.2.2.1.lt).cell 0
    have HSM2 := hid (SameMatch9_any w6 a4 a5 c4 c5 sp2 sp2 (HK.out.2.2.2.2.1.below hb) (HK.out.2.2.2.2.2.below hb) HLN.out.2 HLN.out.2)
    clear hb r1 r2 r3 r4
    simp only [decide_true]
    go_wp2_with fail
    refine HSM2.out.mono ?_
    rintro e w7 ⟨rfl, hb⟩
    have HL7 := hid (HL6.out.later hb)
    have HAW := hid (awake9_any w7 HL7.out.2.2.2.2)
    clear hb
    simp only [decide_true]
    go_wp2_with fail
    refine HAW.out.mono ?_
    rintro e w8 ⟨rfl, hb⟩
    have HB := hid (HL7.out.2.2.1.trans (hb.mono HL7.out.2.2.1.size))
    clear hb
    go_wp2_with fail
    go_ret
    exact ⟨rfl, HB.out⟩
end Go.Proofs.YtkinnfejgpnddaaDoor
