/- Reback's laws RebackAt and RebackSearches: the program's search comes to what the reference's comes to. -/
import Derived.Test.YtnnocekencaadaaG36
import Derived.Test.YtnnocekencaadaaG39
namespace Go.Proofs.Ytnnocekencaadaa
open Go.RowKit
attribute [local go_sem] gives givesUpon

-- def BX := [.int .i64 p.op, .int .u64 p.set.a, .int .u64 p.set.b, .int .u64 p.set.c, .int .u64 p.set.d, .int .i64 p.lo, .int .i64 p.hi, .int .i64 p.gr, .slice ad n c]
-- def CX := [.string s, .int .i64 at_, .bool lines, .int .i64 budget]
-- def W2 := ((w.alloc (.cells #[.int .i64 p.op, .int .u64 p.set.a, .int .u64 p.set.b, .int .u64 p.set.c, .int .u64 p.set.d, .int .i64 p.lo, .int .i64 p.hi, .int .i64 p.gr, .slice ad n c] 28)).alloc (.cells #[.string s, .int .i64 at_, .bool lines, .int .i64 budget] 30))
-- def KAt := At
-- def KSearches := Search
set_option maxRecDepth 100000 in
set_option maxHeartbeats 16000000 in
theorem LawAt_any (w : World) (t : Re) (cs : List Value) (s : ByteArray) (at_ budget : Int) (lines : Bool) (hin : t.In w cs) (hsz : t.size ≤ 1048576) (hs : (s.size : Int) ≤ 9223372036854775807) :
    Calls Try.prog 3 #[.agg cs.toArray, .agg #[.string s, .int .i64 at_, .bool lines, .int .i64 budget]] w fun e w' => e = .returned (.bool true) ∧ Below w.heap.size w w' := by
  obtain ⟨p, ad, n, c, rfl⟩ := Re.cells_shape hin
  have hBl : Below w.heap.size w ((w.alloc (.cells #[.int .i64 p.op, .int .u64 p.set.a, .int .u64 p.set.b, .int .u64 p.set.c, .int .u64 p.set.d, .int .i64 p.lo, .int .i64 p.hi, .int .i64 p.gr, .slice ad n c] 28)).alloc (.cells #[.string s, .int .i64 at_, .bool lines, .int .i64 budget] 30)) := ((Below.refl w.heap.size w).alloc (Nat.le_refl _) _).alloc (by simp) _
  have hL : LB w t [.int .i64 p.op, .int .u64 p.set.a, .int .u64 p.set.b, .int .u64 p.set.c, .int .u64 p.set.d, .int .i64 p.lo, .int .i64 p.hi, .int .i64 p.gr, .slice ad n c] [.string s, .int .i64 at_, .bool lines, .int .i64 budget] ((w.alloc (.cells #[.int .i64 p.op, .int .u64 p.set.a, .int .u64 p.set.b, .int .u64 p.set.c, .int .u64 p.set.d, .int .i64 p.lo, .int .i64 p.hi, .int .i64 p.gr, .slice ad n c] 28)).alloc (.cells #[.string s, .int .i64 at_, .bool lines, .int .i64 budget] 30)) := ⟨(Row.new rfl).alloc _, Row.new (by simp), hBl, hin.below hBl⟩
  have HL := hid hL
  have HFE := hid (few_any ((w.alloc (.cells #[.int .i64 p.op, .int .u64 p.set.a, .int .u64 p.set.b, .int .u64 p.set.c, .int .u64 p.set.d, .int .i64 p.lo, .int .i64 p.hi, .int .i64 p.gr, .slice ad n c] 28)).alloc (.cells #[.string s, .int .i64 at_, .bool lines, .int .i64 budget] 30)) t _ s at_ budget lines hL.2.2.2 hs)
  have q0 := hL.1.c9
  have q1 := hL.2.1.c4
  clear hin hs hBl hL
  go_enter Try.func3, Try.ntmps3
  go_wp2_with fail
  refine HFE.out.mono ?_
  rintro e w1 ⟨b, rfl, hfw, hb1⟩
  have HL1 := hid (HL.out.later hb1)
  have HFW := hid hfw
  clear hb1 HFE q0 q1 HL hfw
  have q0 := HL1.out.1.c9
  have q1 := HL1.out.2.1.c4
  cases b with
  | false =>
    clear HFW
    go_wp2_with fail
    refine (awakeB_any w1).mono ?_
    rintro e w2 ⟨rfl, hb⟩
    have HB2 := hid (HL1.out.later hb)
    clear hb
    go_wp2_with fail
    go_ret
    exact ⟨rfl, HB2.out.2.2.1⟩
  | true =>
    obtain ⟨hs12, hb20⟩ := HFW.out rfl
    obtain ⟨B, hB⟩ : ∃ B : Nat, max budget 0 = (B : Int) := ⟨(max budget 0).toNat, by omega⟩
    have hB' : max 0 budget = (B : Int) := by omega
    have HBB := hid (⟨hB, hB'⟩ : _ ∧ _)
    have hB20 : B ≤ 20000 := by omega
    clear HFW hB hB'
    go_wp2_with fail
    refine (BAt_any w1 t _ s at_ lines budget B HL1.out.2.2.2 hsz (by omega) HBB.out.1 hB20).mono ?_
    rintro e w2 ⟨o, k, x, v, ha, rfl, hb2, hf1, hf2⟩
    have hsp := SpB.lst hf1 hf2
    obtain ⟨va, vc, rfl⟩ := hsp.form
    have hal := (Below.refl w2.heap.size w2).alloc (Nat.le_refl _) (.cells #[.slice va o.lst.length vc] 35)
    have HL2 := hid ((HL1.out.later hb2).later hal)
    have HSP := hid (hsp.below hal)
    have HA := hid ha
    have HM := hid (Row.new (w := w2) (cs := [.slice va o.lst.length vc]) (T := 35) rfl)
    have hL2 := HL1.out.later hb2
    clear q0 q1
    have q0 := hL2.1.c9
    have q1 := hL2.2.1.c4
    have hz1 := hL2.1.lt
    have hz2 := hL2.2.1.lt
    clear ha hb2 hf1 hf2 hsp hL2 HL1 hal
    go_wp2_with fail
    refine (RBAt_any _ t _ s at_ lines budget B HL2.out.2.2.2 hsz (by omega) HBB.out.2 hB20).mono ?_
    rintro e w3 ⟨o2, k2, x2, v2, ha2, rfl, hb3, hf3, hf4⟩
    obtain ⟨rfl, rfl, rfl⟩ := Api.det HA.out ha2
    have hlen := HA.out.len
    have hsp2 := SpB.lst hf3 hf4
    obtain ⟨va2, vc2, rfl⟩ := hsp2.form
    have hal := (Below.refl w3.heap.size w3).alloc (Nat.le_refl _) (.cells #[.slice va2 o.lst.length vc2] 35)
    have HL3 := hid ((HL2.out.later hb3).later hal)
    have HS3 := hid (⟨(HSP.out.below hb3).below hal, hsp2.below hal⟩ : SpB _ _ _ _ ∧ SpB _ _ _ _)
    have hM3 := HM.out.below hb3 HM.out.lt
    have HM3 := hid ((hM3.alloc (.cells #[.slice va2 o.lst.length vc2] 35)))
    have q2 := hM3.cell 0
    have hz3 := hM3.lt
    have hL3 := HL2.out.later hb3
    clear q0 q1
    have hy1 := hL3.1.lt
    have hy2 := hL3.2.1.lt
    clear ha2 hb3 hf3 hf4 hsp2 hal hM3 hL3 HL2 HSP HM
    generalize hoi : o.isFound = fo at *
    have HOI := hid hoi
    clear hoi
    go_wp2_with fail
    refine (sameB_any _ _ _ va va2 vc vc2 o.lst o.lst HS3.out.1 HS3.out.2 hlen hlen).mono ?_
    rintro e w4 ⟨rfl, hb4⟩
    have HL4 := hid (HL3.out.later hb4)
    rw [decide_eq_true rfl]
    clear hb4 HS3 HM3 q2
    have hfo : (fo == fo) = true := by simp
    go_wp2_with fail
    refine (awakeB_any _).mono ?_
    rintro e w9 ⟨rfl, hb⟩
    have HB9 := hid (HL4.out.later hb)
    clear hb
    go_wp2_with fail
    go_ret
    first | exact ⟨rfl, HB9.out.2.2.1⟩ | exact ⟨ret_bool (by simp), HB9.out.2.2.1⟩
set_option maxRecDepth 100000 in
set_option maxHeartbeats 16000000 in
theorem LawSearches_any (w : World) (t : Re) (cs : List Value) (s : ByteArray) (at_ budget : Int) (lines : Bool) (hin : t.In w cs) (hsz : t.size ≤ 1048576) (hs : (s.size : Int) ≤ 9223372036854775807) :
    Calls Try.prog 4 #[.agg cs.toArray, .agg #[.string s, .int .i64 at_, .bool lines, .int .i64 budget]] w fun e w' => e = .returned (.bool true) ∧ Below w.heap.size w w' := by
  obtain ⟨p, ad, n, c, rfl⟩ := Re.cells_shape hin
  have hBl : Below w.heap.size w ((w.alloc (.cells #[.int .i64 p.op, .int .u64 p.set.a, .int .u64 p.set.b, .int .u64 p.set.c, .int .u64 p.set.d, .int .i64 p.lo, .int .i64 p.hi, .int .i64 p.gr, .slice ad n c] 28)).alloc (.cells #[.string s, .int .i64 at_, .bool lines, .int .i64 budget] 30)) := ((Below.refl w.heap.size w).alloc (Nat.le_refl _) _).alloc (by simp) _
  have hL : LB w t [.int .i64 p.op, .int .u64 p.set.a, .int .u64 p.set.b, .int .u64 p.set.c, .int .u64 p.set.d, .int .i64 p.lo, .int .i64 p.hi, .int .i64 p.gr, .slice ad n c] [.string s, .int .i64 at_, .bool lines, .int .i64 budget] ((w.alloc (.cells #[.int .i64 p.op, .int .u64 p.set.a, .int .u64 p.set.b, .int .u64 p.set.c, .int .u64 p.set.d, .int .i64 p.lo, .int .i64 p.hi, .int .i64 p.gr, .slice ad n c] 28)).alloc (.cells #[.string s, .int .i64 at_, .bool lines, .int .i64 budget] 30)) := ⟨(Row.new rfl).alloc _, Row.new (by simp), hBl, hin.below hBl⟩
  have HL := hid hL
  have HFE := hid (few_any ((w.alloc (.cells #[.int .i64 p.op, .int .u64 p.set.a, .int .u64 p.set.b, .int .u64 p.set.c, .int .u64 p.set.d, .int .i64 p.lo, .int .i64 p.hi, .int .i64 p.gr, .slice ad n c] 28)).alloc (.cells #[.string s, .int .i64 at_, .bool lines, .int .i64 budget] 30)) t _ s at_ budget lines hL.2.2.2 hs)
  have q0 := hL.1.c9
  have q1 := hL.2.1.c4
  clear hin hs hBl hL
  go_enter Try.func4, Try.ntmps4
  go_wp2_with fail
  refine HFE.out.mono ?_
  rintro e w1 ⟨b, rfl, hfw, hb1⟩
  have HL1 := hid (HL.out.later hb1)
  have HFW := hid hfw
  clear hb1 HFE q0 q1 HL hfw
  have q0 := HL1.out.1.c9
  have q1 := HL1.out.2.1.c4
  cases b with
  | false =>
    clear HFW
    go_wp2_with fail
    refine (awakeB_any w1).mono ?_
    rintro e w2 ⟨rfl, hb⟩
    have HB2 := hid (HL1.out.later hb)
    clear hb
    go_wp2_with fail
    go_ret
    exact ⟨rfl, HB2.out.2.2.1⟩
  | true =>
    obtain ⟨hs12, hb20⟩ := HFW.out rfl
    obtain ⟨B, hB⟩ : ∃ B : Nat, max budget 0 = (B : Int) := ⟨(max budget 0).toNat, by omega⟩
    have hB' : max 0 budget = (B : Int) := by omega
    have HBB := hid (⟨hB, hB'⟩ : _ ∧ _)
    have hB20 : B ≤ 20000 := by omega
    clear HFW hB hB'
    go_wp2_with fail
    refine (BSearch_any w1 t _ s at_ lines budget B HL1.out.2.2.2 hsz (by omega) HBB.out.1 hB20).mono ?_
    rintro e w2 ⟨o, k, x, v, ha, rfl, hb2, hf1, hf2⟩
    have hsp := SpB.lst hf1 hf2
    obtain ⟨va, vc, rfl⟩ := hsp.form
    have hal := (Below.refl w2.heap.size w2).alloc (Nat.le_refl _) (.cells #[.slice va o.lst.length vc] 35)
    have HL2 := hid ((HL1.out.later hb2).later hal)
    have HSP := hid (hsp.below hal)
    have HA := hid ha
    have HM := hid (Row.new (w := w2) (cs := [.slice va o.lst.length vc]) (T := 35) rfl)
    have hL2 := HL1.out.later hb2
    clear q0 q1
    have q0 := hL2.1.c9
    have q1 := hL2.2.1.c4
    have hz1 := hL2.1.lt
    have hz2 := hL2.2.1.lt
    clear ha hb2 hf1 hf2 hsp hL2 HL1 hal
    go_wp2_with fail
    refine (RBSearch_any _ t _ s at_ lines budget B HL2.out.2.2.2 hsz (by omega) HBB.out.2 hB20).mono ?_
    rintro e w3 ⟨o2, k2, x2, v2, ha2, rfl, hb3, hf3, hf4⟩
    obtain ⟨rfl, rfl, rfl⟩ := Api.det HA.out ha2
    have hlen := HA.out.len
    have hsp2 := SpB.lst hf3 hf4
    obtain ⟨va2, vc2, rfl⟩ := hsp2.form
    have hal := (Below.refl w3.heap.size w3).alloc (Nat.le_refl _) (.cells #[.slice va2 o.lst.length vc2] 35)
    have HL3 := hid ((HL2.out.later hb3).later hal)
    have HS3 := hid (⟨(HSP.out.below hb3).below hal, hsp2.below hal⟩ : SpB _ _ _ _ ∧ SpB _ _ _ _)
    have hM3 := HM.out.below hb3 HM.out.lt
    have HM3 := hid ((hM3.alloc (.cells #[.slice va2 o.lst.length vc2] 35)))
    have q2 := hM3.cell 0
    have hz3 := hM3.lt
    have hL3 := HL2.out.later hb3
    clear q0 q1
    have hy1 := hL3.1.lt
    have hy2 := hL3.2.1.lt
    clear ha2 hb3 hf3 hf4 hsp2 hal hM3 hL3 HL2 HSP HM
    generalize hoi : o.isFound = fo at *
    have HOI := hid hoi
    clear hoi
    go_wp2_with fail
    refine (sameB_any _ _ _ va va2 vc vc2 o.lst o.lst HS3.out.1 HS3.out.2 hlen hlen).mono ?_
    rintro e w4 ⟨rfl, hb4⟩
    have HL4 := hid (HL3.out.later hb4)
    rw [decide_eq_true rfl]
    clear hb4 HS3 HM3 q2
    have hfo : (fo == fo) = true := by simp
    go_wp2_with fail
    refine (awakeB_any _).mono ?_
    rintro e w9 ⟨rfl, hb⟩
    have HB9 := hid (HL4.out.later hb)
    clear hb
    go_wp2_with fail
    go_ret
    first | exact ⟨rfl, HB9.out.2.2.1⟩ | exact ⟨ret_bool (by simp), HB9.out.2.2.1⟩
end Go.Proofs.Ytnnocekencaadaa
