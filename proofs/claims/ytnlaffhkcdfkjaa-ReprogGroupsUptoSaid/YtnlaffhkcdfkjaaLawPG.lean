/- The law ReprogGroups: its walk answers true. -/
import Derived.Test.YtnlaffhkcdfkjaaAwake10
import Derived.Test.YtnlaffhkcdfkjaaBareGo
namespace Go.Proofs.Ytnlaffhkcdfkjaa
open Go.RowKit
attribute [local go_sem] gives givesUpon

-- def BL := [.int .i64 p.op, .int .u64 p.set.a, .int .u64 p.set.b, .int .u64 p.set.c, .int .u64 p.set.d, .int .i64 p.lo, .int .i64 p.hi, .int .i64 p.gr, .slice ad xs.length cap]
-- def PA := [.slice a1 n1 c1, .bool lines]
-- def PB := [.slice a2 n2 c2, .bool lines]
set_option maxRecDepth 100000 in
set_option maxHeartbeats 4000000 in
theorem LawGroups_any (t : Re) (lines : Bool) (w : World) (cs : List Value) (hIn : t.In w cs) (hsz : t.size ≤ 1048576) :
    Calls Try.prog 5 #[.agg cs.toArray, .bool lines] w fun e w' => e = .returned (.bool true) ∧ Below w.heap.size w w' := by
  cases t with
  | mk p xs =>
    have hIn' := hIn
    rw [Re.In] at hIn
    obtain ⟨ad, cap, rfl, _⟩ := hIn
    simp only [Pay.cells]
    have HI := hid hIn'
    have HSZ := hid hsz
    have HR0 : Hid (Row (w.alloc (.cells #[.int .i64 p.op, .int .u64 p.set.a, .int .u64 p.set.b, .int .u64 p.set.c, .int .u64 p.set.d, .int .i64 p.lo, .int .i64 p.hi, .int .i64 p.gr, .slice ad xs.length cap] 28)) w.heap.size [.int .i64 p.op, .int .u64 p.set.a, .int .u64 p.set.b, .int .u64 p.set.c, .int .u64 p.set.d, .int .i64 p.lo, .int .i64 p.hi, .int .i64 p.gr, .slice ad xs.length cap] 28 ∧ Below w.heap.size w (w.alloc (.cells #[.int .i64 p.op, .int .u64 p.set.a, .int .u64 p.set.b, .int .u64 p.set.c, .int .u64 p.set.d, .int .i64 p.lo, .int .i64 p.hi, .int .i64 p.gr, .slice ad xs.length cap] 28))) := ⟨Row.new (cs := [.int .i64 p.op, .int .u64 p.set.a, .int .u64 p.set.b, .int .u64 p.set.c, .int .u64 p.set.d, .int .i64 p.lo, .int .i64 p.hi, .int .i64 p.gr, .slice ad xs.length cap]) rfl, (Below.refl _ w).alloc (Nat.le_refl _) _⟩
    have HMX := hid (Re.compiled_max (.mk p xs))
    have HC1 := hid (Compile_any (.mk p xs) lines _ _ (HI.out.below HR0.out.2) HSZ.out)
    unfold CPost at HC1
    have HP := hid (fun (x : World) (hx : Below w.heap.size w x) => bare_any w (.mk p xs) x _ HI.out hx HSZ.out)
    rcases Decidable.em ((Re.mk p xs).compiled.2 = 0) with h0 | h0
    · have efl : (lines && decide ((Re.mk p xs).compiled.2 = 0)) = lines := by rw [h0]; simp
      have HC2 := hid (fun (x : World) (cs' : List Value) (hx : (Re.mk p xs).bare.In x cs') => Compile_any (Re.mk p xs).bare lines x cs' hx (Nat.le_trans (Re.bare_size _) HSZ.out))
      unfold CPost at HC2
      rw [Re.compiled_bare h0] at HC2
      rw [efl, h0] at HC1 HC2
      generalize (Re.mk p xs).compiled.1 = LL at *
      generalize (Re.mk p xs).bare = tb at *
      clear h0 efl hIn' hsz
      go_enter Try.func5, Try.ntmps5
      go_wp2_with fail
      refine HC1.out.mono ?_
      rintro e w1 ⟨a1, n1, c1, rfl, ho1, hb1⟩
      have HR1 := hid (HR0.out.1.below hb1 HR0.out.1.lt)
      have HB1 : Hid (Below w.heap.size w w1) := HR0.out.2.trans (hb1.mono (by simp))
      have HO1 := hid ho1
      have q1 := HR1.out.c9
      have z1 := HR1.out.lt
      clear hb1 ho1 HR0 HC1
      go_wp2_with fail
      have hal := (Below.refl w1.heap.size w1).alloc (Nat.le_refl _) (.cells #[.slice a1 n1 c1, .bool lines] 31)
      have HRA := hid (Row.new (w := w1) (B := w1.heap.size) (cs := [.slice a1 n1 c1, .bool lines]) (T := 31) rfl)
      have HBa := hid (HB1.out.trans (hal.mono HB1.out.size))
      have HOa := hid (HO1.out.below hal)
      clear hal
      refine (HP.out _ HBa.out).mono ?_
      rintro e w2 ⟨cs2, rfl, hin2, hb2⟩
      have HRA2 := hid (HRA.out.below hb2 HRA.out.lt)
      have HB2 : Hid (Below w.heap.size w w2) := HBa.out.trans (hb2.mono HBa.out.size)
      have HO2 := hid (HOa.out.below hb2)
      have HIN2 := hid hin2.self
      clear hb2 hin2 HRA HOa HO1 q1 z1 HR1
      obtain ⟨q8, ad8, m8, cap8, rfl⟩ := Re.cells_shape HIN2.out
      have HC3 := hid (HC2.out w2 _ HIN2.out)
      clear HC2
      go_wp2_with fail
      refine HC3.out.mono ?_
      rintro e w3 ⟨a2, n2, c2, rfl, ho3, hb3⟩
      have HRA3 := hid (HRA2.out.below hb3 HRA2.out.lt)
      have HB3 : Hid (Below w.heap.size w w3) := HB2.out.trans (hb3.mono HB2.out.size)
      have hal := (Below.refl w3.heap.size w3).alloc (Nat.le_refl _) (.cells #[.slice a2 n2 c2, .bool lines] 31)
      have HOb := hid ((HO2.out.below hb3).below hal)
      have HOc := hid (ho3.below hal)
      have HB4 := hid (HB3.out.trans (hal.mono HB3.out.size))
      have q2 := HRA3.out.c2
      have z2 := HRA3.out.lt
      clear hb3 ho3 hal HRA2 HO2 HC3
      go_wp2_with fail
      refine (SameInsts_any _ _ _ _ _ LL HOb.out HOc.out (by have := HMX.out; omega)).mono ?_
      rintro e w4 ⟨rfl, hb4⟩
      have HB5 : Hid (Below w.heap.size w w4) := HB4.out.trans (hb4.mono HB4.out.size)
      clear hb4
      go_wp2_with fail
      refine (awake_any _).mono ?_
      rintro e w5 ⟨rfl, hb5⟩
      have HB6 : Hid (Below w.heap.size w w5) := HB5.out.trans (hb5.mono HB5.out.size)
      clear hb5
      go_wp2_with fail
      go_ret
      exact ⟨rfl, HB6.out⟩
    · generalize (Re.mk p xs).compiled.2 = er at *
      generalize (Re.mk p xs).compiled.1 = LL at *
      generalize (lines && decide (er = 0)) = fl at *
      have dne : (er != 0) = true := by simpa using h0
      clear h0 HMX HP hIn' hsz
      go_enter Try.func5, Try.ntmps5
      go_wp2_with fail
      refine HC1.out.mono ?_
      rintro e w1 ⟨a1, n1, c1, rfl, ho1, hb1⟩
      have HB1 : Hid (Below w.heap.size w w1) := HR0.out.2.trans (hb1.mono (by simp))
      have HB2 : Hid (Below w.heap.size w (w1.alloc (.cells #[.slice a1 n1 c1, .bool fl] 31))) := HB1.out.alloc HB1.out.size _
      clear hb1 ho1 HC1
      go_wp2_with fail
      refine (awake_any _).mono ?_
      rintro e w5 ⟨rfl, hb5⟩
      have HB5 : Hid (Below w.heap.size w w5) := HB2.out.trans (hb5.mono HB2.out.size)
      clear hb5
      go_wp2_with fail
      go_ret
      exact ⟨rfl, HB5.out⟩
end Go.Proofs.Ytnlaffhkcdfkjaa
