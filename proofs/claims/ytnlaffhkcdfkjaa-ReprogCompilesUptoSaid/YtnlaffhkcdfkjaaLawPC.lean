/- The law ReprogCompiles: its walk answers true. -/
import Derived.Test.YtnlaffhkcdfkjaaAwake10
import Derived.Test.YtnlaffhkcdfkjaaMakes
namespace Go.Proofs.Ytnlaffhkcdfkjaa
open Go.RowKit
attribute [local go_sem] gives givesUpon

-- def BL := [.int .i64 p.op, .int .u64 p.set.a, .int .u64 p.set.b, .int .u64 p.set.c, .int .u64 p.set.d, .int .i64 p.lo, .int .i64 p.hi, .int .i64 p.gr, .slice ad xs.length cap]
-- def PA := [.slice a1 n1 c1, .bool fl]
-- def PB := [.slice a2 n2 c2, .bool fl]
set_option maxRecDepth 100000 in
set_option maxHeartbeats 4000000 in
theorem LawCompiles_any (t : Re) (lines : Bool) (w : World) (cs : List Value) (hIn : t.In w cs) (hsz : t.size ≤ 1048576) :
    Calls Try.prog 3 #[.agg cs.toArray, .bool lines] w fun e w' => e = .returned (.bool true) ∧ Below w.heap.size w w' := by
  cases t with
  | mk p xs =>
    have hIn' := hIn
    rw [Re.In] at hIn
    obtain ⟨ad, cap, rfl, _⟩ := hIn
    simp only [Pay.cells]
    have HI := hid hIn'
    have HSZ := hid hsz
    have HR0 : Hid (Row (w.alloc (.cells #[.int .i64 p.op, .int .u64 p.set.a, .int .u64 p.set.b, .int .u64 p.set.c, .int .u64 p.set.d, .int .i64 p.lo, .int .i64 p.hi, .int .i64 p.gr, .slice ad xs.length cap] 28)) w.heap.size [.int .i64 p.op, .int .u64 p.set.a, .int .u64 p.set.b, .int .u64 p.set.c, .int .u64 p.set.d, .int .i64 p.lo, .int .i64 p.hi, .int .i64 p.gr, .slice ad xs.length cap] 28 ∧ Below w.heap.size w (w.alloc (.cells #[.int .i64 p.op, .int .u64 p.set.a, .int .u64 p.set.b, .int .u64 p.set.c, .int .u64 p.set.d, .int .i64 p.lo, .int .i64 p.hi, .int .i64 p.gr, .slice ad xs.length cap] 28))) := ⟨Row.new (cs := [.int .i64 p.op, .int .u64 p.set.a, .int .u64 p.set.b, .int .u64 p.set.c, .int .u64 p.set.d, .int .i64 p.lo, .int .i64 p.hi, .int .i64 p.gr, .slice ad xs.length cap]) rfl, (Below.refl _ w).alloc (Nat.le_refl _) _⟩
    have HMX := hid (Re.compiled_max (.mk p xs))
    have HC1 := hid (Compile_any (.mk p xs) lines _ _ (HI.out.below HR0.out.2) HSZ.out)
    have HC2 := hid (fun (x : World) (hx : Below w.heap.size w x) => CompileRef_any (.mk p xs) lines x _ (HI.out.below hx) HSZ.out)
    unfold CPost at HC1 HC2
    clear hIn' hsz
    generalize (lines && decide ((Re.mk p xs).compiled.2 = 0)) = fl at *
    generalize (Re.mk p xs).compiled.2 = er at *
    generalize (Re.mk p xs).compiled.1 = LL at *
    go_enter Try.func3, Try.ntmps3
    go_wp2_with fail
    refine HC1.out.mono ?_
    rintro e w1 ⟨a1, n1, c1, rfl, ho1, hb1⟩
    have HR1 := hid (HR0.out.1.below hb1 HR0.out.1.lt)
    have HB1 : Hid (Below w.heap.size w w1) := HR0.out.2.trans (hb1.mono (by simp))
    have HO1 := hid ho1
    have q1 := HR1.out.c9
    have z1 := HR1.out.lt
    clear hb1 ho1 HR0 HC1
    go_wp2_with fail
    have hal := (Below.refl w1.heap.size w1).alloc (Nat.le_refl _) (.cells #[.slice a1 n1 c1, .bool fl] 31)
    have HRA := hid (Row.new (w := w1) (B := w1.heap.size) (cs := [.slice a1 n1 c1, .bool fl]) (T := 31) rfl)
    have HBa := hid (HB1.out.trans (hal.mono HB1.out.size))
    have HOa := hid (HO1.out.below hal)
    clear hal
    refine (HC2.out _ HBa.out).mono ?_
    rintro e w2 ⟨a2, n2, c2, rfl, ho2, hb2⟩
    have HRA2 := hid (HRA.out.below hb2 HRA.out.lt)
    have HB2 : Hid (Below w.heap.size w w2) := HBa.out.trans (hb2.mono HBa.out.size)
    have hal := (Below.refl w2.heap.size w2).alloc (Nat.le_refl _) (.cells #[.slice a2 n2 c2, .bool fl] 31)
    have HOb := hid ((HOa.out.below hb2).below hal)
    have HO2 := hid (ho2.below hal)
    have HRA3 := hid (HRA2.out.below hal HRA2.out.lt)
    have HRB3 := hid (Row.new (w := w2) (B := w2.heap.size) (cs := [.slice a2 n2 c2, .bool fl]) (T := 31) rfl)
    have HB3 := hid (HB2.out.trans (hal.mono HB2.out.size))
    have q2 := HRA2.out.c2
    have z2 := HRA2.out.lt
    clear hb2 ho2 hal HRA HRA2 q1 z1 HOa HO1 HR1
    go_wp2_with fail
    refine (SameInsts_any _ _ _ _ _ LL HOb.out HO2.out (by have := HMX.out; omega)).mono ?_
    rintro e w3 ⟨rfl, hb3⟩
    have HRA4 := hid (HRA3.out.below hb3 HRA3.out.lt)
    have HRB4 := hid (HRB3.out.below hb3 HRB3.out.lt)
    have HB4 : Hid (Below w.heap.size w w3) := HB3.out.trans (hb3.mono HB3.out.size)
    have q3 := HRA4.out.c2
    have q4 := HRB4.out.c2
    have z3 := HRA4.out.lt
    have z4 := HRB4.out.lt
    clear hb3 q2 z2 HRA3 HRB3 HOb HO2
    go_wp2_with fail
    refine (awake_any _).mono ?_
    rintro e w4 ⟨rfl, hb4⟩
    have HB5 : Hid (Below w.heap.size w w4) := HB4.out.trans (hb4.mono HB4.out.size)
    clear hb4
    go_wp2_with fail
    go_ret
    exact ⟨rfl, HB5.out⟩
end Go.Proofs.Ytnlaffhkcdfkjaa
