/- The law RetreeExpands: its walk answers true. -/
import Derived.Test.YtibfnmkeghkdpaaExpRef
namespace Go.Proofs.Ytibfnmkeghkdpaa
open Go.RowKit
attribute [local go_sem] gives givesUpon

-- def BL := [.int .i64 p.op, .int .u64 p.set.a, .int .u64 p.set.b, .int .u64 p.set.c, .int .u64 p.set.d, .int .i64 p.lo, .int .i64 p.hi, .int .i64 p.gr, .slice ad xs.length cap]
-- def PA := [.int .i64 pa.op, .int .u64 pa.set.a, .int .u64 pa.set.b, .int .u64 pa.set.c, .int .u64 pa.set.d, .int .i64 pa.lo, .int .i64 pa.hi, .int .i64 pa.gr, .slice aa ma ka]
-- def PB := [.int .i64 pb.op, .int .u64 pb.set.a, .int .u64 pb.set.b, .int .u64 pb.set.c, .int .u64 pb.set.d, .int .i64 pb.lo, .int .i64 pb.hi, .int .i64 pb.gr, .slice ab mb kb]
set_option maxRecDepth 100000 in
set_option maxHeartbeats 4000000 in
theorem LawExpands_any (t : Re) (w : World) (cs : List Value) (hIn : t.In w cs) (hsz : t.size ≤ 1048576) :
    Calls Try.prog 6 #[.agg cs.toArray] w fun e w' => e = .returned (.bool true) ∧ Below w.heap.size w w' := by
  cases t with
  | mk p xs =>
    have hIn' := hIn
    rw [Re.In] at hIn
    obtain ⟨ad, cap, rfl, _⟩ := hIn
    simp only [Pay.cells]
    have HI := hid hIn'
    have HSZ := hid hsz
    have HR0 : Hid (Row (w.alloc (.cells #[.int .i64 p.op, .int .u64 p.set.a, .int .u64 p.set.b, .int .u64 p.set.c, .int .u64 p.set.d, .int .i64 p.lo, .int .i64 p.hi, .int .i64 p.gr, .slice ad xs.length cap] 28)) w.heap.size [.int .i64 p.op, .int .u64 p.set.a, .int .u64 p.set.b, .int .u64 p.set.c, .int .u64 p.set.d, .int .i64 p.lo, .int .i64 p.hi, .int .i64 p.gr, .slice ad xs.length cap] 28 ∧ Below w.heap.size w (w.alloc (.cells #[.int .i64 p.op, .int .u64 p.set.a, .int .u64 p.set.b, .int .u64 p.set.c, .int .u64 p.set.d, .int .i64 p.lo, .int .i64 p.hi, .int .i64 p.gr, .slice ad xs.length cap] 28))) := ⟨Row.new (cs := [.int .i64 p.op, .int .u64 p.set.a, .int .u64 p.set.b, .int .u64 p.set.c, .int .u64 p.set.d, .int .i64 p.lo, .int .i64 p.hi, .int .i64 p.gr, .slice ad xs.length cap]) rfl, (Below.refl _ w).alloc (Nat.le_refl _) _⟩
    have HSX := hid (Nat.le_trans (Re.expandR_size (t := .mk p xs)) (by decide : 4096 ≤ 1048576))
    clear hIn' hsz
    go_enter Try.func6, Try.ntmps6
    go_wp2_with fail
    refine (Expand_any (.mk p xs) _ _ (HI.out.below HR0.out.2) HSZ.out).mono ?_
    rintro e w1 ⟨csa, rfl, hina, hb1⟩
    obtain ⟨pa, aa, ma, ka, rfl⟩ := Re.cells_shape hina
    have HR1 := hid (HR0.out.1.below hb1 HR0.out.1.lt)
    have HB1 : Hid (Below w.heap.size w w1) := HR0.out.2.trans (hb1.mono (by simp))
    have HIA := hid hina
    have q1 := HR1.out.c9
    have z1 := HR1.out.lt
    clear hb1 hina HR0
    go_wp2_with fail
    have hal := (Below.refl w1.heap.size w1).alloc (Nat.le_refl _) (.cells #[.int .i64 pa.op, .int .u64 pa.set.a, .int .u64 pa.set.b, .int .u64 pa.set.c, .int .u64 pa.set.d, .int .i64 pa.lo, .int .i64 pa.hi, .int .i64 pa.gr, .slice aa ma ka] 28)
    have HRA := hid (Row.new (w := w1) (B := w1.heap.size) (cs := [.int .i64 pa.op, .int .u64 pa.set.a, .int .u64 pa.set.b, .int .u64 pa.set.c, .int .u64 pa.set.d, .int .i64 pa.lo, .int .i64 pa.hi, .int .i64 pa.gr, .slice aa ma ka]) (T := 28) rfl)
    have HBa := hid (HB1.out.trans (hal.mono HB1.out.size))
    have HIA2 := hid (HIA.out.below hal)
    have HR1a := hid (HR1.out.below hal HR1.out.lt)
    clear hal
    refine (ExpandRef_any (.mk p xs) _ _ (HI.out.below HBa.out) HSZ.out).mono ?_
    rintro e w2 ⟨csb, rfl, hinb, hb2⟩
    obtain ⟨pb, ab, mb, kb, rfl⟩ := Re.cells_shape hinb
    have HRA2 := hid (HRA.out.below hb2 HRA.out.lt)
    have HB2 : Hid (Below w.heap.size w w2) := HBa.out.trans (hb2.mono HBa.out.size)
    have HIA3 := hid (HIA2.out.below hb2)
    have HIB := hid hinb
    have q2 := HRA2.out.c9
    have z2 := HRA2.out.lt
    clear hb2 hinb q1 z1
    generalize w1.heap.size = B3 at *
    go_wp2_with fail
    have hal2 := (Below.refl w2.heap.size w2).alloc (Nat.le_refl _) (.cells #[.int .i64 pb.op, .int .u64 pb.set.a, .int .u64 pb.set.b, .int .u64 pb.set.c, .int .u64 pb.set.d, .int .i64 pb.lo, .int .i64 pb.hi, .int .i64 pb.gr, .slice ab mb kb] 28)
    have HIA4 := hid (HIA3.out.below hal2)
    have HIB4 := hid (HIB.out.below hal2)
    have HB4 := hid (HB2.out.trans (hal2.mono HB2.out.size))
    clear hal2
    refine (SameRe_any _ _ _ _ _ HIA4.out HIB4.out (Below.refl _ _) HSX.out).mono ?_
    rintro e w3 ⟨rfl, hb3⟩
    have HB5 := hid (HB4.out.trans (hb3.mono HB4.out.size))
    clear hb3 q2 z2
    go_wp2_with fail
    refine (awake_any _).mono ?_
    rintro e ya ⟨rfl, hba⟩
    have HBA : Hid (Below w.heap.size w ya) := HB5.out.trans (hba.mono HB5.out.size)
    clear hba
    go_wp2_with fail
    all_goals go_ret
    all_goals exact ⟨rfl, HBA.out⟩
end Go.Proofs.Ytibfnmkeghkdpaa
