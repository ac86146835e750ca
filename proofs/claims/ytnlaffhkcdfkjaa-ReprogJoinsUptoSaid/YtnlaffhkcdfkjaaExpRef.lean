/- The reference's Expand: as the program's. -/
import Derived.Test.YtnlaffhkcdfkjaaExpanded
import Derived.Test.YtnlaffhkcdfkjaaCheckRef
namespace Go.Proofs.Ytnlaffhkcdfkjaa
open Go.RowKit
attribute [local go_sem] gives givesUpon

-- def BL := [.int .i64 p.op, .int .u64 p.set.a, .int .u64 p.set.b, .int .u64 p.set.c, .int .u64 p.set.d, .int .i64 p.lo, .int .i64 p.hi, .int .i64 p.gr, .slice ad xs.length cap]
-- def Z9 := [.int .i64 0, .int .u64 0, .int .u64 0, .int .u64 0, .int .u64 0, .int .i64 0, .int .i64 0, .int .i64 0, .slice none 0 0]
-- def W2 := ((w.alloc (.cells #[.int .i64 p.op, .int .u64 p.set.a, .int .u64 p.set.b, .int .u64 p.set.c, .int .u64 p.set.d, .int .i64 p.lo, .int .i64 p.hi, .int .i64 p.gr, .slice ad xs.length cap] 28)).alloc (.cells #[.int .i64 0, .int .u64 0, .int .u64 0, .int .u64 0, .int .u64 0, .int .i64 0, .int .i64 0, .int .i64 0, .slice none 0 0] 28))

set_option maxRecDepth 100000 in
set_option maxHeartbeats 4000000 in
theorem ExpandRef_any (t : Re) (w : World) (cs : List Value) (hIn : t.In w cs) (hsz : t.size ≤ 1048576) :
    Calls Try.prog 22 #[.agg cs.toArray] w fun e w' => ∃ cs', e = .returned (.tuple #[.agg cs'.toArray, .int .i64 t.expandR.2]) ∧ t.expandR.1.In w' cs' ∧ Below w.heap.size w w' := by
  cases t with
  | mk p xs =>
    have hIn' := hIn
    rw [Re.In] at hIn
    obtain ⟨ad, cap, rfl, _⟩ := hIn
    simp only [Pay.cells]
    have HI := hid hIn'
    have HSZ := hid hsz
    have HW : Hid (Row ((w.alloc (.cells #[.int .i64 p.op, .int .u64 p.set.a, .int .u64 p.set.b, .int .u64 p.set.c, .int .u64 p.set.d, .int .i64 p.lo, .int .i64 p.hi, .int .i64 p.gr, .slice ad xs.length cap] 28)).alloc (.cells #[.int .i64 0, .int .u64 0, .int .u64 0, .int .u64 0, .int .u64 0, .int .i64 0, .int .i64 0, .int .i64 0, .slice none 0 0] 28)) w.heap.size [.int .i64 p.op, .int .u64 p.set.a, .int .u64 p.set.b, .int .u64 p.set.c, .int .u64 p.set.d, .int .i64 p.lo, .int .i64 p.hi, .int .i64 p.gr, .slice ad xs.length cap] 28 ∧ Row ((w.alloc (.cells #[.int .i64 p.op, .int .u64 p.set.a, .int .u64 p.set.b, .int .u64 p.set.c, .int .u64 p.set.d, .int .i64 p.lo, .int .i64 p.hi, .int .i64 p.gr, .slice ad xs.length cap] 28)).alloc (.cells #[.int .i64 0, .int .u64 0, .int .u64 0, .int .u64 0, .int .u64 0, .int .i64 0, .int .i64 0, .int .i64 0, .slice none 0 0] 28)) (w.heap.size + 1) [.int .i64 0, .int .u64 0, .int .u64 0, .int .u64 0, .int .u64 0, .int .i64 0, .int .i64 0, .int .i64 0, .slice none 0 0] 28 ∧ Below w.heap.size w ((w.alloc (.cells #[.int .i64 p.op, .int .u64 p.set.a, .int .u64 p.set.b, .int .u64 p.set.c, .int .u64 p.set.d, .int .i64 p.lo, .int .i64 p.hi, .int .i64 p.gr, .slice ad xs.length cap] 28)).alloc (.cells #[.int .i64 0, .int .u64 0, .int .u64 0, .int .u64 0, .int .u64 0, .int .i64 0, .int .i64 0, .int .i64 0, .slice none 0 0] 28))) :=
      ⟨(Row.new (cs := [.int .i64 p.op, .int .u64 p.set.a, .int .u64 p.set.b, .int .u64 p.set.c, .int .u64 p.set.d, .int .i64 p.lo, .int .i64 p.hi, .int .i64 p.gr, .slice ad xs.length cap]) rfl).alloc _, Row.new (cs := [.int .i64 0, .int .u64 0, .int .u64 0, .int .u64 0, .int .u64 0, .int .i64 0, .int .i64 0, .int .i64 0, .slice none 0 0]) (by simp), ((Below.refl _ w).alloc (Nat.le_refl _) _).alloc (by simp) _⟩
    clear hIn' hsz
    go_enter Try.func22, Try.ntmps22
    go_wp2_with fail
    refine (CheckRef_any (.mk p xs) _ _ (HI.out.below HW.out.2.2) HSZ.out).mono ?_
    rintro e w1 ⟨rfl, hb⟩
    have hr1 := HW.out.1.below hb (by simp; omega)
    have hr2 := HW.out.2.1.below hb (by simp)
    have q1 := hr1.c9
    have q2 := hr2.c9
    have z1 := hr1.lt
    have z2 := hr2.lt
    have HBW : Hid (Below w.heap.size w w1) := HW.out.2.2.trans (hb.mono (by simp; omega))
    have HR1 := hid hr1
    have HR2 := hid hr2
    clear hb hr1 hr2 HW
    rcases (show ((Re.mk p xs).err != 0) = true ∨ ((Re.mk p xs).err != 0) = false by cases ((Re.mk p xs).err != 0) <;> simp) with hd | hd
    · have hne : ¬ (Re.mk p xs).err = 0 := by simpa using hd
      have HF := hid (Re.expandR_err hne)
      clear hne
      go_wp2_with fail
      refine ret_row2 2 28 3 rfl (w.heap.size + 1) rfl [.int .i64 0, .int .u64 0, .int .u64 0, .int .u64 0, .int .u64 0, .int .i64 0, .int .i64 0, .int .i64 0, .slice none 0 0] (CellsAt.of_row (T := 28) (HR2.out.set9 _ _ _ _ _ _ _ _ _)) _ Try.underlying28 rfl (size_relen rfl) rfl ?_
      refine ⟨[.int .i64 0, .int .u64 0, .int .u64 0, .int .u64 0, .int .u64 0, .int .i64 0, .int .i64 0, .int .i64 0, .slice none 0 0], ?_, ?_, below9 HBW.out (by omega) _ _ _ _ _ _ _ _ _⟩
      · rw [HF.out]; rfl
      · rw [HF.out]; exact zero_in _
    · have hz : (Re.mk p xs).err = 0 := by simpa using hd
      have HE := hid (Re.err_zero hz)
      have HZ := hid hz
      have HOK := hid (Re.ranged_okr _ 0 HE.out.2.2.1)
      have hwb := Re.grown_bd HOK.out
      have HGW := hid (Re.grown_weigh _ HOK.out)
      clear hz
      go_wp2_with fail
      refine (grown_any w (.mk p xs) _ _ HI.out HBW.out HOK.out HSZ.out).mono ?_
      rintro e w2 ⟨rfl, hb2⟩
      have hr3 := HR2.out.below hb2 HR2.out.lt
      have hr4 := HR1.out.below hb2 HR1.out.lt
      have q3 := hr3.c9
      have q4 := hr4.c9
      have z3 := hr3.lt
      have z4 := hr4.lt
      have HR3 := hid hr3
      have HB3 : Hid (Below w.heap.size w w2) := HBW.out.trans (hb2.mono (by omega))
      clear hb2 hr3 hr4 q1 q2
      rcases (show decide (4096 < (Re.mk p xs).grown) = true ∨ decide (4096 < (Re.mk p xs).grown) = false by cases decide (4096 < (Re.mk p xs).grown) <;> simp) with hm | hm
      · have hm2 : 4096 < (Re.mk p xs).weigh := by have h1 := HGW.out; simp at hm; omega
        have HF := hid (Re.expandR_much HZ.out hm2)
        clear hwb
        clear hm2
        generalize (Re.mk p xs).grown = W at hm
        go_wp2_with fail
        refine ret_row2 2 28 3 rfl (w.heap.size + 1) rfl [.int .i64 0, .int .u64 0, .int .u64 0, .int .u64 0, .int .u64 0, .int .i64 0, .int .i64 0, .int .i64 0, .slice none 0 0] (CellsAt.of_row (T := 28) (HR3.out.set9 _ _ _ _ _ _ _ _ _)) _ Try.underlying28 rfl (size_relen rfl) rfl ?_
        refine ⟨[.int .i64 0, .int .u64 0, .int .u64 0, .int .u64 0, .int .u64 0, .int .i64 0, .int .i64 0, .int .i64 0, .slice none 0 0], ?_, ?_, below9 HB3.out (by omega) _ _ _ _ _ _ _ _ _⟩
        · rw [HF.out]; rfl
        · rw [HF.out]; exact zero_in _
      · have hm2 : ¬ 4096 < (Re.mk p xs).weigh := by have h1 := HGW.out; simp at hm; omega
        have HF := hid (Re.expandR_ok HZ.out hm2)
        have hes := Re.expand_size _ HOK.out HE.out.1 (by omega)
        have HES : Hid ((Re.mk p xs).expand.size ≤ 1048576) := by show _ ≤ _; omega
        clear hes
        clear hm2
        generalize (Re.mk p xs).grown = W at hm hwb
        go_wp2_with fail
        refine (expanded_any w (.mk p xs) _ _ HI.out HB3.out HOK.out HE.out.1 HSZ.out).mono ?_
        rintro e w3 ⟨cs3, rfl, hin3, hb4⟩
        have hr6 := HR3.out.below hb4 HR3.out.lt
        have q6 := hr6.c9
        have z6 := hr6.lt
        have HR6 := hid hr6
        have HIN4 := hid hin3
        have HB6 : Hid (Below w.heap.size w w3) := HB3.out.trans (hb4.mono (by omega))
        obtain ⟨p4, ad4, m4, cap4, rfl⟩ := Re.cells_shape hin3.self
        have HZ := hid (show w.heap.size + 2 ≤ w2.heap.size by omega)
        clear hb4 hr6 hin3 q3 q4
        go_wp2_with fail
        refine ret_row2 2 28 3 rfl (w.heap.size + 1) rfl [.int .i64 p4.op, .int .u64 p4.set.a, .int .u64 p4.set.b, .int .u64 p4.set.c, .int .u64 p4.set.d, .int .i64 p4.lo, .int .i64 p4.hi, .int .i64 p4.gr, .slice ad4 m4 cap4] (CellsAt.of_row (T := 28) (HR6.out.set9 _ _ _ _ _ _ _ _ _)) _ Try.underlying28 rfl (size_relen rfl) rfl ?_
        refine ⟨[.int .i64 p4.op, .int .u64 p4.set.a, .int .u64 p4.set.b, .int .u64 p4.set.c, .int .u64 p4.set.d, .int .i64 p4.lo, .int .i64 p4.hi, .int .i64 p4.gr, .slice ad4 m4 cap4], ?_, ?_, below9 HB6.out (by omega : w.heap.size ≤ w.heap.size + 1) (.int .i64 p4.op) (.int .u64 p4.set.a) (.int .u64 p4.set.b) (.int .u64 p4.set.c) (.int .u64 p4.set.d) (.int .i64 p4.lo) (.int .i64 p4.hi) (.int .i64 p4.gr) (.slice ad4 m4 cap4)⟩
        · rw [HF.out]; rfl
        · rw [HF.out]
          exact (HIN4.out.but (Bs := [w.heap.size + 1]) (But.set9 (But.refl _ w3) (.inl (by simp)) (.int .i64 p4.op) (.int .u64 p4.set.a) (.int .u64 p4.set.b) (.int .u64 p4.set.c) (.int .u64 p4.set.d) (.int .i64 p4.lo) (.int .i64 p4.hi) (.int .i64 p4.gr) (.slice ad4 m4 cap4)) (fun i hi => by simp; have := HZ.out; omega)).self
end Go.Proofs.Ytnlaffhkcdfkjaa
