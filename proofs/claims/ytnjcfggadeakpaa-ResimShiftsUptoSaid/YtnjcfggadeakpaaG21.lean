/- The reference's Expand: as the program's. -/
import Derived.Test.YtnjcfggadeakpaaG20
import Derived.Test.YtnjcfggadeakpaaG17
import Derived.Test.YtnjcfggadeakpaaG13
import Derived.Test.YtnjcfggadeakpaaG11
import Derived.Test.YtnjcfggadeakpaaG14
import Derived.Laws.IdiomStrings
namespace Go.Proofs.Ytnjcfggadeakpaa
open Go.RowKit
attribute [local go_sem] gives givesUpon

-- def BL := [.int .i64 p.op, .int .u64 p.set.a, .int .u64 p.set.b, .int .u64 p.set.c, .int .u64 p.set.d, .int .i64 p.lo, .int .i64 p.hi, .int .i64 p.gr, .slice ad xs.length cap]
-- def Z9 := [.int .i64 0, .int .u64 0, .int .u64 0, .int .u64 0, .int .u64 0, .int .i64 0, .int .i64 0, .int .i64 0, .slice none 0 0]
-- def W2 := ((w.alloc (.cells #[.int .i64 p.op, .int .u64 p.set.a, .int .u64 p.set.b, .int .u64 p.set.c, .int .u64 p.set.d, .int .i64 p.lo, .int .i64 p.hi, .int .i64 p.gr, .slice ad xs.length cap] 55)).alloc (.cells #[.int .i64 0, .int .u64 0, .int .u64 0, .int .u64 0, .int .u64 0, .int .i64 0, .int .i64 0, .int .i64 0, .slice none 0 0] 55))

set_option maxRecDepth 100000 in
set_option maxHeartbeats 4000000 in
theorem ExpandRef_any (t : Re) (w : World) (cs : List Value) (hIn : t.In w cs) (hsz : t.size ≤ 1048576) :
    Calls Try.prog 31 #[.agg cs.toArray] w fun e w' => ∃ cs', e = .returned (.tuple #[.agg cs'.toArray, .int .i64 t.expandR.2]) ∧ t.expandR.1.In w' cs' ∧ Below w.heap.size w w' := by
  cases t with
  | mk p xs =>
    have hIn' := hIn
    rw [Re.In] at hIn
    obtain ⟨ad, cap, rfl, _⟩ := hIn
    simp only [Pay.cells]
    have HI := hid hIn'
    have HSZ := hid hsz
    have HW : Hid (Row ((w.alloc (.cells #[.int .i64 p.op, .int .u64 p.set.a, .int .u64 p.set.b, .int .u64 p.set.c, .int .u64 p.set.d, .int .i64 p.lo, .int .i64 p.hi, .int .i64 p.gr, .slice ad xs.length cap] 55)).alloc (.cells #[.int .i64 0, .int .u64 0, .int .u64 0, .int .u64 0, .int .u64 0, .int .i64 0, .int .i64 0, .int .i64 0, .slice none 0 0] 55)) w.heap.size [.int .i64 p.op, .int .u64 p.set.a, .int .u64 p.set.b, .int .u64 p.set.c, .int .u64 p.set.d, .int .i64 p.lo, .int .i64 p.hi, .int .i64 p.gr, .slice ad xs.length cap] 55 ∧ Row ((w.alloc (.cells #[.int .i64 p.op, .int .u64 p.set.a, .int .u64 p.set.b, .int .u64 p.set.c, .int .u64 p.set.d, .int .i64 p.lo, .int .i64 p.hi, .int .i64 p.gr, .slice ad xs.length cap] 55)).alloc (.cells #[.int .i64 0, .int .u64 0, .int .u64 0, .int .u64 0, .int .u64 0, .int .i64 0, .int .i64 0, .int .i64 0, .slice none 0 0] 55)) (w.heap.size + 1) [.int .i64 0, .int .u64 0, .int .u64 0, .int .u64 0, .int .u64 0, .int .i64 0, .int .i64 0, .int .i64 0, .slice none 0 0] 55 ∧ Below w.heap.size w ((w.alloc (.cells #[.int .i64 p.op, .int .u64 p.set.a, .int .u64 p.set.b, .int .u64 p.set.c, .int .u64 p.set.d, .int .i64 p.lo, .int .i64 p.hi, .int .i64 p.gr, .slice ad xs.length cap] 55)).alloc (.cells #[.int .i64 0, .int .u64 0, .int .u64 0, .int .u64 0, .int .u64 0, .int .i64 0, .int .i64 0, .int .i64 0, .slice none 0 0] 55))) :=
      ⟨(Row.new (cs := [.int .i64 p.op, .int .u64 p.set.a, .int .u64 p.set.b, .int .u64 p.set.c, .int .u64 p.set.d, .int .i64 p.lo, .int .i64 p.hi, .int .i64 p.gr, .slice ad xs.length cap]) rfl).alloc _, Row.new (cs := [.int .i64 0, .int .u64 0, .int .u64 0, .int .u64 0, .int .u64 0, .int .i64 0, .int .i64 0, .int .i64 0, .slice none 0 0]) (by simp), ((Below.refl _ w).alloc (Nat.le_refl _) _).alloc (by simp) _⟩
    clear hIn' hsz
    go_enter Try.func31, Try.ntmps31
    go_wp2_with fail
    refine (CheckRef_any (.mk p xs) _ _ (HI.out.below HW.out.2.2) HSZ.out).mono ?_
    rintro e w1 ⟨rfl, hb⟩
    have hr1 := HW.out.1.below hb (by simp; omega)
    have hr2 := HW.out.2.1.below hb (by simp)
    have q1 := hr1.c9
    have q2 := hr2.c9
    have z1 := hr1.lt
    have z2 := hr2.lt
    have HBW : Hid (Below w.heap.size w w1) := HW.out.2.2.trans (hb.mono (by simp; omega))
    have HR1 := hid hr1
    have HR2 := hid hr2
    clear hb hr1 hr2 HW
    rcases (show ((Re.mk p xs).err != 0) = true ∨ ((Re.mk p xs).err != 0) = false by cases ((Re.mk p xs).err != 0) <;> simp) with hd | hd
    · have hne : ¬ (Re.mk p xs).err = 0 := by simpa using hd
      have HF := hid (Re.expandR_err hne)
      clear hne
      go_wp2_with fail
      refine ret_row2 2 55 3 rfl (w.heap.size + 1) rfl [.int .i64 0, .int .u64 0, .int .u64 0, .int .u64 0, .int .u64 0, .int .i64 0, .int .i64 0, .int .i64 0, .slice none 0 0] (CellsAt.of_row (T := 55) (HR2.out.set9 _ _ _ _ _ _ _ _ _)) _ Try.underlying55 rfl (size_relen rfl) rfl ?_
      refine ⟨[.int .i64 0, .int .u64 0, .int .u64 0, .int .u64 0, .int .u64 0, .int .i64 0, .int .i64 0, .int .i64 0, .slice none 0 0], ?_, ?_, below9 HBW.out (by omega) _ _ _ _ _ _ _ _ _⟩
      · rw [HF.out]; rfl
      · rw [HF.out]; exact zero_in _
    · have hz : (Re.mk p xs).err = 0 := by simpa using hd
      have HE := hid (Re.err_zero hz)
      have HZ := hid hz
      have HOK := hid (Re.ranged_okr _ 0 HE.out.2.2.1)
      have hwb := Re.grown_bd HOK.out
      have HGW := hid (Re.grown_weigh _ HOK.out)
      clear hz
      go_wp2_with fail
      refine (grown_any w (.mk p xs) _ _ HI.out HBW.out HOK.out HSZ.out).mono ?_
      rintro e w2 ⟨rfl, hb2⟩
      have hr3 := HR2.out.below hb2 HR2.out.lt
      have hr4 := HR1.out.below hb2 HR1.out.lt
      have q3 := hr3.c9
      have q4 := hr4.c9
      have z3 := hr3.lt
      have z4 := hr4.lt
      have HR3 := hid hr3
      have HB3 : Hid (Below w.heap.size w w2) := HBW.out.trans (hb2.mono (by omega))
      clear hb2 hr3 hr4 q1 q2
      rcases (show decide (4096 < (Re.mk p xs).grown) = true ∨ decide (4096 < (Re.mk p xs).grown) = false by cases decide (4096 < (Re.mk p xs).grown) <;> simp) with hm | hm
      · have hm2 : 4096 < (Re.mk p xs).weigh := by have h1 := HGW.out; simp at hm; omega
        have HF := hid (Re.expandR_much HZ.out hm2)
        clear hwb
        clear hm2
        generalize (Re.mk p xs).grown = W at hm
        go_wp2_with fail
        refine ret_row2 2 55 3 rfl (w.heap.size + 1) rfl [.int .i64 0, .int .u64 0, .int .u64 0, .int .u64 0, .int .u64 0, .int .i64 0, .int .i64 0, .int .i64 0, .slice none 0 0] (CellsAt.of_row (T := 55) (HR3.out.set9 _ _ _ _ _ _ _ _ _)) _ Try.underlying55 rfl (size_relen rfl) rfl ?_
        refine ⟨[.int .i64 0, .int .u64 0, .int .u64 0, .int .u64 0, .int .u64 0, .int .i64 0, .int .i64 0, .int .i64 0, .slice none 0 0], ?_, ?_, below9 HB3.out (by omega) _ _ _ _ _ _ _ _ _⟩
        · rw [HF.out]; rfl
        · rw [HF.out]; exact zero_in _
      · have hm2 : ¬ 4096 < (Re.mk p xs).weigh := by have h1 := HGW.out; simp at hm; omega
        have HF := hid (Re.expandR_ok HZ.out hm2)
        have hes := Re.expand_size _ HOK.out HE.out.1 (by omega)
        have HES : Hid ((Re.mk p xs).expand.size ≤ 1048576) := by show _ ≤ _; omega
        clear hes
        clear hm2
        generalize (Re.mk p xs).grown = W at hm hwb
        go_wp2_with fail
        refine (expanded_any w (.mk p xs) _ _ HI.out HB3.out HOK.out HE.out.1 HSZ.out).mono ?_
        rintro e w3 ⟨cs3, rfl, hin3, hb4⟩
        have hr6 := HR3.out.below hb4 HR3.out.lt
        have q6 := hr6.c9
        have z6 := hr6.lt
        have HR6 := hid hr6
        have HIN4 := hid hin3
        have HB6 : Hid (Below w.heap.size w w3) := HB3.out.trans (hb4.mono (by omega))
        obtain ⟨p4, ad4, m4, cap4, rfl⟩ := Re.cells_shape hin3.self
        have HZ := hid (show w.heap.size + 2 ≤ w2.heap.size by omega)
        clear hb4 hr6 hin3 q3 q4
        go_wp2_with fail
        refine ret_row2 2 55 3 rfl (w.heap.size + 1) rfl [.int .i64 p4.op, .int .u64 p4.set.a, .int .u64 p4.set.b, .int .u64 p4.set.c, .int .u64 p4.set.d, .int .i64 p4.lo, .int .i64 p4.hi, .int .i64 p4.gr, .slice ad4 m4 cap4] (CellsAt.of_row (T := 55) (HR6.out.set9 _ _ _ _ _ _ _ _ _)) _ Try.underlying55 rfl (size_relen rfl) rfl ?_
        refine ⟨[.int .i64 p4.op, .int .u64 p4.set.a, .int .u64 p4.set.b, .int .u64 p4.set.c, .int .u64 p4.set.d, .int .i64 p4.lo, .int .i64 p4.hi, .int .i64 p4.gr, .slice ad4 m4 cap4], ?_, ?_, below9 HB6.out (by omega : w.heap.size ≤ w.heap.size + 1) (.int .i64 p4.op) (.int .u64 p4.set.a) (.int .u64 p4.set.b) (.int .u64 p4.set.c) (.int .u64 p4.set.d) (.int .i64 p4.lo) (.int .i64 p4.hi) (.int .i64 p4.gr) (.slice ad4 m4 cap4)⟩
        · rw [HF.out]; rfl
        · rw [HF.out]
          exact (HIN4.out.but (Bs := [w.heap.size + 1]) (But.set9 (But.refl _ w3) (.inl (by simp)) (.int .i64 p4.op) (.int .u64 p4.set.a) (.int .u64 p4.set.b) (.int .u64 p4.set.c) (.int .u64 p4.set.d) (.int .i64 p4.lo) (.int .i64 p4.hi) (.int .i64 p4.gr) (.slice ad4 m4 cap4)) (fun i hi => by simp; have := HZ.out; omega)).self
end Go.Proofs.Ytnjcfggadeakpaa

/- Compile of the program. -/
namespace Go.Proofs.Ytnjcfggadeakpaa
open Go.RowKit
attribute [local go_sem] gives givesUpon

end Go.Proofs.Ytnjcfggadeakpaa

/- Compile of the reference. -/
namespace Go.Proofs.Ytnjcfggadeakpaa
open Go.RowKit
attribute [local go_sem] gives givesUpon

set_option maxRecDepth 100000 in
set_option maxHeartbeats 8000000 in
theorem CompileRef_any (t : Re) (lines : Bool) (w : World) (cs : List Value) (hIn : t.In w cs) (hsz : t.size ≤ 1048576) :
    Calls Try.prog 18 #[.agg cs.toArray, .bool lines] w (CPost t lines w) := by
  cases t with
  | mk p xs =>
    have hIn' := hIn
    rw [Re.In] at hIn
    obtain ⟨ad, cap, rfl, _⟩ := hIn
    simp only [Pay.cells]
    have HI := hid hIn'
    have HSZ := hid hsz
    have HW : Hid (Row ((w.alloc (.cells #[.int .i64 p.op, .int .u64 p.set.a, .int .u64 p.set.b, .int .u64 p.set.c, .int .u64 p.set.d, .int .i64 p.lo, .int .i64 p.hi, .int .i64 p.gr, .slice ad xs.length cap] 55)).alloc (.cells #[.slice none 0 0, .bool false] 24)) w.heap.size [.int .i64 p.op, .int .u64 p.set.a, .int .u64 p.set.b, .int .u64 p.set.c, .int .u64 p.set.d, .int .i64 p.lo, .int .i64 p.hi, .int .i64 p.gr, .slice ad xs.length cap] 55 ∧ Row ((w.alloc (.cells #[.int .i64 p.op, .int .u64 p.set.a, .int .u64 p.set.b, .int .u64 p.set.c, .int .u64 p.set.d, .int .i64 p.lo, .int .i64 p.hi, .int .i64 p.gr, .slice ad xs.length cap] 55)).alloc (.cells #[.slice none 0 0, .bool false] 24)) (w.heap.size + 1) [.slice none 0 0, .bool false] 24 ∧ Below w.heap.size w ((w.alloc (.cells #[.int .i64 p.op, .int .u64 p.set.a, .int .u64 p.set.b, .int .u64 p.set.c, .int .u64 p.set.d, .int .i64 p.lo, .int .i64 p.hi, .int .i64 p.gr, .slice ad xs.length cap] 55)).alloc (.cells #[.slice none 0 0, .bool false] 24))) :=
      ⟨(Row.new (cs := [.int .i64 p.op, .int .u64 p.set.a, .int .u64 p.set.b, .int .u64 p.set.c, .int .u64 p.set.d, .int .i64 p.lo, .int .i64 p.hi, .int .i64 p.gr, .slice ad xs.length cap]) rfl).alloc _, Row.new (cs := [.slice none 0 0, .bool false]) (by simp), ((Below.refl _ w).alloc (Nat.le_refl _) _).alloc (by simp) _⟩
    clear hIn' hsz
    go_enter Try.func18, Try.ntmps18
    go_wp2_with fail
    refine (CheckRef_any (.mk p xs) _ _ (HI.out.below HW.out.2.2) HSZ.out).mono ?_
    rintro e w1 ⟨rfl, hb⟩
    have HR1 := hid (HW.out.1.below hb (by simp; omega))
    have HP1 := hid (HW.out.2.1.below hb (by simp))
    have HB1 : Hid (Below w.heap.size w w1) := HW.out.2.2.trans (hb.mono (by simp; omega))
    have q1 := HR1.out.c9
    have q2 := HP1.out.c2
    have z1 := HR1.out.lt
    have z2 := HP1.out.lt
    clear hb HW
    rcases (show ((Re.mk p xs).err != 0) = true ∨ ((Re.mk p xs).err != 0) = false by cases ((Re.mk p xs).err != 0) <;> simp) with hd | hd
    · have hne : ¬ (Re.mk p xs).err = 0 := by simpa using hd
      have HF := hid (Re.compiled_err hne)
      have HNE := hid hne
      clear hne
      go_wp2_with fail
      refine ret_row2 4 24 5 rfl (w.heap.size + 1) rfl [.slice none 0 0, .bool false] (CellsAt.of_row (T := 24) (HP1.out.set2 _ _)) _ Try.underlying24 rfl (size_prog _ _) rfl ?_
      refine ⟨none, 0, 0, ?_, ?_, below2 HB1.out (by omega) _ _⟩
      · rw [HF.out]; simp [HNE.out]
      · rw [HF.out]; exact OwnI.nil _ _
    · have hz : (Re.mk p xs).err = 0 := by simpa using hd
      have HZ := hid hz
      clear hz
      go_wp2_with fail
      refine (BackRef_any (.mk p xs) _ _ (HI.out.below HB1.out) HSZ.out).mono ?_
      rintro e w2 ⟨rfl, hb⟩
      have HR2 := hid (HR1.out.below hb HR1.out.lt)
      have HP2 := hid (HP1.out.below hb HP1.out.lt)
      have HB2 : Hid (Below w.heap.size w w2) := HB1.out.trans (hb.mono (by omega))
      have z3 := HR2.out.lt
      have z4 := HP2.out.lt
      clear hb q1 q2 HR1 HP1
      have q1 := HR2.out.c9
      have q2 := HP2.out.c2
      rcases (show decide (0 < (Re.mk p xs).backs) = true ∨ decide (0 < (Re.mk p xs).backs) = false by cases decide (0 < (Re.mk p xs).backs) <;> simp) with hk | hk
      · have hk2 : 0 < (Re.mk p xs).backs := by simpa using hk
        have HF := hid (Re.compiled_back HZ.out hk2)
        clear hk2
        go_wp2_with fail
        refine ret_row2 4 24 5 rfl (w.heap.size + 1) rfl [.slice none 0 0, .bool false] (CellsAt.of_row (T := 24) (HP2.out.set2 _ _)) _ Try.underlying24 rfl (size_prog _ _) rfl ?_
        refine ⟨none, 0, 0, ?_, ?_, below2 HB2.out (by omega) _ _⟩
        · rw [HF.out]; simp
        · rw [HF.out]; exact OwnI.nil _ _
      · have hk2 : ¬ 0 < (Re.mk p xs).backs := by simpa using hk
        have HK := hid hk2
        clear hk2
        go_wp2_with fail
        refine (ExpandRef_any (.mk p xs) _ _ (HI.out.below HB2.out) HSZ.out).mono ?_
        rintro e w3 ⟨cs3, rfl, hin3, hb⟩
        have HR3 := hid (HR2.out.below hb HR2.out.lt)
        have HP3 := hid (HP2.out.below hb HP2.out.lt)
        have HB3 : Hid (Below w.heap.size w w3) := HB2.out.trans (hb.mono (by omega))
        have z5 := HR3.out.lt
        have z6 := HP3.out.lt
        have HIN3 := hid hin3
        obtain ⟨p3, ad3, m3, cap3, rfl⟩ := Re.cells_shape hin3
        have HFI := hid (Re.expandR_fine HZ.out)
        have HSE : Hid ((Re.mk p xs).expandR.1.size ≤ 4096) := Re.expandR_size
        clear hb q1 q2 HR2 HP2 hin3
        have q2 := HP3.out.c2
        have HX := hid (And.intro (@Re.compiled_much (.mk p xs)) (And.intro (@Re.compiled_long (.mk p xs)) (@Re.compiled_ok (.mk p xs))))
        generalize (Re.mk p xs).expandR = X at *
        obtain ⟨x3, e3⟩ := X
        simp only [] at *
        rcases (show (e3 != 0) = true ∨ (e3 != 0) = false by cases (e3 != 0) <;> simp) with he | he
        · have hne : ¬ e3 = 0 := by simpa using he
          have HF := hid (HX.out.1 HZ.out HK.out hne)
          have HNE := hid hne
          clear hne
          go_wp2_with fail
          refine ret_row2 4 24 5 rfl (w.heap.size + 1) rfl [.slice none 0 0, .bool false] (CellsAt.of_row (T := 24) ((HP3.out.set2 _ _).alloc _)) _ Try.underlying24 rfl (size_prog _ _) rfl ?_
          refine ⟨none, 0, 0, ?_, ?_, (below2 HB3.out (by omega) _ _).alloc (by simp; omega) _⟩
          · rw [HF.out]; simp [HNE.out]
          · rw [HF.out]; exact OwnI.nil _ _
        · have hz : e3 = 0 := by simpa using he
          obtain rfl := hz
          have HL := hid (HX.out.2.1 HZ.out HK.out rfl)
          have HO := hid (HX.out.2.2 HZ.out HK.out rfl)
          have hal := ((Below.refl w3.heap.size w3).alloc (Nat.le_refl _) (.cells #[.int .i64 p3.op, .int .u64 p3.set.a, .int .u64 p3.set.b, .int .u64 p3.set.c, .int .u64 p3.set.d, .int .i64 p3.lo, .int .i64 p3.hi, .int .i64 p3.gr, .slice ad3 m3 cap3] 55))
          have HTC := hid (codeR_any (wb := w3) (w3.heap.size + 1) (by omega) x3 HFI.out (by have := HSE.out; omega) _ _ (.slice none 0 0) [] HIN3.out hal (by simp) (OwnI.nil _ _) (by have := HSE.out; simp; omega))
          have HAL := hid hal
          clear hal
          go_wp2_with fail
          refine HTC.out.mono ?_
          unfold RPost
          rintro e w5 ⟨a1, n1, c1, L1, rfl, hL1, ho1, hg1, hf1⟩
          have hn1 : n1 = x3.csize := by have h := ho1.n; rw [hL1, List.nil_append, Re.gen_len] at h; exact h
          have hn1b : n1 ≤ 100000 := by have h1 := Re.csize_le x3; have h2 := HSE.out; omega
          have HB35 : Hid (Below w3.heap.size w3 w5) := HAL.out.trans (hf1.below HAL.out.size (fun g hg => (by cases hg)))
          have hz5 := HB35.out.size
          have hz35 : w3.heap.size + 1 ≤ w5.heap.size := by have := hf1.size; simp at this; omega
          have HN := hid hn1
          have HL1 := hid hL1
          have HO1 := hid ho1
          clear hn1 hL1 ho1 hg1 hf1 HTC HAL
          obtain ⟨i0, hi, hz0, hz1, hz2⟩ := info_parts info_inst
          go_wp2_with (at_builtin; refine wpList_append_row rfl _ _ 22 rfl (w3.heap.size + 1) 43 i0 (.agg #[.int .i64 0, .int .u64 0, .int .u64 0, .int .u64 0, .int .u64 0, .int .i64 0, .int .i64 0]) 7 56 Try.underlying22 hi hz0 hz1 hz2 rfl (by decide) _ n1 ((L1).flatMap Inst.cells) rfl (by exact HO1.out.row.alloc _) ⟨w5.heap.size, 0, none⟩ 1 1 [.int .i64 6, .int .u64 0, .int .u64 0, .int .u64 0, .int .u64 0, .int .i64 0, .int .i64 0] rfl rfl ?c1 ?c2 ?c3 ?c4 ?c5 (by decide) ?_)
          case c1 =>
            intro j u hj
            rw [Addr.add_lit, Nat.zero_add]
            exact (Row.new (w := w5) (cs := [.int .i64 6, .int .u64 0, .int .u64 0, .int .u64 0, .int .u64 0, .int .i64 0, .int .i64 0]) (T := 43) rfl).cell j ▸ hj
          case c2 => intro u hu; simp at hu; rcases hu with rfl | rfl | rfl | rfl | rfl | rfl | rfl <;> rfl
          case c3 => unfold maxLen; omega
          case c4 => omega
          case c5 => simp; omega
          intro a c w6 hown hgrow hnw
          obtain ⟨L2, hL2, hQ2⟩ := (OwnI.grew (I := ⟨6, Cs.none, 0, 0⟩) HO1.out (.cells #[.int .i64 6, .int .u64 0, .int .u64 0, .int .u64 0, .int .u64 0, .int .i64 0, .int .i64 0] 43) hown hgrow (fun g hg => (hnw g hg).imp id fun h => (by (try simp at h) <;> (try simp) <;> omega)))
          have HL2 := hid hL2
          have HQ2 := hid hQ2
          clear hL2 hQ2
          clear hown hgrow hnw
          clear hi hz0 hz1 hz2
          clear i0
          have HB36 : Hid (Below w3.heap.size w3 w6) := HB35.out.trans (HQ2.out.2.2.below hz5 (fun g hg => by have := (HO1.out.lt g hg).1; omega))
          have HP6 := hid (HP3.out.below HB36.out HP3.out.lt)
          have HB6 : Hid (Below w.heap.size w w6) := HB3.out.trans (HB36.out.mono (by omega))
          have q4 := HP6.out.c2
          have z8 := HP6.out.lt
          clear q2
          rcases (show decide (4096 < n1 + 1) = true ∨ decide (4096 < n1 + 1) = false by cases decide (4096 < n1 + 1) <;> simp) with dn | dn
          · have HF := hid (HL.out (by rw [← HN.out]; simpa using dn))
            have hdn : 4096 < n1 + 1 := by simpa using dn
            clear dn
            go_wp2_with fail
            refine ret_row2 4 24 5 rfl (w.heap.size + 1) rfl [.slice none 0 0, .bool false] (CellsAt.of_row (T := 24) (HP6.out.set2 _ _)) _ Try.underlying24 rfl (size_prog _ _) rfl ?_
            refine ⟨none, 0, 0, ?_, ?_, below2 HB6.out (by omega) _ _⟩
            · rw [HF.out]; simp
            · rw [HF.out]; exact OwnI.nil _ _
          · have hcn : ¬ 4096 < n1 + 1 := by simpa using dn
            have HF := hid (HO.out (by rw [← HN.out]; exact hcn))
            have HLL : Hid (L2 = x3.gen 0 ++ [Inst.of 6]) := by
              show _ = _
              rw [HL2.out, HL1.out]
              rfl
            clear dn
            go_wp2_with fail
            refine ret_row2 4 24 5 rfl (w.heap.size + 1) rfl [.slice a (n1 + 1) c, .bool lines] (CellsAt.of_row (T := 24) (HP6.out.set2 _ _)) _ Try.underlying24 rfl (size_prog _ _) rfl ?_
            refine ⟨a, (n1 + 1), c, ?_, ?_, below2 HB6.out (by omega) _ _⟩
            · rw [HF.out]; simp
            · rw [HF.out]; rw [← HLL.out]; exact (HQ2.out.1.set2 (by omega) _ _).weak (by omega)
end Go.Proofs.Ytnjcfggadeakpaa

/- The makers of trees of the law before; the example: awake answers true. -/
namespace Go.Proofs.Ytnjcfggadeakpaa
open Go.RowKit
attribute [local go_sem] gives givesUpon

def byteRe (c : UInt8) : Re := .mk ⟨2, Cs.of [c], 0, 0, 0⟩ []
-- def Z9 := [.int .i64 0, .int .u64 0, .int .u64 0, .int .u64 0, .int .u64 0, .int .i64 0, .int .i64 0, .int .i64 0, .slice none 0 0]
-- def WB := ((w.alloc (.cells #[.int .i64 0, .int .u64 0, .int .u64 0, .int .u64 0, .int .u64 0, .int .i64 0, .int .i64 0, .int .i64 0, .slice none 0 0] 55)).alloc (.cells #[.int .u8 c.toNat] 5))
-- def S9 := [.int .i64 2, .int .u64 (Cs.of [c]).a, .int .u64 (Cs.of [c]).b, .int .u64 (Cs.of [c]).c, .int .u64 (Cs.of [c]).d, .int .i64 0, .int .i64 0, .int .i64 0, .slice none 0 0]
theorem I64_of {n : Int} (h : -64 ≤ n ∧ n ≤ 64) : I64 n := ⟨by omega, by omega⟩
theorem byte_in (c : UInt8) (w : World) : (byteRe c).In w [.int .i64 2, .int .u64 (Cs.of [c]).a, .int .u64 (Cs.of [c]).b, .int .u64 (Cs.of [c]).c, .int .u64 (Cs.of [c]).d, .int .i64 0, .int .i64 0, .int .i64 0, .slice none 0 0] := ((OwnRes.nil w 0 (0 ≤ ·)).node (fun k hk => hk) ⟨2, Cs.of [c], 0, 0, 0⟩ ⟨I64_of (n := 2) (by omega), Cs.of_wf _, I64_of (n := 0) (by omega), I64_of (n := 0) (by omega), I64_of (n := 0) (by omega)⟩).self

set_option maxRecDepth 100000 in
set_option maxHeartbeats 2000000 in
theorem byte9_any (c : UInt8) (w : World) :
    Calls Try.prog 34 #[.int .u8 c.toNat] w fun e w' => e = .returned (.agg #[.int .i64 2, .int .u64 (Cs.of [c]).a, .int .u64 (Cs.of [c]).b, .int .u64 (Cs.of [c]).c, .int .u64 (Cs.of [c]).d, .int .i64 0, .int .i64 0, .int .i64 0, .slice none 0 0]) ∧ Below w.heap.size w w' := by
  have HW : Hid (Row ((w.alloc (.cells #[.int .i64 0, .int .u64 0, .int .u64 0, .int .u64 0, .int .u64 0, .int .i64 0, .int .i64 0, .int .i64 0, .slice none 0 0] 55)).alloc (.cells #[.int .u8 c.toNat] 5)) w.heap.size [.int .i64 0, .int .u64 0, .int .u64 0, .int .u64 0, .int .u64 0, .int .i64 0, .int .i64 0, .int .i64 0, .slice none 0 0] 55 ∧ Row ((w.alloc (.cells #[.int .i64 0, .int .u64 0, .int .u64 0, .int .u64 0, .int .u64 0, .int .i64 0, .int .i64 0, .int .i64 0, .slice none 0 0] 55)).alloc (.cells #[.int .u8 c.toNat] 5)) (w.heap.size + 1) [.int .u8 c.toNat] 5 ∧ Below w.heap.size w ((w.alloc (.cells #[.int .i64 0, .int .u64 0, .int .u64 0, .int .u64 0, .int .u64 0, .int .i64 0, .int .i64 0, .int .i64 0, .slice none 0 0] 55)).alloc (.cells #[.int .u8 c.toNat] 5))) :=
    ⟨(Row.new (cs := [.int .i64 0, .int .u64 0, .int .u64 0, .int .u64 0, .int .u64 0, .int .i64 0, .int .i64 0, .int .i64 0, .slice none 0 0]) rfl).alloc _, Row.new (cs := [.int .u8 c.toNat]) (by simp), ((Below.refl _ w).alloc (Nat.le_refl _) _).alloc (by simp) _⟩
  have hcv : (convert 92 9 (.slice (some ⟨w.heap.size + 1, 0, none⟩) 1 1)).run Try.prog ((w.alloc (.cells #[.int .i64 0, .int .u64 0, .int .u64 0, .int .u64 0, .int .u64 0, .int .i64 0, .int .i64 0, .int .i64 0, .slice none 0 0] 55)).alloc (.cells #[.int .u8 c.toNat] 5)) = .ok (.string ⟨#[c]⟩) ((w.alloc (.cells #[.int .i64 0, .int .u64 0, .int .u64 0, .int .u64 0, .int .u64 0, .int .i64 0, .int .i64 0, .int .i64 0, .slice none 0 0] 55)).alloc (.cells #[.int .u8 c.toNat] 5)) :=
    run_convert_bytes_back _ _ _ 5 ⟨w.heap.size + 1, 0, none⟩ 1 [c] Try.underlying92 Try.underlying5 Try.underlying9 (fun j hj => by
      have hj0 : j = 0 := by simp at hj; exact hj
      subst hj0
      rw [Addr.add_lit]
      exact HW.out.2.1.cell 0)
  go_enter Try.func34, Try.ntmps34
  go_wp2_with fail
  refine (Of_any ⟨#[c]⟩ _ (by show 1 ≤ _; omega)).mono ?_
  rintro e w1 ⟨rfl, hb⟩
  have hr := HW.out.1.below hb (by simp; omega)
  have q1 := hr.c9
  have z1 := hr.lt
  have HR := hid hr
  have HB : Hid (Below w.heap.size w w1) := HW.out.2.2.trans (hb.mono (by simp; omega))
  have hof := Cs.of_wf [c]
  clear hb hr hcv HW
  have e0 : (ByteArray.mk #[c]).data.toList = [c] := rfl
  rw [e0]
  generalize hS : Cs.of [c] = S at *
  have HS := hid hS
  clear hS hof
  go_wp2_with fail
  refine ret_row 2 55 rfl w.heap.size rfl [.int .i64 2, .int .u64 S.a, .int .u64 S.b, .int .u64 S.c, .int .u64 S.d, .int .i64 0, .int .i64 0, .int .i64 0, .slice none 0 0] (CellsAt.of_row (T := 55) (HR.out.set9 _ _ _ _ _ _ _ _ _)) _ Try.underlying55 rfl (size_relen rfl) rfl ?_
  rw [HS.out]
  exact ⟨rfl, below9 HB.out (Nat.le_refl _) _ _ _ _ _ _ _ _ _⟩

set_option maxHeartbeats 2000000 in
theorem node9_any (op : Int) (ad : Option Addr) (n cap : Nat) (w : World) :
    Calls Try.prog 33 #[.int .i64 op, .slice ad n cap] w fun e w' => e = .returned (.agg #[.int .i64 op, .int .u64 0, .int .u64 0, .int .u64 0, .int .u64 0, .int .i64 0, .int .i64 0, .int .i64 0, .slice ad n cap]) ∧ Below w.heap.size w w' := by
  go_enter Try.func33, Try.ntmps33
  go_wp2_with fail
  refine ret_row 4 55 rfl w.heap.size rfl [.int .i64 op, .int .u64 0, .int .u64 0, .int .u64 0, .int .u64 0, .int .i64 0, .int .i64 0, .int .i64 0, .slice ad n cap] (CellsAt.of_row (T := 55) (Row.at _ _ _)) _ Try.underlying55 rfl (size_relen rfl) rfl ?_
  exact ⟨rfl, (Below.refl _ w).alloc (Nat.le_refl _) _⟩

/-- A node over two trees that lie side by side. -/
theorem node2_in {w : World} {B : Nat} {p : Pay} {t1 t2 : Re} {c1 c2 cs : List Value} (hp : p.wf) (hr : Row w B (c1 ++ c2) 55) (h1 : t1.In w c1) (h2 : t2.In w c2) (hc : cs = p.cells (.slice (some ⟨B, 0, none⟩) 2 2)) : (Re.mk p [t1, t2]).In w cs := by
  subst hc
  rw [Re.In]
  have n1 := h1.nine
  refine ⟨some ⟨B, 0, none⟩, 2, rfl, hp, Nat.le_refl _, by decide, (fun h => by cases h), ?_⟩
  rw [Re.AllIn, Re.AllIn, Re.AllIn]
  refine ⟨⟨B, 0, c1, rfl, fun j v hj => ?_, h1⟩, ⟨B, 0, c2, rfl, fun j v hj => ?_, h2⟩, trivial⟩
  · have hjl := (List.getElem?_eq_some_iff.1 hj).1
    rw [hr.cell, List.getElem?_append_left (by omega)]
    simpa using hj
  · rw [hr.cell, List.getElem?_append_right (by omega), ← hj]
    congr 1
    omega

/-- A node over one tree. -/
theorem node1_in {w : World} {B : Nat} {p : Pay} {t1 : Re} {c1 cs : List Value} (hp : p.wf) (hr : Row w B c1 55) (h1 : t1.In w c1) (hc : cs = p.cells (.slice (some ⟨B, 0, none⟩) 1 1)) : (Re.mk p [t1]).In w cs := by
  subst hc
  rw [Re.In]
  refine ⟨some ⟨B, 0, none⟩, 1, rfl, hp, Nat.le_refl _, by decide, (fun h => by cases h), ?_⟩
  rw [Re.AllIn, Re.AllIn]
  refine ⟨⟨B, 0, c1, rfl, fun j v hj => ?_, h1⟩, trivial⟩
  rw [hr.cell, ← hj]
  congr 1
  omega
/-- The example's tree. -/
def E1 : Re := .mk (Pay.ofRep 0 (-1)) [.mk (Pay.of 4) [byteRe 97, byteRe 98]]
theorem E1_comp : E1.compiled = ([isplit 1 6, isplit 2 4, ⟨1, Cs.of [97], 0, 0⟩, ijump 5, ⟨1, Cs.of [98], 0, 0⟩, ijump 0, Inst.of 6], 0) := by decide
theorem eq_i0 (x : World) : (Op.equalIn 10000 43 (.agg #[.int .i64 2, .int .u64 0, .int .u64 0, .int .u64 0, .int .u64 0, .int .i64 1, .int .i64 6]) (.agg #[.int .i64 2, .int .u64 0, .int .u64 0, .int .u64 0, .int .u64 0, .int .i64 1, .int .i64 6])).run Try.prog x = .ok true x := by
  have h := run_eqIn_inst (isplit 1 6) (isplit 1 6) x
  rw [decide_eq_true rfl] at h
  exact h
theorem eq_i3 (x : World) : (Op.equalIn 10000 43 (.agg #[.int .i64 3, .int .u64 0, .int .u64 0, .int .u64 0, .int .u64 0, .int .i64 5, .int .i64 0]) (.agg #[.int .i64 3, .int .u64 0, .int .u64 0, .int .u64 0, .int .u64 0, .int .i64 5, .int .i64 0])).run Try.prog x = .ok true x := by
  have h := run_eqIn_inst (ijump 5) (ijump 5) x
  rw [decide_eq_true rfl] at h
  exact h
theorem Valid_E1 {x : World} {b : Nat} {v : Value} (h : OwnI x b v E1.compiled.1) : Calls Try.prog 35 #[.agg #[v, .bool true]] x fun e w' => e = .returned (.bool true) ∧ Below x.heap.size x w' :=
  Valid_any x b v _ true h (Re.compiled_right (by rw [E1_comp]))

end Go.Proofs.Ytnjcfggadeakpaa
