/- The reference's Expand: as the program's. -/
import Derived.Test.YthnpbopnpdlmnaaX25
import Derived.Test.YthnpbopnpdlmnaaX22
import Derived.Test.YthnpbopnpdlmnaaX10
import Derived.Test.YthnpbopnpdlmnaaX07
import Derived.Laws.IdiomStrings
import Derived.Test.YthnpbopnpdlmnaaProg
import Derived.Shelf.Sort.Plain
import Derived.Shelf.Slices.In.SortNone
namespace Go.Proofs.Ythnpbopnpdlmnaa
open Go.RowKit
attribute [local go_sem] gives givesUpon


set_option maxRecDepth 100000 in
set_option maxHeartbeats 4000000 in
theorem ExpandRef_any (t : Re) (w : World) (cs : List Value) (hIn : t.In w cs) (hsz : t.size ≤ 1048576) :
    Calls Try.prog 38 #[.agg cs.toArray] w fun e w' => ∃ cs', e = .returned (.tuple #[.agg cs'.toArray, .int .i64 t.expandR.2]) ∧ t.expandR.1.In w' cs' ∧ Below w.heap.size w w' := by
  cases t with
  | mk p xs =>
    have hIn' := hIn
    rw [Re.In] at hIn
    obtain ⟨ad, cap, rfl, _⟩ := hIn
    simp only [Pay.cells]
    have HI := hid hIn'
    have HSZ := hid hsz
    have HW : Hid (Row ((w.alloc (.cells #[.int .i64 p.op, .int .u64 p.set.a, .int .u64 p.set.b, .int .u64 p.set.c, .int .u64 p.set.d, .int .i64 p.lo, .int .i64 p.hi, .int .i64 p.gr, .slice ad xs.length cap] 28)).alloc (.cells #[.int .i64 0, .int .u64 0, .int .u64 0, .int .u64 0, .int .u64 0, .int .i64 0, .int .i64 0, .int .i64 0, .slice none 0 0] 28)) w.heap.size [.int .i64 p.op, .int .u64 p.set.a, .int .u64 p.set.b, .int .u64 p.set.c, .int .u64 p.set.d, .int .i64 p.lo, .int .i64 p.hi, .int .i64 p.gr, .slice ad xs.length cap] 28 ∧ Row ((w.alloc (.cells #[.int .i64 p.op, .int .u64 p.set.a, .int .u64 p.set.b, .int .u64 p.set.c, .int .u64 p.set.d, .int .i64 p.lo, .int .i64 p.hi, .int .i64 p.gr, .slice ad xs.length cap] 28)).alloc (.cells #[.int .i64 0, .int .u64 0, .int .u64 0, .int .u64 0, .int .u64 0, .int .i64 0, .int .i64 0, .int .i64 0, .slice none 0 0] 28)) (w.heap.size + 1) [.int .i64 0, .int .u64 0, .int .u64 0, .int .u64 0, .int .u64 0, .int .i64 0, .int .i64 0, .int .i64 0, .slice none 0 0] 28 ∧ Below w.heap.size w ((w.alloc (.cells #[.int .i64 p.op, .int .u64 p.set.a, .int .u64 p.set.b, .int .u64 p.set.c, .int .u64 p.set.d, .int .i64 p.lo, .int .i64 p.hi, .int .i64 p.gr, .slice ad xs.length cap] 28)).alloc (.cells #[.int .i64 0, .int .u64 0, .int .u64 0, .int .u64 0, .int .u64 0, .int .i64 0, .int .i64 0, .int .i64 0, .slice none 0 0] 28))) :=
      ⟨(Row.new (cs := [.int .i64 p.op, .int .u64 p.set.a, .int .u64 p.set.b, .int .u64 p.set.c, .int .u64 p.set.d, .int .i64 p.lo, .int .i64 p.hi, .int .i64 p.gr, .slice ad xs.length cap]) rfl).alloc _, Row.new (cs := [.int .i64 0, .int .u64 0, .int .u64 0, .int .u64 0, .int .u64 0, .int .i64 0, .int .i64 0, .int .i64 0, .slice none 0 0]) (by simp), ((Below.refl _ w).alloc (Nat.le_refl _) _).alloc (by simp) _⟩
    clear hIn' hsz
    go_enter Try.func38, Try.ntmps38
    go_wp2_with fail
    refine (CheckRef_any (.mk p xs) _ _ (HI.out.below HW.out.2.2) HSZ.out).mono ?_
    rintro e w1 ⟨rfl, hb⟩
    have hr1 := HW.out.1.below hb (by simp; omega)
    have hr2 := HW.out.2.1.below hb (by simp)
    have q1 := hr1.c9
    have q2 := hr2.c9
    have z1 := hr1.lt
    have z2 := hr2.lt
    have HBW : Hid (Below w.heap.size w w1) := HW.out.2.2.trans (hb.mono (by simp; omega))
    have HR1 := hid hr1
    have HR2 := hid hr2
    clear hb hr1 hr2 HW
    rcases (show ((Re.mk p xs).err != 0) = true ∨ ((Re.mk p xs).err != 0) = false by cases ((Re.mk p xs).err != 0) <;> simp) with hd | hd
    · have hne : ¬ (Re.mk p xs).err = 0 := by simpa using hd
      have HF := hid (Re.expandR_err hne)
      clear hne
      go_wp2_with fail
      refine ret_row2 2 28 3 rfl (w.heap.size + 1) rfl [.int .i64 0, .int .u64 0, .int .u64 0, .int .u64 0, .int .u64 0, .int .i64 0, .int .i64 0, .int .i64 0, .slice none 0 0] (CellsAt.of_row (T := 28) (HR2.out.set9 _ _ _ _ _ _ _ _ _)) _ Try.underlying28 rfl (size_relen rfl) rfl ?_
      refine ⟨[.int .i64 0, .int .u64 0, .int .u64 0, .int .u64 0, .int .u64 0, .int .i64 0, .int .i64 0, .int .i64 0, .slice none 0 0], ?_, ?_, below9 HBW.out (by omega) _ _ _ _ _ _ _ _ _⟩
      · rw [HF.out]; rfl
      · rw [HF.out]; exact zero_in _
    · have hz : (Re.mk p xs).err = 0 := by simpa using hd
      have HE := hid (Re.err_zero hz)
      have HZ := hid hz
      have HOK := hid (Re.ranged_okr _ 0 HE.out.2.2.1)
      have hwb := Re.grown_bd HOK.out
      have HGW := hid (Re.grown_weigh _ HOK.out)
      clear hz
      go_wp2_with fail
      refine (grown_any w (.mk p xs) _ _ HI.out HBW.out HOK.out HSZ.out).mono ?_
      rintro e w2 ⟨rfl, hb2⟩
      have hr3 := HR2.out.below hb2 HR2.out.lt
      have hr4 := HR1.out.below hb2 HR1.out.lt
      have q3 := hr3.c9
      have q4 := hr4.c9
      have z3 := hr3.lt
      have z4 := hr4.lt
      have HR3 := hid hr3
      have HB3 : Hid (Below w.heap.size w w2) := HBW.out.trans (hb2.mono (by omega))
      clear hb2 hr3 hr4 q1 q2
      rcases (show decide (4096 < (Re.mk p xs).grown) = true ∨ decide (4096 < (Re.mk p xs).grown) = false by cases decide (4096 < (Re.mk p xs).grown) <;> simp) with hm | hm
      · have hm2 : 4096 < (Re.mk p xs).weigh := by have h1 := HGW.out; simp at hm; omega
        have HF := hid (Re.expandR_much HZ.out hm2)
        clear hwb
        clear hm2
        generalize (Re.mk p xs).grown = W at hm
        go_wp2_with fail
        refine ret_row2 2 28 3 rfl (w.heap.size + 1) rfl [.int .i64 0, .int .u64 0, .int .u64 0, .int .u64 0, .int .u64 0, .int .i64 0, .int .i64 0, .int .i64 0, .slice none 0 0] (CellsAt.of_row (T := 28) (HR3.out.set9 _ _ _ _ _ _ _ _ _)) _ Try.underlying28 rfl (size_relen rfl) rfl ?_
        refine ⟨[.int .i64 0, .int .u64 0, .int .u64 0, .int .u64 0, .int .u64 0, .int .i64 0, .int .i64 0, .int .i64 0, .slice none 0 0], ?_, ?_, below9 HB3.out (by omega) _ _ _ _ _ _ _ _ _⟩
        · rw [HF.out]; rfl
        · rw [HF.out]; exact zero_in _
      · have hm2 : ¬ 4096 < (Re.mk p xs).weigh := by have h1 := HGW.out; simp at hm; omega
        have HF := hid (Re.expandR_ok HZ.out hm2)
        have hes := Re.expand_size _ HOK.out HE.out.1 (by omega)
        have HES : Hid ((Re.mk p xs).expand.size ≤ 1048576) := by show _ ≤ _; omega
        clear hes
        clear hm2
        generalize (Re.mk p xs).grown = W at hm hwb
        go_wp2_with fail
        refine (expanded_any w (.mk p xs) _ _ HI.out HB3.out HOK.out HE.out.1 HSZ.out).mono ?_
        rintro e w3 ⟨cs3, rfl, hin3, hb4⟩
        have hr6 := HR3.out.below hb4 HR3.out.lt
        have q6 := hr6.c9
        have z6 := hr6.lt
        have HR6 := hid hr6
        have HIN4 := hid hin3
        have HB6 : Hid (Below w.heap.size w w3) := HB3.out.trans (hb4.mono (by omega))
        obtain ⟨p4, ad4, m4, cap4, rfl⟩ := Re.cells_shape hin3.self
        have HZ := hid (show w.heap.size + 2 ≤ w2.heap.size by omega)
        clear hb4 hr6 hin3 q3 q4
        go_wp2_with fail
        refine ret_row2 2 28 3 rfl (w.heap.size + 1) rfl [.int .i64 p4.op, .int .u64 p4.set.a, .int .u64 p4.set.b, .int .u64 p4.set.c, .int .u64 p4.set.d, .int .i64 p4.lo, .int .i64 p4.hi, .int .i64 p4.gr, .slice ad4 m4 cap4] (CellsAt.of_row (T := 28) (HR6.out.set9 _ _ _ _ _ _ _ _ _)) _ Try.underlying28 rfl (size_relen rfl) rfl ?_
        refine ⟨[.int .i64 p4.op, .int .u64 p4.set.a, .int .u64 p4.set.b, .int .u64 p4.set.c, .int .u64 p4.set.d, .int .i64 p4.lo, .int .i64 p4.hi, .int .i64 p4.gr, .slice ad4 m4 cap4], ?_, ?_, below9 HB6.out (by omega : w.heap.size ≤ w.heap.size + 1) (.int .i64 p4.op) (.int .u64 p4.set.a) (.int .u64 p4.set.b) (.int .u64 p4.set.c) (.int .u64 p4.set.d) (.int .i64 p4.lo) (.int .i64 p4.hi) (.int .i64 p4.gr) (.slice ad4 m4 cap4)⟩
        · rw [HF.out]; rfl
        · rw [HF.out]
          exact (HIN4.out.but (Bs := [w.heap.size + 1]) (But.set9 (But.refl _ w3) (.inl (by simp)) (.int .i64 p4.op) (.int .u64 p4.set.a) (.int .u64 p4.set.b) (.int .u64 p4.set.c) (.int .u64 p4.set.d) (.int .i64 p4.lo) (.int .i64 p4.hi) (.int .i64 p4.gr) (.slice ad4 m4 cap4)) (fun i hi => by simp; have := HZ.out; omega)).self
end Go.Proofs.Ythnpbopnpdlmnaa

/- Compile of the program. -/
namespace Go.Proofs.Ythnpbopnpdlmnaa
open Go.RowKit
attribute [local go_sem] gives givesUpon

end Go.Proofs.Ythnpbopnpdlmnaa

/- Compile of the reference. -/
namespace Go.Proofs.Ythnpbopnpdlmnaa
open Go.RowKit
attribute [local go_sem] gives givesUpon

set_option maxRecDepth 100000 in
set_option maxHeartbeats 8000000 in
theorem CompileRef_any (t : Re) (lines : Bool) (w : World) (cs : List Value) (hIn : t.In w cs) (hsz : t.size ≤ 1048576) :
    Calls Try.prog 21 #[.agg cs.toArray, .bool lines] w (CPost t lines w) := by
  cases t with
  | mk p xs =>
    have hIn' := hIn
    rw [Re.In] at hIn
    obtain ⟨ad, cap, rfl, _⟩ := hIn
    simp only [Pay.cells]
    have HI := hid hIn'
    have HSZ := hid hsz
    have HW : Hid (Row ((w.alloc (.cells #[.int .i64 p.op, .int .u64 p.set.a, .int .u64 p.set.b, .int .u64 p.set.c, .int .u64 p.set.d, .int .i64 p.lo, .int .i64 p.hi, .int .i64 p.gr, .slice ad xs.length cap] 28)).alloc (.cells #[.slice none 0 0, .bool false] 59)) w.heap.size [.int .i64 p.op, .int .u64 p.set.a, .int .u64 p.set.b, .int .u64 p.set.c, .int .u64 p.set.d, .int .i64 p.lo, .int .i64 p.hi, .int .i64 p.gr, .slice ad xs.length cap] 28 ∧ Row ((w.alloc (.cells #[.int .i64 p.op, .int .u64 p.set.a, .int .u64 p.set.b, .int .u64 p.set.c, .int .u64 p.set.d, .int .i64 p.lo, .int .i64 p.hi, .int .i64 p.gr, .slice ad xs.length cap] 28)).alloc (.cells #[.slice none 0 0, .bool false] 59)) (w.heap.size + 1) [.slice none 0 0, .bool false] 59 ∧ Below w.heap.size w ((w.alloc (.cells #[.int .i64 p.op, .int .u64 p.set.a, .int .u64 p.set.b, .int .u64 p.set.c, .int .u64 p.set.d, .int .i64 p.lo, .int .i64 p.hi, .int .i64 p.gr, .slice ad xs.length cap] 28)).alloc (.cells #[.slice none 0 0, .bool false] 59))) :=
      ⟨(Row.new (cs := [.int .i64 p.op, .int .u64 p.set.a, .int .u64 p.set.b, .int .u64 p.set.c, .int .u64 p.set.d, .int .i64 p.lo, .int .i64 p.hi, .int .i64 p.gr, .slice ad xs.length cap]) rfl).alloc _, Row.new (cs := [.slice none 0 0, .bool false]) (by simp), ((Below.refl _ w).alloc (Nat.le_refl _) _).alloc (by simp) _⟩
    clear hIn' hsz
    go_enter Try.func21, Try.ntmps21
    go_wp2_with fail
    refine (CheckRef_any (.mk p xs) _ _ (HI.out.below HW.out.2.2) HSZ.out).mono ?_
    rintro e w1 ⟨rfl, hb⟩
    have HR1 := hid (HW.out.1.below hb (by simp; omega))
    have HP1 := hid (HW.out.2.1.below hb (by simp))
    have HB1 : Hid (Below w.heap.size w w1) := HW.out.2.2.trans (hb.mono (by simp; omega))
    have q1 := HR1.out.c9
    have q2 := HP1.out.c2
    have z1 := HR1.out.lt
    have z2 := HP1.out.lt
    clear hb HW
    rcases (show ((Re.mk p xs).err != 0) = true ∨ ((Re.mk p xs).err != 0) = false by cases ((Re.mk p xs).err != 0) <;> simp) with hd | hd
    · have hne : ¬ (Re.mk p xs).err = 0 := by simpa using hd
      have HF := hid (Re.compiled_err hne)
      have HNE := hid hne
      clear hne
      go_wp2_with fail
      refine ret_row2 4 59 5 rfl (w.heap.size + 1) rfl [.slice none 0 0, .bool false] (CellsAt.of_row (T := 59) (HP1.out.set2 _ _)) _ Try.underlying59 rfl (size_prog _ _) rfl ?_
      refine ⟨none, 0, 0, ?_, ?_, below2 HB1.out (by omega) _ _⟩
      · rw [HF.out]; simp [HNE.out]
      · rw [HF.out]; exact OwnI.nil _ _
    · have hz : (Re.mk p xs).err = 0 := by simpa using hd
      have HZ := hid hz
      clear hz
      go_wp2_with fail
      refine (BackRef_any (.mk p xs) _ _ (HI.out.below HB1.out) HSZ.out).mono ?_
      rintro e w2 ⟨rfl, hb⟩
      have HR2 := hid (HR1.out.below hb HR1.out.lt)
      have HP2 := hid (HP1.out.below hb HP1.out.lt)
      have HB2 : Hid (Below w.heap.size w w2) := HB1.out.trans (hb.mono (by omega))
      have z3 := HR2.out.lt
      have z4 := HP2.out.lt
      clear hb q1 q2 HR1 HP1
      have q1 := HR2.out.c9
      have q2 := HP2.out.c2
      rcases (show decide (0 < (Re.mk p xs).backs) = true ∨ decide (0 < (Re.mk p xs).backs) = false by cases decide (0 < (Re.mk p xs).backs) <;> simp) with hk | hk
      · have hk2 : 0 < (Re.mk p xs).backs := by simpa using hk
        have HF := hid (Re.compiled_back HZ.out hk2)
        clear hk2
        go_wp2_with fail
        refine ret_row2 4 59 5 rfl (w.heap.size + 1) rfl [.slice none 0 0, .bool false] (CellsAt.of_row (T := 59) (HP2.out.set2 _ _)) _ Try.underlying59 rfl (size_prog _ _) rfl ?_
        refine ⟨none, 0, 0, ?_, ?_, below2 HB2.out (by omega) _ _⟩
        · rw [HF.out]; simp
        · rw [HF.out]; exact OwnI.nil _ _
      · have hk2 : ¬ 0 < (Re.mk p xs).backs := by simpa using hk
        have HK := hid hk2
        clear hk2
        go_wp2_with fail
        refine (ExpandRef_any (.mk p xs) _ _ (HI.out.below HB2.out) HSZ.out).mono ?_
        rintro e w3 ⟨cs3, rfl, hin3, hb⟩
        have HR3 := hid (HR2.out.below hb HR2.out.lt)
        have HP3 := hid (HP2.out.below hb HP2.out.lt)
        have HB3 : Hid (Below w.heap.size w w3) := HB2.out.trans (hb.mono (by omega))
        have z5 := HR3.out.lt
        have z6 := HP3.out.lt
        have HIN3 := hid hin3
        obtain ⟨p3, ad3, m3, cap3, rfl⟩ := Re.cells_shape hin3
        have HFI := hid (Re.expandR_fine HZ.out)
        have HSE : Hid ((Re.mk p xs).expandR.1.size ≤ 4096) := Re.expandR_size
        clear hb q1 q2 HR2 HP2 hin3
        have q2 := HP3.out.c2
        have HX := hid (And.intro (@Re.compiled_much (.mk p xs)) (And.intro (@Re.compiled_long (.mk p xs)) (@Re.compiled_ok (.mk p xs))))
        generalize (Re.mk p xs).expandR = X at *
        obtain ⟨x3, e3⟩ := X
        simp only [] at *
        rcases (show (e3 != 0) = true ∨ (e3 != 0) = false by cases (e3 != 0) <;> simp) with he | he
        · have hne : ¬ e3 = 0 := by simpa using he
          have HF := hid (HX.out.1 HZ.out HK.out hne)
          have HNE := hid hne
          clear hne
          go_wp2_with fail
          refine ret_row2 4 59 5 rfl (w.heap.size + 1) rfl [.slice none 0 0, .bool false] (CellsAt.of_row (T := 59) ((HP3.out.set2 _ _).alloc _)) _ Try.underlying59 rfl (size_prog _ _) rfl ?_
          refine ⟨none, 0, 0, ?_, ?_, (below2 HB3.out (by omega) _ _).alloc (by simp; omega) _⟩
          · rw [HF.out]; simp [HNE.out]
          · rw [HF.out]; exact OwnI.nil _ _
        · have hz : e3 = 0 := by simpa using he
          obtain rfl := hz
          have HL := hid (HX.out.2.1 HZ.out HK.out rfl)
          have HO := hid (HX.out.2.2 HZ.out HK.out rfl)
          have hal := ((Below.refl w3.heap.size w3).alloc (Nat.le_refl _) (.cells #[.int .i64 p3.op, .int .u64 p3.set.a, .int .u64 p3.set.b, .int .u64 p3.set.c, .int .u64 p3.set.d, .int .i64 p3.lo, .int .i64 p3.hi, .int .i64 p3.gr, .slice ad3 m3 cap3] 28))
          have HTC := hid (codeR_any (wb := w3) (w3.heap.size + 1) (by omega) x3 HFI.out (by have := HSE.out; omega) _ _ (.slice none 0 0) [] HIN3.out hal (by simp) (OwnI.nil _ _) (by have := HSE.out; simp; omega))
          have HAL := hid hal
          clear hal
          go_wp2_with fail
          refine HTC.out.mono ?_
          unfold RPost
          rintro e w5 ⟨a1, n1, c1, L1, rfl, hL1, ho1, hg1, hf1⟩
          have hn1 : n1 = x3.csize := by have h := ho1.n; rw [hL1, List.nil_append, Re.gen_len] at h; exact h
          have hn1b : n1 ≤ 100000 := by have h1 := Re.csize_le x3; have h2 := HSE.out; omega
          have HB35 : Hid (Below w3.heap.size w3 w5) := HAL.out.trans (hf1.below HAL.out.size (fun g hg => (by cases hg)))
          have hz5 := HB35.out.size
          have hz35 : w3.heap.size + 1 ≤ w5.heap.size := by have := hf1.size; simp at this; omega
          have HN := hid hn1
          have HL1 := hid hL1
          have HO1 := hid ho1
          clear hn1 hL1 ho1 hg1 hf1 HTC HAL
          obtain ⟨i0, hi, hz0, hz1, hz2⟩ := info_parts info_inst
          go_wp2_with (at_builtin; refine wpList_append_row rfl _ _ 57 rfl (w3.heap.size + 1) 87 i0 (.agg #[.int .i64 0, .int .u64 0, .int .u64 0, .int .u64 0, .int .u64 0, .int .i64 0, .int .i64 0]) 7 56 Try.underlying57 hi hz0 hz1 hz2 rfl (by decide) _ n1 ((L1).flatMap Inst.cells) rfl (by exact HO1.out.row.alloc _) ⟨w5.heap.size, 0, none⟩ 1 1 [.int .i64 6, .int .u64 0, .int .u64 0, .int .u64 0, .int .u64 0, .int .i64 0, .int .i64 0] rfl rfl ?c1 ?c2 ?c3 ?c4 ?c5 (by decide) ?_)
          case c1 =>
            intro j u hj
            rw [Addr.add_lit, Nat.zero_add]
            exact (Row.new (w := w5) (cs := [.int .i64 6, .int .u64 0, .int .u64 0, .int .u64 0, .int .u64 0, .int .i64 0, .int .i64 0]) (T := 87) rfl).cell j ▸ hj
          case c2 => intro u hu; simp at hu; rcases hu with rfl | rfl | rfl | rfl | rfl | rfl | rfl <;> rfl
          case c3 => unfold maxLen; omega
          case c4 => omega
          case c5 => simp; omega
          intro a c w6 hown hgrow hnw
          obtain ⟨L2, hL2, hQ2⟩ := (OwnI.grew (I := ⟨6, Cs.none, 0, 0⟩) HO1.out (.cells #[.int .i64 6, .int .u64 0, .int .u64 0, .int .u64 0, .int .u64 0, .int .i64 0, .int .i64 0] 87) hown hgrow (fun g hg => (hnw g hg).imp id fun h => (by (try simp at h) <;> (try simp) <;> omega)))
          have HL2 := hid hL2
          have HQ2 := hid hQ2
          clear hL2 hQ2
          clear hown hgrow hnw
          clear hi hz0 hz1 hz2
          clear i0
          have HB36 : Hid (Below w3.heap.size w3 w6) := HB35.out.trans (HQ2.out.2.2.below hz5 (fun g hg => by have := (HO1.out.lt g hg).1; omega))
          have HP6 := hid (HP3.out.below HB36.out HP3.out.lt)
          have HB6 : Hid (Below w.heap.size w w6) := HB3.out.trans (HB36.out.mono (by omega))
          have q4 := HP6.out.c2
          have z8 := HP6.out.lt
          clear q2
          rcases (show decide (4096 < n1 + 1) = true ∨ decide (4096 < n1 + 1) = false by cases decide (4096 < n1 + 1) <;> simp) with dn | dn
          · have HF := hid (HL.out (by rw [← HN.out]; simpa using dn))
            have hdn : 4096 < n1 + 1 := by simpa using dn
            clear dn
            go_wp2_with fail
            refine ret_row2 4 59 5 rfl (w.heap.size + 1) rfl [.slice none 0 0, .bool false] (CellsAt.of_row (T := 59) (HP6.out.set2 _ _)) _ Try.underlying59 rfl (size_prog _ _) rfl ?_
            refine ⟨none, 0, 0, ?_, ?_, below2 HB6.out (by omega) _ _⟩
            · rw [HF.out]; simp
            · rw [HF.out]; exact OwnI.nil _ _
          · have hcn : ¬ 4096 < n1 + 1 := by simpa using dn
            have HF := hid (HO.out (by rw [← HN.out]; exact hcn))
            have HLL : Hid (L2 = x3.gen 0 ++ [Inst.of 6]) := by
              show _ = _
              rw [HL2.out, HL1.out]
              rfl
            clear dn
            go_wp2_with fail
            refine ret_row2 4 59 5 rfl (w.heap.size + 1) rfl [.slice a (n1 + 1) c, .bool lines] (CellsAt.of_row (T := 59) (HP6.out.set2 _ _)) _ Try.underlying59 rfl (size_prog _ _) rfl ?_
            refine ⟨a, (n1 + 1), c, ?_, ?_, below2 HB6.out (by omega) _ _⟩
            · rw [HF.out]; simp
            · rw [HF.out]; rw [← HLL.out]; exact (HQ2.out.1.set2 (by omega) _ _).weak (by omega)
end Go.Proofs.Ythnpbopnpdlmnaa

/- The makers of trees of the law before; the example: awake answers true. -/
namespace Go.Proofs.Ythnpbopnpdlmnaa
open Go.RowKit
attribute [local go_sem] gives givesUpon

def byteRe (c : UInt8) : Re := .mk ⟨2, Cs.of [c], 0, 0, 0⟩ []
theorem I64_of {n : Int} (h : -64 ≤ n ∧ n ≤ 64) : I64 n := ⟨by omega, by omega⟩
theorem byte_in (c : UInt8) (w : World) : (byteRe c).In w [.int .i64 2, .int .u64 (Cs.of [c]).a, .int .u64 (Cs.of [c]).b, .int .u64 (Cs.of [c]).c, .int .u64 (Cs.of [c]).d, .int .i64 0, .int .i64 0, .int .i64 0, .slice none 0 0] := ((OwnRes.nil w 0 (0 ≤ ·)).node (fun k hk => hk) ⟨2, Cs.of [c], 0, 0, 0⟩ ⟨I64_of (n := 2) (by omega), Cs.of_wf _, I64_of (n := 0) (by omega), I64_of (n := 0) (by omega), I64_of (n := 0) (by omega)⟩).self

set_option maxRecDepth 100000 in
set_option maxHeartbeats 2000000 in
theorem byte9_any (c : UInt8) (w : World) :
    Calls Try.prog 30 #[.int .u8 c.toNat] w fun e w' => e = .returned (.agg #[.int .i64 2, .int .u64 (Cs.of [c]).a, .int .u64 (Cs.of [c]).b, .int .u64 (Cs.of [c]).c, .int .u64 (Cs.of [c]).d, .int .i64 0, .int .i64 0, .int .i64 0, .slice none 0 0]) ∧ Below w.heap.size w w' := by
  have HW : Hid (Row ((w.alloc (.cells #[.int .i64 0, .int .u64 0, .int .u64 0, .int .u64 0, .int .u64 0, .int .i64 0, .int .i64 0, .int .i64 0, .slice none 0 0] 28)).alloc (.cells #[.int .u8 c.toNat] 5)) w.heap.size [.int .i64 0, .int .u64 0, .int .u64 0, .int .u64 0, .int .u64 0, .int .i64 0, .int .i64 0, .int .i64 0, .slice none 0 0] 28 ∧ Row ((w.alloc (.cells #[.int .i64 0, .int .u64 0, .int .u64 0, .int .u64 0, .int .u64 0, .int .i64 0, .int .i64 0, .int .i64 0, .slice none 0 0] 28)).alloc (.cells #[.int .u8 c.toNat] 5)) (w.heap.size + 1) [.int .u8 c.toNat] 5 ∧ Below w.heap.size w ((w.alloc (.cells #[.int .i64 0, .int .u64 0, .int .u64 0, .int .u64 0, .int .u64 0, .int .i64 0, .int .i64 0, .int .i64 0, .slice none 0 0] 28)).alloc (.cells #[.int .u8 c.toNat] 5))) :=
    ⟨(Row.new (cs := [.int .i64 0, .int .u64 0, .int .u64 0, .int .u64 0, .int .u64 0, .int .i64 0, .int .i64 0, .int .i64 0, .slice none 0 0]) rfl).alloc _, Row.new (cs := [.int .u8 c.toNat]) (by simp), ((Below.refl _ w).alloc (Nat.le_refl _) _).alloc (by simp) _⟩
  have hcv : (convert 101 9 (.slice (some ⟨w.heap.size + 1, 0, none⟩) 1 1)).run Try.prog ((w.alloc (.cells #[.int .i64 0, .int .u64 0, .int .u64 0, .int .u64 0, .int .u64 0, .int .i64 0, .int .i64 0, .int .i64 0, .slice none 0 0] 28)).alloc (.cells #[.int .u8 c.toNat] 5)) = .ok (.string ⟨#[c]⟩) ((w.alloc (.cells #[.int .i64 0, .int .u64 0, .int .u64 0, .int .u64 0, .int .u64 0, .int .i64 0, .int .i64 0, .int .i64 0, .slice none 0 0] 28)).alloc (.cells #[.int .u8 c.toNat] 5)) :=
    run_convert_bytes_back _ _ _ 5 ⟨w.heap.size + 1, 0, none⟩ 1 [c] Try.underlying101 Try.underlying5 Try.underlying9 (fun j hj => by
      have hj0 : j = 0 := by simp at hj; exact hj
      subst hj0
      rw [Addr.add_lit]
      exact HW.out.2.1.cell 0)
  go_enter Try.func30, Try.ntmps30
  go_wp2_with fail
  refine (Of_any ⟨#[c]⟩ _ (by show 1 ≤ _; omega)).mono ?_
  rintro e w1 ⟨rfl, hb⟩
  have hr := HW.out.1.below hb (by simp; omega)
  have q1 := hr.c9
  have z1 := hr.lt
  have HR := hid hr
  have HB : Hid (Below w.heap.size w w1) := HW.out.2.2.trans (hb.mono (by simp; omega))
  have hof := Cs.of_wf [c]
  clear hb hr hcv HW
  have e0 : (ByteArray.mk #[c]).data.toList = [c] := rfl
  rw [e0]
  generalize hS : Cs.of [c] = S at *
  have HS := hid hS
  clear hS hof
  go_wp2_with fail
  refine ret_row 2 28 rfl w.heap.size rfl [.int .i64 2, .int .u64 S.a, .int .u64 S.b, .int .u64 S.c, .int .u64 S.d, .int .i64 0, .int .i64 0, .int .i64 0, .slice none 0 0] (CellsAt.of_row (T := 28) (HR.out.set9 _ _ _ _ _ _ _ _ _)) _ Try.underlying28 rfl (size_relen rfl) rfl ?_
  rw [HS.out]
  exact ⟨rfl, below9 HB.out (Nat.le_refl _) _ _ _ _ _ _ _ _ _⟩

set_option maxHeartbeats 2000000 in
theorem node9_any (op : Int) (ad : Option Addr) (n cap : Nat) (w : World) :
    Calls Try.prog 13 #[.int .i64 op, .slice ad n cap] w fun e w' => e = .returned (.agg #[.int .i64 op, .int .u64 0, .int .u64 0, .int .u64 0, .int .u64 0, .int .i64 0, .int .i64 0, .int .i64 0, .slice ad n cap]) ∧ Below w.heap.size w w' := by
  go_enter Try.func13, Try.ntmps13
  go_wp2_with fail
  refine ret_row 4 28 rfl w.heap.size rfl [.int .i64 op, .int .u64 0, .int .u64 0, .int .u64 0, .int .u64 0, .int .i64 0, .int .i64 0, .int .i64 0, .slice ad n cap] (CellsAt.of_row (T := 28) (Row.at _ _ _)) _ Try.underlying28 rfl (size_relen rfl) rfl ?_
  exact ⟨rfl, (Below.refl _ w).alloc (Nat.le_refl _) _⟩

theorem node2_in {w : World} {B : Nat} {p : Pay} {t1 t2 : Re} {c1 c2 cs : List Value} (hp : p.wf) (hr : Row w B (c1 ++ c2) 28) (h1 : t1.In w c1) (h2 : t2.In w c2) (hc : cs = p.cells (.slice (some ⟨B, 0, none⟩) 2 2)) : (Re.mk p [t1, t2]).In w cs := by
  subst hc
  rw [Re.In]
  have n1 := h1.nine
  refine ⟨some ⟨B, 0, none⟩, 2, rfl, hp, Nat.le_refl _, by decide, (fun h => by cases h), ?_⟩
  rw [Re.AllIn, Re.AllIn, Re.AllIn]
  refine ⟨⟨B, 0, c1, rfl, fun j v hj => ?_, h1⟩, ⟨B, 0, c2, rfl, fun j v hj => ?_, h2⟩, trivial⟩
  · have hjl := (List.getElem?_eq_some_iff.1 hj).1
    rw [hr.cell, List.getElem?_append_left (by omega)]
    simpa using hj
  · rw [hr.cell, List.getElem?_append_right (by omega), ← hj]
    congr 1
    omega

def E1 : Re := .mk (Pay.ofRep 0 (-1)) [.mk (Pay.of 4) [byteRe 97, byteRe 98]]
end Go.Proofs.Ythnpbopnpdlmnaa

/- The example of layer 11, plainly: the program of a|ab. -/
namespace Go.Proofs.Ythnpbopnpdlmnaa
open Go.RowKit

def E11 : Re := .mk (Pay.of 4) [byteRe 97, .mk (Pay.of 3) [byteRe 97, byteRe 98]]
def L6 : List Inst := [isplit 1 3, ⟨1, Cs.of [97], 0, 0⟩, ijump 5, ⟨1, Cs.of [97], 0, 0⟩, ⟨1, Cs.of [98], 0, 0⟩, Inst.of 6]
theorem E11_comp : E11.compiled = (L6, 0) := by decide
def e6 (k : Nat) : List Nat := if k = 0 then [3, 1] else if k = 2 then [5] else []
section
variable {m : Sim}
theorem inst6 (hL : m.L = L6) (k : Nat) : m.inst k = L6.getD k (Inst.of 0) := by unfold Sim.inst; rw [hL]
theorem eps6 (hL : m.L = L6) (i k : Nat) (hk : k < 6) : m.eps i k = e6 k := by
  have h : k = 0 ∨ k = 1 ∨ k = 2 ∨ k = 3 ∨ k = 4 ∨ k = 5 := by omega
  unfold Sim.eps
  rw [inst6 hL]
  rcases h with rfl | rfl | rfl | rfl | rfl | rfl <;> rfl
theorem reach6 (hL : m.L = L6) {i k : Nat} {S : Nat → Prop} (V : List Nat) (h0 : ∀ x, S x → x ∈ V) (h1 : ∀ x, x ∈ V → x < 6 ∧ ∀ j, j ∈ e6 x → j ∈ V) (h : m.Reach i S k) : k ∈ V :=
  Sim.Reach.least (V := fun k => k ∈ V) h0 (fun x hx j hj => by rw [eps6 hL i x (h1 x hx).1] at hj; exact (h1 x hx).2 j hj) h
theorem R6_0 (hL : m.L = L6) {f k : Nat} (h : m.R f 0 k) : k ∈ [0, 1, 3] :=
  reach6 hL [0, 1, 3] (fun x (hx : x = 0) => by subst hx; decide) (by decide) h
theorem R6_1 (hL : m.L = L6) {f k : Nat} (_hb : m.byte f = 97) (h : m.R f 1 k) : k ∈ [2, 4, 5] := by
  refine reach6 hL [2, 4, 5] (fun x ⟨j, h1, h2, h3⟩ => ?_) (by decide) h
  have hj := R6_0 hL h1
  subst h3
  have h4 : j = 0 ∨ j = 1 ∨ j = 3 := by simpa using hj
  rcases h4 with rfl | rfl | rfl
  · have h5 := h2.1
    rw [inst6 hL] at h5
    exact absurd h5 (by decide)
  · decide
  · decide
theorem R6_dead (hL : m.L = L6) {f : Nat} (hb : m.byte f = 120) : ∀ n k, ¬ m.R f (n + 1) k
  | 0, k, h => by
    obtain ⟨x, ⟨j, h1, h2, h3⟩, -⟩ := Sim.Reach.split h
    have hj := R6_0 hL h1
    have h4 : j = 0 ∨ j = 1 ∨ j = 3 := by simpa using hj
    have h5 := h2.1
    have h6 := h2.2
    rw [Nat.add_zero, hb] at h6
    rw [inst6 hL] at h5 h6
    rcases h4 with rfl | rfl | rfl
    · exact absurd h5 (by decide)
    · exact absurd h6 (by decide)
    · exact absurd h6 (by decide)
  | n + 1, k, h => by
    obtain ⟨x, ⟨j, h1, -⟩, -⟩ := Sim.Reach.split h
    exact R6_dead hL hb n j h1
theorem take6 (hL : m.L = L6) {i k : Nat} (h1 : (L6.getD k (Inst.of 0)).op = 1) (h2 : (L6.getD k (Inst.of 0)).set.has (m.byte i) = true) : m.takes i k := by
  unfold Sim.takes
  rw [inst6 hL]
  exact ⟨h1, h2⟩
theorem R6_a (hL : m.L = L6) {f : Nat} (hb : m.byte f = 97) : m.R f 1 4 ∧ m.R f 1 5 := by
  have h0 : m.R f 0 0 := .base rfl
  have h3 : m.R f 0 3 := .step h0 (by rw [eps6 hL f 0 (by decide)]; decide)
  have h1 : m.R f 0 1 := .step h0 (by rw [eps6 hL f 0 (by decide)]; decide)
  refine ⟨.base ⟨3, h3, take6 hL rfl (by rw [Nat.add_zero, hb]; decide), rfl⟩, ?_⟩
  exact .step (k := 2) (.base ⟨1, h1, take6 hL rfl (by rw [Nat.add_zero, hb]; decide), rfl⟩) (by rw [eps6 hL _ 2 (by decide)]; decide)
theorem R6_b (hL : m.L = L6) {f : Nat} (hb : m.byte f = 97) (hc : m.byte (f + 1) = 98) : m.R f 2 5 :=
  .base ⟨4, (R6_a hL hb).1, take6 hL rfl (by rw [hc]; decide), rfl⟩
theorem hit6 (hL : m.L = L6) {f : Nat} (hb : m.byte f = 97) (hc : m.byte (f + 1) = 98) : hit m f (f + 2) :=
  ⟨5, by rw [inst6 hL]; rfl, by rw [show f + 2 - f = 2 by omega]; exact R6_b hL hb hc⟩
end
def m2 : Sim := ⟨L6, false, [97, 98]⟩
def m3 : Sim := ⟨L6, false, [120, 97, 98]⟩
theorem long_m2 {b : Option Nat} (h : Long m2 0 3 b) : b = some 2 :=
  h.unique (b' := some 2) ⟨by omega, by omega, hit6 (m := m2) (f := 0) rfl rfl rfl, fun j h1 h2 => by omega⟩
theorem th_m2 {ts : List Nat} (h : IsTh m2 0 1 ts) : ts.length = 2 := by
  have hr : rightAll m2.L := by
    have := Re.compiled_right (t := E11) (by rw [E11_comp])
    rw [E11_comp] at this
    exact this
  have e : ts = [4, 5] := by
    refine asc_unique ts [4, 5] h.1 (by decide) fun k => ?_
    rw [h.2]
    constructor
    · rintro ⟨-, -, -, -, h1, h2⟩
      have h3 := R6_1 (m := m2) rfl (f := 0) rfl h2
      have h4 : k = 2 ∨ k = 4 ∨ k = 5 := by simpa using h3
      rcases h4 with rfl | rfl | rfl
      · have h5 : (3 : Int) = 1 ∨ (3 : Int) = 6 := h1
        omega
      · simp
      · simp
    · intro hk
      have h4 : k = 4 ∨ k = 5 := by simpa using hk
      refine ⟨hr, by decide, by decide, by decide, ?_, ?_⟩
      · rcases h4 with rfl | rfl
        · exact .inl rfl
        · exact .inr rfl
      · rcases h4 with rfl | rfl
        · exact (R6_a (m := m2) rfl (f := 0) rfl).1
        · exact (R6_a (m := m2) rfl (f := 0) rfl).2
  rw [e]
  rfl
theorem best_m3 {b : Option (Nat × Nat)} (h : Best m3 0 4 b) : b = some (1, 3) := by
  refine h.unique (b' := some (1, 3)) ⟨by omega, by omega, by omega, hit6 (m := m3) (f := 1) rfl rfl rfl, fun j h1 h2 => by omega, fun f j h1 h2 h3 h4 hh => ?_⟩
  obtain rfl : f = 0 := by omega
  obtain ⟨k, hk, hr⟩ := hh
  match j, hr with
  | 0, hr =>
    have h5 := R6_0 (m := m3) rfl hr
    have h6 : k = 0 ∨ k = 1 ∨ k = 3 := by simpa using h5
    rcases h6 with rfl | rfl | rfl
    · exact absurd (show (2 : Int) = 6 from hk) (by decide)
    · exact absurd (show (1 : Int) = 6 from hk) (by decide)
    · exact absurd (show (1 : Int) = 6 from hk) (by decide)
  | j + 1, hr => exact R6_dead (m := m3) rfl (f := 0) rfl j k hr
end Go.Proofs.Ythnpbopnpdlmnaa

/- The library's contracts, laid at this dump (written by the kit's lay-plain.mjs; names for numbers by laytpl.py). -/
namespace Go.Proofs
open Go.Shelf
def Try.lays189_ren : Go.Shelf.Ren := ⟨fun | 189 => 62 | 125 => 92 | 257 => 91 | 128 => 116 | 129 => 117 | 294 => 107 | 295 => 108 | 296 => 109 | 297 => 110 | 298 => 111 | 299 => 112 | 216 => 113 | 300 => 114 | 301 => 115 | 328 => 119 | 329 => 120 | 330 => 121 | 331 => 122 | 332 => 123 | 215 => 124 | 343 => 125 | n => n, fun | 28 => 69 | 3 => 3 | 46 => 145 | 0 => 0 | 51 => 162 | 53 => 22 | 4 => 4 | 183 => 156 | 182 => 155 | 131 => 62 | 5 => 5 | 9 => 9 | 218 => 164 | 222 => 168 | 228 => 170 | 229 => 171 | n => n, fun | n => n⟩
theorem Try.lays189 : Go.Proofs.Lays.n189 Try.prog Try.lays189_ren := {
  mixed := by kernel_rfl
  f125 := Try.func92.trans (congrArg some (by kernel_rfl))
  f128 := Try.func116.trans (congrArg some (by kernel_rfl))
  f129 := Try.func117.trans (congrArg some (by kernel_rfl))
  f189 := Try.func62.trans (congrArg some (by kernel_rfl))
  f215 := Try.func124.trans (congrArg some (by kernel_rfl))
  f216 := Try.func113.trans (congrArg some (by kernel_rfl))
  f257 := Try.func91.trans (congrArg some (by kernel_rfl))
  f294 := Try.func107.trans (congrArg some (by kernel_rfl))
  f295 := Try.func108.trans (congrArg some (by kernel_rfl))
  f296 := Try.func109.trans (congrArg some (by kernel_rfl))
  f297 := Try.func110.trans (congrArg some (by kernel_rfl))
  f298 := Try.func111.trans (congrArg some (by kernel_rfl))
  f299 := Try.func112.trans (congrArg some (by kernel_rfl))
  f300 := Try.func114.trans (congrArg some (by kernel_rfl))
  f301 := Try.func115.trans (congrArg some (by kernel_rfl))
  f328 := Try.func119.trans (congrArg some (by kernel_rfl))
  f329 := Try.func120.trans (congrArg some (by kernel_rfl))
  f330 := Try.func121.trans (congrArg some (by kernel_rfl))
  f331 := Try.func122.trans (congrArg some (by kernel_rfl))
  f332 := Try.func123.trans (congrArg some (by kernel_rfl))
  f343 := Try.func125.trans (congrArg some (by kernel_rfl))
  t0 := Try.underlying0
  a0 := Try.isAgg0
  z0 := Try.sizeOf0
  v0 := Try.zeroValue0
  t3 := Try.underlying3
  a3 := Try.isAgg3
  z3 := Try.sizeOf3
  v3 := Try.zeroValue3
  t4 := Try.underlying4
  a4 := Try.isAgg4
  z4 := Try.sizeOf4
  v4 := Try.zeroValue4
  t5 := Try.underlying5
  a5 := Try.isAgg5
  z5 := Try.sizeOf5
  v5 := Try.zeroValue5
  t9 := Try.underlying9
  a9 := Try.isAgg9
  z9 := Try.sizeOf9
  v9 := Try.zeroValue9
  t28 := Try.underlying69
  a28 := Try.isAgg69
  z28 := Try.sizeOf69
  v28 := Try.zeroValue69
  t46 := Try.underlying145
  a46 := Try.isAgg145
  z46 := Try.sizeOf145
  v46 := Try.zeroValue145
  t51 := Try.underlying162
  a51 := Try.isAgg162
  z51 := Try.sizeOf162
  v51 := Try.zeroValue162
  t53 := Try.underlying22
  a53 := Try.isAgg22
  z53 := Try.sizeOf22
  v53 := Try.zeroValue22
  t131 := Try.underlying62
  a131 := Try.isAgg62
  z131 := Try.sizeOf62
  v131 := Try.zeroValue62
  t182 := Try.underlying155
  a182 := Try.isAgg155
  z182 := Try.sizeOf155
  v182 := Try.zeroValue155
  t183 := Try.underlying156
  a183 := Try.isAgg156
  z183 := Try.sizeOf156
  v183 := Try.zeroValue156
  t218 := Try.underlying164
  a218 := Try.isAgg164
  z218 := Try.sizeOf164
  v218 := Try.zeroValue164
  t222 := Try.underlying168
  a222 := Try.isAgg168
  z222 := Try.sizeOf168
  v222 := Try.zeroValue168
  t228 := Try.underlying170
  a228 := Try.isAgg170
  z228 := Try.sizeOf170
  v228 := Try.zeroValue170
  t229 := Try.underlying171
  a229 := Try.isAgg171
  z229 := Try.sizeOf171
  v229 := Try.zeroValue171 }
open Go.Sort Go.RowKit in
theorem Try.slices_Sort_int (blk off cap : Nat) (zs : List Int) (w : World) (hH : Holds (Value.int .i64) w blk off zs.toArray) (hblk : blk < w.heap.size) (hsz : zs.length < 4611686018427387904) :
    Calls Try.prog 62 #[.slice (some ⟨blk, off, none⟩) zs.length cap] w fun e w' =>
      e = .returned (.tuple #[]) ∧ ∃ n os, w' = grow (putRow (Value.int .i64) (Sort.ahead w n) blk off (zs.mergeSort fun x y => decide (x ≤ y)).toArray) os := Any.slices_Sort_int Try.lays189 blk off cap zs w hH hblk hsz
open Go.RowKit Go.Sort in
theorem Try.slices_Sort_int_none (p : Option Addr) (cap : Nat) (w : World) :
    Calls Try.prog 62 #[.slice p 0 cap] w fun e w' => e = .returned (.tuple #[]) ∧ w' = w := Any.slices_Sort_int_none Try.lays189 p cap w
end Go.Proofs
