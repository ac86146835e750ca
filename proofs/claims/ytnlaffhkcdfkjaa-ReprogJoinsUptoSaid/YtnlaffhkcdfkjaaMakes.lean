/- Compile of the program. -/
import Derived.Test.YtnlaffhkcdfkjaaFine
import Derived.Test.YtnlaffhkcdfkjaaCheckEnd
import Derived.Test.YtnlaffhkcdfkjaaCheckRef
import Derived.Test.YtnlaffhkcdfkjaaExpRef
namespace Go.Proofs.Ytnlaffhkcdfkjaa
open Go.RowKit
attribute [local go_sem] gives givesUpon

set_option maxRecDepth 100000 in
set_option maxHeartbeats 8000000 in
theorem Compile_any (t : Re) (lines : Bool) (w : World) (cs : List Value) (hIn : t.In w cs) (hsz : t.size ≤ 1048576) :
    Calls Try.prog 7 #[.agg cs.toArray, .bool lines] w (CPost t lines w) := by
  cases t with
  | mk p xs =>
    have hIn' := hIn
    rw [Re.In] at hIn
    obtain ⟨ad, cap, rfl, _⟩ := hIn
    simp only [Pay.cells]
    have HI := hid hIn'
    have HSZ := hid hsz
    have HW : Hid (Row ((w.alloc (.cells #[.int .i64 p.op, .int .u64 p.set.a, .int .u64 p.set.b, .int .u64 p.set.c, .int .u64 p.set.d, .int .i64 p.lo, .int .i64 p.hi, .int .i64 p.gr, .slice ad xs.length cap] 28)).alloc (.cells #[.slice none 0 0, .bool false] 31)) w.heap.size [.int .i64 p.op, .int .u64 p.set.a, .int .u64 p.set.b, .int .u64 p.set.c, .int .u64 p.set.d, .int .i64 p.lo, .int .i64 p.hi, .int .i64 p.gr, .slice ad xs.length cap] 28 ∧ Row ((w.alloc (.cells #[.int .i64 p.op, .int .u64 p.set.a, .int .u64 p.set.b, .int .u64 p.set.c, .int .u64 p.set.d, .int .i64 p.lo, .int .i64 p.hi, .int .i64 p.gr, .slice ad xs.length cap] 28)).alloc (.cells #[.slice none 0 0, .bool false] 31)) (w.heap.size + 1) [.slice none 0 0, .bool false] 31 ∧ Below w.heap.size w ((w.alloc (.cells #[.int .i64 p.op, .int .u64 p.set.a, .int .u64 p.set.b, .int .u64 p.set.c, .int .u64 p.set.d, .int .i64 p.lo, .int .i64 p.hi, .int .i64 p.gr, .slice ad xs.length cap] 28)).alloc (.cells #[.slice none 0 0, .bool false] 31))) :=
      ⟨(Row.new (cs := [.int .i64 p.op, .int .u64 p.set.a, .int .u64 p.set.b, .int .u64 p.set.c, .int .u64 p.set.d, .int .i64 p.lo, .int .i64 p.hi, .int .i64 p.gr, .slice ad xs.length cap]) rfl).alloc _, Row.new (cs := [.slice none 0 0, .bool false]) (by simp), ((Below.refl _ w).alloc (Nat.le_refl _) _).alloc (by simp) _⟩
    clear hIn' hsz
    go_enter Try.func7, Try.ntmps7
    go_wp2_with fail
    refine (Check_any (.mk p xs) _ _ (HI.out.below HW.out.2.2) HSZ.out).mono ?_
    rintro e w1 ⟨rfl, hb⟩
    have HR1 := hid (HW.out.1.below hb (by simp; omega))
    have HP1 := hid (HW.out.2.1.below hb (by simp))
    have HB1 : Hid (Below w.heap.size w w1) := HW.out.2.2.trans (hb.mono (by simp; omega))
    have q1 := HR1.out.c9
    have q2 := HP1.out.c2
    have z1 := HR1.out.lt
    have z2 := HP1.out.lt
    clear hb HW
    rcases (show ((Re.mk p xs).err != 0) = true ∨ ((Re.mk p xs).err != 0) = false by cases ((Re.mk p xs).err != 0) <;> simp) with hd | hd
    · have hne : ¬ (Re.mk p xs).err = 0 := by simpa using hd
      have HF := hid (Re.compiled_err hne)
      have HNE := hid hne
      clear hne
      go_wp2_with fail
      refine ret_row2 4 31 5 rfl (w.heap.size + 1) rfl [.slice none 0 0, .bool false] (CellsAt.of_row (T := 31) (HP1.out.set2 _ _)) _ Try.underlying31 rfl (size_prog _ _) rfl ?_
      refine ⟨none, 0, 0, ?_, ?_, below2 HB1.out (by omega) _ _⟩
      · rw [HF.out]; simp [HNE.out]
      · rw [HF.out]; exact OwnI.nil _ _
    · have hz : (Re.mk p xs).err = 0 := by simpa using hd
      have HZ := hid hz
      clear hz
      go_wp2_with fail
      refine (Back_any (.mk p xs) _ _ (HI.out.below HB1.out) HSZ.out).mono ?_
      rintro e w2 ⟨rfl, hb⟩
      have HR2 := hid (HR1.out.below hb HR1.out.lt)
      have HP2 := hid (HP1.out.below hb HP1.out.lt)
      have HB2 : Hid (Below w.heap.size w w2) := HB1.out.trans (hb.mono (by omega))
      have z3 := HR2.out.lt
      have z4 := HP2.out.lt
      clear hb q1 q2 HR1 HP1
      have q1 := HR2.out.c9
      have q2 := HP2.out.c2
      rcases (show decide (0 < (Re.mk p xs).backs) = true ∨ decide (0 < (Re.mk p xs).backs) = false by cases decide (0 < (Re.mk p xs).backs) <;> simp) with hk | hk
      · have hk2 : 0 < (Re.mk p xs).backs := by simpa using hk
        have HF := hid (Re.compiled_back HZ.out hk2)
        clear hk2
        go_wp2_with fail
        refine ret_row2 4 31 5 rfl (w.heap.size + 1) rfl [.slice none 0 0, .bool false] (CellsAt.of_row (T := 31) (HP2.out.set2 _ _)) _ Try.underlying31 rfl (size_prog _ _) rfl ?_
        refine ⟨none, 0, 0, ?_, ?_, below2 HB2.out (by omega) _ _⟩
        · rw [HF.out]; simp
        · rw [HF.out]; exact OwnI.nil _ _
      · have hk2 : ¬ 0 < (Re.mk p xs).backs := by simpa using hk
        have HK := hid hk2
        clear hk2
        go_wp2_with fail
        refine (Expand_any (.mk p xs) _ _ (HI.out.below HB2.out) HSZ.out).mono ?_
        rintro e w3 ⟨cs3, rfl, hin3, hb⟩
        have HR3 := hid (HR2.out.below hb HR2.out.lt)
        have HP3 := hid (HP2.out.below hb HP2.out.lt)
        have HB3 : Hid (Below w.heap.size w w3) := HB2.out.trans (hb.mono (by omega))
        have z5 := HR3.out.lt
        have z6 := HP3.out.lt
        have HIN3 := hid hin3
        obtain ⟨p3, ad3, m3, cap3, rfl⟩ := Re.cells_shape hin3
        have HFI := hid (Re.expandR_fine HZ.out)
        have HSE : Hid ((Re.mk p xs).expandR.1.size ≤ 4096) := Re.expandR_size
        clear hb q1 q2 HR2 HP2 hin3
        have q2 := HP3.out.c2
        have HX := hid (And.intro (@Re.compiled_much (.mk p xs)) (And.intro (@Re.compiled_long (.mk p xs)) (@Re.compiled_ok (.mk p xs))))
        generalize (Re.mk p xs).expandR = X at *
        obtain ⟨x3, e3⟩ := X
        simp only [] at *
        rcases (show (e3 != 0) = true ∨ (e3 != 0) = false by cases (e3 != 0) <;> simp) with he | he
        · have hne : ¬ e3 = 0 := by simpa using he
          have HF := hid (HX.out.1 HZ.out HK.out hne)
          have HNE := hid hne
          clear hne
          go_wp2_with fail
          refine ret_row2 4 31 5 rfl (w.heap.size + 1) rfl [.slice none 0 0, .bool false] (CellsAt.of_row (T := 31) ((HP3.out.set2 _ _).alloc _)) _ Try.underlying31 rfl (size_prog _ _) rfl ?_
          refine ⟨none, 0, 0, ?_, ?_, (below2 HB3.out (by omega) _ _).alloc (by simp; omega) _⟩
          · rw [HF.out]; simp [HNE.out]
          · rw [HF.out]; exact OwnI.nil _ _
        · have hz : e3 = 0 := by simpa using he
          obtain rfl := hz
          have HL := hid (HX.out.2.1 HZ.out HK.out rfl)
          have HO := hid (HX.out.2.2 HZ.out HK.out rfl)
          have hal := ((Below.refl w3.heap.size w3).alloc (Nat.le_refl _) (.cells #[.int .i64 p3.op, .int .u64 p3.set.a, .int .u64 p3.set.b, .int .u64 p3.set.c, .int .u64 p3.set.d, .int .i64 p3.lo, .int .i64 p3.hi, .int .i64 p3.gr, .slice ad3 m3 cap3] 28)).alloc (by simp) (.cells #[.slice none 0 0, .bool false] 51)
          have HBLD : Hid (BldAt ((w3.alloc (.cells #[.int .i64 p3.op, .int .u64 p3.set.a, .int .u64 p3.set.b, .int .u64 p3.set.c, .int .u64 p3.set.d, .int .i64 p3.lo, .int .i64 p3.hi, .int .i64 p3.gr, .slice ad3 m3 cap3] 28)).alloc (.cells #[.slice none 0 0, .bool false] 51)) (w3.heap.size + 1) none [] false) := ⟨none, 0, Row.new (cs := [.slice none 0 0, .bool false]) (by simp), OwnI.nil _ _, by simp, rfl⟩
          have HTC := hid (btree_any (wb := w3) (w3.heap.size + 1) (by omega) x3 HFI.out (by have := HSE.out; omega) _ _ none [] false HIN3.out hal HBLD.out (fun e => (by cases e)))
          have HAL := hid hal
          clear hal
          go_wp2_with fail
          refine HTC.out.mono ?_
          unfold TPost BPost
          rintro e w5 ⟨L1, o1, rfl, hs1, go1, hb1, hg1, hf1⟩
          have HST := hid (hs1.trans (StR.add (L := L1) (ov := o1) ⟨6, Cs.none, 0, 0⟩ hs1.full hb1.len) (Re.gen_len x3))
          have HAD := hid (addLit_any (w3.heap.size + 1) 6 0 0 L1 o1 w5 go1 hb1)
          have HF1 := hid hf1
          have HG1 := hid hg1
          clear hs1 hb1 hg1 hf1 HTC HBLD
          go_wp2_with fail
          refine HAD.out.mono ?_
          unfold BPost
          rintro e w6 ⟨rfl, go2, hb2, hg2, hf2⟩
          have HB36 : Hid (Below w3.heap.size w3 w6) := HAL.out.trans ((HF1.out.trans HG1.out hf2).below HAL.out.size (by omega) (fun g hg => (by cases hg)))
          have HP6 := hid (HP3.out.below HB36.out HP3.out.lt)
          have HB6 : Hid (Below w.heap.size w w6) := HB3.out.trans (HB36.out.mono (by omega))
          obtain ⟨a, c, k1, k2, k3, k4⟩ := hb2
          have q3 := k1.c2
          have q4 := HP6.out.c2
          have z7 := k1.lt
          have z8 := HP6.out.lt
          have HOW := hid k2
          generalize addL L1 ⟨6, Cs.none, 0, 0⟩ = L2 at *
          generalize addO L1 o1 = o2 at *
          clear k1 k2 k4 hg2 hf2 HAD HF1 HG1 q2
          cases o2 with
          | true =>
            have HF := hid (HL.out (by
              rcases Nat.lt_or_ge 4096 (x3.csize + 1) with h | h
              · exact h
              · have h2 := (HST.out.fit rfl (by simpa using h)).2
                cases h2))
            go_wp2_with fail
            refine ret_row2 4 31 5 rfl (w.heap.size + 1) rfl [.slice none 0 0, .bool false] (CellsAt.of_row (T := 31) (HP6.out.set2 _ _)) _ Try.underlying31 rfl (size_prog _ _) rfl ?_
            refine ⟨none, 0, 0, ?_, ?_, below2 HB6.out (by omega) _ _⟩
            · rw [HF.out]; simp
            · rw [HF.out]; exact OwnI.nil _ _
          | false =>
            have hcn : ¬ 4096 < x3.csize + 1 := fun h => by
              have h2 := HST.out.over rfl (by simpa using h)
              cases h2
            have HF := hid (HO.out hcn)
            have HLL : Hid (L2 = x3.gen 0 ++ [Inst.of 6]) := by
              have h := (HST.out.fit rfl (by simp; omega)).1
              show _ = _
              rw [h]
              rfl
            go_wp2_with fail
            refine ret_row2 4 31 5 rfl (w.heap.size + 1) rfl [.slice a L2.length c, .bool lines] (CellsAt.of_row (T := 31) (HP6.out.set2 _ _)) _ Try.underlying31 rfl (size_prog _ _) rfl ?_
            refine ⟨a, L2.length, c, ?_, ?_, below2 HB6.out (by omega) _ _⟩
            · rw [HF.out]; simp
            · rw [HF.out]; rw [← HLL.out]; exact (HOW.out.set2 (by omega) _ _).weak (by omega)
end Go.Proofs.Ytnlaffhkcdfkjaa

/- Compile of the reference. -/
namespace Go.Proofs.Ytnlaffhkcdfkjaa
open Go.RowKit
attribute [local go_sem] gives givesUpon

set_option maxRecDepth 100000 in
set_option maxHeartbeats 8000000 in
theorem CompileRef_any (t : Re) (lines : Bool) (w : World) (cs : List Value) (hIn : t.In w cs) (hsz : t.size ≤ 1048576) :
    Calls Try.prog 8 #[.agg cs.toArray, .bool lines] w (CPost t lines w) := by
  cases t with
  | mk p xs =>
    have hIn' := hIn
    rw [Re.In] at hIn
    obtain ⟨ad, cap, rfl, _⟩ := hIn
    simp only [Pay.cells]
    have HI := hid hIn'
    have HSZ := hid hsz
    have HW : Hid (Row ((w.alloc (.cells #[.int .i64 p.op, .int .u64 p.set.a, .int .u64 p.set.b, .int .u64 p.set.c, .int .u64 p.set.d, .int .i64 p.lo, .int .i64 p.hi, .int .i64 p.gr, .slice ad xs.length cap] 28)).alloc (.cells #[.slice none 0 0, .bool false] 31)) w.heap.size [.int .i64 p.op, .int .u64 p.set.a, .int .u64 p.set.b, .int .u64 p.set.c, .int .u64 p.set.d, .int .i64 p.lo, .int .i64 p.hi, .int .i64 p.gr, .slice ad xs.length cap] 28 ∧ Row ((w.alloc (.cells #[.int .i64 p.op, .int .u64 p.set.a, .int .u64 p.set.b, .int .u64 p.set.c, .int .u64 p.set.d, .int .i64 p.lo, .int .i64 p.hi, .int .i64 p.gr, .slice ad xs.length cap] 28)).alloc (.cells #[.slice none 0 0, .bool false] 31)) (w.heap.size + 1) [.slice none 0 0, .bool false] 31 ∧ Below w.heap.size w ((w.alloc (.cells #[.int .i64 p.op, .int .u64 p.set.a, .int .u64 p.set.b, .int .u64 p.set.c, .int .u64 p.set.d, .int .i64 p.lo, .int .i64 p.hi, .int .i64 p.gr, .slice ad xs.length cap] 28)).alloc (.cells #[.slice none 0 0, .bool false] 31))) :=
      ⟨(Row.new (cs := [.int .i64 p.op, .int .u64 p.set.a, .int .u64 p.set.b, .int .u64 p.set.c, .int .u64 p.set.d, .int .i64 p.lo, .int .i64 p.hi, .int .i64 p.gr, .slice ad xs.length cap]) rfl).alloc _, Row.new (cs := [.slice none 0 0, .bool false]) (by simp), ((Below.refl _ w).alloc (Nat.le_refl _) _).alloc (by simp) _⟩
    clear hIn' hsz
    go_enter Try.func8, Try.ntmps8
    go_wp2_with fail
    refine (CheckRef_any (.mk p xs) _ _ (HI.out.below HW.out.2.2) HSZ.out).mono ?_
    rintro e w1 ⟨rfl, hb⟩
    have HR1 := hid (HW.out.1.below hb (by simp; omega))
    have HP1 := hid (HW.out.2.1.below hb (by simp))
    have HB1 : Hid (Below w.heap.size w w1) := HW.out.2.2.trans (hb.mono (by simp; omega))
    have q1 := HR1.out.c9
    have q2 := HP1.out.c2
    have z1 := HR1.out.lt
    have z2 := HP1.out.lt
    clear hb HW
    rcases (show ((Re.mk p xs).err != 0) = true ∨ ((Re.mk p xs).err != 0) = false by cases ((Re.mk p xs).err != 0) <;> simp) with hd | hd
    · have hne : ¬ (Re.mk p xs).err = 0 := by simpa using hd
      have HF := hid (Re.compiled_err hne)
      have HNE := hid hne
      clear hne
      go_wp2_with fail
      refine ret_row2 4 31 5 rfl (w.heap.size + 1) rfl [.slice none 0 0, .bool false] (CellsAt.of_row (T := 31) (HP1.out.set2 _ _)) _ Try.underlying31 rfl (size_prog _ _) rfl ?_
      refine ⟨none, 0, 0, ?_, ?_, below2 HB1.out (by omega) _ _⟩
      · rw [HF.out]; simp [HNE.out]
      · rw [HF.out]; exact OwnI.nil _ _
    · have hz : (Re.mk p xs).err = 0 := by simpa using hd
      have HZ := hid hz
      clear hz
      go_wp2_with fail
      refine (BackRef_any (.mk p xs) _ _ (HI.out.below HB1.out) HSZ.out).mono ?_
      rintro e w2 ⟨rfl, hb⟩
      have HR2 := hid (HR1.out.below hb HR1.out.lt)
      have HP2 := hid (HP1.out.below hb HP1.out.lt)
      have HB2 : Hid (Below w.heap.size w w2) := HB1.out.trans (hb.mono (by omega))
      have z3 := HR2.out.lt
      have z4 := HP2.out.lt
      clear hb q1 q2 HR1 HP1
      have q1 := HR2.out.c9
      have q2 := HP2.out.c2
      rcases (show decide (0 < (Re.mk p xs).backs) = true ∨ decide (0 < (Re.mk p xs).backs) = false by cases decide (0 < (Re.mk p xs).backs) <;> simp) with hk | hk
      · have hk2 : 0 < (Re.mk p xs).backs := by simpa using hk
        have HF := hid (Re.compiled_back HZ.out hk2)
        clear hk2
        go_wp2_with fail
        refine ret_row2 4 31 5 rfl (w.heap.size + 1) rfl [.slice none 0 0, .bool false] (CellsAt.of_row (T := 31) (HP2.out.set2 _ _)) _ Try.underlying31 rfl (size_prog _ _) rfl ?_
        refine ⟨none, 0, 0, ?_, ?_, below2 HB2.out (by omega) _ _⟩
        · rw [HF.out]; simp
        · rw [HF.out]; exact OwnI.nil _ _
      · have hk2 : ¬ 0 < (Re.mk p xs).backs := by simpa using hk
        have HK := hid hk2
        clear hk2
        go_wp2_with fail
        refine (ExpandRef_any (.mk p xs) _ _ (HI.out.below HB2.out) HSZ.out).mono ?_
        rintro e w3 ⟨cs3, rfl, hin3, hb⟩
        have HR3 := hid (HR2.out.below hb HR2.out.lt)
        have HP3 := hid (HP2.out.below hb HP2.out.lt)
        have HB3 : Hid (Below w.heap.size w w3) := HB2.out.trans (hb.mono (by omega))
        have z5 := HR3.out.lt
        have z6 := HP3.out.lt
        have HIN3 := hid hin3
        obtain ⟨p3, ad3, m3, cap3, rfl⟩ := Re.cells_shape hin3
        have HFI := hid (Re.expandR_fine HZ.out)
        have HSE : Hid ((Re.mk p xs).expandR.1.size ≤ 4096) := Re.expandR_size
        clear hb q1 q2 HR2 HP2 hin3
        have q2 := HP3.out.c2
        have HX := hid (And.intro (@Re.compiled_much (.mk p xs)) (And.intro (@Re.compiled_long (.mk p xs)) (@Re.compiled_ok (.mk p xs))))
        generalize (Re.mk p xs).expandR = X at *
        obtain ⟨x3, e3⟩ := X
        simp only [] at *
        rcases (show (e3 != 0) = true ∨ (e3 != 0) = false by cases (e3 != 0) <;> simp) with he | he
        · have hne : ¬ e3 = 0 := by simpa using he
          have HF := hid (HX.out.1 HZ.out HK.out hne)
          have HNE := hid hne
          clear hne
          go_wp2_with fail
          refine ret_row2 4 31 5 rfl (w.heap.size + 1) rfl [.slice none 0 0, .bool false] (CellsAt.of_row (T := 31) ((HP3.out.set2 _ _).alloc _)) _ Try.underlying31 rfl (size_prog _ _) rfl ?_
          refine ⟨none, 0, 0, ?_, ?_, (below2 HB3.out (by omega) _ _).alloc (by simp; omega) _⟩
          · rw [HF.out]; simp [HNE.out]
          · rw [HF.out]; exact OwnI.nil _ _
        · have hz : e3 = 0 := by simpa using he
          obtain rfl := hz
          have HL := hid (HX.out.2.1 HZ.out HK.out rfl)
          have HO := hid (HX.out.2.2 HZ.out HK.out rfl)
          have hal := ((Below.refl w3.heap.size w3).alloc (Nat.le_refl _) (.cells #[.int .i64 p3.op, .int .u64 p3.set.a, .int .u64 p3.set.b, .int .u64 p3.set.c, .int .u64 p3.set.d, .int .i64 p3.lo, .int .i64 p3.hi, .int .i64 p3.gr, .slice ad3 m3 cap3] 28))
          have HTC := hid (codeR_any (wb := w3) (w3.heap.size + 1) (by omega) x3 HFI.out (by have := HSE.out; omega) _ _ (.slice none 0 0) [] HIN3.out hal (by simp) (OwnI.nil _ _) (by have := HSE.out; simp; omega))
          have HAL := hid hal
          clear hal
          go_wp2_with fail
          refine HTC.out.mono ?_
          unfold RPost
          rintro e w5 ⟨a1, n1, c1, L1, rfl, hL1, ho1, hg1, hf1⟩
          have hn1 : n1 = x3.csize := by have h := ho1.n; rw [hL1, List.nil_append, Re.gen_len] at h; exact h
          have hn1b : n1 ≤ 100000 := by have h1 := Re.csize_le x3; have h2 := HSE.out; omega
          have HB35 : Hid (Below w3.heap.size w3 w5) := HAL.out.trans (hf1.below HAL.out.size (fun g hg => (by cases hg)))
          have hz5 := HB35.out.size
          have hz35 : w3.heap.size + 1 ≤ w5.heap.size := by have := hf1.size; simp at this; omega
          have HN := hid hn1
          have HL1 := hid hL1
          have HO1 := hid ho1
          clear hn1 hL1 ho1 hg1 hf1 HTC HAL
          obtain ⟨i0, hi, hz0, hz1, hz2⟩ := info_parts info_inst
          go_wp2_with (at_builtin; refine wpList_append_row rfl _ _ 29 rfl (w3.heap.size + 1) 39 i0 (.agg #[.int .i64 0, .int .u64 0, .int .u64 0, .int .u64 0, .int .u64 0, .int .i64 0, .int .i64 0]) 7 56 Try.underlying29 hi hz0 hz1 hz2 rfl (by decide) _ n1 ((L1).flatMap Inst.cells) rfl (by exact HO1.out.row.alloc _) ⟨w5.heap.size, 0, none⟩ 1 1 [.int .i64 6, .int .u64 0, .int .u64 0, .int .u64 0, .int .u64 0, .int .i64 0, .int .i64 0] rfl rfl ?c1 ?c2 ?c3 ?c4 ?c5 (by decide) ?_)
          case c1 =>
            intro j u hj
            rw [Addr.add_lit, Nat.zero_add]
            exact (Row.new (w := w5) (cs := [.int .i64 6, .int .u64 0, .int .u64 0, .int .u64 0, .int .u64 0, .int .i64 0, .int .i64 0]) (T := 39) rfl).cell j ▸ hj
          case c2 => intro u hu; simp at hu; rcases hu with rfl | rfl | rfl | rfl | rfl | rfl | rfl <;> rfl
          case c3 => unfold maxLen; omega
          case c4 => omega
          case c5 => simp; omega
          intro a c w6 hown hgrow hnw
          obtain ⟨L2, hL2, hQ2⟩ := (OwnI.grew (I := ⟨6, Cs.none, 0, 0⟩) HO1.out (.cells #[.int .i64 6, .int .u64 0, .int .u64 0, .int .u64 0, .int .u64 0, .int .i64 0, .int .i64 0] 39) hown hgrow (fun g hg => (hnw g hg).imp id fun h => (by (try simp at h) <;> (try simp) <;> omega)))
          have HL2 := hid hL2
          have HQ2 := hid hQ2
          clear hL2 hQ2
          clear hown hgrow hnw
          clear hi hz0 hz1 hz2
          clear i0
          have HB36 : Hid (Below w3.heap.size w3 w6) := HB35.out.trans (HQ2.out.2.2.below hz5 (fun g hg => by have := (HO1.out.lt g hg).1; omega))
          have HP6 := hid (HP3.out.below HB36.out HP3.out.lt)
          have HB6 : Hid (Below w.heap.size w w6) := HB3.out.trans (HB36.out.mono (by omega))
          have q4 := HP6.out.c2
          have z8 := HP6.out.lt
          clear q2
          rcases (show decide (4096 < n1 + 1) = true ∨ decide (4096 < n1 + 1) = false by cases decide (4096 < n1 + 1) <;> simp) with dn | dn
          · have HF := hid (HL.out (by rw [← HN.out]; simpa using dn))
            have hdn : 4096 < n1 + 1 := by simpa using dn
            clear dn
            go_wp2_with fail
            refine ret_row2 4 31 5 rfl (w.heap.size + 1) rfl [.slice none 0 0, .bool false] (CellsAt.of_row (T := 31) (HP6.out.set2 _ _)) _ Try.underlying31 rfl (size_prog _ _) rfl ?_
            refine ⟨none, 0, 0, ?_, ?_, below2 HB6.out (by omega) _ _⟩
            · rw [HF.out]; simp
            · rw [HF.out]; exact OwnI.nil _ _
          · have hcn : ¬ 4096 < n1 + 1 := by simpa using dn
            have HF := hid (HO.out (by rw [← HN.out]; exact hcn))
            have HLL : Hid (L2 = x3.gen 0 ++ [Inst.of 6]) := by
              show _ = _
              rw [HL2.out, HL1.out]
              rfl
            clear dn
            go_wp2_with fail
            refine ret_row2 4 31 5 rfl (w.heap.size + 1) rfl [.slice a (n1 + 1) c, .bool lines] (CellsAt.of_row (T := 31) (HP6.out.set2 _ _)) _ Try.underlying31 rfl (size_prog _ _) rfl ?_
            refine ⟨a, (n1 + 1), c, ?_, ?_, below2 HB6.out (by omega) _ _⟩
            · rw [HF.out]; simp
            · rw [HF.out]; rw [← HLL.out]; exact (HQ2.out.1.set2 (by omega) _ _).weak (by omega)
end Go.Proofs.Ytnlaffhkcdfkjaa
