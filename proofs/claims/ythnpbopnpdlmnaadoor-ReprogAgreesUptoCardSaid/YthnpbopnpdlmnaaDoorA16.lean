/- The program's weigh: the number of nodes of the expanded tree. -/
import Derived.Test.YthnpbopnpdlmnaaDoorA11
import Derived.Test.YthnpbopnpdlmnaaDoorA06
import Derived.Test.YthnpbopnpdlmnaaDoorA15
import Derived.Test.YthnpbopnpdlmnaaDoorA09
import Derived.Test.YthnpbopnpdlmnaaDoorA02
import Derived.Test.YthnpbopnpdlmnaaDoorA03
namespace Go.Proofs.YthnpbopnpdlmnaaDoor
open Go.RowKit
attribute [local go_sem] gives givesUpon


set_option maxRecDepth 100000 in
set_option maxHeartbeats 4000000 in
theorem weigh_any (wb : World) (t : Re) : ∀ (w : World) (cs : List Value), t.In wb cs → Below wb.heap.size wb w → t.okr = true → t.size ≤ 1048576 →
    Calls Tryd.prog 30 #[.agg cs.toArray] w fun e w' => e = .returned (.int .i64 t.weigh) ∧ Below w.heap.size w w' := by
  induction t using Re.ind with
  | h p xs ih =>
    intro w cs hIn hbw hok hsz
    rw [Re.In] at hIn
    obtain ⟨ad, cap, rfl, hwf, hlc, hcm, hnil, hall⟩ := hIn
    rw [Re.size_mk] at hsz
    have hlen := Re.sizes_len xs
    have HIH := hid ih
    have HAL := hid hall
    have HBW := hid hbw
    rw [Re.okr, Bool.and_eq_true, decide_eq_true_eq] at hok
    have HOK := hid hok
    clear ih hall hwf hbw hok
    simp only [Pay.cells]
    go_enter Tryd.func30, Tryd.ntmps30
    go_wp2_with fail
    go_loopw [3, 9] (fun n i wr => ∃ (k : Nat) (N : Int), k ≤ xs.length ∧ n = .int .i64 N ∧ i = .int .i64 k ∧ (0 ≤ N ∧ N ≤ 1073741824) ∧ Hid (N = Re.weighs (xs.take k) 0) ∧ Hid (Row wr w.heap.size [.int .i64 p.op, .int .u64 p.set.a, .int .u64 p.set.b, .int .u64 p.set.c, .int .u64 p.set.d, .int .i64 p.lo, .int .i64 p.hi, .int .i64 p.gr, .slice ad xs.length cap] 28 ∧ Below w.heap.size w wr)) (fun _ i _ => xs.length - (intOf i).toNat)
    case atStart =>
      refine ⟨0, 0, by omega, rfl, rfl, by omega, by simp [Re.weighs, Hid], Row.new (cs := [.int .i64 p.op, .int .u64 p.set.a, .int .u64 p.set.b, .int .u64 p.set.c, .int .u64 p.set.d, .int .i64 p.lo, .int .i64 p.hi, .int .i64 p.gr, .slice ad xs.length cap]) rfl, (Below.refl _ w).alloc (Nat.le_refl _) _⟩
    case round =>
      obtain ⟨k, N, hk, rfl, rfl, ⟨hN1, hN2⟩, HN, HX⟩ := hrel
      have q1 := HX.out.1.c9
      have hB := HX.out.1.lt
      have HBL : Hid (Below wb.heap.size wb wr) := HBW.out.trans (HX.out.2.mono HBW.out.size)
      by_cases hlt : k < xs.length
      · obtain ⟨b, o, p', ad', n', cap', rfl, HC, HI0, hbb⟩ := HAL.out.kid HBL.out k hlt
        go_wp2_with (first | (with_reducible (refine wpList_load_agg rfl 28 _ rfl b (o + (k * 9)) rfl _ _ HC.out Tryd.underlying28 rfl (size_re9 _ _ _ _ _ _ _ _ _) ?_)))
        have hsg := Re.size_get (xs := xs) (i := k) (a := xs[k]) (by simp [hlt])
        have hTK := Re.weighs_take xs k xs[k] 0 (by simp [hlt])
        have hWb := Re.weigh_bd xs[k] (Re.okrs_get xs HOK.out.2 k hlt)
        refine (HIH.out xs[k] (by simp) _ _ HI0.out (HBL.out.alloc (by have := HBL.out.size; exact this) _) (Re.okrs_get xs HOK.out.2 k hlt) (by omega)).mono ?_
        rintro e w2 ⟨rfl, hb2⟩
        have hb3 := ((Below.refl _ wr).alloc (Nat.le_refl _) (.cells #[.int .i64 p'.op, .int .u64 p'.set.a, .int .u64 p'.set.b, .int .u64 p'.set.c, .int .u64 p'.set.d, .int .i64 p'.lo, .int .i64 p'.hi, .int .i64 p'.gr, .slice ad' n' cap'] 28)).trans (hb2.mono (by simp))
        have HX2 := hid (And.intro (HX.out.1.below hb3 hB) (HX.out.2.trans (hb3.mono HX.out.2.size)))
        rw [← HN.out] at hTK
        generalize xs[k].weigh = W at *
        have HTK := hid hTK
        obtain ⟨hW1, hW2⟩ := hWb
        clear hb2 hb3 hTK q1 hsg
        go_wp2_with fail
        go_roundw
        case rel =>
          refine ⟨k + 1, min 1073741824 (N + W), by omega, ?_, by go_num, by omega, HTK.out.symm, HX2.out⟩
          congr 1
          omega
        case measure => simp [intOf]; omega
      · obtain rfl : k = xs.length := by omega
        have hNN := HN.out
        rw [List.take_length] at hNN
        rcases (show (p.op == 5) = true ∨ (p.op == 5) = false by cases (p.op == 5) <;> simp) with d5 | d5
        · have h5 : p.op = 5 := by simpa using d5
          have hbd := Pay.badRep_false (HOK.out.1 h5)
          have HW := hid (fun x => weight_any N p.lo p.hi x ⟨hN1, hN2⟩ hbd.1 hbd.2)
          have hE := hid (show (Re.mk p xs).weigh = min 1073741824 (weightL N p.lo p.hi) by rw [Re.weigh, if_pos h5, hNN])
          clear h5 hbd hNN
          go_wp2_with fail
          refine (HW.out _).mono ?_
          rintro e w2 ⟨rfl, rfl⟩
          generalize weightL N p.lo p.hi = W at *
          go_wp2_with fail
          all_goals go_ret
          all_goals exact ⟨ret_int (by rw [hE.out]; omega), HX.out.2⟩
        · have h5 : ¬ p.op = 5 := by simpa using d5
          have hE := hid (show (Re.mk p xs).weigh = min 1073741824 (N + 1) by rw [Re.weigh, if_neg h5, hNN])
          clear h5 hNN
          go_wp2_with fail
          all_goals go_ret
          all_goals exact ⟨ret_int (by rw [hE.out]; omega), HX.out.2⟩
end Go.Proofs.YthnpbopnpdlmnaaDoor

/- The program's Expand: the tree without counted repetitions, or the error. -/
namespace Go.Proofs.YthnpbopnpdlmnaaDoor
open Go.RowKit
attribute [local go_sem] gives givesUpon


theorem zero_in (w : World) : (Re.mk (Pay.of 0) []).In w [.int .i64 0, .int .u64 0, .int .u64 0, .int .u64 0, .int .u64 0, .int .i64 0, .int .i64 0, .int .i64 0, .slice none 0 0] := ((OwnRes.nil w 0 (0 ≤ ·)).node (fun k hk => hk) (Pay.of 0) (Pay.of_wf ⟨by decide, by decide⟩)).self
theorem Re.expandR_err {t : Re} (h : ¬ t.err = 0) : t.expandR = (.mk (Pay.of 0) [], t.err) := by unfold Re.expandR; rw [if_pos h]
theorem Re.expandR_much {t : Re} (h : t.err = 0) (h2 : 4096 < t.weigh) : t.expandR = (.mk (Pay.of 0) [], 3) := by unfold Re.expandR; rw [if_neg (fun k => k h), if_pos h2]
theorem Re.expandR_ok {t : Re} (h : t.err = 0) (h2 : ¬ 4096 < t.weigh) : t.expandR = (t.expand, 0) := by unfold Re.expandR; rw [if_neg (fun k => k h), if_neg h2]
theorem Re.expandR_size {t : Re} : t.expandR.1.size ≤ 4096 := by
  unfold Re.expandR
  split
  · simp [Re.size_mk, Re.sizes, Re.counts]
  · rename_i h
    split
    · simp [Re.size_mk, Re.sizes, Re.counts]
    · rename_i h2
      have h0 : t.err = 0 := by simpa using h
      have he := Re.err_zero h0
      have := Re.expand_size t (Re.ranged_okr t 0 he.2.2.1) he.1 (by omega)
      simp only []
      omega

set_option maxRecDepth 100000 in
set_option maxHeartbeats 4000000 in
theorem Expand_any (t : Re) (w : World) (cs : List Value) (hIn : t.In w cs) (hsz : t.size ≤ 1048576) :
    Calls Tryd.prog 18 #[.agg cs.toArray] w fun e w' => ∃ cs', e = .returned (.tuple #[.agg cs'.toArray, .int .i64 t.expandR.2]) ∧ t.expandR.1.In w' cs' ∧ Below w.heap.size w w' := by
  cases t with
  | mk p xs =>
    have hIn' := hIn
    rw [Re.In] at hIn
    obtain ⟨ad, cap, rfl, _⟩ := hIn
    simp only [Pay.cells]
    have HI := hid hIn'
    have HSZ := hid hsz
    have HW : Hid (Row ((w.alloc (.cells #[.int .i64 p.op, .int .u64 p.set.a, .int .u64 p.set.b, .int .u64 p.set.c, .int .u64 p.set.d, .int .i64 p.lo, .int .i64 p.hi, .int .i64 p.gr, .slice ad xs.length cap] 28)).alloc (.cells #[.int .i64 0, .int .u64 0, .int .u64 0, .int .u64 0, .int .u64 0, .int .i64 0, .int .i64 0, .int .i64 0, .slice none 0 0] 28)) w.heap.size [.int .i64 p.op, .int .u64 p.set.a, .int .u64 p.set.b, .int .u64 p.set.c, .int .u64 p.set.d, .int .i64 p.lo, .int .i64 p.hi, .int .i64 p.gr, .slice ad xs.length cap] 28 ∧ Row ((w.alloc (.cells #[.int .i64 p.op, .int .u64 p.set.a, .int .u64 p.set.b, .int .u64 p.set.c, .int .u64 p.set.d, .int .i64 p.lo, .int .i64 p.hi, .int .i64 p.gr, .slice ad xs.length cap] 28)).alloc (.cells #[.int .i64 0, .int .u64 0, .int .u64 0, .int .u64 0, .int .u64 0, .int .i64 0, .int .i64 0, .int .i64 0, .slice none 0 0] 28)) (w.heap.size + 1) [.int .i64 0, .int .u64 0, .int .u64 0, .int .u64 0, .int .u64 0, .int .i64 0, .int .i64 0, .int .i64 0, .slice none 0 0] 28 ∧ Below w.heap.size w ((w.alloc (.cells #[.int .i64 p.op, .int .u64 p.set.a, .int .u64 p.set.b, .int .u64 p.set.c, .int .u64 p.set.d, .int .i64 p.lo, .int .i64 p.hi, .int .i64 p.gr, .slice ad xs.length cap] 28)).alloc (.cells #[.int .i64 0, .int .u64 0, .int .u64 0, .int .u64 0, .int .u64 0, .int .i64 0, .int .i64 0, .int .i64 0, .slice none 0 0] 28))) :=
      ⟨(Row.new (cs := [.int .i64 p.op, .int .u64 p.set.a, .int .u64 p.set.b, .int .u64 p.set.c, .int .u64 p.set.d, .int .i64 p.lo, .int .i64 p.hi, .int .i64 p.gr, .slice ad xs.length cap]) rfl).alloc _, Row.new (cs := [.int .i64 0, .int .u64 0, .int .u64 0, .int .u64 0, .int .u64 0, .int .i64 0, .int .i64 0, .int .i64 0, .slice none 0 0]) (by simp), ((Below.refl _ w).alloc (Nat.le_refl _) _).alloc (by simp) _⟩
    clear hIn' hsz
    go_enter Tryd.func18, Tryd.ntmps18
    go_wp2_with fail
    refine (Check_any (.mk p xs) _ _ (HI.out.below HW.out.2.2) HSZ.out).mono ?_
    rintro e w1 ⟨rfl, hb⟩
    have hr1 := HW.out.1.below hb (by simp; omega)
    have hr2 := HW.out.2.1.below hb (by simp)
    have q1 := hr1.c9
    have q2 := hr2.c9
    have z1 := hr1.lt
    have z2 := hr2.lt
    have HBW : Hid (Below w.heap.size w w1) := HW.out.2.2.trans (hb.mono (by simp; omega))
    have HR1 := hid hr1
    have HR2 := hid hr2
    clear hb hr1 hr2 HW
    rcases (show ((Re.mk p xs).err != 0) = true ∨ ((Re.mk p xs).err != 0) = false by cases ((Re.mk p xs).err != 0) <;> simp) with hd | hd
    · have hne : ¬ (Re.mk p xs).err = 0 := by simpa using hd
      have HF := hid (Re.expandR_err hne)
      clear hne
      go_wp2_with fail
      refine ret_row2 2 28 3 rfl (w.heap.size + 1) rfl [.int .i64 0, .int .u64 0, .int .u64 0, .int .u64 0, .int .u64 0, .int .i64 0, .int .i64 0, .int .i64 0, .slice none 0 0] (CellsAt.of_row (T := 28) (HR2.out.set9 _ _ _ _ _ _ _ _ _)) _ Tryd.underlying28 rfl (size_relen rfl) rfl ?_
      refine ⟨[.int .i64 0, .int .u64 0, .int .u64 0, .int .u64 0, .int .u64 0, .int .i64 0, .int .i64 0, .int .i64 0, .slice none 0 0], ?_, ?_, below9 HBW.out (by omega) _ _ _ _ _ _ _ _ _⟩
      · rw [HF.out]; rfl
      · rw [HF.out]; exact zero_in _
    · have hz : (Re.mk p xs).err = 0 := by simpa using hd
      have HE := hid (Re.err_zero hz)
      have HZ := hid hz
      have HOK := hid (Re.ranged_okr _ 0 HE.out.2.2.1)
      have hwb := Re.weigh_bd _ HOK.out
      clear hz
      go_wp2_with fail
      refine (weigh_any w (.mk p xs) _ _ HI.out HBW.out HOK.out HSZ.out).mono ?_
      rintro e w2 ⟨rfl, hb2⟩
      have hr3 := HR2.out.below hb2 HR2.out.lt
      have hr4 := HR1.out.below hb2 HR1.out.lt
      have q3 := hr3.c9
      have q4 := hr4.c9
      have z3 := hr3.lt
      have z4 := hr4.lt
      have HR3 := hid hr3
      have HB3 : Hid (Below w.heap.size w w2) := HBW.out.trans (hb2.mono (by omega))
      clear hb2 hr3 hr4 q1 q2
      rcases (show decide (4096 < (Re.mk p xs).weigh) = true ∨ decide (4096 < (Re.mk p xs).weigh) = false by cases decide (4096 < (Re.mk p xs).weigh) <;> simp) with hm | hm
      · have hm2 : 4096 < (Re.mk p xs).weigh := by simpa using hm
        have HF := hid (Re.expandR_much HZ.out hm2)
        clear hwb
        generalize (Re.mk p xs).weigh = W at hm hm2
        go_wp2_with fail
        refine ret_row2 2 28 3 rfl (w.heap.size + 1) rfl [.int .i64 0, .int .u64 0, .int .u64 0, .int .u64 0, .int .u64 0, .int .i64 0, .int .i64 0, .int .i64 0, .slice none 0 0] (CellsAt.of_row (T := 28) (HR3.out.set9 _ _ _ _ _ _ _ _ _)) _ Tryd.underlying28 rfl (size_relen rfl) rfl ?_
        refine ⟨[.int .i64 0, .int .u64 0, .int .u64 0, .int .u64 0, .int .u64 0, .int .i64 0, .int .i64 0, .int .i64 0, .slice none 0 0], ?_, ?_, below9 HB3.out (by omega) _ _ _ _ _ _ _ _ _⟩
        · rw [HF.out]; rfl
        · rw [HF.out]; exact zero_in _
      · have hm2 : ¬ 4096 < (Re.mk p xs).weigh := by simpa using hm
        have HF := hid (Re.expandR_ok HZ.out hm2)
        have hes := Re.expand_size _ HOK.out HE.out.1 (by omega)
        have HES : Hid ((Re.mk p xs).expand.size ≤ 1048576) := by show _ ≤ _; omega
        clear hes
        generalize (Re.mk p xs).weigh = W at hm hm2 hwb
        go_wp2_with fail
        refine (expand_any w (.mk p xs) _ _ HI.out HB3.out HOK.out HE.out.1 HSZ.out).mono ?_
        rintro e w3 ⟨cs3, rfl, hin3, hb4⟩
        have hr5 := HR3.out.below hb4 HR3.out.lt
        have HR5 := hid hr5
        have HIN3 := hid hin3.self
        have HB5 : Hid (Below w.heap.size w w3) := HB3.out.trans (hb4.mono (by omega))
        obtain ⟨p3, ad3, m3, cap3, rfl⟩ := Re.cells_shape hin3.self
        clear hb4 hr5 hin3 q3 q4
        go_wp2_with fail
        refine (clone_any w3 _ _ _ HIN3.out (Below.refl _ _) HES.out).mono ?_
        rintro e w4 ⟨cs4, rfl, hin4, hb5⟩
        have hr6 := HR5.out.below hb5 HR5.out.lt
        have q6 := hr6.c9
        have z6 := hr6.lt
        have HR6 := hid hr6
        have HIN4 := hid hin4
        have HB6 : Hid (Below w.heap.size w w4) := HB5.out.trans (hb5.mono (by have := HR5.out.lt; omega))
        obtain ⟨p4, ad4, m4, cap4, rfl⟩ := Re.cells_shape hin4.self
        have hz5 := HR5.out.lt
        clear hb5 hr6 hin4
        go_wp2_with fail
        refine ret_row2 2 28 3 rfl (w.heap.size + 1) rfl [.int .i64 p4.op, .int .u64 p4.set.a, .int .u64 p4.set.b, .int .u64 p4.set.c, .int .u64 p4.set.d, .int .i64 p4.lo, .int .i64 p4.hi, .int .i64 p4.gr, .slice ad4 m4 cap4] (CellsAt.of_row (T := 28) (HR6.out.set9 _ _ _ _ _ _ _ _ _)) _ Tryd.underlying28 rfl (size_relen rfl) rfl ?_
        refine ⟨[.int .i64 p4.op, .int .u64 p4.set.a, .int .u64 p4.set.b, .int .u64 p4.set.c, .int .u64 p4.set.d, .int .i64 p4.lo, .int .i64 p4.hi, .int .i64 p4.gr, .slice ad4 m4 cap4], ?_, ?_, below9 HB6.out (by omega : w.heap.size ≤ w.heap.size + 1) (.int .i64 p4.op) (.int .u64 p4.set.a) (.int .u64 p4.set.b) (.int .u64 p4.set.c) (.int .u64 p4.set.d) (.int .i64 p4.lo) (.int .i64 p4.hi) (.int .i64 p4.gr) (.slice ad4 m4 cap4)⟩
        · rw [HF.out]; rfl
        · rw [HF.out]
          exact (HIN4.out.but (Bs := [w.heap.size + 1]) (But.set9 (But.refl _ w4) (.inl (by simp)) (.int .i64 p4.op) (.int .u64 p4.set.a) (.int .u64 p4.set.b) (.int .u64 p4.set.c) (.int .u64 p4.set.d) (.int .i64 p4.lo) (.int .i64 p4.hi) (.int .i64 p4.gr) (.slice ad4 m4 cap4)) (fun i hi => by simp; omega)).self
end Go.Proofs.YthnpbopnpdlmnaaDoor

/- Trees that Check accepts, and their expansions, have arguments as the code expects them. What Compile returns. No program. -/
namespace Go.Proofs.YthnpbopnpdlmnaaDoor
open Go.RowKit

theorem Pay.shaped_fine {p : Pay} {n : Nat} (h : p.shaped n = true) : (p.op = 4 → 1 ≤ n) ∧ (p.op = 5 → n = 1) ∧ (p.op = 6 → n = 1) ∧ (p.op = 3 ∨ p.op = 4 ∨ p.op = 5 ∨ p.op = 6 ∨ n = 0) := by
  unfold Pay.shaped at h
  by_cases h1 : p.op = 1 ∨ p.op = 7 ∨ p.op = 8
  · rw [if_pos h1] at h; simp at h; refine ⟨by omega, by omega, by omega, by omega⟩
  rw [if_neg h1] at h
  by_cases h2 : p.op = 2
  · rw [if_pos h2] at h; simp at h; refine ⟨by omega, by omega, by omega, by omega⟩
  rw [if_neg h2] at h
  by_cases h3 : p.op = 3 ∨ p.op = 4
  · rw [if_pos h3] at h; simp at h; refine ⟨by omega, by omega, by omega, by omega⟩
  rw [if_neg h3] at h
  by_cases h5 : p.op = 5
  · rw [if_pos h5] at h; simp at h; refine ⟨by omega, by omega, by omega, by omega⟩
  rw [if_neg h5] at h
  by_cases h6 : p.op = 6
  · rw [if_pos h6] at h; simp at h; refine ⟨by omega, by omega, by omega, by omega⟩
  rw [if_neg h6] at h
  by_cases h9 : p.op = 9
  · rw [if_pos h9] at h; simp at h; refine ⟨by omega, by omega, by omega, by omega⟩
  rw [if_neg h9] at h
  cases h
mutual
theorem Re.typed_fine : ∀ t : Re, t.typed = true → t.fine
  | .mk p xs, h => by
    rw [Re.typed, Bool.and_eq_true] at h
    obtain ⟨h1, h2, h3, h4⟩ := Pay.shaped_fine h.1
    rw [Re.fine]
    refine ⟨h1, h2, ⟨h3, ?_⟩, Re.typeds_fines xs h.2⟩
    rcases h4 with h | h | h | h | h
    · exact .inl h
    · exact .inr (.inl h)
    · exact .inr (.inr (.inl h))
    · exact .inr (.inr (.inr (.inl h)))
    · exact .inr (.inr (.inr (.inr (List.length_eq_zero_iff.1 h))))
theorem Re.typeds_fines : ∀ xs : List Re, Re.typeds xs = true → Re.fines xs
  | [], _ => by rw [Re.fines]; trivial
  | t :: ts, h => by
    rw [Re.typeds, Bool.and_eq_true] at h
    rw [Re.fines]
    exact ⟨Re.typed_fine t h.1, Re.typeds_fines ts h.2⟩
end
theorem Re.fines_of : ∀ (xs : List Re), (∀ a, a ∈ xs → a.fine) → Re.fines xs
  | [], _ => by rw [Re.fines]; trivial
  | t :: ts, h => by rw [Re.fines]; exact ⟨h t (by simp), Re.fines_of ts fun a ha => h a (by simp [ha])⟩
theorem Re.rept_fine {x : Re} (h : x.fine) (lo hi : Int) : (x.rept lo hi).fine := by
  unfold Re.rept
  rw [Re.fine]
  exact ⟨fun e => absurd e (show (5 : Int) ≠ 4 by decide), fun _ => rfl, ⟨fun e => absurd e (show (5 : Int) ≠ 6 by decide), .inr (.inr (.inl rfl))⟩, Re.fines_of _ fun a ha => by rw [List.mem_singleton.1 ha]; exact h⟩
theorem Re.cat_fine {xs : List Re} (h : ∀ a, a ∈ xs → a.fine) : (Re.mk (Pay.of 3) xs).fine := by
  rw [Re.fine]
  exact ⟨fun e => absurd e (show (3 : Int) ≠ 4 by decide), fun e => absurd e (show (3 : Int) ≠ 5 by decide), ⟨fun e => absurd e (show (3 : Int) ≠ 6 by decide), .inl rfl⟩, Re.fines_of xs h⟩
theorem Re.none_fine {p : Pay} (h4 : p.op ≠ 4) (h5 : p.op ≠ 5) (h6 : p.op ≠ 6) : (Re.mk p []).fine := by
  rw [Re.fine, Re.fines]
  exact ⟨fun e => absurd e h4, fun e => absurd e h5, ⟨fun e => absurd e h6, .inr (.inr (.inr (.inr rfl)))⟩, trivial⟩
theorem Re.counted_fine {x : Re} (h : x.fine) (lo hi : Int) : (x.counted lo hi).fine := by
  unfold Re.counted
  split
  · exact Re.rept_fine h _ _
  split
  · exact Re.none_fine (show (1 : Int) ≠ 4 by decide) (show (1 : Int) ≠ 5 by decide) (show (1 : Int) ≠ 6 by decide)
  split
  · exact h
  split
  · exact Re.cat_fine fun a ha => by rw [List.eq_of_mem_replicate ha]; exact h
  split
  · refine Re.cat_fine fun a ha => ?_
    rcases List.mem_append.1 ha with ha | ha
    · rw [List.eq_of_mem_replicate ha]; exact h
    · rw [List.mem_singleton.1 ha]; exact Re.rept_fine h _ _
  · refine Re.cat_fine fun a ha => ?_
    rcases List.mem_append.1 ha with ha | ha
    · rw [List.eq_of_mem_replicate ha]; exact h
    · rw [List.eq_of_mem_replicate ha]; exact Re.rept_fine h _ _
theorem Re.expand_fine (t : Re) : t.fine → t.expand.fine := by
  induction t using Re.ind with
  | h p xs ih =>
    intro hf
    rw [Re.fine] at hf
    obtain ⟨h4, h5, ⟨h6, hn⟩, hs⟩ := hf
    rw [Re.expand, Re.expands_map]
    by_cases o5 : p.op = 5
    · by_cases hh : p.op = 5 ∧ p.hi = 0
      · rw [if_pos hh]
        exact Re.none_fine (show (1 : Int) ≠ 4 by decide) (show (1 : Int) ≠ 5 by decide) (show (1 : Int) ≠ 6 by decide)
      · rw [if_neg hh, if_pos o5]
        obtain ⟨x0, rfl⟩ := List.length_eq_one_iff.1 (h5 o5)
        exact Re.counted_fine (ih x0 (by simp) (Re.fines_mem _ hs x0 (by simp))) _ _
    · rw [if_neg (fun h => o5 h.1), if_neg o5, Re.fine]
      refine ⟨fun e => by rw [List.length_map]; exact h4 e, fun e => absurd e o5, ⟨fun e => by rw [List.length_map]; exact h6 e, ?_⟩, Re.fines_of _ fun a ha => ?_⟩
      · rcases hn with h | h | h | h | h
        · exact .inl h
        · exact .inr (.inl h)
        · exact .inr (.inr (.inl h))
        · exact .inr (.inr (.inr (.inl h)))
        · exact .inr (.inr (.inr (.inr (by rw [h]; rfl))))
      · obtain ⟨b, hb, rfl⟩ := List.mem_map.1 ha
        exact ih b hb (Re.fines_mem _ hs b hb)
theorem Re.expandR_fine {t : Re} (h : t.err = 0) : t.expandR.1.fine := by
  unfold Re.expandR
  rw [if_neg (fun k => k h)]
  split
  · exact Re.none_fine (show (0 : Int) ≠ 4 by decide) (show (0 : Int) ≠ 5 by decide) (show (0 : Int) ≠ 6 by decide)
  · exact Re.expand_fine t (Re.typed_fine t (Re.err_zero h).1)

def Re.compiled (t : Re) : List Inst × Int :=
  if t.err ≠ 0 then ([], t.err) else if 0 < t.backs then ([], 7) else if t.expandR.2 ≠ 0 then ([], t.expandR.2) else if 4096 < t.expandR.1.csize + 1 then ([], 3) else (t.expandR.1.gen 0 ++ [Inst.of 6], 0)
def CPost (t : Re) (lines : Bool) (w : World) (e : Ending) (w' : World) : Prop :=
  ∃ (a : Option Addr) (n c : Nat), e = .returned (.tuple #[.agg #[.slice a n c, .bool (lines && decide (t.compiled.2 = 0))], .int .i64 t.compiled.2]) ∧ OwnI w' w.heap.size (.slice a n c) t.compiled.1 ∧ Below w.heap.size w w'
theorem Re.compiled_err {t : Re} (h : ¬ t.err = 0) : t.compiled = ([], t.err) := by unfold Re.compiled; rw [if_pos h]
theorem Re.compiled_back {t : Re} (h : t.err = 0) (h2 : 0 < t.backs) : t.compiled = ([], 7) := by unfold Re.compiled; rw [if_neg (fun k => k h), if_pos h2]
theorem Re.compiled_much {t : Re} (h : t.err = 0) (h2 : ¬ 0 < t.backs) (h3 : ¬ t.expandR.2 = 0) : t.compiled = ([], t.expandR.2) := by unfold Re.compiled; rw [if_neg (fun k => k h), if_neg h2, if_pos h3]
theorem Re.compiled_long {t : Re} (h : t.err = 0) (h2 : ¬ 0 < t.backs) (h3 : t.expandR.2 = 0) (h4 : 4096 < t.expandR.1.csize + 1) : t.compiled = ([], 3) := by unfold Re.compiled; rw [if_neg (fun k => k h), if_neg h2, if_neg (fun k => k h3), if_pos h4]
theorem Re.compiled_ok {t : Re} (h : t.err = 0) (h2 : ¬ 0 < t.backs) (h3 : t.expandR.2 = 0) (h4 : ¬ 4096 < t.expandR.1.csize + 1) : t.compiled = (t.expandR.1.gen 0 ++ [Inst.of 6], 0) := by unfold Re.compiled; rw [if_neg (fun k => k h), if_neg h2, if_neg (fun k => k h3), if_neg h4]
theorem OwnI.weak {w : World} {b b' : Nat} {v : Value} {L : List Inst} (h : OwnI w b v L) (hb : b' ≤ b) : OwnI w b' v L := by
  refine ⟨h.1, ?_⟩
  rcases h.2 with hn | ⟨g, cap, cur, rfl, hb1, rest⟩
  · exact .inl hn
  · exact .inr ⟨g, cap, cur, rfl, Nat.le_trans hb hb1, rest⟩
theorem Row.set2 {w : World} {B : Nat} {a b : Value} {T : TypeId} (h : Row w B [a, b] T) (a' b' : Value) : Row ((w.setCell ⟨B, 0, none⟩ a').setCell ⟨B, 1, none⟩ b') B [a', b'] T := (h.set 0 _).set 1 _
theorem below2 {n : Nat} {w x : World} {B : Nat} (h : Below n w x) (hB : n ≤ B) (a' b' : Value) : Below n w ((x.setCell ⟨B, 0, none⟩ a').setCell ⟨B, 1, none⟩ b') := (h.setCell hB _).setCell hB _
theorem OwnI.set2 {w : World} {base B : Nat} {v : Value} {L : List Inst} (h : OwnI w base v L) (hB : B < base) (a' b' : Value) : OwnI ((w.setCell ⟨B, 0, none⟩ a').setCell ⟨B, 1, none⟩ b') base v L :=
  h.but (((But.refl [B] w).setCell (p := ⟨B, 0, none⟩) (.inl (by simp)) a').setCell (p := ⟨B, 1, none⟩) (.inl (by simp)) b') hB
theorem size_prog (a b : Value) : (Tryd.prog.info? 35).map (·.size) = some [a, b].length := by show _ = some 2; kernel_rfl
end Go.Proofs.YthnpbopnpdlmnaaDoor

/- A set is equal to itself. -/
namespace Go.Proofs.YthnpbopnpdlmnaaDoor
open Go.RowKit

end Go.Proofs.YthnpbopnpdlmnaaDoor

/- The reference's SameRe: of one tree at two places it says true. -/
namespace Go.Proofs.YthnpbopnpdlmnaaDoor
open Go.RowKit
attribute [local go_sem] gives givesUpon

theorem gives_load_agg {P : Program} {o : Oper} {a : Act} {w : World} {K : Value → World → Prop} (ty : TypeId) (x : Operand) (ho : o.op = .load ty x)
    (b f : Nat) (hx : a.eval x = .pointer (some ⟨b, f, none⟩)) (cs : List Value) (d : TypeDesc) (hc : CellsAt w b f cs)
    (hu : P.underlying ty = some d) (hd : (match d with | .struct _ | .array _ _ => true | _ => false) = true) (hi : (P.info? ty).map (·.size) = some cs.length)
    (h : K (.agg cs.toArray) w) : gives P o a w K := by
  have hl : (loadCells ⟨b, f, none⟩ cs.length).run P w = .ok cs.toArray w := run_loadCells_list (P := P) w ⟨b, f, none⟩ cs (fun j v hj => by rw [Addr.add_lit]; exact hc j v hj)
  have hrun : (loadVar ty ⟨b, f, none⟩).run P w = .ok (.agg cs.toArray) w := by
    cases hq : P.info? ty with
    | none => simp [hq] at hi
    | some i =>
      have hs : i.size = cs.length := by simpa [hq] using hi
      have hagg : (isAgg ty).run P w = .ok true w := by
        unfold isAgg
        rw [Sem.run_bind, run_underlying hu w]
        cases d <;> simp_all
      simp [loadVar, Sem.run_bind, hagg, sizeOf, typeInfo, hq, hs, hl]
  unfold gives execOp
  simp only [ho, hx, Instr.loadAt, Instr.sureAddr, Sem.run_bind, Sem.run_pure, Result.andThen_ok, hrun]
  exact h

end Go.Proofs.YthnpbopnpdlmnaaDoor
