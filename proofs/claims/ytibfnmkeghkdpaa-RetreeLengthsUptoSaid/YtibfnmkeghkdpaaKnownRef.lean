/- The reference's known, Nullable, Length, First. -/
import Derived.Test.YtibfnmkeghkdpaaPassOf
import Derived.Test.YtibfnmkeghkdpaaCheckRef
import Derived.Test.YtibfnmkeghkdpaaRefCheck
import Derived.Laws.MakeOwn
import Derived.BigQuiet
namespace Go.Proofs.Ytibfnmkeghkdpaa
open Go.RowKit
attribute [local go_sem] gives givesUpon

-- def BOX := .cells #[.int .i64 p.op, .int .u64 p.set.a, .int .u64 p.set.b, .int .u64 p.set.c, .int .u64 p.set.d, .int .i64 p.lo, .int .i64 p.hi, .int .i64 p.gr, .slice ad xs.length cap] 28
-- def BL := [.int .i64 p.op, .int .u64 p.set.a, .int .u64 p.set.b, .int .u64 p.set.c, .int .u64 p.set.d, .int .i64 p.lo, .int .i64 p.hi, .int .i64 p.gr, .slice ad xs.length cap]
-- def C0 := [.bool false, .int .i64 0, .int .i64 0, .int .u64 0, .int .u64 0, .int .u64 0, .int .u64 0]
-- def Z4 := [.int .u64 0, .int .u64 0, .int .u64 0, .int .u64 0]
-- def W2C := ((w.alloc (.cells #[.int .i64 p.op, .int .u64 p.set.a, .int .u64 p.set.b, .int .u64 p.set.c, .int .u64 p.set.d, .int .i64 p.lo, .int .i64 p.hi, .int .i64 p.gr, .slice ad xs.length cap] 28)).alloc (.cells #[.int .u64 0, .int .u64 0, .int .u64 0, .int .u64 0] 25))
-- def W2 := ((w.alloc (.cells #[.int .i64 p.op, .int .u64 p.set.a, .int .u64 p.set.b, .int .u64 p.set.c, .int .u64 p.set.d, .int .i64 p.lo, .int .i64 p.hi, .int .i64 p.gr, .slice ad xs.length cap] 28)).alloc (.cells #[.bool false, .int .i64 0, .int .i64 0, .int .u64 0, .int .u64 0, .int .u64 0, .int .u64 0] 69))

theorem made_kn (n : Nat) (h : n ≤ 9) : (madeCells #[.bool false, .int .i64 0, .int .i64 0, .int .u64 0, .int .u64 0, .int .u64 0, .int .u64 0] (n * 7)).toList = (kn (fun _ => none) n).flatMap Facts.cells := by
  rcases (by omega : n = 0 ∨ n = 1 ∨ n = 2 ∨ n = 3 ∨ n = 4 ∨ n = 5 ∨ n = 6 ∨ n = 7 ∨ n = 8 ∨ n = 9) with h | h | h | h | h | h | h | h | h | h
  all_goals
    subst h
    kernel_rfl

set_option maxHeartbeats 2000000 in
theorem knownRef_any (t : Re) (w : World) (cs : List Value) (hIn : t.In w cs) (hsz : t.size ≤ 1048576) :
    Calls Try.prog 44 #[.agg cs.toArray] w fun e w' => e = .returned (.tuple #[encF t.facts, .bool (decide (t.err = 0))]) ∧ Below w.heap.size w w' := by
  cases t with
  | mk p xs =>
    have hIn' := hIn
    rw [Re.In] at hIn
    obtain ⟨ad, cap, rfl, _⟩ := hIn
    simp only [Pay.cells]
    have HI := hid hIn'
    have HSZ := hid hsz
    have HW : Hid (Row ((w.alloc (.cells #[.int .i64 p.op, .int .u64 p.set.a, .int .u64 p.set.b, .int .u64 p.set.c, .int .u64 p.set.d, .int .i64 p.lo, .int .i64 p.hi, .int .i64 p.gr, .slice ad xs.length cap] 28)).alloc (.cells #[.bool false, .int .i64 0, .int .i64 0, .int .u64 0, .int .u64 0, .int .u64 0, .int .u64 0] 69)) w.heap.size [.int .i64 p.op, .int .u64 p.set.a, .int .u64 p.set.b, .int .u64 p.set.c, .int .u64 p.set.d, .int .i64 p.lo, .int .i64 p.hi, .int .i64 p.gr, .slice ad xs.length cap] 28 ∧ Row ((w.alloc (.cells #[.int .i64 p.op, .int .u64 p.set.a, .int .u64 p.set.b, .int .u64 p.set.c, .int .u64 p.set.d, .int .i64 p.lo, .int .i64 p.hi, .int .i64 p.gr, .slice ad xs.length cap] 28)).alloc (.cells #[.bool false, .int .i64 0, .int .i64 0, .int .u64 0, .int .u64 0, .int .u64 0, .int .u64 0] 69)) (w.heap.size + 1) [.bool false, .int .i64 0, .int .i64 0, .int .u64 0, .int .u64 0, .int .u64 0, .int .u64 0] 69 ∧ Below w.heap.size w ((w.alloc (.cells #[.int .i64 p.op, .int .u64 p.set.a, .int .u64 p.set.b, .int .u64 p.set.c, .int .u64 p.set.d, .int .i64 p.lo, .int .i64 p.hi, .int .i64 p.gr, .slice ad xs.length cap] 28)).alloc (.cells #[.bool false, .int .i64 0, .int .i64 0, .int .u64 0, .int .u64 0, .int .u64 0, .int .u64 0] 69))) :=
      ⟨(Row.new (cs := [.int .i64 p.op, .int .u64 p.set.a, .int .u64 p.set.b, .int .u64 p.set.c, .int .u64 p.set.d, .int .i64 p.lo, .int .i64 p.hi, .int .i64 p.gr, .slice ad xs.length cap]) rfl).alloc _, Row.new (cs := [.bool false, .int .i64 0, .int .i64 0, .int .u64 0, .int .u64 0, .int .u64 0, .int .u64 0]) (by simp), ((Below.refl _ w).alloc (Nat.le_refl _) _).alloc (by simp) _⟩
    clear hIn' hsz
    go_enter Try.func44, Try.ntmps44
    go_wp2_with fail
    refine (CheckRef_any (.mk p xs) _ _ (HI.out.below HW.out.2.2) HSZ.out).mono ?_
    rintro e w1 ⟨rfl, hb⟩
    have hr1 := HW.out.1.below hb (by simp; omega)
    have hr2 := HW.out.2.1.below hb (by simp)
    have q1 := hr1.c9
    have q2 := hr2.c7f
    have z1 := hr1.lt
    have z2 := hr2.lt
    have HBW : Hid (Below w.heap.size w w1) := HW.out.2.2.trans (hb.mono (by simp; omega))
    have HR2 := hid hr2
    have HR1 := hid hr1
    clear hb hr1 hr2 HW
    have hdec : ((Re.mk p xs).err != 0) = true ∨ ((Re.mk p xs).err != 0) = false := by cases ((Re.mk p xs).err != 0) <;> simp
    rcases hdec with hd | hd
    · have hne : ¬ (Re.mk p xs).err = 0 := by simpa using hd
      have HF := hid (Re.facts_zero hne)
      have HDE := hid (decide_eq_false hne)
      clear hne
      go_wp2_with fail
      refine ret_row2 2 69 3 rfl (w.heap.size + 1) rfl [.bool false, .int .i64 0, .int .i64 0, .int .u64 0, .int .u64 0, .int .u64 0, .int .u64 0] (CellsAt.of_row (T := 69) (HR2.out.set7 _ _ _ _ _ _ _)) _ Try.underlying69 rfl (size_rfacts _ _ _ _ _ _ _) rfl ?_
      rw [HF.out, HDE.out]
      exact ⟨rfl, below7 HBW.out (by omega) _ _ _ _ _ _ _⟩
    · have hz : (Re.mk p xs).err = 0 := by simpa using hd
      have HF := hid (Re.facts_some hz)
      have HE := hid (Re.err_zero hz)
      have HDE := hid (decide_eq_true hz)
      have hir := Re.err_inR hz
      have hn9 : (Re.mk p xs).groups ≤ 9 := HE.out.2.2.2.2.2.1
      clear hz
      go_wp2_with fail
      refine (GroupsRef_any (.mk p xs) _ _ (HI.out.below HBW.out) HSZ.out).mono ?_
      rintro e w2 ⟨rfl, hb2⟩
      have hr1 := HR1.out.below hb2 HR1.out.lt
      have hr2 := HR2.out.below hb2 HR2.out.lt
      have HBW2 : Hid (Below w.heap.size w w2) := HBW.out.trans (hb2.mono HBW.out.size)
      generalize (Re.mk p xs).groups = n at hir hn9 ⊢
      have HIR := hid hir
      have q3 := hr1.c9
      have z3 := hr1.lt
      have z4 := hr2.lt
      obtain ⟨i0, hi, hz0, hz1, hz2⟩ := info_parts info_rfacts
      have hmk : ∀ y : World, (Instr.makeSlice 87 (.int .i64 (n : Int)) (.int .i64 (n : Int))).run Try.prog y = .ok (.slice (some ⟨y.heap.size, 0, none⟩) n n) (y.alloc (.cells (madeCells #[.bool false, .int .i64 0, .int .i64 0, .int .u64 0, .int .u64 0, .int .u64 0, .int .u64 0] (n * 7)) 69)) := fun y => by
        have h := run_makeSlice (P := Try.prog) y 87 69 i0 _ Try.underlying87 hi hz0 .i64 .i64 n n (by omega) (by omega) (by rw [hz1]; simp; omega) (by rw [hz2]; omega) (by omega)
        rw [hz1] at h
        simpa [Value.cells] using h
      have HRA := hid hr1
      have HRB := hid hr2
      clear hb2 hr1 hr2 hi hz0 hz1 hz2 q1 q2 z1 z2 hir
      go_wp2_with fail
      have hal := ((Below.refl w2.heap.size w2).alloc (Nat.le_refl _) (.cells (madeCells #[.bool false, .int .i64 0, .int .i64 0, .int .u64 0, .int .u64 0, .int .u64 0, .int .u64 0] (n * 7)) 69)).alloc (by simp) (.cells #[.slice (some ⟨w2.heap.size, 0, none⟩) n n] 89)
      have hP : PAt ((w2.alloc (.cells (madeCells #[.bool false, .int .i64 0, .int .i64 0, .int .u64 0, .int .u64 0, .int .u64 0, .int .u64 0] (n * 7)) 69)).alloc (.cells #[.slice (some ⟨w2.heap.size, 0, none⟩) n n] 89)) (w2.heap.size + 1) w2.heap.size n (fun _ => none) :=
        ⟨Row.new (cs := [.slice (some ⟨w2.heap.size, 0, none⟩) n n]) (by simp), by
          rw [← made_kn n hn9]
          exact (Row.new (w := w2) (cs := (madeCells #[.bool false, .int .i64 0, .int .i64 0, .int .u64 0, .int .u64 0, .int .u64 0, .int .u64 0] (n * 7)).toList) rfl).alloc _⟩
      have hbw := HBW2.out.size
      have HBA := hid (HBW2.out.trans (hal.mono HBW2.out.size))
      refine (passof_any (w2.heap.size + 1) w2.heap.size n w (by omega) hbw (by omega) hn9 (.mk p xs) _ _ (fun _ => none) HI.out HBA.out hP (fun k f h => by cases h) HE.out.1 HE.out.2.1 HIR.out HSZ.out).mono ?_
      rintro e w3 ⟨rfl, hb3, -⟩
      have hr3 := (HRB.out.below hal HRB.out.lt).but hb3 (by simp; omega)
      have q4 := hr3.c7f
      have z5 := hr3.lt
      have HR3 := hid hr3
      have HB3 : Hid (Below w.heap.size w w3) := HBA.out.trans (hb3.below HBA.out.size (by simp; omega))
      generalize ((Re.mk p xs).learn (fun _ => none)).1 = F at *
      clear hb3 hr3 hal hP hmk q3 z3 z4
      unfold encF Facts.cells
      go_wp2_with fail
      refine ret_row2 2 69 3 rfl (w.heap.size + 1) rfl F.cells (CellsAt.of_row (T := 69) (HR3.out.set7 _ _ _ _ _ _ _)) _ Try.underlying69 rfl (size_rfacts _ _ _ _ _ _ _) rfl ?_
      rw [HF.out, HDE.out]
      exact ⟨rfl, below7 HB3.out (by omega) _ _ _ _ _ _ _⟩

set_option maxRecDepth 100000 in
set_option maxHeartbeats 2000000 in
theorem NullableRef_any (t : Re) (w : World) (cs : List Value) (hIn : t.In w cs) (hsz : t.size ≤ 1048576) :
    Calls Try.prog 24 #[.agg cs.toArray] w fun e w' => e = .returned (.bool t.facts.null) ∧ Below w.heap.size w w' := by
  cases t with
  | mk p xs =>
    have hIn' := hIn
    rw [Re.In] at hIn
    obtain ⟨ad, cap, rfl, _⟩ := hIn
    simp only [Pay.cells]
    have HI := hid hIn'
    have HSZ := hid hsz
    clear hIn' hsz
    go_enter Try.func24, Try.ntmps24
    go_wp2_with fail
    refine (knownRef_any (.mk p xs) _ _ (HI.out.below ((Below.refl _ w).alloc (Nat.le_refl _) _)) HSZ.out).mono ?_
    rintro e w1 ⟨rfl, hb⟩
    have HB : Hid (Below w.heap.size w w1) := ((Below.refl _ w).alloc (Nat.le_refl _) _).trans (hb.mono (by simp))
    clear hb
    generalize hF : (Re.mk p xs).facts = F at *
    have HF := hid hF
    clear hF
    unfold encF Facts.cells
    have hfd : ∀ w : World, (Instr.field 69 (.agg #[.bool F.null, .int .i64 F.least, .int .i64 F.most, .int .u64 F.first.a, .int .u64 F.first.b, .int .u64 F.first.c, .int .u64 F.first.d]) 0).run Try.prog w = .ok (.bool F.null) w := fun _ => by kernel_rfl
    go_wp2_with fail
    all_goals go_ret
    all_goals exact ⟨ret_bool (by rw [HF.out]), HB.out.alloc (by have := HB.out.size; omega) _⟩

set_option maxHeartbeats 2000000 in
theorem LengthRef_any (t : Re) (w : World) (cs : List Value) (hIn : t.In w cs) (hsz : t.size ≤ 1048576) :
    Calls Try.prog 20 #[.agg cs.toArray] w fun e w' => e = .returned (.tuple #[.int .i64 t.facts.least, .int .i64 t.facts.most]) ∧ Below w.heap.size w w' := by
  cases t with
  | mk p xs =>
    have hIn' := hIn
    rw [Re.In] at hIn
    obtain ⟨ad, cap, rfl, _⟩ := hIn
    simp only [Pay.cells]
    have HI := hid hIn'
    have HSZ := hid hsz
    clear hIn' hsz
    go_enter Try.func20, Try.ntmps20
    go_wp2_with fail
    refine (knownRef_any (.mk p xs) _ _ (HI.out.below ((Below.refl _ w).alloc (Nat.le_refl _) _)) HSZ.out).mono ?_
    rintro e w1 ⟨rfl, hb⟩
    have HB : Hid (Below w.heap.size w w1) := ((Below.refl _ w).alloc (Nat.le_refl _) _).trans (hb.mono (by simp))
    clear hb
    generalize hF : (Re.mk p xs).facts = F at *
    have HF := hid hF
    clear hF
    unfold encF Facts.cells
    go_wp2_with fail
    go_quiet (fail)
    go_wp2_with fail
    all_goals go_ret2
    all_goals exact ⟨by rw [HF.out]; rfl, below_drewN (HB.out.alloc (by have := HB.out.size; omega) _) _⟩

set_option maxHeartbeats 4000000 in
theorem FirstRef_any (t : Re) (w : World) (cs : List Value) (hIn : t.In w cs) (hsz : t.size ≤ 1048576) :
    Calls Try.prog 22 #[.agg cs.toArray] w fun e w' => e = .returned (.tuple #[.agg t.facts.first.cells.toArray, .bool t.facts.null]) ∧ Below w.heap.size w w' := by
  cases t with
  | mk p xs =>
    have hIn' := hIn
    rw [Re.In] at hIn
    obtain ⟨ad, cap, rfl, _⟩ := hIn
    simp only [Pay.cells]
    have HI := hid hIn'
    have HSZ := hid hsz
    have HR : Hid (Row ((w.alloc (.cells #[.int .i64 p.op, .int .u64 p.set.a, .int .u64 p.set.b, .int .u64 p.set.c, .int .u64 p.set.d, .int .i64 p.lo, .int .i64 p.hi, .int .i64 p.gr, .slice ad xs.length cap] 28)).alloc (.cells #[.int .u64 0, .int .u64 0, .int .u64 0, .int .u64 0] 25)) (w.heap.size + 1) [.int .u64 0, .int .u64 0, .int .u64 0, .int .u64 0] 25 ∧ Below w.heap.size w ((w.alloc (.cells #[.int .i64 p.op, .int .u64 p.set.a, .int .u64 p.set.b, .int .u64 p.set.c, .int .u64 p.set.d, .int .i64 p.lo, .int .i64 p.hi, .int .i64 p.gr, .slice ad xs.length cap] 28)).alloc (.cells #[.int .u64 0, .int .u64 0, .int .u64 0, .int .u64 0] 25))) :=
      ⟨Row.new (cs := [.int .u64 0, .int .u64 0, .int .u64 0, .int .u64 0]) (by simp), ((Below.refl _ w).alloc (Nat.le_refl _) _).alloc (by simp) _⟩
    clear hIn' hsz
    go_enter Try.func22, Try.ntmps22
    go_wp2_with fail
    refine (knownRef_any (.mk p xs) _ _ (HI.out.below HR.out.2) HSZ.out).mono ?_
    rintro e w1 ⟨rfl, hb⟩
    have hr := HR.out.1.below hb (by simp)
    have q := hr.c4
    have z := hr.lt
    have HRR := hid hr
    have HB : Hid (Below w.heap.size w w1) := HR.out.2.trans (hb.mono (by simp; omega))
    clear hb hr HR
    generalize hF : (Re.mk p xs).facts = F at *
    have HF := hid hF
    clear hF
    unfold encF Facts.cells
    go_wp2_with fail
    go_region
    all_goals go_wp2_with fail
    all_goals
      refine ret_row2 2 25 3 rfl (w.heap.size + 1) rfl [.int .u64 F.first.a, .int .u64 F.first.b, .int .u64 F.first.c, .int .u64 F.first.d] (CellsAt.of_row (T := 25) ((HRR.out.set4 _ _ _ _).alloc _).drew) _ Try.underlying25 rfl size_cs rfl ?_
      rw [HF.out]
      exact ⟨rfl, ((below4 HB.out (by omega) _ _ _ _).alloc (by have := HB.out.size; simp [World.setCell]; omega) _).drew⟩
end Go.Proofs.Ytibfnmkeghkdpaa
