/- The program's weigh: the number of nodes of the expanded tree. -/
import Derived.Test.YtnlaffhkcdfkjaaExpLaw
import Derived.Test.YtnlaffhkcdfkjaaTree
namespace Go.Proofs.Ytnlaffhkcdfkjaa
open Go.RowKit
attribute [local go_sem] gives givesUpon

-- def BL := [.int .i64 p.op, .int .u64 p.set.a, .int .u64 p.set.b, .int .u64 p.set.c, .int .u64 p.set.d, .int .i64 p.lo, .int .i64 p.hi, .int .i64 p.gr, .slice ad xs.length cap]

set_option maxRecDepth 100000 in
set_option maxHeartbeats 4000000 in
theorem weigh_any (wb : World) (t : Re) : ∀ (w : World) (cs : List Value), t.In wb cs → Below wb.heap.size wb w → t.okr = true → t.size ≤ 1048576 →
    Calls Try.prog 28 #[.agg cs.toArray] w fun e w' => e = .returned (.int .i64 t.weigh) ∧ Below w.heap.size w w' := by
  induction t using Re.ind with
  | h p xs ih =>
    intro w cs hIn hbw hok hsz
    rw [Re.In] at hIn
    obtain ⟨ad, cap, rfl, hwf, hlc, hcm, hnil, hall⟩ := hIn
    rw [Re.size_mk] at hsz
    have hlen := Re.sizes_len xs
    have HIH := hid ih
    have HAL := hid hall
    have HBW := hid hbw
    rw [Re.okr, Bool.and_eq_true, decide_eq_true_eq] at hok
    have HOK := hid hok
    clear ih hall hwf hbw hok
    simp only [Pay.cells]
    go_enter Try.func28, Try.ntmps28
    go_wp2_with fail
    go_loopw [3, 9] (fun n i wr => ∃ (k : Nat) (N : Int), k ≤ xs.length ∧ n = .int .i64 N ∧ i = .int .i64 k ∧ (0 ≤ N ∧ N ≤ 1073741824) ∧ Hid (N = Re.weighs (xs.take k) 0) ∧ Hid (Row wr w.heap.size [.int .i64 p.op, .int .u64 p.set.a, .int .u64 p.set.b, .int .u64 p.set.c, .int .u64 p.set.d, .int .i64 p.lo, .int .i64 p.hi, .int .i64 p.gr, .slice ad xs.length cap] 28 ∧ Below w.heap.size w wr)) (fun _ i _ => xs.length - (intOf i).toNat)
    case atStart =>
      refine ⟨0, 0, by omega, rfl, rfl, by omega, by simp [Re.weighs, Hid], Row.new (cs := [.int .i64 p.op, .int .u64 p.set.a, .int .u64 p.set.b, .int .u64 p.set.c, .int .u64 p.set.d, .int .i64 p.lo, .int .i64 p.hi, .int .i64 p.gr, .slice ad xs.length cap]) rfl, (Below.refl _ w).alloc (Nat.le_refl _) _⟩
    case round =>
      obtain ⟨k, N, hk, rfl, rfl, ⟨hN1, hN2⟩, HN, HX⟩ := hrel
      have q1 := HX.out.1.c9
      have hB := HX.out.1.lt
      have HBL : Hid (Below wb.heap.size wb wr) := HBW.out.trans (HX.out.2.mono HBW.out.size)
      by_cases hlt : k < xs.length
      · obtain ⟨b, o, p', ad', n', cap', rfl, HC, HI0, hbb⟩ := HAL.out.kid HBL.out k hlt
        go_wp2_with (first | (with_reducible (refine wpList_load_agg rfl 28 _ rfl b (o + (k * 9)) rfl _ _ HC.out Try.underlying28 rfl (size_re9 _ _ _ _ _ _ _ _ _) ?_)))
        have hsg := Re.size_get (xs := xs) (i := k) (a := xs[k]) (by simp [hlt])
        have hTK := Re.weighs_take xs k xs[k] 0 (by simp [hlt])
        have hWb := Re.weigh_bd xs[k] (Re.okrs_get xs HOK.out.2 k hlt)
        refine (HIH.out xs[k] (by simp) _ _ HI0.out (HBL.out.alloc (by have := HBL.out.size; exact this) _) (Re.okrs_get xs HOK.out.2 k hlt) (by omega)).mono ?_
        rintro e w2 ⟨rfl, hb2⟩
        have hb3 := ((Below.refl _ wr).alloc (Nat.le_refl _) (.cells #[.int .i64 p'.op, .int .u64 p'.set.a, .int .u64 p'.set.b, .int .u64 p'.set.c, .int .u64 p'.set.d, .int .i64 p'.lo, .int .i64 p'.hi, .int .i64 p'.gr, .slice ad' n' cap'] 28)).trans (hb2.mono (by simp))
        have HX2 := hid (And.intro (HX.out.1.below hb3 hB) (HX.out.2.trans (hb3.mono HX.out.2.size)))
        rw [← HN.out] at hTK
        generalize xs[k].weigh = W at *
        have HTK := hid hTK
        obtain ⟨hW1, hW2⟩ := hWb
        clear hb2 hb3 hTK q1 hsg
        go_wp2_with fail
        go_roundw
        case rel =>
          refine ⟨k + 1, min 1073741824 (N + W), by omega, ?_, by go_num, by omega, HTK.out.symm, HX2.out⟩
          congr 1
          omega
        case measure => simp [intOf]; omega
      · obtain rfl : k = xs.length := by omega
        have hNN := HN.out
        rw [List.take_length] at hNN
        rcases (show (p.op == 5) = true ∨ (p.op == 5) = false by cases (p.op == 5) <;> simp) with d5 | d5
        · have h5 : p.op = 5 := by simpa using d5
          have hbd := Pay.badRep_false (HOK.out.1 h5)
          have HW := hid (fun x => weight_any N p.lo p.hi x ⟨hN1, hN2⟩ hbd.1 hbd.2)
          have hE := hid (show (Re.mk p xs).weigh = min 1073741824 (weightL N p.lo p.hi) by rw [Re.weigh, if_pos h5, hNN])
          clear h5 hbd hNN
          go_wp2_with fail
          refine (HW.out _).mono ?_
          rintro e w2 ⟨rfl, rfl⟩
          generalize weightL N p.lo p.hi = W at *
          go_wp2_with fail
          all_goals go_ret
          all_goals exact ⟨ret_int (by rw [hE.out]; omega), HX.out.2⟩
        · have h5 : ¬ p.op = 5 := by simpa using d5
          have hE := hid (show (Re.mk p xs).weigh = min 1073741824 (N + 1) by rw [Re.weigh, if_neg h5, hNN])
          clear h5 hNN
          go_wp2_with fail
          all_goals go_ret
          all_goals exact ⟨ret_int (by rw [hE.out]; omega), HX.out.2⟩
end Go.Proofs.Ytnlaffhkcdfkjaa
