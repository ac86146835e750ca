/- Reback's laws: few, and whether two matches are the same. -/
import Derived.Test.YtnnocekencaadaaApi
namespace Go.Proofs.Ytnnocekencaadaa
open Go.RowKit
attribute [local go_sem] gives givesUpon

-- def BL := [.int .i64 p.op, .int .u64 p.set.a, .int .u64 p.set.b, .int .u64 p.set.c, .int .u64 p.set.d, .int .i64 p.lo, .int .i64 p.hi, .int .i64 p.gr, .slice ad xs.length cap]
set_option maxRecDepth 100000 in
set_option maxHeartbeats 8000000 in
theorem countL_any (wb : World) (t : Re) : ∀ (w : World) (cs : List Value) (n lv : Nat), t.In wb cs → Below wb.heap.size wb w → n ≤ 1000 → lv ≤ 8 →
    Calls Try.prog 21 #[.agg cs.toArray, .int .i64 n, .int .i64 lv] w fun e w' => ∃ r : Nat, r ≤ n + 1 ∧ e = .returned (.int .i64 r) ∧ Below w.heap.size w w' := by
  induction t using Re.ind with
  | h p xs ih =>
    intro w cs n lv hIn hbw hn hlv
    rw [Re.In] at hIn
    obtain ⟨ad, cap, rfl, hwf, hlc, hcm, hnil, hall⟩ := hIn
    have HIH := hid ih
    have HAL := hid hall
    have HBW := hid hbw
    clear ih hall hwf hbw
    simp only [Pay.cells]
    have hr0 := (Row.new (w := w) (cs := [.int .i64 p.op, .int .u64 p.set.a, .int .u64 p.set.b, .int .u64 p.set.c, .int .u64 p.set.d, .int .i64 p.lo, .int .i64 p.hi, .int .i64 p.gr, .slice ad xs.length cap]) (T := 28) rfl)
    have HR0 := hid hr0
    have q0 := hr0.c9
    have HAL0 := hid ((Below.refl w.heap.size w).alloc (Nat.le_refl _) (.cells #[.int .i64 p.op, .int .u64 p.set.a, .int .u64 p.set.b, .int .u64 p.set.c, .int .u64 p.set.d, .int .i64 p.lo, .int .i64 p.hi, .int .i64 p.gr, .slice ad xs.length cap] 28))
    clear hr0
    by_cases hbad : lv = 0 ∨ 6 < xs.length ∨ 4 < p.lo ∨ 4 < p.hi
    · by_cases h1 : lv = 0
      · subst h1
        go_enter Try.func21, Try.ntmps21
        go_wp2_with fail
        go_ret
        exact ⟨n + 1, Nat.le_refl _, by simp, HAL0.out⟩
      · have d1 : ((lv : Int) == 0) = false := by simp; omega
        by_cases h2 : 6 < xs.length
        · have h2I : (6 : Int) < xs.length := by omega
          clear h1
          go_enter Try.func21, Try.ntmps21
          go_wp2_with fail
          go_ret
          exact ⟨n + 1, Nat.le_refl _, by simp, HAL0.out⟩
        · have h2I : ¬ (6 : Int) < xs.length := by omega
          by_cases h3 : 4 < p.lo
          · clear h1
            go_enter Try.func21, Try.ntmps21
            go_wp2_with fail
            go_ret
            exact ⟨n + 1, Nat.le_refl _, by simp, HAL0.out⟩
          · have h4 : 4 < p.hi := by omega
            clear h1
            go_enter Try.func21, Try.ntmps21
            go_wp2_with fail
            go_ret
            exact ⟨n + 1, Nat.le_refl _, by simp, HAL0.out⟩
    · have d1 : ((lv : Int) == 0) = false := by simp; omega
      have h2 : ¬ 6 < xs.length := by omega
      have h2I : ¬ (6 : Int) < xs.length := by omega
      have h3 : ¬ 4 < p.lo := by omega
      have h4 : ¬ 4 < p.hi := by omega
      have hl0 : 0 < lv := by omega
      clear hbad
      go_enter Try.func21, Try.ntmps21
      go_wp2_with fail
      go_loopw [7, 8] (fun v i wr => ∃ (k j : Nat), k ≤ n + 1 ∧ j ≤ xs.length ∧ v = .int .i64 k ∧ i = .int .i64 j ∧ Hid (Row wr w.heap.size [.int .i64 p.op, .int .u64 p.set.a, .int .u64 p.set.b, .int .u64 p.set.c, .int .u64 p.set.d, .int .i64 p.lo, .int .i64 p.hi, .int .i64 p.gr, .slice ad xs.length cap] 28 ∧ Below w.heap.size w wr)) (fun _ i _ => xs.length - (intOf i).toNat)
      case atStart => exact ⟨1, 0, by omega, Nat.zero_le _, rfl, rfl, HR0.out, HAL0.out⟩
      case round =>
        obtain ⟨k, j, hk, hj, rfl, rfl, HX⟩ := hrel
        have q1 := HX.out.1.c9
        clear q0
        by_cases hlt : j < xs.length
        · by_cases hkn : k ≤ n
          · have HBL : Hid (Below wb.heap.size wb wr) := HBW.out.trans (HX.out.2.mono HBW.out.size)
            obtain ⟨b, o, p', ad', n', cap', rfl, HC, HI0, hbb⟩ := HAL.out.kid HBL.out j hlt
            have hjI : (j : Int) < xs.length := by omega
            have hkI : (k : Int) ≤ n := by omega
            go_wp2_with (first | (with_reducible (refine wpList_load_agg rfl 28 _ rfl b (o + (j * 9)) rfl _ _ HC.out Try.underlying28 rfl (size_re9 _ _ _ _ _ _ _ _ _) ?_)))
            have H1 := HIH.out xs[j] (List.getElem_mem _) wr _ (n - k) (lv - 1) HI0.out HBL.out (by omega) (by omega)
            rw [show ((n - k : Nat) : Int) = (n : Int) - k by omega, show ((lv - 1 : Nat) : Int) = (lv : Int) - 1 by omega] at H1
            refine H1.mono ?_
            clear H1
            rintro e w2 ⟨r, hr, rfl, hb2⟩
            have HX2 := hid (⟨HX.out.1.below hb2 HX.out.1.lt, HX.out.2.trans (hb2.mono HX.out.2.size)⟩ : Row w2 _ _ _ ∧ Below _ _ w2)
            clear hb2
            go_wp2_with fail
            refine ⟨⟨k + r, j + 1, by omega, by omega, by go_num, by go_num, HX2.out⟩, ?_⟩
            simp [intOf]; omega
          · have hkI : ¬ (k : Int) ≤ n := by omega
            have hjI : (j : Int) < xs.length := by omega
            go_wp2_with fail
            go_ret
            exact ⟨k, hk, rfl, HX.out.2⟩
        · have hjI : ¬ (j : Int) < xs.length := by omega
          go_wp2_with fail
          go_ret
          exact ⟨k, hk, rfl, HX.out.2⟩
set_option maxHeartbeats 2000000 in
theorem Small_any (w : World) (t : Re) (cs : List Value) (n : Nat) (hin : t.In w cs) (hn : n ≤ 1000) :
    Calls Try.prog 14 #[.agg cs.toArray, .int .i64 n] w fun e w' => ∃ b, e = .returned (.bool b) ∧ Below w.heap.size w w' := by
  obtain ⟨p, ad, m, c, rfl⟩ := Re.cells_shape hin
  have HI := hid hin
  have HB := hid ((Below.refl w.heap.size w).alloc (Nat.le_refl _) (.cells #[.int .i64 p.op, .int .u64 p.set.a, .int .u64 p.set.b, .int .u64 p.set.c, .int .u64 p.set.d, .int .i64 p.lo, .int .i64 p.hi, .int .i64 p.gr, .slice ad m c] 28))
  clear hin
  go_enter Try.func14, Try.ntmps14
  go_wp2_with fail
  refine (countL_any w t _ _ n 8 HI.out HB.out hn (by omega)).mono ?_
  rintro e w1 ⟨r, hr, rfl, hb⟩
  have HB1 := hid (HB.out.trans (hb.mono (by simp)))
  clear hb
  by_cases h : (r : Int) ≤ n
  all_goals
    go_wp2_with fail
    go_ret
    exact ⟨_, rfl, HB1.out⟩
def FewPost (s : ByteArray) (budget : Int) (w : World) (e : Ending) (w' : World) : Prop := ∃ b, e = .returned (.bool b) ∧ (b = true → s.size ≤ 12 ∧ budget ≤ 20000) ∧ Below w.heap.size w w'
set_option maxHeartbeats 2000000 in
theorem few_any (w : World) (t : Re) (cs : List Value) (s : ByteArray) (at_ budget : Int) (lines : Bool) (hin : t.In w cs) (hs : (s.size : Int) ≤ 9223372036854775807) :
    Calls Try.prog 7 #[.agg cs.toArray, .agg #[.string s, .int .i64 at_, .bool lines, .int .i64 budget]] w (FewPost s budget w) := by
  obtain ⟨p, ad, m, c, rfl⟩ := Re.cells_shape hin
  have HI := hid hin
  have HB := hid (((Below.refl w.heap.size w).alloc (Nat.le_refl _) (.cells #[.int .i64 p.op, .int .u64 p.set.a, .int .u64 p.set.b, .int .u64 p.set.c, .int .u64 p.set.d, .int .i64 p.lo, .int .i64 p.hi, .int .i64 p.gr, .slice ad m c] 28)).alloc (by simp) (.cells #[.string s, .int .i64 at_, .bool lines, .int .i64 budget] 30))
  have R1 := (Row.new (w := w.alloc (.cells #[.int .i64 p.op, .int .u64 p.set.a, .int .u64 p.set.b, .int .u64 p.set.c, .int .u64 p.set.d, .int .i64 p.lo, .int .i64 p.hi, .int .i64 p.gr, .slice ad m c] 28)) (B := w.heap.size + 1) (cs := [.string s, .int .i64 at_, .bool lines, .int .i64 budget]) (T := 30) (by simp))
  have HR1 := hid R1
  clear hin R1
  go_enter Try.func7, Try.ntmps7
  go_wp2_with fail
  refine (Small_any _ t _ 14 (HI.out.below HB.out) (by omega)).mono ?_
  rintro e w1 ⟨b, rfl, hb⟩
  have HB1 := hid (HB.out.trans (hb.mono (by simp; omega)))
  have q := (HR1.out.below hb (by simp)).c4
  clear hb
  cases b with
  | false =>
    go_wp2_with fail
    go_ret
    exact ⟨false, rfl, fun h => (by cases h), HB1.out⟩
  | true =>
    by_cases h1 : s.size ≤ 12
    · have h1I : (s.size : Int) ≤ 12 := by omega
      go_wp2_with fail
      go_ret
      exact ⟨decide (budget ≤ 20000), rfl, fun h => ⟨h1, by simpa using h⟩, HB1.out⟩
    · have h1I : ¬ (s.size : Int) ≤ 12 := by omega
      go_wp2_with fail
      go_ret
      exact ⟨false, rfl, fun h => (by cases h), HB1.out⟩
end Go.Proofs.Ytnnocekencaadaa
