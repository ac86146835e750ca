/- The reference's Check of a tree: the error of the tree. -/
import Derived.Test.YtnlaffhkcdfkjaaRefNamed
namespace Go.Proofs.Ytnlaffhkcdfkjaa
open Go.RowKit

theorem Re.err_some (t : Re) : t.err = if t.typed = false then 7 else if (t.ranged 0).isSome = false then 2 else if (t.named []).isSome = false then 4 else if 600 < t.size ∨ 9 < t.groups ∨ 32 < t.levels then 3 else 0 := by
  unfold Re.err
  cases t.ranged 0 <;> cases t.named [] <;> rfl

set_option maxRecDepth 100000 in
set_option maxHeartbeats 4000000 in
theorem CheckRef_any (t : Re) (w : World) (cs : List Value) (hIn : t.In w cs) (hsz : t.size ≤ 1048576) :
    Calls Try.prog 20 #[.agg cs.toArray] w fun e w' => e = .returned (.int .i64 t.err) ∧ Below w.heap.size w w' := by
  cases t with
  | mk p xs =>
    have hIn' := hIn
    rw [Re.In] at hIn
    obtain ⟨ad, cap, rfl, _⟩ := hIn
    simp only [Pay.cells] at hIn' ⊢
    have HI := hid hIn'
    have hgl := Re.count_le (· == 6) (.mk p xs)
    have hll := Re.levels_le (.mk p xs)
    have HGL := hid hgl
    have HLL := hid hll
    have HSZ := hid hsz
    have HER := hid (Re.err_some (.mk p xs))
    clear hIn' hgl hll
    have HB0 := hid ((Below.refl _ w).alloc (Nat.le_refl _) (.cells #[.int .i64 p.op, .int .u64 p.set.a, .int .u64 p.set.b, .int .u64 p.set.c, .int .u64 p.set.d, .int .i64 p.lo, .int .i64 p.hi, .int .i64 p.gr, .slice ad xs.length cap] 28))
    have HC1 := hid (typedRef_any (.mk p xs) _ _ (HI.out.below HB0.out) HSZ.out)
    go_enter Try.func20, Try.ntmps20
    go_wp2_with fail
    refine HC1.out.mono ?_
    rintro e w1 ⟨rfl, hb1⟩
    obtain ⟨hbx, hbl, hlt0⟩ := box_facts (w := w) (p := p) (sl := .slice ad xs.length cap) (hb1.mono (by simp))
    have q := hbx.c9
    have HB := hid hbl
    have HHX := hid hbx
    clear hb1 hbl HC1
    cases ht : (Re.mk p xs).typed
    · rw [ht] at HER
      have HT := hid ht
      clear ht hbx
      go_wp2_with fail
      go_ret
      exact ⟨ret_int (by rw [HER.out]; simp), HB.out⟩
    · rw [ht] at HER
      have HT := hid ht
      clear ht
      have HC2 := hid (rangedRef_any (.mk p xs) w1 _ 0 (HI.out.below HB.out) (by have := HSZ.out; simp only [Nat.zero_add]; omega))
      clear hbx
      go_wp2_with fail
      refine HC2.out.mono ?_
      rintro e w2 ⟨hb2, m, rfl, hm⟩
      have hbx := HHX.out.below hb2 (by omega)
      have hbl := HB.out.trans (hb2.mono (by omega))
      have hlt2 : w.heap.size < w2.heap.size := by have := hb2.size; omega
      have q2 := hbx.c9
      have HB2 := hid hbl
      have HHX2 := hid hbx
      clear hb2 hbl HC2 hm hbx q
      cases hr : ((Re.mk p xs).ranged 0).isSome
      · rw [hr] at HER
        clear hr
        go_wp2_with fail
        go_ret
        exact ⟨ret_int (by rw [HER.out]; simp), HB2.out⟩
      · rw [hr] at HER
        clear hr
        have HC3 := hid (namedRef_any w.heap.size w (Nat.le_refl _) (.mk p xs) w2 _ (.slice none 0 0) [] HI.out HB2.out (by omega) (World.ownsRow_nil _ _ _ _) (by have := HSZ.out; simp; omega))
        go_wp2_with fail
        refine HC3.out.mono ?_
        rintro e w3 ⟨hb3, a3, n3, c3, rfl, hm3⟩
        have hb3' : Below w2.heap.size w2 w3 := hb3.below (Nat.le_refl _) (fun k hk => by simp [own, Value.ownBlock] at hk)
        have hbx := HHX2.out.below hb3' (by omega)
        have hbl := HB2.out.trans (hb3'.mono (by omega))
        have hlt3 : w.heap.size < w3.heap.size := by have := hb3'.size; omega
        have q3 := hbx.c9
        have HB3 := hid hbl
        have HHX3 := hid hbx
        clear hb3 hb3' hbl HC3 hm3 hbx q2
        cases hr : ((Re.mk p xs).named []).isSome
        · rw [hr] at HER
          clear hr
          go_wp2_with fail
          go_ret
          exact ⟨ret_int (by rw [HER.out]; simp), HB3.out⟩
        · rw [hr] at HER
          clear hr
          have HC4 := hid (SizeRef_any (.mk p xs) w3 _ (HI.out.below HB3.out) HSZ.out)
          go_wp2_with fail
          refine HC4.out.mono ?_
          rintro e w4 ⟨rfl, hb4⟩
          have hbx := HHX3.out.below hb4 (by omega)
          have hbl := HB3.out.trans (hb4.mono (by omega))
          have hlt4 : w.heap.size < w4.heap.size := by have := hb4.size; omega
          have q4 := hbx.c9
          have HB4 := hid hbl
          have HHX4 := hid hbx
          clear hb4 hbl HC4 hbx q3
          have HC5 := hid (GroupsRef_any (.mk p xs) w4 _ (HI.out.below HB4.out) HSZ.out)
          by_cases h600 : 600 < (Re.mk p xs).size
          · have d600 : decide ((600 : Int) < ((Re.mk p xs).size : Int)) = true := by rw [decide_eq_true_eq]; omega
            have H600 := hid h600
            clear h600
            go_wp2_with fail
            go_ret
            exact ⟨ret_int (by rw [HER.out]; simp [H600.out]), HB4.out⟩
          · have d600 : decide ((600 : Int) < ((Re.mk p xs).size : Int)) = false := by rw [decide_eq_false_iff_not]; omega
            have H600 := hid h600
            clear h600
            go_wp2_with fail
            refine HC5.out.mono ?_
            rintro e w5 ⟨rfl, hb5⟩
            have hbx := HHX4.out.below hb5 (by omega)
            have hbl := HB4.out.trans (hb5.mono (by omega))
            have hlt5 : w.heap.size < w5.heap.size := by have := hb5.size; omega
            have q5 := hbx.c9
            have HB5 := hid hbl
            have HHX5 := hid hbx
            clear hb5 hbl HC5 hbx q4 d600
            have HC6 := hid (levelsRef_any (.mk p xs) w5 _ (HI.out.below HB5.out) HSZ.out)
            by_cases h9 : 9 < (Re.mk p xs).groups
            · have d9 : decide ((9 : Int) < ((Re.mk p xs).groups : Int)) = true := by rw [decide_eq_true_eq]; omega
              have H9 := hid h9
              clear h9
              go_wp2_with fail
              go_ret
              exact ⟨ret_int (by rw [HER.out]; simp [H9.out]), HB5.out⟩
            · have d9 : decide ((9 : Int) < ((Re.mk p xs).groups : Int)) = false := by rw [decide_eq_false_iff_not]; omega
              have H9 := hid h9
              clear h9
              go_wp2_with fail
              refine HC6.out.mono ?_
              rintro e w6 ⟨rfl, hb6⟩
              have hbl := HB5.out.trans (hb6.mono (by omega))
              have HB6 := hid hbl
              clear hb6 hbl HC6 d9
              by_cases h32 : 32 < (Re.mk p xs).levels
              · have d32 : decide ((32 : Int) < ((Re.mk p xs).levels : Int)) = true := by rw [decide_eq_true_eq]; omega
                have H32 := hid h32
                clear h32
                go_wp2_with fail
                go_ret
                exact ⟨ret_int (by rw [HER.out]; simp [H32.out]), HB6.out⟩
              · have d32 : decide ((32 : Int) < ((Re.mk p xs).levels : Int)) = false := by rw [decide_eq_false_iff_not]; omega
                have H32 := hid h32
                clear h32
                go_wp2_with fail
                go_ret
                exact ⟨ret_int (by rw [HER.out]; simp [H32.out, H9.out, H600.out]), HB6.out⟩
end Go.Proofs.Ytnlaffhkcdfkjaa
