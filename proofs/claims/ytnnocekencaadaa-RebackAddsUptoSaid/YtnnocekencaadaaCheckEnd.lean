/- The check of a tree, the program's and the reference's: both return the same error. -/
import Derived.Test.YtnnocekencaadaaRefNamed
namespace Go.Proofs.Ytnnocekencaadaa
open Go.RowKit

set_option maxHeartbeats 2000000 in
theorem Check_any (t : Re) (w : World) (cs : List Value) (hIn : t.In w cs) (hsz : t.size ≤ 1048576) :
    Calls Try.prog 23 #[.agg cs.toArray] w fun e w' => e = .returned (.int .i64 t.err) ∧ Below w.heap.size w w' := by
  cases t with
  | mk p xs =>
    have hIn' := hIn
    rw [Re.In] at hIn
    obtain ⟨ad, cap, rfl, _⟩ := hIn
    simp only [Pay.cells]
    have HI := hid hIn'
    have HE := hid (Re.err_check (.mk p xs))
    have hnod := Re.check_nodes (.mk p xs) Ck.init
    have hgrp := Re.check_groups (.mk p xs) Ck.init
    have hlev := Re.check_levels (.mk p xs) Ck.init
    have hgl := Re.count_le (· == 6) (.mk p xs)
    have i1 : Ck.init.nodes = 0 := rfl
    have i2 : Ck.init.groups = 0 := rfl
    rw [i1] at hnod
    rw [i2] at hgrp
    have b1 : (Re.check (.mk p xs) Ck.init).1.nodes ≤ 1048576 := by omega
    have b2 : (Re.check (.mk p xs) Ck.init).1.groups ≤ 1048576 := by simp only [Re.groups] at *; omega
    have b3 : (Re.check (.mk p xs) Ck.init).2 ≤ 1048576 := by omega
    have hmm := @run_makeMap Try.prog
    clear hIn' hnod hgrp hlev hgl i1 i2
    go_enter Try.func23, Try.ntmps23
    go_wp2_with fail
    refine (node_any (w.heap.size + 2) (w.heap.size + 1) w (by omega) (by omega) (by omega) (.mk p xs) _ _ Ck.init HI.out ?_ ⟨?_, ?_⟩ ?_ ?_).mono ?_
    · exact ((((Below.refl _ w).alloc (Nat.le_refl _) _).alloc (by simp) _).alloc (by simp; omega) _)
    · exact Row.new (cs := [_, _, _, _, _, _, _]) (by simp)
    · have := (IMap.new (w := w.alloc (.cells #[.int .i64 p.op, .int .u64 p.set.a, .int .u64 p.set.b, .int .u64 p.set.c, .int .u64 p.set.d, .int .i64 p.lo, .int .i64 p.hi, .int .i64 p.gr, .slice ad xs.length cap] 28)) (M := w.heap.size + 1) (by simp)).alloc (.cells #[.bool false, .bool false, .bool false, .int .i64 0, .int .i64 0, .slice none 0 0, .map (some (w.heap.size + 1))] 70)
      exact this
    · show 0 + _ ≤ _; omega
    · exact Nat.le_refl _
    rintro e w1 ⟨rfl, hb, hck⟩
    have hbw : Hid (Below w.heap.size w w1) := ((((Below.refl _ w).alloc (Nat.le_refl _) _).alloc (by simp) _).alloc (by simp; omega) _).trans (hb.below (by simp; omega) (fun k hk => by simp at hk; omega))
    have q := hck.1.c7
    have hR := hck.1.lt
    generalize hlv : (Re.check (.mk p xs) Ck.init).2 = lv at *
    generalize hcc : (Re.check (.mk p xs) Ck.init).1 = c1 at *
    clear hb hck hlv hcc hmm
    have HER := hid (Ck.err.eq_1 c1 lv)
    cases hs : c1.shape
    · rw [hs] at q HER
      clear hs
      cases hs : c1.bounds
      · rw [hs] at q HER
        clear hs
        cases hs : c1.name
        · rw [hs] at q HER
          clear hs
          go_wp2_with fail
          all_goals
            go_ret
            refine ⟨ret_int ?_, hbw.out⟩
            rw [← HE.out, HER.out]
            simp
            omega
        · rw [hs] at q HER
          clear hs
          go_wp2_with fail
          go_ret
          exact ⟨ret_int (by rw [← HE.out, HER.out]; simp), hbw.out⟩
      · rw [hs] at q HER
        clear hs
        go_wp2_with fail
        go_ret
        exact ⟨ret_int (by rw [← HE.out, HER.out]; simp), hbw.out⟩
    · rw [hs] at q HER
      clear hs
      go_wp2_with fail
      go_ret
      exact ⟨ret_int (by rw [← HE.out, HER.out]; simp), hbw.out⟩
end Go.Proofs.Ytnnocekencaadaa
