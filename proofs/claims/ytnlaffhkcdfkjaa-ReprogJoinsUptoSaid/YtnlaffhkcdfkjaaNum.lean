/- The small functions on lengths: what each call returns. -/
import Derived.Test.YtnlaffhkcdfkjaaProg
import Derived.Test.YtnlaffhkcdfkjaaRe
namespace Go.Proofs.Ytnlaffhkcdfkjaa
open Go.RowKit

/-- A length: -1 (no bound), or a number up to 2^31 - 1. -/
def Len (a : Int) : Prop := -1 ≤ a ∧ a ≤ 2147483647

def lsum (a b : Int) : Int := if a < 0 ∨ b < 0 then -1 else min 2147483647 (a + b)
def ltimes (a n : Int) : Int := if a = 0 ∨ n = 0 then 0 else if a < 0 ∨ n < 0 then -1 else min 2147483647 (a * n)

theorem Len.lsum {a b : Int} (ha : Len a) (hb : Len b) : Len (lsum a b) := by
  unfold Len at *; unfold Proofs.Ytnlaffhkcdfkjaa.lsum; split <;> omega
theorem Len.ltimes {a n : Int} (ha : Len a) : Len (ltimes a n) := by
  unfold Len at *; unfold Proofs.Ytnlaffhkcdfkjaa.ltimes
  split
  · omega
  split
  · omega
  · have : 0 ≤ a * n := Int.mul_nonneg (by omega) (by omega)
    omega




theorem mul_bd {a n : Int} (ha : 0 ≤ a) (ha2 : a ≤ 2147483647) (hn : 0 ≤ n) (hn2 : n ≤ 64) : 0 ≤ a * n ∧ a * n ≤ 137438953408 :=
  ⟨Int.mul_nonneg ha hn, by have := Int.mul_le_mul ha2 hn2 hn (by decide : (0 : Int) ≤ 2147483647); omega⟩



/-- The number of nodes of what stands for a repetition of n nodes. -/
def weightL (n lo hi : Int) : Int :=
  if (lo = 0 ∧ (hi = 1 ∨ hi = -1)) ∨ (lo = 1 ∧ hi = -1) then n + 1 else if hi = 0 then 1 else if lo = 1 ∧ hi = 1 then n else if hi = lo then 1 + lo * n else if hi = -1 then 2 + lo * n else 1 + lo * n + (hi - lo) * (n + 1)

theorem limited_any (n : Int) (w : World) :
    Calls Try.prog 53 #[.int .i64 n] w fun e w' => e = .returned (.int .i64 (min 4097 n)) ∧ w = w' := by
  go_enter Try.func53, Try.ntmps53
  go_wp2
  all_goals (go_ret; exact ⟨ret_int (by omega), rfl⟩)

theorem weight_any (n lo hi : Int) (w : World) (hn : 0 ≤ n ∧ n ≤ 1073741824) (hlo : 0 ≤ lo ∧ lo ≤ 64) (hhi : hi = -1 ∨ (lo ≤ hi ∧ hi ≤ 64)) :
    Calls Try.prog 47 #[.int .i64 n, .int .i64 lo, .int .i64 hi] w fun e w' => e = .returned (.int .i64 (weightL n lo hi)) ∧ w = w' := by
  obtain ⟨hn1, hn2⟩ := hn
  obtain ⟨hl1, hl2⟩ := hlo
  by_cases c1 : (lo = 0 ∧ (hi = 1 ∨ hi = -1)) ∨ (lo = 1 ∧ hi = -1)
  · have e1 : weightL n lo hi = n + 1 := by unfold weightL; rw [if_pos c1]
    rw [e1]
    rcases c1 with ⟨rfl, rfl | rfl⟩ | ⟨rfl, rfl⟩
    all_goals
      clear e1 hhi
      go_enter Try.func47, Try.ntmps47
      go_wp2
      all_goals (go_ret; exact ⟨ret_int (by omega), rfl⟩)
  · by_cases c2 : hi = 0
    · obtain rfl := c2
      obtain rfl : lo = 0 := by omega
      have e1 : weightL n 0 0 = 1 := by unfold weightL; rw [if_neg c1, if_pos rfl]
      rw [e1]
      clear e1 hhi c1
      go_enter Try.func47, Try.ntmps47
      go_wp2
      all_goals (go_ret; exact ⟨ret_int (by omega), rfl⟩)
    · by_cases c3 : lo = 1 ∧ hi = 1
      · obtain ⟨rfl, rfl⟩ := c3
        have e1 : weightL n 1 1 = n := by unfold weightL; rw [if_neg c1, if_neg c2, if_pos ⟨rfl, rfl⟩]
        rw [e1]
        clear e1 hhi c1 c2
        go_enter Try.func47, Try.ntmps47
        go_wp2
        all_goals (go_ret; exact ⟨ret_int (by omega), rfl⟩)
      · have hm1 : 0 ≤ lo * n := Int.mul_nonneg hl1 hn1
        have hm2 : lo * n ≤ 68719476736 := by have := Int.mul_le_mul hl2 hn2 hn1 (by decide : (0 : Int) ≤ 64); omega
        by_cases c4 : hi = lo
        · obtain rfl := c4
          have e1 : weightL n hi hi = 1 + hi * n := by unfold weightL; rw [if_neg c1, if_neg c2, if_neg c3, if_pos rfl]
          rw [e1]
          have d1 : (hi == 0) = false := by simp; omega
          have d2 : (hi == 1) = false := by simp; omega
          have d3 : (hi == -1) = false := by simp; omega
          clear e1 hhi c1 c2 c3
          go_enter Try.func47, Try.ntmps47
          go_wp2
          all_goals (go_ret; exact ⟨ret_int (by omega), rfl⟩)
        · by_cases c5 : hi = -1
          · obtain rfl := c5
            have e1 : weightL n lo (-1) = 2 + lo * n := by unfold weightL; rw [if_neg c1, if_neg c2, if_neg c3, if_neg c4, if_pos rfl]
            rw [e1]
            have d1 : (lo == 0) = false := by simp; omega
            have d2 : (lo == 1) = false := by simp; omega
            have d3 : ((-1 : Int) == lo) = false := by simp; omega
            clear e1 hhi c1 c2 c3
            go_enter Try.func47, Try.ntmps47
            go_wp2
            all_goals (go_ret; exact ⟨ret_int (by omega), rfl⟩)
          · have h6 : lo ≤ hi ∧ hi ≤ 64 := by omega
            obtain ⟨h7, h8⟩ := h6
            have e1 : weightL n lo hi = 1 + lo * n + (hi - lo) * (n + 1) := by unfold weightL; rw [if_neg c1, if_neg c2, if_neg c3, if_neg c4, if_neg c5]
            rw [e1]
            have g1 : 0 ≤ (hi - lo) * (n + 1) := Int.mul_nonneg (by omega) (by omega)
            have g2 : (hi - lo) * (n + 1) ≤ 68719476800 := by have := Int.mul_le_mul (show hi - lo ≤ 64 by omega) (show n + 1 ≤ 1073741825 by omega) (by omega) (by decide : (0 : Int) ≤ 64); omega
            have d0 : (hi == 0) = false := by simp; omega
            have d1 : (hi == lo) = false := by simp; omega
            have d3 : (hi == -1) = false := by simp; omega
            by_cases q1 : lo = 0
            · obtain rfl := q1
              have d4 : (hi == 1) = false := by simp; omega
              simp only [Int.zero_mul, Int.sub_zero] at *
              clear e1 hhi c1 c2 c3 c4 c5
              go_enter Try.func47, Try.ntmps47
              go_wp2
              all_goals (go_ret; exact ⟨ret_int (by omega), rfl⟩)
            · have d4 : (lo == 0) = false := by simp; omega
              by_cases q2 : lo = 1
              · obtain rfl := q2
                have d5 : (hi == 1) = false := by simp; omega
                clear e1 hhi c1 c2 c3 c4 c5 q1
                go_enter Try.func47, Try.ntmps47
                go_wp2
                all_goals (go_ret; exact ⟨ret_int (by omega), rfl⟩)
              · have d5 : (lo == 1) = false := by simp; omega
                clear e1 hhi c1 c2 c3 c4 c5 q1 q2
                go_enter Try.func47, Try.ntmps47
                go_wp2
                all_goals (go_ret; exact ⟨ret_int (by omega), rfl⟩)

end Go.Proofs.Ytnlaffhkcdfkjaa
