/- The small functions on lengths: what each call returns. -/
import Derived.Test.YtnnocekencaadaaProg
import Derived.Test.YtnnocekencaadaaRe
namespace Go.Proofs.Ytnnocekencaadaa
open Go.RowKit

/-- A length: -1 (no bound), or a number up to 2^31 - 1. -/
def Len (a : Int) : Prop := -1 ≤ a ∧ a ≤ 2147483647

def lsum (a b : Int) : Int := if a < 0 ∨ b < 0 then -1 else min 2147483647 (a + b)
def ltimes (a n : Int) : Int := if a = 0 ∨ n = 0 then 0 else if a < 0 ∨ n < 0 then -1 else min 2147483647 (a * n)

theorem Len.lsum {a b : Int} (ha : Len a) (hb : Len b) : Len (lsum a b) := by
  unfold Len at *; unfold Proofs.Ytnnocekencaadaa.lsum; split <;> omega
theorem Len.ltimes {a n : Int} (ha : Len a) : Len (ltimes a n) := by
  unfold Len at *; unfold Proofs.Ytnnocekencaadaa.ltimes
  split
  · omega
  split
  · omega
  · have : 0 ≤ a * n := Int.mul_nonneg (by omega) (by omega)
    omega




theorem mul_bd {a n : Int} (ha : 0 ≤ a) (ha2 : a ≤ 2147483647) (hn : 0 ≤ n) (hn2 : n ≤ 64) : 0 ≤ a * n ∧ a * n ≤ 137438953408 :=
  ⟨Int.mul_nonneg ha hn, by have := Int.mul_le_mul ha2 hn2 hn (by decide : (0 : Int) ≤ 2147483647); omega⟩



/-- The number of nodes of what stands for a repetition of n nodes. -/
def weightL (n lo hi : Int) : Int :=
  if (lo = 0 ∧ (hi = 1 ∨ hi = -1)) ∨ (lo = 1 ∧ hi = -1) then n + 1 else if hi = 0 then 1 else if lo = 1 ∧ hi = 1 then n else if hi = lo then 1 + lo * n else if hi = -1 then 2 + lo * n else 1 + lo * n + (hi - lo) * (n + 1)



end Go.Proofs.Ytnnocekencaadaa
