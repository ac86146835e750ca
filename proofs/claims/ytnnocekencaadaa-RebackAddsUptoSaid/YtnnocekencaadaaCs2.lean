/- The list of a set's bytes. -/
import Derived.Test.YtnnocekencaadaaCs
namespace Go.Proofs.Ytnnocekencaadaa
open Go.RowKit

def Cs.nums (s : Cs) (k : Nat) : List Int := ((List.range k).filter s.has).map Int.ofNat
theorem Cs.nums_succ (s : Cs) (k : Nat) : s.nums (k + 1) = s.nums k ++ if s.has k then [(k : Int)] else [] := by
  unfold Cs.nums
  rw [List.range_succ, List.filter_append, List.map_append]
  by_cases h : s.has k <;> simp [h]
theorem Cs.nums_le (s : Cs) (k : Nat) : (s.nums k).length ≤ k := by
  unfold Cs.nums
  rw [List.length_map]
  exact Nat.le_trans (List.length_filter_le _ _) (by simp)
/-- The bytes of a set, in ascending order. -/
def Cs.str (s : Cs) : ByteArray := strOfNums (s.nums 256)

theorem info_u8 : (Try.prog.info? 5).map (fun i => (i.zero, i.size, i.bytes)) = some (some (.int .u8 0), 1, 1) := by kernel_rfl

end Go.Proofs.Ytnnocekencaadaa
