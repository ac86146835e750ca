/- The plain law of the expanded tree's size: its number of nodes is what weigh tells. No program. -/
import Derived.Test.YthnpbopnpdlmnaaX07
import Derived.Test.YthnpbopnpdlmnaaX03
namespace Go.Proofs.Ythnpbopnpdlmnaa
open Go.RowKit

theorem Re.sizes_append : ∀ (l l' : List Re), Re.sizes (l ++ l') = Re.sizes l + Re.sizes l'
  | [], l' => by simp [Re.sizes, Re.counts]
  | t :: ts, l' => by
    have h := Re.sizes_append ts l'
    simp only [Re.sizes, List.cons_append, Re.counts] at *
    omega
theorem Re.sizes_replicate (x : Re) : ∀ n, Re.sizes (List.replicate n x) = n * x.size
  | 0 => by simp [Re.sizes, Re.counts]
  | n + 1 => by
    have h := Re.sizes_replicate x n
    rw [List.replicate_succ]
    simp only [Re.sizes, Re.counts] at *
    rw [h, Nat.succ_mul]
    simp only [Re.size]
    omega
theorem Re.sizes_one (x : Re) : Re.sizes [x] = x.size := by simp [Re.sizes, Re.counts, Re.size]
theorem Re.rept_size (x : Re) (lo hi : Int) : (x.rept lo hi).size = x.size + 1 := by unfold Re.rept; rw [Re.size_mk, Re.sizes_one]
theorem Re.counted_size (x : Re) (lo hi : Int) (hlo : 0 ≤ lo) (hhi : hi = -1 ∨ lo ≤ hi) : ((x.counted lo hi).size : Int) = weightL x.size lo hi := by
  unfold Re.counted weightL
  by_cases c1 : (lo = 0 ∧ (hi = 1 ∨ hi = -1)) ∨ (lo = 1 ∧ hi = -1)
  · rw [if_pos c1, if_pos c1, Re.rept_size]; omega
  rw [if_neg c1, if_neg c1]
  by_cases c2 : hi = 0
  · rw [if_pos c2, if_pos c2, Re.size_mk]; simp [Re.sizes, Re.counts]
  rw [if_neg c2, if_neg c2]
  by_cases c3 : lo = 1 ∧ hi = 1
  · rw [if_pos c3, if_pos c3]
  rw [if_neg c3, if_neg c3]
  obtain ⟨n, rfl⟩ := Int.eq_ofNat_of_zero_le hlo
  by_cases c4 : hi = n
  · rw [if_pos c4, if_pos c4, Re.size_mk, Re.sizes_replicate]; simp; omega
  rw [if_neg c4, if_neg c4]
  by_cases c5 : hi = -1
  · obtain ⟨m, rfl⟩ : ∃ m, n = m + 1 := ⟨n - 1, by omega⟩
    rw [if_pos c5, if_pos c5, Re.size_mk, Re.sizes_append, Re.sizes_replicate, Re.sizes_one, Re.rept_size]
    have : (((m + 1 : Nat) : Int) - 1).toNat = m := by omega
    rw [this, Int.natCast_add, Int.natCast_add, Int.natCast_mul, Int.natCast_add, Int.natCast_add, Int.add_mul]
    simp
    omega
  · rw [if_neg c5, if_neg c5, Re.size_mk, Re.sizes_append, Re.sizes_replicate, Re.sizes_replicate, Re.rept_size]
    obtain ⟨m, rfl⟩ : ∃ m : Nat, hi = n + m := ⟨(hi - n).toNat, by omega⟩
    have e : ((n : Int) + m - n) = m := by omega
    rw [e, Int.toNat_natCast, Int.toNat_natCast]
    simp
    omega

mutual
theorem Re.expand_size : ∀ (t : Re), t.okr = true → t.typed = true → t.weigh < 1073741824 → (t.expand.size : Int) = t.weigh
  | .mk p xs, hok, hty, hw => by
    rw [Re.weigh] at hw
    rw [Re.weigh, Re.expand]
    have hok' := hok
    rw [Re.okr, Bool.and_eq_true, decide_eq_true_eq] at hok'
    have hty' := hty
    rw [Re.typed, Bool.and_eq_true] at hty'
    have hb := Re.weighs_bd xs 0 hok'.2 (by omega)
    by_cases h5 : p.op = 5
    · rw [if_pos h5] at hw
      rw [if_pos h5] 
      have hbd := Pay.badRep_false (hok'.1 h5)
      by_cases h0 : p.hi = 0
      · rw [if_pos ⟨h5, h0⟩, Re.size_mk]
        have : p.lo = 0 := by omega
        rw [h0, this]
        simp [weightL, Re.sizes, Re.counts, h5]
        omega
      · rw [if_neg (fun h => h0 h.2), if_pos h5]
        have hl : xs.length = 1 := by
          have h1 := hty'.1
          unfold Pay.shaped at h1
          simp [h5] at h1
          omega
        have hge : Re.weighs xs 0 ≤ weightL (Re.weighs xs 0) p.lo p.hi := by
          generalize Re.weighs xs 0 = N at *
          unfold weightL
          by_cases c1 : (p.lo = 0 ∧ (p.hi = 1 ∨ p.hi = -1)) ∨ (p.lo = 1 ∧ p.hi = -1)
          · rw [if_pos c1]; omega
          rw [if_neg c1, if_neg h0]
          by_cases c3 : p.lo = 1 ∧ p.hi = 1
          · rw [if_pos c3]; omega
          rw [if_neg c3]
          by_cases c4 : p.hi = p.lo
          · rw [if_pos c4]
            have : 1 ≤ p.lo := by omega
            have := Int.mul_le_mul_of_nonneg_right this hb.1
            omega
          rw [if_neg c4]
          by_cases c5 : p.hi = -1
          · rw [if_pos c5]
            have : 1 ≤ p.lo := by omega
            have := Int.mul_le_mul_of_nonneg_right this hb.1
            omega
          · rw [if_neg c5]
            have h1 := Int.mul_nonneg hbd.1.1 hb.1
            have h2 : 1 ≤ p.hi - p.lo := by omega
            have h3 := Int.mul_le_mul_of_nonneg_right h2 (show 0 ≤ N + 1 by omega)
            omega
        have hs := Re.expands_size xs 0 hok'.2 hty'.2 (by omega) (by omega)
        match xs, hl with
        | [x], _ =>
          rw [Re.expands, Re.expands] at *
          rw [Re.sizes_one] at hs
          simp only [List.headD_cons]
          rw [Re.counted_size _ _ _ hbd.1.1 (by omega), show (x.expand.size : Int) = Re.weighs [x] 0 by omega]
          omega
    · rw [if_neg h5] at hw
      rw [if_neg h5, if_neg (fun h => h5 h.1), if_neg h5, Re.size_mk]
      have hs := Re.expands_size xs 0 hok'.2 hty'.2 (by omega) (by omega)
      omega
theorem Re.expands_size : ∀ (xs : List Re) (n : Int), Re.okrs xs = true → Re.typeds xs = true → 0 ≤ n → Re.weighs xs n < 1073741824 → ((Re.sizes (Re.expands xs) : Nat) : Int) + n = Re.weighs xs n
  | [], n, _, _, _, _ => by rw [Re.expands, Re.weighs]; simp [Re.sizes, Re.counts]
  | t :: ts, n, hok, hty, hn, hw => by
    rw [Re.okrs, Bool.and_eq_true] at hok
    rw [Re.typeds, Bool.and_eq_true] at hty
    rw [Re.weighs] at hw
    rw [Re.weighs, Re.expands]
    have hb := Re.weigh_bd t hok.1
    have hm := Re.weighs_mono ts (min 1073741824 (n + t.weigh)) hok.2 (by omega)
    have h1 := Re.expand_size t hok.1 hty.1 (by omega)
    have h2 := Re.expands_size ts (min 1073741824 (n + t.weigh)) hok.2 hty.2 (by omega) hw
    have h3 : Re.sizes (t.expand :: Re.expands ts) = t.expand.size + Re.sizes (Re.expands ts) := by simp [Re.sizes, Re.counts, Re.size]
    rw [h3]
    omega
theorem Re.weighs_mono : ∀ (xs : List Re) (n : Int), Re.okrs xs = true → 0 ≤ n ∧ n ≤ 1073741824 → n ≤ Re.weighs xs n
  | [], n, _, _ => by rw [Re.weighs]; omega
  | t :: ts, n, hok, hn => by
    rw [Re.okrs, Bool.and_eq_true] at hok
    have hb := Re.weigh_bd t hok.1
    rw [Re.weighs]
    have := Re.weighs_mono ts (min 1073741824 (n + t.weigh)) hok.2 (by omega)
    omega
end
def Re.expandR (t : Re) : Re × Int := if t.err ≠ 0 then (.mk (Pay.of 0) [], t.err) else if 4096 < t.weigh then (.mk (Pay.of 0) [], 3) else (t.expand, 0)
end Go.Proofs.Ythnpbopnpdlmnaa
