/- What stands for counted repetitions: the plain law. No program. -/
import Derived.Test.YtnlaffhkcdfkjaaNum
import Derived.Test.YtnlaffhkcdfkjaaLearn
import Derived.Test.YtnlaffhkcdfkjaaKnown
namespace Go.Proofs.Ytnlaffhkcdfkjaa
open Go.RowKit

def Pay.of (op : Int) : Pay := ⟨op, Cs.none, 0, 0, 0⟩
def Pay.ofRep (lo hi : Int) : Pay := ⟨5, Cs.none, lo, hi, 0⟩
theorem Pay.of_wf {op : Int} (h : I64 op) : (Pay.of op).wf := ⟨h, Cs.none_wf, ⟨show (-9223372036854775808 : Int) ≤ 0 by decide, show (0 : Int) ≤ 9223372036854775807 by decide⟩, ⟨show (-9223372036854775808 : Int) ≤ 0 by decide, show (0 : Int) ≤ 9223372036854775807 by decide⟩, ⟨show (-9223372036854775808 : Int) ≤ 0 by decide, show (0 : Int) ≤ 9223372036854775807 by decide⟩⟩
theorem Pay.ofRep_wf {lo hi : Int} (h : I64 lo) (h' : I64 hi) : (Pay.ofRep lo hi).wf := ⟨⟨show (-9223372036854775808 : Int) ≤ 5 by decide, show (5 : Int) ≤ 9223372036854775807 by decide⟩, Cs.none_wf, h, h', ⟨show (-9223372036854775808 : Int) ≤ 0 by decide, show (0 : Int) ≤ 9223372036854775807 by decide⟩⟩
def Re.rept (x : Re) (lo hi : Int) : Re := .mk (Pay.ofRep lo hi) [x]
/-- What stands for a repetition of x. -/
def Re.counted (x : Re) (lo hi : Int) : Re :=
  if (lo = 0 ∧ (hi = 1 ∨ hi = -1)) ∨ (lo = 1 ∧ hi = -1) then x.rept lo hi
  else if hi = 0 then .mk (Pay.of 1) []
  else if lo = 1 ∧ hi = 1 then x
  else if hi = lo then .mk (Pay.of 3) (List.replicate lo.toNat x)
  else if hi = -1 then .mk (Pay.of 3) (List.replicate (lo - 1).toNat x ++ [x.rept 1 (-1)])
  else .mk (Pay.of 3) (List.replicate lo.toNat x ++ List.replicate (hi - lo).toNat (x.rept 0 1))

mutual
/-- The number of nodes of the expanded tree, at most 2^30. -/
def Re.weigh : Re → Int
  | .mk p xs => if p.op = 5 then min 1073741824 (weightL (Re.weighs xs 0) p.lo p.hi) else min 1073741824 (Re.weighs xs 0 + 1)
def Re.weighs : List Re → Int → Int
  | [], n => n
  | t :: ts, n => Re.weighs ts (min 1073741824 (n + t.weigh))
end
mutual
/-- The expanded tree. -/
def Re.expand : Re → Re
  | .mk p xs => if p.op = 5 ∧ p.hi = 0 then .mk (Pay.of 1) [] else if p.op = 5 then ((Re.expands xs).headD (.mk (Pay.of 0) [])).counted p.lo p.hi else .mk p (Re.expands xs)
def Re.expands : List Re → List Re
  | [] => []
  | t :: ts => t.expand :: Re.expands ts
end
mutual
/-- The bounds of each repetition are right. -/
def Re.okr : Re → Bool
  | .mk p xs => decide (p.op = 5 → p.badRep = false) && Re.okrs xs
def Re.okrs : List Re → Bool
  | [] => true
  | t :: ts => t.okr && Re.okrs ts
end
theorem Re.okrs_get : ∀ (xs : List Re), Re.okrs xs = true → ∀ k (hk : k < xs.length), xs[k].okr = true
  | t :: ts, h, 0, hk => by rw [Re.okrs, Bool.and_eq_true] at h; exact h.1
  | t :: ts, h, k + 1, hk => by
    rw [Re.okrs, Bool.and_eq_true] at h
    exact Re.okrs_get ts h.2 k (by simpa using hk)
theorem Pay.badRep_false {p : Pay} (h : p.badRep = false) : (0 ≤ p.lo ∧ p.lo ≤ 64) ∧ (p.hi = -1 ∨ (p.lo ≤ p.hi ∧ p.hi ≤ 64)) := by
  unfold Pay.badRep at h
  simp at h
  omega
mutual
theorem Re.ranged_okr : ∀ (t : Re) (b : Nat), (t.ranged b).isSome = true → t.okr = true
  | .mk p xs, b, h => by
    rw [Re.ranged] at h
    rw [Re.okr]
    split at h
    · cases h
    · rename_i h5
      have e1 := decide_eq_true (p := p.op = 5 → p.badRep = false) (fun e => by
        cases hx : p.badRep with
        | true => exact absurd ⟨e, hx⟩ h5
        | false => rfl)
      rw [e1]
      split at h
      · split at h
        · rw [Re.rangeds_okr xs _ h]; rfl
        · cases h
      · rw [Re.rangeds_okr xs _ h]; rfl
theorem Re.rangeds_okr : ∀ (xs : List Re) (b : Nat), (Re.rangeds xs b).isSome = true → Re.okrs xs = true
  | [], b, h => by rw [Re.okrs]
  | t :: ts, b, h => by
    rw [Re.rangeds] at h
    rw [Re.okrs]
    cases hx : t.ranged b with
    | none => rw [hx] at h; cases h
    | some n =>
      rw [hx] at h
      rw [Re.ranged_okr t b (by rw [hx]; rfl), Re.rangeds_okr ts n h]
      rfl
end
theorem weightL_nonneg {n lo hi : Int} (hn : 0 ≤ n) (hlo : 0 ≤ lo) (hhi : hi = -1 ∨ lo ≤ hi) : 0 ≤ weightL n lo hi := by
  have h1 := Int.mul_nonneg hlo hn
  unfold weightL
  split
  · omega
  · split
    · omega
    · split
      · omega
      · split
        · omega
        · split
          · omega
          · have h2 : 0 ≤ (hi - lo) * (n + 1) := Int.mul_nonneg (by omega) (by omega)
            omega
mutual
theorem Re.weigh_bd : ∀ (t : Re), t.okr = true → 0 ≤ t.weigh ∧ t.weigh ≤ 1073741824
  | .mk p xs, h => by
    rw [Re.okr, Bool.and_eq_true, decide_eq_true_eq] at h
    have h1 := Re.weighs_bd xs 0 h.2 (by omega)
    rw [Re.weigh]
    split
    · rename_i h5
      have h2 := Pay.badRep_false (h.1 h5)
      have h3 := weightL_nonneg (n := Re.weighs xs 0) (lo := p.lo) (hi := p.hi) h1.1 h2.1.1 (by omega)
      omega
    · omega
theorem Re.weighs_bd : ∀ (xs : List Re) (n : Int), Re.okrs xs = true → 0 ≤ n ∧ n ≤ 1073741824 → 0 ≤ Re.weighs xs n ∧ Re.weighs xs n ≤ 1073741824
  | [], n, _, h => by rw [Re.weighs]; exact h
  | t :: ts, n, hk, h => by
    rw [Re.okrs, Bool.and_eq_true] at hk
    have := Re.weigh_bd t hk.1
    rw [Re.weighs]
    exact Re.weighs_bd ts _ hk.2 (by omega)
end
theorem Re.weighs_take : ∀ (xs : List Re) (k : Nat) (a : Re) (n : Int), xs[k]? = some a → Re.weighs (xs.take (k + 1)) n = min 1073741824 (Re.weighs (xs.take k) n + a.weigh)
  | t :: ts, 0, a, n, h => by simp at h; subst h; simp [Re.weighs]
  | t :: ts, k + 1, a, n, h => by
    rw [List.take_succ_cons, List.take_succ_cons, Re.weighs, Re.weighs]
    exact Re.weighs_take ts k a _ (by simpa using h)
theorem Re.okrs_take : ∀ (xs : List Re) (k : Nat), Re.okrs xs = true → Re.okrs (xs.take k) = true
  | [], k, h => by simp [Re.okrs]
  | t :: ts, 0, h => by simp [Re.okrs]
  | t :: ts, k + 1, h => by
    rw [Re.okrs, Bool.and_eq_true] at h
    rw [List.take_succ_cons, Re.okrs, h.1, Re.okrs_take ts k h.2]; rfl
theorem Re.expands_map : ∀ (xs : List Re), Re.expands xs = xs.map Re.expand
  | [] => by rw [Re.expands]; rfl
  | t :: ts => by rw [Re.expands, Re.expands_map ts]; rfl
end Go.Proofs.Ytnlaffhkcdfkjaa
