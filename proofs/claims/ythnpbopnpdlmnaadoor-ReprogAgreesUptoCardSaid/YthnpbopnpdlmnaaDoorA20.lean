/- Expanding keeps the ends of a tree, plainly. -/
import Derived.Test.YthnpbopnpdlmnaaDoorA11
import Derived.Test.YthnpbopnpdlmnaaDoorA08
import Derived.Test.YthnpbopnpdlmnaaDoorA19
namespace Go.Proofs.YthnpbopnpdlmnaaDoor
open Go.RowKit

mutual
def Re.simp1 : Re → Prop
  | .mk p xs => (p.op = 5 → (p.lo = 0 ∧ (p.hi = 1 ∨ p.hi = -1)) ∨ (p.lo = 1 ∧ p.hi = -1)) ∧ Re.simps1 xs
def Re.simps1 : List Re → Prop
  | [] => True
  | x :: xs => x.simp1 ∧ Re.simps1 xs
end
theorem Iter.snoc {R : Nat → Nat → Prop} : ∀ (m n i j : Nat), Iter R (m + n) i j ↔ ∃ k, Iter R m i k ∧ Iter R n k j
  | 0, n, i, j => by
    rw [Nat.zero_add]
    constructor
    · exact fun h => ⟨i, rfl, h⟩
    · rintro ⟨k, h1, h2⟩; rw [Iter] at h1; subst h1; exact h2
  | m + 1, n, i, j => by
    rw [show m + 1 + n = (m + n) + 1 by omega]
    constructor
    · rintro ⟨k, h1, h2⟩
      obtain ⟨l, h3, h4⟩ := (Iter.snoc m n k j).1 h2
      exact ⟨l, ⟨k, h1, h3⟩, h4⟩
    · rintro ⟨l, ⟨k, h1, h3⟩, h4⟩
      exact ⟨k, h1, (Iter.snoc m n k j).2 ⟨l, h3, h4⟩⟩
section
variable (s : List UInt8) (lines : Bool)
theorem Re.ECat_append : ∀ (xs ys : List Re) (i j : Nat), Re.ECat s lines (xs ++ ys) i j ↔ ∃ k, Re.ECat s lines xs i k ∧ Re.ECat s lines ys k j
  | [], ys, i, j => by
    constructor
    · exact fun h => ⟨i, by rw [Re.ECat], h⟩
    · rintro ⟨k, h1, h2⟩; rw [Re.ECat] at h1; subst h1; exact h2
  | x :: xs, ys, i, j => by
    rw [List.cons_append, Re.ECat]
    constructor
    · rintro ⟨k, h1, h2⟩
      obtain ⟨l, h3, h4⟩ := (Re.ECat_append xs ys k j).1 h2
      exact ⟨l, by rw [Re.ECat]; exact ⟨k, h1, h3⟩, h4⟩
    · rintro ⟨l, h3, h4⟩
      rw [Re.ECat] at h3
      obtain ⟨k, h1, h3⟩ := h3
      exact ⟨k, h1, (Re.ECat_append xs ys k j).2 ⟨l, h3, h4⟩⟩
theorem Re.ECat_same (x : Re) : ∀ (n i j : Nat), Re.ECat s lines (List.replicate n x) i j ↔ Iter (x.E s lines) n i j
  | 0, i, j => by rw [List.replicate_zero, Re.ECat, Iter]
  | n + 1, i, j => by
    rw [List.replicate_succ, Re.ECat, Iter]
    exact exists_congr fun k => and_congr_right fun _ => Re.ECat_same x n k j
theorem Re.E_rept (x : Re) (lo hi : Int) (i j : Nat) : (x.rept lo hi).E s lines i j ↔ ∃ n : Nat, lo ≤ (n : Int) ∧ (hi < 0 ∨ (n : Int) ≤ hi) ∧ Iter (x.E s lines) n i j := by
  unfold Re.rept Pay.ofRep
  rw [Re.E]
  simp only [show ¬ (5 : Int) = 1 by decide, show ¬ (5 : Int) = 2 by decide, show ¬ (5 : Int) = 3 by decide, show ¬ (5 : Int) = 4 by decide, if_false, if_true]
  have e : Re.EFirst s lines [x] = x.E s lines := by funext a b; rw [Re.EFirst]
  rw [e]
theorem Re.ECat_opts (x : Re) : ∀ (m i j : Nat), Re.ECat s lines (List.replicate m (x.rept 0 1)) i j ↔ ∃ n, n ≤ m ∧ Iter (x.E s lines) n i j
  | 0, i, j => by
    rw [List.replicate_zero, Re.ECat]
    constructor
    · intro h; exact ⟨0, Nat.le_refl _, h⟩
    · rintro ⟨n, h1, h2⟩
      obtain rfl : n = 0 := by omega
      exact h2
  | m + 1, i, j => by
    rw [List.replicate_succ, Re.ECat]
    constructor
    · rintro ⟨k, h1, h2⟩
      obtain ⟨n1, -, h4, h5⟩ := (Re.E_rept s lines x 0 1 i k).1 h1
      obtain ⟨n2, h6, h7⟩ := (Re.ECat_opts x m k j).1 h2
      exact ⟨n1 + n2, by omega, (Iter.snoc n1 n2 i j).2 ⟨k, h5, h7⟩⟩
    · rintro ⟨n, h1, h2⟩
      cases n with
      | zero =>
        exact ⟨i, (Re.E_rept s lines x 0 1 i i).2 ⟨0, by omega, .inr (by omega), rfl⟩, (Re.ECat_opts x m i j).2 ⟨0, Nat.zero_le _, h2⟩⟩
      | succ n =>
        obtain ⟨k, h3, h4⟩ := h2
        exact ⟨k, (Re.E_rept s lines x 0 1 i k).2 ⟨1, by omega, .inr (by omega), ⟨k, h3, rfl⟩⟩, (Re.ECat_opts x m k j).2 ⟨n, by omega, h4⟩⟩
theorem Re.E_counted (x : Re) (lo hi : Int) (h0 : 0 ≤ lo) (h1 : hi = -1 ∨ lo ≤ hi) (h2 : hi ≠ 0) (i j : Nat) : (x.counted lo hi).E s lines i j ↔ ∃ n : Nat, lo ≤ (n : Int) ∧ (hi < 0 ∨ (n : Int) ≤ hi) ∧ Iter (x.E s lines) n i j := by
  have cat : ∀ (xs : List Re), (Re.mk (Pay.of 3) xs).E s lines i j ↔ Re.ECat s lines xs i j := fun xs => by
    unfold Pay.of
    rw [Re.E]
    simp only [show ¬ (3 : Int) = 1 by decide, show ¬ (3 : Int) = 2 by decide, if_false, if_true]
  unfold Re.counted
  split
  · exact Re.E_rept s lines x lo hi i j
  split
  · rename_i h
    obtain ⟨rfl, rfl⟩ := h
    constructor
    · intro h; exact ⟨1, by omega, .inr (by omega), ⟨j, h, rfl⟩⟩
    · rintro ⟨n, h3, h4, h5⟩
      obtain rfl : n = 1 := by omega
      obtain ⟨k, h6, h7⟩ := h5
      rw [Iter] at h7; subst h7; exact h6
  split
  · rename_i h
    subst h
    rw [cat, Re.ECat_same]
    constructor
    · intro h; exact ⟨hi.toNat, by omega, .inr (by omega), h⟩
    · rintro ⟨n, h3, h4, h5⟩
      obtain rfl : n = hi.toNat := by omega
      exact h5
  split
  · rename_i h _ _ hm
    subst hm
    rw [cat, Re.ECat_append]
    constructor
    · rintro ⟨k, h3, h4⟩
      rw [Re.ECat_same] at h3
      rw [Re.ECat] at h4
      obtain ⟨l, h5, h6⟩ := h4
      rw [Re.ECat] at h6
      subst h6
      obtain ⟨n, h7, -, h8⟩ := (Re.E_rept s lines x 1 (-1) k j).1 h5
      exact ⟨(lo - 1).toNat + n, by omega, .inl (by omega), (Iter.snoc _ n i j).2 ⟨k, h3, h8⟩⟩
    · rintro ⟨n, h3, -, h5⟩
      by_cases hl : 1 ≤ lo
      · rw [show n = (lo - 1).toNat + (n - (lo - 1).toNat) by omega] at h5
        obtain ⟨k, h6, h7⟩ := (Iter.snoc _ _ i j).1 h5
        exact ⟨k, (Re.ECat_same s lines x _ i k).2 h6, by rw [Re.ECat]; exact ⟨j, (Re.E_rept s lines x 1 (-1) k j).2 ⟨n - (lo - 1).toNat, by omega, .inl (by omega), h7⟩, by rw [Re.ECat]⟩⟩
      · exact absurd (.inl ⟨by omega, .inr rfl⟩) h
  · rw [cat, Re.ECat_append]
    constructor
    · rintro ⟨k, h3, h4⟩
      rw [Re.ECat_same] at h3
      obtain ⟨n, h7, h8⟩ := (Re.ECat_opts s lines x _ k j).1 h4
      exact ⟨lo.toNat + n, by omega, .inr (by omega), (Iter.snoc _ n i j).2 ⟨k, h3, h8⟩⟩
    · rintro ⟨n, h3, h4, h5⟩
      rw [show n = lo.toNat + (n - lo.toNat) by omega] at h5
      obtain ⟨k, h6, h7⟩ := (Iter.snoc _ _ i j).1 h5
      exact ⟨k, (Re.ECat_same s lines x _ i k).2 h6, (Re.ECat_opts s lines x _ k j).2 ⟨n - lo.toNat, by omega, h7⟩⟩
mutual
theorem Re.E_expand : ∀ (t : Re) (i j : Nat), t.nob → t.fine → t.okr = true → (t.expand.E s lines i j ↔ t.E s lines i j)
  | .mk p xs, i, j, hb, hf, ho => by
    rw [Re.nob] at hb
    rw [Re.fine] at hf
    rw [Re.okr, Bool.and_eq_true, decide_eq_true_eq] at ho
    rw [Re.expand]
    by_cases o5 : p.op = 5
    · obtain ⟨x, rfl⟩ : ∃ x, xs = [x] := List.length_eq_one_iff.1 (hf.2.1 o5)
      have e3 : Re.EFirst s lines [x] = x.E s lines := by funext a b; rw [Re.EFirst]
      have hR : ∀ (a b : Nat), (Re.mk p [x]).E s lines a b ↔ ∃ n : Nat, p.lo ≤ (n : Int) ∧ (p.hi < 0 ∨ (n : Int) ≤ p.hi) ∧ Iter (x.E s lines) n a b := fun a b => by
        rw [Re.E, if_neg (by omega), if_neg (by omega), if_neg (by omega), if_neg (by omega), if_pos o5, e3]
      rw [hR]
      have hbr := Pay.badRep_false (ho.1 o5)
      by_cases h0 : p.hi = 0
      · rw [if_pos ⟨o5, h0⟩]
        have e1 : (Re.mk (Pay.of 1) []).E s lines i j ↔ j = i := by
          unfold Pay.of
          rw [Re.E, if_pos rfl]
        rw [e1]
        constructor
        · rintro rfl
          exact ⟨0, by omega, .inr (by omega), rfl⟩
        · rintro ⟨n, h1, h2, h3⟩
          obtain rfl : n = 0 := by omega
          exact h3
      · rw [if_neg (fun h => h0 h.2), if_pos o5]
        have e2 : (Re.expands [x]).headD (.mk (Pay.of 0) []) = x.expand := by rw [Re.expands]; rfl
        rw [e2, Re.E_counted s lines x.expand p.lo p.hi hbr.1.1 (by omega) h0]
        rw [Re.nobs] at hb
        rw [Re.fines] at hf
        have hox := ho.2
        rw [Re.okrs, Bool.and_eq_true] at hox
        have e4 : x.expand.E s lines = x.E s lines := by
          funext a b
          exact propext (Re.E_expand x a b hb.2.1 hf.2.2.2.1 hox.1)
        rw [e4]
    · rw [if_neg (fun h => o5 h.1), if_neg o5, Re.E, Re.E]
      by_cases o1 : p.op = 1
      · rw [if_pos o1, if_pos o1]
      rw [if_neg o1, if_neg o1]
      by_cases o2 : p.op = 2
      · rw [if_pos o2, if_pos o2]
      rw [if_neg o2, if_neg o2]
      by_cases o3 : p.op = 3
      · rw [if_pos o3, if_pos o3]
        exact Re.ECat_expand xs i j hb.2 hf.2.2.2 ho.2
      rw [if_neg o3, if_neg o3]
      by_cases o4 : p.op = 4
      · rw [if_pos o4, if_pos o4]
        exact Re.EAlt_expand xs i j hb.2 hf.2.2.2 ho.2
      rw [if_neg o4, if_neg o4, if_neg o5, if_neg o5]
      by_cases o6 : p.op = 6
      · rw [if_pos o6, if_pos o6]
        obtain ⟨x, rfl⟩ : ∃ x, xs = [x] := List.length_eq_one_iff.1 (hf.2.2.1.1 o6)
        rw [Re.nobs] at hb
        rw [Re.fines] at hf
        have hox := ho.2
        rw [Re.okrs, Bool.and_eq_true] at hox
        rw [Re.expands, Re.EFirst, Re.EFirst]
        exact Re.E_expand x i j hb.2.1 hf.2.2.2.1 hox.1
      rw [if_neg o6, if_neg o6]
theorem Re.EAlt_expand : ∀ (xs : List Re) (i j : Nat), Re.nobs xs → Re.fines xs → Re.okrs xs = true → (Re.EAlt s lines (Re.expands xs) i j ↔ Re.EAlt s lines xs i j)
  | [], i, j, _, _, _ => by rw [Re.expands]
  | x :: xs, i, j, hb, hf, ho => by
    rw [Re.nobs] at hb
    rw [Re.fines] at hf
    rw [Re.okrs, Bool.and_eq_true] at ho
    rw [Re.expands, Re.EAlt, Re.EAlt, Re.E_expand x i j hb.1 hf.1 ho.1, Re.EAlt_expand xs i j hb.2 hf.2 ho.2]
theorem Re.ECat_expand : ∀ (xs : List Re) (i j : Nat), Re.nobs xs → Re.fines xs → Re.okrs xs = true → (Re.ECat s lines (Re.expands xs) i j ↔ Re.ECat s lines xs i j)
  | [], i, j, _, _, _ => by rw [Re.expands]
  | x :: xs, i, j, hb, hf, ho => by
    rw [Re.nobs] at hb
    rw [Re.fines] at hf
    rw [Re.okrs, Bool.and_eq_true] at ho
    rw [Re.expands, Re.ECat, Re.ECat]
    exact exists_congr fun k => and_congr (Re.E_expand x i k hb.1 hf.1 ho.1) (Re.ECat_expand xs k j hb.2 hf.2 ho.2)
end
end
theorem Re.nobs_of : ∀ (xs : List Re), (∀ a, a ∈ xs → a.nob) → Re.nobs xs
  | [], _ => by rw [Re.nobs]; trivial
  | t :: ts, h => by rw [Re.nobs]; exact ⟨h t (by simp), Re.nobs_of ts fun a ha => h a (by simp [ha])⟩
theorem Re.simps1_of : ∀ (xs : List Re), (∀ a, a ∈ xs → a.simp1) → Re.simps1 xs
  | [], _ => by rw [Re.simps1]; trivial
  | t :: ts, h => by rw [Re.simps1]; exact ⟨h t (by simp), Re.simps1_of ts fun a ha => h a (by simp [ha])⟩
theorem Re.rept_nob {x : Re} (h : x.nob) (lo hi : Int) : (x.rept lo hi).nob := by
  unfold Re.rept
  rw [Re.nob]
  exact ⟨⟨show (1 : Int) ≤ 5 by decide, show (5 : Int) ≤ 8 by decide⟩, Re.nobs_of _ fun a ha => by rw [List.mem_singleton.1 ha]; exact h⟩
theorem Re.rept_simp1 {x : Re} (h : x.simp1) {lo hi : Int} (hs : (lo = 0 ∧ (hi = 1 ∨ hi = -1)) ∨ (lo = 1 ∧ hi = -1)) : (x.rept lo hi).simp1 := by
  unfold Re.rept
  rw [Re.simp1]
  exact ⟨fun _ => hs, Re.simps1_of _ fun a ha => by rw [List.mem_singleton.1 ha]; exact h⟩
theorem Re.cat_nob {xs : List Re} (h : ∀ a, a ∈ xs → a.nob) : (Re.mk (Pay.of 3) xs).nob := by
  rw [Re.nob]
  exact ⟨⟨show (1 : Int) ≤ 3 by decide, show (3 : Int) ≤ 8 by decide⟩, Re.nobs_of xs h⟩
theorem Re.cat_simp1 {xs : List Re} (h : ∀ a, a ∈ xs → a.simp1) : (Re.mk (Pay.of 3) xs).simp1 := by
  rw [Re.simp1]
  exact ⟨fun e => absurd e (show (3 : Int) ≠ 5 by decide), Re.simps1_of xs h⟩
theorem Re.one_nob : (Re.mk (Pay.of 1) []).nob := by
  rw [Re.nob, Re.nobs]
  exact ⟨⟨show (1 : Int) ≤ 1 by decide, show (1 : Int) ≤ 8 by decide⟩, trivial⟩
theorem Re.one_simp1 : (Re.mk (Pay.of 1) []).simp1 := by
  rw [Re.simp1, Re.simps1]
  exact ⟨fun e => absurd e (show (1 : Int) ≠ 5 by decide), trivial⟩
theorem Re.counted_nob {x : Re} (h : x.nob) (lo hi : Int) : (x.counted lo hi).nob := by
  unfold Re.counted
  split
  · exact Re.rept_nob h lo hi
  split
  · exact Re.one_nob
  split
  · exact h
  split
  · exact Re.cat_nob fun a ha => by rw [(List.mem_replicate.1 ha).2]; exact h
  split
  · refine Re.cat_nob fun a ha => ?_
    rcases List.mem_append.1 ha with ha | ha
    · rw [(List.mem_replicate.1 ha).2]; exact h
    · rw [List.mem_singleton.1 ha]; exact Re.rept_nob h _ _
  · refine Re.cat_nob fun a ha => ?_
    rcases List.mem_append.1 ha with ha | ha
    · rw [(List.mem_replicate.1 ha).2]; exact h
    · rw [(List.mem_replicate.1 ha).2]; exact Re.rept_nob h _ _
theorem Re.counted_simp1 {x : Re} (h : x.simp1) (lo hi : Int) : (x.counted lo hi).simp1 := by
  unfold Re.counted
  split
  · rename_i hs; exact Re.rept_simp1 h hs
  split
  · exact Re.one_simp1
  split
  · exact h
  split
  · exact Re.cat_simp1 fun a ha => by rw [(List.mem_replicate.1 ha).2]; exact h
  split
  · refine Re.cat_simp1 fun a ha => ?_
    rcases List.mem_append.1 ha with ha | ha
    · rw [(List.mem_replicate.1 ha).2]; exact h
    · rw [List.mem_singleton.1 ha]; exact Re.rept_simp1 h (.inr ⟨rfl, rfl⟩)
  · refine Re.cat_simp1 fun a ha => ?_
    rcases List.mem_append.1 ha with ha | ha
    · rw [(List.mem_replicate.1 ha).2]; exact h
    · rw [(List.mem_replicate.1 ha).2]; exact Re.rept_simp1 h (.inl ⟨rfl, .inl rfl⟩)
mutual
theorem Re.expand_simp : ∀ (t : Re), t.nob → t.fine → t.expand.nob ∧ t.expand.simp1
  | .mk p xs, hb, hf => by
    rw [Re.nob] at hb
    rw [Re.fine] at hf
    have IH := Re.expands_simp xs hb.2 hf.2.2.2
    rw [Re.expand]
    by_cases h0 : p.op = 5 ∧ p.hi = 0
    · rw [if_pos h0]; exact ⟨Re.one_nob, Re.one_simp1⟩
    rw [if_neg h0]
    by_cases o5 : p.op = 5
    · rw [if_pos o5]
      obtain ⟨x, rfl⟩ : ∃ x, xs = [x] := List.length_eq_one_iff.1 (hf.2.1 o5)
      have e2 : (Re.expands [x]).headD (.mk (Pay.of 0) []) = x.expand := by rw [Re.expands]; rfl
      have e3 : Re.expands [x] = [x.expand] := by rw [Re.expands, Re.expands]
      rw [e3, Re.nobs, Re.simps1] at IH
      rw [e2]
      exact ⟨Re.counted_nob IH.1.1 _ _, Re.counted_simp1 IH.2.1 _ _⟩
    · rw [if_neg o5, Re.nob, Re.simp1]
      exact ⟨⟨hb.1, IH.1⟩, fun h => absurd h o5, IH.2⟩
theorem Re.expands_simp : ∀ (xs : List Re), Re.nobs xs → Re.fines xs → Re.nobs (Re.expands xs) ∧ Re.simps1 (Re.expands xs)
  | [], _, _ => by rw [Re.expands, Re.nobs, Re.simps1]; exact ⟨trivial, trivial⟩
  | x :: xs, hb, hf => by
    rw [Re.nobs] at hb
    rw [Re.fines] at hf
    have h1 := Re.expand_simp x hb.1 hf.1
    have h2 := Re.expands_simp xs hb.2 hf.2
    rw [Re.expands, Re.nobs, Re.simps1]
    exact ⟨⟨h1.1, h2.1⟩, h1.2, h2.2⟩
end
end Go.Proofs.YthnpbopnpdlmnaaDoor
