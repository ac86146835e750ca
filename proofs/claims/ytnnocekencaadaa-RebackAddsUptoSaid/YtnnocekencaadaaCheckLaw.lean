/- The plain law of the check of trees: what the checker collects is what the four questions ask. No program. -/
import Derived.Test.YtnnocekencaadaaCheck
namespace Go.Proofs.Ytnnocekencaadaa
open Go.RowKit

mutual
def Re.typed : Re → Bool
  | .mk p xs => p.shaped xs.length && Re.typeds xs
def Re.typeds : List Re → Bool
  | [] => true
  | t :: ts => t.typed && Re.typeds ts
end
mutual
/-- The number of groups before and in a tree, if its bounds and numbers are right. -/
def Re.ranged : Re → Nat → Option Nat
  | .mk p xs, b => if p.op = 5 ∧ p.badRep = true then none else if p.op = 6 then (if p.gr = b + 1 then Re.rangeds xs (b + 1) else none) else Re.rangeds xs b
def Re.rangeds : List Re → Nat → Option Nat
  | [], b => some b
  | t :: ts, b => match t.ranged b with
    | some n => Re.rangeds ts n
    | none => none
end
mutual
/-- The groups that are closed behind a tree, if its references are right. -/
def Re.named : Re → List Int → Option (List Int)
  | .mk p xs, l => if p.op = 9 ∧ p.gr ∉ l then none else match Re.nameds xs l with
    | some l' => if p.op = 6 then some (l' ++ [p.gr]) else some l'
    | none => none
def Re.nameds : List Re → List Int → Option (List Int)
  | [], l => some l
  | t :: ts, l => match t.named l with
    | some l' => Re.nameds ts l'
    | none => none
end
mutual
def Re.levels : Re → Nat
  | .mk _ xs => Re.levelss xs + 1
def Re.levelss : List Re → Nat
  | [] => 0
  | t :: ts => max t.levels (Re.levelss ts)
end
/-- The error of a tree: its number. -/
def Re.err (t : Re) : Int :=
  if t.typed = false then 7 else if (t.ranged 0).isNone then 2 else if (t.named []).isNone then 4 else if 600 < t.size ∨ 9 < t.groups ∨ 32 < t.levels then 3 else 0

theorem post_shape (c : Ck) (p : Pay) (n : Nat) : (c.post p n).shape = c.shape := by unfold Ck.post; split <;> rfl
theorem post_bounds (c : Ck) (p : Pay) (n : Nat) : (c.post p n).bounds = c.bounds := by unfold Ck.post; split <;> rfl
theorem post_name (c : Ck) (p : Pay) (n : Nat) : (c.post p n).name = c.name := by unfold Ck.post; split <;> rfl
mutual
theorem Re.check_shape : ∀ (t : Re) (c : Ck), (t.check c).1.shape = (c.shape || !t.typed)
  | .mk p xs, c => by
    rw [Re.check, post_shape, Re.checks_shape xs, Re.typed]
    show ((c.shape || !p.shaped xs.length) || _) = _
    cases c.shape <;> cases p.shaped xs.length <;> simp
theorem Re.checks_shape : ∀ (xs : List Re) (c : Ck) (l : Nat), (Re.checks xs c l).1.shape = (c.shape || !Re.typeds xs)
  | [], c, l => by simp [Re.checks, Re.typeds]
  | t :: ts, c, l => by
    rw [Re.checks, Re.checks_shape ts, Re.check_shape t, Re.typeds]
    cases c.shape <;> cases t.typed <;> simp
end
mutual
theorem Re.ranged_groups : ∀ (t : Re) (b n : Nat), t.ranged b = some n → n = b + t.groups
  | .mk p xs, b, n, h => by
    rw [Re.ranged] at h
    simp only [Re.groups, Re.count]
    split at h
    · cases h
    · split at h
      · rename_i h6
        split at h
        · have := Re.rangeds_groups xs (b + 1) n h; simp [h6]; omega
        · cases h
      · rename_i h6
        have := Re.rangeds_groups xs b n h; simp [h6]; omega
theorem Re.rangeds_groups : ∀ (xs : List Re) (b n : Nat), Re.rangeds xs b = some n → n = b + Re.counts (· == 6) xs
  | [], b, n, h => by simp [Re.rangeds] at h; simp [Re.counts, h]
  | t :: ts, b, n, h => by
    rw [Re.rangeds] at h
    split at h
    · rename_i m hm
      have h1 := Re.ranged_groups t b m hm
      have h2 := Re.rangeds_groups ts m n h
      simp only [Re.counts, Re.groups] at *; omega
    · cases h
end
mutual
theorem Re.check_bounds : ∀ (t : Re) (c : Ck), (t.check c).1.bounds = (c.bounds || (t.ranged c.groups).isNone)
  | .mk p xs, c => by
    rw [Re.check, post_bounds, Re.checks_bounds xs, Re.ranged]
    by_cases h5 : p.op = 5
    · have e : (c.pre p xs.length).groups = c.groups := by simp [Ck.pre, h5]
      have e2 : (c.pre p xs.length).bounds = (c.bounds || p.badRep) := by simp [Ck.pre, h5]
      rw [e, e2]
      cases hb : p.badRep <;> simp [h5]
    · by_cases h6 : p.op = 6
      · have e : (c.pre p xs.length).groups = c.groups + 1 := by simp [Ck.pre, h6]
        have e2 : (c.pre p xs.length).bounds = (c.bounds || decide (p.gr ≠ c.groups + 1)) := by simp [Ck.pre, h6]
        rw [e, e2]
        by_cases hg : p.gr = c.groups + 1
        · simp [h6, hg]
        · simp [h6, hg]
      · have e : (c.pre p xs.length).groups = c.groups := by simp [Ck.pre, h6]
        have e2 : (c.pre p xs.length).bounds = c.bounds := by simp [Ck.pre, h5, h6]
        rw [e, e2]
        simp [h5, h6]
theorem Re.checks_bounds : ∀ (xs : List Re) (c : Ck) (l : Nat), (Re.checks xs c l).1.bounds = (c.bounds || (Re.rangeds xs c.groups).isNone)
  | [], c, l => by simp [Re.checks, Re.rangeds]
  | t :: ts, c, l => by
    rw [Re.checks, Re.checks_bounds ts, Re.check_bounds t, Re.check_groups t, Re.rangeds]
    cases h : t.ranged c.groups with
    | none => simp
    | some n => rw [Re.ranged_groups t _ _ h]; simp
end
mutual
theorem Re.check_levels_eq : ∀ (t : Re) (c : Ck), (t.check c).2 = t.levels
  | .mk p xs, c => by rw [Re.check, Re.levels, Re.checks_levels_eq xs]; simp
theorem Re.checks_levels_eq : ∀ (xs : List Re) (c : Ck) (l : Nat), (Re.checks xs c l).2 = max l (Re.levelss xs)
  | [], c, l => by simp [Re.checks, Re.levelss]
  | t :: ts, c, l => by rw [Re.checks, Re.checks_levels_eq ts, Re.check_levels_eq t, Re.levelss]; omega
end
mutual
theorem Re.check_names : ∀ (t : Re) (c : Ck) (l : List Int), (t.ranged c.groups).isSome → (c.closed = fun k => decide (k ∈ l)) →
    (t.check c).1.name = (c.name || (t.named l).isNone) ∧ ∀ l', t.named l = some l' → (t.check c).1.closed = fun k => decide (k ∈ l')
  | .mk p xs, c, l, hr, hc => by
    rw [Re.ranged] at hr
    rw [Re.check, Re.named]
    have hr' : (Re.rangeds xs (c.pre p xs.length).groups).isSome ∧ (p.op = 6 → p.gr = c.groups + 1) := by
      by_cases h5 : p.op = 5 ∧ p.badRep = true
      · simp [h5] at hr
      · rw [if_neg h5] at hr
        by_cases h6 : p.op = 6
        · rw [if_pos h6] at hr
          by_cases hg : p.gr = c.groups + 1
          · rw [if_pos hg] at hr
            exact ⟨by simpa [Ck.pre, h6] using hr, fun _ => hg⟩
          · rw [if_neg hg] at hr; simp at hr
        · rw [if_neg h6] at hr
          exact ⟨by simpa [Ck.pre, h6] using hr, fun h => absurd h h6⟩
    obtain ⟨hr1, hr2⟩ := hr'
    obtain ⟨h1, h2⟩ := Re.checks_names xs (c.pre p xs.length) 0 l hr1 (by show c.closed = _; exact hc)
    rw [post_name, h1]
    by_cases h9 : p.op = 9
    · have hn : (c.pre p xs.length).name = (c.name || !decide (p.gr ∈ l)) := by simp [Ck.pre, h9, hc]
      rw [hn]
      by_cases hm : p.gr ∈ l
      · have e6 : ¬ p.op = 6 := by omega
        simp only [h9, hm]
        cases hx : Re.nameds xs l with
        | none => simp
        | some l'' => simp [h2 l'' hx, Ck.post, h9]
      · simp [h9, hm]
    · have hn : (c.pre p xs.length).name = c.name := by simp [Ck.pre, h9]
      rw [hn]
      cases hx : Re.nameds xs l with
      | none => simp [h9]
      | some l'' =>
        by_cases h6 : p.op = 6
        · have hg := hr2 h6
          have ho : (c.pre p xs.length).groups = c.groups + 1 := by simp [Ck.pre, h6]
          simp only [h6]
          refine ⟨by simp, fun l' hl' => ?_⟩
          simp at hl'
          subst hl'
          rw [Ck.post, if_pos ⟨h6, by rw [hg, ho]; simp⟩]
          funext k
          simp only [h2 l'' hx, ho]
          rw [Bool.eq_iff_iff]
          simp [hg]
          exact or_comm
        · simp only [h6, h9]
          refine ⟨by simp, fun l' hl' => ?_⟩
          simp at hl'
          subst hl'
          rw [Ck.post, if_neg (fun h => h6 h.1)]
          exact h2 l'' hx
theorem Re.checks_names : ∀ (xs : List Re) (c : Ck) (m : Nat) (l : List Int), (Re.rangeds xs c.groups).isSome → (c.closed = fun k => decide (k ∈ l)) →
    (Re.checks xs c m).1.name = (c.name || (Re.nameds xs l).isNone) ∧ ∀ l', Re.nameds xs l = some l' → (Re.checks xs c m).1.closed = fun k => decide (k ∈ l')
  | [], c, m, l, hr, hc => by simp [Re.checks, Re.nameds]; exact hc
  | t :: ts, c, m, l, hr, hc => by
    rw [Re.rangeds] at hr
    rw [Re.checks, Re.nameds]
    cases hx : t.ranged c.groups with
    | none => rw [hx] at hr; simp at hr
    | some n =>
      rw [hx] at hr
      obtain ⟨h1, h2⟩ := Re.check_names t c l (by rw [hx]; rfl) hc
      have hn := Re.ranged_groups t _ _ hx
      cases hy : t.named l with
      | none =>
        rw [hy] at h1
        have key : ∀ (xs : List Re) (c : Ck) (m : Nat), c.name = true → (Re.checks xs c m).1.name = true := fun xs c m hc => Re.checks_name_true xs c m hc
        refine ⟨?_, fun l' hl' => by simp at hl'⟩
        rw [key _ _ _ (by rw [h1]; simp)]; simp
      | some l1 =>
        have h3 := h2 l1 hy
        obtain ⟨h4, h5⟩ := Re.checks_names ts (t.check c).1 (max m (t.check c).2) l1 (by rw [Re.check_groups, ← hn]; exact hr) h3
        rw [hy] at h1
        refine ⟨?_, h5⟩
        rw [h4, h1]; simp
theorem Re.check_name_true : ∀ (t : Re) (c : Ck), c.name = true → (t.check c).1.name = true
  | .mk p xs, c, h => by rw [Re.check, post_name]; exact Re.checks_name_true xs _ _ (by simp [Ck.pre, h])
theorem Re.checks_name_true : ∀ (xs : List Re) (c : Ck) (m : Nat), c.name = true → (Re.checks xs c m).1.name = true
  | [], c, m, h => by simpa [Re.checks] using h
  | t :: ts, c, m, h => by rw [Re.checks]; exact Re.checks_name_true ts _ _ (Re.check_name_true t c h)
end

def Ck.init : Ck := { shape := false, bounds := false, name := false, nodes := 0, groups := 0, closed := fun _ => false }
/-- The error that the checker tells. -/
def Ck.err (c : Ck) (levels : Nat) : Int := if c.shape then 7 else if c.bounds then 2 else if c.name then 4 else if 600 < c.nodes ∨ 9 < c.groups ∨ 32 < levels then 3 else 0
theorem Re.err_check (t : Re) : (t.check Ck.init).1.err (t.check Ck.init).2 = t.err := by
  unfold Ck.err Re.err
  rw [Re.check_shape, Re.check_bounds, Re.check_levels_eq, Re.check_nodes, Re.check_groups]
  have e1 : Ck.init.shape = false := rfl
  have e2 : Ck.init.bounds = false := rfl
  have e3 : Ck.init.groups = 0 := rfl
  have e4 : Ck.init.nodes = 0 := rfl
  rw [e1, e2, e3, e4]
  cases ht : t.typed
  · simp
  · cases hr : t.ranged 0 with
    | none => simp
    | some n =>
      have h := (Re.check_names t Ck.init [] (by rw [e3, hr]; rfl) (by funext k; simp [Ck.init])).1
      rw [h]
      have e5 : Ck.init.name = false := rfl
      rw [e5]
      cases hn : t.named [] <;> simp
end Go.Proofs.Ytnnocekencaadaa
