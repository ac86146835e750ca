/- The plain law of the check of trees: what the checker collects is what the four questions ask. No program. -/
import Derived.Test.YtjjhdddlbgdkeaaDoorG12
import Derived.Test.YtjjhdddlbgdkeaaDoorG10
import Derived.Test.YtjjhdddlbgdkeaaDoorG04
namespace Go.Proofs.YtjjhdddlbgdkeaaDoor
open Go.RowKit

mutual
def Re.typed : Re → Bool
  | .mk p xs => p.shaped xs.length && Re.typeds xs
def Re.typeds : List Re → Bool
  | [] => true
  | t :: ts => t.typed && Re.typeds ts
end
mutual
/-- The number of groups before and in a tree, if its bounds and numbers are right. -/
def Re.ranged : Re → Nat → Option Nat
  | .mk p xs, b => if p.op = 5 ∧ p.badRep = true then none else if p.op = 6 then (if p.gr = b + 1 then Re.rangeds xs (b + 1) else none) else Re.rangeds xs b
def Re.rangeds : List Re → Nat → Option Nat
  | [], b => some b
  | t :: ts, b => match t.ranged b with
    | some n => Re.rangeds ts n
    | none => none
end
mutual
/-- The groups that are closed behind a tree, if its references are right. -/
def Re.named : Re → List Int → Option (List Int)
  | .mk p xs, l => if p.op = 9 ∧ p.gr ∉ l then none else match Re.nameds xs l with
    | some l' => if p.op = 6 then some (l' ++ [p.gr]) else some l'
    | none => none
def Re.nameds : List Re → List Int → Option (List Int)
  | [], l => some l
  | t :: ts, l => match t.named l with
    | some l' => Re.nameds ts l'
    | none => none
end
mutual
def Re.levels : Re → Nat
  | .mk _ xs => Re.levelss xs + 1
def Re.levelss : List Re → Nat
  | [] => 0
  | t :: ts => max t.levels (Re.levelss ts)
end
/-- The error of a tree: its number. -/
def Re.err (t : Re) : Int :=
  if t.typed = false then 7 else if (t.ranged 0).isNone then 2 else if (t.named []).isNone then 4 else if 600 < t.size ∨ 9 < t.groups ∨ 32 < t.levels then 3 else 0

theorem post_shape (c : Ck) (p : Pay) (n : Nat) : (c.post p n).shape = c.shape := by unfold Ck.post; split <;> rfl
theorem post_bounds (c : Ck) (p : Pay) (n : Nat) : (c.post p n).bounds = c.bounds := by unfold Ck.post; split <;> rfl
theorem post_name (c : Ck) (p : Pay) (n : Nat) : (c.post p n).name = c.name := by unfold Ck.post; split <;> rfl
mutual
theorem Re.check_shape : ∀ (t : Re) (c : Ck), (t.check c).1.shape = (c.shape || !t.typed)
  | .mk p xs, c => by
    rw [Re.check, post_shape, Re.checks_shape xs, Re.typed]
    show ((c.shape || !p.shaped xs.length) || _) = _
    cases c.shape <;> cases p.shaped xs.length <;> simp
theorem Re.checks_shape : ∀ (xs : List Re) (c : Ck) (l : Nat), (Re.checks xs c l).1.shape = (c.shape || !Re.typeds xs)
  | [], c, l => by simp [Re.checks, Re.typeds]
  | t :: ts, c, l => by
    rw [Re.checks, Re.checks_shape ts, Re.check_shape t, Re.typeds]
    cases c.shape <;> cases t.typed <;> simp
end
mutual
theorem Re.ranged_groups : ∀ (t : Re) (b n : Nat), t.ranged b = some n → n = b + t.groups
  | .mk p xs, b, n, h => by
    rw [Re.ranged] at h
    simp only [Re.groups, Re.count]
    split at h
    · cases h
    · split at h
      · rename_i h6
        split at h
        · have := Re.rangeds_groups xs (b + 1) n h; simp [h6]; omega
        · cases h
      · rename_i h6
        have := Re.rangeds_groups xs b n h; simp [h6]; omega
theorem Re.rangeds_groups : ∀ (xs : List Re) (b n : Nat), Re.rangeds xs b = some n → n = b + Re.counts (· == 6) xs
  | [], b, n, h => by simp [Re.rangeds] at h; simp [Re.counts, h]
  | t :: ts, b, n, h => by
    rw [Re.rangeds] at h
    split at h
    · rename_i m hm
      have h1 := Re.ranged_groups t b m hm
      have h2 := Re.rangeds_groups ts m n h
      simp only [Re.counts, Re.groups] at *; omega
    · cases h
end
mutual
theorem Re.check_bounds : ∀ (t : Re) (c : Ck), (t.check c).1.bounds = (c.bounds || (t.ranged c.groups).isNone)
  | .mk p xs, c => by
    rw [Re.check, post_bounds, Re.checks_bounds xs, Re.ranged]
    by_cases h5 : p.op = 5
    · have e : (c.pre p xs.length).groups = c.groups := by simp [Ck.pre, h5]
      have e2 : (c.pre p xs.length).bounds = (c.bounds || p.badRep) := by simp [Ck.pre, h5]
      rw [e, e2]
      cases hb : p.badRep <;> simp [h5]
    · by_cases h6 : p.op = 6
      · have e : (c.pre p xs.length).groups = c.groups + 1 := by simp [Ck.pre, h6]
        have e2 : (c.pre p xs.length).bounds = (c.bounds || decide (p.gr ≠ c.groups + 1)) := by simp [Ck.pre, h6]
        rw [e, e2]
        by_cases hg : p.gr = c.groups + 1
        · simp [h6, hg]
        · simp [h6, hg]
      · have e : (c.pre p xs.length).groups = c.groups := by simp [Ck.pre, h6]
        have e2 : (c.pre p xs.length).bounds = c.bounds := by simp [Ck.pre, h5, h6]
        rw [e, e2]
        simp [h5, h6]
theorem Re.checks_bounds : ∀ (xs : List Re) (c : Ck) (l : Nat), (Re.checks xs c l).1.bounds = (c.bounds || (Re.rangeds xs c.groups).isNone)
  | [], c, l => by simp [Re.checks, Re.rangeds]
  | t :: ts, c, l => by
    rw [Re.checks, Re.checks_bounds ts, Re.check_bounds t, Re.check_groups t, Re.rangeds]
    cases h : t.ranged c.groups with
    | none => simp
    | some n => rw [Re.ranged_groups t _ _ h]; simp
end
mutual
theorem Re.check_levels_eq : ∀ (t : Re) (c : Ck), (t.check c).2 = t.levels
  | .mk p xs, c => by rw [Re.check, Re.levels, Re.checks_levels_eq xs]; simp
theorem Re.checks_levels_eq : ∀ (xs : List Re) (c : Ck) (l : Nat), (Re.checks xs c l).2 = max l (Re.levelss xs)
  | [], c, l => by simp [Re.checks, Re.levelss]
  | t :: ts, c, l => by rw [Re.checks, Re.checks_levels_eq ts, Re.check_levels_eq t, Re.levelss]; omega
end
mutual
theorem Re.check_names : ∀ (t : Re) (c : Ck) (l : List Int), (t.ranged c.groups).isSome → (c.closed = fun k => decide (k ∈ l)) →
    (t.check c).1.name = (c.name || (t.named l).isNone) ∧ ∀ l', t.named l = some l' → (t.check c).1.closed = fun k => decide (k ∈ l')
  | .mk p xs, c, l, hr, hc => by
    rw [Re.ranged] at hr
    rw [Re.check, Re.named]
    have hr' : (Re.rangeds xs (c.pre p xs.length).groups).isSome ∧ (p.op = 6 → p.gr = c.groups + 1) := by
      by_cases h5 : p.op = 5 ∧ p.badRep = true
      · simp [h5] at hr
      · rw [if_neg h5] at hr
        by_cases h6 : p.op = 6
        · rw [if_pos h6] at hr
          by_cases hg : p.gr = c.groups + 1
          · rw [if_pos hg] at hr
            exact ⟨by simpa [Ck.pre, h6] using hr, fun _ => hg⟩
          · rw [if_neg hg] at hr; simp at hr
        · rw [if_neg h6] at hr
          exact ⟨by simpa [Ck.pre, h6] using hr, fun h => absurd h h6⟩
    obtain ⟨hr1, hr2⟩ := hr'
    obtain ⟨h1, h2⟩ := Re.checks_names xs (c.pre p xs.length) 0 l hr1 (by show c.closed = _; exact hc)
    rw [post_name, h1]
    by_cases h9 : p.op = 9
    · have hn : (c.pre p xs.length).name = (c.name || !decide (p.gr ∈ l)) := by simp [Ck.pre, h9, hc]
      rw [hn]
      by_cases hm : p.gr ∈ l
      · have e6 : ¬ p.op = 6 := by omega
        simp only [h9, hm]
        cases hx : Re.nameds xs l with
        | none => simp
        | some l'' => simp [h2 l'' hx, Ck.post, h9]
      · simp [h9, hm]
    · have hn : (c.pre p xs.length).name = c.name := by simp [Ck.pre, h9]
      rw [hn]
      cases hx : Re.nameds xs l with
      | none => simp [h9]
      | some l'' =>
        by_cases h6 : p.op = 6
        · have hg := hr2 h6
          have ho : (c.pre p xs.length).groups = c.groups + 1 := by simp [Ck.pre, h6]
          simp only [h6]
          refine ⟨by simp, fun l' hl' => ?_⟩
          simp at hl'
          subst hl'
          rw [Ck.post, if_pos ⟨h6, by rw [hg, ho]; simp⟩]
          funext k
          simp only [h2 l'' hx, ho]
          rw [Bool.eq_iff_iff]
          simp [hg]
          exact or_comm
        · simp only [h6, h9]
          refine ⟨by simp, fun l' hl' => ?_⟩
          simp at hl'
          subst hl'
          rw [Ck.post, if_neg (fun h => h6 h.1)]
          exact h2 l'' hx
theorem Re.checks_names : ∀ (xs : List Re) (c : Ck) (m : Nat) (l : List Int), (Re.rangeds xs c.groups).isSome → (c.closed = fun k => decide (k ∈ l)) →
    (Re.checks xs c m).1.name = (c.name || (Re.nameds xs l).isNone) ∧ ∀ l', Re.nameds xs l = some l' → (Re.checks xs c m).1.closed = fun k => decide (k ∈ l')
  | [], c, m, l, hr, hc => by simp [Re.checks, Re.nameds]; exact hc
  | t :: ts, c, m, l, hr, hc => by
    rw [Re.rangeds] at hr
    rw [Re.checks, Re.nameds]
    cases hx : t.ranged c.groups with
    | none => rw [hx] at hr; simp at hr
    | some n =>
      rw [hx] at hr
      obtain ⟨h1, h2⟩ := Re.check_names t c l (by rw [hx]; rfl) hc
      have hn := Re.ranged_groups t _ _ hx
      cases hy : t.named l with
      | none =>
        rw [hy] at h1
        have key : ∀ (xs : List Re) (c : Ck) (m : Nat), c.name = true → (Re.checks xs c m).1.name = true := fun xs c m hc => Re.checks_name_true xs c m hc
        refine ⟨?_, fun l' hl' => by simp at hl'⟩
        rw [key _ _ _ (by rw [h1]; simp)]; simp
      | some l1 =>
        have h3 := h2 l1 hy
        obtain ⟨h4, h5⟩ := Re.checks_names ts (t.check c).1 (max m (t.check c).2) l1 (by rw [Re.check_groups, ← hn]; exact hr) h3
        rw [hy] at h1
        refine ⟨?_, h5⟩
        rw [h4, h1]; simp
theorem Re.check_name_true : ∀ (t : Re) (c : Ck), c.name = true → (t.check c).1.name = true
  | .mk p xs, c, h => by rw [Re.check, post_name]; exact Re.checks_name_true xs _ _ (by simp [Ck.pre, h])
theorem Re.checks_name_true : ∀ (xs : List Re) (c : Ck) (m : Nat), c.name = true → (Re.checks xs c m).1.name = true
  | [], c, m, h => by simpa [Re.checks] using h
  | t :: ts, c, m, h => by rw [Re.checks]; exact Re.checks_name_true ts _ _ (Re.check_name_true t c h)
end

def Ck.init : Ck := { shape := false, bounds := false, name := false, nodes := 0, groups := 0, closed := fun _ => false }
/-- The error that the checker tells. -/
def Ck.err (c : Ck) (levels : Nat) : Int := if c.shape then 7 else if c.bounds then 2 else if c.name then 4 else if 600 < c.nodes ∨ 9 < c.groups ∨ 32 < levels then 3 else 0
theorem Re.err_check (t : Re) : (t.check Ck.init).1.err (t.check Ck.init).2 = t.err := by
  unfold Ck.err Re.err
  rw [Re.check_shape, Re.check_bounds, Re.check_levels_eq, Re.check_nodes, Re.check_groups]
  have e1 : Ck.init.shape = false := rfl
  have e2 : Ck.init.bounds = false := rfl
  have e3 : Ck.init.groups = 0 := rfl
  have e4 : Ck.init.nodes = 0 := rfl
  rw [e1, e2, e3, e4]
  cases ht : t.typed
  · simp
  · cases hr : t.ranged 0 with
    | none => simp
    | some n =>
      have h := (Re.check_names t Ck.init [] (by rw [e3, hr]; rfl) (by funext k; simp [Ck.init])).1
      rw [h]
      have e5 : Ck.init.name = false := rfl
      rw [e5]
      cases hn : t.named [] <;> simp
end Go.Proofs.YtjjhdddlbgdkeaaDoor

/- What is learnt of a tree: the law side. -/
namespace Go.Proofs.YtjjhdddlbgdkeaaDoor
open Go.RowKit

def Facts.zero : Facts := ⟨false, 0, 0, Cs.none⟩
def Facts.empty : Facts := ⟨true, 0, 0, Cs.none⟩
def Facts.rep (f : Facts) (lo hi : Int) : Facts := ⟨decide (lo = 0) || f.null, ltimes f.least lo, ltimes f.most hi, if hi = 0 then Cs.none else f.first⟩
def Facts.cats : List Facts → Facts
  | [] => Facts.zero
  | f :: l => l.foldl Facts.cat f
def Facts.alts : List Facts → Facts
  | [] => Facts.zero
  | f :: l => l.foldl Facts.alt f
def Pay.learn (p : Pay) (l : List Facts) (g : Int → Option Facts) : Facts × (Int → Option Facts) :=
  if p.op = 2 then (⟨false, 1, 1, p.set⟩, g)
  else if p.op = 3 then (Facts.cats l, g)
  else if p.op = 4 then (Facts.alts l, g)
  else if p.op = 5 then ((l.headD Facts.zero).rep p.lo p.hi, g)
  else if p.op = 6 then (l.headD Facts.zero, fun k => if k = p.gr then some (l.headD Facts.zero) else g k)
  else if p.op = 9 then ((g p.gr).getD Facts.zero, g)
  else (Facts.empty, g)
mutual
def Re.learn : Re → (Int → Option Facts) → Facts × (Int → Option Facts)
  | .mk p xs, g => p.learn (Re.learns xs g).1 (Re.learns xs g).2
def Re.learns : List Re → (Int → Option Facts) → List Facts × (Int → Option Facts)
  | [], g => ([], g)
  | t :: ts, g => ((t.learn g).1 :: (Re.learns ts (t.learn g).2).1, (Re.learns ts (t.learn g).2).2)
end
theorem Re.learns_take : ∀ (xs : List Re) (k : Nat) (a : Re) (g : Int → Option Facts), xs[k]? = some a →
    Re.learns (xs.take (k + 1)) g = ((Re.learns (xs.take k) g).1 ++ [(a.learn (Re.learns (xs.take k) g).2).1], (a.learn (Re.learns (xs.take k) g).2).2)
  | [], k, a, g, h => by simp at h
  | t :: ts, 0, a, g, h => by
    simp at h
    subst h
    simp [Re.learns]
  | t :: ts, k + 1, a, g, h => by
    have := Re.learns_take ts k a (t.learn g).2 (by simpa using h)
    simp only [List.take_succ_cons, Re.learns] at this ⊢
    rw [this]
    simp
theorem Re.learns_len : ∀ (xs : List Re) (g : Int → Option Facts), (Re.learns xs g).1.length = xs.length
  | [], g => rfl
  | t :: ts, g => by simp [Re.learns, Re.learns_len ts]

mutual
/-- The bounds of all repetitions are such that lengths can be multiplied. -/
def Re.reps : Re → Bool
  | .mk p xs => decide (p.op = 5 → (-1 ≤ p.lo ∧ p.lo ≤ 64) ∧ (-1 ≤ p.hi ∧ p.hi ≤ 64)) && Re.repss xs
def Re.repss : List Re → Bool
  | [] => true
  | t :: ts => t.reps && Re.repss ts
end
theorem Re.repss_get : ∀ (xs : List Re), Re.repss xs = true → ∀ k (hk : k < xs.length), xs[k].reps = true
  | [], _, k, hk => by simp at hk
  | t :: ts, h, 0, hk => by simp only [Re.repss, Bool.and_eq_true] at h; exact h.1
  | t :: ts, h, k + 1, hk => by simp only [Re.repss, Bool.and_eq_true] at h; exact Re.repss_get ts h.2 k (by simpa using hk)

theorem Cs.none_wf' : Cs.none.wf := Cs.none_wf
theorem Facts.zero_wf : Facts.zero.wf := ⟨⟨by decide, by decide⟩, ⟨by decide, by decide⟩, Cs.none_wf⟩
theorem Facts.empty_wf : Facts.empty.wf := ⟨⟨by decide, by decide⟩, ⟨by decide, by decide⟩, Cs.none_wf⟩
theorem Facts.cat_wf {a b : Facts} (ha : a.wf) (hb : b.wf) : (a.cat b).wf := by
  refine ⟨ha.least.lsum hb.least, ha.most.lsum hb.most, ?_⟩
  show (if a.null then a.first.union b.first else a.first).wf
  split
  · exact Cs.union_wf ha.first hb.first
  · exact ha.first
theorem Facts.alt_wf {a b : Facts} (ha : a.wf) (hb : b.wf) : (a.alt b).wf := by
  obtain ⟨⟨h1, h2⟩, ⟨h3, h4⟩, h5⟩ := ha
  obtain ⟨⟨k1, k2⟩, ⟨k3, k4⟩, k5⟩ := hb
  refine ⟨⟨?_, ?_⟩, ⟨?_, ?_⟩, Cs.union_wf h5 k5⟩
  · show _ ≤ min _ _; omega
  · show min _ _ ≤ _; omega
  · show _ ≤ ite _ _ _; split <;> omega
  · show ite _ _ _ ≤ _; split <;> omega
theorem Facts.rep_wf {a : Facts} (ha : a.wf) (lo hi : Int) : (a.rep lo hi).wf := by
  refine ⟨ha.least.ltimes, ha.most.ltimes, ?_⟩
  show (if hi = 0 then Cs.none else a.first).wf
  split
  · exact Cs.none_wf
  · exact ha.first
theorem Facts.foldl_wf (f : Facts → Facts → Facts) (hf : ∀ a b, a.wf → b.wf → (f a b).wf) : ∀ (l : List Facts) (a : Facts), a.wf → (∀ b, b ∈ l → b.wf) → (l.foldl f a).wf
  | [], a, h, _ => h
  | b :: l, a, h, hl => Facts.foldl_wf f hf l _ (hf a b h (hl b (by simp))) (fun c hc => hl c (by simp [hc]))
def GWf (g : Int → Option Facts) : Prop := ∀ k f, g k = some f → f.wf
theorem Pay.learn_wf (p : Pay) (hp : p.set.wf) (l : List Facts) (g : Int → Option Facts) (hl : ∀ b, b ∈ l → b.wf) (hg : GWf g) : (p.learn l g).1.wf ∧ GWf (p.learn l g).2 := by
  have h0 : (l.headD Facts.zero).wf := by
    cases l with
    | nil => exact Facts.zero_wf
    | cons f l => exact hl f (by simp)
  unfold Pay.learn
  split
  · exact ⟨⟨⟨by show (-1 : Int) ≤ 1; decide, by show (1 : Int) ≤ 2147483647; decide⟩, ⟨by show (-1 : Int) ≤ 1; decide, by show (1 : Int) ≤ 2147483647; decide⟩, hp⟩, hg⟩
  split
  · refine ⟨?_, hg⟩
    cases l with
    | nil => exact Facts.zero_wf
    | cons f l => exact Facts.foldl_wf _ (fun _ _ => Facts.cat_wf) l f (hl f (by simp)) (fun c hc => hl c (by simp [hc]))
  split
  · refine ⟨?_, hg⟩
    cases l with
    | nil => exact Facts.zero_wf
    | cons f l => exact Facts.foldl_wf _ (fun _ _ => Facts.alt_wf) l f (hl f (by simp)) (fun c hc => hl c (by simp [hc]))
  split
  · exact ⟨Facts.rep_wf h0 _ _, hg⟩
  split
  · refine ⟨h0, fun k f hk => ?_⟩
    dsimp only at hk
    split at hk
    · cases hk; exact h0
    · exact hg k f hk
  split
  · refine ⟨?_, hg⟩
    cases h : g p.gr with
    | none => exact Facts.zero_wf
    | some f => exact hg _ f h
  · exact ⟨Facts.empty_wf, hg⟩
mutual
theorem Re.learn_wf : ∀ (t : Re) (w : World) (cs : List Value) (g : Int → Option Facts), t.In w cs → GWf g → (t.learn g).1.wf ∧ GWf (t.learn g).2
  | .mk p xs, w, cs, g, h, hg => by
    rw [Re.In] at h
    obtain ⟨ad, cap, rfl, hwf, _, _, _, hall⟩ := h
    obtain ⟨h1, h2⟩ := Re.learns_wf xs w ad 0 g hall hg
    rw [Re.learn]
    exact Pay.learn_wf p hwf.set _ _ h1 h2
theorem Re.learns_wf : ∀ (xs : List Re) (w : World) (ad : Option Addr) (k : Nat) (g : Int → Option Facts), Re.AllIn w xs ad k → GWf g → (∀ f, f ∈ (Re.learns xs g).1 → f.wf) ∧ GWf (Re.learns xs g).2
  | [], w, ad, k, g, _, hg => by
    rw [Re.learns]
    exact And.intro (fun f hf => absurd hf (by simp)) hg
  | t :: ts, w, ad, k, g, h, hg => by
    rw [Re.AllIn] at h
    obtain ⟨⟨b, o, cs, _, _, hc⟩, h⟩ := h
    obtain ⟨h1, h2⟩ := Re.learn_wf t w cs g hc hg
    obtain ⟨h3, h4⟩ := Re.learns_wf ts w ad (k + 9) (t.learn g).2 h h2
    rw [Re.learns]
    refine And.intro (fun f hf => ?_) h4
    simp only [List.mem_cons] at hf
    rcases hf with hf | hf
    · rw [hf]; exact h1
    · exact h3 f hf
end
end Go.Proofs.YtjjhdddlbgdkeaaDoor

/- The reference's questions about a tree: what each call returns. -/
namespace Go.Proofs.YtjjhdddlbgdkeaaDoor
open Go.RowKit

/-- What holds behind a box of a node: the box, and all else as it was. -/
theorem box_facts {w wr : World} {p : Pay} {sl : Value} (h : Below (w.heap.size + 1) (w.alloc (.cells #[.int .i64 p.op, .int .u64 p.set.a, .int .u64 p.set.b, .int .u64 p.set.c, .int .u64 p.set.d, .int .i64 p.lo, .int .i64 p.hi, .int .i64 p.gr, sl] 53)) wr) :
    Row wr w.heap.size [.int .i64 p.op, .int .u64 p.set.a, .int .u64 p.set.b, .int .u64 p.set.c, .int .u64 p.set.d, .int .i64 p.lo, .int .i64 p.hi, .int .i64 p.gr, sl] 53 ∧ Below w.heap.size w wr ∧ w.heap.size < wr.heap.size := by
  have h1 := (Row.new (w := w) (cs := [.int .i64 p.op, .int .u64 p.set.a, .int .u64 p.set.b, .int .u64 p.set.c, .int .u64 p.set.d, .int .i64 p.lo, .int .i64 p.hi, .int .i64 p.gr, sl]) (T := 53) rfl).below h (by omega)
  exact ⟨h1, ((Below.refl _ w).alloc (Nat.le_refl _) _).trans (h.mono (by omega)), h1.lt⟩


mutual
theorem Re.levels_le : ∀ t : Re, t.levels ≤ t.size
  | .mk p xs => by have := Re.levelss_le xs; rw [Re.levels, Re.size_mk]; omega
theorem Re.levelss_le : ∀ xs : List Re, Re.levelss xs ≤ Re.sizes xs
  | [] => by simp [Re.levelss]
  | t :: ts => by have h1 := Re.levels_le t; have h2 := Re.levelss_le ts; simp only [Re.levelss, Re.sizes, Re.counts, Re.size] at *; omega
end
theorem Re.levelss_take : ∀ (xs : List Re) (k : Nat) (a : Re), xs[k]? = some a → Re.levelss (xs.take (k + 1)) = max (Re.levelss (xs.take k)) a.levels
  | t :: ts, 0, a, h => by simp at h; subst h; simp [Re.levelss]
  | t :: ts, k + 1, a, h => by
    have := Re.levelss_take ts k a (by simpa using h)
    simp only [List.take_succ_cons, Re.levelss, this]; omega



theorem Re.typeds_take : ∀ (xs : List Re) (k : Nat) (a : Re), xs[k]? = some a → Re.typeds (xs.take (k + 1)) = (Re.typeds (xs.take k) && a.typed)
  | t :: ts, 0, a, h => by simp at h; subst h; simp [Re.typeds]
  | t :: ts, k + 1, a, h => by
    have := Re.typeds_take ts k a (by simpa using h)
    simp only [List.take_succ_cons, Re.typeds, this, Bool.and_assoc]
theorem Re.typeds_get : ∀ (xs : List Re) (k : Nat) (a : Re), xs[k]? = some a → a.typed = false → Re.typeds xs = false
  | t :: ts, 0, a, h, h2 => by simp at h; subst h; simp [Re.typeds, h2]
  | t :: ts, k + 1, a, h, h2 => by
    have := Re.typeds_get ts k a (by simpa using h) h2
    simp [Re.typeds, this]


end Go.Proofs.YtjjhdddlbgdkeaaDoor

/- The reference's questions on bounds and names, and the check of a tree. -/
namespace Go.Proofs.YtjjhdddlbgdkeaaDoor
open Go.RowKit


/-- What the question on bounds answers: a number and a bool; the number where the bool is true. -/
def RangedPost (r : Option Nat) (w : World) (e : Ending) (w' : World) : Prop := Below w.heap.size w w' ∧ ∃ m : Int, e = .returned (.tuple #[.int .i64 m, .bool r.isSome]) ∧ ∀ n, r = some n → m = (n : Int)

theorem Re.rangeds_take : ∀ (xs : List Re) (k : Nat) (a : Re) (b n : Nat), xs[k]? = some a → Re.rangeds (xs.take k) b = some n → Re.rangeds (xs.take (k + 1)) b = a.ranged n
  | t :: ts, 0, a, b, n, h, h2 => by
    simp at h; subst h
    simp only [List.take_zero, Re.rangeds, Option.some.injEq] at h2
    subst h2
    simp only [List.take_succ_cons, List.take_zero, Re.rangeds]
    cases t.ranged b <;> rfl
  | t :: ts, k + 1, a, b, n, h, h2 => by
    simp only [List.take_succ_cons, Re.rangeds] at h2 ⊢
    cases hx : t.ranged b with
    | none => rw [hx] at h2; simp at h2
    | some m => rw [hx] at h2; exact Re.rangeds_take ts k a m n (by simpa using h) h2
theorem Re.rangeds_none : ∀ (xs : List Re) (k : Nat) (a : Re) (b n : Nat), xs[k]? = some a → Re.rangeds (xs.take k) b = some n → a.ranged n = none → Re.rangeds xs b = none
  | t :: ts, 0, a, b, n, h, h2, h3 => by
    simp at h; subst h
    simp only [List.take_zero, Re.rangeds, Option.some.injEq] at h2
    subst h2
    simp [Re.rangeds, h3]
  | t :: ts, k + 1, a, b, n, h, h2, h3 => by
    simp only [List.take_succ_cons, Re.rangeds] at h2 ⊢
    cases hx : t.ranged b with
    | none => rfl
    | some m => rw [hx] at h2; exact Re.rangeds_none ts k a m n (by simpa using h) h2 h3

end Go.Proofs.YtjjhdddlbgdkeaaDoor

/- The reference's question on names. -/
namespace Go.Proofs.YtjjhdddlbgdkeaaDoor
open Go.RowKit

theorem info_int : (Tryd.prog.info? 3).map (fun i => (i.zero, i.size, i.bytes)) = some (some (.int .i64 0), 1, 8) := by kernel_rfl

/-- The slice value v owns the numbers l. -/
def OwnInts (w : World) (base : Nat) (v : Value) (l : List Int) : Prop := w.ownsRow base 3 1 v l.length (l.map (Value.int .i64))
def own (v : Value) : List Nat := match v.ownBlock with | some g => [g] | none => []


theorem Re.nameds_take : ∀ (xs : List Re) (k : Nat) (a : Re) (b n : List Int), xs[k]? = some a → Re.nameds (xs.take k) b = some n → Re.nameds (xs.take (k + 1)) b = a.named n
  | t :: ts, 0, a, b, n, h, h2 => by
    simp at h; subst h
    simp only [List.take_zero, Re.nameds, Option.some.injEq] at h2
    subst h2
    simp only [List.take_succ_cons, List.take_zero, Re.nameds]
    cases t.named b <;> rfl
  | t :: ts, k + 1, a, b, n, h, h2 => by
    simp only [List.take_succ_cons, Re.nameds] at h2 ⊢
    cases hx : t.named b with
    | none => rw [hx] at h2; simp at h2
    | some m => rw [hx] at h2; exact Re.nameds_take ts k a m n (by simpa using h) h2
theorem Re.nameds_none : ∀ (xs : List Re) (k : Nat) (a : Re) (b n : List Int), xs[k]? = some a → Re.nameds (xs.take k) b = some n → a.named n = none → Re.nameds xs b = none
  | t :: ts, 0, a, b, n, h, h2, h3 => by
    simp at h; subst h
    simp only [List.take_zero, Re.nameds, Option.some.injEq] at h2
    subst h2
    simp [Re.nameds, h3]
  | t :: ts, k + 1, a, b, n, h, h2, h3 => by
    simp only [List.take_succ_cons, Re.nameds] at h2 ⊢
    cases hx : t.named b with
    | none => rfl
    | some m => rw [hx] at h2; exact Re.nameds_none ts k a m n (by simpa using h) h2 h3
mutual
theorem Re.named_len : ∀ (t : Re) (b n : List Int), t.named b = some n → n.length ≤ b.length + t.size
  | .mk p xs, b, n, h => by
    rw [Re.named] at h
    rw [Re.size_mk]
    split at h
    · cases h
    · cases hx : Re.nameds xs b with
      | none => rw [hx] at h; simp at h
      | some m =>
        rw [hx] at h
        have := Re.nameds_len xs b m hx
        simp only at h
        split at h <;> cases h <;> simp <;> omega
theorem Re.nameds_len : ∀ (xs : List Re) (b n : List Int), Re.nameds xs b = some n → n.length ≤ b.length + Re.sizes xs
  | [], b, n, h => by simp [Re.nameds] at h; subst h; omega
  | t :: ts, b, n, h => by
    rw [Re.nameds] at h
    cases hx : t.named b with
    | none => rw [hx] at h; simp at h
    | some m =>
      rw [hx] at h
      have h1 := Re.named_len t b m hx
      have h2 := Re.nameds_len ts m n h
      simp only [Re.sizes, Re.counts, Re.size] at *; omega
end

theorem OwnInts.blocks {w : World} {base : Nat} {v : Value} {l : List Int} (h : OwnInts w base v l) : ∀ g, g ∈ own v → base ≤ g ∧ g < w.heap.size := by
  intro g hg
  unfold own at hg
  cases hv : v.ownBlock with
  | none => rw [hv] at hg; simp at hg
  | some k => rw [hv] at hg; simp at hg; subst hg; exact World.ownsRow.lt h g hv
theorem OwnInts.below {w w' : World} {base : Nat} {v : Value} {l : List Int} (h : OwnInts w base v l) (hb : Below w.heap.size w w') : OwnInts w' base v l :=
  World.ownsRow.kept h (row := none) ⟨hb.os, hb.tape, hb.output, hb.size, fun j hj _ => hb.block j hj⟩ (by cases v.ownBlock <;> simp)
theorem OwnInts.alloc {w : World} {base : Nat} {v : Value} {l : List Int} (h : OwnInts w base v l) (o : Obj) : OwnInts (w.alloc o) base v l := World.ownsRow.alloc h o
theorem OwnInts.shape {w : World} {base : Nat} {v : Value} {l : List Int} (h : OwnInts w base v l) : ∃ a n c, v = .slice a n c := by
  rcases h.2 with ⟨rfl, _⟩ | ⟨g, cap, cur, rfl, _⟩
  · exact ⟨_, _, _, rfl⟩
  · exact ⟨_, _, _, rfl⟩
theorem But.of_grown {w w' : World} {v : Value} (h : w.grownBy w' v.ownBlock) : But (own v) w w' := by
  refine ⟨h.os, h.tape, h.output, h.size, fun k hk hn => h.block k hk (fun e => hn ?_)⟩
  unfold own
  rw [← e]; simp

/-- What the question on names answers. -/
def NamedPost (base : Nat) (v : Value) (r : Option (List Int)) (w : World) (e : Ending) (w' : World) : Prop :=
  But (own v) w w' ∧ ∃ a n c, e = .returned (.tuple #[.slice a n c, .bool r.isSome]) ∧ ∀ l, r = some l → OwnInts w' base (.slice a n c) l ∧ ∀ g, g ∈ own (.slice a n c) → g ∈ own v ∨ w.heap.size ≤ g

end Go.Proofs.YtjjhdddlbgdkeaaDoor
