/- The plain law of the check of trees: what the checker collects is what the four questions ask. No program. -/
import Derived.Test.YthnpbopnpdlmnaaDoorA10
import Derived.Test.YthnpbopnpdlmnaaDoorA08
import Derived.Test.YthnpbopnpdlmnaaDoorA09
import Derived.Test.YthnpbopnpdlmnaaDoorA03
import Derived.Test.YthnpbopnpdlmnaaDoorA05
import Derived.Deep.DeepCutAuto
import Derived.Deep.CutBlock
import Derived.RegionTactic
import Derived.ChangeAlike
import Derived.BigRegion
import Derived.Deep.QuietTactic
import Derived.BigQuiet
import Derived.Test.YthnpbopnpdlmnaaDoorA04
namespace Go.Proofs.YthnpbopnpdlmnaaDoor
open Go.RowKit

mutual
def Re.typed : Re → Bool
  | .mk p xs => p.shaped xs.length && Re.typeds xs
def Re.typeds : List Re → Bool
  | [] => true
  | t :: ts => t.typed && Re.typeds ts
end
mutual
def Re.ranged : Re → Nat → Option Nat
  | .mk p xs, b => if p.op = 5 ∧ p.badRep = true then none else if p.op = 6 then (if p.gr = b + 1 then Re.rangeds xs (b + 1) else none) else Re.rangeds xs b
def Re.rangeds : List Re → Nat → Option Nat
  | [], b => some b
  | t :: ts, b => match t.ranged b with
    | some n => Re.rangeds ts n
    | none => none
end
mutual
def Re.named : Re → List Int → Option (List Int)
  | .mk p xs, l => if p.op = 9 ∧ p.gr ∉ l then none else match Re.nameds xs l with
    | some l' => if p.op = 6 then some (l' ++ [p.gr]) else some l'
    | none => none
def Re.nameds : List Re → List Int → Option (List Int)
  | [], l => some l
  | t :: ts, l => match t.named l with
    | some l' => Re.nameds ts l'
    | none => none
end
mutual
def Re.levels : Re → Nat
  | .mk _ xs => Re.levelss xs + 1
def Re.levelss : List Re → Nat
  | [] => 0
  | t :: ts => max t.levels (Re.levelss ts)
end
def Re.err (t : Re) : Int :=
  if t.typed = false then 7 else if (t.ranged 0).isNone then 2 else if (t.named []).isNone then 4 else if 600 < t.size ∨ 9 < t.groups ∨ 32 < t.levels then 3 else 0

theorem post_shape (c : Ck) (p : Pay) (n : Nat) : (c.post p n).shape = c.shape := by unfold Ck.post; split <;> rfl
theorem post_bounds (c : Ck) (p : Pay) (n : Nat) : (c.post p n).bounds = c.bounds := by unfold Ck.post; split <;> rfl
theorem post_name (c : Ck) (p : Pay) (n : Nat) : (c.post p n).name = c.name := by unfold Ck.post; split <;> rfl
mutual
theorem Re.check_shape : ∀ (t : Re) (c : Ck), (t.check c).1.shape = (c.shape || !t.typed)
  | .mk p xs, c => by
    rw [Re.check, post_shape, Re.checks_shape xs, Re.typed]
    show ((c.shape || !p.shaped xs.length) || _) = _
    cases c.shape <;> cases p.shaped xs.length <;> simp
theorem Re.checks_shape : ∀ (xs : List Re) (c : Ck) (l : Nat), (Re.checks xs c l).1.shape = (c.shape || !Re.typeds xs)
  | [], c, l => by simp [Re.checks, Re.typeds]
  | t :: ts, c, l => by
    rw [Re.checks, Re.checks_shape ts, Re.check_shape t, Re.typeds]
    cases c.shape <;> cases t.typed <;> simp
end
mutual
theorem Re.ranged_groups : ∀ (t : Re) (b n : Nat), t.ranged b = some n → n = b + t.groups
  | .mk p xs, b, n, h => by
    rw [Re.ranged] at h
    simp only [Re.groups, Re.count]
    split at h
    · cases h
    · split at h
      · rename_i h6
        split at h
        · have := Re.rangeds_groups xs (b + 1) n h; simp [h6]; omega
        · cases h
      · rename_i h6
        have := Re.rangeds_groups xs b n h; simp [h6]; omega
theorem Re.rangeds_groups : ∀ (xs : List Re) (b n : Nat), Re.rangeds xs b = some n → n = b + Re.counts (· == 6) xs
  | [], b, n, h => by simp [Re.rangeds] at h; simp [Re.counts, h]
  | t :: ts, b, n, h => by
    rw [Re.rangeds] at h
    split at h
    · rename_i m hm
      have h1 := Re.ranged_groups t b m hm
      have h2 := Re.rangeds_groups ts m n h
      simp only [Re.counts, Re.groups] at *; omega
    · cases h
end
mutual
theorem Re.check_bounds : ∀ (t : Re) (c : Ck), (t.check c).1.bounds = (c.bounds || (t.ranged c.groups).isNone)
  | .mk p xs, c => by
    rw [Re.check, post_bounds, Re.checks_bounds xs, Re.ranged]
    by_cases h5 : p.op = 5
    · have e : (c.pre p xs.length).groups = c.groups := by simp [Ck.pre, h5]
      have e2 : (c.pre p xs.length).bounds = (c.bounds || p.badRep) := by simp [Ck.pre, h5]
      rw [e, e2]
      cases hb : p.badRep <;> simp [h5]
    · by_cases h6 : p.op = 6
      · have e : (c.pre p xs.length).groups = c.groups + 1 := by simp [Ck.pre, h6]
        have e2 : (c.pre p xs.length).bounds = (c.bounds || decide (p.gr ≠ c.groups + 1)) := by simp [Ck.pre, h6]
        rw [e, e2]
        by_cases hg : p.gr = c.groups + 1
        · simp [h6, hg]
        · simp [h6, hg]
      · have e : (c.pre p xs.length).groups = c.groups := by simp [Ck.pre, h6]
        have e2 : (c.pre p xs.length).bounds = c.bounds := by simp [Ck.pre, h5, h6]
        rw [e, e2]
        simp [h5, h6]
theorem Re.checks_bounds : ∀ (xs : List Re) (c : Ck) (l : Nat), (Re.checks xs c l).1.bounds = (c.bounds || (Re.rangeds xs c.groups).isNone)
  | [], c, l => by simp [Re.checks, Re.rangeds]
  | t :: ts, c, l => by
    rw [Re.checks, Re.checks_bounds ts, Re.check_bounds t, Re.check_groups t, Re.rangeds]
    cases h : t.ranged c.groups with
    | none => simp
    | some n => rw [Re.ranged_groups t _ _ h]; simp
end
mutual
theorem Re.check_levels_eq : ∀ (t : Re) (c : Ck), (t.check c).2 = t.levels
  | .mk p xs, c => by rw [Re.check, Re.levels, Re.checks_levels_eq xs]; simp
theorem Re.checks_levels_eq : ∀ (xs : List Re) (c : Ck) (l : Nat), (Re.checks xs c l).2 = max l (Re.levelss xs)
  | [], c, l => by simp [Re.checks, Re.levelss]
  | t :: ts, c, l => by rw [Re.checks, Re.checks_levels_eq ts, Re.check_levels_eq t, Re.levelss]; omega
end
mutual
theorem Re.check_names : ∀ (t : Re) (c : Ck) (l : List Int), (t.ranged c.groups).isSome → (c.closed = fun k => decide (k ∈ l)) →
    (t.check c).1.name = (c.name || (t.named l).isNone) ∧ ∀ l', t.named l = some l' → (t.check c).1.closed = fun k => decide (k ∈ l')
  | .mk p xs, c, l, hr, hc => by
    rw [Re.ranged] at hr
    rw [Re.check, Re.named]
    have hr' : (Re.rangeds xs (c.pre p xs.length).groups).isSome ∧ (p.op = 6 → p.gr = c.groups + 1) := by
      by_cases h5 : p.op = 5 ∧ p.badRep = true
      · simp [h5] at hr
      · rw [if_neg h5] at hr
        by_cases h6 : p.op = 6
        · rw [if_pos h6] at hr
          by_cases hg : p.gr = c.groups + 1
          · rw [if_pos hg] at hr
            exact ⟨by simpa [Ck.pre, h6] using hr, fun _ => hg⟩
          · rw [if_neg hg] at hr; simp at hr
        · rw [if_neg h6] at hr
          exact ⟨by simpa [Ck.pre, h6] using hr, fun h => absurd h h6⟩
    obtain ⟨hr1, hr2⟩ := hr'
    obtain ⟨h1, h2⟩ := Re.checks_names xs (c.pre p xs.length) 0 l hr1 (by show c.closed = _; exact hc)
    rw [post_name, h1]
    by_cases h9 : p.op = 9
    · have hn : (c.pre p xs.length).name = (c.name || !decide (p.gr ∈ l)) := by simp [Ck.pre, h9, hc]
      rw [hn]
      by_cases hm : p.gr ∈ l
      · have e6 : ¬ p.op = 6 := by omega
        simp only [h9, hm]
        cases hx : Re.nameds xs l with
        | none => simp
        | some l'' => simp [h2 l'' hx, Ck.post, h9]
      · simp [h9, hm]
    · have hn : (c.pre p xs.length).name = c.name := by simp [Ck.pre, h9]
      rw [hn]
      cases hx : Re.nameds xs l with
      | none => simp [h9]
      | some l'' =>
        by_cases h6 : p.op = 6
        · have hg := hr2 h6
          have ho : (c.pre p xs.length).groups = c.groups + 1 := by simp [Ck.pre, h6]
          simp only [h6]
          refine ⟨by simp, fun l' hl' => ?_⟩
          simp at hl'
          subst hl'
          rw [Ck.post, if_pos ⟨h6, by rw [hg, ho]; simp⟩]
          funext k
          simp only [h2 l'' hx, ho]
          rw [Bool.eq_iff_iff]
          simp [hg]
          exact or_comm
        · simp only [h6, h9]
          refine ⟨by simp, fun l' hl' => ?_⟩
          simp at hl'
          subst hl'
          rw [Ck.post, if_neg (fun h => h6 h.1)]
          exact h2 l'' hx
theorem Re.checks_names : ∀ (xs : List Re) (c : Ck) (m : Nat) (l : List Int), (Re.rangeds xs c.groups).isSome → (c.closed = fun k => decide (k ∈ l)) →
    (Re.checks xs c m).1.name = (c.name || (Re.nameds xs l).isNone) ∧ ∀ l', Re.nameds xs l = some l' → (Re.checks xs c m).1.closed = fun k => decide (k ∈ l')
  | [], c, m, l, hr, hc => by simp [Re.checks, Re.nameds]; exact hc
  | t :: ts, c, m, l, hr, hc => by
    rw [Re.rangeds] at hr
    rw [Re.checks, Re.nameds]
    cases hx : t.ranged c.groups with
    | none => rw [hx] at hr; simp at hr
    | some n =>
      rw [hx] at hr
      obtain ⟨h1, h2⟩ := Re.check_names t c l (by rw [hx]; rfl) hc
      have hn := Re.ranged_groups t _ _ hx
      cases hy : t.named l with
      | none =>
        rw [hy] at h1
        have key : ∀ (xs : List Re) (c : Ck) (m : Nat), c.name = true → (Re.checks xs c m).1.name = true := fun xs c m hc => Re.checks_name_true xs c m hc
        refine ⟨?_, fun l' hl' => by simp at hl'⟩
        rw [key _ _ _ (by rw [h1]; simp)]; simp
      | some l1 =>
        have h3 := h2 l1 hy
        obtain ⟨h4, h5⟩ := Re.checks_names ts (t.check c).1 (max m (t.check c).2) l1 (by rw [Re.check_groups, ← hn]; exact hr) h3
        rw [hy] at h1
        refine ⟨?_, h5⟩
        rw [h4, h1]; simp
theorem Re.check_name_true : ∀ (t : Re) (c : Ck), c.name = true → (t.check c).1.name = true
  | .mk p xs, c, h => by rw [Re.check, post_name]; exact Re.checks_name_true xs _ _ (by simp [Ck.pre, h])
theorem Re.checks_name_true : ∀ (xs : List Re) (c : Ck) (m : Nat), c.name = true → (Re.checks xs c m).1.name = true
  | [], c, m, h => by simpa [Re.checks] using h
  | t :: ts, c, m, h => by rw [Re.checks]; exact Re.checks_name_true ts _ _ (Re.check_name_true t c h)
end

def Ck.init : Ck := { shape := false, bounds := false, name := false, nodes := 0, groups := 0, closed := fun _ => false }
def Ck.err (c : Ck) (levels : Nat) : Int := if c.shape then 7 else if c.bounds then 2 else if c.name then 4 else if 600 < c.nodes ∨ 9 < c.groups ∨ 32 < levels then 3 else 0
theorem Re.err_check (t : Re) : (t.check Ck.init).1.err (t.check Ck.init).2 = t.err := by
  unfold Ck.err Re.err
  rw [Re.check_shape, Re.check_bounds, Re.check_levels_eq, Re.check_nodes, Re.check_groups]
  have e1 : Ck.init.shape = false := rfl
  have e2 : Ck.init.bounds = false := rfl
  have e3 : Ck.init.groups = 0 := rfl
  have e4 : Ck.init.nodes = 0 := rfl
  rw [e1, e2, e3, e4]
  cases ht : t.typed
  · simp
  · cases hr : t.ranged 0 with
    | none => simp
    | some n =>
      have h := (Re.check_names t Ck.init [] (by rw [e3, hr]; rfl) (by funext k; simp [Ck.init])).1
      rw [h]
      have e5 : Ck.init.name = false := rfl
      rw [e5]
      cases hn : t.named [] <;> simp
end Go.Proofs.YthnpbopnpdlmnaaDoor

/- What is learnt of a tree: the law side. -/
namespace Go.Proofs.YthnpbopnpdlmnaaDoor
open Go.RowKit

mutual
def Re.lreps : Re → Bool
  | .mk p xs => decide (p.op = 5 → (-1 ≤ p.lo ∧ p.lo ≤ 64) ∧ (-1 ≤ p.hi ∧ p.hi ≤ 64)) && Re.lrepss xs
def Re.lrepss : List Re → Bool
  | [] => true
  | t :: ts => t.lreps && Re.lrepss ts
end
end Go.Proofs.YthnpbopnpdlmnaaDoor

/- The reference's questions about a tree: what each call returns. -/
namespace Go.Proofs.YthnpbopnpdlmnaaDoor
open Go.RowKit

theorem Re.typeds_get : ∀ (xs : List Re) (k : Nat) (a : Re), xs[k]? = some a → a.typed = false → Re.typeds xs = false
  | t :: ts, 0, a, h, h2 => by simp at h; subst h; simp [Re.typeds, h2]
  | t :: ts, k + 1, a, h, h2 => by
    have := Re.typeds_get ts k a (by simpa using h) h2
    simp [Re.typeds, this]


end Go.Proofs.YthnpbopnpdlmnaaDoor

/- The reference's questions on bounds and names, and the check of a tree. -/
namespace Go.Proofs.YthnpbopnpdlmnaaDoor
open Go.RowKit


end Go.Proofs.YthnpbopnpdlmnaaDoor

/- The reference's question on names. -/
namespace Go.Proofs.YthnpbopnpdlmnaaDoor
open Go.RowKit

theorem info_int : (Tryd.prog.info? 3).map (fun i => (i.zero, i.size, i.bytes)) = some (some (.int .i64 0), 1, 8) := by kernel_rfl

def own (v : Value) : List Nat := match v.ownBlock with | some g => [g] | none => []



theorem But.of_grown {w w' : World} {v : Value} (h : w.grownBy w' v.ownBlock) : But (own v) w w' := by
  refine ⟨h.os, h.tape, h.output, h.size, fun k hk hn => h.block k hk (fun e => hn ?_)⟩
  unfold own
  rw [← e]; simp

end Go.Proofs.YthnpbopnpdlmnaaDoor

/- The program's learn: the walk. -/
namespace Go.Proofs.YthnpbopnpdlmnaaDoor
open Go.RowKit
attribute [local go_sem] gives givesUpon



theorem Re.typed_kid {p : Pay} {xs : List Re} (h : (Re.mk p xs).typed = true) (k : Nat) (hk : k < xs.length) : xs[k].typed = true := by
  rw [Re.typed] at h
  cases h2 : xs[k].typed with
  | true => rfl
  | false => have := Re.typeds_get xs k xs[k] (by simp [hk]) h2; simp [this] at h

theorem grown_block {w w' : World} {v : Value} {base : Nat} (h : w.grownBy w' v.ownBlock) (hv : ∀ g, v.ownBlock = some g → base ≤ g) (k : Nat) (h1 : k < base) (h2 : k < w.heap.size) : w'.heap[k]? = w.heap[k]? :=
  h.block k h2 (fun e => by have := hv k e.symm; omega)

end Go.Proofs.YthnpbopnpdlmnaaDoor

/- The check of a tree, the program's and the reference's: both return the same error. -/
namespace Go.Proofs.YthnpbopnpdlmnaaDoor
open Go.RowKit

set_option maxHeartbeats 2000000 in
theorem Check_any (t : Re) (w : World) (cs : List Value) (hIn : t.In w cs) (hsz : t.size ≤ 1048576) :
    Calls Tryd.prog 16 #[.agg cs.toArray] w fun e w' => e = .returned (.int .i64 t.err) ∧ Below w.heap.size w w' := by
  cases t with
  | mk p xs =>
    have hIn' := hIn
    rw [Re.In] at hIn
    obtain ⟨ad, cap, rfl, _⟩ := hIn
    simp only [Pay.cells]
    have HI := hid hIn'
    have HE := hid (Re.err_check (.mk p xs))
    have hnod := Re.check_nodes (.mk p xs) Ck.init
    have hgrp := Re.check_groups (.mk p xs) Ck.init
    have hlev := Re.check_levels (.mk p xs) Ck.init
    have hgl := Re.count_le (· == 6) (.mk p xs)
    have i1 : Ck.init.nodes = 0 := rfl
    have i2 : Ck.init.groups = 0 := rfl
    rw [i1] at hnod
    rw [i2] at hgrp
    have b1 : (Re.check (.mk p xs) Ck.init).1.nodes ≤ 1048576 := by omega
    have b2 : (Re.check (.mk p xs) Ck.init).1.groups ≤ 1048576 := by simp only [Re.groups] at *; omega
    have b3 : (Re.check (.mk p xs) Ck.init).2 ≤ 1048576 := by omega
    have hmm := @run_makeMap Tryd.prog
    clear hIn' hnod hgrp hlev hgl i1 i2
    go_enter Tryd.func16, Tryd.ntmps16
    go_wp2_with fail
    refine (node_any (w.heap.size + 2) (w.heap.size + 1) w (by omega) (by omega) (by omega) (.mk p xs) _ _ Ck.init HI.out ?_ ⟨?_, ?_⟩ ?_ ?_).mono ?_
    · exact ((((Below.refl _ w).alloc (Nat.le_refl _) _).alloc (by simp) _).alloc (by simp; omega) _)
    · exact Row.new (cs := [_, _, _, _, _, _, _]) (by simp)
    · have := (IMap.new (w := w.alloc (.cells #[.int .i64 p.op, .int .u64 p.set.a, .int .u64 p.set.b, .int .u64 p.set.c, .int .u64 p.set.d, .int .i64 p.lo, .int .i64 p.hi, .int .i64 p.gr, .slice ad xs.length cap] 28)) (M := w.heap.size + 1) (by simp)).alloc (.cells #[.bool false, .bool false, .bool false, .int .i64 0, .int .i64 0, .slice none 0 0, .map (some (w.heap.size + 1))] 82)
      exact this
    · show 0 + _ ≤ _; omega
    · exact Nat.le_refl _
    rintro e w1 ⟨rfl, hb, hck⟩
    have hbw : Hid (Below w.heap.size w w1) := ((((Below.refl _ w).alloc (Nat.le_refl _) _).alloc (by simp) _).alloc (by simp; omega) _).trans (hb.below (by simp; omega) (fun k hk => by simp at hk; omega))
    have q := hck.1.c7
    have hR := hck.1.lt
    generalize hlv : (Re.check (.mk p xs) Ck.init).2 = lv at *
    generalize hcc : (Re.check (.mk p xs) Ck.init).1 = c1 at *
    clear hb hck hlv hcc hmm
    have HER := hid (Ck.err.eq_1 c1 lv)
    cases hs : c1.shape
    · rw [hs] at q HER
      clear hs
      cases hs : c1.bounds
      · rw [hs] at q HER
        clear hs
        cases hs : c1.name
        · rw [hs] at q HER
          clear hs
          go_wp2_with fail
          all_goals
            go_ret
            refine ⟨ret_int ?_, hbw.out⟩
            rw [← HE.out, HER.out]
            simp
            omega
        · rw [hs] at q HER
          clear hs
          go_wp2_with fail
          go_ret
          exact ⟨ret_int (by rw [← HE.out, HER.out]; simp), hbw.out⟩
      · rw [hs] at q HER
        clear hs
        go_wp2_with fail
        go_ret
        exact ⟨ret_int (by rw [← HE.out, HER.out]; simp), hbw.out⟩
    · rw [hs] at q HER
      clear hs
      go_wp2_with fail
      go_ret
      exact ⟨ret_int (by rw [← HE.out, HER.out]; simp), hbw.out⟩
end Go.Proofs.YthnpbopnpdlmnaaDoor

/- What the program knows of a tree: known, Nullable, Length, First. -/
namespace Go.Proofs.YthnpbopnpdlmnaaDoor
open Go.RowKit
attribute [local go_sem] gives givesUpon


theorem Pay.reps_of {p : Pay} (h : ¬ (p.op = 5 ∧ p.badRep = true)) (h5 : p.op = 5) : (-1 ≤ p.lo ∧ p.lo ≤ 64) ∧ -1 ≤ p.hi ∧ p.hi ≤ 64 := by
  have hb : p.badRep = false := by
    cases hx : p.badRep with
    | true => exact absurd ⟨h5, hx⟩ h
    | false => rfl
  unfold Pay.badRep at hb
  simp at hb
  omega
mutual
theorem Re.ranged_reps : ∀ (t : Re) (b : Nat), (t.ranged b).isSome = true → t.lreps = true
  | .mk p xs, b, h => by
    rw [Re.ranged] at h
    rw [Re.lreps]
    split at h
    · cases h
    · rename_i h5
      have e1 := decide_eq_true (p := p.op = 5 → (-1 ≤ p.lo ∧ p.lo ≤ 64) ∧ -1 ≤ p.hi ∧ p.hi ≤ 64) (fun e => Pay.reps_of h5 e)
      rw [e1]
      split at h
      · split at h
        · rw [Re.rangeds_reps xs _ h]; rfl
        · cases h
      · rw [Re.rangeds_reps xs _ h]; rfl
theorem Re.rangeds_reps : ∀ (xs : List Re) (b : Nat), (Re.rangeds xs b).isSome = true → Re.lrepss xs = true
  | [], b, h => by rw [Re.lrepss]
  | t :: ts, b, h => by
    rw [Re.rangeds] at h
    rw [Re.lrepss]
    cases hx : t.ranged b with
    | none => rw [hx] at h; cases h
    | some n =>
      rw [hx] at h
      rw [Re.ranged_reps t b (by rw [hx]; rfl), Re.rangeds_reps ts n h]
      rfl
end
theorem Re.err_zero {t : Re} (h : t.err = 0) : t.typed = true ∧ t.lreps = true ∧ (t.ranged 0).isSome = true ∧ (t.named []).isSome = true ∧ t.size ≤ 600 ∧ t.groups ≤ 9 ∧ t.levels ≤ 32 := by
  unfold Re.err at h
  cases h1 : t.typed with
  | false => simp [h1] at h
  | true =>
    cases h2 : t.ranged 0 with
    | none => simp [h1, h2] at h
    | some n =>
      cases h3 : t.named [] with
      | none => simp [h1, h2, h3] at h
      | some l =>
        simp only [h1, h2, h3] at h
        refine ⟨rfl, Re.ranged_reps t 0 (by rw [h2]; rfl), rfl, rfl, ?_⟩
        by_cases hx : 600 < t.size ∨ 9 < t.groups ∨ 32 < t.levels
        · simp [hx] at h
        · omega

theorem ret_row2 {P : Program} {fn : Func} {R : Ending → World → Prop} {a : Act} {w : World} (p : Tmp) (ty : TypeId) (q : Tmp) (h : fn.results = #[.cell p ty, .tmp q]) (b : Nat) (hp : a.tmps.getD p undef = .pointer (some ⟨b, 0, none⟩)) (cs : List Value) (hc : CellsAt w b 0 cs) (d : TypeDesc)
    (hu : P.underlying ty = some d) (hd : (match d with | .struct _ | .array _ _ => true | _ => false) = true) (hi : (P.info? ty).map (·.size) = some cs.length) (hdf : a.defers = []) (hR : R (.returned (.tuple #[.agg cs.toArray, a.tmps.getD q undef])) w) : bodyPost P fn R .ret a w := by
  refine bodyPost_ret (v := .tuple #[.agg cs.toArray, a.tmps.getD q undef]) ?_ hdf hR
  have hl : (loadCells ⟨b, 0, none⟩ cs.length).run P w = .ok cs.toArray w := run_loadCells_list (P := P) w ⟨b, 0, none⟩ cs (fun j v hv => by rw [Addr.add_lit]; exact hc j v hv)
  have hrun : (loadVar ty ⟨b, 0, none⟩).run P w = .ok (.agg cs.toArray) w := by
    cases hq : P.info? ty with
    | none => simp [hq] at hi
    | some i =>
      have hs : i.size = cs.length := by simpa [hq] using hi
      have hagg : (isAgg ty).run P w = .ok true w := by
        unfold isAgg
        rw [Sem.run_bind, run_underlying hu w]
        cases d <;> simp_all
      simp [loadVar, Sem.run_bind, hagg, sizeOf, typeInfo, hq, hs, hl]
  have hp' : a.tmps[p]?.getD undef = .pointer (some ⟨b, 0, none⟩) := by simpa using hp
  simp [results, h, hp', asAddr, hrun]



end Go.Proofs.YthnpbopnpdlmnaaDoor

/- What stands for counted repetitions: the plain law. No program. -/
namespace Go.Proofs.YthnpbopnpdlmnaaDoor
open Go.RowKit

def Pay.of (op : Int) : Pay := ⟨op, Cs.none, 0, 0, 0⟩
def Pay.ofRep (lo hi : Int) : Pay := ⟨5, Cs.none, lo, hi, 0⟩
theorem Pay.of_wf {op : Int} (h : I64 op) : (Pay.of op).wf := ⟨h, Cs.none_wf, ⟨show (-9223372036854775808 : Int) ≤ 0 by decide, show (0 : Int) ≤ 9223372036854775807 by decide⟩, ⟨show (-9223372036854775808 : Int) ≤ 0 by decide, show (0 : Int) ≤ 9223372036854775807 by decide⟩, ⟨show (-9223372036854775808 : Int) ≤ 0 by decide, show (0 : Int) ≤ 9223372036854775807 by decide⟩⟩
theorem Pay.ofRep_wf {lo hi : Int} (h : I64 lo) (h' : I64 hi) : (Pay.ofRep lo hi).wf := ⟨⟨show (-9223372036854775808 : Int) ≤ 5 by decide, show (5 : Int) ≤ 9223372036854775807 by decide⟩, Cs.none_wf, h, h', ⟨show (-9223372036854775808 : Int) ≤ 0 by decide, show (0 : Int) ≤ 9223372036854775807 by decide⟩⟩
def Re.rept (x : Re) (lo hi : Int) : Re := .mk (Pay.ofRep lo hi) [x]
def Re.counted (x : Re) (lo hi : Int) : Re :=
  if (lo = 0 ∧ (hi = 1 ∨ hi = -1)) ∨ (lo = 1 ∧ hi = -1) then x.rept lo hi
  else if hi = 0 then .mk (Pay.of 1) []
  else if lo = 1 ∧ hi = 1 then x
  else if hi = lo then .mk (Pay.of 3) (List.replicate lo.toNat x)
  else if hi = -1 then .mk (Pay.of 3) (List.replicate (lo - 1).toNat x ++ [x.rept 1 (-1)])
  else .mk (Pay.of 3) (List.replicate lo.toNat x ++ List.replicate (hi - lo).toNat (x.rept 0 1))

mutual
def Re.weigh : Re → Int
  | .mk p xs => if p.op = 5 then min 1073741824 (weightL (Re.weighs xs 0) p.lo p.hi) else min 1073741824 (Re.weighs xs 0 + 1)
def Re.weighs : List Re → Int → Int
  | [], n => n
  | t :: ts, n => Re.weighs ts (min 1073741824 (n + t.weigh))
end
mutual
def Re.expand : Re → Re
  | .mk p xs => if p.op = 5 ∧ p.hi = 0 then .mk (Pay.of 1) [] else if p.op = 5 then ((Re.expands xs).headD (.mk (Pay.of 0) [])).counted p.lo p.hi else .mk p (Re.expands xs)
def Re.expands : List Re → List Re
  | [] => []
  | t :: ts => t.expand :: Re.expands ts
end
mutual
def Re.okr : Re → Bool
  | .mk p xs => decide (p.op = 5 → p.badRep = false) && Re.okrs xs
def Re.okrs : List Re → Bool
  | [] => true
  | t :: ts => t.okr && Re.okrs ts
end
theorem Re.okrs_get : ∀ (xs : List Re), Re.okrs xs = true → ∀ k (hk : k < xs.length), xs[k].okr = true
  | t :: ts, h, 0, hk => by rw [Re.okrs, Bool.and_eq_true] at h; exact h.1
  | t :: ts, h, k + 1, hk => by
    rw [Re.okrs, Bool.and_eq_true] at h
    exact Re.okrs_get ts h.2 k (by simpa using hk)
theorem Pay.badRep_false {p : Pay} (h : p.badRep = false) : (0 ≤ p.lo ∧ p.lo ≤ 64) ∧ (p.hi = -1 ∨ (p.lo ≤ p.hi ∧ p.hi ≤ 64)) := by
  unfold Pay.badRep at h
  simp at h
  omega
mutual
theorem Re.ranged_okr : ∀ (t : Re) (b : Nat), (t.ranged b).isSome = true → t.okr = true
  | .mk p xs, b, h => by
    rw [Re.ranged] at h
    rw [Re.okr]
    split at h
    · cases h
    · rename_i h5
      have e1 := decide_eq_true (p := p.op = 5 → p.badRep = false) (fun e => by
        cases hx : p.badRep with
        | true => exact absurd ⟨e, hx⟩ h5
        | false => rfl)
      rw [e1]
      split at h
      · split at h
        · rw [Re.rangeds_okr xs _ h]; rfl
        · cases h
      · rw [Re.rangeds_okr xs _ h]; rfl
theorem Re.rangeds_okr : ∀ (xs : List Re) (b : Nat), (Re.rangeds xs b).isSome = true → Re.okrs xs = true
  | [], b, h => by rw [Re.okrs]
  | t :: ts, b, h => by
    rw [Re.rangeds] at h
    rw [Re.okrs]
    cases hx : t.ranged b with
    | none => rw [hx] at h; cases h
    | some n =>
      rw [hx] at h
      rw [Re.ranged_okr t b (by rw [hx]; rfl), Re.rangeds_okr ts n h]
      rfl
end
theorem weightL_nonneg {n lo hi : Int} (hn : 0 ≤ n) (hlo : 0 ≤ lo) (hhi : hi = -1 ∨ lo ≤ hi) : 0 ≤ weightL n lo hi := by
  have h1 := Int.mul_nonneg hlo hn
  unfold weightL
  split
  · omega
  · split
    · omega
    · split
      · omega
      · split
        · omega
        · split
          · omega
          · have h2 : 0 ≤ (hi - lo) * (n + 1) := Int.mul_nonneg (by omega) (by omega)
            omega
mutual
theorem Re.weigh_bd : ∀ (t : Re), t.okr = true → 0 ≤ t.weigh ∧ t.weigh ≤ 1073741824
  | .mk p xs, h => by
    rw [Re.okr, Bool.and_eq_true, decide_eq_true_eq] at h
    have h1 := Re.weighs_bd xs 0 h.2 (by omega)
    rw [Re.weigh]
    split
    · rename_i h5
      have h2 := Pay.badRep_false (h.1 h5)
      have h3 := weightL_nonneg (n := Re.weighs xs 0) (lo := p.lo) (hi := p.hi) h1.1 h2.1.1 (by omega)
      omega
    · omega
theorem Re.weighs_bd : ∀ (xs : List Re) (n : Int), Re.okrs xs = true → 0 ≤ n ∧ n ≤ 1073741824 → 0 ≤ Re.weighs xs n ∧ Re.weighs xs n ≤ 1073741824
  | [], n, _, h => by rw [Re.weighs]; exact h
  | t :: ts, n, hk, h => by
    rw [Re.okrs, Bool.and_eq_true] at hk
    have := Re.weigh_bd t hk.1
    rw [Re.weighs]
    exact Re.weighs_bd ts _ hk.2 (by omega)
end
theorem Re.weighs_take : ∀ (xs : List Re) (k : Nat) (a : Re) (n : Int), xs[k]? = some a → Re.weighs (xs.take (k + 1)) n = min 1073741824 (Re.weighs (xs.take k) n + a.weigh)
  | t :: ts, 0, a, n, h => by simp at h; subst h; simp [Re.weighs]
  | t :: ts, k + 1, a, n, h => by
    rw [List.take_succ_cons, List.take_succ_cons, Re.weighs, Re.weighs]
    exact Re.weighs_take ts k a _ (by simpa using h)
theorem Re.expands_map : ∀ (xs : List Re), Re.expands xs = xs.map Re.expand
  | [] => by rw [Re.expands]; rfl
  | t :: ts => by rw [Re.expands, Re.expands_map ts]; rfl
end Go.Proofs.YthnpbopnpdlmnaaDoor

/- The plain law of the expanded tree's size: its number of nodes is what weigh tells. No program. -/
namespace Go.Proofs.YthnpbopnpdlmnaaDoor
open Go.RowKit

theorem Re.sizes_append : ∀ (l l' : List Re), Re.sizes (l ++ l') = Re.sizes l + Re.sizes l'
  | [], l' => by simp [Re.sizes, Re.counts]
  | t :: ts, l' => by
    have h := Re.sizes_append ts l'
    simp only [Re.sizes, List.cons_append, Re.counts] at *
    omega
theorem Re.sizes_replicate (x : Re) : ∀ n, Re.sizes (List.replicate n x) = n * x.size
  | 0 => by simp [Re.sizes, Re.counts]
  | n + 1 => by
    have h := Re.sizes_replicate x n
    rw [List.replicate_succ]
    simp only [Re.sizes, Re.counts] at *
    rw [h, Nat.succ_mul]
    simp only [Re.size]
    omega
theorem Re.sizes_one (x : Re) : Re.sizes [x] = x.size := by simp [Re.sizes, Re.counts, Re.size]
theorem Re.rept_size (x : Re) (lo hi : Int) : (x.rept lo hi).size = x.size + 1 := by unfold Re.rept; rw [Re.size_mk, Re.sizes_one]
theorem Re.counted_size (x : Re) (lo hi : Int) (hlo : 0 ≤ lo) (hhi : hi = -1 ∨ lo ≤ hi) : ((x.counted lo hi).size : Int) = weightL x.size lo hi := by
  unfold Re.counted weightL
  by_cases c1 : (lo = 0 ∧ (hi = 1 ∨ hi = -1)) ∨ (lo = 1 ∧ hi = -1)
  · rw [if_pos c1, if_pos c1, Re.rept_size]; omega
  rw [if_neg c1, if_neg c1]
  by_cases c2 : hi = 0
  · rw [if_pos c2, if_pos c2, Re.size_mk]; simp [Re.sizes, Re.counts]
  rw [if_neg c2, if_neg c2]
  by_cases c3 : lo = 1 ∧ hi = 1
  · rw [if_pos c3, if_pos c3]
  rw [if_neg c3, if_neg c3]
  obtain ⟨n, rfl⟩ := Int.eq_ofNat_of_zero_le hlo
  by_cases c4 : hi = n
  · rw [if_pos c4, if_pos c4, Re.size_mk, Re.sizes_replicate]; simp; omega
  rw [if_neg c4, if_neg c4]
  by_cases c5 : hi = -1
  · obtain ⟨m, rfl⟩ : ∃ m, n = m + 1 := ⟨n - 1, by omega⟩
    rw [if_pos c5, if_pos c5, Re.size_mk, Re.sizes_append, Re.sizes_replicate, Re.sizes_one, Re.rept_size]
    have : (((m + 1 : Nat) : Int) - 1).toNat = m := by omega
    rw [this, Int.natCast_add, Int.natCast_add, Int.natCast_mul, Int.natCast_add, Int.natCast_add, Int.add_mul]
    simp
    omega
  · rw [if_neg c5, if_neg c5, Re.size_mk, Re.sizes_append, Re.sizes_replicate, Re.sizes_replicate, Re.rept_size]
    obtain ⟨m, rfl⟩ : ∃ m : Nat, hi = n + m := ⟨(hi - n).toNat, by omega⟩
    have e : ((n : Int) + m - n) = m := by omega
    rw [e, Int.toNat_natCast, Int.toNat_natCast]
    simp
    omega

mutual
theorem Re.expand_size : ∀ (t : Re), t.okr = true → t.typed = true → t.weigh < 1073741824 → (t.expand.size : Int) = t.weigh
  | .mk p xs, hok, hty, hw => by
    rw [Re.weigh] at hw
    rw [Re.weigh, Re.expand]
    have hok' := hok
    rw [Re.okr, Bool.and_eq_true, decide_eq_true_eq] at hok'
    have hty' := hty
    rw [Re.typed, Bool.and_eq_true] at hty'
    have hb := Re.weighs_bd xs 0 hok'.2 (by omega)
    by_cases h5 : p.op = 5
    · rw [if_pos h5] at hw
      rw [if_pos h5] 
      have hbd := Pay.badRep_false (hok'.1 h5)
      by_cases h0 : p.hi = 0
      · rw [if_pos ⟨h5, h0⟩, Re.size_mk]
        have : p.lo = 0 := by omega
        rw [h0, this]
        simp [weightL, Re.sizes, Re.counts, h5]
        omega
      · rw [if_neg (fun h => h0 h.2), if_pos h5]
        have hl : xs.length = 1 := by
          have h1 := hty'.1
          unfold Pay.shaped at h1
          simp [h5] at h1
          omega
        have hge : Re.weighs xs 0 ≤ weightL (Re.weighs xs 0) p.lo p.hi := by
          generalize Re.weighs xs 0 = N at *
          unfold weightL
          by_cases c1 : (p.lo = 0 ∧ (p.hi = 1 ∨ p.hi = -1)) ∨ (p.lo = 1 ∧ p.hi = -1)
          · rw [if_pos c1]; omega
          rw [if_neg c1, if_neg h0]
          by_cases c3 : p.lo = 1 ∧ p.hi = 1
          · rw [if_pos c3]; omega
          rw [if_neg c3]
          by_cases c4 : p.hi = p.lo
          · rw [if_pos c4]
            have : 1 ≤ p.lo := by omega
            have := Int.mul_le_mul_of_nonneg_right this hb.1
            omega
          rw [if_neg c4]
          by_cases c5 : p.hi = -1
          · rw [if_pos c5]
            have : 1 ≤ p.lo := by omega
            have := Int.mul_le_mul_of_nonneg_right this hb.1
            omega
          · rw [if_neg c5]
            have h1 := Int.mul_nonneg hbd.1.1 hb.1
            have h2 : 1 ≤ p.hi - p.lo := by omega
            have h3 := Int.mul_le_mul_of_nonneg_right h2 (show 0 ≤ N + 1 by omega)
            omega
        have hs := Re.expands_size xs 0 hok'.2 hty'.2 (by omega) (by omega)
        match xs, hl with
        | [x], _ =>
          rw [Re.expands, Re.expands] at *
          rw [Re.sizes_one] at hs
          simp only [List.headD_cons]
          rw [Re.counted_size _ _ _ hbd.1.1 (by omega), show (x.expand.size : Int) = Re.weighs [x] 0 by omega]
          omega
    · rw [if_neg h5] at hw
      rw [if_neg h5, if_neg (fun h => h5 h.1), if_neg h5, Re.size_mk]
      have hs := Re.expands_size xs 0 hok'.2 hty'.2 (by omega) (by omega)
      omega
theorem Re.expands_size : ∀ (xs : List Re) (n : Int), Re.okrs xs = true → Re.typeds xs = true → 0 ≤ n → Re.weighs xs n < 1073741824 → ((Re.sizes (Re.expands xs) : Nat) : Int) + n = Re.weighs xs n
  | [], n, _, _, _, _ => by rw [Re.expands, Re.weighs]; simp [Re.sizes, Re.counts]
  | t :: ts, n, hok, hty, hn, hw => by
    rw [Re.okrs, Bool.and_eq_true] at hok
    rw [Re.typeds, Bool.and_eq_true] at hty
    rw [Re.weighs] at hw
    rw [Re.weighs, Re.expands]
    have hb := Re.weigh_bd t hok.1
    have hm := Re.weighs_mono ts (min 1073741824 (n + t.weigh)) hok.2 (by omega)
    have h1 := Re.expand_size t hok.1 hty.1 (by omega)
    have h2 := Re.expands_size ts (min 1073741824 (n + t.weigh)) hok.2 hty.2 (by omega) hw
    have h3 : Re.sizes (t.expand :: Re.expands ts) = t.expand.size + Re.sizes (Re.expands ts) := by simp [Re.sizes, Re.counts, Re.size]
    rw [h3]
    omega
theorem Re.weighs_mono : ∀ (xs : List Re) (n : Int), Re.okrs xs = true → 0 ≤ n ∧ n ≤ 1073741824 → n ≤ Re.weighs xs n
  | [], n, _, _ => by rw [Re.weighs]; omega
  | t :: ts, n, hok, hn => by
    rw [Re.okrs, Bool.and_eq_true] at hok
    have hb := Re.weigh_bd t hok.1
    rw [Re.weighs]
    have := Re.weighs_mono ts (min 1073741824 (n + t.weigh)) hok.2 (by omega)
    omega
end
def Re.expandR (t : Re) : Re × Int := if t.err ≠ 0 then (.mk (Pay.of 0) [], t.err) else if 4096 < t.weigh then (.mk (Pay.of 0) [], 3) else (t.expand, 0)
end Go.Proofs.YthnpbopnpdlmnaaDoor

/- The reference's list of instructions: frames, and what an append leaves. -/
namespace Go.Proofs.YthnpbopnpdlmnaaDoor
open Go.RowKit

theorem OwnI.n {w : World} {base : Nat} {a : Option Addr} {n c : Nat} {L : List Inst} (h : OwnI w base (.slice a n c) L) : n = L.length := by
  obtain ⟨a', c', e⟩ := h.form
  injection e with e1 e2 e3
end Go.Proofs.YthnpbopnpdlmnaaDoor

/- The reference's rep. -/
namespace Go.Proofs.YthnpbopnpdlmnaaDoor
open Go.RowKit
attribute [local go_sem] gives givesUpon

end Go.Proofs.YthnpbopnpdlmnaaDoor

/- The reference's alt. -/
namespace Go.Proofs.YthnpbopnpdlmnaaDoor
open Go.RowKit
attribute [local go_sem] gives givesUpon

end Go.Proofs.YthnpbopnpdlmnaaDoor

/- The reference's code. -/
namespace Go.Proofs.YthnpbopnpdlmnaaDoor
open Go.RowKit
attribute [local go_sem] gives givesUpon

end Go.Proofs.YthnpbopnpdlmnaaDoor
