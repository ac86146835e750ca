/- What is learnt of a tree: the law side. -/
import Derived.Test.YtnlaffhkcdfkjaaFacts2
import Derived.Test.YtnlaffhkcdfkjaaCheckLaw
namespace Go.Proofs.Ytnlaffhkcdfkjaa
open Go.RowKit

def Facts.zero : Facts := ⟨false, 0, 0, Cs.none⟩
def Facts.empty : Facts := ⟨true, 0, 0, Cs.none⟩
def Facts.rep (f : Facts) (lo hi : Int) : Facts := ⟨decide (lo = 0) || f.null, ltimes f.least lo, ltimes f.most hi, if hi = 0 then Cs.none else f.first⟩
def Facts.cats : List Facts → Facts
  | [] => Facts.zero
  | f :: l => l.foldl Facts.cat f
def Facts.alts : List Facts → Facts
  | [] => Facts.zero
  | f :: l => l.foldl Facts.alt f
def Pay.learn (p : Pay) (l : List Facts) (g : Int → Option Facts) : Facts × (Int → Option Facts) :=
  if p.op = 2 then (⟨false, 1, 1, p.set⟩, g)
  else if p.op = 3 then (Facts.cats l, g)
  else if p.op = 4 then (Facts.alts l, g)
  else if p.op = 5 then ((l.headD Facts.zero).rep p.lo p.hi, g)
  else if p.op = 6 then (l.headD Facts.zero, fun k => if k = p.gr then some (l.headD Facts.zero) else g k)
  else if p.op = 9 then ((g p.gr).getD Facts.zero, g)
  else (Facts.empty, g)
mutual
def Re.learn : Re → (Int → Option Facts) → Facts × (Int → Option Facts)
  | .mk p xs, g => p.learn (Re.learns xs g).1 (Re.learns xs g).2
def Re.learns : List Re → (Int → Option Facts) → List Facts × (Int → Option Facts)
  | [], g => ([], g)
  | t :: ts, g => ((t.learn g).1 :: (Re.learns ts (t.learn g).2).1, (Re.learns ts (t.learn g).2).2)
end
theorem Re.learns_take : ∀ (xs : List Re) (k : Nat) (a : Re) (g : Int → Option Facts), xs[k]? = some a →
    Re.learns (xs.take (k + 1)) g = ((Re.learns (xs.take k) g).1 ++ [(a.learn (Re.learns (xs.take k) g).2).1], (a.learn (Re.learns (xs.take k) g).2).2)
  | [], k, a, g, h => by simp at h
  | t :: ts, 0, a, g, h => by
    simp at h
    subst h
    simp [Re.learns]
  | t :: ts, k + 1, a, g, h => by
    have := Re.learns_take ts k a (t.learn g).2 (by simpa using h)
    simp only [List.take_succ_cons, Re.learns] at this ⊢
    rw [this]
    simp
theorem Re.learns_len : ∀ (xs : List Re) (g : Int → Option Facts), (Re.learns xs g).1.length = xs.length
  | [], g => rfl
  | t :: ts, g => by simp [Re.learns, Re.learns_len ts]

mutual
/-- The bounds of all repetitions are such that lengths can be multiplied. -/
def Re.reps : Re → Bool
  | .mk p xs => decide (p.op = 5 → (-1 ≤ p.lo ∧ p.lo ≤ 64) ∧ (-1 ≤ p.hi ∧ p.hi ≤ 64)) && Re.repss xs
def Re.repss : List Re → Bool
  | [] => true
  | t :: ts => t.reps && Re.repss ts
end
theorem Re.repss_get : ∀ (xs : List Re), Re.repss xs = true → ∀ k (hk : k < xs.length), xs[k].reps = true
  | [], _, k, hk => by simp at hk
  | t :: ts, h, 0, hk => by simp only [Re.repss, Bool.and_eq_true] at h; exact h.1
  | t :: ts, h, k + 1, hk => by simp only [Re.repss, Bool.and_eq_true] at h; exact Re.repss_get ts h.2 k (by simpa using hk)

theorem Cs.none_wf' : Cs.none.wf := Cs.none_wf
theorem Facts.zero_wf : Facts.zero.wf := ⟨⟨by decide, by decide⟩, ⟨by decide, by decide⟩, Cs.none_wf⟩
theorem Facts.empty_wf : Facts.empty.wf := ⟨⟨by decide, by decide⟩, ⟨by decide, by decide⟩, Cs.none_wf⟩
theorem Facts.cat_wf {a b : Facts} (ha : a.wf) (hb : b.wf) : (a.cat b).wf := by
  refine ⟨ha.least.lsum hb.least, ha.most.lsum hb.most, ?_⟩
  show (if a.null then a.first.union b.first else a.first).wf
  split
  · exact Cs.union_wf ha.first hb.first
  · exact ha.first
theorem Facts.alt_wf {a b : Facts} (ha : a.wf) (hb : b.wf) : (a.alt b).wf := by
  obtain ⟨⟨h1, h2⟩, ⟨h3, h4⟩, h5⟩ := ha
  obtain ⟨⟨k1, k2⟩, ⟨k3, k4⟩, k5⟩ := hb
  refine ⟨⟨?_, ?_⟩, ⟨?_, ?_⟩, Cs.union_wf h5 k5⟩
  · show _ ≤ min _ _; omega
  · show min _ _ ≤ _; omega
  · show _ ≤ ite _ _ _; split <;> omega
  · show ite _ _ _ ≤ _; split <;> omega
theorem Facts.rep_wf {a : Facts} (ha : a.wf) (lo hi : Int) : (a.rep lo hi).wf := by
  refine ⟨ha.least.ltimes, ha.most.ltimes, ?_⟩
  show (if hi = 0 then Cs.none else a.first).wf
  split
  · exact Cs.none_wf
  · exact ha.first
theorem Facts.foldl_wf (f : Facts → Facts → Facts) (hf : ∀ a b, a.wf → b.wf → (f a b).wf) : ∀ (l : List Facts) (a : Facts), a.wf → (∀ b, b ∈ l → b.wf) → (l.foldl f a).wf
  | [], a, h, _ => h
  | b :: l, a, h, hl => Facts.foldl_wf f hf l _ (hf a b h (hl b (by simp))) (fun c hc => hl c (by simp [hc]))
def GWf (g : Int → Option Facts) : Prop := ∀ k f, g k = some f → f.wf
theorem Pay.learn_wf (p : Pay) (hp : p.set.wf) (l : List Facts) (g : Int → Option Facts) (hl : ∀ b, b ∈ l → b.wf) (hg : GWf g) : (p.learn l g).1.wf ∧ GWf (p.learn l g).2 := by
  have h0 : (l.headD Facts.zero).wf := by
    cases l with
    | nil => exact Facts.zero_wf
    | cons f l => exact hl f (by simp)
  unfold Pay.learn
  split
  · exact ⟨⟨⟨by show (-1 : Int) ≤ 1; decide, by show (1 : Int) ≤ 2147483647; decide⟩, ⟨by show (-1 : Int) ≤ 1; decide, by show (1 : Int) ≤ 2147483647; decide⟩, hp⟩, hg⟩
  split
  · refine ⟨?_, hg⟩
    cases l with
    | nil => exact Facts.zero_wf
    | cons f l => exact Facts.foldl_wf _ (fun _ _ => Facts.cat_wf) l f (hl f (by simp)) (fun c hc => hl c (by simp [hc]))
  split
  · refine ⟨?_, hg⟩
    cases l with
    | nil => exact Facts.zero_wf
    | cons f l => exact Facts.foldl_wf _ (fun _ _ => Facts.alt_wf) l f (hl f (by simp)) (fun c hc => hl c (by simp [hc]))
  split
  · exact ⟨Facts.rep_wf h0 _ _, hg⟩
  split
  · refine ⟨h0, fun k f hk => ?_⟩
    dsimp only at hk
    split at hk
    · cases hk; exact h0
    · exact hg k f hk
  split
  · refine ⟨?_, hg⟩
    cases h : g p.gr with
    | none => exact Facts.zero_wf
    | some f => exact hg _ f h
  · exact ⟨Facts.empty_wf, hg⟩
mutual
theorem Re.learn_wf : ∀ (t : Re) (w : World) (cs : List Value) (g : Int → Option Facts), t.In w cs → GWf g → (t.learn g).1.wf ∧ GWf (t.learn g).2
  | .mk p xs, w, cs, g, h, hg => by
    rw [Re.In] at h
    obtain ⟨ad, cap, rfl, hwf, _, _, _, hall⟩ := h
    obtain ⟨h1, h2⟩ := Re.learns_wf xs w ad 0 g hall hg
    rw [Re.learn]
    exact Pay.learn_wf p hwf.set _ _ h1 h2
theorem Re.learns_wf : ∀ (xs : List Re) (w : World) (ad : Option Addr) (k : Nat) (g : Int → Option Facts), Re.AllIn w xs ad k → GWf g → (∀ f, f ∈ (Re.learns xs g).1 → f.wf) ∧ GWf (Re.learns xs g).2
  | [], w, ad, k, g, _, hg => by
    rw [Re.learns]
    exact And.intro (fun f hf => absurd hf (by simp)) hg
  | t :: ts, w, ad, k, g, h, hg => by
    rw [Re.AllIn] at h
    obtain ⟨⟨b, o, cs, _, _, hc⟩, h⟩ := h
    obtain ⟨h1, h2⟩ := Re.learn_wf t w cs g hc hg
    obtain ⟨h3, h4⟩ := Re.learns_wf ts w ad (k + 9) (t.learn g).2 h h2
    rw [Re.learns]
    refine And.intro (fun f hf => ?_) h4
    simp only [List.mem_cons] at hf
    rcases hf with hf | hf
    · rw [hf]; exact h1
    · exact h3 f hf
end
end Go.Proofs.Ytnlaffhkcdfkjaa
