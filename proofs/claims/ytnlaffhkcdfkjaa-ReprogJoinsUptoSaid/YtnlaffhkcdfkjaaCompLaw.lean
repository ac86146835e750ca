/- Two trees one after the other, and as alternatives: the plain law. No program. -/
import Derived.Test.YtnlaffhkcdfkjaaExpLaw
import Derived.Test.YtnlaffhkcdfkjaaCount
namespace Go.Proofs.Ytnlaffhkcdfkjaa
open Go.RowKit

theorem Re.rep_pay {p : Pay} {xs : List Re} (h : (Re.mk p xs).typed = true) (hop : p.op = 5) : p = Pay.ofRep p.lo p.hi := by
  rw [Re.typed] at h
  simp only [Bool.and_eq_true] at h
  have h1 := h.1
  unfold Pay.shaped at h1
  simp [hop] at h1
  obtain ⟨op, set, lo, hi, gr⟩ := p
  simp only at hop h1 ⊢
  unfold Pay.ofRep
  rw [hop, h1.2, h1.1.2]

def Re.cat2 (a b : Re) : Re := .mk (Pay.of 3) [a, b]
def Re.alt2 (a b : Re) : Re := .mk (Pay.of 4) [a, b]

theorem Re.err_of {t : Re} (h1 : t.typed = true) (h2 : (t.ranged 0).isSome = true) (h3 : (t.named []).isSome = true) (h4 : t.size ≤ 600 ∧ t.groups ≤ 9 ∧ t.levels ≤ 32) : t.err = 0 := by
  unfold Re.err
  have h2' : (t.ranged 0).isNone = false := by cases hx : t.ranged 0 with | none => rw [hx] at h2; cases h2 | some n => rfl
  have h3' : (t.named []).isNone = false := by cases hx : t.named [] with | none => rw [hx] at h3; cases h3 | some n => rfl
  rw [h1, h2', h3']
  simp
  omega

mutual
/-- Without groups, no name is closed. -/
theorem Re.named_nogroup : ∀ (t : Re) (l l' : List Int), t.groups = 0 → t.named l = some l' → l' = l
  | .mk p xs, l, l', hg, h => by
    simp only [Re.groups, Re.count] at hg
    rw [Re.named] at h
    split at h
    · cases h
    · cases hx : Re.nameds xs l with
      | none => rw [hx] at h; cases h
      | some l2 =>
        rw [hx] at h
        have h2 := Re.nameds_nogroup xs l l2 (by omega) hx
        have h6 : ¬ p.op = 6 := by intro h6; simp [h6] at hg
        dsimp only at h
        rw [if_neg h6] at h
        exact (Option.some.inj h).symm.trans h2
theorem Re.nameds_nogroup : ∀ (xs : List Re) (l l' : List Int), Re.counts (· == 6) xs = 0 → Re.nameds xs l = some l' → l' = l
  | [], l, l', _, h => by rw [Re.nameds] at h; exact (Option.some.inj h).symm
  | t :: ts, l, l', hg, h => by
    rw [Re.counts] at hg
    rw [Re.nameds] at h
    cases hx : t.named l with
    | none => rw [hx] at h; cases h
    | some l2 =>
      rw [hx] at h
      have h1 := Re.named_nogroup t l l2 (by simp only [Re.groups]; omega) hx
      have h2 := Re.nameds_nogroup ts l2 l' (by omega) h
      exact h2.trans h1
end
mutual
theorem Re.learn_nogroup : ∀ (t : Re) (g : Int → Option Facts), t.groups = 0 → (t.learn g).2 = g
  | .mk p xs, g, hg => by
    simp only [Re.groups, Re.count] at hg
    have h6 : ¬ p.op = 6 := by intro h6; simp [h6] at hg
    have h2 := Re.learns_nogroup xs g (by omega)
    rw [Re.learn]
    unfold Pay.learn
    split
    · exact h2
    split
    · exact h2
    split
    · exact h2
    split
    · exact h2
    split
    · exact h2
    · exact h2
theorem Re.learns_nogroup : ∀ (xs : List Re) (g : Int → Option Facts), Re.counts (· == 6) xs = 0 → (Re.learns xs g).2 = g
  | [], g, _ => by rw [Re.learns]
  | t :: ts, g, hg => by
    rw [Re.counts] at hg
    rw [Re.learns]
    simp only []
    rw [Re.learns_nogroup ts _ (by omega), Re.learn_nogroup t g (by simp only [Re.groups]; omega)]
end

theorem lsum_nonneg {a b : Int} (ha : 0 ≤ a) (hb : 0 ≤ b) : 0 ≤ lsum a b := by unfold lsum; split <;> omega
theorem ltimes_nonneg {a n : Int} (ha : 0 ≤ a) (hn : 0 ≤ n) : 0 ≤ ltimes a n := by
  unfold ltimes
  have := Int.mul_nonneg ha hn
  split
  · omega
  · split
    · omega
    · omega
def GLe (g : Int → Option Facts) : Prop := ∀ k f, g k = some f → 0 ≤ f.least
theorem foldl_least (f : Facts → Facts → Facts) (hf : ∀ a b, 0 ≤ a.least → 0 ≤ b.least → 0 ≤ (f a b).least) : ∀ (l : List Facts) (a : Facts), 0 ≤ a.least → (∀ b, b ∈ l → 0 ≤ b.least) → 0 ≤ (l.foldl f a).least
  | [], a, h, _ => h
  | b :: l, a, h, hl => foldl_least f hf l _ (hf a b h (hl b (by simp))) (fun c hc => hl c (by simp [hc]))
theorem Pay.learn_least (p : Pay) (hp : p.op = 5 → 0 ≤ p.lo) (l : List Facts) (g : Int → Option Facts) (hl : ∀ b, b ∈ l → 0 ≤ b.least) (hg : GLe g) : 0 ≤ (p.learn l g).1.least ∧ GLe (p.learn l g).2 := by
  have h0 : 0 ≤ (l.headD Facts.zero).least := by
    cases l with
    | nil => exact Int.le_refl 0
    | cons f l => exact hl f (by simp)
  unfold Pay.learn
  split
  · exact ⟨by show (0 : Int) ≤ 1; decide, hg⟩
  split
  · refine ⟨?_, hg⟩
    cases l with
    | nil => exact Int.le_refl 0
    | cons f l => exact foldl_least _ (fun a b ha hb => lsum_nonneg ha hb) l f (hl f (by simp)) (fun c hc => hl c (by simp [hc]))
  split
  · refine ⟨?_, hg⟩
    cases l with
    | nil => exact Int.le_refl 0
    | cons f l => exact foldl_least _ (fun a b ha hb => by show 0 ≤ min a.least b.least; omega) l f (hl f (by simp)) (fun c hc => hl c (by simp [hc]))
  split
  · rename_i h5
    exact ⟨ltimes_nonneg h0 (hp h5), hg⟩
  split
  · refine ⟨h0, fun k f hk => ?_⟩
    dsimp only at hk
    split at hk
    · cases hk; exact h0
    · exact hg k f hk
  split
  · refine ⟨?_, hg⟩
    cases hx : g p.gr with
    | none => exact Int.le_refl 0
    | some f => exact hg _ f hx
  · exact ⟨Int.le_refl 0, hg⟩
mutual
theorem Re.learn_least : ∀ (t : Re) (g : Int → Option Facts), t.okr = true → GLe g → 0 ≤ (t.learn g).1.least ∧ GLe (t.learn g).2
  | .mk p xs, g, hok, hg => by
    rw [Re.okr, Bool.and_eq_true, decide_eq_true_eq] at hok
    have h := Re.learns_least xs g hok.2 hg
    rw [Re.learn]
    exact Pay.learn_least p (fun h5 => (Pay.badRep_false (hok.1 h5)).1.1) _ _ h.1 h.2
theorem Re.learns_least : ∀ (xs : List Re) (g : Int → Option Facts), Re.okrs xs = true → GLe g → (∀ f, f ∈ (Re.learns xs g).1 → 0 ≤ f.least) ∧ GLe (Re.learns xs g).2
  | [], g, _, hg => by rw [Re.learns]; exact ⟨fun f hf => (by cases hf), hg⟩
  | t :: ts, g, hok, hg => by
    rw [Re.okrs, Bool.and_eq_true] at hok
    have h1 := Re.learn_least t g hok.1 hg
    have h2 := Re.learns_least ts _ hok.2 h1.2
    rw [Re.learns]
    refine ⟨fun f hf => ?_, h2.2⟩
    rcases List.mem_cons.1 hf with hf | hf
    · rw [hf]; exact h1.1
    · exact h2.1 f hf
end
theorem Re.facts_least (t : Re) : 0 ≤ t.facts.least := by
  by_cases h : t.err = 0
  · rw [Re.facts_some h]
    exact (Re.learn_least t _ (Re.ranged_okr t 0 (Re.err_zero h).2.2.1) (fun k f hf => by cases hf)).1
  · rw [Re.facts_zero h]
    exact Int.le_refl 0

theorem cat2_size (a b : Re) : (a.cat2 b).size = a.size + b.size + 1 := by unfold Re.cat2; rw [Re.size_mk]; simp [Re.sizes, Re.counts, Re.size]
theorem alt2_size (a b : Re) : (a.alt2 b).size = a.size + b.size + 1 := by unfold Re.alt2; rw [Re.size_mk]; simp [Re.sizes, Re.counts, Re.size]
theorem cat2_groups (a b : Re) : (a.cat2 b).groups = a.groups + b.groups := by simp [Re.cat2, Re.groups, Re.count, Re.counts, Pay.of]
theorem alt2_groups (a b : Re) : (a.alt2 b).groups = a.groups + b.groups := by simp [Re.alt2, Re.groups, Re.count, Re.counts, Pay.of]

/-- What the law asks of two trees that are valid together. -/
structure Comp (a b : Re) : Prop where
  alt : (a.alt2 b).err = 0
  cfacts : (a.cat2 b).facts = a.facts.cat b.facts
  afacts : (a.alt2 b).facts = a.facts.alt b.facts
theorem comp_law (a b : Re) (h : (a.cat2 b).err = 0) (hg : (a.cat2 b).groups = 0) : Comp a b := by
  have he := Re.err_zero h
  obtain ⟨h1, h2, h3, h4, h5, h6, h7⟩ := he
  rw [cat2_groups] at hg
  rw [cat2_size] at h5
  have hga : a.groups = 0 := by omega
  have hgb : b.groups = 0 := by omega
  have hl : (a.cat2 b).levels = (a.alt2 b).levels := by simp [Re.cat2, Re.alt2, Re.levels]
  have hlv : a.levels ≤ 32 ∧ b.levels ≤ 32 := by simp [Re.cat2, Re.levels, Re.levelss] at h7; omega
  have ht : a.typed = true ∧ b.typed = true := by
    simp only [Re.cat2, Re.typed, Re.typeds, Bool.and_eq_true] at h1
    exact ⟨h1.2.1, h1.2.2.1⟩
  have hr : (a.ranged 0).isSome = true ∧ (b.ranged 0).isSome = true := by
    simp only [Re.cat2, Re.ranged, Re.rangeds] at h3
    rw [if_neg (by simp [Pay.of]), if_neg (by simp [Pay.of])] at h3
    cases hx : a.ranged 0 with
    | none => rw [hx] at h3; cases h3
    | some n =>
      rw [hx] at h3
      have hn := Re.ranged_groups a 0 n hx
      have hn0 : n = 0 := by omega
      subst hn0
      simp only [] at h3
      cases hy : b.ranged 0 with
      | none => rw [hy] at h3; cases h3
      | some m => exact ⟨rfl, rfl⟩
  have hn : (a.named []).isSome = true ∧ (b.named []).isSome = true := by
    simp only [Re.cat2, Re.named, Re.nameds] at h4
    rw [if_neg (by simp [Pay.of])] at h4
    cases hx : a.named [] with
    | none => rw [hx] at h4; cases h4
    | some l =>
      rw [hx] at h4
      obtain rfl := Re.named_nogroup a [] l hga hx
      simp only [] at h4
      cases hy : b.named [] with
      | none => rw [hy] at h4; cases h4
      | some m => exact ⟨rfl, rfl⟩
  have ea : a.err = 0 := Re.err_of ht.1 hr.1 hn.1 ⟨by omega, by omega, hlv.1⟩
  have eb : b.err = 0 := Re.err_of ht.2 hr.2 hn.2 ⟨by omega, by omega, hlv.2⟩
  have ealt : (a.alt2 b).err = 0 := by
    refine Re.err_of ?_ ?_ ?_ ⟨by rw [alt2_size]; omega, by rw [alt2_groups]; omega, by rw [← hl]; exact h7⟩
    · simp only [Re.alt2, Re.typed, Re.typeds, Bool.and_eq_true]
      exact ⟨(show (Pay.of 4).shaped 2 = true by decide), ht.1, ht.2, trivial⟩
    · simp only [Re.alt2, Re.ranged, Re.rangeds]
      rw [if_neg (by simp [Pay.of]), if_neg (by simp [Pay.of])]
      cases hx : a.ranged 0 with
      | none => rw [hx] at hr; cases hr.1
      | some n =>
        have hn := Re.ranged_groups a 0 n hx
        have hn0 : n = 0 := by omega
        subst hn0
        simp only []
        cases hy : b.ranged 0 with
        | none => rw [hy] at hr; cases hr.2
        | some m => rfl
    · simp only [Re.alt2, Re.named, Re.nameds]
      rw [if_neg (by simp [Pay.of])]
      cases hx : a.named [] with
      | none => rw [hx] at hn; cases hn.1
      | some l =>
        obtain rfl := Re.named_nogroup a [] l hga hx
        simp only []
        cases hy : b.named [] with
        | none => rw [hy] at hn; cases hn.2
        | some m => simp [Pay.of]
  refine ⟨ealt, ?_, ?_⟩
  · rw [Re.facts_some h, Re.facts_some ea, Re.facts_some eb]
    simp only [Re.cat2, Re.learn, Re.learns, Re.learn_nogroup a _ hga]
    rfl
  · rw [Re.facts_some ealt, Re.facts_some ea, Re.facts_some eb]
    simp only [Re.alt2, Re.learn, Re.learns, Re.learn_nogroup a _ hga]
    rfl
end Go.Proofs.Ytnlaffhkcdfkjaa
