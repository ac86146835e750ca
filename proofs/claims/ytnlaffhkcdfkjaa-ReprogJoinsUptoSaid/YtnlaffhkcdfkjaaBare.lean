/- Trees without their groups: the plain law. A tree that is compiled has the same code without its groups. No program. -/
import Derived.Test.YtnlaffhkcdfkjaaRight
namespace Go.Proofs.Ytnlaffhkcdfkjaa
open Go.RowKit

mutual
/-- A tree without its groups. -/
def Re.bare : Re → Re
  | .mk p xs => if p.op = 6 ∧ xs.length = 1 then (Re.bares xs).headD (.mk p []) else .mk p (Re.bares xs)
def Re.bares : List Re → List Re
  | [] => []
  | t :: ts => t.bare :: Re.bares ts
end
theorem Re.bares_map : ∀ (xs : List Re), Re.bares xs = xs.map Re.bare
  | [] => by rw [Re.bares]; rfl
  | t :: ts => by rw [Re.bares, Re.bares_map ts]; rfl
theorem Re.bare_one {p : Pay} {x : Re} (h : p.op = 6) : (Re.mk p [x]).bare = x.bare := by
  rw [Re.bare, if_pos ⟨h, rfl⟩, Re.bares]; rfl
theorem Re.bare_many {p : Pay} {xs : List Re} (h : ¬ (p.op = 6 ∧ xs.length = 1)) : (Re.mk p xs).bare = .mk p (xs.map Re.bare) := by
  rw [Re.bare, if_neg h, Re.bares_map]
theorem Re.typeds_all : ∀ (xs : List Re), Re.typeds xs = true ↔ ∀ a, a ∈ xs → a.typed = true
  | [] => by simp [Re.typeds]
  | t :: ts => by simp [Re.typeds, Re.typeds_all ts]
theorem Re.okrs_all : ∀ (xs : List Re), Re.okrs xs = true ↔ ∀ a, a ∈ xs → a.okr = true
  | [] => by simp [Re.okrs]
  | t :: ts => by simp [Re.okrs, Re.okrs_all ts]
theorem Re.group_kid {p : Pay} {xs : List Re} (h : (Re.mk p xs).typed = true) (hop : p.op = 6) : ∃ x, xs = [x] := by
  rw [Re.typed, Bool.and_eq_true] at h
  have hl : xs.length = 1 := (Pay.shaped_fine h.1).2.2.1 hop
  match xs, hl with
  | [x], _ => exact ⟨x, rfl⟩
theorem Re.rep_kid {p : Pay} {xs : List Re} (h : (Re.mk p xs).typed = true) (hop : p.op = 5) : ∃ x, xs = [x] := by
  rw [Re.typed, Bool.and_eq_true] at h
  have hl : xs.length = 1 := (Pay.shaped_fine h.1).2.1 hop
  match xs, hl with
  | [x], _ => exact ⟨x, rfl⟩
/-- What holds of a tree without groups, beside the tree: by the two cases. -/
theorem Re.bare_ind {M : Re → Re → Prop} (hg : ∀ p x y, p.op = 6 → x.typed = true → M y x → M y (.mk p [x]))
    (hn : ∀ p xs, p.op ≠ 6 → (Re.mk p xs).typed = true → (∀ a, a ∈ xs → M a.bare a) → M (.mk p (xs.map Re.bare)) (.mk p xs)) : ∀ t : Re, t.typed = true → M t.bare t := by
  intro t
  induction t using Re.ind with
  | h p xs ih =>
    intro ht
    have hk : ∀ a, a ∈ xs → a.typed = true := by
      rw [Re.typed, Bool.and_eq_true] at ht
      exact (Re.typeds_all xs).1 ht.2
    by_cases h6 : p.op = 6
    · obtain ⟨x, rfl⟩ := Re.group_kid ht h6
      rw [Re.bare_one h6]
      exact hg p x _ h6 (hk x (by simp)) (ih x (by simp) (hk x (by simp)))
    · rw [Re.bare_many (fun h => h6 h.1)]
      exact hn p xs h6 ht (fun a ha => ih a ha (hk a ha))
theorem Re.bare_typed (t : Re) (h : t.typed = true) : t.bare.typed = true := by
  refine Re.bare_ind (M := fun y _ => y.typed = true) (fun _ _ _ _ _ h => h) (fun p xs _ ht hx => ?_) t h
  rw [Re.typed, Bool.and_eq_true] at ht ⊢
  rw [List.length_map]
  refine ⟨ht.1, (Re.typeds_all _).2 fun a ha => ?_⟩
  obtain ⟨b, hb, rfl⟩ := List.mem_map.1 ha
  exact hx b hb
theorem Re.bare_okr (t : Re) (h : t.typed = true) : t.okr = true → t.bare.okr = true := by
  refine Re.bare_ind (M := fun y x => x.okr = true → y.okr = true) (fun p x y _ _ h k => ?_) (fun p xs _ ht hx k => ?_) t h
  · rw [Re.okr, Bool.and_eq_true] at k
    exact h ((Re.okrs_all _).1 k.2 x (by simp))
  · rw [Re.okr, Bool.and_eq_true] at k ⊢
    refine ⟨k.1, (Re.okrs_all _).2 fun a ha => ?_⟩
    obtain ⟨b, hb, rfl⟩ := List.mem_map.1 ha
    exact hx b hb ((Re.okrs_all _).1 k.2 b hb)
theorem Re.counts_map (q : Int → Bool) : ∀ (xs : List Re), (∀ a, a ∈ xs → a.bare.count q ≤ a.count q) → Re.counts q (xs.map Re.bare) ≤ Re.counts q xs
  | [], _ => by simp [Re.counts]
  | t :: ts, h => by
    have h1 := h t (by simp)
    have h2 := Re.counts_map q ts (fun a ha => h a (by simp [ha]))
    simp only [List.map_cons, Re.counts]
    omega
theorem Re.bare_count (q : Int → Bool) (t : Re) (h : t.typed = true) : t.bare.count q ≤ t.count q := by
  refine Re.bare_ind (M := fun y x => y.count q ≤ x.count q) (fun p x y _ _ h => ?_) (fun p xs _ ht hx => ?_) t h
  · rw [Re.count]; simp only [Re.counts]; omega
  · have := Re.counts_map q xs hx
    rw [Re.count, Re.count]; omega
theorem Re.counts_none (q : Int → Bool) : ∀ (xs : List Re), (∀ a, a ∈ xs → a.count q = 0) → Re.counts q xs = 0
  | [], _ => by simp [Re.counts]
  | t :: ts, h => by
    have h1 := h t (by simp)
    have h2 := Re.counts_none q ts (fun a ha => h a (by simp [ha]))
    simp only [Re.counts]
    omega
theorem Re.bare_groups (t : Re) (h : t.typed = true) : t.bare.groups = 0 := by
  refine Re.bare_ind (M := fun y _ => y.groups = 0) (fun _ _ _ _ _ h => h) (fun p xs h6 ht hx => ?_) t h
  have h1 := Re.counts_none (· == 6) (xs.map Re.bare) (fun a ha => by
    obtain ⟨b, hb, rfl⟩ := List.mem_map.1 ha
    exact hx b hb)
  have h2 : (p.op == 6) = false := by simpa using h6
  simp only [Re.groups, Re.count, h1, h2]
  rfl
theorem Re.levelss_map : ∀ (xs : List Re), (∀ a, a ∈ xs → a.bare.levels ≤ a.levels) → Re.levelss (xs.map Re.bare) ≤ Re.levelss xs
  | [], _ => by simp [Re.levelss]
  | t :: ts, h => by
    have h1 := h t (by simp)
    have h2 := Re.levelss_map ts (fun a ha => h a (by simp [ha]))
    simp only [List.map_cons, Re.levelss]
    omega
theorem Re.bare_levels (t : Re) (h : t.typed = true) : t.bare.levels ≤ t.levels := by
  refine Re.bare_ind (M := fun y x => y.levels ≤ x.levels) (fun p x y _ _ h => ?_) (fun p xs _ ht hx => ?_) t h
  · rw [Re.levels]; simp only [Re.levelss]; omega
  · have := Re.levelss_map xs hx
    rw [Re.levels, Re.levels]; omega
mutual
theorem Re.ranged_bare : ∀ (t : Re) (b : Nat), t.okr = true → t.groups = 0 → t.ranged b = some b
  | .mk p xs, b, h, hg => by
    rw [Re.okr, Bool.and_eq_true, decide_eq_true_eq] at h
    simp only [Re.groups, Re.count] at hg
    have h6 : ¬ p.op = 6 := fun e => by simp [e] at hg
    rw [Re.ranged, if_neg (fun k => by rw [h.1 k.1] at k; exact absurd k.2 (by simp)), if_neg h6]
    exact Re.rangeds_bare xs b h.2 (by omega)
theorem Re.rangeds_bare : ∀ (xs : List Re) (b : Nat), Re.okrs xs = true → Re.counts (· == 6) xs = 0 → Re.rangeds xs b = some b
  | [], b, _, _ => by rw [Re.rangeds]
  | t :: ts, b, h, hg => by
    rw [Re.okrs, Bool.and_eq_true] at h
    simp only [Re.counts] at hg
    rw [Re.rangeds, Re.ranged_bare t b h.1 (by unfold Re.groups; omega)]
    exact Re.rangeds_bare ts b h.2 (by omega)
end
mutual
theorem Re.named_bare : ∀ (t : Re) (l : List Int), t.groups = 0 → t.backs = 0 → t.named l = some l
  | .mk p xs, l, hg, hb => by
    simp only [Re.groups, Re.backs, Re.count] at hg hb
    have h6 : ¬ p.op = 6 := fun e => by simp [e] at hg
    have h9 : ¬ p.op = 9 := fun e => by simp [e] at hb
    rw [Re.named, if_neg (fun k => h9 k.1), Re.nameds_bare xs l (by omega) (by omega)]
    simp only []
    rw [if_neg h6]
theorem Re.nameds_bare : ∀ (xs : List Re) (l : List Int), Re.counts (· == 6) xs = 0 → Re.counts (· == 9) xs = 0 → Re.nameds xs l = some l
  | [], l, _, _ => by rw [Re.nameds]
  | t :: ts, l, hg, hb => by
    simp only [Re.counts] at hg hb
    rw [Re.nameds, Re.named_bare t l (by unfold Re.groups; omega) (by unfold Re.backs; omega)]
    exact Re.nameds_bare ts l (by omega) (by omega)
end
theorem Re.err_bare {t : Re} (h : t.err = 0) (hb : ¬ 0 < t.backs) : t.bare.err = 0 := by
  unfold Re.err at h
  split at h
  · cases h
  rename_i h1
  split at h
  · cases h
  rename_i h2
  split at h
  · cases h
  split at h
  · cases h
  rename_i h4
  have ht : t.typed = true := by simpa using h1
  have hk := Re.bare_okr t ht (Re.ranged_okr t 0 (by cases hx : t.ranged 0 with | none => simp [hx] at h2 | some n => rfl))
  have hg := Re.bare_groups t ht
  have h9 : t.bare.backs ≤ t.backs := Re.bare_count (· == 9) t ht
  have hs : t.bare.size ≤ t.size := Re.bare_count (fun _ => true) t ht
  have hl := Re.bare_levels t ht
  unfold Re.err
  rw [if_neg (by rw [Re.bare_typed t ht]; simp), if_neg (by rw [Re.ranged_bare _ _ hk hg]; simp), if_neg (by rw [Re.named_bare _ _ hg (by omega)]; simp), if_neg (by omega)]

theorem weightL_mono {n m lo hi : Int} (h : n ≤ m) (h0 : 0 ≤ lo) (h1 : hi = -1 ∨ lo ≤ hi) : weightL n lo hi ≤ weightL m lo hi := by
  have e1 := Int.mul_le_mul_of_nonneg_left h h0
  unfold weightL
  split
  · omega
  split
  · omega
  split
  · omega
  split
  · omega
  split
  · omega
  have e2 : (hi - lo) * (n + 1) ≤ (hi - lo) * (m + 1) := Int.mul_le_mul_of_nonneg_left (by omega) (by omega)
  omega
theorem Re.weighs_bare : ∀ (xs : List Re) (n m : Int), n ≤ m → (∀ a, a ∈ xs → a.bare.weigh ≤ a.weigh) → Re.weighs (xs.map Re.bare) n ≤ Re.weighs xs m
  | [], n, m, h, _ => by simpa [Re.weighs] using h
  | t :: ts, n, m, h, k => by
    have h1 := k t (by simp)
    simp only [List.map_cons, Re.weighs]
    exact Re.weighs_bare ts _ _ (by omega) (fun a ha => k a (by simp [ha]))
theorem Re.bare_weigh (t : Re) (h : t.typed = true) : t.okr = true → t.bare.weigh ≤ t.weigh := by
  refine Re.bare_ind (M := fun y x => x.okr = true → y.weigh ≤ x.weigh) (fun p x y h6 _ h k => ?_) (fun p xs _ ht hx k => ?_) t h
  · rw [Re.okr, Bool.and_eq_true] at k
    have kx := (Re.okrs_all _).1 k.2 x (by simp)
    have h1 := h kx
    have h2 := Re.weigh_bd x kx
    rw [Re.weigh, if_neg (by omega)]
    simp only [Re.weighs]
    omega
  · rw [Re.okr, Bool.and_eq_true, decide_eq_true_eq] at k
    have h1 := Re.weighs_bare xs 0 0 (by omega) (fun a ha => hx a ha ((Re.okrs_all _).1 k.2 a ha))
    rw [Re.weigh, Re.weigh]
    by_cases h5 : p.op = 5
    · rw [if_pos h5, if_pos h5]
      have hb := Pay.badRep_false (k.1 h5)
      have := weightL_mono (lo := p.lo) (hi := p.hi) h1 hb.1.1 (by omega)
      omega
    · rw [if_neg h5, if_neg h5]
      omega

/-- Two trees of the same code. -/
def CodeEq (a b : Re) : Prop := a.csize = b.csize ∧ ∀ n, a.gen n = b.gen n
def CodeEqs : List Re → List Re → Prop
  | [], [] => True
  | a :: l, b :: m => CodeEq a b ∧ CodeEqs l m
  | _, _ => False
theorem CodeEq.rfl' (a : Re) : CodeEq a a := ⟨rfl, fun _ => rfl⟩
theorem CodeEqs.one {a b : Re} (h : CodeEq a b) : CodeEqs [a] [b] := ⟨h, trivial⟩
theorem CodeEqs.rep {a b : Re} (h : CodeEq a b) : ∀ n, CodeEqs (List.replicate n a) (List.replicate n b)
  | 0 => trivial
  | n + 1 => ⟨h, CodeEqs.rep h n⟩
theorem CodeEqs.app : ∀ {a b c d : List Re}, CodeEqs a b → CodeEqs c d → CodeEqs (a ++ c) (b ++ d)
  | [], [], _, _, _, h => h
  | _ :: _, _ :: _, _, _, h, k => ⟨h.1, CodeEqs.app h.2 k⟩
  | [], _ :: _, _, _, h, _ => h.elim
  | _ :: _, [], _, _, h, _ => h.elim
theorem CodeEqs.map (f g : Re → Re) : ∀ (xs : List Re), (∀ a, a ∈ xs → CodeEq (f a) (g a)) → CodeEqs (xs.map f) (xs.map g)
  | [], _ => trivial
  | t :: ts, h => ⟨h t (by simp), CodeEqs.map f g ts (fun a ha => h a (by simp [ha]))⟩
theorem CodeEqs.sizes : ∀ {a b : List Re}, CodeEqs a b → Re.csizes a = Re.csizes b ∧ ∀ n, Re.gens a n = Re.gens b n
  | [], [], _ => ⟨rfl, fun _ => rfl⟩
  | a :: l, b :: m, h => by
    have h2 := CodeEqs.sizes h.2
    refine ⟨by rw [Re.csizes, Re.csizes, h.1.1, h2.1], fun n => by rw [Re.gens, Re.gens, h.1.2, h.1.1, h2.2]⟩
  | [], _ :: _, h => h.elim
  | _ :: _, [], h => h.elim
theorem CodeEqs.alts : ∀ {a b : List Re}, CodeEqs a b → a.isEmpty = b.isEmpty ∧ Re.asize a = Re.asize b ∧ ∀ n fin, Re.galt a n fin = Re.galt b n fin
  | [], [], _ => ⟨rfl, rfl, fun _ _ => rfl⟩
  | a :: l, b :: m, h => by
    have h2 := CodeEqs.alts h.2
    refine ⟨rfl, by rw [Re.asize, Re.asize, h.1.1, h2.1, h2.2.1], fun n fin => by rw [Re.galt, Re.galt, h2.1, h.1.2, h.1.2, h.1.1, h2.2.2]⟩
  | [], _ :: _, h => h.elim
  | _ :: _, [], h => h.elim
theorem CodeEqs.mk {a b : List Re} (h : CodeEqs a b) (p : Pay) : CodeEq (.mk p a) (.mk p b) := by
  have h1 := CodeEqs.sizes h
  have h2 := CodeEqs.alts h
  refine ⟨by rw [Re.csize, Re.csize, h1.1, h2.2.1], fun n => ?_⟩
  rw [Re.gen, Re.gen, h1.1, h2.2.1, h2.2.2, h1.2, h1.2]
theorem CodeEq.counted {a b : Re} (h : CodeEq a b) (lo hi : Int) : CodeEq (a.counted lo hi) (b.counted lo hi) := by
  unfold Re.counted
  split
  · exact CodeEqs.mk (CodeEqs.one h) _
  split
  · exact CodeEq.rfl' _
  split
  · exact h
  split
  · exact CodeEqs.mk (CodeEqs.rep h _) _
  split
  · exact CodeEqs.mk (CodeEqs.app (CodeEqs.rep h _) (CodeEqs.one (CodeEqs.mk (CodeEqs.one h) _))) _
  · exact CodeEqs.mk (CodeEqs.app (CodeEqs.rep h _) (CodeEqs.rep (CodeEqs.mk (CodeEqs.one h) _) _)) _
theorem Re.bare_code (t : Re) (h : t.typed = true) : CodeEq t.bare.expand t.expand := by
  refine Re.bare_ind (M := fun y x => CodeEq y.expand x.expand) (fun p x y h6 _ h => ?_) (fun p xs _ ht hx => ?_) t h
  · have e : (Re.mk p [x]).expand = .mk p [x.expand] := by
      rw [Re.expand, if_neg (by omega), if_neg (by omega), Re.expands, Re.expands]
    rw [e]
    refine ⟨?_, fun n => ?_⟩
    · rw [Re.csize, if_neg (by omega), if_neg (by omega), if_neg (by omega), Re.csizes, Re.csizes, Nat.add_zero]
      exact h.1
    · rw [Re.gen, if_neg (by omega), if_neg (by omega), if_neg (by omega), if_neg (by omega), if_neg (by omega), Re.gens, Re.gens, List.append_nil]
      exact h.2 n
  · by_cases h5 : p.op = 5
    · obtain ⟨x, rfl⟩ := Re.rep_kid ht h5
      rw [Re.expand, Re.expand]
      by_cases h0 : p.op = 5 ∧ p.hi = 0
      · rw [if_pos h0, if_pos h0]
        exact CodeEq.rfl' _
      · rw [if_neg h0, if_neg h0, if_pos h5, if_pos h5]
        simp only [List.map_cons, Re.expands, List.headD_cons]
        exact (hx x (by simp)).counted _ _
    · rw [Re.expand, Re.expand, if_neg (fun h => h5 h.1), if_neg h5, if_neg (fun h => h5 h.1), if_neg h5, Re.expands_map, Re.expands_map, List.map_map]
      exact CodeEqs.mk (CodeEqs.map _ _ xs hx) p
theorem Re.err_typed {t : Re} (h : t.err = 0) : t.typed = true ∧ t.okr = true := by
  unfold Re.err at h
  split at h
  · cases h
  rename_i h1
  split at h
  · cases h
  rename_i h2
  exact ⟨by simpa using h1, Re.ranged_okr t 0 (by cases hx : t.ranged 0 with | none => simp [hx] at h2 | some n => rfl)⟩
/-- A tree that is compiled has the same code without its groups. -/
theorem Re.compiled_bare {t : Re} (h : t.compiled.2 = 0) : t.bare.compiled = t.compiled := by
  obtain ⟨h0, h1, -, h3, h4⟩ := Re.compiled_zero h
  obtain ⟨ht, hk⟩ := Re.err_typed h0
  have hb := Re.err_bare h0 h4
  have h9 : t.bare.backs ≤ t.backs := Re.bare_count (· == 9) t ht
  have hw : ¬ 4096 < t.weigh := fun hw => by rw [Re.expandR_much h0 hw] at h1; cases h1
  have hw2 : ¬ 4096 < t.bare.weigh := by have := Re.bare_weigh t ht hk; omega
  have e1 := Re.expandR_ok h0 hw
  have e2 := Re.expandR_ok hb hw2
  have hc := Re.bare_code t ht
  rw [e1] at h3
  have h3' : t.expand.csize + 1 ≤ 4096 := h3
  have hs := hc.1
  rw [Re.compiled_ok h0 h4 h1 (by rw [e1]; show ¬ 4096 < t.expand.csize + 1; omega), Re.compiled_ok hb (by omega) (by rw [e2]) (by rw [e2]; show ¬ 4096 < t.bare.expand.csize + 1; omega), e1, e2]
  show (t.bare.expand.gen 0 ++ _, _) = (t.expand.gen 0 ++ _, _)
  rw [hc.2 0]
/-- The size does not grow. -/
theorem Re.bare_size : ∀ t : Re, t.bare.size ≤ t.size := by
  intro t
  induction t using Re.ind with
  | h p xs ih =>
    by_cases h6 : p.op = 6 ∧ xs.length = 1
    · obtain ⟨h6, hl⟩ := h6
      match xs, hl with
      | [x], _ =>
        have := ih x (by simp)
        rw [Re.bare_one h6, Re.size_mk]
        have e : Re.sizes [x] = x.size := by simp [Re.sizes, Re.counts, Re.size]
        omega
    · rw [Re.bare_many h6, Re.size_mk, Re.size_mk]
      have := Re.counts_map (fun _ => true) xs ih
      simp only [Re.sizes]
      omega
end Go.Proofs.Ytnlaffhkcdfkjaa
