/- Strings that a tree gives have the lengths and the first byte that are known of it: the plain law. No program. -/
import Derived.Test.YtibfnmkeghkdpaaKeepLaw
import Derived.Test.YtibfnmkeghkdpaaCs
namespace Go.Proofs.Ytibfnmkeghkdpaa
open Go.RowKit

mutual
/-- What is known of a tree, where G is known of the groups. -/
def Re.fac (G : Int → Option Facts) : Re → Facts
  | .mk p xs => (p.learn (Re.facs G xs) G).1
def Re.facs (G : Int → Option Facts) : List Re → List Facts
  | [] => []
  | t :: ts => t.fac G :: Re.facs G ts
end
mutual
/-- G is what is known of the groups of the tree. -/
def Re.okG (G : Int → Option Facts) : Re → Prop
  | .mk p xs => (p.op = 6 → G p.gr = some ((Re.facs G xs).headD Facts.zero)) ∧ Re.okGs G xs
def Re.okGs (G : Int → Option Facts) : List Re → Prop
  | [] => True
  | t :: ts => t.okG G ∧ Re.okGs G ts
end
theorem Re.facs_map (G : Int → Option Facts) : ∀ (xs : List Re), Re.facs G xs = xs.map (Re.fac G)
  | [] => by rw [Re.facs]; rfl
  | t :: ts => by rw [Re.facs, Re.facs_map G ts]; rfl
theorem Re.okGs_get {G : Int → Option Facts} : ∀ (xs : List Re), Re.okGs G xs → ∀ k (hk : k < xs.length), xs[k].okG G
  | [], _, k, hk => by simp at hk
  | t :: ts, h, 0, hk => by rw [Re.okGs] at h; exact h.1
  | t :: ts, h, k + 1, hk => by rw [Re.okGs] at h; exact Re.okGs_get ts h.2 k (by simpa using hk)
mutual
theorem Re.fac_len {G : Int → Option Facts} (hG : GLen G) : ∀ (t : Re), FLen (t.fac G)
  | .mk p xs => by rw [Re.fac]; exact (Pay.learn_len p _ _ (Re.facs_len hG xs) hG).1
theorem Re.facs_len {G : Int → Option Facts} (hG : GLen G) : ∀ (xs : List Re), ∀ f, f ∈ Re.facs G xs → FLen f
  | [], f, hf => by rw [Re.facs] at hf; cases hf
  | t :: ts, f, hf => by
    rw [Re.facs] at hf
    rcases List.mem_cons.1 hf with hf | hf
    · rw [hf]; exact Re.fac_len hG t
    · exact Re.facs_len hG ts f hf
end
mutual
theorem Re.fac_least {G : Int → Option Facts} (hG : GLe G) : ∀ (t : Re), t.okr = true → 0 ≤ (t.fac G).least
  | .mk p xs, hok => by
    rw [Re.okr, Bool.and_eq_true, decide_eq_true_eq] at hok
    rw [Re.fac]
    exact (Pay.learn_least p (fun h5 => (Pay.badRep_false (hok.1 h5)).1.1) _ _ (Re.facs_least hG xs hok.2) hG).1
theorem Re.facs_least {G : Int → Option Facts} (hG : GLe G) : ∀ (xs : List Re), Re.okrs xs = true → ∀ f, f ∈ Re.facs G xs → 0 ≤ f.least
  | [], _, f, hf => by rw [Re.facs] at hf; cases hf
  | t :: ts, hok, f, hf => by
    rw [Re.okrs, Bool.and_eq_true] at hok
    rw [Re.facs] at hf
    rcases List.mem_cons.1 hf with hf | hf
    · rw [hf]; exact Re.fac_least hG t hok.1
    · exact Re.facs_least hG ts hok.2 f hf
end
mutual
theorem Re.named_range : ∀ (t : Re) (b n : Nat) (l l' : List Int), t.ranged b = some n → t.named l = some l' → (∀ k, k ∈ l → k ∈ l') ∧ ∀ k, k ∈ l' → k ∈ l ∨ ((b : Int) < k ∧ k ≤ n)
  | .mk p xs, b, n, l, l', h1, h2 => by
    rw [Re.ranged] at h1
    rw [Re.named] at h2
    split at h1
    · cases h1
    split at h2
    · cases h2
    cases hx : Re.nameds xs l with
    | none => rw [hx] at h2; cases h2
    | some lm =>
      rw [hx] at h2
      dsimp only at h2
      by_cases h6 : p.op = 6
      · rw [if_pos h6] at h1 h2
        split at h1
        · rename_i hg
          have hgr := Re.rangeds_groups xs _ _ h1
          have q := Re.nameds_range xs (b + 1) n l lm h1 hx
          rw [← Option.some.inj h2]
          refine ⟨fun k hk => List.mem_append.2 (.inl (q.1 k hk)), fun k hk => ?_⟩
          rcases List.mem_append.1 hk with hk | hk
          · rcases q.2 k hk with h | h
            · exact .inl h
            · exact .inr (by omega)
          · rw [List.mem_singleton.1 hk]; exact .inr (by omega)
        · cases h1
      · rw [if_neg h6] at h1 h2
        rw [← Option.some.inj h2]
        exact Re.nameds_range xs b n l lm h1 hx
theorem Re.nameds_range : ∀ (xs : List Re) (b n : Nat) (l l' : List Int), Re.rangeds xs b = some n → Re.nameds xs l = some l' → (∀ k, k ∈ l → k ∈ l') ∧ ∀ k, k ∈ l' → k ∈ l ∨ ((b : Int) < k ∧ k ≤ n)
  | [], b, n, l, l', _, h2 => by
    rw [Re.nameds] at h2
    rw [← Option.some.inj h2]
    exact ⟨fun k hk => hk, fun k hk => .inl hk⟩
  | t :: ts, b, n, l, l', h1, h2 => by
    rw [Re.rangeds] at h1
    rw [Re.nameds] at h2
    cases hx : t.ranged b with
    | none => rw [hx] at h1; cases h1
    | some m =>
      cases hy : t.named l with
      | none => rw [hy] at h2; cases h2
      | some lm =>
        rw [hx] at h1
        rw [hy] at h2
        have g1 := Re.ranged_groups t b m hx
        have g2 := Re.rangeds_groups ts m n h1
        have q := Re.named_range t b m l lm hx hy
        have r := Re.nameds_range ts m n lm l' h1 h2
        refine ⟨fun k hk => r.1 k (q.1 k hk), fun k hk => ?_⟩
        rcases r.2 k hk with h | h
        · rcases q.2 k h with h | h
          · exact .inl h
          · exact .inr (by omega)
        · exact .inr (by omega)
end
mutual
theorem Re.fac_of : ∀ (t : Re) (b n : Nat) (l l' : List Int) (g G : Int → Option Facts), t.typed = true → t.ranged b = some n → t.named l = some l' → (∀ k, k ∈ l → k ≤ (b : Int)) → (∀ k, k ∈ l' → G k = (t.learn g).2 k) → (t.learn g).1 = t.fac G ∧ t.okG G
  | .mk p xs, b, n, l, l', g, G, ht, h1, h2, hl, hG => by
    have hty : Re.typeds xs = true := by have := ht; rw [Re.typed, Bool.and_eq_true] at this; exact this.2
    have hT := ht
    rw [Re.ranged] at h1
    rw [Re.named] at h2
    split at h1
    · cases h1
    split at h2
    · cases h2
    rename_i c5 c9
    rw [Re.learn] at hG ⊢
    rw [Re.fac, Re.okG]
    cases hx : Re.nameds xs l with
    | none => rw [hx] at h2; cases h2
    | some lm =>
      rw [hx] at h2
      dsimp only at h2
      by_cases h6 : p.op = 6
      · rw [if_pos h6] at h1 h2
        split at h1
        · rename_i hg
          have q := Re.nameds_range xs (b + 1) n l lm h1 hx
          rw [Pay.learn_six h6] at hG ⊢
          rw [Pay.learn_six h6]
          have r := Re.facs_of xs (b + 1) n l lm g G hty h1 hx (fun k hk => by have := hl k hk; omega) (fun k hk => by
            have e := hG k (by rw [← Option.some.inj h2]; exact List.mem_append.2 (.inl hk))
            have hne : ¬ k = p.gr := by
              rcases q.2 k hk with h | h
              · have := hl k h; omega
              · omega
            rw [e]
            show (if k = p.gr then _ else _) = _
            rw [if_neg hne])
          have e := hG p.gr (by rw [← Option.some.inj h2]; exact List.mem_append.2 (.inr (List.mem_singleton.2 rfl)))
          rw [r.1] at e
          refine ⟨by rw [r.1], fun _ => ?_, r.2⟩
          rw [e]
          show (if p.gr = p.gr then _ else _) = _
          rw [if_pos rfl]
        · cases h1
      · rw [if_neg h6] at h1 h2
        have e3 : lm = l' := Option.some.inj h2
        subst e3
        have r := Re.facs_of xs b n l lm g G hty h1 hx hl (fun k hk => by rw [hG k hk, Pay.learn_rest h6])
        rw [r.1]
        refine ⟨Pay.learn_same h6 _ _ _ fun h9 => ?_, fun h => absurd h h6, r.2⟩
        have hm : p.gr ∈ l := Classical.byContradiction fun k => c9 ⟨h9, k⟩
        rw [hG p.gr ((Re.nameds_range xs b n l lm h1 hx).1 _ hm), Pay.learn_rest h6]
theorem Re.facs_of : ∀ (xs : List Re) (b n : Nat) (l l' : List Int) (g G : Int → Option Facts), Re.typeds xs = true → Re.rangeds xs b = some n → Re.nameds xs l = some l' → (∀ k, k ∈ l → k ≤ (b : Int)) → (∀ k, k ∈ l' → G k = (Re.learns xs g).2 k) → (Re.learns xs g).1 = Re.facs G xs ∧ Re.okGs G xs
  | [], b, n, l, l', g, G, _, _, _, _, _ => by rw [Re.learns, Re.facs, Re.okGs]; exact ⟨rfl, trivial⟩
  | t :: ts, b, n, l, l', g, G, ht, h1, h2, hl, hG => by
    rw [Re.typeds, Bool.and_eq_true] at ht
    rw [Re.rangeds] at h1
    rw [Re.nameds] at h2
    rw [Re.learns] at hG ⊢
    rw [Re.facs, Re.okGs]
    cases hx : t.ranged b with
    | none => rw [hx] at h1; cases h1
    | some m =>
      cases hy : t.named l with
      | none => rw [hy] at h2; cases h2
      | some lm =>
        rw [hx] at h1
        rw [hy] at h2
        have g1 := Re.ranged_groups t b m hx
        have q0 := Re.named_range t b m l lm hx hy
        have r0 := Re.nameds_range ts m n lm l' h1 h2
        have hlm : ∀ k, k ∈ lm → k ≤ (m : Int) := fun k hk => by
          rcases q0.2 k hk with h | h
          · have := hl k h; omega
          · omega
        have q := Re.fac_of t b m l lm g G ht.1 hx hy hl (fun k hk => by
          rw [hG k (r0.1 k hk)]
          exact Re.learns_out ts m n _ h1 k (hlm k hk))
        have r := Re.facs_of ts m n lm l' (t.learn g).2 G ht.2 h1 h2 hlm hG
        exact ⟨by rw [q.1]; show _ :: _ = _; rw [r.1], q.2, r.2⟩
end
/-- What a valid tree's groups are known to be. -/
def Re.gmap (t : Re) : Int → Option Facts := (t.learn fun _ => none).2
structure GOk (G : Int → Option Facts) : Prop where
  len : GLen G
  least : GLe G
theorem Re.gmap_ok {t : Re} (h : t.err = 0) : GOk t.gmap ∧ t.facts = t.fac t.gmap ∧ t.okG t.gmap ∧ t.okr = true := by
  obtain ⟨h1, _, h3, h4, _⟩ := Re.err_zero h
  obtain ⟨n, hn⟩ := Option.isSome_iff_exists.1 h3
  obtain ⟨l, hl⟩ := Option.isSome_iff_exists.1 h4
  have hok := Re.ranged_okr t 0 h3
  have q := Re.fac_of t 0 n [] l (fun _ => none) t.gmap h1 hn hl (fun k hk => by cases hk) (fun k _ => rfl)
  refine ⟨⟨(Re.learn_len t _ (fun k f hf => by cases hf)).2, (Re.learn_least t _ hok (fun k f hf => by cases hf)).2⟩, ?_, q.2, hok⟩
  rw [Re.facts_some h]
  exact q.1

/-- The string is one that the facts allow. -/
structure Fit (f : Facts) (s : List UInt8) : Prop where
  least : f.least ≤ s.length
  most : f.most < 0 ∨ (s.length : Int) ≤ f.most
  null : s = [] → f.null = true
  first : ∀ c r, s = c :: r → f.first.has c.toNat = true
theorem Fit.empty : Fit Facts.empty [] := ⟨Int.le_refl 0, .inr (Int.le_refl 0), fun _ => rfl, fun c r h => by cases h⟩
theorem Fit.zero_len {s : List UInt8} (h : Fit Facts.empty s) : s = [] := by
  have h1 := h.most
  have h2 : (s.length : Int) ≤ 0 := by
    rcases h1 with h1 | h1
    · exact absurd h1 (by decide)
    · exact h1
  cases s with
  | nil => rfl
  | cons c r => simp at h2; omega
theorem Fit.set {s : Cs} {c : UInt8} (h : s.has c.toNat = true) : Fit ⟨false, 1, 1, s⟩ [c] :=
  ⟨by simp, .inr (by simp), fun e => (by cases e), fun c' r e => by injection e with e1 e2; rw [← e1]; exact h⟩
theorem Fit.cat {A B : Facts} {s u : List UInt8} (hA : Fit A s) (hB : Fit B u) (h1 : 0 ≤ A.least) (h2 : 0 ≤ B.least) (h3 : s.length + u.length ≤ 2147483647) : Fit (A.cat B) (s ++ u) := by
  have a1 := hA.least
  have a2 := hA.most
  have b1 := hB.least
  have b2 := hB.most
  refine ⟨?_, ?_, fun e => ?_, fun c r e => ?_⟩
  · show lsum A.least B.least ≤ _
    rw [List.length_append]
    unfold lsum
    rw [if_neg (by omega)]
    omega
  · show lsum A.most B.most < 0 ∨ _ ≤ lsum A.most B.most
    rw [List.length_append]
    unfold lsum
    split
    · exact .inl (by decide)
    · exact .inr (by omega)
  · obtain ⟨e1, e2⟩ := List.append_eq_nil_iff.1 e
    show (A.null && B.null) = true
    rw [hA.null e1, hB.null e2]; rfl
  · show (if A.null then A.first.union B.first else A.first).has c.toNat = true
    cases s with
    | nil =>
      rw [hA.null rfl, if_pos rfl, Cs.has_union, hB.first c r (by simpa using e)]
      simp
    | cons c' r' =>
      simp only [List.cons_append] at e
      injection e with e1 e2
      have := hA.first c' r' rfl
      rw [e1] at this
      split
      · rw [Cs.has_union, this]; rfl
      · exact this
theorem Fit.alt1 {A B : Facts} {s : List UInt8} (h : Fit A s) : Fit (A.alt B) s := by
  refine ⟨?_, ?_, fun e => ?_, fun c r e => ?_⟩
  · have := h.least; show min A.least B.least ≤ _; omega
  · have := h.most
    show (if A.most < 0 ∨ B.most < 0 then (-1 : Int) else max A.most B.most) < 0 ∨ _ ≤ (if A.most < 0 ∨ B.most < 0 then (-1 : Int) else max A.most B.most)
    split <;> omega
  · show (A.null || B.null) = true; rw [h.null e]; rfl
  · show (A.first.union B.first).has _ = true; rw [Cs.has_union, h.first c r e]; rfl
theorem Fit.alt2 {A B : Facts} {s : List UInt8} (h : Fit B s) : Fit (A.alt B) s := by
  refine ⟨?_, ?_, fun e => ?_, fun c r e => ?_⟩
  · have := h.least; show min A.least B.least ≤ _; omega
  · have := h.most
    show (if A.most < 0 ∨ B.most < 0 then (-1 : Int) else max A.most B.most) < 0 ∨ _ ≤ (if A.most < 0 ∨ B.most < 0 then (-1 : Int) else max A.most B.most)
    split <;> omega
  · show (A.null || B.null) = true; rw [h.null e]; simp
  · show (A.first.union B.first).has _ = true; rw [Cs.has_union, h.first c r e]; simp
theorem Fit.fold1 {s : List UInt8} : ∀ (l : List Facts) (a : Facts), Fit a s → Fit (l.foldl Facts.alt a) s
  | [], _, h => h
  | _ :: l, _, h => Fit.fold1 l _ h.alt1
theorem Fit.fold2 {s : List UInt8} : ∀ (l : List Facts) (a f : Facts), f ∈ l → Fit f s → Fit (l.foldl Facts.alt a) s
  | b :: l, a, f, hf, h => by
    rcases List.mem_cons.1 hf with e | e
    · exact Fit.fold1 l _ (by rw [← e]; exact h.alt2)
    · exact Fit.fold2 l _ f e h
theorem Fit.alts {s : List UInt8} {l : List Facts} {f : Facts} (hf : f ∈ l) (h : Fit f s) : Fit (Facts.alts l) s := by
  match l, hf with
  | b :: l, hf =>
    rcases List.mem_cons.1 hf with e | e
    · exact Fit.fold1 l b (by rw [← e]; exact h)
    · exact Fit.fold2 l b f e h
theorem cat_begin {f : Facts} (h : FLen f) : Facts.empty.cat f = f := by
  obtain ⟨n, l, m, s⟩ := f
  obtain ⟨⟨h1, h2⟩, h3, h4⟩ := h
  unfold Facts.cat Facts.empty
  simp only [Bool.true_and, if_true]
  congr 1
  · unfold lsum; simp only at *; split <;> omega
  · unfold lsum; simp only at *; split <;> omega
  · obtain ⟨a, b, c, d⟩ := s
    simp [Cs.union, Cs.none]
theorem cats_begin {l : List Facts} (hn : l ≠ []) (h : ∀ f, f ∈ l → FLen f) : l.foldl Facts.cat Facts.empty = Facts.cats l := by
  cases l with
  | nil => exact absurd rfl hn
  | cons f l => rw [List.foldl_cons, cat_begin (h f (by simp))]; rfl
theorem ltimes_mono {a : Int} (h : 0 ≤ a) {m n : Int} (h1 : 0 ≤ m) (h2 : m ≤ n) : ltimes a m ≤ ltimes a n := by
  rcases (by omega : a = 0 ∨ 0 < a) with h0 | h0
  · subst h0; simp [ltimes]
  · have e := Int.mul_le_mul_of_nonneg_left h2 h
    have e1 := Int.mul_nonneg h h1
    unfold ltimes
    split
    · split
      · omega
      · rw [if_neg (by omega)]; omega
    · rw [if_neg (by omega), if_neg (by omega), if_neg (by omega)]
      omega
/-- n copies are what a repetition allows. -/
theorem Fit.rep {f : Facts} {s : List UInt8} {n : Nat} {lo hi : Int} (h : Fit ((List.replicate n f).foldl Facts.cat Facts.empty) s) (hf : FLen f) (hl : 0 ≤ f.least) (h0 : 0 ≤ lo) (h1 : lo ≤ n) (h2 : hi = -1 ∨ (n : Int) ≤ hi) : Fit (f.rep lo hi) s := by
  cases n with
  | zero =>
    have hs := Fit.zero_len h
    subst hs
    have hlo : lo = 0 := by omega
    subst hlo
    refine ⟨?_, ?_, fun _ => rfl, fun c r e => by cases e⟩
    · show ltimes f.least 0 ≤ 0; rw [ltimes_zero]; exact Int.le_refl 0
    · have h3 := hf.2.ltimes (n := hi)
      show ltimes f.most hi < 0 ∨ ((0 : Nat) : Int) ≤ ltimes f.most hi
      omega
  | succ n =>
    have hr : FLen f := hf
    rw [cats_begin (by simp) (fun a ha => by rw [(List.mem_replicate.1 ha).2]; exact hr)] at h
    have e := Facts.cats_st hf (n + 1) 0 (by omega)
    rw [List.replicate_zero, List.append_nil] at e
    rw [e] at h
    have a1 := h.least
    have a2 := h.most
    refine ⟨?_, ?_, fun e => ?_, fun c r e => ?_⟩
    · have := ltimes_mono hl h0 h1
      have a1' : ltimes f.least ((n + 1 : Nat) : Int) ≤ s.length := a1
      show ltimes f.least lo ≤ _
      omega
    · have a2' : ltimes f.most ((n + 1 + 0 : Nat) : Int) < 0 ∨ (s.length : Int) ≤ ltimes f.most ((n + 1 + 0 : Nat) : Int) := a2
      rw [Nat.add_zero] at a2'
      show ltimes f.most hi < 0 ∨ _ ≤ ltimes f.most hi
      rcases (by omega : f.most < 0 ∨ 0 ≤ f.most) with hm | hm
      · left
        unfold ltimes
        rw [if_neg (by omega), if_pos (by omega)]
        decide
      · rcases h2 with h2 | h2
        · by_cases hz : f.most = 0
          · right
            rw [hz] at a2' ⊢
            simp only [ltimes, true_or, if_true] at a2' ⊢
            omega
          · left
            unfold ltimes
            rw [if_neg (by omega), if_pos (by omega)]
            decide
        · right
          have := ltimes_mono hm (by omega : (0 : Int) ≤ ((n + 1 : Nat) : Int)) h2
          have h9 : 0 ≤ ltimes f.most ((n + 1 : Nat) : Int) := by
            have := ltimes_mono hm (Int.le_refl 0) (by omega : (0 : Int) ≤ ((n + 1 : Nat) : Int))
            rw [ltimes_zero] at this
            exact this
          omega
    · have := h.null e
      show (decide (lo = 0) || f.null) = true
      have h3 : (decide (n + 1 = 0) || f.null) = true := this
      simp at h3
      rw [h3]; simp
    · have := h.first c r e
      show (if hi = 0 then Cs.none else f.first).has _ = true
      rw [if_neg (by omega)]
      exact this
end Go.Proofs.Ytibfnmkeghkdpaa
