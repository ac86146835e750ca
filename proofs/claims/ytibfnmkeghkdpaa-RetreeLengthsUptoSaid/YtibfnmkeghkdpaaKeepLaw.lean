/- Expanding a tree leaves only simple repetitions, changes nothing where there are no others, and keeps what is known of the tree: the plain law. No program. -/
import Derived.Test.YtibfnmkeghkdpaaCompLaw
import Derived.Test.YtibfnmkeghkdpaaExpand
namespace Go.Proofs.Ytibfnmkeghkdpaa
open Go.RowKit

mutual
/-- Only the repetitions that stay. -/
def Re.plain : Re → Bool
  | .mk p xs => decide (p.op = 5 → (p.lo = 0 ∧ p.hi = 1) ∨ ((p.lo = 0 ∨ p.lo = 1) ∧ p.hi = -1)) && Re.plains xs
def Re.plains : List Re → Bool
  | [] => true
  | t :: ts => t.plain && Re.plains ts
end
theorem Re.plains_iff : ∀ (xs : List Re), Re.plains xs = true ↔ ∀ a, a ∈ xs → a.plain = true
  | [] => by simp [Re.plains]
  | t :: ts => by simp [Re.plains, Re.plains_iff ts]
theorem Re.rept_plain {x : Re} {lo hi : Int} (hx : x.plain = true) (h : (lo = 0 ∧ hi = 1) ∨ ((lo = 0 ∨ lo = 1) ∧ hi = -1)) : (x.rept lo hi).plain = true := by
  rw [Re.rept, Re.plain, (Re.plains_iff [x]).2 (fun a ha => by rw [List.mem_singleton.1 ha]; exact hx)]
  simp only [Bool.and_true, decide_eq_true_eq]
  exact fun _ => h
theorem Re.mk_plain (op : Int) (h5 : ¬ op = 5) (l : List Re) (hl : ∀ y, y ∈ l → y.plain = true) : (Re.mk (Pay.of op) l).plain = true := by
  rw [Re.plain, (Re.plains_iff l).2 hl]
  simp only [Bool.and_true, decide_eq_true_eq]
  exact fun h => absurd h h5
theorem Re.counted_plain {x : Re} (lo hi : Int) (hx : x.plain = true) : (x.counted lo hi).plain = true := by
  unfold Re.counted
  split
  · rename_i h; exact Re.rept_plain hx (by omega)
  split
  · exact Re.mk_plain 1 (by decide) [] (fun y hy => by cases hy)
  split
  · exact hx
  split
  · exact Re.mk_plain 3 (by decide) _ fun y hy => by rw [(List.mem_replicate.1 hy).2]; exact hx
  split
  · refine Re.mk_plain 3 (by decide) _ fun y hy => ?_
    rcases List.mem_append.1 hy with hy | hy
    · rw [(List.mem_replicate.1 hy).2]; exact hx
    · rw [List.mem_singleton.1 hy]; exact Re.rept_plain hx (by omega)
  · refine Re.mk_plain 3 (by decide) _ fun y hy => ?_
    rcases List.mem_append.1 hy with hy | hy
    · rw [(List.mem_replicate.1 hy).2]; exact hx
    · rw [(List.mem_replicate.1 hy).2]; exact Re.rept_plain hx (by omega)
theorem Re.expand_plain (t : Re) : t.expand.plain = true := by
  induction t using Re.ind with
  | h p xs ih =>
    rw [Re.expand]
    have hk : ∀ y, y ∈ Re.expands xs → y.plain = true := fun y hy => by
      rw [Re.expands_map] at hy
      obtain ⟨a, ha, rfl⟩ := List.mem_map.1 hy
      exact ih a ha
    split
    · exact Re.mk_plain 1 (by decide) [] (fun y hy => by cases hy)
    split
    · refine Re.counted_plain _ _ ?_
      cases hx : Re.expands xs with
      | nil => exact Re.mk_plain 0 (by decide) [] (fun y hy => by cases hy)
      | cons y ys => exact hk y (by rw [hx]; simp)
    · rename_i h5
      rw [Re.plain, (Re.plains_iff _).2 hk]
      simp only [Bool.and_true, decide_eq_true_eq]
      exact fun h => absurd h h5
theorem Re.typeds_mem : ∀ (xs : List Re), Re.typeds xs = true → ∀ a, a ∈ xs → a.typed = true
  | [], _, a, ha => by cases ha
  | t :: ts, h, a, ha => by
    rw [Re.typeds, Bool.and_eq_true] at h
    rcases List.mem_cons.1 ha with ha | ha
    · rw [ha]; exact h.1
    · exact Re.typeds_mem ts h.2 a ha
theorem map_self {f : Re → Re} : ∀ (xs : List Re), (∀ a, a ∈ xs → f a = a) → xs.map f = xs
  | [], _ => rfl
  | t :: ts, h => by rw [List.map_cons, h t (by simp), map_self ts fun a ha => h a (by simp [ha])]
theorem Re.expand_self (t : Re) : t.typed = true → t.plain = true → t.expand = t := by
  induction t using Re.ind with
  | h p xs ih =>
    intro ht hp
    rw [Re.plain, Bool.and_eq_true, decide_eq_true_eq] at hp
    have hty : Re.typeds xs = true := by rw [Re.typed, Bool.and_eq_true] at ht; exact ht.2
    have hk : Re.expands xs = xs := by
      rw [Re.expands_map]
      exact map_self xs fun a ha => ih a ha (Re.typeds_mem xs hty a ha) ((Re.plains_iff xs).1 hp.2 a ha)
    rw [Re.expand, hk]
    split
    · rename_i h5
      have := hp.1 h5.1
      omega
    split
    · rename_i h5
      obtain ⟨x, rfl⟩ := Re.one_kid ht h5
      have h6 := hp.1 h5
      have h7 := Re.rep_pay ht h5
      rw [List.headD_cons, Re.counted, if_pos (by omega), Re.rept, ← h7]
    · rfl

mutual
theorem Re.learn_out : ∀ (t : Re) (b n : Nat) (g : Int → Option Facts), t.ranged b = some n → ∀ k : Int, k ≤ b → (t.learn g).2 k = g k
  | .mk p xs, b, n, g, h, k, hk => by
    rw [Re.ranged] at h
    split at h
    · cases h
    split at h
    · rename_i h6
      split at h
      · rename_i hgr
        have h1 := Re.learns_out xs (b + 1) n g h k (by omega)
        rw [Re.learn]
        unfold Pay.learn
        rw [if_neg (by omega), if_neg (by omega), if_neg (by omega), if_neg (by omega), if_pos h6]
        show (if k = p.gr then _ else _) = _
        rw [if_neg (by omega)]
        exact h1
      · cases h
    · rename_i h6
      have h1 := Re.learns_out xs b n g h k hk
      rw [Re.learn]
      unfold Pay.learn
      split
      · exact h1
      split
      · exact h1
      split
      · exact h1
      split
      · exact h1
      split
      · exact h1
      · exact h1
theorem Re.learns_out : ∀ (xs : List Re) (b n : Nat) (g : Int → Option Facts), Re.rangeds xs b = some n → ∀ k : Int, k ≤ b → (Re.learns xs g).2 k = g k
  | [], b, n, g, h, k, hk => by rw [Re.learns]
  | t :: ts, b, n, g, h, k, hk => by
    rw [Re.rangeds] at h
    cases hx : t.ranged b with
    | none => rw [hx] at h; cases h
    | some m =>
      rw [hx] at h
      have hm := Re.ranged_groups t b m hx
      have h1 := Re.learn_out t b m g hx k hk
      have h2 := Re.learns_out ts m n (t.learn g).2 h k (by omega)
      rw [Re.learns]
      exact h2.trans h1
end
mutual
theorem Re.ranged_two : ∀ (t : Re) (a b a' b' : Nat), t.ranged a = some a' → t.ranged b = some b' → 0 < t.groups → a = b
  | .mk p xs, a, b, a', b', h, k, hg => by
    rw [Re.ranged] at h k
    simp only [Re.groups, Re.count] at hg
    split at h
    · cases h
    rename_i h5
    rw [if_neg h5] at k
    split at h
    · rename_i h6
      rw [if_pos h6] at k
      split at h
      · rename_i h7
        split at k
        · omega
        · cases k
      · cases h
    · rename_i h6
      rw [if_neg h6] at k
      have h8 : ¬ (p.op == 6) = true := by simpa using h6
      rw [if_neg h8] at hg
      exact Re.rangeds_two xs a b a' b' h k (by omega)
theorem Re.rangeds_two : ∀ (xs : List Re) (a b a' b' : Nat), Re.rangeds xs a = some a' → Re.rangeds xs b = some b' → 0 < Re.counts (· == 6) xs → a = b
  | [], a, b, a', b', _, _, hg => by rw [Re.counts] at hg; omega
  | t :: ts, a, b, a', b', h, k, hg => by
    rw [Re.rangeds] at h k
    rw [Re.counts] at hg
    cases hx : t.ranged a with
    | none => rw [hx] at h; cases h
    | some m =>
      cases hy : t.ranged b with
      | none => rw [hy] at k; cases k
      | some m' =>
        rw [hx] at h
        rw [hy] at k
        have h1 := Re.ranged_groups t a m hx
        have h2 := Re.ranged_groups t b m' hy
        rcases Nat.eq_zero_or_pos t.groups with h0 | h0
        · have h3 := Re.rangeds_two ts m m' a' b' h k (by simp only [Re.groups] at h0; omega)
          omega
        · exact Re.ranged_two t a b m m' hx hy h0
end
theorem Re.counts_zero {q : Int → Bool} : ∀ (es : List Re), (∀ e, e ∈ es → e.count q = 0) → Re.counts q es = 0
  | [], _ => by rw [Re.counts]
  | e :: es, h => by rw [Re.counts, h e (by simp), Re.counts_zero es fun a ha => h a (by simp [ha])]
theorem Re.rept_ranged {y : Re} {lo hi : Int} {a a' : Nat} (h : (y.rept lo hi).ranged a = some a') : y.ranged a = some a' := by
  rw [Re.rept, Re.ranged] at h
  split at h
  · cases h
  rw [if_neg (show ¬ (Pay.ofRep lo hi).op = 6 by show ¬ (5 : Int) = 6; decide), Re.rangeds] at h
  cases hx : y.ranged a with
  | none => rw [hx] at h; cases h
  | some m => rw [hx] at h; simpa [Re.rangeds] using h
theorem Re.rept_named {y : Re} {lo hi : Int} {l l' : List Int} (h : (y.rept lo hi).named l = some l') : y.named l = some l' := by
  rw [Re.rept, Re.named] at h
  rw [if_neg (show ¬ ((Pay.ofRep lo hi).op = 9 ∧ (Pay.ofRep lo hi).gr ∉ l) from fun k => absurd (show (5 : Int) = 9 from k.1) (by decide)), Re.nameds] at h
  cases hx : y.named l with
  | none => rw [hx] at h; cases h
  | some m =>
    rw [hx] at h
    simp only [Re.nameds] at h
    rw [if_neg (show ¬ (Pay.ofRep lo hi).op = 6 by show ¬ (5 : Int) = 6; decide)] at h
    exact h
theorem Re.rept_groups (y : Re) (lo hi : Int) : (y.rept lo hi).groups = y.groups := by simp [Re.rept, Re.groups, Re.count, Re.counts, Pay.ofRep]
theorem Re.rept_learn (y : Re) (lo hi : Int) (g : Int → Option Facts) : (y.rept lo hi).learn g = ((y.learn g).1.rep lo hi, (y.learn g).2) := by
  rw [Re.rept, Re.learn, Re.learns, Re.learns]
  unfold Pay.learn
  rw [if_neg (show ¬ (Pay.ofRep lo hi).op = 2 by show ¬ (5 : Int) = 2; decide), if_neg (show ¬ (Pay.ofRep lo hi).op = 3 by show ¬ (5 : Int) = 3; decide), if_neg (show ¬ (Pay.ofRep lo hi).op = 4 by show ¬ (5 : Int) = 4; decide), if_pos (show (Pay.ofRep lo hi).op = 5 from rfl)]
  rfl
/-- Two or more copies of a tree can be valid only if the tree has no groups. -/
theorem Re.many {y : Re} {es : List Re} (he : ∀ e, e ∈ es → e = y ∨ ∃ lo hi, e = y.rept lo hi) (hlen : 2 ≤ es.length) {bx nx : Nat} {l l' : List Int} (hr : (Re.mk (Pay.of 3) es).ranged bx = some nx) (hn : (Re.mk (Pay.of 3) es).named l = some l') :
    y.groups = 0 ∧ nx = bx ∧ l' = l ∧ y.ranged bx = some bx ∧ y.named l = some l := by
  have hR : ∀ e, e ∈ es → ∀ a a', e.ranged a = some a' → y.ranged a = some a' := fun e h a a' hh => by
    rcases he e h with rfl | ⟨lo, hi, rfl⟩
    · exact hh
    · exact Re.rept_ranged hh
  have hN : ∀ e, e ∈ es → ∀ a a', e.named a = some a' → y.named a = some a' := fun e h a a' hh => by
    rcases he e h with rfl | ⟨lo, hi, rfl⟩
    · exact hh
    · exact Re.rept_named hh
  have hG : ∀ e, e ∈ es → e.groups = y.groups := fun e h => by
    rcases he e h with rfl | ⟨lo, hi, rfl⟩
    · rfl
    · exact Re.rept_groups y lo hi
  match es, hlen with
  | e1 :: e2 :: rest, _ =>
    have hr0 := hr
    have hn0 := hn
    rw [Re.ranged, if_neg (show ¬ ((Pay.of 3).op = 5 ∧ (Pay.of 3).badRep = true) from fun k => absurd (show (3 : Int) = 5 from k.1) (by decide)), if_neg (show ¬ (Pay.of 3).op = 6 by show ¬ (3 : Int) = 6; decide), Re.rangeds] at hr0
    rw [Re.named, if_neg (show ¬ ((Pay.of 3).op = 9 ∧ (Pay.of 3).gr ∉ l) from fun k => absurd (show (3 : Int) = 9 from k.1) (by decide)), Re.nameds] at hn0
    cases hx : e1.ranged bx with
    | none => rw [hx] at hr0; cases hr0
    | some m =>
      rw [hx] at hr0
      simp only [Re.rangeds] at hr0
      cases hy : e2.ranged m with
      | none => rw [hy] at hr0; cases hr0
      | some m' =>
        cases hz : e1.named l with
        | none => rw [hz] at hn0; cases hn0
        | some l1 =>
          have h1 := hR e1 (by simp) _ _ hx
          have h2 := hR e2 (by simp) _ _ hy
          have h3 := hN e1 (by simp) _ _ hz
          have h4 := Re.ranged_groups y bx m h1
          have h0 : y.groups = 0 := by
            rcases Nat.eq_zero_or_pos y.groups with h0 | h0
            · exact h0
            · have := Re.ranged_two y bx m m m' h1 h2 h0
              omega
          have h5 : (Re.mk (Pay.of 3) (e1 :: e2 :: rest)).groups = 0 := by
            rw [Re.groups, Re.count, Re.counts_zero _ fun e h => (hG e h).trans h0]
            rfl
          have h6 := Re.ranged_groups _ _ _ hr
          have h7 := Re.named_nogroup _ _ _ h5 hn
          have h8 := Re.named_nogroup _ _ _ h0 h3
          have h9 : m = bx := by omega
          rw [h9] at h1
          rw [h8] at h3
          exact ⟨h0, by omega, h7, h1, h3⟩

/-- The two lengths are lengths. -/
def FLen (f : Facts) : Prop := Len f.least ∧ Len f.most
def GLen (g : Int → Option Facts) : Prop := ∀ k f, g k = some f → FLen f
theorem FLen.cat {a b : Facts} (ha : FLen a) (hb : FLen b) : FLen (a.cat b) := ⟨ha.1.lsum hb.1, ha.2.lsum hb.2⟩
theorem FLen.alt {a b : Facts} (ha : FLen a) (hb : FLen b) : FLen (a.alt b) := by
  obtain ⟨⟨h1, h2⟩, h3, h4⟩ := ha
  obtain ⟨⟨k1, k2⟩, k3, k4⟩ := hb
  refine ⟨⟨?_, ?_⟩, ⟨?_, ?_⟩⟩
  · show _ ≤ min _ _; omega
  · show min _ _ ≤ _; omega
  · show _ ≤ ite _ _ _; split <;> omega
  · show ite _ _ _ ≤ _; split <;> omega
theorem FLen.zero : FLen Facts.zero := ⟨Facts.zero_wf.least, Facts.zero_wf.most⟩
theorem FLen.empty : FLen Facts.empty := ⟨Facts.empty_wf.least, Facts.empty_wf.most⟩
theorem FLen.foldl (f : Facts → Facts → Facts) (hf : ∀ a b, FLen a → FLen b → FLen (f a b)) : ∀ (l : List Facts) (a : Facts), FLen a → (∀ b, b ∈ l → FLen b) → FLen (l.foldl f a)
  | [], a, h, _ => h
  | b :: l, a, h, hl => FLen.foldl f hf l _ (hf a b h (hl b (by simp))) (fun c hc => hl c (by simp [hc]))
theorem Pay.learn_len (p : Pay) (l : List Facts) (g : Int → Option Facts) (hl : ∀ b, b ∈ l → FLen b) (hg : GLen g) : FLen (p.learn l g).1 ∧ GLen (p.learn l g).2 := by
  have h0 : FLen (l.headD Facts.zero) := by
    cases l with
    | nil => exact FLen.zero
    | cons f l => exact hl f (by simp)
  unfold Pay.learn
  split
  · exact ⟨⟨⟨by show (-1 : Int) ≤ 1; decide, by show (1 : Int) ≤ 2147483647; decide⟩, ⟨by show (-1 : Int) ≤ 1; decide, by show (1 : Int) ≤ 2147483647; decide⟩⟩, hg⟩
  split
  · refine ⟨?_, hg⟩
    cases l with
    | nil => exact FLen.zero
    | cons f l => exact FLen.foldl _ (fun _ _ => FLen.cat) l f (hl f (by simp)) (fun c hc => hl c (by simp [hc]))
  split
  · refine ⟨?_, hg⟩
    cases l with
    | nil => exact FLen.zero
    | cons f l => exact FLen.foldl _ (fun _ _ => FLen.alt) l f (hl f (by simp)) (fun c hc => hl c (by simp [hc]))
  split
  · exact ⟨⟨h0.1.ltimes, h0.2.ltimes⟩, hg⟩
  split
  · refine ⟨h0, fun k f hk => ?_⟩
    dsimp only at hk
    split at hk
    · cases hk; exact h0
    · exact hg k f hk
  split
  · refine ⟨?_, hg⟩
    cases hx : g p.gr with
    | none => exact FLen.zero
    | some f => exact hg _ f hx
  · exact ⟨FLen.empty, hg⟩
mutual
theorem Re.learn_len : ∀ (t : Re) (g : Int → Option Facts), GLen g → FLen (t.learn g).1 ∧ GLen (t.learn g).2
  | .mk p xs, g, hg => by
    have h := Re.learns_lens xs g hg
    rw [Re.learn]
    exact Pay.learn_len p _ _ h.1 h.2
theorem Re.learns_lens : ∀ (xs : List Re) (g : Int → Option Facts), GLen g → (∀ f, f ∈ (Re.learns xs g).1 → FLen f) ∧ GLen (Re.learns xs g).2
  | [], g, hg => by rw [Re.learns]; exact ⟨fun f hf => (by cases hf), hg⟩
  | t :: ts, g, hg => by
    have h1 := Re.learn_len t g hg
    have h2 := Re.learns_lens ts _ h1.2
    rw [Re.learns]
    refine ⟨fun f hf => ?_, h2.2⟩
    rcases List.mem_cons.1 hf with hf | hf
    · rw [hf]; exact h1.1
    · exact h2.1 f hf
end

theorem ltimes_zero (a : Int) : ltimes a 0 = 0 := by unfold ltimes; simp
theorem ltimes_one {a : Int} (h : Len a) : ltimes a 1 = a := by
  obtain ⟨h1, h2⟩ := h
  unfold ltimes
  rw [Int.mul_one]
  split
  · omega
  split
  · omega
  · omega
theorem ltimes_step {a : Int} (h : Len a) (k : Nat) (hk : 1 ≤ k) : lsum (ltimes a k) a = ltimes a ((k + 1 : Nat) : Int) := by
  obtain ⟨h1, h2⟩ := h
  have e1 : a * ((k + 1 : Nat) : Int) = a * (k : Int) + a := by rw [Int.natCast_add, Int.mul_add]; simp
  rcases (by omega : a < 0 ∨ a = 0 ∨ 0 < a) with h0 | h0 | h0
  · have e2 : ltimes a (k : Int) = -1 := by unfold ltimes; rw [if_neg (by omega), if_pos (by omega)]
    have e3 : ltimes a ((k + 1 : Nat) : Int) = -1 := by unfold ltimes; rw [if_neg (by omega), if_pos (by omega)]
    rw [e2, e3]
    unfold lsum
    rw [if_pos (by omega)]
  · subst h0
    unfold ltimes lsum
    simp
    omega
  · have h3 : 0 < a * (k : Int) := Int.mul_pos h0 (by omega)
    unfold ltimes
    rw [if_neg (by omega), if_neg (by omega), if_neg (by omega), if_neg (by omega), e1]
    generalize a * (k : Int) = z at h3
    unfold lsum
    rw [if_neg (by omega)]
    omega
theorem lsum_zero {a : Int} (h : Len a) : lsum a 0 = a := by
  obtain ⟨h1, h2⟩ := h
  unfold lsum
  split <;> omega
theorem Cs.union_self (s : Cs) : s.union s = s := by obtain ⟨a, b, c, d⟩ := s; simp [Cs.union]
/-- What is known of k copies and then m copies that may be left out. -/
def Facts.st (f : Facts) (k m : Nat) : Facts := ⟨decide (k = 0) || f.null, ltimes f.least k, ltimes f.most ((k + m : Nat) : Int), f.first⟩
theorem Facts.st_f {f : Facts} (h : FLen f) (k : Nat) (hk : 1 ≤ k) : (f.st k 0).cat f = f.st (k + 1) 0 := by
  obtain ⟨n, l, m, s⟩ := f
  unfold Facts.cat Facts.st
  have e1 := ltimes_step h.1 k hk
  have e2 := ltimes_step h.2 k hk
  have e3 : decide (k = 0) = false := decide_eq_false (by omega)
  have e4 : decide (k + 1 = 0) = false := decide_eq_false (by omega)
  simp only [Nat.add_zero] at *
  rw [e1, e2, e3, e4]
  simp [Cs.union_self]
theorem Facts.st_r {f : Facts} (h : FLen f) (k m : Nat) (hk : 1 ≤ k + m) : (f.st k m).cat (f.rep 0 1) = f.st k (m + 1) := by
  obtain ⟨n, l, mo, s⟩ := f
  have e1 : lsum (ltimes l (k : Int)) (ltimes l 0) = ltimes l (k : Int) := by rw [ltimes_zero]; exact lsum_zero h.1.ltimes
  have e2 : lsum (ltimes mo ((k + m : Nat) : Int)) (ltimes mo 1) = ltimes mo ((k + (m + 1) : Nat) : Int) := by rw [ltimes_one h.2]; exact ltimes_step h.2 (k + m) hk
  unfold Facts.cat Facts.st Facts.rep
  simp only [] at *
  rw [e1, e2]
  simp [Cs.union_self]
theorem Facts.st_start {f : Facts} (h : FLen f) : f.st 1 0 = f := by
  obtain ⟨n, l, mo, s⟩ := f
  have e1 := ltimes_one h.1
  have e2 := ltimes_one h.2
  unfold Facts.st
  simp at *
  exact ⟨e1, e2⟩
theorem Facts.st_start' {f : Facts} : f.rep 0 1 = f.st 0 1 := by
  unfold Facts.st Facts.rep
  simp
theorem Facts.st_fs {f : Facts} (h : FLen f) : ∀ (j k : Nat), 1 ≤ k → (List.replicate j f).foldl Facts.cat (f.st k 0) = f.st (k + j) 0
  | 0, k, _ => rfl
  | j + 1, k, hk => by
    rw [List.replicate_succ, List.foldl_cons, Facts.st_f h k hk, Facts.st_fs h j (k + 1) (by omega)]
    congr 1
    omega
theorem Facts.st_rs {f : Facts} (h : FLen f) : ∀ (j k m : Nat), 1 ≤ k + m → (List.replicate j (f.rep 0 1)).foldl Facts.cat (f.st k m) = f.st k (m + j)
  | 0, k, m, _ => rfl
  | j + 1, k, m, hk => by
    rw [List.replicate_succ, List.foldl_cons, Facts.st_r h k m hk, Facts.st_rs h j k (m + 1) (by omega)]
    congr 1
    omega
theorem Facts.cats_st {f : Facts} (h : FLen f) (k m : Nat) (hk : 1 ≤ k + m) : Facts.cats (List.replicate k f ++ List.replicate m (f.rep 0 1)) = f.st k m := by
  cases k with
  | zero =>
    cases m with
    | zero => omega
    | succ m =>
      rw [List.replicate_zero, List.nil_append, List.replicate_succ]
      show (List.replicate m (f.rep 0 1)).foldl Facts.cat (f.rep 0 1) = _
      have e := Facts.st_rs h m 0 1 (by omega)
      rw [← Facts.st_start'] at e
      rw [e]
      congr 1
      omega
  | succ k =>
    rw [List.replicate_succ, List.cons_append]
    show (List.replicate k f ++ List.replicate m (f.rep 0 1)).foldl Facts.cat f = _
    have e := Facts.st_fs h k 1 (by omega)
    rw [Facts.st_start h] at e
    rw [List.foldl_append, e, Facts.st_rs h m _ 0 (by omega)]
    congr 1 <;> omega
theorem Facts.rep_st (f : Facts) {lo hi : Int} (h0 : 0 ≤ lo) (h1 : lo ≤ hi) (h2 : ¬ hi = 0) : f.rep lo hi = f.st lo.toNat (hi - lo).toNat := by
  unfold Facts.rep Facts.st
  have e1 : ((lo.toNat : Nat) : Int) = lo := Int.toNat_of_nonneg h0
  have e2 : ((lo.toNat + (hi - lo).toNat : Nat) : Int) = hi := by omega
  have e3 : decide (lo = 0) = decide (lo.toNat = 0) := by
    by_cases h : lo = 0
    · rw [decide_eq_true h, decide_eq_true (by omega)]
    · rw [decide_eq_false h, decide_eq_false (by omega)]
  rw [e1, e2, e3, if_neg h2]
theorem Facts.cats_last {f : Facts} (h : FLen f) {lo : Int} (h0 : 2 ≤ lo) : Facts.cats (List.replicate (lo - 1).toNat f ++ [f.rep 1 (-1)]) = f.rep lo (-1) := by
  have e := Facts.cats_st h (lo - 1).toNat 0 (by omega)
  rw [List.replicate_zero, List.append_nil] at e
  obtain ⟨k, hk⟩ : ∃ k, (lo - 1).toNat = k + 1 := ⟨(lo - 2).toNat, by omega⟩
  rw [hk] at e ⊢
  rw [List.replicate_succ] at e ⊢
  rw [List.cons_append]
  show (List.replicate k f ++ [f.rep 1 (-1)]).foldl Facts.cat f = _
  have e' : (List.replicate k f).foldl Facts.cat f = f.st (k + 1) 0 := e
  rw [List.foldl_append, e']
  show (f.st (k + 1) 0).cat (f.rep 1 (-1)) = _
  obtain ⟨n, l, mo, s⟩ := f
  have e1 : lsum (ltimes l ((k + 1 : Nat) : Int)) (ltimes l 1) = ltimes l lo := by
    rw [ltimes_one h.1, ltimes_step h.1 (k + 1) (by omega)]
    congr 1
    omega
  have e2 : lsum (ltimes mo ((k + 1 + 0 : Nat) : Int)) (ltimes mo (-1)) = ltimes mo (-1) := by
    by_cases hm : mo = 0
    · subst hm; simp [ltimes, lsum]; omega
    · have e3 : ltimes mo (-1) = -1 := by unfold ltimes; rw [if_neg (by omega), if_pos (by omega)]
      rw [e3]
      unfold lsum
      rw [if_pos (by omega)]
  have e4 : decide (lo = 0) = false := decide_eq_false (by omega)
  unfold Facts.cat Facts.st Facts.rep
  simp only [] at *
  rw [e1, e2, e4]
  simp [Cs.union_self]

theorem Re.learns_append : ∀ (us bs : List Re) (g : Int → Option Facts), Re.learns (us ++ bs) g = ((Re.learns us g).1 ++ (Re.learns bs (Re.learns us g).2).1, (Re.learns bs (Re.learns us g).2).2)
  | [], bs, g => by simp [Re.learns]
  | t :: ts, bs, g => by
    rw [List.cons_append, Re.learns, Re.learns_append ts bs, Re.learns]
    rfl
theorem Re.learns_copies {y : Re} {g : Int → Option Facts} (h : (y.learn g).2 = g) : ∀ k : Nat, Re.learns (List.replicate k y) g = (List.replicate k (y.learn g).1, g)
  | 0 => by rw [List.replicate_zero, Re.learns]; rfl
  | k + 1 => by
    rw [List.replicate_succ, Re.learns, h, Re.learns_copies h k]
    rfl
theorem Re.learn_cat (es : List Re) (g : Int → Option Facts) : (Re.mk (Pay.of 3) es).learn g = (Facts.cats (Re.learns es g).1, (Re.learns es g).2) := by
  rw [Re.learn]
  unfold Pay.learn
  rw [if_neg (show ¬ (Pay.of 3).op = 2 by show ¬ (3 : Int) = 2; decide), if_pos (show (Pay.of 3).op = 3 from rfl)]

/-- What stands for a repetition has the facts of the repetition, if it is valid. -/
theorem Re.counted_sim {y : Re} {lo hi : Int} (h0 : 0 ≤ lo) (h1 : hi = -1 ∨ lo ≤ hi) (h2 : ¬ hi = 0) {bx nx : Nat} {l l' : List Int} (g : Int → Option Facts) (hr : (y.counted lo hi).ranged bx = some nx) (hn : (y.counted lo hi).named l = some l') :
    y.ranged bx = some nx ∧ y.named l = some l' ∧ (FLen (y.learn g).1 → (y.counted lo hi).learn g = ((y.learn g).1.rep lo hi, (y.learn g).2)) := by
  unfold Re.counted at hr hn ⊢
  split at hr
  · rename_i h
    rw [if_pos h] at hn ⊢
    exact ⟨Re.rept_ranged hr, Re.rept_named hn, fun _ => Re.rept_learn y lo hi g⟩
  rename_i c1
  rw [if_neg c1, if_neg h2] at hn ⊢
  split at hr
  · rename_i h
    rw [if_pos h] at hn ⊢
    refine ⟨hr, hn, fun hg => ?_⟩
    obtain ⟨rfl, rfl⟩ := h
    rw [Facts.rep_st _ (by decide) (by decide) (by decide)]
    show y.learn g = ((y.learn g).1.st 1 0, (y.learn g).2)
    rw [Facts.st_start hg]
  rename_i c2
  rw [if_neg c2] at hn ⊢
  split at hr
  · rename_i h
    rw [if_pos h] at hn ⊢
    subst h
    obtain ⟨k1, k2, k3, k4, k5⟩ := Re.many (fun e he => .inl (List.mem_replicate.1 he).2) (by rw [List.length_replicate]; omega) hr hn
    have k6 := Re.learn_nogroup y g k1
    subst k2 k3
    refine ⟨k4, k5, fun hg => ?_⟩
    rw [Re.learn_cat, Re.learns_copies k6, k6, Facts.rep_st _ h0 (by omega) h2]
    have e := Facts.cats_st hg hi.toNat 0 (by omega)
    rw [List.replicate_zero, List.append_nil] at e
    rw [e, Int.sub_self]
    rfl
  rename_i c3
  rw [if_neg c3] at hn ⊢
  split at hr
  · rename_i h
    rw [if_pos h] at hn ⊢
    subst h
    obtain ⟨k1, k2, k3, k4, k5⟩ := Re.many (y := y) (fun e he => by
      rcases List.mem_append.1 he with he | he
      · exact .inl (List.mem_replicate.1 he).2
      · exact .inr ⟨1, -1, List.mem_singleton.1 he⟩) (by rw [List.length_append, List.length_replicate]; simp; omega) hr hn
    have k6 := Re.learn_nogroup y g k1
    subst k2 k3
    refine ⟨k4, k5, fun hg => ?_⟩
    rw [Re.learn_cat, Re.learns_append, Re.learns_copies k6]
    simp only [Re.learns, Re.rept_learn, k6]
    rw [Facts.cats_last hg (by omega)]
  · rename_i h
    rw [if_neg h] at hn ⊢
    obtain ⟨k1, k2, k3, k4, k5⟩ := Re.many (y := y) (fun e he => by
      rcases List.mem_append.1 he with he | he
      · exact .inl (List.mem_replicate.1 he).2
      · exact .inr ⟨0, 1, (List.mem_replicate.1 he).2⟩) (by rw [List.length_append, List.length_replicate, List.length_replicate]; omega) hr hn
    have k6 := Re.learn_nogroup y g k1
    have k7 : ((y.rept 0 1).learn g).2 = g := by rw [Re.rept_learn]; exact k6
    subst k2 k3
    refine ⟨k4, k5, fun hg => ?_⟩
    rw [Re.learn_cat, Re.learns_append, Re.learns_copies k6]
    simp only []
    rw [Re.learns_copies k7, Re.rept_learn]
    simp only []
    rw [k6, Facts.rep_st _ h0 (by omega) h2, Facts.cats_st hg _ _ (by omega)]

theorem Pay.learn_six {p : Pay} (h : p.op = 6) (l : List Facts) (g : Int → Option Facts) : p.learn l g = (l.headD Facts.zero, fun k => if k = p.gr then some (l.headD Facts.zero) else g k) := by
  unfold Pay.learn
  rw [if_neg (by omega), if_neg (by omega), if_neg (by omega), if_neg (by omega), if_pos h]
theorem Pay.learn_rest {p : Pay} (h : ¬ p.op = 6) (l : List Facts) (g : Int → Option Facts) : (p.learn l g).2 = g := by
  unfold Pay.learn
  split
  · rfl
  split
  · rfl
  split
  · rfl
  split
  · rfl
  split
  · rfl
  · rfl
theorem Pay.learn_same {p : Pay} (h : ¬ p.op = 6) (l : List Facts) (g g' : Int → Option Facts) (h9 : p.op = 9 → g p.gr = g' p.gr) : (p.learn l g).1 = (p.learn l g').1 := by
  unfold Pay.learn
  split
  · rfl
  split
  · rfl
  split
  · rfl
  split
  · rfl
  split
  · rename_i k
    show (g p.gr).getD Facts.zero = (g' p.gr).getD Facts.zero
    rw [h9 k]
  · rfl

theorem Re.back_nil {p : Pay} {xs : List Re} (h : (Re.mk p xs).typed = true) (hop : p.op = 9) : xs = [] := by
  rw [Re.typed] at h
  simp only [Bool.and_eq_true] at h
  have h1 := h.1
  unfold Pay.shaped at h1
  simp [hop] at h1
  exact h1.1.1
mutual
theorem Re.expand_sim : ∀ (t : Re) (b n bx nx : Nat) (l l' : List Int) (g gx : Int → Option Facts), t.typed = true → t.ranged b = some n → t.expand.ranged bx = some nx → t.expand.named l = some l' → bx ≤ b → (∀ k, k ∈ l → k ≤ (bx : Int)) → (∀ k, k ∈ l → g k = gx k) → GLen g →
    (t.expand.learn gx).1 = (t.learn g).1 ∧ nx ≤ n ∧ (∀ k, k ∈ l' → k ≤ (nx : Int)) ∧ ∀ k, k ∈ l' → (t.learn g).2 k = (t.expand.learn gx).2 k
  | .mk p xs, b, n, bx, nx, l, l', g, gx, ht, h1, h2, h3, hb, hl, hg, hL => by
    have hty : Re.typeds xs = true := by have := ht; rw [Re.typed, Bool.and_eq_true] at this; exact this.2
    have hT := ht
    rw [Re.ranged] at h1
    rw [Re.expand] at h2 h3 ⊢
    split at h1
    · cases h1
    rename_i c0
    by_cases h5 : p.op = 5
    · have hbad := Pay.badRep_false (p := p) (by cases hx : p.badRep with
        | true => exact absurd ⟨h5, hx⟩ c0
        | false => rfl)
      have h6 : ¬ p.op = 6 := by omega
      rw [if_neg h6] at h1
      obtain ⟨c, hc⟩ := Re.one_kid ht h5
      have hgr := Re.rangeds_groups xs b n h1
      have hkeep : ∀ k, k ∈ l → (Re.learns xs g).2 k = g k := fun k hk => Re.learns_out xs b n g h1 k (by have := hl k hk; omega)
      have hlt : (Re.mk p xs).learn g = (((Re.learns xs g).1.headD Facts.zero).rep p.lo p.hi, (Re.learns xs g).2) := by
        rw [Re.learn]
        unfold Pay.learn
        rw [if_neg (by omega), if_neg (by omega), if_neg (by omega), if_pos h5]
      rw [hlt]
      by_cases hh : p.hi = 0
      · rw [if_pos ⟨h5, hh⟩] at h2 h3 ⊢
        have e2 : bx = nx := by simpa [Re.ranged, Re.rangeds, Pay.of] using h2
        have e3 : l = l' := by simpa [Re.named, Re.nameds, Pay.of] using h3
        subst e2 e3
        have hlo : p.lo = 0 := by omega
        refine ⟨?_, by omega, hl, fun k hk => ?_⟩
        · rw [hlo, hh]
          simp [Re.learn, Re.learns, Pay.learn, Pay.of, Facts.rep, ltimes_zero, Facts.empty]
        · rw [show ((Re.mk (Pay.of 1) []).learn gx).2 = gx by simp [Re.learn, Re.learns, Pay.learn, Pay.of]]
          rw [hkeep k hk]
          exact hg k hk
      · rw [if_neg (fun k => hh k.2), if_pos h5] at h2 h3 ⊢
        have hE : Re.expands xs = [c.expand] := by rw [hc]; rfl
        have hD : (Re.expands xs).headD (.mk (Pay.of 0) []) = c.expand := by rw [hE]; rfl
        rw [hD] at h2 h3 ⊢
        have hLr : Re.learns xs g = ([(c.learn g).1], (c.learn g).2) := by rw [hc]; rfl
        -- what the expanded operand gives
        have key : ∀ m lm, c.expand.ranged bx = some m → c.expand.named l = some lm → (c.expand.learn gx).1 = (c.learn g).1 ∧ m ≤ n ∧ (∀ k, k ∈ lm → k ≤ (m : Int)) ∧ ∀ k, k ∈ lm → (c.learn g).2 k = (c.expand.learn gx).2 k := fun m lm q1 q2 => by
          have q := Re.expands_sim xs b n bx m l lm g gx hty h1 (by rw [hE, Re.rangeds, q1]; rfl) (by rw [hE, Re.nameds, q2]; rfl) hb hl hg hL
          rw [hE, hLr] at q
          simp only [Re.learns] at q
          exact ⟨by simpa using q.1, q.2⟩
        have hfl : FLen (c.learn g).1 := (Re.learn_len c g hL).1
        rw [hLr]
        obtain ⟨q1, q2, q3⟩ := Re.counted_sim hbad.1.1 (by omega : p.hi = -1 ∨ p.lo ≤ p.hi) hh gx h2 h3
        obtain ⟨r1, r2, r3, r4⟩ := key nx l' q1 q2
        rw [q3 (by rw [r1]; exact hfl)]
        exact ⟨by rw [r1]; rfl, r2, r3, r4⟩
    · rw [if_neg (fun k => h5 k.1), if_neg h5] at h2 h3 ⊢
      rw [Re.ranged, if_neg (fun k => h5 k.1)] at h2
      rw [Re.named] at h3
      split at h3
      · cases h3
      rename_i c9
      cases hx : Re.nameds (Re.expands xs) l with
      | none => rw [hx] at h3; cases h3
      | some lm =>
        rw [hx] at h3
        simp only [] at h3
        rw [Re.learn, Re.learn]
        by_cases h6 : p.op = 6
        · rw [if_pos h6] at h1 h2 h3
          split at h1
          · rename_i e1
            split at h2
            · rename_i e2
              have hbb : bx = b := by omega
              have q := Re.expands_sim xs (b + 1) n (bx + 1) nx l lm g gx hty h1 h2 hx (by omega) (fun k hk => by have := hl k hk; omega) hg hL
              rw [Pay.learn_six h6, Pay.learn_six h6, q.1]
              have hgr := Re.rangeds_groups (Re.expands xs) (bx + 1) nx h2
              refine ⟨rfl, q.2.1, fun k hk => ?_, fun k hk => ?_⟩
              · rw [← Option.some.inj h3] at hk
                rcases List.mem_append.1 hk with hk | hk
                · exact q.2.2.1 k hk
                · rw [List.mem_singleton.1 hk]; omega
              · show (if k = p.gr then _ else _) = (if k = p.gr then _ else _)
                by_cases hkg : k = p.gr
                · rw [if_pos hkg, if_pos hkg]
                · rw [if_neg hkg, if_neg hkg]
                  rw [← Option.some.inj h3] at hk
                  rcases List.mem_append.1 hk with hk | hk
                  · exact q.2.2.2 k hk
                  · exact absurd (List.mem_singleton.1 hk) hkg
            · cases h2
          · cases h1
        · rw [if_neg h6] at h1 h2 h3
          have q := Re.expands_sim xs b n bx nx l lm g gx hty h1 h2 hx hb hl hg hL
          have e3 : lm = l' := Option.some.inj h3
          subst e3
          rw [Pay.learn_rest h6, Pay.learn_rest h6, q.1]
          refine ⟨Pay.learn_same h6 _ _ _ fun h9 => ?_, q.2⟩
          have hm : p.gr ∈ l := Classical.byContradiction fun k => c9 ⟨h9, k⟩
          have hnil : xs = [] := Re.back_nil hT h9
          have := hg p.gr hm
          rw [hnil]
          simp only [Re.expands, Re.learns]
          exact this.symm
theorem Re.expands_sim : ∀ (xs : List Re) (b n bx nx : Nat) (l l' : List Int) (g gx : Int → Option Facts), Re.typeds xs = true → Re.rangeds xs b = some n → Re.rangeds (Re.expands xs) bx = some nx → Re.nameds (Re.expands xs) l = some l' → bx ≤ b → (∀ k, k ∈ l → k ≤ (bx : Int)) → (∀ k, k ∈ l → g k = gx k) → GLen g →
    (Re.learns (Re.expands xs) gx).1 = (Re.learns xs g).1 ∧ nx ≤ n ∧ (∀ k, k ∈ l' → k ≤ (nx : Int)) ∧ ∀ k, k ∈ l' → (Re.learns xs g).2 k = (Re.learns (Re.expands xs) gx).2 k
  | [], b, n, bx, nx, l, l', g, gx, _, h1, h2, h3, hb, hl, hg, _ => by
    rw [Re.rangeds] at h1
    rw [Re.expands] at h2 h3 ⊢
    rw [Re.rangeds] at h2
    rw [Re.nameds] at h3
    cases h1
    cases h2
    cases h3
    rw [Re.learns, Re.learns]
    exact ⟨rfl, hb, hl, hg⟩
  | t :: ts, b, n, bx, nx, l, l', g, gx, ht, h1, h2, h3, hb, hl, hg, hL => by
    rw [Re.typeds, Bool.and_eq_true] at ht
    rw [Re.rangeds] at h1
    rw [Re.expands] at h2 h3 ⊢
    rw [Re.rangeds] at h2
    rw [Re.nameds] at h3
    cases hx : t.ranged b with
    | none => rw [hx] at h1; cases h1
    | some m =>
      cases hy : t.expand.ranged bx with
      | none => rw [hy] at h2; cases h2
      | some mx =>
        cases hz : t.expand.named l with
        | none => rw [hz] at h3; cases h3
        | some lm =>
          rw [hx] at h1
          rw [hy] at h2
          rw [hz] at h3
          have q := Re.expand_sim t b m bx mx l lm g gx ht.1 hx hy hz hb hl hg hL
          have r := Re.expands_sim ts m n mx nx lm l' (t.learn g).2 (t.expand.learn gx).2 ht.2 h1 h2 h3 q.2.1 q.2.2.1 q.2.2.2 (Re.learn_len t g hL).2
          rw [Re.learns, Re.learns]
          exact ⟨by rw [q.1]; show _ :: _ = _ :: _; rw [r.1], r.2⟩
end
theorem Re.expand_facts {t : Re} (h : t.err = 0) (hx : t.expand.err = 0) : t.expand.facts = t.facts := by
  rw [Re.facts_some h, Re.facts_some hx]
  obtain ⟨a1, _, a3, _, _⟩ := Re.err_zero h
  obtain ⟨_, _, b3, b4, _⟩ := Re.err_zero hx
  obtain ⟨n, hn⟩ := Option.isSome_iff_exists.1 a3
  obtain ⟨nx, hnx⟩ := Option.isSome_iff_exists.1 b3
  obtain ⟨l, hl⟩ := Option.isSome_iff_exists.1 b4
  exact (Re.expand_sim t 0 n 0 nx [] l _ _ a1 hn hnx hl (Nat.le_refl _) (fun k hk => by cases hk) (fun k hk => by cases hk) (fun k f hf => by cases hf)).1
end Go.Proofs.Ytibfnmkeghkdpaa
