/- The ends of a tree's parses as a relation, plainly. -/
import Derived.Test.YthnpbopnpdlmnaaX13
import Derived.Test.YthnpbopnpdlmnaaX07
import Derived.Test.YthnpbopnpdlmnaaX04
namespace Go.Proofs.Ythnpbopnpdlmnaa
open Go.RowKit

def Iter (R : Nat → Nat → Prop) : Nat → Nat → Nat → Prop
  | 0, i, j => j = i
  | n + 1, i, j => ∃ k, R i k ∧ Iter R n k j
section
variable (s : List UInt8) (lines : Bool)
mutual
def Re.E : Re → Nat → Nat → Prop
  | .mk p xs, i, j =>
    if p.op = 1 then j = i
    else if p.op = 2 then (i < s.length ∧ p.set.has (byteAt s i).toNat = true) ∧ j = i + 1
    else if p.op = 3 then Re.ECat xs i j
    else if p.op = 4 then Re.EAlt xs i j
    else if p.op = 5 then ∃ n : Nat, p.lo ≤ (n : Int) ∧ (p.hi < 0 ∨ (n : Int) ≤ p.hi) ∧ Iter (Re.EFirst xs) n i j
    else if p.op = 6 then Re.EFirst xs i j
    else if p.op = 7 then (i = 0 ∨ lines = true ∧ byteAt s (i - 1) = 10) ∧ j = i
    else if p.op = 8 then (i = s.length ∨ lines = true ∧ byteAt s i = 10) ∧ j = i
    else False
def Re.EFirst : List Re → Nat → Nat → Prop
  | [], _, _ => False
  | x :: _, i, j => x.E i j
def Re.EAlt : List Re → Nat → Nat → Prop
  | [], _, _ => False
  | x :: xs, i, j => x.E i j ∨ Re.EAlt xs i j
def Re.ECat : List Re → Nat → Nat → Prop
  | [], i, j => j = i
  | x :: xs, i, j => ∃ k, x.E i k ∧ Re.ECat xs k j
end
end
mutual
def Re.nob : Re → Prop
  | .mk p xs => (1 ≤ p.op ∧ p.op ≤ 8) ∧ Re.nobs xs
def Re.nobs : List Re → Prop
  | [] => True
  | x :: xs => x.nob ∧ Re.nobs xs
end
theorem iter_le {R : Nat → Nat → Prop} {L : Nat} (hR : ∀ i j, i ≤ L → R i j → i ≤ j ∧ j ≤ L) : ∀ (n i j : Nat), i ≤ L → Iter R n i j → i ≤ j ∧ j ≤ L
  | 0, i, j, hi, h => by rw [Iter] at h; omega
  | n + 1, i, j, hi, h => by
    obtain ⟨k, h1, h2⟩ := h
    have h3 := hR i k hi h1
    have h4 := iter_le hR n k j h3.2 h2
    omega
section
variable (s : List UInt8) (lines : Bool)
mutual
theorem Re.E_le : ∀ (t : Re) (i j : Nat), i ≤ s.length → t.E s lines i j → i ≤ j ∧ j ≤ s.length
  | .mk p xs, i, j, hi, h => by
    rw [Re.E] at h
    split at h
    · omega
    split at h
    · omega
    split at h
    · exact Re.ECat_le xs i j hi h
    split at h
    · exact Re.EAlt_le xs i j hi h
    split at h
    · obtain ⟨n, -, -, h⟩ := h
      exact iter_le (fun i j => Re.EFirst_le xs i j) n i j hi h
    split at h
    · exact Re.EFirst_le xs i j hi h
    split at h
    · omega
    split at h
    · omega
    · exact h.elim
theorem Re.EFirst_le : ∀ (xs : List Re) (i j : Nat), i ≤ s.length → Re.EFirst s lines xs i j → i ≤ j ∧ j ≤ s.length
  | [], i, j, _, h => by rw [Re.EFirst] at h; exact h.elim
  | x :: xs, i, j, hi, h => by rw [Re.EFirst] at h; exact Re.E_le x i j hi h
theorem Re.EAlt_le : ∀ (xs : List Re) (i j : Nat), i ≤ s.length → Re.EAlt s lines xs i j → i ≤ j ∧ j ≤ s.length
  | [], i, j, _, h => by rw [Re.EAlt] at h; exact h.elim
  | x :: xs, i, j, hi, h => by
    rw [Re.EAlt] at h
    rcases h with h | h
    · exact Re.E_le x i j hi h
    · exact Re.EAlt_le xs i j hi h
theorem Re.ECat_le : ∀ (xs : List Re) (i j : Nat), i ≤ s.length → Re.ECat s lines xs i j → i ≤ j ∧ j ≤ s.length
  | [], i, j, hi, h => by rw [Re.ECat] at h; omega
  | x :: xs, i, j, hi, h => by
    rw [Re.ECat] at h
    obtain ⟨k, h1, h2⟩ := h
    have h3 := Re.E_le x i k hi h1
    have h4 := Re.ECat_le xs k j h3.2 h2
    omega
end
end
theorem mapM_mem {α β : Type} {f : α → Option (List β)} : ∀ (l : List α) (m : List (List β)), l.mapM f = some m → ∀ q, q ∈ m.flatten ↔ ∃ a, a ∈ l ∧ ∃ b, f a = some b ∧ q ∈ b
  | [], m, h, q => by simp at h; subst h; simp
  | a :: l, m, h, q => by
    rw [List.mapM_cons] at h
    cases h1 : f a with
    | none => simp [h1] at h
    | some b0 =>
      cases h2 : l.mapM f with
      | none => simp [h1, h2] at h
      | some m0 =>
        simp [h1, h2] at h
        subst h
        have ih := mapM_mem l m0 h2 q
        rw [List.flatten_cons, List.mem_append, ih]
        constructor
        · rintro (h | ⟨a', h3, b, h4, h5⟩)
          · exact ⟨a, by simp, b0, h1, h⟩
          · exact ⟨a', by simp [h3], b, h4, h5⟩
        · rintro ⟨a', h3, b, h4, h5⟩
          rcases List.mem_cons.1 h3 with rfl | h3
          · rw [h1] at h4; rw [← Option.some.inj h4] at h5; exact .inl h5
          · exact .inr ⟨a', h3, b, h4, h5⟩
theorem fin_iff {L : Nat} {l m : List Parse} (h : fin L l = some m) (q : Parse) : q ∈ m ↔ q ∈ l ∧ q.1 ≤ L := by
  unfold fin at h
  split at h
  · cases h
  · have := Option.some.inj h; subst this
    rw [sortP_mem, nub_mem]
def Has (l : List Parse) (j : Nat) : Prop := ∃ q, q ∈ l ∧ q.1 = j
theorem fin_has {L : Nat} {l m : List Parse} (h : fin L l = some m) (hl : ∀ q, q ∈ l → q.1 ≤ L) (j : Nat) : Has m j ↔ Has l j := by
  refine exists_congr fun q => ?_
  rw [fin_iff h]
  exact ⟨fun h => ⟨h.1.1, h.2⟩, fun h => ⟨⟨h.1, hl q h.1⟩, h.2⟩⟩
section
variable (p : Pay) (gs : List Nat) (child : Nat → Spans → Option (List Parse)) (L : Nat) (R : Nat → Nat → Prop)
theorem rch_iter (hR : ∀ i sp l, i ≤ L → child i sp = some l → ∀ j, Has l j ↔ R i j) (hRL : ∀ i j, i ≤ L → R i j → i ≤ j ∧ j ≤ L) {v u : Sit} (h : Rch p gs child v u) : v.2.1 ≤ L → ∃ n, Iter R n v.2.1 u.2.1 ∧ (p.hi < 0 → u.1 ≤ v.1 + n) ∧ (¬ p.hi < 0 → u.1 = v.1 + n ∧ ((v.1 : Int) ≤ p.hi → (u.1 : Int) ≤ p.hi)) := by
  induction h with
  | refl v => intro _; exact ⟨0, rfl, fun _ => Nat.le_refl _, fun _ => ⟨rfl, id⟩⟩
  | @step v u z h _ ih =>
    intro hv
    obtain ⟨hg, l, hl, q, hq, hn, rfl⟩ := h
    have h1 := (hR _ _ _ hv hl q.1).1 ⟨q, hq, rfl⟩
    obtain ⟨n, h2, h3, h4⟩ := ih (hRL _ _ hv h1).2
    refine ⟨n + 1, ⟨q.1, h1, h2⟩, fun h => ?_, fun h => ?_⟩
    · have := h3 h
      dsimp only at this
      unfold clampC at this
      split at this <;> omega
    · have := h4 h
      dsimp only at this
      have h8 : clampC p (v.1 + 1) = v.1 + 1 := by unfold clampC; rw [if_neg (fun h' => h h'.1)]
      rw [h8] at this
      refine ⟨by omega, fun h9 => this.2 ?_⟩
      rcases hg with hg | hg
      · exact absurd hg h
      · omega
theorem iter_rch (hR : ∀ i sp l, i ≤ L → child i sp = some l → ∀ j, Has l j ↔ R i j) (hRL : ∀ i j, i ≤ L → R i j → i ≤ j ∧ j ≤ L) {v0 : Sit} (hkid : ∀ v, Rch p gs child v0 v → (p.hi < 0 ∨ (v.1 : Int) < p.hi) → ∃ l, child v.2.1 (unset v.2.2 gs) = some l) : ∀ (n c i : Nat) (sp : Spans) (j : Nat), i ≤ L → Rch p gs child v0 (c, i, sp) → Iter R n i j → p.lo ≤ (c + n : Int) → (p.hi < 0 ∨ (c + n : Int) ≤ p.hi) →
    ∃ (c' : Nat) (sp' : Spans), Rch p gs child v0 (c', j, sp') ∧ p.lo ≤ (c' : Int)
  | 0, c, i, sp, j, hi, hr, h, h1, h2 => by
    rw [Iter] at h
    subst h
    exact ⟨c, sp, hr, by omega⟩
  | n + 1, c, i, sp, j, hi, hr, h, h1, h2 => by
    obtain ⟨k, h3, h4⟩ := h
    by_cases hs : k = i ∧ p.lo ≤ (c : Int)
    · obtain ⟨rfl, hs⟩ := hs
      exact iter_rch hR hRL hkid n c k sp j hi hr h4 (by omega) (by omega)
    · have hg : p.hi < 0 ∨ (c : Int) < p.hi := by omega
      obtain ⟨l, hl⟩ := hkid _ hr hg
      obtain ⟨q, hq, rfl⟩ := (hR _ _ _ hi hl k).2 h3
      have hN : Nxt p gs child (c, i, sp) (clampC p (c + 1), q) := ⟨hg, l, hl, q, hq, hs, rfl⟩
      refine iter_rch hR hRL hkid n (clampC p (c + 1)) q.1 q.2 j (hRL _ _ hi h3).2 (hr.trans p gs child (.step hN (.refl _))) h4 ?_ ?_
      · unfold clampC; split <;> omega
      · unfold clampC; split <;> omega
theorem visit_has (hR : ∀ i sp l, i ≤ L → child i sp = some l → ∀ j, Has l j ↔ R i j) (hRL : ∀ i j, i ≤ L → R i j → i ≤ j ∧ j ≤ L) {f i : Nat} {sp : Spans} {st : List Sit × List Parse} (h : visit p gs child f (0, i, sp) ([], []) = some st) (hi : i ≤ L) (j : Nat) : Has st.2 j ↔ ∃ n : Nat, p.lo ≤ (n : Int) ∧ (p.hi < 0 ∨ (n : Int) ≤ p.hi) ∧ Iter R n i j := by
  obtain ⟨h1, h2⟩ := visit_all p gs child h
  have h0 : clampC p 0 = 0 := by unfold clampC; split <;> omega
  dsimp only at h1 h2
  rw [h0] at h1 h2
  constructor
  · rintro ⟨q, hq, rfl⟩
    obtain ⟨c, h3, h4⟩ := (h2 q).1 hq
    obtain ⟨n, h5, h6, h7⟩ := rch_iter p gs child L R hR hRL h3 hi
    dsimp only at h5 h6 h7
    by_cases hh : p.hi < 0
    · exact ⟨n, by have := h6 hh; omega, .inl hh, h5⟩
    · have := h7 hh
      exact ⟨n, by omega, .inr (by omega), h5⟩
  · rintro ⟨n, h3, h4, h5⟩
    obtain ⟨c, sp', h6, h7⟩ := iter_rch p gs child L R hR hRL h1 n 0 i sp j hi (.refl _) h5 (by omega) (by omega)
    exact ⟨(j, sp'), (h2 _).2 ⟨c, h6, h7⟩, rfl⟩
end
section
variable (s : List UInt8) (lines : Bool)
theorem has_one (i : Nat) (sp : Spans) (j : Nat) : Has [(i, sp)] j ↔ j = i := by unfold Has; simp [eq_comm]
theorem has_nil (j : Nat) : ¬ Has [] j := by unfold Has; simp
mutual
theorem parses_E : ∀ (t : Re) (i : Nat) (sp : Spans) (l : List Parse), t.nob → i ≤ s.length → parses s lines t i sp = some l → ∀ j, Has l j ↔ t.E s lines i j
  | .mk p xs, i, sp, l, hb, hi, h, j => by
    rw [Re.nob] at hb
    obtain ⟨⟨hop1, hop8⟩, hb⟩ := hb
    rw [parses] at h
    rw [Re.E]
    split at h
    · rename_i h1
      rw [if_pos h1]
      have := Option.some.inj h; subst this
      exact has_one _ _ _
    rename_i h1
    rw [if_neg h1]
    split at h
    · rename_i h2
      rw [if_pos h2]
      have := Option.some.inj h; subst this
      split
      · rename_i hc
        rw [Bool.and_eq_true, decide_eq_true_eq] at hc
        rw [has_one]
        exact ⟨fun h => ⟨hc, h⟩, fun h => h.2⟩
      · rename_i hc
        rw [Bool.and_eq_true, decide_eq_true_eq] at hc
        exact ⟨fun h => absurd h (has_nil j), fun h => absurd h.1 hc⟩
    rename_i h2
    rw [if_neg h2]
    split at h
    · rename_i h3
      rw [if_pos h3]
      obtain ⟨m, h4, h5⟩ := Option.bind_eq_some_iff.1 h
      have hc := catP_E xs [(i, sp)] m hb (fun q hq => by rw [List.mem_singleton.1 hq]; exact hi) h4
      rw [fin_has h5 hc.2, hc.1 j]
      constructor
      · rintro ⟨q, hq, hE⟩; rw [List.mem_singleton.1 hq] at hE; exact hE
      · intro hE; exact ⟨(i, sp), by simp, hE⟩
    rename_i h3
    rw [if_neg h3]
    split at h
    · rename_i h4
      rw [if_pos h4]
      obtain ⟨m, h5, h6⟩ := Option.bind_eq_some_iff.1 h
      have hc := altP_E xs i sp m hb hi h5
      rw [fin_has h6 (fun q hq => (Re.EAlt_le s lines xs i q.1 hi ((hc q.1).1 ⟨q, hq, rfl⟩)).2), hc j]
    rename_i h4
    rw [if_neg h4]
    split at h
    · rename_i h5
      rw [if_pos h5]
      obtain ⟨st, h6, h7⟩ := Option.bind_eq_some_iff.1 h
      have hc := visit_has p (withinAll xs) (firstP s lines xs) s.length (Re.EFirst s lines xs) (fun i sp l hi hl j => firstP_E xs i sp l hb hi hl j) (fun i j => Re.EFirst_le s lines xs i j) h6 hi
      rw [fin_has h7 (fun q hq => ?_), hc j]
      obtain ⟨n, -, -, hn⟩ := (hc q.1).1 ⟨q, hq, rfl⟩
      exact (iter_le (fun i j => Re.EFirst_le s lines xs i j) n i q.1 hi hn).2
    rename_i h5
    rw [if_neg h5]
    split at h
    · rename_i h6
      rw [if_pos h6]
      obtain ⟨m, h7, h8⟩ := Option.bind_eq_some_iff.1 h
      have hc := firstP_E xs i sp m hb hi h7
      have hm : ∀ k, Has (m.map fun q => (q.1, q.2.set (p.gr.toNat - 1) ((i : Int), (q.1 : Int)))) k ↔ Has m k := by
        intro k
        constructor
        · rintro ⟨q, hq, rfl⟩
          obtain ⟨q0, h9, rfl⟩ := List.mem_map.1 hq
          exact ⟨q0, h9, rfl⟩
        · rintro ⟨q0, h9, rfl⟩
          exact ⟨_, List.mem_map.2 ⟨q0, h9, rfl⟩, rfl⟩
      rw [fin_has h8 (fun q hq => (Re.EFirst_le s lines xs i q.1 hi ((hc q.1).1 ((hm _).1 ⟨q, hq, rfl⟩))).2), hm, hc j]
    rename_i h6
    rw [if_neg h6]
    split at h
    · rename_i h7
      rw [if_pos h7]
      have := Option.some.inj h; subst this
      split
      · rename_i hc
        rw [Bool.or_eq_true, Bool.and_eq_true, decide_eq_true_eq, decide_eq_true_eq] at hc
        rw [has_one]
        exact ⟨fun h => ⟨hc, h⟩, fun h => h.2⟩
      · rename_i hc
        rw [Bool.or_eq_true, Bool.and_eq_true, decide_eq_true_eq, decide_eq_true_eq] at hc
        exact ⟨fun h => absurd h (has_nil j), fun h => absurd h.1 hc⟩
    rename_i h7
    rw [if_neg h7]
    split at h
    · rename_i h8
      rw [if_pos h8]
      have := Option.some.inj h; subst this
      split
      · rename_i hc
        rw [Bool.or_eq_true, Bool.and_eq_true, decide_eq_true_eq, decide_eq_true_eq] at hc
        rw [has_one]
        exact ⟨fun h => ⟨hc, h⟩, fun h => h.2⟩
      · rename_i hc
        rw [Bool.or_eq_true, Bool.and_eq_true, decide_eq_true_eq, decide_eq_true_eq] at hc
        exact ⟨fun h => absurd h (has_nil j), fun h => absurd h.1 hc⟩
    · exfalso; omega
theorem firstP_E : ∀ (xs : List Re) (i : Nat) (sp : Spans) (l : List Parse), Re.nobs xs → i ≤ s.length → firstP s lines xs i sp = some l → ∀ j, Has l j ↔ Re.EFirst s lines xs i j
  | [], i, sp, l, _, _, h, j => by rw [firstP] at h; cases h
  | x :: xs, i, sp, l, hb, hi, h, j => by
    rw [firstP] at h
    rw [Re.nobs] at hb
    rw [Re.EFirst]
    exact parses_E x i sp l hb.1 hi h j
theorem altP_E : ∀ (xs : List Re) (i : Nat) (sp : Spans) (l : List Parse), Re.nobs xs → i ≤ s.length → altP s lines xs i sp = some l → ∀ j, Has l j ↔ Re.EAlt s lines xs i j
  | [], i, sp, l, _, _, h, j => by
    rw [altP] at h; have := Option.some.inj h; subst this
    rw [Re.EAlt]
    exact ⟨fun h => absurd h (has_nil j), fun h => h.elim⟩
  | x :: xs, i, sp, l, hb, hi, h, j => by
    rw [altP] at h
    rw [Re.nobs] at hb
    simp only [Option.bind_eq_some_iff] at h
    obtain ⟨a, h1, b, h2, h3⟩ := h
    have := Option.some.inj h3; subst this
    rw [Re.EAlt, ← parses_E x i sp a hb.1 hi h1 j, ← altP_E xs i sp b hb.2 hi h2 j]
    unfold Has
    constructor
    · rintro ⟨q, hq, e⟩
      rcases List.mem_append.1 hq with hq | hq
      · exact .inl ⟨q, hq, e⟩
      · exact .inr ⟨q, hq, e⟩
    · rintro (⟨q, hq, e⟩ | ⟨q, hq, e⟩)
      · exact ⟨q, List.mem_append.2 (.inl hq), e⟩
      · exact ⟨q, List.mem_append.2 (.inr hq), e⟩
theorem catP_E : ∀ (xs : List Re) (l m : List Parse), Re.nobs xs → (∀ q, q ∈ l → q.1 ≤ s.length) → catP s lines xs l = some m → (∀ j, Has m j ↔ ∃ q, q ∈ l ∧ Re.ECat s lines xs q.1 j) ∧ ∀ q, q ∈ m → q.1 ≤ s.length
  | [], l, m, _, hl, h => by
    rw [catP] at h; have := Option.some.inj h; subst this
    refine ⟨fun j => ?_, hl⟩
    unfold Has
    simp only [Re.ECat]
    exact ⟨fun ⟨q, h1, h2⟩ => ⟨q, h1, h2.symm⟩, fun ⟨q, h1, h2⟩ => ⟨q, h1, h2.symm⟩⟩
  | x :: xs, l, m, hb, hl, h => by
    rw [catP] at h
    rw [Re.nobs] at hb
    rw [Option.bind_eq_some_iff] at h
    obtain ⟨ms, h1, h2⟩ := h
    split at h2
    · cases h2
    have hmem : ∀ q, q ∈ nub ms.flatten ↔ ∃ a, a ∈ l ∧ ∃ b, parses s lines x a.1 a.2 = some b ∧ q ∈ b := fun q => by rw [nub_mem, mapM_mem l ms h1]
    have hE : ∀ k, Has (nub ms.flatten) k ↔ ∃ a, a ∈ l ∧ x.E s lines a.1 k := by
      intro k
      constructor
      · rintro ⟨q, hq, rfl⟩
        obtain ⟨a, ha, b, hb1, hb2⟩ := (hmem q).1 hq
        exact ⟨a, ha, (parses_E x a.1 a.2 b hb.1 (hl a ha) hb1 q.1).1 ⟨q, hb2, rfl⟩⟩
      · rintro ⟨a, ha, hk⟩
        obtain ⟨b, hb1⟩ : ∃ b, parses s lines x a.1 a.2 = some b := by
          cases hp : parses s lines x a.1 a.2 with
          | some b => exact ⟨b, rfl⟩
          | none =>
            exfalso
            have : ∀ (l : List Parse) (ms : List (List Parse)), l.mapM (fun q => parses s lines x q.1 q.2) = some ms → a ∈ l → False := by
              intro l
              induction l with
              | nil => intro ms _ h; cases h
              | cons c l ih =>
                intro ms h hm
                rw [List.mapM_cons] at h
                cases hc : parses s lines x c.1 c.2 with
                | none => simp [hc] at h
                | some b0 =>
                  cases h2 : l.mapM (fun q => parses s lines x q.1 q.2) with
                  | none => simp [hc, h2] at h
                  | some m0 =>
                    rcases List.mem_cons.1 hm with rfl | hm
                    · rw [hp] at hc; cases hc
                    · exact ih m0 h2 hm
            exact this l ms h1 ha
        obtain ⟨q, hq, rfl⟩ := (parses_E x a.1 a.2 b hb.1 (hl a ha) hb1 k).2 hk
        exact ⟨q, (hmem q).2 ⟨a, ha, b, hb1, hq⟩, rfl⟩
    have hl2 : ∀ q, q ∈ nub ms.flatten → q.1 ≤ s.length := fun q hq => by
      obtain ⟨a, ha, hk⟩ := (hE q.1).1 ⟨q, hq, rfl⟩
      exact (Re.E_le s lines x a.1 q.1 (hl a ha) hk).2
    obtain ⟨h3, h4⟩ := catP_E xs (nub ms.flatten) m hb.2 hl2 h2
    refine ⟨fun j => ?_, h4⟩
    rw [h3 j]
    simp only [Re.ECat]
    constructor
    · rintro ⟨q, hq, hk⟩
      obtain ⟨a, ha, h5⟩ := (hE q.1).1 ⟨q, hq, rfl⟩
      exact ⟨a, ha, q.1, h5, hk⟩
    · rintro ⟨a, ha, k, h5, hk⟩
      obtain ⟨q, hq, rfl⟩ := (hE k).2 ⟨a, ha, h5⟩
      exact ⟨q, hq, hk⟩
end
end
end Go.Proofs.Ythnpbopnpdlmnaa

/- Expanding keeps the ends of a tree, plainly. -/
namespace Go.Proofs.Ythnpbopnpdlmnaa
open Go.RowKit

mutual
def Re.simp1 : Re → Prop
  | .mk p xs => (p.op = 5 → (p.lo = 0 ∧ (p.hi = 1 ∨ p.hi = -1)) ∨ (p.lo = 1 ∧ p.hi = -1)) ∧ Re.simps1 xs
def Re.simps1 : List Re → Prop
  | [] => True
  | x :: xs => x.simp1 ∧ Re.simps1 xs
end
theorem Iter.snoc {R : Nat → Nat → Prop} : ∀ (m n i j : Nat), Iter R (m + n) i j ↔ ∃ k, Iter R m i k ∧ Iter R n k j
  | 0, n, i, j => by
    rw [Nat.zero_add]
    constructor
    · exact fun h => ⟨i, rfl, h⟩
    · rintro ⟨k, h1, h2⟩; rw [Iter] at h1; subst h1; exact h2
  | m + 1, n, i, j => by
    rw [show m + 1 + n = (m + n) + 1 by omega]
    constructor
    · rintro ⟨k, h1, h2⟩
      obtain ⟨l, h3, h4⟩ := (Iter.snoc m n k j).1 h2
      exact ⟨l, ⟨k, h1, h3⟩, h4⟩
    · rintro ⟨l, ⟨k, h1, h3⟩, h4⟩
      exact ⟨k, h1, (Iter.snoc m n k j).2 ⟨l, h3, h4⟩⟩
section
variable (s : List UInt8) (lines : Bool)
theorem Re.ECat_append : ∀ (xs ys : List Re) (i j : Nat), Re.ECat s lines (xs ++ ys) i j ↔ ∃ k, Re.ECat s lines xs i k ∧ Re.ECat s lines ys k j
  | [], ys, i, j => by
    constructor
    · exact fun h => ⟨i, by rw [Re.ECat], h⟩
    · rintro ⟨k, h1, h2⟩; rw [Re.ECat] at h1; subst h1; exact h2
  | x :: xs, ys, i, j => by
    rw [List.cons_append, Re.ECat]
    constructor
    · rintro ⟨k, h1, h2⟩
      obtain ⟨l, h3, h4⟩ := (Re.ECat_append xs ys k j).1 h2
      exact ⟨l, by rw [Re.ECat]; exact ⟨k, h1, h3⟩, h4⟩
    · rintro ⟨l, h3, h4⟩
      rw [Re.ECat] at h3
      obtain ⟨k, h1, h3⟩ := h3
      exact ⟨k, h1, (Re.ECat_append xs ys k j).2 ⟨l, h3, h4⟩⟩
theorem Re.ECat_same (x : Re) : ∀ (n i j : Nat), Re.ECat s lines (List.replicate n x) i j ↔ Iter (x.E s lines) n i j
  | 0, i, j => by rw [List.replicate_zero, Re.ECat, Iter]
  | n + 1, i, j => by
    rw [List.replicate_succ, Re.ECat, Iter]
    exact exists_congr fun k => and_congr_right fun _ => Re.ECat_same x n k j
theorem Re.E_rept (x : Re) (lo hi : Int) (i j : Nat) : (x.rept lo hi).E s lines i j ↔ ∃ n : Nat, lo ≤ (n : Int) ∧ (hi < 0 ∨ (n : Int) ≤ hi) ∧ Iter (x.E s lines) n i j := by
  unfold Re.rept Pay.ofRep
  rw [Re.E]
  simp only [show ¬ (5 : Int) = 1 by decide, show ¬ (5 : Int) = 2 by decide, show ¬ (5 : Int) = 3 by decide, show ¬ (5 : Int) = 4 by decide, if_false, if_true]
  have e : Re.EFirst s lines [x] = x.E s lines := by funext a b; rw [Re.EFirst]
  rw [e]
theorem Re.ECat_opts (x : Re) : ∀ (m i j : Nat), Re.ECat s lines (List.replicate m (x.rept 0 1)) i j ↔ ∃ n, n ≤ m ∧ Iter (x.E s lines) n i j
  | 0, i, j => by
    rw [List.replicate_zero, Re.ECat]
    constructor
    · intro h; exact ⟨0, Nat.le_refl _, h⟩
    · rintro ⟨n, h1, h2⟩
      obtain rfl : n = 0 := by omega
      exact h2
  | m + 1, i, j => by
    rw [List.replicate_succ, Re.ECat]
    constructor
    · rintro ⟨k, h1, h2⟩
      obtain ⟨n1, -, h4, h5⟩ := (Re.E_rept s lines x 0 1 i k).1 h1
      obtain ⟨n2, h6, h7⟩ := (Re.ECat_opts x m k j).1 h2
      exact ⟨n1 + n2, by omega, (Iter.snoc n1 n2 i j).2 ⟨k, h5, h7⟩⟩
    · rintro ⟨n, h1, h2⟩
      cases n with
      | zero =>
        exact ⟨i, (Re.E_rept s lines x 0 1 i i).2 ⟨0, by omega, .inr (by omega), rfl⟩, (Re.ECat_opts x m i j).2 ⟨0, Nat.zero_le _, h2⟩⟩
      | succ n =>
        obtain ⟨k, h3, h4⟩ := h2
        exact ⟨k, (Re.E_rept s lines x 0 1 i k).2 ⟨1, by omega, .inr (by omega), ⟨k, h3, rfl⟩⟩, (Re.ECat_opts x m k j).2 ⟨n, by omega, h4⟩⟩
theorem Re.E_counted (x : Re) (lo hi : Int) (h0 : 0 ≤ lo) (h1 : hi = -1 ∨ lo ≤ hi) (h2 : hi ≠ 0) (i j : Nat) : (x.counted lo hi).E s lines i j ↔ ∃ n : Nat, lo ≤ (n : Int) ∧ (hi < 0 ∨ (n : Int) ≤ hi) ∧ Iter (x.E s lines) n i j := by
  have cat : ∀ (xs : List Re), (Re.mk (Pay.of 3) xs).E s lines i j ↔ Re.ECat s lines xs i j := fun xs => by
    unfold Pay.of
    rw [Re.E]
    simp only [show ¬ (3 : Int) = 1 by decide, show ¬ (3 : Int) = 2 by decide, if_false, if_true]
  unfold Re.counted
  split
  · exact Re.E_rept s lines x lo hi i j
  split
  · rename_i h
    obtain ⟨rfl, rfl⟩ := h
    constructor
    · intro h; exact ⟨1, by omega, .inr (by omega), ⟨j, h, rfl⟩⟩
    · rintro ⟨n, h3, h4, h5⟩
      obtain rfl : n = 1 := by omega
      obtain ⟨k, h6, h7⟩ := h5
      rw [Iter] at h7; subst h7; exact h6
  split
  · rename_i h
    subst h
    rw [cat, Re.ECat_same]
    constructor
    · intro h; exact ⟨hi.toNat, by omega, .inr (by omega), h⟩
    · rintro ⟨n, h3, h4, h5⟩
      obtain rfl : n = hi.toNat := by omega
      exact h5
  split
  · rename_i h _ _ hm
    subst hm
    rw [cat, Re.ECat_append]
    constructor
    · rintro ⟨k, h3, h4⟩
      rw [Re.ECat_same] at h3
      rw [Re.ECat] at h4
      obtain ⟨l, h5, h6⟩ := h4
      rw [Re.ECat] at h6
      subst h6
      obtain ⟨n, h7, -, h8⟩ := (Re.E_rept s lines x 1 (-1) k j).1 h5
      exact ⟨(lo - 1).toNat + n, by omega, .inl (by omega), (Iter.snoc _ n i j).2 ⟨k, h3, h8⟩⟩
    · rintro ⟨n, h3, -, h5⟩
      by_cases hl : 1 ≤ lo
      · rw [show n = (lo - 1).toNat + (n - (lo - 1).toNat) by omega] at h5
        obtain ⟨k, h6, h7⟩ := (Iter.snoc _ _ i j).1 h5
        exact ⟨k, (Re.ECat_same s lines x _ i k).2 h6, by rw [Re.ECat]; exact ⟨j, (Re.E_rept s lines x 1 (-1) k j).2 ⟨n - (lo - 1).toNat, by omega, .inl (by omega), h7⟩, by rw [Re.ECat]⟩⟩
      · exact absurd (.inl ⟨by omega, .inr rfl⟩) h
  · rw [cat, Re.ECat_append]
    constructor
    · rintro ⟨k, h3, h4⟩
      rw [Re.ECat_same] at h3
      obtain ⟨n, h7, h8⟩ := (Re.ECat_opts s lines x _ k j).1 h4
      exact ⟨lo.toNat + n, by omega, .inr (by omega), (Iter.snoc _ n i j).2 ⟨k, h3, h8⟩⟩
    · rintro ⟨n, h3, h4, h5⟩
      rw [show n = lo.toNat + (n - lo.toNat) by omega] at h5
      obtain ⟨k, h6, h7⟩ := (Iter.snoc _ _ i j).1 h5
      exact ⟨k, (Re.ECat_same s lines x _ i k).2 h6, (Re.ECat_opts s lines x _ k j).2 ⟨n - lo.toNat, by omega, h7⟩⟩
mutual
theorem Re.E_expand : ∀ (t : Re) (i j : Nat), t.nob → t.fine → t.okr = true → (t.expand.E s lines i j ↔ t.E s lines i j)
  | .mk p xs, i, j, hb, hf, ho => by
    rw [Re.nob] at hb
    rw [Re.fine] at hf
    rw [Re.okr, Bool.and_eq_true, decide_eq_true_eq] at ho
    rw [Re.expand]
    by_cases o5 : p.op = 5
    · obtain ⟨x, rfl⟩ : ∃ x, xs = [x] := List.length_eq_one_iff.1 (hf.2.1 o5)
      have e3 : Re.EFirst s lines [x] = x.E s lines := by funext a b; rw [Re.EFirst]
      have hR : ∀ (a b : Nat), (Re.mk p [x]).E s lines a b ↔ ∃ n : Nat, p.lo ≤ (n : Int) ∧ (p.hi < 0 ∨ (n : Int) ≤ p.hi) ∧ Iter (x.E s lines) n a b := fun a b => by
        rw [Re.E, if_neg (by omega), if_neg (by omega), if_neg (by omega), if_neg (by omega), if_pos o5, e3]
      rw [hR]
      have hbr := Pay.badRep_false (ho.1 o5)
      by_cases h0 : p.hi = 0
      · rw [if_pos ⟨o5, h0⟩]
        have e1 : (Re.mk (Pay.of 1) []).E s lines i j ↔ j = i := by
          unfold Pay.of
          rw [Re.E, if_pos rfl]
        rw [e1]
        constructor
        · rintro rfl
          exact ⟨0, by omega, .inr (by omega), rfl⟩
        · rintro ⟨n, h1, h2, h3⟩
          obtain rfl : n = 0 := by omega
          exact h3
      · rw [if_neg (fun h => h0 h.2), if_pos o5]
        have e2 : (Re.expands [x]).headD (.mk (Pay.of 0) []) = x.expand := by rw [Re.expands]; rfl
        rw [e2, Re.E_counted s lines x.expand p.lo p.hi hbr.1.1 (by omega) h0]
        rw [Re.nobs] at hb
        rw [Re.fines] at hf
        have hox := ho.2
        rw [Re.okrs, Bool.and_eq_true] at hox
        have e4 : x.expand.E s lines = x.E s lines := by
          funext a b
          exact propext (Re.E_expand x a b hb.2.1 hf.2.2.2.1 hox.1)
        rw [e4]
    · rw [if_neg (fun h => o5 h.1), if_neg o5, Re.E, Re.E]
      by_cases o1 : p.op = 1
      · rw [if_pos o1, if_pos o1]
      rw [if_neg o1, if_neg o1]
      by_cases o2 : p.op = 2
      · rw [if_pos o2, if_pos o2]
      rw [if_neg o2, if_neg o2]
      by_cases o3 : p.op = 3
      · rw [if_pos o3, if_pos o3]
        exact Re.ECat_expand xs i j hb.2 hf.2.2.2 ho.2
      rw [if_neg o3, if_neg o3]
      by_cases o4 : p.op = 4
      · rw [if_pos o4, if_pos o4]
        exact Re.EAlt_expand xs i j hb.2 hf.2.2.2 ho.2
      rw [if_neg o4, if_neg o4, if_neg o5, if_neg o5]
      by_cases o6 : p.op = 6
      · rw [if_pos o6, if_pos o6]
        obtain ⟨x, rfl⟩ : ∃ x, xs = [x] := List.length_eq_one_iff.1 (hf.2.2.1.1 o6)
        rw [Re.nobs] at hb
        rw [Re.fines] at hf
        have hox := ho.2
        rw [Re.okrs, Bool.and_eq_true] at hox
        rw [Re.expands, Re.EFirst, Re.EFirst]
        exact Re.E_expand x i j hb.2.1 hf.2.2.2.1 hox.1
      rw [if_neg o6, if_neg o6]
theorem Re.EAlt_expand : ∀ (xs : List Re) (i j : Nat), Re.nobs xs → Re.fines xs → Re.okrs xs = true → (Re.EAlt s lines (Re.expands xs) i j ↔ Re.EAlt s lines xs i j)
  | [], i, j, _, _, _ => by rw [Re.expands]
  | x :: xs, i, j, hb, hf, ho => by
    rw [Re.nobs] at hb
    rw [Re.fines] at hf
    rw [Re.okrs, Bool.and_eq_true] at ho
    rw [Re.expands, Re.EAlt, Re.EAlt, Re.E_expand x i j hb.1 hf.1 ho.1, Re.EAlt_expand xs i j hb.2 hf.2 ho.2]
theorem Re.ECat_expand : ∀ (xs : List Re) (i j : Nat), Re.nobs xs → Re.fines xs → Re.okrs xs = true → (Re.ECat s lines (Re.expands xs) i j ↔ Re.ECat s lines xs i j)
  | [], i, j, _, _, _ => by rw [Re.expands]
  | x :: xs, i, j, hb, hf, ho => by
    rw [Re.nobs] at hb
    rw [Re.fines] at hf
    rw [Re.okrs, Bool.and_eq_true] at ho
    rw [Re.expands, Re.ECat, Re.ECat]
    exact exists_congr fun k => and_congr (Re.E_expand x i k hb.1 hf.1 ho.1) (Re.ECat_expand xs k j hb.2 hf.2 ho.2)
end
end
theorem Re.nobs_of : ∀ (xs : List Re), (∀ a, a ∈ xs → a.nob) → Re.nobs xs
  | [], _ => by rw [Re.nobs]; trivial
  | t :: ts, h => by rw [Re.nobs]; exact ⟨h t (by simp), Re.nobs_of ts fun a ha => h a (by simp [ha])⟩
theorem Re.simps1_of : ∀ (xs : List Re), (∀ a, a ∈ xs → a.simp1) → Re.simps1 xs
  | [], _ => by rw [Re.simps1]; trivial
  | t :: ts, h => by rw [Re.simps1]; exact ⟨h t (by simp), Re.simps1_of ts fun a ha => h a (by simp [ha])⟩
theorem Re.rept_nob {x : Re} (h : x.nob) (lo hi : Int) : (x.rept lo hi).nob := by
  unfold Re.rept
  rw [Re.nob]
  exact ⟨⟨show (1 : Int) ≤ 5 by decide, show (5 : Int) ≤ 8 by decide⟩, Re.nobs_of _ fun a ha => by rw [List.mem_singleton.1 ha]; exact h⟩
theorem Re.rept_simp1 {x : Re} (h : x.simp1) {lo hi : Int} (hs : (lo = 0 ∧ (hi = 1 ∨ hi = -1)) ∨ (lo = 1 ∧ hi = -1)) : (x.rept lo hi).simp1 := by
  unfold Re.rept
  rw [Re.simp1]
  exact ⟨fun _ => hs, Re.simps1_of _ fun a ha => by rw [List.mem_singleton.1 ha]; exact h⟩
theorem Re.cat_nob {xs : List Re} (h : ∀ a, a ∈ xs → a.nob) : (Re.mk (Pay.of 3) xs).nob := by
  rw [Re.nob]
  exact ⟨⟨show (1 : Int) ≤ 3 by decide, show (3 : Int) ≤ 8 by decide⟩, Re.nobs_of xs h⟩
theorem Re.cat_simp1 {xs : List Re} (h : ∀ a, a ∈ xs → a.simp1) : (Re.mk (Pay.of 3) xs).simp1 := by
  rw [Re.simp1]
  exact ⟨fun e => absurd e (show (3 : Int) ≠ 5 by decide), Re.simps1_of xs h⟩
theorem Re.one_nob : (Re.mk (Pay.of 1) []).nob := by
  rw [Re.nob, Re.nobs]
  exact ⟨⟨show (1 : Int) ≤ 1 by decide, show (1 : Int) ≤ 8 by decide⟩, trivial⟩
theorem Re.one_simp1 : (Re.mk (Pay.of 1) []).simp1 := by
  rw [Re.simp1, Re.simps1]
  exact ⟨fun e => absurd e (show (1 : Int) ≠ 5 by decide), trivial⟩
theorem Re.counted_nob {x : Re} (h : x.nob) (lo hi : Int) : (x.counted lo hi).nob := by
  unfold Re.counted
  split
  · exact Re.rept_nob h lo hi
  split
  · exact Re.one_nob
  split
  · exact h
  split
  · exact Re.cat_nob fun a ha => by rw [(List.mem_replicate.1 ha).2]; exact h
  split
  · refine Re.cat_nob fun a ha => ?_
    rcases List.mem_append.1 ha with ha | ha
    · rw [(List.mem_replicate.1 ha).2]; exact h
    · rw [List.mem_singleton.1 ha]; exact Re.rept_nob h _ _
  · refine Re.cat_nob fun a ha => ?_
    rcases List.mem_append.1 ha with ha | ha
    · rw [(List.mem_replicate.1 ha).2]; exact h
    · rw [(List.mem_replicate.1 ha).2]; exact Re.rept_nob h _ _
theorem Re.counted_simp1 {x : Re} (h : x.simp1) (lo hi : Int) : (x.counted lo hi).simp1 := by
  unfold Re.counted
  split
  · rename_i hs; exact Re.rept_simp1 h hs
  split
  · exact Re.one_simp1
  split
  · exact h
  split
  · exact Re.cat_simp1 fun a ha => by rw [(List.mem_replicate.1 ha).2]; exact h
  split
  · refine Re.cat_simp1 fun a ha => ?_
    rcases List.mem_append.1 ha with ha | ha
    · rw [(List.mem_replicate.1 ha).2]; exact h
    · rw [List.mem_singleton.1 ha]; exact Re.rept_simp1 h (.inr ⟨rfl, rfl⟩)
  · refine Re.cat_simp1 fun a ha => ?_
    rcases List.mem_append.1 ha with ha | ha
    · rw [(List.mem_replicate.1 ha).2]; exact h
    · rw [(List.mem_replicate.1 ha).2]; exact Re.rept_simp1 h (.inl ⟨rfl, .inl rfl⟩)
mutual
theorem Re.expand_simp : ∀ (t : Re), t.nob → t.fine → t.expand.nob ∧ t.expand.simp1
  | .mk p xs, hb, hf => by
    rw [Re.nob] at hb
    rw [Re.fine] at hf
    have IH := Re.expands_simp xs hb.2 hf.2.2.2
    rw [Re.expand]
    by_cases h0 : p.op = 5 ∧ p.hi = 0
    · rw [if_pos h0]; exact ⟨Re.one_nob, Re.one_simp1⟩
    rw [if_neg h0]
    by_cases o5 : p.op = 5
    · rw [if_pos o5]
      obtain ⟨x, rfl⟩ : ∃ x, xs = [x] := List.length_eq_one_iff.1 (hf.2.1 o5)
      have e2 : (Re.expands [x]).headD (.mk (Pay.of 0) []) = x.expand := by rw [Re.expands]; rfl
      have e3 : Re.expands [x] = [x.expand] := by rw [Re.expands, Re.expands]
      rw [e3, Re.nobs, Re.simps1] at IH
      rw [e2]
      exact ⟨Re.counted_nob IH.1.1 _ _, Re.counted_simp1 IH.2.1 _ _⟩
    · rw [if_neg o5, Re.nob, Re.simp1]
      exact ⟨⟨hb.1, IH.1⟩, fun h => absurd h o5, IH.2⟩
theorem Re.expands_simp : ∀ (xs : List Re), Re.nobs xs → Re.fines xs → Re.nobs (Re.expands xs) ∧ Re.simps1 (Re.expands xs)
  | [], _, _ => by rw [Re.expands, Re.nobs, Re.simps1]; exact ⟨trivial, trivial⟩
  | x :: xs, hb, hf => by
    rw [Re.nobs] at hb
    rw [Re.fines] at hf
    have h1 := Re.expand_simp x hb.1 hf.1
    have h2 := Re.expands_simp xs hb.2 hf.2
    rw [Re.expands, Re.nobs, Re.simps1]
    exact ⟨⟨h1.1, h2.1⟩, h1.2, h2.2⟩
end
end Go.Proofs.Ythnpbopnpdlmnaa
