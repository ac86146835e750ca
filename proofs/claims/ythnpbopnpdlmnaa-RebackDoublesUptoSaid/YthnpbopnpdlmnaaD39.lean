/- Trees without groups are never too many parses, plainly; and the laws of composing and doubling. -/
import Derived.Test.YthnpbopnpdlmnaaD38
import Derived.Test.YthnpbopnpdlmnaaD23
import Derived.Test.YthnpbopnpdlmnaaD35
namespace Go.Proofs.Ythnpbopnpdlmnaa
open Go.RowKit

mutual
def Re.tight : Re → Prop
  | .mk p xs => (p.op = 5 → (0 ≤ p.lo ∧ p.lo ≤ 64) ∧ p.hi ≤ 64) ∧ Re.tights xs
def Re.tights : List Re → Prop
  | [] => True
  | x :: xs => x.tight ∧ Re.tights xs
end
mutual
theorem Re.tight_ranged : ∀ (t : Re) (b n : Nat), t.ranged b = some n → t.tight
  | .mk p xs, b, n, h => by
    rw [Re.ranged] at h
    split at h
    · cases h
    · rename_i h5
      rw [Re.tight]
      have hp : p.op = 5 → (0 ≤ p.lo ∧ p.lo ≤ 64) ∧ p.hi ≤ 64 := by
        intro ho
        have h6 : p.badRep = false := by
          cases hb : p.badRep with
          | false => rfl
          | true => exact absurd ⟨ho, hb⟩ h5
        simp only [Pay.badRep, Bool.or_eq_false_iff, Bool.and_eq_false_iff, decide_eq_false_iff_not] at h6
        omega
      split at h
      · split at h
        · exact ⟨hp, Re.tights_ranged xs _ n h⟩
        · cases h
      · exact ⟨hp, Re.tights_ranged xs _ n h⟩
theorem Re.tights_ranged : ∀ (xs : List Re) (b n : Nat), Re.rangeds xs b = some n → Re.tights xs
  | [], b, n, h => by rw [Re.tights]; trivial
  | t :: ts, b, n, h => by
    rw [Re.rangeds] at h
    rw [Re.tights]
    cases hr : t.ranged b with
    | none => rw [hr] at h; cases h
    | some b2 =>
      rw [hr] at h
      exact ⟨Re.tight_ranged t b b2 hr, Re.tights_ranged ts b2 n h⟩
end
theorem Re.tight_err {t : Re} (h : t.err = 0) : t.tight := by
  unfold Re.err at h
  cases h1 : t.typed with
  | false => simp [h1] at h
  | true =>
    cases h2 : t.ranged 0 with
    | none => simp [h1, h2] at h
    | some n => exact Re.tight_ranged t 0 n h2
mutual
theorem Re.nob_ok0 : ∀ (t : Re), t.ok 0 → t.nob ∧ withinOf t = []
  | .mk p xs, h => by
    rw [Re.ok] at h
    obtain ⟨⟨hop, -⟩, -, -, h69, hoks⟩ := h
    have h6 : p.op ≠ 6 := fun e => by have := h69 (.inl e); omega
    have h9 : p.op ≠ 9 := fun e => by have := h69 (.inr e); omega
    obtain ⟨h1, h2⟩ := Re.nobs_ok0 xs hoks
    rw [Re.nob, withinOf, if_neg h6, h2]
    exact ⟨⟨by omega, h1⟩, rfl⟩
theorem Re.nobs_ok0 : ∀ (xs : List Re), Re.oks 0 xs → Re.nobs xs ∧ withinAll xs = []
  | [], _ => by rw [Re.nobs, withinAll]; exact ⟨trivial, rfl⟩
  | x :: xs, h => by
    rw [Re.oks] at h
    obtain ⟨h1, h2⟩ := Re.nob_ok0 x h.1
    obtain ⟨h3, h4⟩ := Re.nobs_ok0 xs h.2
    rw [Re.nobs, withinAll, h2, h4]
    exact ⟨⟨h1, h3⟩, rfl⟩
end
def Flat (L : Nat) (sp : Spans) (l : List Parse) : Prop := ∀ q, q ∈ l → q.1 ≤ L ∧ q.2 = sp
theorem Flat.len {L : Nat} {sp : Spans} {l : List Parse} (h : Flat L sp l) (hn : l.Nodup) : l.length ≤ L + 1 := by
  have h1 : l ⊆ (List.range (L + 1)).map fun j => (j, sp) := by
    intro q hq
    obtain ⟨h2, h3⟩ := h q hq
    exact List.mem_map.2 ⟨q.1, by simp; omega, by rw [← h3]⟩
  have := List.Nodup.length_le_of_subset hn h1
  simpa using this
theorem Flat.nub {L : Nat} {sp : Spans} {l : List Parse} (h : Flat L sp l) : Flat L sp (nub l) := fun q hq => h q (nub_mem.1 hq)
theorem Flat.fin {L : Nat} {sp : Spans} {l : List Parse} (h : Flat L sp l) (hL : L ≤ 4000) : ∃ m, fin L l = some m ∧ Flat L sp m := by
  have h1 := h.nub.len (nub_nodup l)
  refine ⟨sortP L (Go.Proofs.Ythnpbopnpdlmnaa.nub l), by unfold Go.Proofs.Ythnpbopnpdlmnaa.fin; rw [if_neg (by unfold most; omega)], fun q hq => h q (nub_mem.1 (sortP_mem.1 hq).1)⟩
section
variable (s : List UInt8) (lines : Bool)
mutual
theorem parses_total (hL : s.length ≤ 40) : ∀ (t : Re) (i : Nat) (sp : Spans), t.ok 0 → t.tight → i ≤ s.length → ∃ l, parses s lines t i sp = some l ∧ Flat s.length sp l
  | .mk p xs, i, sp, hok, ht, hi => by
    rw [Re.ok] at hok
    obtain ⟨⟨hop, -⟩, h34, h56, h69, hoks⟩ := hok
    rw [Re.tight] at ht
    obtain ⟨ht5, hts⟩ := ht
    have h6 : p.op ≠ 6 := fun e => by have := h69 (.inl e); omega
    have h9 : p.op ≠ 9 := fun e => by have := h69 (.inr e); omega
    have hone : Flat s.length sp [(i, sp)] := fun q hq => by rw [List.mem_singleton.1 hq]; exact ⟨hi, rfl⟩
    have hnil : Flat s.length sp [] := fun q hq => by cases hq
    rw [parses]
    split
    · exact ⟨_, rfl, hone⟩
    split
    · refine ⟨_, rfl, ?_⟩
      split
      · rename_i hc
        rw [Bool.and_eq_true, decide_eq_true_eq] at hc
        intro q hq; rw [List.mem_singleton.1 hq]; exact ⟨by dsimp only; omega, rfl⟩
      · exact hnil
    split
    · obtain ⟨m, h1, h2⟩ := catP_total hL xs [(i, sp)] sp hoks hts hone
      rw [h1]
      exact h2.fin (by omega)
    split
    · obtain ⟨m, h1, h2⟩ := altP_total hL xs i sp hoks hts hi
      rw [h1]
      exact h2.fin (by omega)
    split
    · rename_i h5
      have ht := ht5 h5
      obtain ⟨x0, rfl⟩ := h56 (.inl h5)
      have hw := (Re.nobs_ok0 [x0] hoks).2
      rw [hw]
      have hch : ∀ (j : Nat), j ≤ s.length → ∃ l, firstP s lines [x0] j (unset sp []) = some l ∧ Flat s.length sp l := fun j hj => by
        obtain ⟨l, h1, h2⟩ := firstP_total hL [x0] j sp hoks hts hj (by simp)
        exact ⟨l, h1, h2⟩
      have hcl : ∀ c : Nat, c ≤ 64 → (p.hi < 0 ∨ (c : Int) < p.hi) → clampC p (c + 1) ≤ 64 := by
        intro c hc hg
        unfold clampC
        split
        · omega
        · rename_i hn
          by_cases hh : p.hi < 0
          · have : ¬ p.lo < ((c + 1 : Nat) : Int) := fun h => hn ⟨hh, h⟩
            omega
          · omega
      obtain ⟨st, h1, -⟩ := visit_total p [] (firstP s lines [x0]) (U := (List.range 65).flatMap fun c => (List.range (s.length + 1)).map fun j => ((c, j, sp) : Sit))
        (by
          have : ∀ n : Nat, ((List.range n).flatMap fun c => (List.range (s.length + 1)).map fun j => ((c, j, sp) : Sit)).length = n * (s.length + 1) := by
            intro n
            induction n with
            | zero => simp
            | succ n ih => rw [List.range_succ (n := n), List.flatMap_append, List.length_append, ih]; simp [Nat.succ_mul]
          rw [this]
          have : 65 * (s.length + 1) ≤ 65 * 41 := Nat.mul_le_mul_left _ (by omega)
          unfold most; omega)
        (by
          rintro ⟨c, j, sp'⟩ hv hg
          obtain ⟨c', hc', hv⟩ := List.mem_flatMap.1 hv
          obtain ⟨j', hj', hv⟩ := List.mem_map.1 hv
          injection hv with e1 e2
          injection e2 with e2 e3
          subst e1; subst e2; subst e3
          simp at hc' hj'
          obtain ⟨l, hl, hf⟩ := hch j' (by omega)
          refine ⟨l, hl, fun q hq _ => ?_⟩
          have h2 := hf q hq
          have h3 := hcl c' (by omega) hg
          refine List.mem_flatMap.2 ⟨clampC p (c' + 1), by simp; omega, List.mem_map.2 ⟨q.1, by simp; omega, ?_⟩⟩
          rw [← h2.2])
        (most + 1) (0, i, sp) ([], [])
        (by
          have h0 : clampC p 0 = 0 := by unfold clampC; split <;> omega
          dsimp only
          rw [h0]
          exact List.mem_flatMap.2 ⟨0, by simp, List.mem_map.2 ⟨i, by simp; omega, rfl⟩⟩)
        (fun v hv => by cases hv) (by simp) (by simp)
      rw [h1]
      have hf : Flat s.length sp st.2 := by
        refine visit_inv (G := fun q : Parse => q.1 ≤ s.length ∧ q.2 = sp) (fun j sp' l hj hl q hq => ?_) _ _ _ st h1 ⟨hi, rfl⟩ (fun q hq => by cases hq)
        obtain ⟨l', h2, h3⟩ := hch j hj.1
        have e : sp' = sp := hj.2
        subst e
        rw [hl] at h2
        rw [Option.some.inj h2] at hq
        exact h3 q hq
      exact hf.fin (by omega)
    split
    · refine ⟨_, rfl, ?_⟩
      split
      · exact hone
      · exact hnil
    split
    · refine ⟨_, rfl, ?_⟩
      split
      · exact hone
      · exact hnil
    · exfalso; omega
theorem firstP_total (hL : s.length ≤ 40) : ∀ (xs : List Re) (i : Nat) (sp : Spans), Re.oks 0 xs → Re.tights xs → i ≤ s.length → xs ≠ [] → ∃ l, firstP s lines xs i sp = some l ∧ Flat s.length sp l
  | [], i, sp, _, _, _, h => absurd rfl h
  | x :: xs, i, sp, hok, ht, hi, _ => by
    rw [Re.oks] at hok
    rw [Re.tights] at ht
    rw [firstP]
    exact parses_total hL x i sp hok.1 ht.1 hi
theorem altP_total (hL : s.length ≤ 40) : ∀ (xs : List Re) (i : Nat) (sp : Spans), Re.oks 0 xs → Re.tights xs → i ≤ s.length → ∃ l, altP s lines xs i sp = some l ∧ Flat s.length sp l
  | [], i, sp, _, _, _ => ⟨[], by rw [altP], fun q hq => by cases hq⟩
  | x :: xs, i, sp, hok, ht, hi => by
    rw [Re.oks] at hok
    rw [Re.tights] at ht
    obtain ⟨l, h1, h2⟩ := parses_total hL x i sp hok.1 ht.1 hi
    obtain ⟨m, h3, h4⟩ := altP_total hL xs i sp hok.2 ht.2 hi
    refine ⟨l ++ m, by rw [altP, h1, h3]; rfl, fun q hq => ?_⟩
    rcases List.mem_append.1 hq with hq | hq
    · exact h2 q hq
    · exact h4 q hq
theorem catP_total (hL : s.length ≤ 40) : ∀ (xs : List Re) (l : List Parse) (sp : Spans), Re.oks 0 xs → Re.tights xs → Flat s.length sp l → ∃ m, catP s lines xs l = some m ∧ Flat s.length sp m
  | [], l, sp, _, _, hl => ⟨l, by rw [catP], hl⟩
  | x :: xs, l, sp, hok, ht, hl => by
    rw [Re.oks] at hok
    rw [Re.tights] at ht
    have hx : ∀ q, q ∈ l → ∃ b, parses s lines x q.1 q.2 = some b ∧ Flat s.length sp b := fun q hq => by
      obtain ⟨b, h1, h2⟩ := parses_total hL x q.1 q.2 hok.1 ht.1 (hl q hq).1
      rw [(hl q hq).2] at h2
      exact ⟨b, h1, h2⟩
    obtain ⟨ms, h1, -⟩ := mapM_some (f := fun q : Parse => parses s lines x q.1 q.2) l fun q hq => (hx q hq).imp fun b h => h.1
    have hf : Flat s.length sp (nub ms.flatten) := fun q hq => by
      obtain ⟨a, ha, b, hb, hqb⟩ := (mapM_mem l ms h1 q).1 (nub_mem.1 hq)
      obtain ⟨b', hb', hf⟩ := hx a ha
      rw [hb] at hb'
      rw [← Option.some.inj hb'] at hf
      exact hf q hqb
    have hlen := hf.len (nub_nodup _)
    rw [catP, h1]
    simp only [Option.bind_some]
    rw [if_neg (by unfold most; omega)]
    exact catP_total hL xs _ sp hok.2 ht.2 hf
end
end
theorem parsesR_flat {t : Re} {s : ByteArray} {at_ : Int} {lines : Bool} (h : chk t s at_ = 0) (hg : t.groups = 0) (hs : s.size ≤ 40) :
    (parsesR t s at_ lines).2 = 0 ∧ ∀ j, Has (parsesR t s at_ lines).1 j ↔ t.E s.data.toList lines at_.toNat j := by
  obtain ⟨he, h1, h2⟩ := chk_zero h
  have hsl : s.data.toList.length = s.size := by rw [Array.length_toList]; rfl
  have hok := (Re.ok_err he).1
  rw [hg] at hok
  obtain ⟨l, hl, -⟩ := parses_total s.data.toList lines (by omega) t at_.toNat (unsetAll t.groups) hok (Re.tight_err he) (by omega)
  unfold parsesR
  rw [if_neg (by rw [h]; simp), hl]
  exact ⟨rfl, fun j => parses_E s.data.toList lines t at_.toNat _ l (Re.nob_ok0 t hok).1 (by omega) hl j⟩
mutual
theorem Re.ranged_zero : ∀ (t : Re) (b n : Nat), t.ranged b = some n → t.groups = 0 → n = b ∧ ∀ c, t.ranged c = some c
  | .mk p xs, b, n, h, hg => by
    have hg' : Re.counts (· == 6) xs = 0 ∧ p.op ≠ 6 := by
      simp only [Re.groups, Re.count] at hg
      constructor
      · omega
      · intro e; rw [e] at hg; simp at hg
    rw [Re.ranged] at h
    split at h
    · cases h
    · rename_i h5
      rw [if_neg hg'.2] at h
      have ih := Re.rangeds_zero xs b n h hg'.1
      refine ⟨ih.1, fun c => ?_⟩
      rw [Re.ranged, if_neg h5, if_neg hg'.2]
      exact ih.2 c
theorem Re.rangeds_zero : ∀ (xs : List Re) (b n : Nat), Re.rangeds xs b = some n → Re.counts (· == 6) xs = 0 → n = b ∧ ∀ c, Re.rangeds xs c = some c
  | [], b, n, h, _ => by
    rw [Re.rangeds] at h
    exact ⟨(Option.some.inj h).symm, fun c => by rw [Re.rangeds]⟩
  | t :: ts, b, n, h, hg => by
    rw [Re.counts] at hg
    rw [Re.rangeds] at h
    cases hr : t.ranged b with
    | none => rw [hr] at h; cases h
    | some b2 =>
      rw [hr] at h
      have h1 := Re.ranged_zero t b b2 hr (by unfold Re.groups; omega)
      have h2 := Re.rangeds_zero ts b2 n h (by omega)
      refine ⟨by omega, fun c => ?_⟩
      rw [Re.rangeds, h1.2 c]
      exact h2.2 c
end
mutual
theorem Re.named_zero : ∀ (t : Re) (l l' : List Int), t.named l = some l' → t.groups = 0 → l' = l
  | .mk p xs, l, l', h, hg => by
    have hg' : Re.counts (· == 6) xs = 0 ∧ p.op ≠ 6 := by
      simp only [Re.groups, Re.count] at hg
      constructor
      · omega
      · intro e; rw [e] at hg; simp at hg
    rw [Re.named] at h
    split at h
    · cases h
    · cases hm : Re.nameds xs l with
      | none => rw [hm] at h; cases h
      | some l2 =>
        rw [hm] at h
        simp only [hg'.2, if_false] at h
        rw [← Option.some.inj h]
        exact Re.nameds_zero xs l l2 hm hg'.1
theorem Re.nameds_zero : ∀ (xs : List Re) (l l' : List Int), Re.nameds xs l = some l' → Re.counts (· == 6) xs = 0 → l' = l
  | [], l, l', h, _ => by rw [Re.nameds] at h; exact (Option.some.inj h).symm
  | t :: ts, l, l', h, hg => by
    rw [Re.counts] at hg
    rw [Re.nameds] at h
    cases hr : t.named l with
    | none => rw [hr] at h; cases h
    | some b2 =>
      rw [hr] at h
      have h1 := Re.named_zero t l b2 hr (by unfold Re.groups; omega)
      subst h1
      exact Re.nameds_zero ts b2 l' h (by omega)
end
theorem Re.err_parts {t : Re} (h : t.err = 0) : t.typed = true ∧ (∃ n, t.ranged 0 = some n) ∧ (∃ l, t.named [] = some l) ∧ t.size ≤ 600 ∧ t.groups ≤ 9 ∧ t.levels ≤ 32 := by
  unfold Re.err at h
  cases h1 : t.typed with
  | false => simp [h1] at h
  | true =>
    cases h2 : t.ranged 0 with
    | none => simp [h1, h2] at h
    | some n =>
      cases h3 : t.named [] with
      | none => simp [h1, h2, h3] at h
      | some l =>
        simp only [h1, h2, h3] at h
        have hlim : ¬ (600 < t.size ∨ 9 < t.groups ∨ 32 < t.levels) := by
          intro hx; simp [hx] at h
        exact ⟨rfl, ⟨n, rfl⟩, ⟨l, rfl⟩, by omega, by omega, by omega⟩
mutual
theorem Re.levels_size : ∀ t : Re, t.levels ≤ t.size
  | .mk p xs => by rw [Re.levels, Re.size_mk]; have := Re.levelss_size xs; omega
theorem Re.levelss_size : ∀ xs : List Re, Re.levelss xs ≤ Re.sizes xs
  | [] => by simp [Re.levelss]
  | t :: ts => by
    have h1 := Re.levels_size t
    have h2 := Re.levelss_size ts
    have h3 : Re.sizes (t :: ts) = t.size + Re.sizes ts := rfl
    rw [Re.levelss, h3]; omega
end
end Go.Proofs.Ythnpbopnpdlmnaa

/- A group that is followed by a reference to it, plainly: it matches a string twice. -/
namespace Go.Proofs.Ythnpbopnpdlmnaa
open Go.RowKit

theorem iter_mono {R R' : Nat → Nat → Prop} {L m : Nat} (hR : ∀ i j, i ≤ L → R i j → i ≤ j ∧ j ≤ L) (h : ∀ i j, i ≤ L → j ≤ m → R i j → R' i j) : ∀ (n i j : Nat), i ≤ L → j ≤ m → Iter R n i j → Iter R' n i j
  | 0, i, j, _, _, h0 => h0
  | n + 1, i, j, hi, hj, h0 => by
    obtain ⟨k, h1, h2⟩ := h0
    have h3 := hR i k hi h1
    have h4 := iter_le hR n k j h3.2 h2
    exact ⟨k, h i k hi (by omega) h1, iter_mono hR h n k j h3.2 hj h2⟩
section
variable (s s' : List UInt8) (lines : Bool) (m : Nat)
mutual
theorem Re.E_prefix (hs : ∀ i, i < m → byteAt s i = byteAt s' i) (hm : m ≤ s.length) (hm' : m ≤ s'.length) : ∀ (t : Re) (i j : Nat), t.anch 7 = false → t.anch 8 = false → i ≤ s.length → j ≤ m → t.E s lines i j → t.E s' lines i j
  | .mk p xs, i, j, h7, h8, hi, hj, h => by
    rw [Re.anch, Bool.or_eq_false_iff, decide_eq_false_iff_not] at h7 h8
    rw [Re.E] at h ⊢
    split at h
    · rename_i o; rw [if_pos o]; exact h
    rename_i o1
    rw [if_neg o1]
    split at h
    · rename_i o
      rw [if_pos o]
      have hi2 : i < m := by omega
      rw [← hs i hi2]
      exact ⟨⟨by omega, h.1.2⟩, h.2⟩
    rename_i o2
    rw [if_neg o2]
    split at h
    · rename_i o; rw [if_pos o]; exact Re.ECat_prefix hs hm hm' xs i j h7.2 h8.2 hi hj h
    rename_i o3
    rw [if_neg o3]
    split at h
    · rename_i o; rw [if_pos o]; exact Re.EAlt_prefix hs hm hm' xs i j h7.2 h8.2 hi hj h
    rename_i o4
    rw [if_neg o4]
    split at h
    · rename_i o
      rw [if_pos o]
      obtain ⟨n, h1, h2, h3⟩ := h
      exact ⟨n, h1, h2, iter_mono (L := s.length) (m := m) (fun i j => Re.EFirst_le s lines xs i j) (fun i j hi hj h => Re.EFirst_prefix hs hm hm' xs i j h7.2 h8.2 hi hj h) n i j hi hj h3⟩
    rename_i o5
    rw [if_neg o5]
    split at h
    · rename_i o; rw [if_pos o]; exact Re.EFirst_prefix hs hm hm' xs i j h7.2 h8.2 hi hj h
    rename_i o6
    rw [if_neg o6]
    split at h
    · rename_i o; exact absurd o h7.1
    split at h
    · rename_i o; exact absurd o h8.1
    · exact h.elim
theorem Re.EFirst_prefix (hs : ∀ i, i < m → byteAt s i = byteAt s' i) (hm : m ≤ s.length) (hm' : m ≤ s'.length) : ∀ (xs : List Re) (i j : Nat), Re.anchs 7 xs = false → Re.anchs 8 xs = false → i ≤ s.length → j ≤ m → Re.EFirst s lines xs i j → Re.EFirst s' lines xs i j
  | [], i, j, _, _, _, _, h => by rw [Re.EFirst] at h; exact h.elim
  | x :: xs, i, j, h7, h8, hi, hj, h => by
    rw [Re.anchs, Bool.or_eq_false_iff] at h7 h8
    rw [Re.EFirst] at h ⊢
    exact Re.E_prefix hs hm hm' x i j h7.1 h8.1 hi hj h
theorem Re.EAlt_prefix (hs : ∀ i, i < m → byteAt s i = byteAt s' i) (hm : m ≤ s.length) (hm' : m ≤ s'.length) : ∀ (xs : List Re) (i j : Nat), Re.anchs 7 xs = false → Re.anchs 8 xs = false → i ≤ s.length → j ≤ m → Re.EAlt s lines xs i j → Re.EAlt s' lines xs i j
  | [], i, j, _, _, _, _, h => by rw [Re.EAlt] at h; exact h.elim
  | x :: xs, i, j, h7, h8, hi, hj, h => by
    rw [Re.anchs, Bool.or_eq_false_iff] at h7 h8
    rw [Re.EAlt] at h ⊢
    rcases h with h | h
    · exact .inl (Re.E_prefix hs hm hm' x i j h7.1 h8.1 hi hj h)
    · exact .inr (Re.EAlt_prefix hs hm hm' xs i j h7.2 h8.2 hi hj h)
theorem Re.ECat_prefix (hs : ∀ i, i < m → byteAt s i = byteAt s' i) (hm : m ≤ s.length) (hm' : m ≤ s'.length) : ∀ (xs : List Re) (i j : Nat), Re.anchs 7 xs = false → Re.anchs 8 xs = false → i ≤ s.length → j ≤ m → Re.ECat s lines xs i j → Re.ECat s' lines xs i j
  | [], i, j, _, _, _, _, h => by rw [Re.ECat] at h ⊢; exact h
  | x :: xs, i, j, h7, h8, hi, hj, h => by
    rw [Re.anchs, Bool.or_eq_false_iff] at h7 h8
    rw [Re.ECat] at h ⊢
    obtain ⟨k, h1, h2⟩ := h
    have h3 := Re.E_le s lines x i k hi h1
    have h4 := Re.ECat_le s lines xs k j h3.2 h2
    exact ⟨k, Re.E_prefix hs hm hm' x i k h7.1 h8.1 hi (by omega) h1, Re.ECat_prefix hs hm hm' xs k j h7.2 h8.2 h3.2 hj h2⟩
end
end
def backT : Re := .mk ⟨9, Cs.none, 0, 0, 1⟩ []
def twiceT (e : Re) : Re := nodeT 3 0 [nodeT 6 1 [e], backT]
theorem twice_ok {e : Re} (he : e.err = 0) (hg : e.groups = 0) (hs : e.size ≤ 8) : (twiceT e).err = 0 ∧ (twiceT e).groups = 1 ∧ (twiceT e).size ≤ 11 := by
  obtain ⟨a1, ⟨an, a2⟩, ⟨al, a3⟩, -⟩ := Re.err_parts he
  have hsz : (twiceT e).size = e.size + 3 := by
    unfold twiceT nodeT backT
    rw [Re.size_mk]
    show (Re.mk ⟨6, Cs.none, 0, 0, 1⟩ [e]).size + ((Re.mk ⟨9, Cs.none, 0, 0, 1⟩ []).size + 0) + 1 = _
    rw [Re.size_mk, Re.size_mk]
    rfl
  have hgr : (twiceT e).groups = 1 := by
    have e1 : Re.count (· == 6) e = 0 := hg
    unfold twiceT nodeT backT Re.groups
    rw [Re.count, Re.counts, Re.counts, Re.counts, Re.count, Re.count, Re.counts, Re.counts, e1]
    rfl
  have hty : (twiceT e).typed = true := by
    unfold twiceT nodeT backT
    rw [Re.typed, Re.typeds, Re.typeds, Re.typeds, Re.typed, Re.typeds, Re.typeds, Re.typed, Re.typeds, a1]
    rfl
  have hra : (twiceT e).ranged 0 = some 1 := by
    unfold twiceT nodeT backT
    have e1 := (Re.ranged_zero e 0 an a2 hg).2 1
    simp [Re.ranged, Re.rangeds, e1]
  have hna : (twiceT e).named [] = some [1] := by
    unfold twiceT nodeT backT
    have e1 := Re.named_zero e [] al a3 hg
    subst e1
    simp [Re.named, Re.nameds, a3]
  refine ⟨?_, hgr, by omega⟩
  unfold Re.err
  have hlv := Re.levels_size (twiceT e)
  rw [hty, hra, hna, hgr]
  simp
  omega
theorem nub_small {F : Nat → Parse} {L : Nat} {l : List Parse} (h : ∀ q, q ∈ l → ∃ j, j ≤ L ∧ q = F j) : (nub l).length ≤ L + 1 := by
  have h1 : nub l ⊆ (List.range (L + 1)).map F := by
    intro q hq
    obtain ⟨j, h2, h3⟩ := h q (nub_mem.1 hq)
    exact List.mem_map.2 ⟨j, by simp; omega, h3.symm⟩
  have := List.Nodup.length_le_of_subset (nub_nodup l) h1
  simpa using this
theorem fin_small {F : Nat → Parse} {L K : Nat} {l : List Parse} (h : ∀ q, q ∈ l → ∃ j, j ≤ L ∧ q = F j) (hL : L ≤ 4000) : ∃ m, fin K l = some m := by
  have := nub_small h
  exact ⟨_, by unfold fin; rw [if_neg (by unfold most; omega)]⟩
theorem twice_parses (s : List UInt8) (hL : s.length ≤ 40) (e : Re) (hok : e.ok 0) (ht : e.tight) :
    ∃ l, parses s false (twiceT e) 0 [(-1, -1)] = some l ∧ ∀ k, Has l k ↔ ∃ j, e.E s false 0 j ∧ j + j ≤ s.length ∧ (s.drop j).take j = s.take j ∧ k = j + j := by
  obtain ⟨l0, h0, hf⟩ := parses_total s false hL e 0 [(-1, -1)] hok ht (Nat.zero_le _)
  have hE := parses_E s false e 0 [(-1, -1)] l0 (Re.nob_ok0 e hok).1 (Nat.zero_le _) h0
  -- the group
  have hg1 : ∀ q, q ∈ (l0.map fun q => (q.1, q.2.set 0 ((0 : Int), (q.1 : Int)))) ↔ ∃ j, j ≤ s.length ∧ q = ((j, [((0 : Int), (j : Int))]) : Parse) ∧ e.E s false 0 j := by
    intro q
    constructor
    · intro hq
      obtain ⟨q0, hq0, rfl⟩ := List.mem_map.1 hq
      have h2 := hf q0 hq0
      exact ⟨q0.1, h2.1, by rw [h2.2]; rfl, (hE q0.1).1 ⟨q0, hq0, rfl⟩⟩
    · rintro ⟨j, hj, rfl, h2⟩
      obtain ⟨q0, hq0, rfl⟩ := (hE j).2 h2
      exact List.mem_map.2 ⟨q0, hq0, by rw [(hf q0 hq0).2]; rfl⟩
  obtain ⟨gl, hgl⟩ := fin_small (K := s.length) (L := s.length) (F := fun j => ((j, [((0 : Int), (j : Int))]) : Parse)) (l := l0.map fun q => (q.1, q.2.set 0 ((0 : Int), (q.1 : Int)))) (fun q hq => by obtain ⟨j, h1, h2, -⟩ := (hg1 q).1 hq; exact ⟨j, h1, h2⟩) (by omega)
  have hG : parses s false (nodeT 6 1 [e]) 0 [(-1, -1)] = some gl := by
    unfold nodeT
    rw [parses]
    simp only [firstP, h0]
    exact hgl
  have hglm : ∀ q, q ∈ gl ↔ ∃ j, j ≤ s.length ∧ q = ((j, [((0 : Int), (j : Int))]) : Parse) ∧ e.E s false 0 j := fun q => by
    rw [fin_iff hgl, hg1]
    constructor
    · exact fun h => h.1
    · rintro ⟨j, h1, h2, h3⟩; exact ⟨⟨j, h1, h2, h3⟩, by rw [h2]; exact h1⟩
  -- the reference
  have hB : ∀ j : Nat, parses s false backT j [((0 : Int), (j : Int))] = some (if j + j ≤ s.length ∧ (s.drop j).take j = s.take j then [(j + j, [((0 : Int), (j : Int))])] else []) := by
    intro j
    unfold backT
    rw [parses]
    simp
  have hms : ∃ ms, (nub gl).mapM (fun q : Parse => parses s false backT q.1 q.2) = some ms := by
    obtain ⟨ms, h1, -⟩ := mapM_some (f := fun q : Parse => parses s false backT q.1 q.2) (nub gl) fun q hq => by
      obtain ⟨j, -, rfl, -⟩ := (hglm q).1 (nub_mem.1 hq)
      exact ⟨_, hB j⟩
    exact ⟨ms, h1⟩
  obtain ⟨ms, hms⟩ := hms
  have hmm : ∀ q, q ∈ ms.flatten ↔ ∃ j, j ≤ s.length ∧ e.E s false 0 j ∧ (j + j ≤ s.length ∧ (s.drop j).take j = s.take j) ∧ q = ((j + j, [((0 : Int), (j : Int))]) : Parse) := by
    intro q
    rw [mapM_mem _ _ hms]
    constructor
    · rintro ⟨a, ha, b, hb, hq⟩
      obtain ⟨j, hj, rfl, hj2⟩ := (hglm a).1 (nub_mem.1 ha)
      rw [hB j] at hb
      have hb2 := Option.some.inj hb
      subst hb2
      split at hq
      · rename_i hc
        exact ⟨j, hj, hj2, hc, List.mem_singleton.1 hq⟩
      · cases hq
    · rintro ⟨j, hj, hj2, hc, rfl⟩
      exact ⟨(j, [((0 : Int), (j : Int))]), nub_mem.2 ((hglm _).2 ⟨j, hj, rfl, hj2⟩), _, hB j, by rw [if_pos hc]; simp⟩
  have hn1 := nub_small (L := s.length) (F := fun j => ((j, [((0 : Int), (j : Int))]) : Parse)) (l := gl) fun q hq => by obtain ⟨j, h1, h2, -⟩ := (hglm q).1 hq; exact ⟨j, h1, h2⟩
  have hn2 := nub_small (L := s.length) (F := fun j => ((j + j, [((0 : Int), (j : Int))]) : Parse)) (l := ms.flatten) fun q hq => by obtain ⟨j, h1, -, -, h2⟩ := (hmm q).1 hq; exact ⟨j, h1, h2⟩
  obtain ⟨fl, hfl⟩ := fin_small (K := s.length) (L := s.length) (F := fun j => ((j + j, [((0 : Int), (j : Int))]) : Parse)) (l := nub ms.flatten) (fun q hq => by obtain ⟨j, h1, -, -, h2⟩ := (hmm q).1 (nub_mem.1 hq); exact ⟨j, h1, h2⟩) (by omega)
  refine ⟨fl, ?_, fun k => ?_⟩
  · unfold twiceT
    rw [show nodeT 3 0 [nodeT 6 1 [e], backT] = Re.mk ⟨3, Cs.none, 0, 0, 0⟩ [nodeT 6 1 [e], backT] from rfl, parses]
    have h1 : catP s false [nodeT 6 1 [e], backT] [(0, [(-1, -1)])] = some (nub ms.flatten) := by
      rw [catP, List.mapM_cons, List.mapM_nil]
      simp only [hG]
      show (if most < (nub (gl ++ [])).length then none else catP s false [backT] (nub (gl ++ []))) = _
      rw [List.append_nil, if_neg (by unfold most; omega), catP, hms]
      show (if most < (nub ms.flatten).length then none else catP s false [] (nub ms.flatten)) = _
      rw [if_neg (by unfold most; omega), catP]
    simp only [h1]
    exact hfl
  · unfold Has
    constructor
    · rintro ⟨q, hq, rfl⟩
      obtain ⟨j, -, h2, h3, rfl⟩ := (hmm q).1 (nub_mem.1 ((fin_iff hfl q).1 hq).1)
      exact ⟨j, h2, h3.1, h3.2, rfl⟩
    · rintro ⟨j, h2, h3, h4, rfl⟩
      exact ⟨(j + j, [((0 : Int), (j : Int))]), (fin_iff hfl _).2 ⟨nub_mem.2 ((hmm _).2 ⟨j, by omega, h2, ⟨h3, h4⟩, rfl⟩), h3⟩, rfl⟩
theorem doubles_law {e : Re} {t : ByteArray} (he : e.err = 0) (hg : e.groups = 0) (hs : e.size ≤ 8) (h7 : e.anch 7 = false) (h8 : e.anch 8 = false) (ht : t.size ≤ 6) :
    (parsesR e t 0 false).2 = 0 ∧ (parsesR (twiceT e) (t ++ t) 0 false).2 = 0 ∧ (t.size ∈ (parsesR e t 0 false).1.map Prod.fst ↔ 2 * t.size ∈ (parsesR (twiceT e) (t ++ t) 0 false).1.map Prod.fst) := by
  have hsl : ∀ x : ByteArray, x.data.toList.length = x.size := fun x => by rw [Array.length_toList]; rfl
  have hdl : (t ++ t).data.toList = t.data.toList ++ t.data.toList := by rw [ByteArray.data_append, Array.toList_append]
  have hsz : (t ++ t).size = t.size + t.size := by rw [← hsl, hdl, List.length_append, hsl]
  obtain ⟨w1, w2, w3⟩ := twice_ok he hg hs
  have hc : chk e t 0 = 0 := by unfold chk; rw [if_neg (by simp [he]), if_neg (by omega)]
  have hc2 : chk (twiceT e) (t ++ t) 0 = 0 := by unfold chk; rw [if_neg (by simp [w1]), if_neg (by omega)]
  obtain ⟨p1, p2⟩ := parsesR_flat (at_ := 0) (lines := false) hc hg (by omega)
  have hok := (Re.ok_err he).1
  rw [hg] at hok
  obtain ⟨l, hl, hh⟩ := twice_parses (t ++ t).data.toList (by rw [hsl]; omega) e hok (Re.tight_err he)
  have hR : parsesR (twiceT e) (t ++ t) 0 false = (l, 0) := by
    unfold parsesR
    rw [if_neg (by simp [hc2]), w2]
    rw [show (0 : Int).toNat = 0 from rfl, show unsetAll 1 = [(-1, -1)] from rfl, hl]
  have hmem : ∀ (l : List Parse) (k : Nat), k ∈ l.map Prod.fst ↔ Has l k := fun l k => by
    unfold Has
    rw [List.mem_map]
  rw [hR]
  refine ⟨p1, rfl, ?_⟩
  rw [hmem, hmem, p2, hh]
  have hb : ∀ i, i < t.size → byteAt t.data.toList i = byteAt (t ++ t).data.toList i := by
    intro i hi
    unfold byteAt
    rw [hdl, List.getD_eq_getElem?_getD, List.getD_eq_getElem?_getD, List.getElem?_append_left (by rw [hsl]; exact hi)]
  have hiff : e.E t.data.toList false 0 t.size ↔ e.E (t ++ t).data.toList false 0 t.size :=
    ⟨fun h => Re.E_prefix t.data.toList (t ++ t).data.toList false t.size hb (by rw [hsl]; omega) (by rw [hsl]; omega) e 0 t.size h7 h8 (Nat.zero_le _) (Nat.le_refl _) h,
     fun h => Re.E_prefix (t ++ t).data.toList t.data.toList false t.size (fun i hi => (hb i hi).symm) (by rw [hsl]; omega) (by rw [hsl]; omega) e 0 t.size h7 h8 (Nat.zero_le _) (Nat.le_refl _) h⟩
  rw [show (0 : Int).toNat = 0 from rfl, hiff]
  constructor
  · intro h
    refine ⟨t.size, h, by rw [hsl]; omega, ?_, by omega⟩
    rw [hdl, show t.size = t.data.toList.length from (hsl t).symm, List.drop_left, List.take_left, List.take_length]
  · rintro ⟨j, h, -, -, hj⟩
    obtain rfl : j = t.size := by omega
    exact h
end Go.Proofs.Ythnpbopnpdlmnaa

/- Reback's law RebackDoubles: whether a tree has an anchor; the plain law. -/
namespace Go.Proofs.Ythnpbopnpdlmnaa
open Go.RowKit
attribute [local go_sem] gives givesUpon

def Re.anyA (t : Re) : Bool := t.anch 7 || t.anch 8
theorem Re.anyA_mk (p : Pay) (xs : List Re) : (Re.mk p xs).anyA = (decide (p.op = 7 ∨ p.op = 8) || xs.any Re.anyA) := by
  have h : ∀ xs : List Re, (Re.anchs 7 xs || Re.anchs 8 xs) = xs.any fun t => t.anch 7 || t.anch 8 := by
    intro xs
    induction xs with
    | nil => rw [Re.anchs, Re.anchs]; rfl
    | cons x xs ih =>
      rw [Re.anchs, Re.anchs, List.any_cons, ← ih]
      cases x.anch 7 <;> cases x.anch 8 <;> cases Re.anchs 7 xs <;> rfl
  unfold Re.anyA
  rw [Re.anch, Re.anch, ← h, Bool.decide_or]
  cases decide (p.op = 7) <;> cases decide (p.op = 8) <;> cases Re.anchs 7 xs <;> rfl
set_option maxRecDepth 100000 in
set_option maxHeartbeats 8000000 in
theorem anchored14_any (wb : World) (t : Re) : ∀ (w : World) (cs : List Value), t.In wb cs → Below wb.heap.size wb w →
    Calls Try.prog 10 #[.agg cs.toArray] w fun e w' => e = .returned (.bool t.anyA) ∧ Below w.heap.size w w' := by
  induction t using Re.ind with
  | h p xs ih =>
    intro w cs hIn hbw
    rw [Re.In] at hIn
    obtain ⟨ad, cap, rfl, hwf, hlc, hcm, hnil, hall⟩ := hIn
    have HIH := hid ih
    have HAL := hid hall
    have HBW := hid hbw
    have HLM := hid (Nat.le_trans hlc hcm)
    clear ih hall hwf hbw
    simp only [Pay.cells]
    have hr0 := (Row.new (w := w) (cs := [.int .i64 p.op, .int .u64 p.set.a, .int .u64 p.set.b, .int .u64 p.set.c, .int .u64 p.set.d, .int .i64 p.lo, .int .i64 p.hi, .int .i64 p.gr, .slice ad xs.length cap]) (T := 28) rfl)
    have HR0 := hid hr0
    have q0 := hr0.c9
    have HAL0 := hid ((Below.refl w.heap.size w).alloc (Nat.le_refl _) (.cells #[.int .i64 p.op, .int .u64 p.set.a, .int .u64 p.set.b, .int .u64 p.set.c, .int .u64 p.set.d, .int .i64 p.lo, .int .i64 p.hi, .int .i64 p.gr, .slice ad xs.length cap] 28))
    clear hr0
    obtain ⟨res, hres⟩ : ∃ res, res = (Re.mk p xs).anyA := ⟨_, rfl⟩
    rw [← hres]
    rw [Re.anyA_mk] at hres
    have HRS := hid hres
    clear hres
    have hop : (p.op == 7) = true ∧ decide (p.op = 7 ∨ p.op = 8) = true ∨ ((p.op == 7) = false ∧ (p.op == 8) = true ∧ decide (p.op = 7 ∨ p.op = 8) = true) ∨ ((p.op == 7) = false ∧ (p.op == 8) = false ∧ decide (p.op = 7 ∨ p.op = 8) = false) := by
      by_cases h7 : p.op = 7
      · exact .inl ⟨by simp [h7], by simp [h7]⟩
      · by_cases h8 : p.op = 8
        · exact .inr (.inl ⟨by simp [h7], by simp [h8], by simp [h8]⟩)
        · exact .inr (.inr ⟨by simpa using h7, by simpa using h8, by simp [h7, h8]⟩)
    rcases hop with ⟨d1, d0⟩ | ⟨d1, d2, d0⟩ | ⟨d1, d2, d0⟩
    all_goals
      have HD0 := hid d0
      clear d0
      go_enter Try.func10, Try.ntmps10
      go_wp2_with fail
      go_loopw [3, 4] (fun v i wr => ∃ (j : Nat) (b : Bool), j ≤ xs.length ∧ v = .bool b ∧ i = .int .i64 j ∧ Hid ((Row wr w.heap.size [.int .i64 p.op, .int .u64 p.set.a, .int .u64 p.set.b, .int .u64 p.set.c, .int .u64 p.set.d, .int .i64 p.lo, .int .i64 p.hi, .int .i64 p.gr, .slice ad xs.length cap] 28 ∧ Below w.heap.size w wr) ∧ res = (b || (xs.drop j).any Re.anyA))) (fun _ i _ => xs.length - (intOf i).toNat)
      case atStart => exact ⟨0, _, Nat.zero_le _, rfl, rfl, ⟨HR0.out, HAL0.out⟩, by show res = _; rw [HRS.out, HD0.out]; rfl⟩
      case round =>
        obtain ⟨j, b, hj, rfl, rfl, HX0⟩ := hrel
        have HX := hid HX0.out.1
        have HKK := hid HX0.out.2
        clear HX0
        have q1 := HX.out.1.c9
        clear q0
        by_cases hlt : j < xs.length
        · have hdrop := List.drop_eq_getElem_cons hlt
          have HBL : Hid (Below wb.heap.size wb wr) := HBW.out.trans (HX.out.2.mono HBW.out.size)
          obtain ⟨bb, o, p', ad', n', cap', rfl, HC, HI0, hbb⟩ := HAL.out.kid HBL.out j hlt
          have HKN : Hid (res = (b || (xs[j].anyA || (xs.drop (j + 1)).any Re.anyA))) := by have := HKK.out; rw [hdrop, List.any_cons] at this; exact this
          have hjI : (j : Int) < xs.length := by omega
          have hjw : xs.length ≤ 9223372036854775807 := by have := HLM.out; unfold maxLen at this; omega
          clear hdrop
          cases b with
          | true =>
            have HE : Hid (res = (true || (xs.drop (j + 1)).any Re.anyA)) := by show res = _; rw [HKN.out]; rfl
            go_wp2_with fail
            refine ⟨⟨j + 1, true, by omega, rfl, by go_num, HX.out, HE.out⟩, ?_⟩
            simp [intOf]; omega
          | false =>
            have g0 : wr.cell? ⟨bb, o + j * 9, none⟩ = some (.int .i64 p'.op) := HC.out 0 _ rfl
            have g1 : wr.cell? ⟨bb, o + j * 9 + 1, none⟩ = some (.int .u64 p'.set.a) := HC.out 1 _ rfl
            have g2 : wr.cell? ⟨bb, o + j * 9 + 2, none⟩ = some (.int .u64 p'.set.b) := HC.out 2 _ rfl
            have g3 : wr.cell? ⟨bb, o + j * 9 + 3, none⟩ = some (.int .u64 p'.set.c) := HC.out 3 _ rfl
            have g4 : wr.cell? ⟨bb, o + j * 9 + 4, none⟩ = some (.int .u64 p'.set.d) := HC.out 4 _ rfl
            have g5 : wr.cell? ⟨bb, o + j * 9 + 5, none⟩ = some (.int .i64 p'.lo) := HC.out 5 _ rfl
            have g6 : wr.cell? ⟨bb, o + j * 9 + 6, none⟩ = some (.int .i64 p'.hi) := HC.out 6 _ rfl
            have g7 : wr.cell? ⟨bb, o + j * 9 + 7, none⟩ = some (.int .i64 p'.gr) := HC.out 7 _ rfl
            have g8 : wr.cell? ⟨bb, o + j * 9 + 8, none⟩ = some (.slice ad' n' cap') := HC.out 8 _ rfl
            go_wp2_with fail
            have H1 := HIH.out xs[j] (List.getElem_mem _) wr _ HI0.out HBL.out
            obtain ⟨r, hr⟩ : ∃ r, r = xs[j].anyA := ⟨_, rfl⟩
            rw [← hr] at H1 HKN
            clear hr
            refine H1.mono ?_
            clear H1
            rintro e w2 ⟨rfl, hb2⟩
            have HX2 := hid (⟨HX.out.1.below hb2 HX.out.1.lt, HX.out.2.trans (hb2.mono HX.out.2.size)⟩ : Row w2 _ _ _ ∧ Below _ _ w2)
            have HE : Hid (res = (r || (xs.drop (j + 1)).any Re.anyA)) := by have := HKN.out; rwa [Bool.false_or] at this
            clear hb2
            go_wp2_with fail
            refine ⟨⟨j + 1, r, by omega, rfl, by go_num, HX2.out, HE.out⟩, ?_⟩
            simp [intOf]; omega
        · have hjI : ¬ (j : Int) < xs.length := by omega
          have HE : Hid (b = res) := by have := HKK.out; rw [List.drop_eq_nil_of_le (by omega), List.any_nil, Bool.or_false] at this; exact this.symm
          go_wp2_with fail
          go_ret
          exact ⟨by rw [← HE.out]; rfl, HX.out.2⟩
theorem doublesB_law {e : Re} {t : ByteArray} (he : e.err = 0) (hg : e.groups = 0) (hs : e.size ≤ 8) (h7 : e.anch 7 = false) (h8 : e.anch 8 = false) (ht : t.size ≤ 6) {B : Nat} {o : Out} {k x : Int}
    (ha : Api (twiceT e) (t ++ t) 0 (fun _ => 1) false B o k x) (hx : x = 0) (hw : t.size ∈ (parsesR e t 0 false).1.map Prod.fst) : ∃ y, o = .found [(0, ((2 * t.size : Nat) : Int)), y] := by
  obtain ⟨-, h2, h3⟩ := doubles_law (t := t) he hg hs h7 h8 ht
  obtain ⟨w1, w2, w3⟩ := twice_ok he hg hs
  have hmem := h3.1 hw
  have hneat := parsesR_neat (t := twiceT e) (s := t ++ t) (at_ := 0) (lines := false)
  have hok := parsesR_ok (t := twiceT e) (s := t ++ t) (at_ := 0) (lines := false)
  have hsz : (t ++ t).size = t.size + t.size := by
    have hsl : ∀ x : ByteArray, x.data.toList.length = x.size := fun x => by rw [Array.length_toList]; rfl
    rw [← hsl, ByteArray.data_append, Array.toList_append, List.length_append, hsl]
  cases hl : (parsesR (twiceT e) (t ++ t) 0 false).1 with
  | nil => rw [hl] at hmem; cases hmem
  | cons q l =>
    have hat : atR (parsesR (twiceT e) (t ++ t) 0 false) 0 = ((0, (q.1 : Int)) :: q.2, true, 0) := by unfold atR; rw [hl]
    have hf := finds_at ha (by omega) (by rw [hat]; exact (by decide : (0 : Int) ≠ 11))
    rw [hat] at hf
    rw [hl] at hmem hneat hok
    have hq := hok.1 q (by simp)
    have hq1 : q.1 = 2 * t.size := by
      have h4 := hq.2.1
      rw [hsz] at h4
      obtain ⟨z, hz, hz2⟩ := List.mem_map.1 hmem
      rcases List.mem_cons.1 hz with rfl | hz
      · exact hz2
      · have := (List.pairwise_cons.1 hneat.1).1 z hz
        omega
    have hq2 : q.2.length = 1 := by have := hq.2.2.1; rw [w2] at this; exact this
    obtain ⟨y, hy⟩ := List.length_eq_one_iff.1 hq2
    refine ⟨y, ?_⟩
    rw [hq1, hy] at hf
    cases o with
    | found l => have := hf.1; rw [show (Out.found l).lst = l from rfl] at this; rw [this]
    | fail => exact absurd (show false = true from hf.2.1) (by decide)
    | over => exact absurd (show false = true from hf.2.1) (by decide)
end Go.Proofs.Ythnpbopnpdlmnaa
