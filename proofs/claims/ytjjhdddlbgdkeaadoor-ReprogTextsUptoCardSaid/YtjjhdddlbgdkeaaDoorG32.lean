/- The text of a program tells the program, but for the fields that are not looked at. -/
import Derived.Test.YtjjhdddlbgdkeaaDoorG20
namespace Go.Proofs.YtjjhdddlbgdkeaaDoor

/-- An instruction without the fields that are not looked at. -/
def usedOf (f : Inst) : Inst := if f.op = 1 then ⟨f.op, f.set, 0, 0⟩ else if f.op = 2 then ⟨f.op, ⟨0, 0, 0, 0⟩, f.x, f.y⟩ else if f.op = 3 then ⟨f.op, ⟨0, 0, 0, 0⟩, f.x, 0⟩ else ⟨f.op, ⟨0, 0, 0, 0⟩, 0, 0⟩
def alike (L M : List Inst) (l m : Bool) : Prop := L.length = M.length ∧ l = m ∧ ∀ k (h : k < L.length) (h' : k < M.length), usedOf L[k] = usedOf M[k]

/-- Two lists that are cut at their first c. -/
theorem cut_at (c : UInt8) : ∀ (a b x y : List UInt8), (∀ z ∈ a, z ≠ c) → (∀ z ∈ b, z ≠ c) → (x = [] ∨ ∃ x', x = c :: x') → (y = [] ∨ ∃ y', y = c :: y') → a ++ x = b ++ y → a = b ∧ x = y
  | [], [], x, y, _, _, _, _, h => ⟨rfl, by simpa using h⟩
  | [], d :: b, x, y, _, hb, hx, _, h => by
    exfalso
    rcases hx with rfl | ⟨x', rfl⟩
    · simp at h
    · simp only [List.nil_append, List.cons_append, List.cons.injEq] at h
      exact hb d (by simp) h.1.symm
  | d :: a, [], x, y, ha, _, _, hy, h => by
    exfalso
    rcases hy with rfl | ⟨x', rfl⟩
    · simp at h
    · simp only [List.nil_append, List.cons_append, List.cons.injEq] at h
      exact ha d (by simp) h.1
  | d :: a, e :: b, x, y, ha, hb, hx, hy, h => by
    simp only [List.cons_append, List.cons.injEq] at h
    obtain ⟨rfl, h⟩ := h
    obtain ⟨rfl, rfl⟩ := cut_at c a b x y (fun z hz => ha z (by simp [hz])) (fun z hz => hb z (by simp [hz])) hx hy h
    exact ⟨rfl, rfl⟩
/-- The same, from the end. -/
theorem cut_end (c : UInt8) {a b x y : List UInt8} (ha : ∀ z ∈ a, z ≠ c) (hb : ∀ z ∈ b, z ≠ c) (hx : x = [] ∨ ∃ x', x = x' ++ [c]) (hy : y = [] ∨ ∃ y', y = y' ++ [c]) (h : x ++ a = y ++ b) : a = b ∧ x = y := by
  have h2 := congrArg List.reverse h
  rw [List.reverse_append, List.reverse_append] at h2
  have hr : ∀ {z : List UInt8}, (z = [] ∨ ∃ z', z = z' ++ [c]) → (z.reverse = [] ∨ ∃ z', z.reverse = c :: z') := by
    intro z hz
    rcases hz with rfl | ⟨z', rfl⟩
    · exact .inl rfl
    · exact .inr ⟨z'.reverse, by simp⟩
  obtain ⟨h3, h4⟩ := cut_at c _ _ _ _ (fun z hz => ha z (by simpa using hz)) (fun z hz => hb z (by simpa using hz)) (hr hx) (hr hy) h2
  exact ⟨List.reverse_inj.1 h3, List.reverse_inj.1 h4⟩

theorem digit_nat (n : Nat) : (UInt8.ofNat (48 + n % 10)).toNat = 48 + n % 10 := by
  rw [UInt8.toNat_ofNat']
  omega
theorem dec_digits (n : Nat) : ∀ z ∈ dec n, 48 ≤ z.toNat ∧ z.toNat ≤ 57 := by
  induction n using Nat.strongRecOn with
  | ind n ih =>
    intro z hz
    by_cases h : n < 10
    · rw [dec_small h, List.mem_singleton] at hz
      have h1 := digit_nat n
      rw [Nat.mod_eq_of_lt h] at h1
      rw [hz, h1]
      omega
    · rw [dec_big h, List.mem_append, List.mem_singleton] at hz
      rcases hz with hz | rfl
      · exact ih (n / 10) (by omega) z hz
      · rw [digit_nat]
        omega
theorem dec_ne (n : Nat) (c : UInt8) (hc : c.toNat < 48 ∨ 57 < c.toNat) : ∀ z ∈ dec n, z ≠ c := by
  intro z hz e
  have := dec_digits n z hz
  subst e
  omega
def valOf (l : List UInt8) : Nat := l.foldl (fun a c => 10 * a + (c.toNat - 48)) 0
theorem valOf_dec (n : Nat) : valOf (dec n) = n := by
  induction n using Nat.strongRecOn with
  | ind n ih =>
    by_cases h : n < 10
    · rw [dec_small h]
      have h1 := digit_nat n
      rw [Nat.mod_eq_of_lt h] at h1
      show 10 * 0 + ((UInt8.ofNat (48 + n)).toNat - 48) = n
      rw [h1]
      omega
    · rw [dec_big h]
      have h1 := ih (n / 10) (by omega)
      unfold valOf at h1 ⊢
      rw [List.foldl_append, h1]
      show 10 * (n / 10) + ((UInt8.ofNat (48 + n % 10)).toNat - 48) = n
      rw [digit_nat]
      omega
theorem dec_inj {n m : Nat} (h : dec n = dec m) : n = m := by rw [← valOf_dec n, h, valOf_dec]

/-- A run's text tells the run. -/
theorem tail_inj {i e i' e' : Nat} (he : i ≤ e) (he' : i' ≤ e') (h : dec i ++ (if i < e then 45 :: dec e else []) = dec i' ++ (if i' < e' then 45 :: dec e' else [])) : i = i' ∧ e = e' := by
  have hc : ∀ (a b : Nat), (if a < b then (45 : UInt8) :: dec b else []) = [] ∨ ∃ x', (if a < b then (45 : UInt8) :: dec b else []) = 45 :: x' := by
    intro a b
    by_cases h : a < b
    · exact .inr ⟨dec b, by rw [if_pos h]⟩
    · exact .inl (by rw [if_neg h])
  obtain ⟨h1, h2⟩ := cut_at 45 _ _ _ _ (dec_ne i 45 (by decide)) (dec_ne i' 45 (by decide)) (hc _ _) (hc _ _) h
  refine ⟨dec_inj h1, ?_⟩
  have h3 := dec_inj h1
  by_cases h4 : i < e <;> by_cases h5 : i' < e'
  · rw [if_pos h4, if_pos h5] at h2
    injection h2 with _ h2
    exact dec_inj h2
  · rw [if_pos h4, if_neg h5] at h2
    cases h2
  · rw [if_neg h4, if_pos h5] at h2
    cases h2
  · omega
theorem tail_no (i e : Nat) (c : UInt8) (hc : c.toNat < 48 ∨ 57 < c.toNat) (h45 : c ≠ 45) : ∀ z ∈ dec i ++ (if i < e then 45 :: dec e else []), z ≠ c := by
  intro z hz
  rw [List.mem_append] at hz
  rcases hz with hz | hz
  · exact dec_ne _ _ hc z hz
  · by_cases h : i < e
    · rw [if_pos h, List.mem_cons] at hz
      rcases hz with rfl | hz
      · exact fun e => h45 e.symm
      · exact dec_ne _ _ hc z hz
    · rw [if_neg h] at hz
      cases hz
theorem runText_eq (a : Cs) (i : Nat) : runText a i = [32] ++ (dec i ++ (if i < runEnd a i then 45 :: dec (runEnd a i) else [])) := rfl
/-- The runs that begin before n, as the text tells them. -/
theorem rtext_runs {a b : Cs} : ∀ (s n m : Nat), n + m ≤ s → rtext a n = rtext b m → ∀ i, i < n → isStart a i = true → i < m ∧ isStart b i = true ∧ runEnd a i = runEnd b i
  | _, 0, _, _, _, i, hi, _ => by omega
  | 0, n + 1, m, hs, _, _, _, _ => by omega
  | s + 1, n + 1, 0, hs, h, i, hi, ha => by
    by_cases hn : isStart a n = true
    · rw [rtext_add hn] at h
      simp [rtext, runText] at h
    · rw [rtext_skip (by simpa using hn)] at h
      have hne : i ≠ n := fun e => hn (e ▸ ha)
      exact rtext_runs s n 0 (by omega) h i (by omega) ha
  | s + 1, n + 1, m + 1, hs, h, i, hi, ha => by
    by_cases hm : isStart b m = true
    · by_cases hn : isStart a n = true
      · rw [rtext_add hn, rtext_add hm, runText_eq, runText_eq] at h
        obtain ⟨h1, h2⟩ := cut_end 32 (x := rtext a n ++ [32]) (y := rtext b m ++ [32]) (tail_no _ _ 32 (by decide) (by decide)) (tail_no _ _ 32 (by decide) (by decide)) (.inr ⟨_, rfl⟩) (.inr ⟨_, rfl⟩) ((List.append_assoc _ _ _).trans (h.trans (List.append_assoc _ _ _).symm))
        obtain ⟨h3, h4⟩ := tail_inj ((runEnd_le a 255 n (by omega)).1) ((runEnd_le b 255 m (by omega)).1) h1
        have h5 := List.append_cancel_right h2
        by_cases e : i = n
        · subst e
          subst h3
          exact ⟨by omega, hm, h4⟩
        · obtain ⟨g1, g2⟩ := rtext_runs s n m (by omega) h5 i (by omega) ha
          exact ⟨by omega, g2⟩
      · rw [rtext_skip (a := a) (i := n) (by simpa using hn)] at h
        have hne : i ≠ n := fun e => hn (e ▸ ha)
        exact rtext_runs s n (m + 1) (by omega) h i (by omega) ha
    · rw [rtext_skip (a := b) (i := m) (by simpa using hm)] at h
      obtain ⟨g1, g2⟩ := rtext_runs s (n + 1) m (by omega) h i hi ha
      exact ⟨by omega, g2⟩
/-- A byte of the set lies in a run. -/
theorem has_run {a : Cs} : ∀ j, j ≤ 255 → a.has j = true → ∃ i, i ≤ j ∧ isStart a i = true ∧ j ≤ runEnd a i
  | 0, _, h => ⟨0, Nat.le_refl _, by unfold isStart; rw [h]; rfl, (runEnd_le a 255 0 (by omega)).1⟩
  | j + 1, hj, h => by
    by_cases hs : isStart a (j + 1) = true
    · exact ⟨j + 1, Nat.le_refl _, hs, (runEnd_le a 255 (j + 1) (by omega)).1⟩
    · have hp : a.has j = true := by
        unfold isStart at hs
        rw [h] at hs
        simpa using hs
      obtain ⟨i, h1, h2, h3⟩ := has_run j (by omega) hp
      refine ⟨i, by omega, h2, ?_⟩
      rcases Nat.lt_or_ge j (runEnd a i) with h4 | h4
      · exact h4
      · obtain h5 : runEnd a i = j := by omega
        have h6 := (runEnd_le a 255 i (by omega)).2.2.2
        rw [h5] at h6
        exact absurd ⟨by omega, h⟩ h6
theorem run_has {a : Cs} {i j : Nat} (hi : i ≤ j) (h : isStart a i = true) (hj : j ≤ runEnd a i) : a.has j = true := by
  rcases Nat.lt_or_ge i j with h1 | h1
  · exact (runEnd_le a 255 i (by omega)).2.2.1 j h1 hj
  · obtain rfl : i = j := by omega
    unfold isStart at h
    simp only [Bool.and_eq_true] at h
    exact h.1
theorem rtext_half {a b : Cs} (h : rtext a 256 = rtext b 256) {j : Nat} (hj : j < 256) (ha : a.has j = true) : b.has j = true := by
  obtain ⟨i, h1, h2, h3⟩ := has_run j (by omega) ha
  obtain ⟨h4, h5, h6⟩ := rtext_runs _ _ _ (Nat.le_refl _) h i (by omega) h2
  exact run_has h1 h5 (by omega)
theorem rtext_inj {a b : Cs} (ha : a.wf) (hb : b.wf) (h : rtext a 256 = rtext b 256) : a = b := by
  refine Cs.ext_has ha hb fun c hc => ?_
  cases h1 : a.has c with
  | true => exact (rtext_half h hc h1).symm
  | false =>
    cases h2 : b.has c with
    | false => rfl
    | true =>
      have := rtext_half h.symm hc h2
      rw [h1] at this
      cases this

theorem rtext_no (a : Cs) (c : UInt8) (hc : c.toNat < 48 ∨ 57 < c.toNat) (h45 : c ≠ 45) (h32 : c ≠ 32) : ∀ n, ∀ z ∈ rtext a n, z ≠ c
  | 0 => by intro z hz; cases hz
  | n + 1 => by
    intro z hz
    by_cases hs : isStart a n = true
    · rw [rtext_add hs, List.mem_append] at hz
      rcases hz with hz | hz
      · exact rtext_no a c hc h45 h32 n z hz
      · rw [runText_eq, List.mem_append, List.mem_singleton] at hz
        rcases hz with rfl | hz
        · exact fun e => h32 e.symm
        · exact tail_no _ _ c hc h45 z hz
    · rw [rtext_skip (by simpa using hs)] at hz
      exact rtext_no a c hc h45 h32 n z hz
theorem rest_no (f : Inst) : ∀ z ∈ restOf f, z ≠ 10 := by
  intro z hz
  unfold restOf at hz
  by_cases h1 : f.op = 1
  · rw [if_pos h1] at hz
    exact rtext_no _ 10 (by decide) (by decide) (by decide) _ z hz
  rw [if_neg h1] at hz
  by_cases h2 : f.op = 2
  · rw [if_pos h2, List.mem_cons, List.mem_append, List.mem_cons] at hz
    rcases hz with rfl | hz | rfl | hz
    · decide
    · exact dec_ne _ 10 (by decide) z hz
    · decide
    · exact dec_ne _ 10 (by decide) z hz
  rw [if_neg h2] at hz
  by_cases h3 : f.op = 3
  · rw [if_pos h3, List.mem_cons] at hz
    rcases hz with rfl | hz
    · decide
    · exact dec_ne _ 10 (by decide) z hz
  rw [if_neg h3] at hz
  cases hz
theorem word_no (op : Int) : ∀ z ∈ wordOf op, z ≠ 10 := by
  unfold wordOf
  repeat' split
  all_goals decide
def bodyOf (i : Nat) (f : Inst) : List UInt8 := dec i ++ 32 :: (wordOf f.op ++ restOf f)
theorem lineOf_body (i : Nat) (f : Inst) : lineOf i f = bodyOf i f ++ [10] := by
  unfold lineOf bodyOf
  simp
theorem body_no (i : Nat) (f : Inst) : ∀ z ∈ bodyOf i f, z ≠ 10 := by
  intro z hz
  unfold bodyOf at hz
  rw [List.mem_append, List.mem_cons, List.mem_append] at hz
  rcases hz with hz | rfl | hz | hz
  · exact dec_ne _ 10 (by decide) z hz
  · decide
  · exact word_no _ z hz
  · exact rest_no f z hz

/-- One instruction, from its words. -/
theorem word_inj {n k : Nat} {f g : Inst} (hf : f.right n k) (hg : g.right n k) (wf : f.set.wf) (wg : g.set.wf) (h : wordOf f.op ++ restOf f = wordOf g.op ++ restOf g) : usedOf f = usedOf g := by
  have hf1 : f.op = 1 ∨ f.op = 2 ∨ f.op = 3 ∨ f.op = 4 ∨ f.op = 5 ∨ f.op = 6 := by unfold Inst.right at hf; omega
  have hg1 : g.op = 1 ∨ g.op = 2 ∨ g.op = 3 ∨ g.op = 4 ∨ g.op = 5 ∨ g.op = 6 := by unfold Inst.right at hg; omega
  have hop : f.op = g.op := by
    rcases hf1 with e | e | e | e | e | e <;> rcases hg1 with e' | e' | e' | e' | e' | e' <;> rw [e, e'] at h ⊢ <;> exact absurd h (by simp [wordOf])
  rw [← hop] at h
  have h2 := List.append_cancel_left h
  unfold restOf at h2
  unfold usedOf
  rw [← hop] at h2 ⊢
  by_cases h1 : f.op = 1
  · rw [if_pos h1, if_pos h1] at h2 ⊢
    rw [rtext_inj wf wg h2]
  rw [if_neg h1, if_neg h1] at h2 ⊢
  by_cases h3 : f.op = 2
  · rw [if_pos h3, if_pos h3] at h2 ⊢
    injection h2 with _ h2
    obtain ⟨g1, g2⟩ := cut_at 32 _ _ _ _ (dec_ne _ 32 (by decide)) (dec_ne _ 32 (by decide)) (.inr ⟨_, rfl⟩) (.inr ⟨_, rfl⟩) h2
    injection g2 with _ g2
    have e1 := dec_inj g1
    have e2 := dec_inj g2
    unfold Inst.right at hf hg
    have x1 : f.x = g.x := by omega
    have x2 : f.y = g.y := by omega
    rw [x1, x2]
  rw [if_neg h3, if_neg h3] at h2 ⊢
  by_cases h4 : f.op = 3
  · rw [if_pos h4, if_pos h4] at h2 ⊢
    injection h2 with _ h2
    have e1 := dec_inj h2
    unfold Inst.right at hf hg
    have x1 : f.x = g.x := by omega
    rw [x1]
  rw [if_neg h4, if_neg h4]
theorem line_used (i : Nat) {f g : Inst} (h : usedOf f = usedOf g) : lineOf i f = lineOf i g := by
  have key : ∀ f : Inst, wordOf f.op ++ (restOf f ++ [10]) = wordOf (usedOf f).op ++ (restOf (usedOf f) ++ [10]) := by
    intro f
    unfold usedOf restOf
    by_cases h1 : f.op = 1
    · simp [h1]
    by_cases h2 : f.op = 2
    · simp [h2]
    by_cases h3 : f.op = 3
    · simp [h3]
    simp [h1, h2, h3]
  unfold lineOf
  rw [key f, key g, h]

theorem ptext_end (L : List Inst) (n : Nat) : ptext L n = [] ∨ ∃ x', ptext L n = x' ++ [10] := by
  cases n with
  | zero => exact .inl rfl
  | succ n => exact .inr ⟨ptext L n ++ bodyOf n (L.getD n (Inst.of 0)), by show ptext L n ++ lineOf n _ = _; rw [lineOf_body, List.append_assoc]⟩
theorem ptext_inj {L M : List Inst} : ∀ n m, ptext L n = ptext M m → n = m ∧ ∀ k, k < n → bodyOf k (L.getD k (Inst.of 0)) = bodyOf k (M.getD k (Inst.of 0))
  | 0, 0, _ => ⟨rfl, fun k h => by omega⟩
  | 0, m + 1, h => by
    have h2 := congrArg List.length h
    simp [ptext, lineOf] at h2
  | n + 1, 0, h => by
    have h2 := congrArg List.length h
    simp [ptext, lineOf] at h2
  | n + 1, m + 1, h => by
    have h1 : ptext L n ++ lineOf n (L.getD n (Inst.of 0)) = ptext M m ++ lineOf m (M.getD m (Inst.of 0)) := h
    rw [lineOf_body, lineOf_body, ← List.append_assoc, ← List.append_assoc] at h1
    have h2 := List.append_cancel_right h1
    obtain ⟨h3, h4⟩ := cut_end 10 (body_no _ _) (body_no _ _) (ptext_end L n) (ptext_end M m) h2
    obtain ⟨rfl, h5⟩ := ptext_inj n m h4
    refine ⟨rfl, fun k hk => ?_⟩
    by_cases e : k = n
    · subst e
      exact h3
    · exact h5 k (by omega)
theorem ptext_same {L M : List Inst} : ∀ n, n ≤ L.length → n ≤ M.length → (∀ k (h : k < L.length) (h' : k < M.length), usedOf L[k] = usedOf M[k]) → ptext L n = ptext M n
  | 0, _, _, _ => rfl
  | n + 1, h1, h2, h => by
    show ptext L n ++ lineOf n (L.getD n (Inst.of 0)) = ptext M n ++ lineOf n (M.getD n (Inst.of 0))
    rw [ptext_same n (by omega) (by omega) h, List.getD_eq_getElem?_getD, List.getD_eq_getElem?_getD, List.getElem?_eq_getElem (show n < L.length by omega), List.getElem?_eq_getElem (show n < M.length by omega)]
    show _ ++ lineOf n L[n] = _ ++ lineOf n M[n]
    rw [line_used n (h n (by omega) (by omega))]
theorem ptext_first (L : List Inst) : ∀ n, 0 < n → ∃ t, ptext L n = 48 :: t
  | 1, _ => by
    refine ⟨32 :: (wordOf (L.getD 0 (Inst.of 0)).op ++ (restOf (L.getD 0 (Inst.of 0)) ++ [10])), ?_⟩
    show [] ++ (dec 0 ++ _) = _
    rw [dec_small (by omega)]
    rfl
  | n + 2, _ => by
    obtain ⟨t, ht⟩ := ptext_first L (n + 1) (by omega)
    refine ⟨t ++ lineOf (n + 1) (L.getD (n + 1) (Inst.of 0)), ?_⟩
    show ptext L (n + 1) ++ _ = _
    rw [ht]
    rfl
/-- Two valid programs have the same text exactly if they are alike. -/
theorem text_alike {L M : List Inst} {l m : Bool} (hL : rightAll L) (hM : rightAll M) (wL : ∀ k (h : k < L.length), L[k].set.wf) (wM : ∀ k (h : k < M.length), M[k].set.wf) : progText L l = progText M m ↔ alike L M l m := by
  constructor
  · intro h
    unfold progText at h
    obtain ⟨t, ht⟩ := ptext_first L L.length hL.1.1
    obtain ⟨t', ht'⟩ := ptext_first M M.length hM.1.1
    have hlm : l = m := by
      cases l <;> cases m
      · rfl
      · rw [ht, ht'] at h; simp [sLines] at h
      · rw [ht, ht'] at h; simp [sLines] at h
      · rfl
    subst hlm
    obtain ⟨h1, h2⟩ := ptext_inj _ _ (List.append_cancel_left h)
    refine ⟨h1, rfl, fun k hk hk' => ?_⟩
    have h3 := h2 k hk
    rw [List.getD_eq_getElem?_getD, List.getD_eq_getElem?_getD, List.getElem?_eq_getElem hk, List.getElem?_eq_getElem hk'] at h3
    have h4 := List.append_cancel_left h3
    injection h4 with _ h4
    have r2 := hM.2 k hk'
    rw [← h1] at r2
    exact word_inj (hL.2 k hk) r2 (wL k hk) (wM k hk') h4
  · rintro ⟨h1, rfl, h2⟩
    unfold progText
    rw [← h1, ptext_same L.length (Nat.le_refl _) (by omega) h2]
end Go.Proofs.YtjjhdddlbgdkeaaDoor
