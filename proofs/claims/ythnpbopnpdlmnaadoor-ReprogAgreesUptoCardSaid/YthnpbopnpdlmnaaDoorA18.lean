/- The parses of a tree, plainly. -/
import Derived.Test.YthnpbopnpdlmnaaDoorA17
import Derived.Laws.AppendOwnNone
import Derived.WalkSpells
import Derived.Deep.CutRange
namespace Go.Proofs.YthnpbopnpdlmnaaDoor

abbrev Parse := Nat × Spans
def addP (l : List Parse) (p : Parse) : List Parse := if p ∈ l then l else l ++ [p]
def nub (l : List Parse) : List Parse := l.foldl addP []
def sortP (L : Nat) (l : List Parse) : List Parse := (List.range (L + 1)).reverse.flatMap fun e => l.filter fun q => q.1 == e
def most : Nat := 4096
def fin (L : Nat) (l : List Parse) : Option (List Parse) := if most < (nub l).length then none else some (sortP L (nub l))
abbrev Sit := Nat × Nat × Spans
section
variable (p : Pay) (gs : List Nat) (child : Nat → Spans → Option (List Parse))
def visit : Nat → Sit → List Sit × List Parse → Option (List Sit × List Parse)
  | 0, _, _ => none
  | f + 1, x, st =>
    let c := if p.hi < 0 ∧ p.lo < x.1 then p.lo.toNat else x.1
    if (c, x.2.1, x.2.2) ∈ st.1 then some st
    else if most < st.1.length + 1 then none
    else
      let st1 := (st.1 ++ [(c, x.2.1, x.2.2)], st.2)
      (if p.hi < 0 ∨ (c : Int) < p.hi then
        (child x.2.1 (unset x.2.2 gs)).bind fun l => l.foldlM (fun st q => if q.1 = x.2.1 ∧ p.lo ≤ c then some st else visit f (c + 1, q.1, q.2) st) st1
      else some st1).bind fun st => some (st.1, if p.lo ≤ (c : Int) then st.2 ++ [(x.2.1, x.2.2)] else st.2)
end
section
variable (s : List UInt8) (lines : Bool)
mutual
def parses : Re → Nat → Spans → Option (List Parse)
  | .mk p xs, i, sp =>
    if p.op = 1 then some [(i, sp)]
    else if p.op = 2 then some (if decide (i < s.length) && p.set.has (byteAt s i).toNat then [(i + 1, sp)] else [])
    else if p.op = 3 then (catP xs [(i, sp)]).bind (fin s.length)
    else if p.op = 4 then (altP xs i sp).bind (fin s.length)
    else if p.op = 5 then (visit p (withinAll xs) (firstP xs) (most + 1) (0, i, sp) ([], [])).bind fun st => fin s.length st.2
    else if p.op = 6 then (firstP xs i sp).bind fun l => fin s.length (l.map fun q => (q.1, q.2.set (p.gr.toNat - 1) ((i : Int), (q.1 : Int))))
    else if p.op = 7 then some (if decide (i = 0) || lines && decide (byteAt s (i - 1) = 10) then [(i, sp)] else [])
    else if p.op = 8 then some (if decide (i = s.length) || lines && decide (byteAt s i = 10) then [(i, sp)] else [])
    else
      let g := sp.getD (p.gr.toNat - 1) (-1, -1)
      let m := (g.2 - g.1).toNat
      some (if decide (0 ≤ g.1) && decide (i + m ≤ s.length) && decide ((s.drop i).take m = (s.drop g.1.toNat).take m) then [(i + m, sp)] else [])
def firstP : List Re → Nat → Spans → Option (List Parse)
  | [], _, _ => none
  | x :: _, i, sp => parses x i sp
def altP : List Re → Nat → Spans → Option (List Parse)
  | [], _, _ => some []
  | x :: xs, i, sp => (parses x i sp).bind fun l => (altP xs i sp).bind fun m => some (l ++ m)
def catP : List Re → List Parse → Option (List Parse)
  | [], l => some l
  | x :: xs, l => (l.mapM fun q => parses x q.1 q.2).bind fun ms => if most < (nub ms.flatten).length then none else catP xs (nub ms.flatten)
end
end
theorem flatMap_same {α β : Type} {f g : α → List β} : ∀ {l : List α}, (∀ a, a ∈ l → f a = g a) → l.flatMap f = l.flatMap g
  | [], _ => rfl
  | a :: l, h => by rw [List.flatMap_cons, List.flatMap_cons, h a (by simp), flatMap_same fun b hb => h b (by simp [hb])]
theorem filter_split {α : Type} (f : α → Bool) : ∀ l : List α, l.length = (l.filter f).length + (l.filter fun x => !f x).length
  | [] => rfl
  | a :: l => by
    have := filter_split f l
    cases h : f a <;> simp [h] <;> omega
theorem addP_mem {l : List Parse} {p q : Parse} : q ∈ addP l p ↔ q ∈ l ∨ q = p := by
  unfold addP
  split
  · rename_i h
    constructor
    · exact .inl
    · rintro (h' | rfl)
      · exact h'
      · exact h
  · simp
theorem foldl_addP_mem (m : List Parse) : ∀ (l : List Parse) (q : Parse), q ∈ m.foldl addP l ↔ q ∈ l ∨ q ∈ m := by
  induction m with
  | nil => intro l q; simp
  | cons p m ih => intro l q; rw [List.foldl_cons, ih, addP_mem, List.mem_cons]; grind
theorem nub_mem {l : List Parse} {q : Parse} : q ∈ nub l ↔ q ∈ l := by unfold nub; rw [foldl_addP_mem]; simp
theorem nub_snoc (l : List Parse) (p : Parse) : nub (l ++ [p]) = addP (nub l) p := by unfold nub; rw [List.foldl_append]; rfl
theorem nub_append (l m : List Parse) : nub (l ++ m) = m.foldl addP (nub l) := by unfold nub; rw [List.foldl_append]
theorem filter_addP (f : Parse → Bool) (l : List Parse) (p : Parse) : (addP l p).filter f = if f p then addP (l.filter f) p else l.filter f := by
  unfold addP
  by_cases h : p ∈ l
  · rw [if_pos h]
    by_cases hf : f p
    · rw [if_pos hf, if_pos (List.mem_filter.2 ⟨h, hf⟩)]
    · rw [if_neg hf]
  · rw [if_neg h, List.filter_append]
    by_cases hf : f p
    · rw [if_pos hf, if_neg (fun hm => h (List.mem_filter.1 hm).1)]; simp [hf]
    · rw [if_neg hf]; simp [hf]
theorem nub_filter (f : Parse → Bool) (l : List Parse) : nub (l.filter f) = (nub l).filter f := by
  suffices h : ∀ (m a : List Parse), ((m.filter f).foldl addP (a.filter f)) = (m.foldl addP a).filter f by exact h l []
  intro m
  induction m with
  | nil => intro a; rfl
  | cons p m ih =>
    intro a
    rw [List.foldl_cons, ← ih, filter_addP]
    by_cases hf : f p
    · rw [List.filter_cons_of_pos hf, if_pos hf]; rfl
    · rw [List.filter_cons_of_neg hf, if_neg hf]
theorem nub_disjoint {a b : List Parse} (h : ∀ x, x ∈ a → x ∉ b) : nub (a ++ b) = nub a ++ nub b := by
  rw [nub_append]
  suffices k : ∀ (m c : List Parse), (∀ x, x ∈ m → x ∉ nub a) → m.foldl addP (nub a ++ c) = nub a ++ m.foldl addP c by
    have := k b [] (fun x hx hm => h x (nub_mem.1 hm) hx)
    simpa [nub] using this
  intro m
  induction m with
  | nil => intro c _; rfl
  | cons p m ih =>
    intro c hm
    rw [List.foldl_cons, List.foldl_cons]
    have hp := hm p (by simp)
    have : addP (nub a ++ c) p = nub a ++ addP c p := by
      unfold addP
      by_cases hc : p ∈ c
      · rw [if_pos hc, if_pos (List.mem_append.2 (.inr hc))]
      · rw [if_neg hc, if_neg (by rw [List.mem_append]; rintro (h | h); exact hp h; exact hc h)]; simp
    rw [this, ih _ (fun x hx => hm x (by simp [hx]))]
theorem nub_classes (l : List Parse) : ∀ es : List Nat, es.Nodup → nub (es.flatMap fun e => l.filter fun q => q.1 == e) = es.flatMap fun e => (nub l).filter fun q => q.1 == e
  | [], _ => rfl
  | e :: es, h => by
    rw [List.nodup_cons] at h
    rw [List.flatMap_cons, List.flatMap_cons, nub_disjoint, nub_filter, nub_classes l es h.2]
    intro x hx hm
    have h1 := (List.mem_filter.1 hx).2
    obtain ⟨e', he', hm⟩ := List.mem_flatMap.1 hm
    have h2 := (List.mem_filter.1 hm).2
    simp at h1 h2
    rw [h1] at h2
    subst h2
    exact h.1 he'
theorem nub_sortP (L : Nat) (l : List Parse) : nub (sortP L l) = sortP L (nub l) := nub_classes l _ (List.pairwise_reverse.2 (List.nodup_range.imp fun h e => h e.symm))
theorem sortP_mem {L : Nat} {l : List Parse} {q : Parse} : q ∈ sortP L l ↔ q ∈ l ∧ q.1 ≤ L := by
  unfold sortP
  rw [List.mem_flatMap]
  constructor
  · rintro ⟨e, he, hq⟩
    have h1 := List.mem_filter.1 hq
    simp at he h1
    exact ⟨h1.1, by omega⟩
  · rintro ⟨h1, h2⟩
    exact ⟨q.1, by simp; omega, List.mem_filter.2 ⟨h1, by simp⟩⟩
theorem desc_classes (m : List Parse) (h : m.Pairwise fun x y => y.1 ≤ x.1) : ∀ L : Nat, (∀ q, q ∈ m → q.1 ≤ L) → m = sortP L m := by
  induction m with
  | nil => intro L _; unfold sortP; simp
  | cons p m ih =>
    intro L hL
    rw [List.pairwise_cons] at h
    have hp := hL p (by simp)
    have ih' := ih h.2 p.1 (fun q hq => h.1 q hq)
    have key : ∀ M : Nat, p.1 ≤ M → sortP M (p :: m) = p :: sortP p.1 m := by
      intro M
      induction M with
      | zero =>
        intro h0
        have : p.1 = 0 := by omega
        unfold sortP
        rw [this]
        simp [this]
      | succ M ihM =>
        intro hM
        by_cases he : p.1 = M + 1
        · unfold sortP
          rw [he, List.range_succ, List.reverse_append]
          simp only [List.reverse_cons, List.reverse_nil, List.nil_append, List.singleton_append, List.flatMap_cons]
          rw [List.filter_cons_of_pos (by simp [he]), List.cons_append]
          congr 2
          refine flatMap_same ?_
          intro e hee
          rw [List.filter_cons_of_neg]
          simp at hee
          simp; omega
        · have := ihM (by omega)
          rw [← this]
          unfold sortP
          rw [List.range_succ (n := M + 1), List.reverse_append]
          simp only [List.reverse_cons, List.reverse_nil, List.nil_append, List.singleton_append, List.flatMap_cons]
          have : (List.filter (fun q => q.1 == M + 1) (p :: m)) = [] := by
            rw [List.filter_eq_nil_iff]
            intro q hq
            rcases List.mem_cons.1 hq with rfl | hq
            · simpa using he
            · have := h.1 q hq; simp; omega
          rw [this, List.nil_append]
    rw [key L hp, ← ih']
theorem sortP_of {L : Nat} {l m : List Parse} (hd : m.Pairwise fun x y => y.1 ≤ x.1) (hs : ∀ e : Nat, (l.filter fun q => q.1 == e) = m.filter fun q => q.1 == e) (hl : ∀ q, q ∈ m → q.1 ≤ L) : m = sortP L l := by
  rw [desc_classes m hd L hl]
  unfold sortP
  exact flatMap_same fun e _ => (hs e).symm
theorem sortP_length {L : Nat} {l : List Parse} (hl : ∀ q, q ∈ l → q.1 ≤ L) : (sortP L l).length = l.length := by
  unfold sortP
  induction L generalizing l with
  | zero =>
    have : ∀ q ∈ l, (q.1 == 0) = true := fun q hq => by have := hl q hq; simp; omega
    simp [List.filter_eq_self.2 this]
  | succ L ih =>
    rw [List.range_succ (n := L + 1), List.reverse_append]
    simp only [List.reverse_cons, List.reverse_nil, List.nil_append, List.singleton_append, List.flatMap_cons]
    have h2 := ih (l := l.filter fun q => !(q.1 == L + 1)) (fun q hq => by have := hl q (List.mem_filter.1 hq).1; have := (List.mem_filter.1 hq).2; simp at this; omega)
    have h3 : (List.flatMap (fun e => List.filter (fun q => q.1 == e) l) (List.range (L + 1)).reverse) = (List.flatMap (fun e => List.filter (fun q => q.1 == e) (l.filter fun q => !(q.1 == L + 1))) (List.range (L + 1)).reverse) := by
      refine flatMap_same fun e he => ?_
      rw [List.filter_filter]
      refine List.filter_congr fun q _ => ?_
      simp at he
      by_cases h : q.1 = e
      · simp [h]; omega
      · simp [h]
    rw [List.length_append, h3, h2]
    have := filter_split (fun q => q.1 == L + 1) l
    omega
theorem fin_sort {L : Nat} {l : List Parse} (hl : ∀ q, q ∈ l → q.1 ≤ L) : fin L l = if most < (nub (sortP L l)).length then none else some (nub (sortP L l)) := by
  unfold fin
  rw [nub_sortP, sortP_length (fun q hq => hl q (nub_mem.1 hq))]
theorem foldlM_inv {α σ : Type} {P : σ → Prop} {f : σ → α → Option σ} : ∀ (l : List α) (s s' : σ), l.foldlM f s = some s' → P s → (∀ s a s', a ∈ l → P s → f s a = some s' → P s') → P s'
  | [], s, s', h, hs, _ => by simp at h; subst h; exact hs
  | a :: l, s, s', h, hs, hf => by
    rw [List.foldlM_cons] at h
    cases h1 : f s a with
    | none => simp [h1] at h
    | some s1 =>
      simp [h1] at h
      exact foldlM_inv l s1 s' h (hf s a s1 (by simp) hs h1) fun s b s' hb => hf s b s' (by simp [hb])
theorem mapM_inv {α β : Type} {P : β → Prop} {f : α → Option β} : ∀ (l : List α) (m : List β), l.mapM f = some m → (∀ a b, a ∈ l → f a = some b → P b) → ∀ b, b ∈ m → P b
  | [], m, h, _ => by simp at h; subst h; intro b hb; cases hb
  | a :: l, m, h, hf => by
    rw [List.mapM_cons] at h
    cases h1 : f a with
    | none => simp [h1] at h
    | some b0 =>
      cases h2 : l.mapM f with
      | none => simp [h1, h2] at h
      | some m0 =>
        simp [h1, h2] at h
        subst h
        intro b hb
        rcases List.mem_cons.1 hb with rfl | hb
        · exact hf a b (by simp) h1
        · exact mapM_inv l m0 h2 (fun a b ha => hf a b (by simp [ha])) b hb
section
variable {p : Pay} {gs : List Nat} {child : Nat → Spans → Option (List Parse)}
theorem visit_inv {G : Parse → Prop} (hG : ∀ j sp l, G (j, sp) → child j (unset sp gs) = some l → ∀ q, q ∈ l → G q) :
    ∀ (f : Nat) (x : Sit) (st st' : List Sit × List Parse), visit p gs child f x st = some st' → G (x.2.1, x.2.2) → (∀ q, q ∈ st.2 → G q) → ∀ q, q ∈ st'.2 → G q
  | 0, x, st, st', h, _, _ => by cases h
  | f + 1, (c0, i, sp), st, st', h, hx, hst => by
    rw [visit] at h
    dsimp only at h hx
    generalize (if p.hi < 0 ∧ p.lo < (c0 : Int) then p.lo.toNat else c0) = c at h
    split at h
    · have := Option.some.inj h; subst this; exact hst
    split at h
    · cases h
    rw [Option.bind_eq_some_iff] at h
    obtain ⟨st2, h1, h2⟩ := h
    have := Option.some.inj h2
    subst this
    have h3 : ∀ q, q ∈ st2.2 → G q := by
      split at h1
      · rw [Option.bind_eq_some_iff] at h1
        obtain ⟨l, h4, h5⟩ := h1
        refine foldlM_inv (P := fun st : List Sit × List Parse => ∀ q, q ∈ st.2 → G q) l _ st2 h5 hst fun s a s' ha hs hf => ?_
        split at hf
        · have := Option.some.inj hf; subst this; exact hs
        · exact visit_inv hG f _ s s' hf (hG i sp l hx h4 a ha) hs
      · have := Option.some.inj h1; subst this; exact hst
    intro q hq
    dsimp only at hq
    split at hq
    · rcases List.mem_append.1 hq with hq | hq
      · exact h3 q hq
      · have := List.mem_singleton.1 hq; subst this; exact hx
    · exact h3 q hq
end
theorem fin_mem {L : Nat} {l m : List Parse} (h : fin L l = some m) : ∀ q, q ∈ m → q ∈ l := by
  unfold fin at h
  split at h
  · cases h
  · have := Option.some.inj h; subst this
    intro q hq
    exact nub_mem.1 (sortP_mem.1 hq).1
theorem SpOk.put {N L : Nat} {sp : Spans} (h : SpOk N L sp) (g : Nat) (i k : Nat) (hik : i ≤ k) (hk : k ≤ L) : SpOk N L (sp.set g ((i : Int), (k : Int))) := by
  refine ⟨by rw [List.length_set]; exact h.1, fun x hx => ?_⟩
  rcases List.mem_or_eq_of_mem_set hx with hx | rfl
  · exact h.2 x hx
  · exact .inr ⟨by simp, by simpa using hik, by simpa using hk⟩
theorem SpOk.unset {N L : Nat} (gs : List Nat) : ∀ {sp : Spans}, SpOk N L sp → SpOk N L (unset sp gs) := by
  induction gs with
  | nil => intro sp h; exact h
  | cons g gs ih =>
    intro sp h
    refine ih (sp := sp.set (g - 1) (-1, -1)) ⟨by rw [List.length_set]; exact h.1, fun x hx => ?_⟩
    rcases List.mem_or_eq_of_mem_set hx with hx | rfl
    · exact h.2 x hx
    · exact .inl rfl
def POk (N L i0 : Nat) (q : Parse) : Prop := i0 ≤ q.1 ∧ q.1 ≤ L ∧ SpOk N L q.2
section
variable (s : List UInt8) (lines : Bool) (N : Nat)
mutual
theorem parses_ok : ∀ (t : Re) (i : Nat) (sp : Spans) (l : List Parse), t.ok N → i ≤ s.length → SpOk N s.length sp → parses s lines t i sp = some l → ∀ q, q ∈ l → POk N s.length i q
  | .mk p xs, i, sp, l, hok, hi, hsp, h => by
    rw [Re.ok] at hok
    obtain ⟨⟨hop, -⟩, h34, h56, h69, hoks⟩ := hok
    have h0 : POk N s.length i (i, sp) := ⟨Nat.le_refl _, hi, hsp⟩
    rw [parses] at h
    split at h
    · have := Option.some.inj h; subst this; intro q hq; have := List.mem_singleton.1 hq; subst this; exact h0
    split at h
    · have := Option.some.inj h; subst this
      intro q hq
      split at hq
      · rename_i hc
        rw [Bool.and_eq_true, decide_eq_true_eq] at hc
        have := List.mem_singleton.1 hq; subst this
        exact ⟨by dsimp only; omega, by dsimp only; omega, hsp⟩
      · cases hq
    split at h
    · rw [Option.bind_eq_some_iff] at h
      obtain ⟨m, h1, h2⟩ := h
      intro q hq
      exact catP_ok xs [(i, sp)] m i hoks (fun q hq => by have := List.mem_singleton.1 hq; subst this; exact h0) h1 q (fin_mem h2 q hq)
    split at h
    · rw [Option.bind_eq_some_iff] at h
      obtain ⟨m, h1, h2⟩ := h
      intro q hq
      exact altP_ok xs i sp m hoks hi hsp h1 q (fin_mem h2 q hq)
    split at h
    · rw [Option.bind_eq_some_iff] at h
      obtain ⟨st, h1, h2⟩ := h
      intro q hq
      have hq := fin_mem h2 q hq
      refine visit_inv (G := POk N s.length i) (fun j sp' l' hj hl q' hq' => ?_) _ _ _ st h1 h0 (fun q hq => by cases hq) q hq
      have := firstP_ok xs j (unset sp' (withinAll xs)) l' hoks hj.2.1 (hj.2.2.unset _) hl q' hq'
      exact ⟨Nat.le_trans hj.1 this.1, this.2⟩
    split at h
    · rw [Option.bind_eq_some_iff] at h
      obtain ⟨m, h1, h2⟩ := h
      intro q hq
      obtain ⟨q0, hq0, rfl⟩ := List.mem_map.1 (fin_mem h2 q hq)
      have := firstP_ok xs i sp m hoks hi hsp h1 q0 hq0
      exact ⟨this.1, this.2.1, this.2.2.put _ _ _ this.1 this.2.1⟩
    split at h
    · have := Option.some.inj h; subst this
      intro q hq
      split at hq
      · have := List.mem_singleton.1 hq; subst this; exact h0
      · cases hq
    split at h
    · have := Option.some.inj h; subst this
      intro q hq
      split at hq
      · have := List.mem_singleton.1 hq; subst this; exact h0
      · cases hq
    · have := Option.some.inj h; subst this
      intro q hq
      split at hq
      · rename_i hc
        rw [Bool.and_eq_true, Bool.and_eq_true, decide_eq_true_eq, decide_eq_true_eq] at hc
        have := List.mem_singleton.1 hq; subst this
        exact ⟨by dsimp only; omega, hc.1.2, hsp⟩
      · cases hq
theorem firstP_ok : ∀ (xs : List Re) (i : Nat) (sp : Spans) (l : List Parse), Re.oks N xs → i ≤ s.length → SpOk N s.length sp → firstP s lines xs i sp = some l → ∀ q, q ∈ l → POk N s.length i q
  | [], i, sp, l, _, _, _, h => by rw [firstP] at h; cases h
  | x :: xs, i, sp, l, hok, hi, hsp, h => by rw [firstP] at h; rw [Re.oks] at hok; exact parses_ok x i sp l hok.1 hi hsp h
theorem altP_ok : ∀ (xs : List Re) (i : Nat) (sp : Spans) (l : List Parse), Re.oks N xs → i ≤ s.length → SpOk N s.length sp → altP s lines xs i sp = some l → ∀ q, q ∈ l → POk N s.length i q
  | [], i, sp, l, _, _, _, h => by rw [altP] at h; have := Option.some.inj h; subst this; intro q hq; cases hq
  | x :: xs, i, sp, l, hok, hi, hsp, h => by
    rw [altP] at h
    rw [Re.oks] at hok
    simp only [Option.bind_eq_some_iff] at h
    obtain ⟨a, h1, b, h2, h3⟩ := h
    have := Option.some.inj h3; subst this
    intro q hq
    rcases List.mem_append.1 hq with hq | hq
    · exact parses_ok x i sp a hok.1 hi hsp h1 q hq
    · exact altP_ok xs i sp b hok.2 hi hsp h2 q hq
theorem catP_ok : ∀ (xs : List Re) (l m : List Parse) (i0 : Nat), Re.oks N xs → (∀ q, q ∈ l → POk N s.length i0 q) → catP s lines xs l = some m → ∀ q, q ∈ m → POk N s.length i0 q
  | [], l, m, i0, _, hl, h => by rw [catP] at h; have := Option.some.inj h; subst this; exact hl
  | x :: xs, l, m, i0, hok, hl, h => by
    rw [catP] at h
    rw [Re.oks] at hok
    rw [Option.bind_eq_some_iff] at h
    obtain ⟨ms, h1, h2⟩ := h
    split at h2
    · cases h2
    refine catP_ok xs (nub ms.flatten) m i0 hok.2 (fun q hq => ?_) h2
    obtain ⟨b, hb, hqb⟩ := List.mem_flatten.1 (nub_mem.1 hq)
    refine mapM_inv (P := fun b : List Parse => ∀ q, q ∈ b → POk N s.length i0 q) l ms h1 (fun a b ha hf q hq => ?_) b hb q hqb
    have h3 := hl a ha
    have := parses_ok x a.1 a.2 b hok.1 h3.2.1 h3.2.2 hf q hq
    exact ⟨Nat.le_trans h3.1 this.1, this.2⟩
end
end
end Go.Proofs.YthnpbopnpdlmnaaDoor

/- Lists of parses in memory. -/
namespace Go.Proofs.YthnpbopnpdlmnaaDoor
open Go.RowKit
attribute [local go_sem] gives givesUpon

def SpQ (w : World) (v : Value) (sp : Spans) : Prop := ∃ a c, v = .slice a sp.length c ∧ (sp = [] ∨ ∃ b more, a = some ⟨b, 0, none⟩ ∧ Row w b (spc sp ++ more) 74)
theorem SpQ.of {w w' : World} {v : Value} {sp : Spans} (h : SpQ w v sp) (hb : ∀ b cs, Row w b cs 74 → Row w' b cs 74) : SpQ w' v sp := by
  obtain ⟨a, c, e, h1 | ⟨b, more, h1, h2⟩⟩ := h
  · exact ⟨a, c, e, .inl h1⟩
  · exact ⟨a, c, e, .inr ⟨b, more, h1, hb _ _ h2⟩⟩
theorem SpQ.below {w w' : World} {v : Value} {sp : Spans} (h : SpQ w v sp) (hf : Below w.heap.size w w') : SpQ w' v sp := h.of fun _ _ hr => hr.below hf hr.lt
theorem SpQ.but {S : List Nat} {w w' : World} {v : Value} {sp : Spans} (h : SpQ w v sp) (hf : But S w w') (hn : ∀ b cs, Row w b cs 74 → b ∉ S) : SpQ w' v sp := h.of fun b cs hr => hr.but hf (hn b cs hr)
theorem SpQ.form {w : World} {v : Value} {sp : Spans} (h : SpQ w v sp) : ∃ a c, v = .slice a sp.length c := by obtain ⟨a, c, e, _⟩ := h; exact ⟨a, c, e⟩
def pcell (x : Parse × Value) : List Value := [.int .i64 x.1.1, x.2]
def PL (w : World) (L : List (Parse × Value)) : Prop := ∀ x, x ∈ L → SpQ w x.2 x.1.2
theorem pcells_length (L : List (Parse × Value)) : (L.flatMap pcell).length = L.length * 2 := by
  induction L with
  | nil => rfl
  | cons x L ih => rw [List.flatMap_cons, List.length_append, ih]; simp [pcell]; omega
theorem pcells_get : ∀ (L : List (Parse × Value)) (k : Nat) (x : Parse × Value), L[k]? = some x → (L.flatMap pcell)[k * 2]? = some (.int .i64 x.1.1) ∧ (L.flatMap pcell)[k * 2 + 1]? = some x.2
  | y :: L, 0, x, h => by simp at h; subst h; exact ⟨rfl, rfl⟩
  | y :: L, k + 1, x, h => by
    have := pcells_get L k x (by simpa using h)
    simpa [pcell, show (k + 1) * 2 = k * 2 + 2 by omega] using this
theorem PL.of {w w' : World} {L : List (Parse × Value)} (h : PL w L) (hb : ∀ b cs, Row w b cs 74 → Row w' b cs 74) : PL w' L := fun x hx => (h x hx).of hb
theorem PL.one {w : World} {L : List (Parse × Value)} (h : PL w L) : ∀ u, u ∈ L.flatMap pcell → u.oneCell' = true := by
  intro u hu
  obtain ⟨x, hx, hu⟩ := List.mem_flatMap.1 hu
  obtain ⟨a, c, e⟩ := (h x hx).form
  simp only [pcell, List.mem_cons, List.not_mem_nil, or_false] at hu
  rcases hu with rfl | rfl
  · rfl
  · rw [e]; rfl
def PsQ (p : Nat → Prop) (w : World) (v : Value) (l : List Parse) : Prop :=
  (l = [] ∧ v = .slice none 0 0) ∨ (l ≠ [] ∧ ∃ (b c : Nat) (more : List Value) (L : List (Parse × Value)), v = .slice (some ⟨b, 0, none⟩) l.length c ∧ p b ∧ L.map Prod.fst = l ∧ PL w L ∧ Row w b (L.flatMap pcell ++ more) 71)
theorem PsQ.form {p : Nat → Prop} {w : World} {v : Value} {l : List Parse} (h : PsQ p w v l) : ∃ a c, v = .slice a l.length c := by
  rcases h with ⟨rfl, rfl⟩ | ⟨_, b, c, m, L, rfl, _⟩ <;> exact ⟨_, _, rfl⟩
theorem PsQ.of {p q : Nat → Prop} {w w' : World} {v : Value} {l : List Parse} (h : PsQ p w v l) (hb : ∀ b cs, Row w b cs 74 → Row w' b cs 74) (hp : ∀ b cs, p b → Row w b cs 71 → Row w' b cs 71 ∧ q b) : PsQ q w' v l := by
  rcases h with h | ⟨h0, b, c, m, L, h1, h2, h3, h4, h5⟩
  · exact .inl h
  · have h6 := hp b _ h2 h5
    exact .inr ⟨h0, b, c, m, L, h1, h6.2, h3, h4.of hb, h6.1⟩
theorem PsQ.below {p : Nat → Prop} {w w' : World} {v : Value} {l : List Parse} (h : PsQ p w v l) (hf : Below w.heap.size w w') : PsQ p w' v l :=
  h.of (fun _ _ hr => hr.below hf hr.lt) fun _ _ hp hr => ⟨hr.below hf hr.lt, hp⟩
theorem PsQ.mono {p q : Nat → Prop} {w : World} {v : Value} {l : List Parse} (h : PsQ p w v l) (hp : ∀ b, b < w.heap.size → p b → q b) : PsQ q w v l :=
  h.of (fun _ _ hr => hr) fun b _ h1 hr => ⟨hr, hp b hr.lt h1⟩
theorem PsQ.get {p : Nat → Prop} {w : World} {v : Value} {l : List Parse} (h : PsQ p w v l) {k : Nat} (hk : k < l.length) : ∃ (b c : Nat) (q1 : Nat) (q2 : Spans) (sa : Option Addr) (sc : Nat), l[k]? = some (q1, q2) ∧ v = .slice (some ⟨b, 0, none⟩) l.length c ∧ b < w.heap.size ∧ p b ∧ (∃ cs, Row w b cs 71) ∧ w.cell? ⟨b, k * 2, none⟩ = some (.int .i64 q1) ∧ w.cell? ⟨b, k * 2 + 1, none⟩ = some (.slice sa q2.length sc) ∧ SpQ w (.slice sa q2.length sc) q2 := by
  rcases h with ⟨rfl, _⟩ | ⟨h0, b, c, m, L, h1, h2, h3, h4, h5⟩
  · simp at hk
  · subst h3
    have hkL : k < L.length := by simpa using hk
    have hg := pcells_get L k L[k] (by simp [hkL])
    have hl := pcells_length L
    have hsq := h4 L[k] (by simp)
    obtain ⟨sa, sc, e⟩ := hsq.form
    refine ⟨b, c, L[k].1.1, L[k].1.2, sa, sc, by simp [hkL], by simpa using h1, h5.lt, h2, ⟨_, h5⟩, ?_, ?_, ?_⟩
    · rw [h5.cell, List.getElem?_append_left (by omega), hg.1]
    · rw [h5.cell, List.getElem?_append_left (by omega), hg.2, e]
    · rw [← e]; exact hsq
def OwnP (w : World) (base : Nat) (v : Value) (l : List Parse) : Prop := (l = [] → v = .slice none 0 0) ∧ ∃ L : List (Parse × Value), L.map Prod.fst = l ∧ PL w L ∧ w.ownsRow base 71 2 v l.length (L.flatMap pcell)
theorem OwnP.nil (w : World) (base : Nat) : OwnP w base (.slice none 0 0) [] := ⟨fun _ => rfl, [], rfl, (fun _ h => by cases h), World.ownsRow_nil _ _ _ _⟩
theorem OwnP.form {w : World} {base : Nat} {v : Value} {l : List Parse} (h : OwnP w base v l) : ∃ a c, v = .slice a l.length c := by obtain ⟨_, L, _, _, h3⟩ := h; exact ownsRow_shape h3
theorem OwnP.lt {w : World} {base : Nat} {v : Value} {l : List Parse} (h : OwnP w base v l) : ∀ g, v.ownBlock = some g → base ≤ g ∧ g < w.heap.size := by obtain ⟨_, L, _, _, h3⟩ := h; exact World.ownsRow.lt h3
theorem OwnP.keep {w w' : World} {base : Nat} {v : Value} {l : List Parse} (h : OwnP w base v l) (hb : ∀ b cs, Row w b cs 74 → Row w' b cs 74) (ho : ∀ g, v.ownBlock = some g → w'.heap[g]? = w.heap[g]?) : OwnP w' base v l := by
  obtain ⟨h0, L, h1, h2, h3, h4⟩ := h
  refine ⟨h0, L, h1, h2.of hb, h3, ?_⟩
  rcases h4 with h4 | ⟨g, cap, cur, hv, hg, hcur, hr⟩
  · exact .inl h4
  · exact .inr ⟨g, cap, cur, hv, hg, (ho g (by rw [hv]; rfl)).trans hcur, hr⟩
theorem OwnP.below {w w' : World} {base : Nat} {v : Value} {l : List Parse} (h : OwnP w base v l) (hf : Below w.heap.size w w') : OwnP w' base v l :=
  h.keep (fun _ _ hr => hr.below hf hr.lt) fun g hg => hf.block g (h.lt g hg).2
theorem OwnP.row {w : World} {base : Nat} {v : Value} {l : List Parse} (h : OwnP w base v l) {g : Nat} (hg : v.ownBlock = some g) : ∃ cs, Row w g cs 71 := by
  obtain ⟨h0, L, h1, h2, h3, h4⟩ := h
  rcases h4 with ⟨h4, -⟩ | ⟨g', cap, cur, hv, -, hcur, -⟩
  · rw [h4] at hg; cases hg
  · rw [hv] at hg
    have : g' = g := by simpa [Value.ownBlock] using hg
    subst this
    exact ⟨cur.toList, hcur⟩
theorem OwnP.psq {w : World} {base : Nat} {v : Value} {l : List Parse} (h : OwnP w base v l) : PsQ (fun b => base ≤ b ∧ v.ownBlock = some b) w v l := by
  obtain ⟨h0, L, h1, h2, h3, h4⟩ := h
  by_cases hl : l = []
  · exact .inl ⟨hl, h0 hl⟩
  · rcases h4 with ⟨-, h4⟩ | ⟨g, cap, cur, hv, hg, hcur, hn, hm, hs, hx⟩
    · exact absurd (List.eq_nil_of_length_eq_zero h4) hl
    · refine .inr ⟨hl, g, cap, cur.toList.drop (l.length * 2), L, hv, ⟨hg, by rw [hv]; rfl⟩, h1, h2, ?_⟩
      have e : L.flatMap pcell ++ cur.toList.drop (l.length * 2) = cur.toList := by rw [← hx]; exact List.take_append_drop _ _
      unfold Row
      rw [e]
      exact hcur
theorem info_parse : (Tryd.prog.info? 71).map (fun i => (i.zero, i.size, i.bytes)) = some (some (.agg #[.int .i64 0, .slice none 0 0]), 2, 32) := by kernel_rfl
theorem OwnP.app {w w' : World} {base : Nat} {v : Value} {l m : List Parse} {L M : List (Parse × Value)} {a' : Option Addr} {n' c' : Nat} (hm : m ≠ []) (hL : L.map Prod.fst = l) (hM : M.map Prod.fst = m) (h2 : PL w L) (h3 : PL w M) (h4 : w.ownsRow base 71 2 v l.length (L.flatMap pcell))
    (ho : w'.ownsRow base 71 2 (.slice a' n' c') n' (L.flatMap pcell ++ M.flatMap pcell)) (hg : w.grownBy w' v.ownBlock) (hn : n' = l.length + m.length) : OwnP w' base (.slice a' n' c') (l ++ m) := by
  have hsp : ∀ b cs, Row w b cs 74 → Row w' b cs 74 := fun b cs hr => hr.grownOwn h4 (by decide) hg
  refine ⟨fun e => absurd (List.append_eq_nil_iff.1 e).2 hm, L ++ M, by rw [List.map_append, hL, hM], fun x hx => ?_, ?_⟩
  · rcases List.mem_append.1 hx with hx | hx
    · exact (h2 x hx).of hsp
    · exact (h3 x hx).of hsp
  · rw [List.length_append, ← hn, List.flatMap_append]
    exact ho
theorem wpList_append_ps {ops : Array Oper} {rest : List Oper} {o : Oper} {a : Act} {w : World} {Q : Exit → Act → World → Prop} (hgd : o.guard = none) (s x : Operand)
    (ho : o.op = .call { callee := .builtin .append, args := #[s, x], argTypes := #[39, 39] }) (base : Nat) (v : Value) (l m : List Parse) (p : Nat → Prop) (u : Value) (hs : a.eval s = v) (hown : OwnP w base v l) (hx : a.eval x = u) (hsrc : PsQ p w u m)
    (hsz : l.length + m.length ≤ 1000000) (hbase : base ≤ w.heap.size)
    (h : ∀ a' n' c' w', n' = (l ++ m).length → OwnP w' base (.slice a' n' c') (l ++ m) → w.grownBy w' v.ownBlock → (∀ g, (Value.slice a' n' c').ownBlock = some g → v.ownBlock = some g ∨ w.heap.size ≤ g) → wpList Tryd.prog ops Q rest (a.put o.dst (.slice a' n' c')) w') : wpList Tryd.prog ops Q (o :: rest) a w := by
  obtain ⟨i0, hi, hz0, hz1, hz2⟩ := info_parts info_parse
  obtain ⟨h0, L, h1, h2, h3⟩ := hown
  rcases hsrc with ⟨rfl, rfl⟩ | ⟨hm, b, c, more, M, rfl, hp, k1, k2, k3⟩
  · refine wpList_append_own_none hgd s x 39 ho base 71 i0 2 Tryd.underlying39 hi v l.length (L.flatMap pcell) hs h3 hx ?_
    obtain ⟨a', c', e⟩ := ownsRow_shape h3
    have := h a' l.length c' w (by simp) (by rw [List.append_nil, ← e]; exact ⟨h0, L, h1, h2, h3⟩) ⟨rfl, rfl, rfl, Nat.le_refl _, fun _ _ _ => rfl⟩ (by rw [← e]; exact fun g hg => .inl hg)
    rw [← e] at this
    exact this
  · have hml : m.length = M.length := by rw [← k1]; simp
    refine wpList_append_row hgd s x 39 ho base 71 i0 (.agg #[.int .i64 0, .slice none 0 0]) 2 32 Tryd.underlying39 hi hz0 hz1 hz2 rfl (by decide) v l.length (L.flatMap pcell) hs h3 ⟨b, 0, none⟩ m.length c (M.flatMap pcell) hx (by rw [pcells_length, hml]) ?_ k2.one (by unfold maxLen; omega) (by omega) hbase (List.length_pos_iff.2 hm) fun a' c' w' g1 g2 g3 => ?_
    · intro j u hj
      rw [Addr.add_lit, Nat.zero_add, k3.cell j]
      exact List.getElem?_append_left (List.getElem?_eq_some_iff.1 hj).1 ▸ hj
    · exact h a' _ c' w' (List.length_append).symm (OwnP.app hm h1 k1 h2 k2 h3 g1 g2 rfl) g2 g3
theorem PsQ.lit {w : World} {b : Nat} {q : Parse} {sv : Value} (hr : Row w b [.int .i64 q.1, sv] 71) (hs : SpQ w sv q.2) : PsQ (· = b) w (.slice (some ⟨b, 0, none⟩) 1 1) [q] :=
  .inr ⟨by simp, b, 1, [], [(q, sv)], rfl, rfl, rfl, (fun x hx => by have := List.mem_singleton.1 hx; subst this; exact hs), by simpa [pcell] using hr⟩
end Go.Proofs.YthnpbopnpdlmnaaDoor

/- The laws of layer 9: lists of ends (ends, has, within). -/
namespace Go.Proofs.YthnpbopnpdlmnaaDoor
open Go.RowKit
attribute [local go_sem] gives givesUpon

def nv9 (n : Nat) : Value := .int .i64 (n : Int)
def OwnN9 (w : World) (base : Nat) (v : Value) (l : List Nat) : Prop := w.ownsRow base 3 1 v l.length (l.map nv9)
def IntQ (w : World) (v : Value) (l : List Nat) : Prop := (l = [] ∧ v = .slice none 0 0) ∨ (l ≠ [] ∧ ∃ (b c : Nat) (more : List Value), v = .slice (some ⟨b, 0, none⟩) l.length c ∧ Row w b (l.map nv9 ++ more) 3)
theorem IntQ.below {w w' : World} {v : Value} {l : List Nat} (h : IntQ w v l) (hf : Below w.heap.size w w') : IntQ w' v l := by
  rcases h with h | ⟨h0, b, c, m, h1, h2⟩
  · exact .inl h
  · exact .inr ⟨h0, b, c, m, h1, h2.below hf h2.lt⟩
theorem IntQ.form {w : World} {v : Value} {l : List Nat} (h : IntQ w v l) : ∃ a c, v = .slice a l.length c := by
  rcases h with ⟨rfl, rfl⟩ | ⟨_, b, c, m, rfl, _⟩ <;> exact ⟨_, _, rfl⟩
theorem IntQ.get {w : World} {v : Value} {l : List Nat} (h : IntQ w v l) {k : Nat} (hk : k < l.length) : ∃ (b c n : Nat), l[k]? = some n ∧ v = .slice (some ⟨b, 0, none⟩) l.length c ∧ b < w.heap.size ∧ w.cell? ⟨b, k, none⟩ = some (.int .i64 n) := by
  rcases h with ⟨rfl, _⟩ | ⟨_, b, c, m, h1, h2⟩
  · simp at hk
  · refine ⟨b, c, l[k], by simp [hk], h1, h2.lt, ?_⟩
    rw [h2.cell, List.getElem?_append_left (by simpa using hk), List.getElem?_map, List.getElem?_eq_getElem hk]
    rfl
theorem OwnN9.nil (w : World) (base : Nat) : OwnN9 w base (.slice none 0 0) [] := World.ownsRow_nil _ _ _ _
theorem OwnN9.form {w : World} {base : Nat} {v : Value} {l : List Nat} (h : OwnN9 w base v l) : ∃ a c, v = .slice a l.length c := ownsRow_shape h
theorem OwnN9.lt {w : World} {base : Nat} {v : Value} {l : List Nat} (h : OwnN9 w base v l) : ∀ g, v.ownBlock = some g → base ≤ g ∧ g < w.heap.size := World.ownsRow.lt h
theorem OwnN9.keep {w w' : World} {base : Nat} {v : Value} {l : List Nat} (h : OwnN9 w base v l) (ho : ∀ g, v.ownBlock = some g → w'.heap[g]? = w.heap[g]?) : OwnN9 w' base v l := by
  obtain ⟨h3, h4⟩ := h
  refine ⟨h3, ?_⟩
  rcases h4 with h4 | ⟨g, cap, cur, hv, hg, hcur, hr⟩
  · exact .inl h4
  · exact .inr ⟨g, cap, cur, hv, hg, (ho g (by rw [hv]; rfl)).trans hcur, hr⟩
theorem OwnN9.below {w w' : World} {base : Nat} {v : Value} {l : List Nat} (h : OwnN9 w base v l) (hf : Below w.heap.size w w') : OwnN9 w' base v l := h.keep fun g hg => hf.block g (h.lt g hg).2
theorem OwnN9.q {w : World} {base : Nat} {v : Value} {l : List Nat} (h : OwnN9 w base v l) (h0 : l = [] → v = .slice none 0 0) : IntQ w v l := by
  by_cases hl : l = []
  · exact .inl ⟨hl, h0 hl⟩
  · obtain ⟨h3, h4⟩ := h
    rcases h4 with ⟨-, h4⟩ | ⟨g, cap, cur, hv, hg, hcur, hn, hm, hs, hx⟩
    · exact absurd (List.eq_nil_of_length_eq_zero h4) hl
    · refine .inr ⟨hl, g, cap, cur.toList.drop (l.length * 1), hv, ?_⟩
      have e : l.map nv9 ++ cur.toList.drop (l.length * 1) = cur.toList := by rw [← hx]; exact List.take_append_drop _ _
      unfold Row
      rw [e]
      exact hcur
end Go.Proofs.YthnpbopnpdlmnaaDoor

/- The reference of the parses: equal spans, a list with another parse, a sorted list. -/
namespace Go.Proofs.YthnpbopnpdlmnaaDoor
open Go.RowKit
attribute [local go_sem] gives givesUpon

end Go.Proofs.YthnpbopnpdlmnaaDoor

/- The reference of the parses: a sorted list. -/
namespace Go.Proofs.YthnpbopnpdlmnaaDoor
open Go.RowKit
attribute [local go_sem] gives givesUpon

end Go.Proofs.YthnpbopnpdlmnaaDoor
