/- The parses of a tree, plainly. -/
import Derived.Test.YtkinnfejgpnddaaDoorK02
import Derived.Lib.ItoaMem
import Derived.Test.YtkinnfejgpnddaaDoorProg
import Derived.Shelf.Strconv.Itoa0
import Derived.Shelf.Strconv.Itoa1
import Derived.Shelf.LaysM
import Derived.Shelf.Strconv.Itoa2
import Derived.Shelf.Strconv.AppendUint10
import Derived.Shelf.Strconv.AppendInt10
import Derived.Shelf.Strconv.AppendIntPublic10
import Derived.Laws.AppendOwnNone
namespace Go.Proofs.YtkinnfejgpnddaaDoor

abbrev Parse := Nat × Spans
def addP (l : List Parse) (p : Parse) : List Parse := if p ∈ l then l else l ++ [p]
/-- Each parse once, at its first place. -/
def nub (l : List Parse) : List Parse := l.foldl addP []
/-- Greater ends first. -/
def sortP (L : Nat) (l : List Parse) : List Parse := (List.range (L + 1)).reverse.flatMap fun e => l.filter fun q => q.1 == e
def most : Nat := 4096
def fin (L : Nat) (l : List Parse) : Option (List Parse) := if most < (nub l).length then none else some (sortP L (nub l))
/-- A situation: count, offset, spans. -/
abbrev Sit := Nat × Nat × Spans
section
variable (p : Pay) (gs : List Nat) (child : Nat → Spans → Option (List Parse))
def visit : Nat → Sit → List Sit × List Parse → Option (List Sit × List Parse)
  | 0, _, _ => none
  | f + 1, x, st =>
    let c := if p.hi < 0 ∧ p.lo < x.1 then p.lo.toNat else x.1
    if (c, x.2.1, x.2.2) ∈ st.1 then some st
    else if most < st.1.length + 1 then none
    else
      let st1 := (st.1 ++ [(c, x.2.1, x.2.2)], st.2)
      (if p.hi < 0 ∨ (c : Int) < p.hi then
        (child x.2.1 (unset x.2.2 gs)).bind fun l => l.foldlM (fun st q => if q.1 = x.2.1 ∧ p.lo ≤ c then some st else visit f (c + 1, q.1, q.2) st) st1
      else some st1).bind fun st => some (st.1, if p.lo ≤ (c : Int) then st.2 ++ [(x.2.1, x.2.2)] else st.2)
end
section
variable (s : List UInt8) (lines : Bool)
mutual
/-- The parses of a tree at an offset; none: too many. -/
def parses : Re → Nat → Spans → Option (List Parse)
  | .mk p xs, i, sp =>
    if p.op = 1 then some [(i, sp)]
    else if p.op = 2 then some (if decide (i < s.length) && p.set.has (byteAt s i).toNat then [(i + 1, sp)] else [])
    else if p.op = 3 then (catP xs [(i, sp)]).bind (fin s.length)
    else if p.op = 4 then (altP xs i sp).bind (fin s.length)
    else if p.op = 5 then (visit p (withinAll xs) (firstP xs) (most + 1) (0, i, sp) ([], [])).bind fun st => fin s.length st.2
    else if p.op = 6 then (firstP xs i sp).bind fun l => fin s.length (l.map fun q => (q.1, q.2.set (p.gr.toNat - 1) ((i : Int), (q.1 : Int))))
    else if p.op = 7 then some (if decide (i = 0) || lines && decide (byteAt s (i - 1) = 10) then [(i, sp)] else [])
    else if p.op = 8 then some (if decide (i = s.length) || lines && decide (byteAt s i = 10) then [(i, sp)] else [])
    else
      let g := sp.getD (p.gr.toNat - 1) (-1, -1)
      let m := (g.2 - g.1).toNat
      some (if decide (0 ≤ g.1) && decide (i + m ≤ s.length) && decide ((s.drop i).take m = (s.drop g.1.toNat).take m) then [(i + m, sp)] else [])
def firstP : List Re → Nat → Spans → Option (List Parse)
  | [], _, _ => none
  | x :: _, i, sp => parses x i sp
def altP : List Re → Nat → Spans → Option (List Parse)
  | [], _, _ => some []
  | x :: xs, i, sp => (parses x i sp).bind fun l => (altP xs i sp).bind fun m => some (l ++ m)
def catP : List Re → List Parse → Option (List Parse)
  | [], l => some l
  | x :: xs, l => (l.mapM fun q => parses x q.1 q.2).bind fun ms => if most < (nub ms.flatten).length then none else catP xs (nub ms.flatten)
end
end
theorem flatMap_same {α β : Type} {f g : α → List β} : ∀ {l : List α}, (∀ a, a ∈ l → f a = g a) → l.flatMap f = l.flatMap g
  | [], _ => rfl
  | a :: l, h => by rw [List.flatMap_cons, List.flatMap_cons, h a (by simp), flatMap_same fun b hb => h b (by simp [hb])]
theorem filter_split {α : Type} (f : α → Bool) : ∀ l : List α, l.length = (l.filter f).length + (l.filter fun x => !f x).length
  | [] => rfl
  | a :: l => by
    have := filter_split f l
    cases h : f a <;> simp [h] <;> omega
theorem addP_mem {l : List Parse} {p q : Parse} : q ∈ addP l p ↔ q ∈ l ∨ q = p := by
  unfold addP
  split
  · rename_i h
    constructor
    · exact .inl
    · rintro (h' | rfl)
      · exact h'
      · exact h
  · simp
theorem addP_nodup {l : List Parse} {p : Parse} (h : l.Nodup) : (addP l p).Nodup := by
  unfold addP
  split
  · exact h
  · rename_i hp
    exact List.nodup_append.2 ⟨h, by simp, by intro a ha b hb; simp at hb; subst hb; rintro rfl; exact hp ha⟩
theorem foldl_addP_mem (m : List Parse) : ∀ (l : List Parse) (q : Parse), q ∈ m.foldl addP l ↔ q ∈ l ∨ q ∈ m := by
  induction m with
  | nil => intro l q; simp
  | cons p m ih => intro l q; rw [List.foldl_cons, ih, addP_mem, List.mem_cons]; grind
theorem nub_mem {l : List Parse} {q : Parse} : q ∈ nub l ↔ q ∈ l := by unfold nub; rw [foldl_addP_mem]; simp
theorem foldl_addP_nodup (m : List Parse) : ∀ l : List Parse, l.Nodup → (m.foldl addP l).Nodup := by
  induction m with
  | nil => intro l h; exact h
  | cons p m ih => intro l h; exact ih _ (addP_nodup h)
theorem nub_nodup (l : List Parse) : (nub l).Nodup := foldl_addP_nodup l [] (by simp)
theorem nub_snoc (l : List Parse) (p : Parse) : nub (l ++ [p]) = addP (nub l) p := by unfold nub; rw [List.foldl_append]; rfl
theorem nub_append (l m : List Parse) : nub (l ++ m) = m.foldl addP (nub l) := by unfold nub; rw [List.foldl_append]
theorem filter_addP (f : Parse → Bool) (l : List Parse) (p : Parse) : (addP l p).filter f = if f p then addP (l.filter f) p else l.filter f := by
  unfold addP
  by_cases h : p ∈ l
  · rw [if_pos h]
    by_cases hf : f p
    · rw [if_pos hf, if_pos (List.mem_filter.2 ⟨h, hf⟩)]
    · rw [if_neg hf]
  · rw [if_neg h, List.filter_append]
    by_cases hf : f p
    · rw [if_pos hf, if_neg (fun hm => h (List.mem_filter.1 hm).1)]; simp [hf]
    · rw [if_neg hf]; simp [hf]
theorem nub_filter (f : Parse → Bool) (l : List Parse) : nub (l.filter f) = (nub l).filter f := by
  suffices h : ∀ (m a : List Parse), ((m.filter f).foldl addP (a.filter f)) = (m.foldl addP a).filter f by exact h l []
  intro m
  induction m with
  | nil => intro a; rfl
  | cons p m ih =>
    intro a
    rw [List.foldl_cons, ← ih, filter_addP]
    by_cases hf : f p
    · rw [List.filter_cons_of_pos hf, if_pos hf]; rfl
    · rw [List.filter_cons_of_neg hf, if_neg hf]
/-- Two lists without an element in common. -/
theorem nub_disjoint {a b : List Parse} (h : ∀ x, x ∈ a → x ∉ b) : nub (a ++ b) = nub a ++ nub b := by
  rw [nub_append]
  suffices k : ∀ (m c : List Parse), (∀ x, x ∈ m → x ∉ nub a) → m.foldl addP (nub a ++ c) = nub a ++ m.foldl addP c by
    have := k b [] (fun x hx hm => h x (nub_mem.1 hm) hx)
    simpa [nub] using this
  intro m
  induction m with
  | nil => intro c _; rfl
  | cons p m ih =>
    intro c hm
    rw [List.foldl_cons, List.foldl_cons]
    have hp := hm p (by simp)
    have : addP (nub a ++ c) p = nub a ++ addP c p := by
      unfold addP
      by_cases hc : p ∈ c
      · rw [if_pos hc, if_pos (List.mem_append.2 (.inr hc))]
      · rw [if_neg hc, if_neg (by rw [List.mem_append]; rintro (h | h); exact hp h; exact hc h)]; simp
    rw [this, ih _ (fun x hx => hm x (by simp [hx]))]
theorem nub_classes (l : List Parse) : ∀ es : List Nat, es.Nodup → nub (es.flatMap fun e => l.filter fun q => q.1 == e) = es.flatMap fun e => (nub l).filter fun q => q.1 == e
  | [], _ => rfl
  | e :: es, h => by
    rw [List.nodup_cons] at h
    rw [List.flatMap_cons, List.flatMap_cons, nub_disjoint, nub_filter, nub_classes l es h.2]
    intro x hx hm
    have h1 := (List.mem_filter.1 hx).2
    obtain ⟨e', he', hm⟩ := List.mem_flatMap.1 hm
    have h2 := (List.mem_filter.1 hm).2
    simp at h1 h2
    rw [h1] at h2
    subst h2
    exact h.1 he'
theorem nub_sortP (L : Nat) (l : List Parse) : nub (sortP L l) = sortP L (nub l) := nub_classes l _ (List.pairwise_reverse.2 (List.nodup_range.imp fun h e => h e.symm))
theorem sortP_mem {L : Nat} {l : List Parse} {q : Parse} : q ∈ sortP L l ↔ q ∈ l ∧ q.1 ≤ L := by
  unfold sortP
  rw [List.mem_flatMap]
  constructor
  · rintro ⟨e, he, hq⟩
    have h1 := List.mem_filter.1 hq
    simp at he h1
    exact ⟨h1.1, by omega⟩
  · rintro ⟨h1, h2⟩
    exact ⟨q.1, by simp; omega, List.mem_filter.2 ⟨h1, by simp⟩⟩
theorem sortP_desc (L : Nat) (l : List Parse) : (sortP L l).Pairwise fun x y => y.1 ≤ x.1 := by
  unfold sortP
  suffices h : ∀ es : List Nat, es.Pairwise (fun a b => b < a) → (es.flatMap fun e => l.filter fun q => q.1 == e).Pairwise fun x y => y.1 ≤ x.1 by
    exact h _ (List.pairwise_reverse.2 List.pairwise_lt_range)
  intro es
  induction es with
  | nil => intro _; simp
  | cons e es ih =>
    intro h
    rw [List.pairwise_cons] at h
    rw [List.flatMap_cons]
    refine List.pairwise_append.2 ⟨?_, ih h.2, ?_⟩
    · exact List.Pairwise.filter _ (List.pairwise_of_forall (fun x y => by trivial) : List.Pairwise (fun _ _ => True) l) |>.imp_of_mem (fun {x y} hx hy _ => by
        have h1 := (List.mem_filter.1 hx).2; have h2 := (List.mem_filter.1 hy).2; simp at h1 h2; omega)
    · intro x hx y hy
      have h1 := (List.mem_filter.1 hx).2
      obtain ⟨e', he', hm⟩ := List.mem_flatMap.1 hy
      have h2 := (List.mem_filter.1 hm).2
      have := h.1 e' he'
      simp at h1 h2
      omega
/-- A list with descending ends is its classes, one after the other. -/
theorem desc_classes (m : List Parse) (h : m.Pairwise fun x y => y.1 ≤ x.1) : ∀ L : Nat, (∀ q, q ∈ m → q.1 ≤ L) → m = sortP L m := by
  induction m with
  | nil => intro L _; unfold sortP; simp
  | cons p m ih =>
    intro L hL
    rw [List.pairwise_cons] at h
    have hp := hL p (by simp)
    have ih' := ih h.2 p.1 (fun q hq => h.1 q hq)
    have key : ∀ M : Nat, p.1 ≤ M → sortP M (p :: m) = p :: sortP p.1 m := by
      intro M
      induction M with
      | zero =>
        intro h0
        have : p.1 = 0 := by omega
        unfold sortP
        rw [this]
        simp [this]
      | succ M ihM =>
        intro hM
        by_cases he : p.1 = M + 1
        · unfold sortP
          rw [he, List.range_succ, List.reverse_append]
          simp only [List.reverse_cons, List.reverse_nil, List.nil_append, List.singleton_append, List.flatMap_cons]
          rw [List.filter_cons_of_pos (by simp [he]), List.cons_append]
          congr 2
          refine flatMap_same ?_
          intro e hee
          rw [List.filter_cons_of_neg]
          simp at hee
          simp; omega
        · have := ihM (by omega)
          rw [← this]
          unfold sortP
          rw [List.range_succ (n := M + 1), List.reverse_append]
          simp only [List.reverse_cons, List.reverse_nil, List.nil_append, List.singleton_append, List.flatMap_cons]
          have : (List.filter (fun q => q.1 == M + 1) (p :: m)) = [] := by
            rw [List.filter_eq_nil_iff]
            intro q hq
            rcases List.mem_cons.1 hq with rfl | hq
            · simpa using he
            · have := h.1 q hq; simp; omega
          rw [this, List.nil_append]
    rw [key L hp, ← ih']
theorem sortP_of {L : Nat} {l m : List Parse} (hd : m.Pairwise fun x y => y.1 ≤ x.1) (hs : ∀ e : Nat, (l.filter fun q => q.1 == e) = m.filter fun q => q.1 == e) (hl : ∀ q, q ∈ m → q.1 ≤ L) : m = sortP L l := by
  rw [desc_classes m hd L hl]
  unfold sortP
  exact flatMap_same fun e _ => (hs e).symm
theorem sortP_length {L : Nat} {l : List Parse} (hl : ∀ q, q ∈ l → q.1 ≤ L) : (sortP L l).length = l.length := by
  unfold sortP
  induction L generalizing l with
  | zero =>
    have : ∀ q ∈ l, (q.1 == 0) = true := fun q hq => by have := hl q hq; simp; omega
    simp [List.filter_eq_self.2 this]
  | succ L ih =>
    rw [List.range_succ (n := L + 1), List.reverse_append]
    simp only [List.reverse_cons, List.reverse_nil, List.nil_append, List.singleton_append, List.flatMap_cons]
    have h2 := ih (l := l.filter fun q => !(q.1 == L + 1)) (fun q hq => by have := hl q (List.mem_filter.1 hq).1; have := (List.mem_filter.1 hq).2; simp at this; omega)
    have h3 : (List.flatMap (fun e => List.filter (fun q => q.1 == e) l) (List.range (L + 1)).reverse) = (List.flatMap (fun e => List.filter (fun q => q.1 == e) (l.filter fun q => !(q.1 == L + 1))) (List.range (L + 1)).reverse) := by
      refine flatMap_same fun e he => ?_
      rw [List.filter_filter]
      refine List.filter_congr fun q _ => ?_
      simp at he
      by_cases h : q.1 = e
      · simp [h]; omega
      · simp [h]
    rw [List.length_append, h3, h2]
    have := filter_split (fun q => q.1 == L + 1) l
    omega
theorem fin_sort {L : Nat} {l : List Parse} (hl : ∀ q, q ∈ l → q.1 ≤ L) : fin L l = if most < (nub (sortP L l)).length then none else some (nub (sortP L l)) := by
  unfold fin
  rw [nub_sortP, sortP_length (fun q hq => hl q (nub_mem.1 hq))]
theorem foldlM_inv {α σ : Type} {P : σ → Prop} {f : σ → α → Option σ} : ∀ (l : List α) (s s' : σ), l.foldlM f s = some s' → P s → (∀ s a s', a ∈ l → P s → f s a = some s' → P s') → P s'
  | [], s, s', h, hs, _ => by simp at h; subst h; exact hs
  | a :: l, s, s', h, hs, hf => by
    rw [List.foldlM_cons] at h
    cases h1 : f s a with
    | none => simp [h1] at h
    | some s1 =>
      simp [h1] at h
      exact foldlM_inv l s1 s' h (hf s a s1 (by simp) hs h1) fun s b s' hb => hf s b s' (by simp [hb])
theorem mapM_inv {α β : Type} {P : β → Prop} {f : α → Option β} : ∀ (l : List α) (m : List β), l.mapM f = some m → (∀ a b, a ∈ l → f a = some b → P b) → ∀ b, b ∈ m → P b
  | [], m, h, _ => by simp at h; subst h; intro b hb; cases hb
  | a :: l, m, h, hf => by
    rw [List.mapM_cons] at h
    cases h1 : f a with
    | none => simp [h1] at h
    | some b0 =>
      cases h2 : l.mapM f with
      | none => simp [h1, h2] at h
      | some m0 =>
        simp [h1, h2] at h
        subst h
        intro b hb
        rcases List.mem_cons.1 hb with rfl | hb
        · exact hf a b (by simp) h1
        · exact mapM_inv l m0 h2 (fun a b ha => hf a b (by simp [ha])) b hb
section
variable {p : Pay} {gs : List Nat} {child : Nat → Spans → Option (List Parse)}
/-- What all parses of a tree have, a repetition's have. -/
theorem visit_inv {G : Parse → Prop} (hG : ∀ j sp l, G (j, sp) → child j (unset sp gs) = some l → ∀ q, q ∈ l → G q) :
    ∀ (f : Nat) (x : Sit) (st st' : List Sit × List Parse), visit p gs child f x st = some st' → G (x.2.1, x.2.2) → (∀ q, q ∈ st.2 → G q) → ∀ q, q ∈ st'.2 → G q
  | 0, x, st, st', h, _, _ => by cases h
  | f + 1, (c0, i, sp), st, st', h, hx, hst => by
    rw [visit] at h
    dsimp only at h hx
    generalize (if p.hi < 0 ∧ p.lo < (c0 : Int) then p.lo.toNat else c0) = c at h
    split at h
    · have := Option.some.inj h; subst this; exact hst
    split at h
    · cases h
    rw [Option.bind_eq_some_iff] at h
    obtain ⟨st2, h1, h2⟩ := h
    have := Option.some.inj h2
    subst this
    have h3 : ∀ q, q ∈ st2.2 → G q := by
      split at h1
      · rw [Option.bind_eq_some_iff] at h1
        obtain ⟨l, h4, h5⟩ := h1
        refine foldlM_inv (P := fun st : List Sit × List Parse => ∀ q, q ∈ st.2 → G q) l _ st2 h5 hst fun s a s' ha hs hf => ?_
        split at hf
        · have := Option.some.inj hf; subst this; exact hs
        · exact visit_inv hG f _ s s' hf (hG i sp l hx h4 a ha) hs
      · have := Option.some.inj h1; subst this; exact hst
    intro q hq
    dsimp only at hq
    split at hq
    · rcases List.mem_append.1 hq with hq | hq
      · exact h3 q hq
      · have := List.mem_singleton.1 hq; subst this; exact hx
    · exact h3 q hq
end
theorem fin_mem {L : Nat} {l m : List Parse} (h : fin L l = some m) : ∀ q, q ∈ m → q ∈ l := by
  unfold fin at h
  split at h
  · cases h
  · have := Option.some.inj h; subst this
    intro q hq
    exact nub_mem.1 (sortP_mem.1 hq).1
theorem SpOk.put {N L : Nat} {sp : Spans} (h : SpOk N L sp) (g : Nat) (i k : Nat) (hik : i ≤ k) (hk : k ≤ L) : SpOk N L (sp.set g ((i : Int), (k : Int))) := by
  refine ⟨by rw [List.length_set]; exact h.1, fun x hx => ?_⟩
  rcases List.mem_or_eq_of_mem_set hx with hx | rfl
  · exact h.2 x hx
  · exact .inr ⟨by simp, by simpa using hik, by simpa using hk⟩
theorem SpOk.unset {N L : Nat} (gs : List Nat) : ∀ {sp : Spans}, SpOk N L sp → SpOk N L (unset sp gs) := by
  induction gs with
  | nil => intro sp h; exact h
  | cons g gs ih =>
    intro sp h
    refine ih (sp := sp.set (g - 1) (-1, -1)) ⟨by rw [List.length_set]; exact h.1, fun x hx => ?_⟩
    rcases List.mem_or_eq_of_mem_set hx with hx | rfl
    · exact h.2 x hx
    · exact .inl rfl
/-- A parse from i0 on, within the string. -/
def POk (N L i0 : Nat) (q : Parse) : Prop := i0 ≤ q.1 ∧ q.1 ≤ L ∧ SpOk N L q.2
section
variable (s : List UInt8) (lines : Bool) (N : Nat)
mutual
theorem parses_ok : ∀ (t : Re) (i : Nat) (sp : Spans) (l : List Parse), t.ok N → i ≤ s.length → SpOk N s.length sp → parses s lines t i sp = some l → ∀ q, q ∈ l → POk N s.length i q
  | .mk p xs, i, sp, l, hok, hi, hsp, h => by
    rw [Re.ok] at hok
    obtain ⟨⟨hop, -⟩, h34, h56, h69, hoks⟩ := hok
    have h0 : POk N s.length i (i, sp) := ⟨Nat.le_refl _, hi, hsp⟩
    rw [parses] at h
    split at h
    · have := Option.some.inj h; subst this; intro q hq; have := List.mem_singleton.1 hq; subst this; exact h0
    split at h
    · have := Option.some.inj h; subst this
      intro q hq
      split at hq
      · rename_i hc
        rw [Bool.and_eq_true, decide_eq_true_eq] at hc
        have := List.mem_singleton.1 hq; subst this
        exact ⟨by dsimp only; omega, by dsimp only; omega, hsp⟩
      · cases hq
    split at h
    · rw [Option.bind_eq_some_iff] at h
      obtain ⟨m, h1, h2⟩ := h
      intro q hq
      exact catP_ok xs [(i, sp)] m i hoks (fun q hq => by have := List.mem_singleton.1 hq; subst this; exact h0) h1 q (fin_mem h2 q hq)
    split at h
    · rw [Option.bind_eq_some_iff] at h
      obtain ⟨m, h1, h2⟩ := h
      intro q hq
      exact altP_ok xs i sp m hoks hi hsp h1 q (fin_mem h2 q hq)
    split at h
    · rw [Option.bind_eq_some_iff] at h
      obtain ⟨st, h1, h2⟩ := h
      intro q hq
      have hq := fin_mem h2 q hq
      refine visit_inv (G := POk N s.length i) (fun j sp' l' hj hl q' hq' => ?_) _ _ _ st h1 h0 (fun q hq => by cases hq) q hq
      have := firstP_ok xs j (unset sp' (withinAll xs)) l' hoks hj.2.1 (hj.2.2.unset _) hl q' hq'
      exact ⟨Nat.le_trans hj.1 this.1, this.2⟩
    split at h
    · rw [Option.bind_eq_some_iff] at h
      obtain ⟨m, h1, h2⟩ := h
      intro q hq
      obtain ⟨q0, hq0, rfl⟩ := List.mem_map.1 (fin_mem h2 q hq)
      have := firstP_ok xs i sp m hoks hi hsp h1 q0 hq0
      exact ⟨this.1, this.2.1, this.2.2.put _ _ _ this.1 this.2.1⟩
    split at h
    · have := Option.some.inj h; subst this
      intro q hq
      split at hq
      · have := List.mem_singleton.1 hq; subst this; exact h0
      · cases hq
    split at h
    · have := Option.some.inj h; subst this
      intro q hq
      split at hq
      · have := List.mem_singleton.1 hq; subst this; exact h0
      · cases hq
    · have := Option.some.inj h; subst this
      intro q hq
      split at hq
      · rename_i hc
        rw [Bool.and_eq_true, Bool.and_eq_true, decide_eq_true_eq, decide_eq_true_eq] at hc
        have := List.mem_singleton.1 hq; subst this
        exact ⟨by dsimp only; omega, hc.1.2, hsp⟩
      · cases hq
theorem firstP_ok : ∀ (xs : List Re) (i : Nat) (sp : Spans) (l : List Parse), Re.oks N xs → i ≤ s.length → SpOk N s.length sp → firstP s lines xs i sp = some l → ∀ q, q ∈ l → POk N s.length i q
  | [], i, sp, l, _, _, _, h => by rw [firstP] at h; cases h
  | x :: xs, i, sp, l, hok, hi, hsp, h => by rw [firstP] at h; rw [Re.oks] at hok; exact parses_ok x i sp l hok.1 hi hsp h
theorem altP_ok : ∀ (xs : List Re) (i : Nat) (sp : Spans) (l : List Parse), Re.oks N xs → i ≤ s.length → SpOk N s.length sp → altP s lines xs i sp = some l → ∀ q, q ∈ l → POk N s.length i q
  | [], i, sp, l, _, _, _, h => by rw [altP] at h; have := Option.some.inj h; subst this; intro q hq; cases hq
  | x :: xs, i, sp, l, hok, hi, hsp, h => by
    rw [altP] at h
    rw [Re.oks] at hok
    simp only [Option.bind_eq_some_iff] at h
    obtain ⟨a, h1, b, h2, h3⟩ := h
    have := Option.some.inj h3; subst this
    intro q hq
    rcases List.mem_append.1 hq with hq | hq
    · exact parses_ok x i sp a hok.1 hi hsp h1 q hq
    · exact altP_ok xs i sp b hok.2 hi hsp h2 q hq
theorem catP_ok : ∀ (xs : List Re) (l m : List Parse) (i0 : Nat), Re.oks N xs → (∀ q, q ∈ l → POk N s.length i0 q) → catP s lines xs l = some m → ∀ q, q ∈ m → POk N s.length i0 q
  | [], l, m, i0, _, hl, h => by rw [catP] at h; have := Option.some.inj h; subst this; exact hl
  | x :: xs, l, m, i0, hok, hl, h => by
    rw [catP] at h
    rw [Re.oks] at hok
    rw [Option.bind_eq_some_iff] at h
    obtain ⟨ms, h1, h2⟩ := h
    split at h2
    · cases h2
    refine catP_ok xs (nub ms.flatten) m i0 hok.2 (fun q hq => ?_) h2
    obtain ⟨b, hb, hqb⟩ := List.mem_flatten.1 (nub_mem.1 hq)
    refine mapM_inv (P := fun b : List Parse => ∀ q, q ∈ b → POk N s.length i0 q) l ms h1 (fun a b ha hf q hq => ?_) b hb q hqb
    have h3 := hl a ha
    have := parses_ok x a.1 a.2 b hok.1 h3.2.1 h3.2.2 hf q hq
    exact ⟨Nat.le_trans h3.1 this.1, this.2⟩
end
end
end Go.Proofs.YtkinnfejgpnddaaDoor

/- The text of a parse determines it. Nothing here speaks of the program's memory. -/
namespace Go.Proofs.YtkinnfejgpnddaaDoor
open Go.RowKit Go.Lib

def decVal (l : List UInt8) : Nat := l.foldl (fun a d => a * 10 + (d.toNat - 48)) 0
theorem decDigits_spec (u : Nat) : decVal (decDigits u) = u ∧ ∀ d, d ∈ decDigits u → 48 ≤ d.toNat ∧ d.toNat ≤ 57 := by
  induction u using Nat.strongRecOn with
  | _ u ih =>
    rw [decDigits]
    have h1 : ∀ k, k < 10 → (UInt8.ofNat (48 + k)).toNat = 48 + k := fun k hk => by simp; omega
    by_cases h : u < 10
    · rw [dif_pos h]
      refine ⟨?_, fun d hd => ?_⟩
      · simp only [decVal, List.foldl_cons, List.foldl_nil, h1 u h]; omega
      · rw [List.mem_singleton.1 hd, h1 u h]; omega
    · rw [dif_neg h]
      obtain ⟨h2, h3⟩ := ih (u / 10) (by omega)
      have h4 := h1 (u % 10) (by omega)
      refine ⟨?_, fun d hd => ?_⟩
      · unfold decVal at h2 ⊢
        rw [List.foldl_append, h2]
        simp only [List.foldl_cons, List.foldl_nil, h4]
        omega
      · rcases List.mem_append.1 hd with hd | hd
        · exact h3 d hd
        · rw [List.mem_singleton.1 hd, h4]; omega
theorem decDigits_inj {a b : Nat} (h : decDigits a = decDigits b) : a = b := by rw [← (decDigits_spec a).1, h, (decDigits_spec b).1]
theorem itoa_mem {n : Int} {d : UInt8} (h : d ∈ itoa n) : d.toNat = 45 ∨ 48 ≤ d.toNat ∧ d.toNat ≤ 57 := by
  unfold itoa at h
  split at h
  · rcases List.mem_cons.1 h with h | h
    · subst h; exact .inl rfl
    · exact .inr ((decDigits_spec _).2 d h)
  · exact .inr ((decDigits_spec _).2 d h)
theorem itoa_inj {a b : Int} (h : itoa a = itoa b) : a = b := by
  have key : ∀ (x : Nat) (y : List UInt8), decDigits x ≠ 45 :: y := fun x y e => by
    have := (decDigits_spec x).2 45 (by rw [e]; simp)
    have h45 : (45 : UInt8).toNat = 45 := rfl
    omega
  unfold itoa at h
  by_cases h1 : a < 0 <;> by_cases h2 : b < 0
  · rw [if_pos h1, if_pos h2] at h
    have := decDigits_inj (List.cons.inj h).2
    omega
  · rw [if_pos h1, if_neg h2] at h
    exact absurd h.symm (key _ _)
  · rw [if_neg h1, if_pos h2] at h
    exact absurd h (key _ _)
  · rw [if_neg h1, if_neg h2] at h
    have := decDigits_inj h
    omega
/-- Numbers with spaces between them. -/
def keyMore (l : List Int) : List UInt8 := l.flatMap fun m => 32 :: itoa m
def keyN (n : Int) (l : List Int) : List UInt8 := itoa n ++ keyMore l
theorem word_split : ∀ {u v r s : List UInt8}, (∀ d, d ∈ u → d ≠ 32) → (∀ d, d ∈ v → d ≠ 32) → (r = [] ∨ ∃ r', r = 32 :: r') → (s = [] ∨ ∃ s', s = 32 :: s') → u ++ r = v ++ s → u = v ∧ r = s
  | [], [], r, s, _, _, _, _, h => ⟨rfl, by simpa using h⟩
  | [], d :: v, r, s, _, hv, hr, _, h => by
    rcases hr with rfl | ⟨r', rfl⟩
    · simp at h
    · simp only [List.nil_append, List.cons_append, List.cons.injEq] at h
      exact absurd h.1.symm (hv d (by simp))
  | d :: u, [], r, s, hu, _, _, hs, h => by
    rcases hs with rfl | ⟨s', rfl⟩
    · simp at h
    · simp only [List.nil_append, List.cons_append, List.cons.injEq] at h
      exact absurd h.1 (hu d (by simp))
  | d :: u, e :: v, r, s, hu, hv, hr, hs, h => by
    simp only [List.cons_append, List.cons.injEq] at h
    obtain ⟨h1, h2⟩ := word_split (fun x hx => hu x (by simp [hx])) (fun x hx => hv x (by simp [hx])) hr hs h.2
    exact ⟨by rw [h.1, h1], h2⟩
theorem keyMore_form (l : List Int) : keyMore l = [] ∨ ∃ r, keyMore l = 32 :: r := by
  cases l with
  | nil => exact .inl rfl
  | cons a l => exact .inr ⟨_, rfl⟩
theorem itoa_no32 (n : Int) : ∀ d, d ∈ itoa n → d ≠ 32 := fun d hd e => by
  have := itoa_mem hd
  subst e
  have h32 : (32 : UInt8).toNat = 32 := rfl
  omega
theorem keyMore_inj : ∀ {l m : List Int}, keyMore l = keyMore m → l = m
  | [], [], _ => rfl
  | [], b :: m, h => by simp [keyMore] at h
  | a :: l, [], h => by simp [keyMore] at h
  | a :: l, b :: m, h => by
    have h' : itoa a ++ keyMore l = itoa b ++ keyMore m := by
      have h0 : keyMore (a :: l) = 32 :: (itoa a ++ keyMore l) := rfl
      have h1 : keyMore (b :: m) = 32 :: (itoa b ++ keyMore m) := rfl
      rw [h0, h1] at h
      exact (List.cons.inj h).2
    obtain ⟨h1, h2⟩ := word_split (itoa_no32 a) (itoa_no32 b) (keyMore_form l) (keyMore_form m) h'
    rw [itoa_inj h1, keyMore_inj h2]
def spNums (sp : Spans) : List Int := sp.flatMap fun x => [x.1, x.2]
theorem spNums_inj : ∀ {a b : Spans}, spNums a = spNums b → a = b
  | [], [], _ => rfl
  | [], y :: b, h => by simp [spNums] at h
  | x :: a, [], h => by simp [spNums] at h
  | (x1, x2) :: a, (y1, y2) :: b, h => by
    have h0 : x1 :: x2 :: spNums a = y1 :: y2 :: spNums b := h
    simp only [List.cons.injEq] at h0
    rw [h0.1, h0.2.1, spNums_inj h0.2.2]
/-- The text of a parse. -/
def keyB (q : Parse) : List UInt8 := keyN q.1 (spNums q.2)
theorem keyB_inj {a b : Parse} (h : keyB a = keyB b) : a = b := by
  obtain ⟨a1, a2⟩ := a
  obtain ⟨b1, b2⟩ := b
  unfold keyB keyN at h
  obtain ⟨h1, h2⟩ := word_split (itoa_no32 _) (itoa_no32 _) (keyMore_form _) (keyMore_form _) h
  have h3 : (a1 : Int) = b1 := itoa_inj h1
  have h4 := spNums_inj (keyMore_inj h2)
  dsimp only at h4
  rw [h4, show a1 = b1 by omega]
theorem keyB_mem {a : Parse} {l : List Parse} : keyB a ∈ l.map keyB ↔ a ∈ l := by
  rw [List.mem_map]
  constructor
  · rintro ⟨b, hb, e⟩
    rw [← keyB_inj e]; exact hb
  · exact fun h => ⟨a, h, rfl⟩
end Go.Proofs.YtkinnfejgpnddaaDoor

/- The library's contracts, laid at this dump (written by the kit's lay-plain.mjs; names for numbers by laytpl.py). -/
namespace Go.Proofs
open Go.Shelf
open Go.Lib in
open Go.Lib in
open Go.Lib in
open Go.Lib in
open Go.RowKit Go.Sort Go.Lib in
open Go.RowKit Go.Sort Go.Lib in
open Go.RowKit Go.Sort Go.Lib in
open Go.RowKit Go.Sort Go.Lib in
open Go.RowKit Go.Sort Go.Lib in
def Tryd.laysM176_ren : Go.Shelf.Ren := ⟨fun | 176 => 83 | 249 => 86 | 288 => 89 | 283 => 91 | 284 => 92 | 285 => 93 | 286 => 94 | 129 => 97 | 317 => 96 | 318 => 98 | 319 => 99 | 320 => 100 | 337 => 101 | 338 => 102 | n => n, fun | 37 => 79 | 2 => 2 | 3 => 3 | 53 => 22 | 4 => 4 | 9 => 9 | 171 => 128 | 0 => 0 | 173 => 131 | 212 => 135 | 51 => 136 | 5 => 5 | 20 => 20 | 213 => 137 | 46 => 126 | 232 => 140 | 233 => 141 | n => n, fun | 17 => 1 | 18 => 2 | 19 => 3 | n => n⟩
theorem Tryd.laysM176 : Go.Proofs.LaysM.n176 Tryd.prog Tryd.laysM176_ren := {
  mixed := by kernel_rfl
  f129 := Tryd.func97.trans (congrArg some (by kernel_rfl))
  f176 := Tryd.func83.trans (congrArg some (by kernel_rfl))
  f249 := Tryd.func86.trans (congrArg some (by kernel_rfl))
  f283 := Tryd.func91.trans (congrArg some (by kernel_rfl))
  f284 := Tryd.func92.trans (congrArg some (by kernel_rfl))
  f285 := Tryd.func93.trans (congrArg some (by kernel_rfl))
  f286 := Tryd.func94.trans (congrArg some (by kernel_rfl))
  f288 := Tryd.func89.trans (congrArg some (by kernel_rfl))
  f317 := Tryd.func96.trans (congrArg some (by kernel_rfl))
  f318 := Tryd.func98.trans (congrArg some (by kernel_rfl))
  f319 := Tryd.func99.trans (congrArg some (by kernel_rfl))
  f320 := Tryd.func100.trans (congrArg some (by kernel_rfl))
  f337 := Tryd.func101.trans (congrArg some (by kernel_rfl))
  f338 := Tryd.func102.trans (congrArg some (by kernel_rfl))
  t0 := Tryd.underlying0
  a0 := Tryd.isAgg0
  z0 := Tryd.sizeOf0
  v0 := Tryd.zeroValue0
  t2 := Tryd.underlying2
  a2 := Tryd.isAgg2
  z2 := Tryd.sizeOf2
  v2 := Tryd.zeroValue2
  t3 := Tryd.underlying3
  a3 := Tryd.isAgg3
  z3 := Tryd.sizeOf3
  v3 := Tryd.zeroValue3
  t4 := Tryd.underlying4
  a4 := Tryd.isAgg4
  z4 := Tryd.sizeOf4
  v4 := Tryd.zeroValue4
  t5 := Tryd.underlying5
  a5 := Tryd.isAgg5
  z5 := Tryd.sizeOf5
  v5 := Tryd.zeroValue5
  t9 := Tryd.underlying9
  a9 := Tryd.isAgg9
  z9 := Tryd.sizeOf9
  v9 := Tryd.zeroValue9
  t20 := Tryd.underlying20
  a20 := Tryd.isAgg20
  z20 := Tryd.sizeOf20
  v20 := Tryd.zeroValue20
  t37 := Tryd.underlying79
  a37 := Tryd.isAgg79
  z37 := Tryd.sizeOf79
  v37 := Tryd.zeroValue79
  t46 := Tryd.underlying126
  a46 := Tryd.isAgg126
  z46 := Tryd.sizeOf126
  v46 := Tryd.zeroValue126
  t51 := Tryd.underlying136
  a51 := Tryd.isAgg136
  z51 := Tryd.sizeOf136
  v51 := Tryd.zeroValue136
  t53 := Tryd.underlying22
  a53 := Tryd.isAgg22
  z53 := Tryd.sizeOf22
  v53 := Tryd.zeroValue22
  t171 := Tryd.underlying128
  a171 := Tryd.isAgg128
  z171 := Tryd.sizeOf128
  v171 := Tryd.zeroValue128
  t173 := Tryd.underlying131
  a173 := Tryd.isAgg131
  z173 := Tryd.sizeOf131
  v173 := Tryd.zeroValue131
  t212 := Tryd.underlying135
  a212 := Tryd.isAgg135
  z212 := Tryd.sizeOf135
  v212 := Tryd.zeroValue135
  t213 := Tryd.underlying137
  a213 := Tryd.isAgg137
  z213 := Tryd.sizeOf137
  t232 := Tryd.underlying140
  a232 := Tryd.isAgg140
  z232 := Tryd.sizeOf140
  v232 := Tryd.zeroValue140
  t233 := Tryd.underlying141
  a233 := Tryd.isAgg141
  z233 := Tryd.sizeOf141
  v233 := Tryd.zeroValue141
  g17 := by kernel_rfl
  g18 := by kernel_rfl
  g19 := by kernel_rfl
  i0 := by kernel_rfl
  i2 := by kernel_rfl
  i3 := by kernel_rfl
  i4 := by kernel_rfl
  i5 := by kernel_rfl
  i9 := by kernel_rfl
  i20 := by kernel_rfl
  i37 := by kernel_rfl
  i46 := by kernel_rfl
  i51 := by kernel_rfl
  i53 := by kernel_rfl
  i171 := by kernel_rfl
  i173 := by kernel_rfl
  i212 := by kernel_rfl
  i232 := by kernel_rfl
  i233 := by kernel_rfl
  m17 := by kernel_rfl
  m18 := by kernel_rfl
  m19 := by kernel_rfl }
open Go.RowKit Go.Sort Go.Lib in
/-- strconv.AppendInt: "AppendInt appends the string form of the integer i, as generated by FormatInt, to dst and returns the extended buffer.": AT BASE 10: WHAT COMES BACK OWNS dst's CELLS AND, BEHIND THEM, i's DECIMAL NUMERAL ('Lib.itoa i': at most 20 bytes), for every int64. Below the call's own blocks nothing has turned. (LAID: no walk: one application.) -/
theorem Tryd.strconv_AppendInt_10 (B n : Nat) (i : Int) (h0 : -9223372036854775808 ≤ i) (h1 : i ≤ 9223372036854775807) (sv : Value) (xs : List Value) (w : World) (hown : w.ownsRow B 5 1 sv n xs) (hBw : B ≤ w.heap.size) (hlim : n + 21 ≤ 140737488355328) (htab : Lib.TabBelow Tryd.prog B w "internal/strconv.uint64pow10" .u64 Lib.pow10Tab) :
    Calls Tryd.prog 83 #[sv, .int .i64 i, .int .i64 10] w fun e w' => ∃ v', e = .returned v' ∧ w'.ownsRow B 5 1 v' (n + (Lib.itoa i).length) (xs ++ Lib.byteCells (Lib.itoa i)) ∧ Below B w w' ∧ Lib.OthersKept 5 none w w' := Any.strconv_AppendInt_10 Tryd.laysM176 B n i h0 h1 sv xs w hown hBw hlim htab
end Go.Proofs

/- Lists of parses in memory. -/
namespace Go.Proofs.YtkinnfejgpnddaaDoor
open Go.RowKit
attribute [local go_sem] gives givesUpon

/-- Spans at a slice's place. -/
def SpQ (w : World) (v : Value) (sp : Spans) : Prop := ∃ a c, v = .slice a sp.length c ∧ (sp = [] ∨ ∃ b more, a = some ⟨b, 0, none⟩ ∧ Row w b (spc sp ++ more) 46)
theorem SpQ.of {w w' : World} {v : Value} {sp : Spans} (h : SpQ w v sp) (hb : ∀ b cs, Row w b cs 46 → Row w' b cs 46) : SpQ w' v sp := by
  obtain ⟨a, c, e, h1 | ⟨b, more, h1, h2⟩⟩ := h
  · exact ⟨a, c, e, .inl h1⟩
  · exact ⟨a, c, e, .inr ⟨b, more, h1, hb _ _ h2⟩⟩
theorem SpQ.below {w w' : World} {v : Value} {sp : Spans} (h : SpQ w v sp) (hf : Below w.heap.size w w') : SpQ w' v sp := h.of fun _ _ hr => hr.below hf hr.lt
theorem SpQ.but {S : List Nat} {w w' : World} {v : Value} {sp : Spans} (h : SpQ w v sp) (hf : But S w w') (hn : ∀ b cs, Row w b cs 46 → b ∉ S) : SpQ w' v sp := h.of fun b cs hr => hr.but hf (hn b cs hr)
theorem SpQ.form {w : World} {v : Value} {sp : Spans} (h : SpQ w v sp) : ∃ a c, v = .slice a sp.length c := by obtain ⟨a, c, e, _⟩ := h; exact ⟨a, c, e⟩
theorem SpB.q {p : Nat → Prop} {w : World} {v : Value} {sp : Spans} (h : SpB p w v sp) : SpQ w v sp := by
  rcases h with ⟨rfl, rfl⟩ | ⟨h0, b, c, m, rfl, h2, h3⟩
  · exact ⟨_, _, rfl, .inl rfl⟩
  · exact ⟨_, _, rfl, .inr ⟨b, m, rfl, h3⟩⟩
theorem OwnSp.q {w : World} {base : Nat} {a : Option Addr} {n c : Nat} {l : Spans} (h : OwnSp w base (.slice a n c) l) : SpQ w (.slice a n c) l := h.spb.q
/-- A parse's two cells. -/
def pcell (x : Parse × Value) : List Value := [.int .i64 x.1.1, x.2]
def PL (w : World) (L : List (Parse × Value)) : Prop := ∀ x, x ∈ L → SpQ w x.2 x.1.2
theorem pcells_length (L : List (Parse × Value)) : (L.flatMap pcell).length = L.length * 2 := by
  induction L with
  | nil => rfl
  | cons x L ih => rw [List.flatMap_cons, List.length_append, ih]; simp [pcell]; omega
theorem pcells_get : ∀ (L : List (Parse × Value)) (k : Nat) (x : Parse × Value), L[k]? = some x → (L.flatMap pcell)[k * 2]? = some (.int .i64 x.1.1) ∧ (L.flatMap pcell)[k * 2 + 1]? = some x.2
  | y :: L, 0, x, h => by simp at h; subst h; exact ⟨rfl, rfl⟩
  | y :: L, k + 1, x, h => by
    have := pcells_get L k x (by simpa using h)
    simpa [pcell, show (k + 1) * 2 = k * 2 + 2 by omega] using this
theorem PL.of {w w' : World} {L : List (Parse × Value)} (h : PL w L) (hb : ∀ b cs, Row w b cs 46 → Row w' b cs 46) : PL w' L := fun x hx => (h x hx).of hb
theorem PL.one {w : World} {L : List (Parse × Value)} (h : PL w L) : ∀ u, u ∈ L.flatMap pcell → u.oneCell' = true := by
  intro u hu
  obtain ⟨x, hx, hu⟩ := List.mem_flatMap.1 hu
  obtain ⟨a, c, e⟩ := (h x hx).form
  simp only [pcell, List.mem_cons, List.not_mem_nil, or_false] at hu
  rcases hu with rfl | rfl
  · rfl
  · rw [e]; rfl
/-- Parses at a slice's place; nil if there are none. -/
def PsQ (p : Nat → Prop) (w : World) (v : Value) (l : List Parse) : Prop :=
  (l = [] ∧ v = .slice none 0 0) ∨ (l ≠ [] ∧ ∃ (b c : Nat) (more : List Value) (L : List (Parse × Value)), v = .slice (some ⟨b, 0, none⟩) l.length c ∧ p b ∧ L.map Prod.fst = l ∧ PL w L ∧ Row w b (L.flatMap pcell ++ more) 48)
theorem PsQ.form {p : Nat → Prop} {w : World} {v : Value} {l : List Parse} (h : PsQ p w v l) : ∃ a c, v = .slice a l.length c := by
  rcases h with ⟨rfl, rfl⟩ | ⟨_, b, c, m, L, rfl, _⟩ <;> exact ⟨_, _, rfl⟩
theorem PsQ.of {p q : Nat → Prop} {w w' : World} {v : Value} {l : List Parse} (h : PsQ p w v l) (hb : ∀ b cs, Row w b cs 46 → Row w' b cs 46) (hp : ∀ b cs, p b → Row w b cs 48 → Row w' b cs 48 ∧ q b) : PsQ q w' v l := by
  rcases h with h | ⟨h0, b, c, m, L, h1, h2, h3, h4, h5⟩
  · exact .inl h
  · have h6 := hp b _ h2 h5
    exact .inr ⟨h0, b, c, m, L, h1, h6.2, h3, h4.of hb, h6.1⟩
theorem PsQ.below {p : Nat → Prop} {w w' : World} {v : Value} {l : List Parse} (h : PsQ p w v l) (hf : Below w.heap.size w w') : PsQ p w' v l :=
  h.of (fun _ _ hr => hr.below hf hr.lt) fun _ _ hp hr => ⟨hr.below hf hr.lt, hp⟩
theorem PsQ.mono {p q : Nat → Prop} {w : World} {v : Value} {l : List Parse} (h : PsQ p w v l) (hp : ∀ b, b < w.heap.size → p b → q b) : PsQ q w v l :=
  h.of (fun _ _ hr => hr) fun b _ h1 hr => ⟨hr, hp b hr.lt h1⟩
/-- A parse of a list, in memory. -/
theorem PsQ.get {p : Nat → Prop} {w : World} {v : Value} {l : List Parse} (h : PsQ p w v l) {k : Nat} (hk : k < l.length) : ∃ (b c : Nat) (q1 : Nat) (q2 : Spans) (sa : Option Addr) (sc : Nat), l[k]? = some (q1, q2) ∧ v = .slice (some ⟨b, 0, none⟩) l.length c ∧ b < w.heap.size ∧ p b ∧ (∃ cs, Row w b cs 48) ∧ w.cell? ⟨b, k * 2, none⟩ = some (.int .i64 q1) ∧ w.cell? ⟨b, k * 2 + 1, none⟩ = some (.slice sa q2.length sc) ∧ SpQ w (.slice sa q2.length sc) q2 := by
  rcases h with ⟨rfl, _⟩ | ⟨h0, b, c, m, L, h1, h2, h3, h4, h5⟩
  · simp at hk
  · subst h3
    have hkL : k < L.length := by simpa using hk
    have hg := pcells_get L k L[k] (by simp [hkL])
    have hl := pcells_length L
    have hsq := h4 L[k] (by simp)
    obtain ⟨sa, sc, e⟩ := hsq.form
    refine ⟨b, c, L[k].1.1, L[k].1.2, sa, sc, by simp [hkL], by simpa using h1, h5.lt, h2, ⟨_, h5⟩, ?_, ?_, ?_⟩
    · rw [h5.cell, List.getElem?_append_left (by omega), hg.1]
    · rw [h5.cell, List.getElem?_append_left (by omega), hg.2, e]
    · rw [← e]; exact hsq
/-- Parses that the call owns. -/
def OwnP (w : World) (base : Nat) (v : Value) (l : List Parse) : Prop := (l = [] → v = .slice none 0 0) ∧ ∃ L : List (Parse × Value), L.map Prod.fst = l ∧ PL w L ∧ w.ownsRow base 48 2 v l.length (L.flatMap pcell)
theorem OwnP.nil (w : World) (base : Nat) : OwnP w base (.slice none 0 0) [] := ⟨fun _ => rfl, [], rfl, (fun _ h => by cases h), World.ownsRow_nil _ _ _ _⟩
theorem OwnP.form {w : World} {base : Nat} {v : Value} {l : List Parse} (h : OwnP w base v l) : ∃ a c, v = .slice a l.length c := by obtain ⟨_, L, _, _, h3⟩ := h; exact ownsRow_shape h3
theorem OwnP.lt {w : World} {base : Nat} {v : Value} {l : List Parse} (h : OwnP w base v l) : ∀ g, v.ownBlock = some g → base ≤ g ∧ g < w.heap.size := by obtain ⟨_, L, _, _, h3⟩ := h; exact World.ownsRow.lt h3
theorem OwnP.keep {w w' : World} {base : Nat} {v : Value} {l : List Parse} (h : OwnP w base v l) (hb : ∀ b cs, Row w b cs 46 → Row w' b cs 46) (ho : ∀ g, v.ownBlock = some g → w'.heap[g]? = w.heap[g]?) : OwnP w' base v l := by
  obtain ⟨h0, L, h1, h2, h3, h4⟩ := h
  refine ⟨h0, L, h1, h2.of hb, h3, ?_⟩
  rcases h4 with h4 | ⟨g, cap, cur, hv, hg, hcur, hr⟩
  · exact .inl h4
  · exact .inr ⟨g, cap, cur, hv, hg, (ho g (by rw [hv]; rfl)).trans hcur, hr⟩
theorem OwnP.below {w w' : World} {base : Nat} {v : Value} {l : List Parse} (h : OwnP w base v l) (hf : Below w.heap.size w w') : OwnP w' base v l :=
  h.keep (fun _ _ hr => hr.below hf hr.lt) fun g hg => hf.block g (h.lt g hg).2
theorem OwnP.row {w : World} {base : Nat} {v : Value} {l : List Parse} (h : OwnP w base v l) {g : Nat} (hg : v.ownBlock = some g) : ∃ cs, Row w g cs 48 := by
  obtain ⟨h0, L, h1, h2, h3, h4⟩ := h
  rcases h4 with ⟨h4, -⟩ | ⟨g', cap, cur, hv, -, hcur, -⟩
  · rw [h4] at hg; cases hg
  · rw [hv] at hg
    have : g' = g := by simpa [Value.ownBlock] using hg
    subst this
    exact ⟨cur.toList, hcur⟩
theorem OwnP.psq {w : World} {base : Nat} {v : Value} {l : List Parse} (h : OwnP w base v l) : PsQ (fun b => base ≤ b ∧ v.ownBlock = some b) w v l := by
  obtain ⟨h0, L, h1, h2, h3, h4⟩ := h
  by_cases hl : l = []
  · exact .inl ⟨hl, h0 hl⟩
  · rcases h4 with ⟨-, h4⟩ | ⟨g, cap, cur, hv, hg, hcur, hn, hm, hs, hx⟩
    · exact absurd (List.eq_nil_of_length_eq_zero h4) hl
    · refine .inr ⟨hl, g, cap, cur.toList.drop (l.length * 2), L, hv, ⟨hg, by rw [hv]; rfl⟩, h1, h2, ?_⟩
      have e : L.flatMap pcell ++ cur.toList.drop (l.length * 2) = cur.toList := by rw [← hx]; exact List.take_append_drop _ _
      unfold Row
      rw [e]
      exact hcur
theorem info_parse : (Tryd.prog.info? 48).map (fun i => (i.zero, i.size, i.bytes)) = some (some (.agg #[.int .i64 0, .slice none 0 0]), 2, 32) := by kernel_rfl
/-- What is behind an append to parses of one's own. -/
theorem OwnP.app {w w' : World} {base : Nat} {v : Value} {l m : List Parse} {L M : List (Parse × Value)} {a' : Option Addr} {n' c' : Nat} (hm : m ≠ []) (hL : L.map Prod.fst = l) (hM : M.map Prod.fst = m) (h2 : PL w L) (h3 : PL w M) (h4 : w.ownsRow base 48 2 v l.length (L.flatMap pcell))
    (ho : w'.ownsRow base 48 2 (.slice a' n' c') n' (L.flatMap pcell ++ M.flatMap pcell)) (hg : w.grownBy w' v.ownBlock) (hn : n' = l.length + m.length) : OwnP w' base (.slice a' n' c') (l ++ m) := by
  have hsp : ∀ b cs, Row w b cs 46 → Row w' b cs 46 := fun b cs hr => hr.grownOwn h4 (by decide) hg
  refine ⟨fun e => absurd (List.append_eq_nil_iff.1 e).2 hm, L ++ M, by rw [List.map_append, hL, hM], fun x hx => ?_, ?_⟩
  · rcases List.mem_append.1 hx with hx | hx
    · exact (h2 x hx).of hsp
    · exact (h3 x hx).of hsp
  · rw [List.length_append, ← hn, List.flatMap_append]
    exact ho
/-- append of parses to parses of one's own, as an operation. -/
theorem wpList_append_ps {ops : Array Oper} {rest : List Oper} {o : Oper} {a : Act} {w : World} {Q : Exit → Act → World → Prop} (hgd : o.guard = none) (s x : Operand)
    (ho : o.op = .call { callee := .builtin .append, args := #[s, x], argTypes := #[33, 33] }) (base : Nat) (v : Value) (l m : List Parse) (p : Nat → Prop) (u : Value) (hs : a.eval s = v) (hown : OwnP w base v l) (hx : a.eval x = u) (hsrc : PsQ p w u m)
    (hsz : l.length + m.length ≤ 1000000) (hbase : base ≤ w.heap.size)
    (h : ∀ a' n' c' w', n' = (l ++ m).length → OwnP w' base (.slice a' n' c') (l ++ m) → w.grownBy w' v.ownBlock → (∀ g, (Value.slice a' n' c').ownBlock = some g → v.ownBlock = some g ∨ w.heap.size ≤ g) → wpList Tryd.prog ops Q rest (a.put o.dst (.slice a' n' c')) w') : wpList Tryd.prog ops Q (o :: rest) a w := by
  obtain ⟨i0, hi, hz0, hz1, hz2⟩ := info_parts info_parse
  obtain ⟨h0, L, h1, h2, h3⟩ := hown
  rcases hsrc with ⟨rfl, rfl⟩ | ⟨hm, b, c, more, M, rfl, hp, k1, k2, k3⟩
  · refine wpList_append_own_none hgd s x 33 ho base 48 i0 2 Tryd.underlying33 hi v l.length (L.flatMap pcell) hs h3 hx ?_
    obtain ⟨a', c', e⟩ := ownsRow_shape h3
    have := h a' l.length c' w (by simp) (by rw [List.append_nil, ← e]; exact ⟨h0, L, h1, h2, h3⟩) ⟨rfl, rfl, rfl, Nat.le_refl _, fun _ _ _ => rfl⟩ (by rw [← e]; exact fun g hg => .inl hg)
    rw [← e] at this
    exact this
  · have hml : m.length = M.length := by rw [← k1]; simp
    refine wpList_append_row hgd s x 33 ho base 48 i0 (.agg #[.int .i64 0, .slice none 0 0]) 2 32 Tryd.underlying33 hi hz0 hz1 hz2 rfl (by decide) v l.length (L.flatMap pcell) hs h3 ⟨b, 0, none⟩ m.length c (M.flatMap pcell) hx (by rw [pcells_length, hml]) ?_ k2.one (by unfold maxLen; omega) (by omega) hbase (List.length_pos_iff.2 hm) fun a' c' w' g1 g2 g3 => ?_
    · intro j u hj
      rw [Addr.add_lit, Nat.zero_add, k3.cell j]
      exact List.getElem?_append_left (List.getElem?_eq_some_iff.1 hj).1 ▸ hj
    · exact h a' _ c' w' (List.length_append).symm (OwnP.app hm h1 k1 h2 k2 h3 g1 g2 rfl) g2 g3
/-- A literal of one parse. -/
theorem PsQ.lit {w : World} {b : Nat} {q : Parse} {sv : Value} (hr : Row w b [.int .i64 q.1, sv] 48) (hs : SpQ w sv q.2) : PsQ (· = b) w (.slice (some ⟨b, 0, none⟩) 1 1) [q] :=
  .inr ⟨by simp, b, 1, [], [(q, sv)], rfl, rfl, rfl, (fun x hx => by have := List.mem_singleton.1 hx; subst this; exact hs), by simpa [pcell] using hr⟩
end Go.Proofs.YtkinnfejgpnddaaDoor

/- The reference of the parses: equal spans, a list with another parse, a sorted list. -/
namespace Go.Proofs.YtkinnfejgpnddaaDoor
open Go.RowKit
attribute [local go_sem] gives givesUpon

theorem run_eqIn_span (a b c d : Int) (x : World) : (Op.equalIn 10000 46 (.agg #[.int .i64 a, .int .i64 b]) (.agg #[.int .i64 c, .int .i64 d])).run Tryd.prog x = .ok (decide (a = c ∧ b = d)) x := by
  have hf : (Tryd.prog.fieldsOf 46).toList = [{ name := "From", type := 3, offset := 0, embedded := false, tag := "", pkgPath := "", byteOffset := 0 }, { name := "To", type := 3, offset := 1, embedded := false, tag := "", pkgPath := "", byteOffset := 8 }] := by kernel_rfl
  have key : decide (a = c ∧ b = d) = ((a == c) && (b == d)) := by
    rw [Bool.eq_iff_iff]
    simp only [decide_eq_true_eq, Bool.and_eq_true, beq_iff_eq]
  rw [key, run_equalIn_agg _ 9999 46 _ _ (by kernel_rfl) (by kernel_rfl), hf]
  simp [Op.eqFields, go_sem]
  by_cases h1 : a = c <;> by_cases h2 : b = d <;> simp [h1, h2]
set_option maxRecDepth 100000 in
set_option maxHeartbeats 8000000 in
theorem SameSpansQ_any (w : World) (v v' : Value) (l l' : Spans) (h : SpQ w v l) (h' : SpQ w v' l') (hl : l.length ≤ 1000) (_hl' : l'.length ≤ 1000) :
    Calls Tryd.prog 21 #[v, v'] w fun e w' => e = .returned (.bool (decide (l = l'))) ∧ Below w.heap.size w w' := by
  obtain ⟨a, c, rfl⟩ := h.form
  obtain ⟨a', c', rfl⟩ := h'.form
  by_cases hlen : l.length = l'.length
  · have HL := hid hlen
    obtain ⟨n, hn⟩ : ∃ n, n = l.length := ⟨_, rfl⟩
    have hn' : n = l'.length := hn.trans hlen
    have hn9 : n ≤ 1000 := by omega
    have H1 := hid h
    have H2 := hid h'
    have HN := hid hn
    have HN' := hid hn'
    rw [← hn, ← hn']
    clear hlen h h' hn hn' hl
    go_enter Tryd.func21, Tryd.ntmps21
    go_wp2_with fail
    go_loopw [5] (fun v wr => ∃ k : Nat, k ≤ n ∧ v = .int .i64 k ∧ Hid (∀ j, j < k → l[j]? = l'[j]?) ∧ Hid (Below w.heap.size w wr)) (fun v _ => n - (intOf v).toNat)
    case atStart => exact ⟨0, Nat.zero_le _, rfl, fun j hj => by omega, Below.refl _ _⟩
    case round =>
      obtain ⟨k, hk, rfl, HE, HB⟩ := hrel
      by_cases hlt : k < n
      · have hltI : (k : Int) < (n : Int) := by omega
        have hk1 : k < l.length := by have := HN.out; omega
        have hk2 : k < l'.length := by have := HN'.out; omega
        obtain ⟨a1, cc, e, hh⟩ := H1.out
        rcases hh with h0 | ⟨b, more, e1, hr⟩
        · rw [h0] at hk1; simp at hk1
        obtain ⟨a2, cc', e', hh⟩ := H2.out
        rcases hh with h0 | ⟨b', more', e2, hr'⟩
        · rw [h0] at hk2; simp at hk2
        subst e1; subst e2
        injection e with e1 e3 e4
        injection e' with e2 e5 e6
        clear e3 e4 e5 e6
        subst e1; subst e2
        have hx := spc_get l k l[k] (by simp [hk1])
        have hx' := spc_get l' k l'[k] (by simp [hk2])
        have r1 := hr.below HB.out hr.lt
        have r2 := hr'.below HB.out hr'.lt
        have s1 := spc_length l
        have s2 := spc_length l'
        have p0 := r1.cell (k * 2)
        have p1 := r1.cell (k * 2 + 1)
        have p2 := r2.cell (k * 2)
        have p3 := r2.cell (k * 2 + 1)
        rw [List.getElem?_append_left (by omega), show k * 2 = 2 * k by omega, hx.1, show 2 * k = k * 2 by omega] at p0
        rw [List.getElem?_append_left (by omega), show k * 2 + 1 = 2 * k + 1 by omega, hx.2, show 2 * k + 1 = k * 2 + 1 by omega] at p1
        rw [List.getElem?_append_left (by omega), show k * 2 = 2 * k by omega, hx'.1, show 2 * k = k * 2 by omega] at p2
        rw [List.getElem?_append_left (by omega), show k * 2 + 1 = 2 * k + 1 by omega, hx'.2, show 2 * k + 1 = k * 2 + 1 by omega] at p3
        have HK1 : Hid (l[k]? = some l[k]) := by show _ = _; simp [hk1]
        have HK2 : Hid (l'[k]? = some l'[k]) := by show _ = _; simp [hk2]
        clear hr hr' s1 s2 hx hx'
        generalize l[k] = x at *
        generalize l'[k] = y at *
        obtain ⟨x1, x2⟩ := x
        obtain ⟨y1, y2⟩ := y
        dsimp only at p0 p1 p2 p3
        have HC0 := hid (⟨p0, p1, p2, p3, r1.lt, r2.lt⟩ : _ ∧ _ ∧ _ ∧ _ ∧ _ ∧ _)
        have HC := hid (fun (x : World) (hx : Grow wr.drew x) => (⟨((grow_below hx).cell (p := ⟨b, k * 2, none⟩) HC0.out.2.2.2.2.1).trans HC0.out.1, ((grow_below hx).cell (p := ⟨b, k * 2 + 1, none⟩) HC0.out.2.2.2.2.1).trans HC0.out.2.1, ((grow_below hx).cell (p := ⟨b', k * 2, none⟩) HC0.out.2.2.2.2.2).trans HC0.out.2.2.1, ((grow_below hx).cell (p := ⟨b', k * 2 + 1, none⟩) HC0.out.2.2.2.2.2).trans HC0.out.2.2.2.1⟩ : _ ∧ _ ∧ _ ∧ _))
        have heq := run_eqIn_span x1 x2 y1 y2
        clear r1 r2 p0 p1 p2 p3
        by_cases hxy : x1 = y1 ∧ x2 = y2
        · rw [decide_eq_true hxy] at heq
          have HXY := hid hxy
          clear hxy
          go_wp2_with fail
          refine wp_region_inv 9 (Grow) (by kernel_rfl) (by kernel_rfl) (Grow.refl) (fun _ _ _ => Grow.trans) ?_
          simp only [fill, dstOf, Act.put, List.take_succ_cons, List.take_zero, List.getElem?_toArray, List.getElem?_cons_zero, List.getElem?_cons_succ, Option.bind_some, List.setIfInBounds_toArray, List.set_cons_zero, List.set_cons_succ]
          refine Plan.det 1 rfl (Grow.refl) ?_
          apply Exists.intro
          refine ⟨fun vs x hR hF K hK => ?_, ?_⟩
          · clear hF
            go_simp
            exact hK _ _ (Grow.refl _) rfl
          refine Plan.det 2 rfl (Grow.refl) ?_
          apply Exists.intro
          refine ⟨fun vs x hR hF K hK => ?_, ?_⟩
          · clear hF
            go_simp
            exact hK _ _ (Grow.refl _) rfl
          refine Plan.det 3 rfl (Grow.refl) ?_
          apply Exists.intro
          refine ⟨fun vs x hR hF K hK => ?_, ?_⟩
          · have f0 := hF 1 _ _ rfl rfl; have f1 := hF 0 _ _ rfl rfl; clear hF
            go_simp
            exact hK _ _ (Grow.refl _) rfl
          refine Plan.det 4 rfl (Grow.refl) ?_
          apply Exists.intro
          refine ⟨fun vs x hR hF K hK => ?_, ?_⟩
          · have f2 := hF 0 _ _ rfl rfl; have hc := HC.out x hR; clear hF
            go_simp
            exact hK _ _ (Grow.refl _) rfl
          refine Plan.det 5 rfl (Grow.refl) ?_
          apply Exists.intro
          refine ⟨fun vs x hR hF K hK => ?_, ?_⟩
          · clear hF
            go_simp
            exact hK _ _ (Grow.refl _) rfl
          refine Plan.det 6 rfl (Grow.refl) ?_
          apply Exists.intro
          refine ⟨fun vs x hR hF K hK => ?_, ?_⟩
          · clear hF
            go_simp
            exact hK _ _ (Grow.refl _) rfl
          refine Plan.det 7 rfl (Grow.refl) ?_
          apply Exists.intro
          refine ⟨fun vs x hR hF K hK => ?_, ?_⟩
          · have f4 := hF 1 _ _ rfl rfl; have f5 := hF 0 _ _ rfl rfl; clear hF
            go_simp
            exact hK _ _ (Grow.refl _) rfl
          refine Plan.det 8 rfl (Grow.refl) ?_
          apply Exists.intro
          refine ⟨fun vs x hR hF K hK => ?_, ?_⟩
          · have f6 := hF 0 _ _ rfl rfl; have hc := HC.out x hR; clear hF
            go_simp
            exact hK _ _ (Grow.refl _) rfl
          refine Plan.det 9 rfl (Grow.refl) ?_
          apply Exists.intro
          refine ⟨fun vs x hR hF K hK => ?_, ?_⟩
          · have f3 := hF 4 _ _ rfl rfl; have f7 := hF 0 _ _ rfl rfl; clear hF
            go_simp
            exact hK _ _ (Grow.refl _) rfl
          refine Plan.nil (fun vs x hR hF => ?_)
          have f0 := hF 8 _ _ rfl; have f1 := hF 7 _ _ rfl; have f2 := hF 6 _ _ rfl; have f3 := hF 5 _ _ rfl; have f4 := hF 4 _ _ rfl; have f5 := hF 3 _ _ rfl; have f6 := hF 2 _ _ rfl; have f7 := hF 1 _ _ rfl; have f8 := hF 0 _ _ rfl
          clear hF
          simp only [f0, f1, f2, f3, f4, f5, f6, f7, f8]
          clear f0 f1 f2 f3 f4 f5 f6 f7 f8
          simp only [List.drop_succ_cons, List.drop_zero]
          have HBX := hid (HB.out.trans ((grow_below hR).mono HB.out.size))
          clear HC hR
          go_wp2_with fail
          refine ⟨⟨k + 1, by omega, by go_num, fun j hj => ?_, HBX.out⟩, ?_⟩
          · rcases Nat.lt_or_ge j k with h | h
            · exact HE.out j h
            · have : j = k := by omega
              subst this
              rw [HK1.out, HK2.out, HXY.out.1, HXY.out.2]
          · simp [intOf]; omega
        · rw [decide_eq_false hxy] at heq
          have HXY := hid hxy
          clear hxy
          go_wp2_with fail
          refine wp_region_inv 9 (Grow) (by kernel_rfl) (by kernel_rfl) (Grow.refl) (fun _ _ _ => Grow.trans) ?_
          simp only [fill, dstOf, Act.put, List.take_succ_cons, List.take_zero, List.getElem?_toArray, List.getElem?_cons_zero, List.getElem?_cons_succ, Option.bind_some, List.setIfInBounds_toArray, List.set_cons_zero, List.set_cons_succ]
          refine Plan.det 1 rfl (Grow.refl) ?_
          apply Exists.intro
          refine ⟨fun vs x hR hF K hK => ?_, ?_⟩
          · clear hF
            go_simp
            exact hK _ _ (Grow.refl _) rfl
          refine Plan.det 2 rfl (Grow.refl) ?_
          apply Exists.intro
          refine ⟨fun vs x hR hF K hK => ?_, ?_⟩
          · clear hF
            go_simp
            exact hK _ _ (Grow.refl _) rfl
          refine Plan.det 3 rfl (Grow.refl) ?_
          apply Exists.intro
          refine ⟨fun vs x hR hF K hK => ?_, ?_⟩
          · have f0 := hF 1 _ _ rfl rfl; have f1 := hF 0 _ _ rfl rfl; clear hF
            go_simp
            exact hK _ _ (Grow.refl _) rfl
          refine Plan.det 4 rfl (Grow.refl) ?_
          apply Exists.intro
          refine ⟨fun vs x hR hF K hK => ?_, ?_⟩
          · have f2 := hF 0 _ _ rfl rfl; have hc := HC.out x hR; clear hF
            go_simp
            exact hK _ _ (Grow.refl _) rfl
          refine Plan.det 5 rfl (Grow.refl) ?_
          apply Exists.intro
          refine ⟨fun vs x hR hF K hK => ?_, ?_⟩
          · clear hF
            go_simp
            exact hK _ _ (Grow.refl _) rfl
          refine Plan.det 6 rfl (Grow.refl) ?_
          apply Exists.intro
          refine ⟨fun vs x hR hF K hK => ?_, ?_⟩
          · clear hF
            go_simp
            exact hK _ _ (Grow.refl _) rfl
          refine Plan.det 7 rfl (Grow.refl) ?_
          apply Exists.intro
          refine ⟨fun vs x hR hF K hK => ?_, ?_⟩
          · have f4 := hF 1 _ _ rfl rfl; have f5 := hF 0 _ _ rfl rfl; clear hF
            go_simp
            exact hK _ _ (Grow.refl _) rfl
          refine Plan.det 8 rfl (Grow.refl) ?_
          apply Exists.intro
          refine ⟨fun vs x hR hF K hK => ?_, ?_⟩
          · have f6 := hF 0 _ _ rfl rfl; have hc := HC.out x hR; clear hF
            go_simp
            exact hK _ _ (Grow.refl _) rfl
          refine Plan.det 9 rfl (Grow.refl) ?_
          apply Exists.intro
          refine ⟨fun vs x hR hF K hK => ?_, ?_⟩
          · have f3 := hF 4 _ _ rfl rfl; have f7 := hF 0 _ _ rfl rfl; clear hF
            go_simp
            exact hK _ _ (Grow.refl _) rfl
          refine Plan.nil (fun vs x hR hF => ?_)
          have f0 := hF 8 _ _ rfl; have f1 := hF 7 _ _ rfl; have f2 := hF 6 _ _ rfl; have f3 := hF 5 _ _ rfl; have f4 := hF 4 _ _ rfl; have f5 := hF 3 _ _ rfl; have f6 := hF 2 _ _ rfl; have f7 := hF 1 _ _ rfl; have f8 := hF 0 _ _ rfl
          clear hF
          simp only [f0, f1, f2, f3, f4, f5, f6, f7, f8]
          clear f0 f1 f2 f3 f4 f5 f6 f7 f8
          simp only [List.drop_succ_cons, List.drop_zero]
          have HBX := hid (HB.out.trans ((grow_below hR).mono HB.out.size))
          clear HC hR
          go_wp2_with fail
          go_ret
          refine ⟨ret_bool ?_, HBX.out⟩
          rw [decide_eq_false]
          intro e
          have h1 := HK1.out
          rw [e, HK2.out] at h1
          injection h1 with h1
          injection h1 with h1 h2
          exact HXY.out ⟨h1.symm, h2.symm⟩
      · have hltI : ¬ (k : Int) < (n : Int) := by omega
        go_wp2_with fail
        go_ret
        refine ⟨ret_bool ?_, HB.out⟩
        rw [decide_eq_true]
        apply List.ext_getElem?
        intro j
        rcases Nat.lt_or_ge j n with h | h
        · exact HE.out j (by omega)
        · rw [List.getElem?_eq_none (by have := HN.out; omega), List.getElem?_eq_none (by have := HN'.out; omega)]
  · have d1 : ((l.length : Int) != (l'.length : Int)) = true := by simp; omega
    have HL := hid hlen
    clear hlen
    go_enter Tryd.func21, Tryd.ntmps21
    go_wp2_with fail
    go_ret
    exact ⟨ret_bool (by rw [decide_eq_false]; intro e; exact HL.out (by rw [e])), Below.refl _ _⟩

end Go.Proofs.YtkinnfejgpnddaaDoor

/- The reference of the parses: a sorted list. -/
namespace Go.Proofs.YtkinnfejgpnddaaDoor
open Go.RowKit
attribute [local go_sem] gives givesUpon

/-- The list and whether it is one; none: too many. -/
def RetP (w : World) (r : Option (List Parse)) (e : Ending) (w' : World) : Prop :=
  ∃ a n c, e = .returned (.tuple #[.slice a n c, .bool r.isSome]) ∧ Below w.heap.size w w' ∧ (∀ l, r = some l → n = l.length ∧ PsQ (w.heap.size ≤ ·) w' (.slice a n c) l) ∧ (r = none → a = none ∧ n = 0 ∧ c = 0)
end Go.Proofs.YtkinnfejgpnddaaDoor

/- The reference of the parses: spans with another one, spans without those of groups. -/
namespace Go.Proofs.YtkinnfejgpnddaaDoor
open Go.RowKit
attribute [local go_sem] gives givesUpon

theorem SpQ.get {w : World} {v : Value} {sp : Spans} (h : SpQ w v sp) {k : Nat} (hk : k < sp.length) : ∃ (b c : Nat) (x1 x2 : Int), sp[k]? = some (x1, x2) ∧ v = .slice (some ⟨b, 0, none⟩) sp.length c ∧ b < w.heap.size ∧ (∃ cs, Row w b cs 46) ∧ w.cell? ⟨b, k * 2, none⟩ = some (.int .i64 x1) ∧ w.cell? ⟨b, k * 2 + 1, none⟩ = some (.int .i64 x2) := by
  obtain ⟨a, c, e, h1 | ⟨b, more, h1, h2⟩⟩ := h
  · rw [h1] at hk; simp at hk
  · subst h1
    have hx := spc_get sp k sp[k] (by simp [hk])
    have hl := spc_length sp
    refine ⟨b, c, sp[k].1, sp[k].2, by simp [hk], e, h2.lt, ⟨_, h2⟩, ?_, ?_⟩
    · rw [h2.cell, List.getElem?_append_left (by omega), show k * 2 = 2 * k by omega, hx.1]
    · rw [h2.cell, List.getElem?_append_left (by omega), show k * 2 + 1 = 2 * k + 1 by omega, hx.2]
theorem SpQ.lit {w : World} {b : Nat} {x1 x2 : Int} (hr : Row w b [.int .i64 x1, .int .i64 x2] 46) : SpQ w (.slice (some ⟨b, 0, none⟩) 1 1) [(x1, x2)] := ⟨_, _, rfl, .inr ⟨b, [], rfl, by simpa [spc] using hr⟩⟩
theorem OwnSp.nil (w : World) (base : Nat) : OwnSp w base (.slice none 0 0) [] := ⟨fun _ => rfl, World.ownsRow_nil _ _ _ _⟩
theorem OwnSp.lt {w : World} {base : Nat} {v : Value} {l : Spans} (h : OwnSp w base v l) : ∀ g, v.ownBlock = some g → base ≤ g ∧ g < w.heap.size := World.ownsRow.lt h.2
end Go.Proofs.YtkinnfejgpnddaaDoor
