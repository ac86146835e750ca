/- The first parse that does: what a try comes to is what the first of the parses with this end comes to. -/
import Derived.Test.YthnpbopnpdlmnaaD36
import Derived.Test.YthnpbopnpdlmnaaD33
namespace Go.Proofs.Ythnpbopnpdlmnaa
open Go.RowKit

inductive Fst {α : Type} (R : α → Out → Prop) : List α → Out → Prop where
  | nil : Fst R [] .fail
  | hit {a l x} (h : R a (.found x)) : Fst R (a :: l) (.found x)
  | miss {a l o} (h : R a .fail) (hl : Fst R l o) : Fst R (a :: l) o
theorem Fst.found {α : Type} {R : α → Out → Prop} {a : List α} {x : Spans} (b : List α) (h : Fst R a (.found x)) : Fst R (a ++ b) (.found x) := by
  generalize he : Out.found x = o at h
  induction h with
  | nil => cases he
  | hit h => cases he; exact .hit h
  | miss h _ ih => exact .miss h (ih he)
theorem Fst.after {α : Type} {R : α → Out → Prop} {a b : List α} {o : Out} (h : Fst R a .fail) (k : Fst R b o) : Fst R (a ++ b) o := by
  generalize he : Out.fail = o1 at h
  induction h with
  | nil => exact k
  | hit _ => cases he
  | miss h _ ih => exact .miss h (ih he)
theorem Fst.join {α : Type} {R : α → Out → Prop} {a b : List α} {o : Out} (h : (∃ x, o = .found x ∧ Fst R a o) ∨ (Fst R a .fail ∧ Fst R b o)) : Fst R (a ++ b) o := by
  rcases h with ⟨x, rfl, h⟩ | ⟨h, k⟩
  · exact h.found b
  · exact h.after k
theorem Fst.part {α : Type} {R : α → Out → Prop} : ∀ {a b : List α} {o : Out}, Fst R (a ++ b) o → (∃ x, o = .found x ∧ Fst R a o) ∨ (Fst R a .fail ∧ Fst R b o)
  | [], b, o, h => .inr ⟨.nil, h⟩
  | c :: a, b, o, h => by
    rw [List.cons_append] at h
    cases h with
    | hit h => exact .inl ⟨_, rfl, .hit h⟩
    | miss h hl =>
      rcases Fst.part hl with ⟨x, rfl, h2⟩ | ⟨h2, h3⟩
      · exact .inl ⟨x, rfl, .miss h h2⟩
      · exact .inr ⟨.miss h h2, h3⟩
theorem Fst.all {α : Type} {R : α → Out → Prop} {l : List α} {o : Out} (h : Fst R l o) (ho : o = .fail) : ∀ a, a ∈ l → R a .fail := by
  induction h with
  | nil => intro a ha; cases ha
  | hit _ => cases ho
  | miss h _ ih =>
    intro a ha
    rcases List.mem_cons.1 ha with rfl | ha
    · exact h
    · exact ih ho a ha
theorem Fst.mono {α : Type} {R S : α → Out → Prop} {l : List α} {o : Out} (h : Fst R l o) : (∀ a o, a ∈ l → o ≠ .over → R a o → S a o) → Fst S l o := by
  induction h with
  | nil => exact fun _ => .nil
  | hit h => exact fun hs => .hit (hs _ _ (by simp) (by intro h; cases h) h)
  | miss h _ ih => exact fun hs => .miss (hs _ _ (by simp) (by intro h; cases h) h) (ih fun a o ha => hs a o (by simp [ha]))
theorem Fst.flat {α β : Type} {R : α → Out → Prop} {S : β → Out → Prop} {f : α → List β} {l : List α} {o : Out} (h : Fst R l o) : (∀ a o, a ∈ l → o ≠ .over → R a o → Fst S (f a) o) → Fst S (l.flatMap f) o := by
  induction h with
  | nil => exact fun _ => .nil
  | hit h => exact fun hs => by rw [List.flatMap_cons]; exact (hs _ _ (by simp) (by intro h; cases h) h).found _
  | miss h _ ih => exact fun hs => by rw [List.flatMap_cons]; exact (hs _ _ (by simp) (by intro h; cases h) h).after (ih fun a o ha => hs a o (by simp [ha]))
theorem Fst.more {α : Type} {R : α → Out → Prop} (p : α → Bool) : ∀ {l : List α} {o : Out}, Fst R (l.filter p) o → (∀ a, a ∈ l → p a = false → R a .fail) → Fst R l o
  | [], o, h, _ => h
  | a :: l, o, h, hp => by
    cases hpa : p a with
    | false =>
      rw [List.filter_cons_of_neg (by simp [hpa])] at h
      exact .miss (hp a (by simp) hpa) (Fst.more p h fun b hb => hp b (by simp [hb]))
    | true =>
      rw [List.filter_cons_of_pos hpa] at h
      cases h with
      | hit h => exact .hit h
      | miss h hl => exact .miss h (Fst.more p hl fun b hb => hp b (by simp [hb]))
theorem Fst.foldNub {R : Parse → Out → Prop} (hR : ∀ a x, R a .fail → R a (.found x) → False) : ∀ (l acc : List Parse) {o : Out}, Fst R (acc ++ l) o → Fst R (l.foldl addP acc) o
  | [], acc, o, h => by rwa [List.append_nil] at h
  | a :: l, acc, o, h => by
    rw [List.foldl_cons]
    apply Fst.foldNub hR
    unfold addP
    split
    · rename_i hm
      rcases Fst.part h with ⟨x, rfl, h1⟩ | ⟨h1, h2⟩
      · exact h1.found l
      · refine h1.after ?_
        cases h2 with
        | hit h5 => exact (hR a _ (h1.all rfl a hm) h5).elim
        | miss _ hl => exact hl
    · rw [List.append_assoc]; exact h
theorem Fst.nub {R : Parse → Out → Prop} (hR : ∀ a x, R a .fail → R a (.found x) → False) {l : List Parse} {o : Out} (h : Fst R l o) : Fst R (nub l) o := Fst.foldNub hR l [] h

section
variable (s : List UInt8) (lines : Bool)
theorem Ev.same {J sp K n o m n' o' m'} (h : Ev s lines J sp K n o m) (h' : Ev s lines J sp K n' o' m') (ho : o ≠ .over) (ho' : o' ≠ .over) : o = o' := by
  have h1 := (Ev.cost s lines h ho ((n - m) + (n' - m'))).1 (by omega)
  have h2 := (Ev.cost s lines h' ho' ((n - m) + (n' - m'))).1 (by omega)
  exact (Ev.det s lines h1 _ _ h2).1
theorem clampC_low {p : Pay} {c c' : Nat} (h : clampC p c = clampC p c') : ((c : Int) < p.lo ↔ (c' : Int) < p.lo) := by
  unfold clampC at h
  split at h <;> split at h <;> omega
theorem clampC_may {p : Pay} {c c' : Nat} (h : clampC p c = clampC p c') : mayRep p c ↔ mayRep p c' := by
  unfold clampC at h
  unfold mayRep
  split at h <;> split at h <;> omega
theorem clampC_next {p : Pay} {c c' : Nat} (h : clampC p c = clampC p c') : clampC p (c + 1) = clampC p (c' + 1) := by
  unfold clampC at h ⊢
  split at h <;> split at h <;> split <;> split <;> omega
theorem clampC_clampC (p : Pay) (c : Nat) : clampC p (clampC p c) = clampC p c := by
  unfold clampC
  split <;> first | rfl | (split <;> omega)
theorem clampC_repLow {p : Pay} {c c' : Nat} (h : clampC p c = clampC p c') (i : Nat) : repLow p c i = repLow p c' i := by
  unfold repLow
  have := clampC_low h
  by_cases hc : (c : Int) < p.lo
  · rw [if_pos hc, if_pos (this.1 hc)]
  · rw [if_neg hc, if_neg (fun h => hc (this.2 h))]
inductive KSim : Kont → Kont → Prop where
  | done : KSim .done .done
  | mark {g i k K K'} (h : KSim K K') : KSim (.mark g i k K) (.mark g i k K')
  | cat {xs j k K K'} (h : KSim K K') : KSim (.cat xs j k K) (.cat xs j k K')
  | rep {p x c c' j k K K'} (hc : clampC p c = clampC p c') (h : KSim K K') : KSim (.rep p x c j k K) (.rep p x c' j k K')
inductive JSim : Job → Job → Prop where
  | refl (J : Job) : JSim J J
  | rep {p x c c' i k} (hc : clampC p c = clampC p c') : JSim (.rep p x c i k) (.rep p x c' i k)
  | repj {p x c c' i k lo n} (hc : clampC p c = clampC p c') : JSim (.repj p x c i k lo n) (.repj p x c' i k lo n)
theorem KSim.refl : ∀ K : Kont, KSim K K
  | .done => .done
  | .mark g i k K => .mark (KSim.refl K)
  | .cat xs j k K => .cat (KSim.refl K)
  | .rep p x c j k K => .rep rfl (KSim.refl K)
theorem Ev.sim {J sp K n o m} (h : Ev s lines J sp K n o m) : ∀ {J' K'}, JSim J J' → KSim K K' → Ev s lines J' sp K' n o m := by
  induction h with
  | tryOver => intro J' K' hj hk; cases hj; exact .tryOver
  | leafFail h hp => intro J' K' hj hk; cases hj; exact .leafFail h hp
  | leaf h hp hn ih => intro J' K' hj hk; cases hj; exact .leaf h hp (ih (.refl _) hk)
  | tryCat h hn ih => intro J' K' hj hk; cases hj; exact .tryCat h (ih (.refl _) hk)
  | tryAlt h hn ih => intro J' K' hj hk; cases hj; exact .tryAlt h (ih (.refl _) hk)
  | tryRep h hn ih => intro J' K' hj hk; cases hj; exact .tryRep h (ih (.refl _) hk)
  | tryGroup h hn ih => intro J' K' hj hk; cases hj; exact .tryGroup h (ih (.refl _) (.mark hk))
  | catOne hn ih => intro J' K' hj hk; cases hj; exact .catOne (ih (.refl _) hk)
  | catMore hn ih => intro J' K' hj hk; cases hj; exact .catMore (ih (.refl _) hk)
  | catjNone => intro J' K' hj hk; cases hj; exact .catjNone
  | catjHit hn ho ih => intro J' K' hj hk; cases hj; exact .catjHit (ih (.refl _) (.cat hk)) ho
  | catjMiss hn hr ih ih2 => intro J' K' hj hk; cases hj; exact .catjMiss (ih (.refl _) (.cat hk)) (ih2 (.refl _) hk)
  | altNone => intro J' K' hj hk; cases hj; exact .altNone
  | altHit hn ho ih => intro J' K' hj hk; cases hj; exact .altHit (ih (.refl _) hk) ho
  | altMiss hn hr ih ih2 => intro J' K' hj hk; cases hj; exact .altMiss (ih (.refl _) hk) (ih2 (.refl _) hk)
  | repMay h hn ih =>
    intro J' K' hj hk
    cases hj with
    | refl => exact .repMay h (ih (.refl _) hk)
    | rep hc =>
      refine .repMay ((clampC_may hc).1 h) ?_
      rw [← clampC_repLow hc]
      exact ih (.repj hc) hk
  | repNot h hn ih =>
    intro J' K' hj hk
    cases hj with
    | refl => exact .repNot h (ih (.refl _) hk)
    | rep hc =>
      refine .repNot (fun h' => h ((clampC_may hc).2 h')) ?_
      rw [← clampC_repLow hc]
      exact ih (.repj hc) hk
  | repjHit hn ho ih =>
    intro J' K' hj hk
    cases hj with
    | refl => exact .repjHit (ih (.refl _) (.rep rfl hk)) ho
    | repj hc => exact .repjHit (ih (.refl _) (.rep (clampC_next hc) hk)) ho
  | repjMiss hn hr ih ih2 =>
    intro J' K' hj hk
    cases hj with
    | refl => exact .repjMiss (ih (.refl _) (.rep rfl hk)) (ih2 (.refl _) hk)
    | repj hc => exact .repjMiss (ih (.refl _) (.rep (clampC_next hc) hk)) (ih2 (.repj hc) hk)
  | repjEnd h hn ih =>
    intro J' K' hj hk
    cases hj with
    | refl => exact .repjEnd h (ih (.refl _) hk)
    | repj hc => exact .repjEnd ⟨h.1, Int.not_lt.1 fun h' => Int.not_lt.2 h.2 ((clampC_low hc).2 h')⟩ (ih (.refl _) hk)
  | repjFail h =>
    intro J' K' hj hk
    cases hj with
    | refl => exact .repjFail h
    | repj hc => exact .repjFail fun h' => h ⟨h'.1, Int.not_lt.1 fun h2 => Int.not_lt.2 h'.2 ((clampC_low hc).1 h2)⟩
  | nextDone => intro J' K' hj hk; cases hj; cases hk; exact .nextDone
  | nextMark hn ih => intro J' K' hj hk; cases hj; cases hk with | mark hk => exact .nextMark (ih (.refl _) hk)
  | nextCat hn ih => intro J' K' hj hk; cases hj; cases hk with | cat hk => exact .nextCat (ih (.refl _) hk)
  | nextRep hn ih => intro J' K' hj hk; cases hj; cases hk with | rep hc hk => exact .nextRep (ih (.rep hc) hk)

def NextO (K : Kont) (q : Parse) (o : Out) : Prop := ∃ n m, Ev s lines .next q.2 K n o m
def CatO (xs : List Re) (k : Nat) (K : Kont) (q : Parse) (o : Out) : Prop := ∃ n m, Ev s lines (.cat xs q.1 k) q.2 K n o m
def RepO (p : Pay) (x : Re) (k : Nat) (K : Kont) (c : Nat) (q : Parse) (o : Out) : Prop := ∃ n m, Ev s lines (.rep p x c q.1 k) q.2 K n o m
theorem NextO.fn (K : Kont) (a : Parse) (x : Spans) (h : NextO s lines K a .fail) (k : NextO s lines K a (.found x)) : False := by
  obtain ⟨n, m, h⟩ := h
  obtain ⟨n', m', k⟩ := k
  cases Ev.same s lines h k (by intro h; cases h) (by intro h; cases h)
theorem CatO.fn (xs : List Re) (k : Nat) (K : Kont) (a : Parse) (x : Spans) (h : CatO s lines xs k K a .fail) (h' : CatO s lines xs k K a (.found x)) : False := by
  obtain ⟨n, m, h⟩ := h
  obtain ⟨n', m', k⟩ := h'
  cases Ev.same s lines h k (by intro h; cases h) (by intro h; cases h)
theorem RepO.same {p x k K c q o o'} (h : RepO s lines p x k K c q o) (h' : RepO s lines p x k K c q o') (ho : o ≠ .over) (ho' : o' ≠ .over) : o = o' := by
  obtain ⟨n, m, h⟩ := h
  obtain ⟨n', m', k⟩ := h'
  exact Ev.same s lines h k ho ho'
theorem RepO.clamp {p x k K c c' q o} (h : RepO s lines p x k K c q o) (hc : clampC p c = clampC p c') : RepO s lines p x k K c' q o := by
  obtain ⟨n, m, h⟩ := h
  exact ⟨n, m, Ev.sim s lines h (.rep hc) (KSim.refl _)⟩
def at_ (k : Nat) (l : List Parse) : List Parse := l.filter fun q => q.1 == k
def upto (k : Nat) (l : List Parse) : List Parse := l.filter fun q => decide (q.1 ≤ k)
theorem at_append (k : Nat) (a b : List Parse) : at_ k (a ++ b) = at_ k a ++ at_ k b := List.filter_append ..
theorem at_none {k : Nat} {l : List Parse} (h : ∀ q, q ∈ l → q.1 ≠ k) : at_ k l = [] := by
  unfold at_
  rw [List.filter_eq_nil_iff]
  intro q hq
  simpa using h q hq
theorem at_fin {L k : Nat} {l m : List Parse} (h : fin L l = some m) (hl : ∀ q, q ∈ l → q.1 ≤ L) : at_ k m = nub (at_ k l) := by
  unfold fin at h
  split at h
  · cases h
  have := Option.some.inj h; subst this
  unfold at_
  rw [nub_filter, filter_end fun q hq => hl q (nub_mem.1 hq)]
theorem desc_split : ∀ (l : List Parse) (e : Nat), l.Pairwise (fun x y => y.1 ≤ x.1) → l.filter (fun q => decide (q.1 < e + 1)) = at_ e l ++ l.filter fun q => decide (q.1 < e)
  | [], e, _ => rfl
  | a :: l, e, h => by
    rw [List.pairwise_cons] at h
    have ih := desc_split l e h.2
    unfold at_ at ih ⊢
    rcases Nat.lt_trichotomy a.1 e with h1 | h1 | h1
    · have h2 : (a :: l).filter (fun q => q.1 == e) = [] := by
        rw [List.filter_eq_nil_iff]
        intro q hq
        have : q.1 ≤ a.1 := by
          rcases List.mem_cons.1 hq with rfl | hq
          · exact Nat.le_refl _
          · exact h.1 q hq
        simp; omega
      rw [h2, List.nil_append]
      refine List.filter_congr fun q hq => ?_
      have : q.1 ≤ a.1 := by
        rcases List.mem_cons.1 hq with rfl | hq
        · exact Nat.le_refl _
        · exact h.1 q hq
      simp; omega
    · rw [List.filter_cons_of_pos (by simp; omega), List.filter_cons_of_pos (by simp; omega), List.filter_cons_of_neg (by simp; omega), ih, List.cons_append]
    · rw [List.filter_cons_of_neg (by simp; omega), List.filter_cons_of_neg (by simp; omega), List.filter_cons_of_neg (by simp; omega), ih]
def PartF (N : Nat) (x : Re) : Prop := ∀ i k sp l K n o m, i ≤ k → k ≤ s.length → SpOk N s.length sp → parses s lines x i sp = some l → Ev s lines (.try x i k) sp K n o m → o ≠ .over → Fst (NextO s lines K) (at_ k l) o
theorem at_mem {k : Nat} {l : List Parse} {q : Parse} (h : q ∈ at_ k l) : q ∈ l ∧ q.1 = k := by
  have := List.mem_filter.1 h
  exact ⟨this.1, by simpa using this.2⟩
theorem catj_fst {N i k : Nat} {x : Re} {ys : List Re} {sp : Spans} {l : List Parse} {K : Kont} (H : PartF s lines N x) (hk : k ≤ s.length) (hsp : SpOk N s.length sp) (hl : parses s lines x i sp = some l) (hge : ∀ q, q ∈ l → i ≤ q.1) :
    ∀ (c n : Nat) (o : Out) (m : Nat), i + c ≤ k + 1 → Ev s lines (.catj x ys i k c) sp K n o m → o ≠ .over → Fst (CatO s lines ys k K) (l.filter fun q => decide (q.1 < i + c)) o
  | 0, n, o, m, hc, h, ho => by
    cases h
    have : l.filter (fun q => decide (q.1 < i + 0)) = [] := by
      rw [List.filter_eq_nil_iff]
      intro q hq
      have := hge q hq
      simp; omega
    rw [this]
    exact .nil
  | c + 1, n, o, m, hc, h, ho => by
    have hcv : ∀ a o, a ∈ at_ (i + c) l → o ≠ .over → NextO s lines (.cat ys (i + c) k K) a o → CatO s lines ys k K a o := by
      rintro a o ha - ⟨n, m, he⟩
      cases he with
      | nextCat hn => exact ⟨n, m, by rw [(at_mem ha).2]; exact hn⟩
    rw [show i + (c + 1) = i + c + 1 by omega, desc_split l (i + c) (parses_neat hl).1]
    refine Fst.join ?_
    cases h with
    | catjHit hn hf =>
      have h1 := (H i (i + c) sp l _ _ _ _ (by omega) (by omega) hsp hl hn ho).mono hcv
      cases o with
      | found y => exact .inl ⟨y, rfl, h1⟩
      | fail => exact absurd rfl hf
      | over => exact absurd rfl ho
    | catjMiss hn hr =>
      have h1 := (H i (i + c) sp l _ _ _ _ (by omega) (by omega) hsp hl hn (by intro h; cases h)).mono hcv
      exact .inr ⟨h1, catj_fst H hk hsp hl hge c _ _ _ (by omega) hr ho⟩
def EndO (p : Pay) (k : Nat) (K : Kont) (c : Nat) (q : Parse) (o : Out) : Prop := (q.1 = k ∧ p.lo ≤ (c : Int)) ∧ NextO s lines K q o ∨ ¬ (q.1 = k ∧ p.lo ≤ (c : Int)) ∧ o = .fail
theorem repj_fst {N i k lo c : Nat} {p : Pay} {x : Re} {sp : Spans} {l : List Parse} {K : Kont} (H : PartF s lines N x) (hk : k ≤ s.length) (hsp : SpOk N s.length sp) (hl : parses s lines x i (unset sp (withinOf x)) = some l) (hlo : i ≤ lo) :
    ∀ (q n : Nat) (o : Out) (m : Nat), lo + q ≤ k + 1 ∨ q = 0 → Ev s lines (.repj p x c i k lo q) sp K n o m → o ≠ .over →
      (∃ y, o = .found y ∧ Fst (RepO s lines p x k K (c + 1)) ((l.filter fun a => decide (lo ≤ a.1)).filter fun a => decide (a.1 < lo + q)) o) ∨ (Fst (RepO s lines p x k K (c + 1)) ((l.filter fun a => decide (lo ≤ a.1)).filter fun a => decide (a.1 < lo + q)) .fail ∧ EndO s lines p k K c (i, sp) o)
  | 0, n, o, m, hc, h, ho => by
    have e : (l.filter fun a => decide (lo ≤ a.1)).filter (fun a => decide (a.1 < lo + 0)) = [] := by
      rw [List.filter_eq_nil_iff]
      intro q hq
      have := (List.mem_filter.1 hq).2
      simp at this
      simp; omega
    rw [e]
    refine .inr ⟨.nil, ?_⟩
    cases h with
    | repjEnd h hn => exact .inl ⟨h, n, m, hn⟩
    | repjFail h => exact .inr ⟨h, rfl⟩
  | q + 1, n, o, m, hc, h, ho => by
    have e1 : at_ (lo + q) (l.filter fun a => decide (lo ≤ a.1)) = at_ (lo + q) l := by
      unfold at_
      rw [List.filter_filter]
      refine List.filter_congr fun a _ => ?_
      by_cases ha : a.1 = lo + q
      · simp [ha]
      · simp [ha]
    have hcv : ∀ a o, a ∈ at_ (lo + q) (l.filter fun a => decide (lo ≤ a.1)) → o ≠ .over → NextO s lines (.rep p x (c + 1) (lo + q) k K) a o → RepO s lines p x k K (c + 1) a o := by
      rintro a o ha - ⟨n, m, he⟩
      cases he with
      | nextRep hn => exact ⟨n, m, by rw [(at_mem ha).2]; exact hn⟩
    rw [show lo + (q + 1) = lo + q + 1 by omega, desc_split _ (lo + q) (List.Pairwise.filter _ (parses_neat hl).1)]
    cases h with
    | repjHit hn hf =>
      have h1 := H i (lo + q) _ l _ _ _ _ (by omega) (by omega) (hsp.unset _) hl hn ho
      rw [← e1] at h1
      have h1 := h1.mono hcv
      cases o with
      | found y => exact .inl ⟨y, rfl, h1.found _⟩
      | fail => exact absurd rfl hf
      | over => exact absurd rfl ho
    | repjMiss hn hr =>
      have h1 := H i (lo + q) _ l _ _ _ _ (by omega) (by omega) (hsp.unset _) hl hn (by intro h; cases h)
      rw [← e1] at h1
      have h1 := h1.mono hcv
      rcases repj_fst H hk hsp hl hlo q _ _ _ (.inl (by omega)) hr ho with ⟨y, hy, h2⟩ | ⟨h2, h3⟩
      · exact .inl ⟨y, hy, h1.after h2⟩
      · exact .inr ⟨h1.after h2, h3⟩
theorem rep_beyond {p : Pay} {x : Re} {k : Nat} {K : Kont} {c : Nat} {q : Parse} (h : k < q.1) : RepO s lines p x k K c q .fail := by
  refine ⟨0, 0, ?_⟩
  have hf : ¬ (q.1 = k ∧ p.lo ≤ (c : Int)) := by omega
  by_cases hm : mayRep p c
  · refine .repMay hm ?_
    have : k + 1 - repLow p c q.1 = 0 := by unfold repLow; split <;> omega
    rw [this]
    exact .repjFail hf
  · exact .repNot hm (.repjFail hf)
theorem rep_fst {N i k c : Nat} {p : Pay} {x : Re} {sp : Spans} {K : Kont} {o : Out} (H : PartF s lines N x) (hk : k ≤ s.length) (hsp : SpOk N s.length sp) (h : RepO s lines p x k K c (i, sp) o) (ho : o ≠ .over) :
    (mayRep p c → ∀ l, parses s lines x i (unset sp (withinOf x)) = some l → (∀ q, q ∈ l → i ≤ q.1) →
      (∃ y, o = .found y ∧ Fst (RepO s lines p x k K (c + 1)) (l.filter fun a => !decide (a.1 = i ∧ p.lo ≤ (c : Int))) o) ∨ (Fst (RepO s lines p x k K (c + 1)) (l.filter fun a => !decide (a.1 = i ∧ p.lo ≤ (c : Int))) .fail ∧ EndO s lines p k K c (i, sp) o)) ∧
    (¬ mayRep p c → EndO s lines p k K c (i, sp) o) := by
  obtain ⟨n, m, h⟩ := h
  replace h : Ev s lines (.rep p x c i k) sp K n o m := h
  cases h with
  | repMay hm hn =>
    refine ⟨fun _ l hl hge => ?_, fun h => absurd hm h⟩
    have hlo : i ≤ repLow p c i := by unfold repLow; split <;> omega
    have h1 := repj_fst s lines H hk hsp hl hlo _ _ _ _ (by omega) hn ho
    have e : (l.filter fun a => decide (repLow p c i ≤ a.1)).filter (fun a => decide (a.1 < repLow p c i + (k + 1 - repLow p c i))) = (l.filter fun a => !decide (a.1 = i ∧ p.lo ≤ (c : Int))).filter fun a => decide (a.1 ≤ k) := by
      rw [List.filter_filter, List.filter_filter]
      refine List.filter_congr fun a ha => ?_
      have := hge a ha
      rw [Bool.eq_iff_iff]
      simp only [Bool.and_eq_true, decide_eq_true_eq, Bool.not_eq_true', decide_eq_false_iff_not]
      unfold repLow
      split <;> omega
    rw [e] at h1
    have hb : ∀ a, a ∈ l.filter (fun a => !decide (a.1 = i ∧ p.lo ≤ (c : Int))) → decide (a.1 ≤ k) = false → RepO s lines p x k K (c + 1) a .fail := fun a _ hd => rep_beyond s lines (by simpa using hd)
    rcases h1 with ⟨y, hy, h1⟩ | ⟨h1, h2⟩
    · exact .inl ⟨y, hy, h1.more _ hb⟩
    · exact .inr ⟨h1.more _ hb, h2⟩
  | repNot hm hn =>
    refine ⟨fun h => absurd h hm, fun _ => ?_⟩
    cases hn with
    | repjEnd h hn => exact .inl ⟨h, n, m, hn⟩
    | repjFail h => exact .inr ⟨h, rfl⟩
theorem visit_app {p : Pay} {gs : List Nat} {child : Nat → Spans → Option (List Parse)} : ∀ (f : Nat) (x : Sit) (st st' : List Sit × List Parse), visit p gs child f x st = some st' → ∃ add, st'.2 = st.2 ++ add
  | 0, _, _, _, h => by cases h
  | f + 1, x, st, st', h => by
    rw [visit_succ] at h
    split at h
    · have := Option.some.inj h; subst this; exact ⟨[], by simp⟩
    split at h
    · cases h
    obtain ⟨s2, h1, h2⟩ := Option.bind_eq_some_iff.1 h
    have := Option.some.inj h2; subst this
    have h3 : ∃ add, s2.2 = st.2 ++ add := by
      split at h1
      · obtain ⟨l, -, h4⟩ := Option.bind_eq_some_iff.1 h1
        refine foldlM_inv (P := fun u : List Sit × List Parse => ∃ add, u.2 = st.2 ++ add) l _ s2 h4 ⟨[], by simp⟩ fun u a u' _ hu hf => ?_
        split at hf
        · have := Option.some.inj hf; subst this; exact hu
        · obtain ⟨a1, e1⟩ := hu
          obtain ⟨a2, e2⟩ := visit_app f _ _ _ hf
          exact ⟨a1 ++ a2, by rw [e2, e1, List.append_assoc]⟩
      · have := Option.some.inj h1; subst this; exact ⟨[], by simp⟩
    obtain ⟨a1, e1⟩ := h3
    dsimp only
    split
    · exact ⟨a1 ++ [x.2], by rw [e1, List.append_assoc]⟩
    · exact ⟨a1, e1⟩
def Fld (p : Pay) (x : Re) (k : Nat) (K : Kont) (v : Sit) : Prop := ∃ c, clampC p c = v.1 ∧ RepO s lines p x k K c v.2 .fail
end
end Go.Proofs.Ythnpbopnpdlmnaa

/- The first parse that does: repetitions, and all trees. -/
namespace Go.Proofs.Ythnpbopnpdlmnaa
open Go.RowKit

section
variable (s : List UInt8) (lines : Bool)
theorem fold_app {p : Pay} {gs : List Nat} {child : Nat → Spans → Option (List Parse)} {f i cc : Nat} {l : List Parse} {st s2 : List Sit × List Parse} (h : l.foldlM (fun st q => if q.1 = i ∧ p.lo ≤ (cc : Int) then some st else visit p gs child f (cc + 1, q.1, q.2) st) st = some s2) : ∃ add, s2.2 = st.2 ++ add := by
  refine foldlM_inv (P := fun u : List Sit × List Parse => ∃ add, u.2 = st.2 ++ add) l _ s2 h ⟨[], by simp⟩ fun u a u' _ hu hf => ?_
  split at hf
  · have := Option.some.inj hf; subst this; exact hu
  · obtain ⟨a1, e1⟩ := hu
    obtain ⟨a2, e2⟩ := visit_app f _ _ _ hf
    exact ⟨a1 ++ a2, by rw [e2, e1, List.append_assoc]⟩
theorem visit_fst {N k : Nat} {p : Pay} {x : Re} {K : Kont} (H : PartF s lines N x) (hx : x.ok N) (hr : -1 ≤ p.hi) (hk : k ≤ s.length) :
    ∀ (f c i : Nat) (sp : Spans) (st st' : List Sit × List Parse) (o : Out), visit p (withinOf x) (parses s lines x) f (c, i, sp) st = some st' → SpOk N s.length sp → i ≤ s.length →
      (∀ v, v ∈ st.1 → (v.1 < clampC p c ∨ v.1 = clampC p c ∧ v.2.1 < i) ∨ Fld s lines p x k K v) → RepO s lines p x k K c (i, sp) o → o ≠ .over →
      (∃ add, st'.2 = st.2 ++ add ∧ Fst (NextO s lines K) (at_ k add) o) ∧ (o = .fail → ∀ v, v ∈ st'.1 → v ∈ st.1 ∨ Fld s lines p x k K v)
  | 0, c, i, sp, st, st', o, h, _, _, _, _, _ => by cases h
  | f + 1, c, i, sp, st, st', o, h, hsp, hi, hv, hre, ho => by
    have hre := hre.clamp s lines (clampC_clampC p c).symm
    have hcc := clampC_clampC p c
    rw [visit_succ] at h
    dsimp only at h
    generalize clampC p c = cc at *
    split at h
    · rename_i hm
      have := Option.some.inj h; subst this
      rcases hv _ hm with h1 | ⟨c', h1, h2⟩
      · dsimp only at h1; omega
      · have h3 := hre.clamp s lines (c' := c') (by rw [h1, hcc])
        obtain rfl := RepO.same s lines h3 h2 ho (by intro h; cases h)
        exact ⟨⟨[], by simp, .nil⟩, fun _ v hv => .inl hv⟩
    split at h
    · cases h
    obtain ⟨s2, h1, h2⟩ := Option.bind_eq_some_iff.1 h
    clear h
    have hst' := (Option.some.inj h2).symm
    clear h2
    have fold : ∀ (l : List Parse) (st1 s2 : List Sit × List Parse) (o' : Out), (∀ q, q ∈ l → POk N s.length i q) → l.foldlM (fun st q => if q.1 = i ∧ p.lo ≤ (cc : Int) then some st else visit p (withinOf x) (parses s lines x) f (cc + 1, q.1, q.2) st) st1 = some s2 →
        (∀ v, v ∈ st1.1 → (v.1 < cc ∨ v.1 = cc ∧ v.2.1 ≤ i) ∨ Fld s lines p x k K v) → Fst (RepO s lines p x k K (cc + 1)) (l.filter fun a => !decide (a.1 = i ∧ p.lo ≤ (cc : Int))) o' →
        (∃ add, s2.2 = st1.2 ++ add ∧ Fst (NextO s lines K) (at_ k add) o') ∧ (o' = .fail → ∀ v, v ∈ s2.1 → v ∈ st1.1 ∨ Fld s lines p x k K v) := by
      intro l
      induction l with
      | nil =>
        intro st1 s2 o' _ h _ hf
        have := Option.some.inj h; subst this
        cases hf
        exact ⟨⟨[], by simp, .nil⟩, fun _ v hv => .inl hv⟩
      | cons a l ih =>
        intro st1 s2 o' hl h hv1 hf
        rw [List.foldlM_cons] at h
        obtain ⟨u, h3, h4⟩ := Option.bind_eq_some_iff.1 h
        have ha := hl a (by simp)
        have hl' : ∀ q, q ∈ l → POk N s.length i q := fun q hq => hl q (by simp [hq])
        by_cases hs : a.1 = i ∧ p.lo ≤ (cc : Int)
        · rw [if_pos hs] at h3
          have := Option.some.inj h3; subst this
          rw [List.filter_cons_of_neg (by simp [hs])] at hf
          exact ih _ _ _ hl' h4 hv1 hf
        · rw [if_neg hs] at h3
          rw [List.filter_cons_of_pos (by rw [Bool.not_eq_true', decide_eq_false_iff_not]; exact hs)] at hf
          have hkid : ∀ v, v ∈ st1.1 → (v.1 < clampC p (cc + 1) ∨ v.1 = clampC p (cc + 1) ∧ v.2.1 < a.1) ∨ Fld s lines p x k K v := fun v hv => by
            refine (hv1 v hv).imp (fun h => ?_) id
            have h5 := ha.1
            unfold clampC at hcc ⊢
            split at hcc <;> split <;> omega
          cases hf with
          | hit hf =>
            obtain ⟨⟨a1, e1, f1⟩, -⟩ := visit_fst H hx hr hk f (cc + 1) a.1 a.2 st1 u _ h3 ha.2.2 ha.2.1 hkid hf (by intro h; cases h)
            obtain ⟨a2, e2⟩ := fold_app h4
            exact ⟨⟨a1 ++ a2, by rw [e2, e1, List.append_assoc], by rw [at_append]; exact f1.found _⟩, fun h => by cases h⟩
          | miss hf hfl =>
            obtain ⟨⟨a1, e1, f1⟩, g1⟩ := visit_fst H hx hr hk f (cc + 1) a.1 a.2 st1 u _ h3 ha.2.2 ha.2.1 hkid hf (by intro h; cases h)
            have g1 := g1 rfl
            obtain ⟨⟨a2, e2, f2⟩, g2⟩ := ih u s2 o' hl' h4 (fun v hv => (g1 v hv).elim (hv1 v) .inr) hfl
            exact ⟨⟨a1 ++ a2, by rw [e2, e1, List.append_assoc], by rw [at_append]; exact f1.after f2⟩, fun h v hv => (g2 h v hv).elim (g1 v) .inr⟩
    have hself : o = .fail → Fld s lines p x k K (cc, i, sp) := fun h => ⟨cc, hcc, by subst h; exact hre⟩
    have hmem : ∀ v, v ∈ st.1 ++ [(cc, i, sp)] → (v.1 < cc ∨ v.1 = cc ∧ v.2.1 ≤ i) ∨ Fld s lines p x k K v := fun v hm => by
      rcases List.mem_append.1 hm with hm | hm
      · exact (hv v hm).imp (fun h => by omega) id
      · have := List.mem_singleton.1 hm; subst this
        exact .inl (.inr ⟨rfl, Nat.le_refl _⟩)
    have hrp := rep_fst s lines H hk hsp hre ho
    have hend : ∀ add : List Parse, EndO s lines p k K cc (i, sp) o → Fst (NextO s lines K) (at_ k add) .fail → Fst (NextO s lines K) (at_ k (if p.lo ≤ (cc : Int) then add ++ [(i, sp)] else add)) o := by
      intro add he hf
      rcases he with ⟨⟨e1, e2⟩, e3⟩ | ⟨e1, rfl⟩
      · rw [if_pos e2, at_append]
        refine hf.after ?_
        unfold at_
        rw [List.filter_cons_of_pos (by simpa using e1)]
        cases o with
        | found y => exact .hit e3
        | fail => exact .miss e3 .nil
        | over => exact absurd rfl ho
      · split
        · rename_i e2
          rw [at_append]
          refine hf.after ?_
          rw [at_none (by intro q hq; have := List.mem_singleton.1 hq; subst this; exact fun h => e1 ⟨h, e2⟩)]
          exact .nil
        · exact hf
    have hout : ∀ add : List Parse, st.2 ++ (if p.lo ≤ (cc : Int) then add ++ [(i, sp)] else add) = if p.lo ≤ (cc : Int) then (st.2 ++ add) ++ [(i, sp)] else st.2 ++ add := fun add => by
      split
      · rw [List.append_assoc]
      · rfl
    subst hst'
    dsimp only
    split at h1
    · rename_i hmay
      obtain ⟨l, h3, h4⟩ := Option.bind_eq_some_iff.1 h1
      have hl := parses_ok s lines N x i _ l hx hi (hsp.unset _) h3
      have hmay' : mayRep p cc := by unfold mayRep; omega
      rcases hrp.1 hmay' l h3 (fun q hq => (hl q hq).1) with ⟨y, rfl, h5⟩ | ⟨h5, h6⟩
      · obtain ⟨⟨a1, e1, f1⟩, -⟩ := fold l _ s2 _ hl h4 hmem h5
        refine ⟨⟨if p.lo ≤ (cc : Int) then a1 ++ [(i, sp)] else a1, by rw [hout, e1], ?_⟩, fun h => by cases h⟩
        split
        · rw [at_append]; exact f1.found _
        · exact f1
      · obtain ⟨⟨a1, e1, f1⟩, g1⟩ := fold l _ s2 _ hl h4 hmem h5
        refine ⟨⟨if p.lo ≤ (cc : Int) then a1 ++ [(i, sp)] else a1, by rw [hout, e1], hend a1 h6 f1⟩, fun hfl v hv => ?_⟩
        rcases g1 rfl v hv with h7 | h7
        · rcases List.mem_append.1 h7 with h7 | h7
          · exact .inl h7
          · have := List.mem_singleton.1 h7; subst this
            exact .inr (hself hfl)
        · exact .inr h7
    · rename_i hmay
      have := Option.some.inj h1; subst this
      have hmay' : ¬ mayRep p cc := by unfold mayRep; omega
      refine ⟨⟨if p.lo ≤ (cc : Int) then [] ++ [(i, sp)] else [], by rw [hout]; simp, hend [] (hrp.2 hmay') .nil⟩, fun hfl v hv => ?_⟩
      rcases List.mem_append.1 hv with h7 | h7
      · exact .inl h7
      · have := List.mem_singleton.1 h7; subst this
        exact .inr (hself hfl)
theorem mapM_flat {α β : Type} {f : α → Option (List β)} : ∀ (l : List α) (m : List (List β)), l.mapM f = some m → m.flatten = (l.flatMap fun a => (f a).getD []) ∧ ∀ a, a ∈ l → ∃ b, f a = some b
  | [], m, h => by simp at h; subst h; simp
  | a :: l, m, h => by
    rw [List.mapM_cons] at h
    cases h1 : f a with
    | none => simp [h1] at h
    | some b0 =>
      cases h2 : l.mapM f with
      | none => simp [h1, h2] at h
      | some m0 =>
        simp [h1, h2] at h
        subst h
        have ih := mapM_flat l m0 h2
        refine ⟨by rw [List.flatten_cons, List.flatMap_cons, ih.1, h1]; rfl, fun b hb => ?_⟩
        rcases List.mem_cons.1 hb with rfl | hb
        · exact ⟨b0, h1⟩
        · exact ih.2 b hb
theorem at_flat {α : Type} (k : Nat) (f : α → List Parse) (l : List α) : at_ k (l.flatMap f) = l.flatMap fun a => at_ k (f a) := by
  unfold at_
  rw [List.filter_flatMap]
theorem upto_flat {α : Type} (k : Nat) (f : α → List Parse) (l : List α) : upto k (l.flatMap f) = l.flatMap fun a => upto k (f a) := by
  unfold upto
  rw [List.filter_flatMap]
theorem flatMap_upto {k : Nat} {g : Parse → List Parse} : ∀ l : List Parse, (∀ q, q ∈ l → k < q.1 → g q = []) → l.flatMap g = (upto k l).flatMap g
  | [], _ => rfl
  | a :: l, h => by
    have ih := flatMap_upto l fun q hq => h q (by simp [hq])
    unfold upto at ih ⊢
    by_cases ha : a.1 ≤ k
    · rw [List.filter_cons_of_pos (by simpa using ha), List.flatMap_cons, List.flatMap_cons, ih]
    · rw [List.filter_cons_of_neg (by simpa using ha), List.flatMap_cons, h a (by simp) (by omega), ih]; rfl
theorem cat_fst {N k i0 : Nat} {K : Kont} (hk : k ≤ s.length) : ∀ (xs : List Re) (l m : List Parse) (o : Out), xs ≠ [] → Re.oks N xs → (∀ x, x ∈ xs → PartF s lines N x) → (∀ q, q ∈ l → POk N s.length i0 q) → catP s lines xs l = some m → Fst (CatO s lines xs k K) (upto k l) o → Fst (NextO s lines K) (at_ k m) o
  | [], l, m, o, h, _, _, _, _, _ => absurd rfl h
  | [x], l, m, o, _, hok, H, hl, h, hf => by
    rw [catP] at h
    obtain ⟨ms, h1, h2⟩ := Option.bind_eq_some_iff.1 h
    split at h2
    · cases h2
    rw [catP] at h2
    have := Option.some.inj h2; subst this
    rw [Re.oks] at hok
    obtain ⟨e1, e2⟩ := mapM_flat l ms h1
    rw [e1]
    unfold at_
    rw [← nub_filter]
    refine Fst.nub (NextO.fn s lines K) ?_
    show Fst _ (at_ k _) o
    rw [at_flat, flatMap_upto (k := k) l]
    · refine hf.flat fun a o' ha ho hc => ?_
      have ha2 := List.mem_filter.1 ha
      obtain ⟨b, hb⟩ := e2 a ha2.1
      rw [hb]
      obtain ⟨n, m', hc⟩ := hc
      cases hc with
      | catOne hn => exact H x (by simp) a.1 k a.2 b K _ _ _ (by simpa using ha2.2) hk (hl a ha2.1).2.2 hb hn ho
    · intro q hq hkq
      obtain ⟨b, hb⟩ := e2 q hq
      rw [hb]
      refine at_none fun z hz => ?_
      have := (parses_ok s lines N x q.1 q.2 b hok.1 (hl q hq).2.1 (hl q hq).2.2 hb z hz).1
      omega
  | x :: y :: ys, l, m, o, _, hok, H, hl, h, hf => by
    rw [catP] at h
    obtain ⟨ms, h1, h2⟩ := Option.bind_eq_some_iff.1 h
    split at h2
    · cases h2
    rw [Re.oks] at hok
    obtain ⟨e1, e2⟩ := mapM_flat l ms h1
    have hms : ∀ q, q ∈ nub ms.flatten → POk N s.length i0 q := fun q hq => by
      obtain ⟨b, hb, hqb⟩ := List.mem_flatten.1 (nub_mem.1 hq)
      refine mapM_inv (P := fun b : List Parse => ∀ q, q ∈ b → POk N s.length i0 q) l ms h1 (fun a b ha hf q hq => ?_) b hb q hqb
      have h3 := hl a ha
      have := parses_ok s lines N x a.1 a.2 b hok.1 h3.2.1 h3.2.2 hf q hq
      exact ⟨Nat.le_trans h3.1 this.1, this.2⟩
    refine cat_fst hk (y :: ys) (nub ms.flatten) m o (by simp) hok.2 (fun z hz => H z (by simp only [List.mem_cons] at hz ⊢; exact .inr hz)) hms h2 ?_
    unfold upto
    rw [← nub_filter]
    refine Fst.nub (CatO.fn s lines (y :: ys) k K) ?_
    show Fst _ (upto k _) o
    rw [e1, upto_flat, flatMap_upto (k := k) l]
    · refine hf.flat fun a o' ha ho hc => ?_
      have ha2 := List.mem_filter.1 ha
      have hak : a.1 ≤ k := by simpa using ha2.2
      obtain ⟨b, hb⟩ := e2 a ha2.1
      rw [hb]
      obtain ⟨n, m', hc⟩ := hc
      cases hc with
      | catMore hn =>
        have h3 := catj_fst s lines (H x (by simp)) hk (hl a ha2.1).2.2 hb (fun z hz => (parses_ok s lines N x a.1 a.2 b hok.1 (hl a ha2.1).2.1 (hl a ha2.1).2.2 hb z hz).1) _ _ _ _ (by omega) hn ho
        have e : b.filter (fun q => decide (q.1 < a.1 + (k + 1 - a.1))) = upto k b := List.filter_congr fun z _ => by simp; omega
        rw [e] at h3
        exact h3
    · intro q hq hkq
      obtain ⟨b, hb⟩ := e2 q hq
      rw [hb]
      show upto k b = []
      unfold upto
      rw [List.filter_eq_nil_iff]
      intro z hz
      have := (parses_ok s lines N x q.1 q.2 b hok.1 (hl q hq).2.1 (hl q hq).2.2 hb z hz).1
      simp; omega
theorem alt_fst {N i k : Nat} {sp : Spans} {K : Kont} (hik : i ≤ k) (hk : k ≤ s.length) (hsp : SpOk N s.length sp) : ∀ (xs : List Re) (l : List Parse) (n : Nat) (o : Out) (m : Nat), (∀ x, x ∈ xs → PartF s lines N x) → altP s lines xs i sp = some l → Ev s lines (.alt xs i k) sp K n o m → o ≠ .over → Fst (NextO s lines K) (at_ k l) o
  | [], l, n, o, m, _, h, he, ho => by
    rw [altP] at h
    have := Option.some.inj h; subst this
    cases he
    exact .nil
  | x :: xs, l, n, o, m, H, h, he, ho => by
    rw [altP] at h
    simp only [Option.bind_eq_some_iff] at h
    obtain ⟨a, h1, b, h2, h3⟩ := h
    have := Option.some.inj h3; subst this
    rw [at_append]
    refine Fst.join ?_
    cases he with
    | altHit hn hf =>
      have h4 := H x (by simp) i k sp a K _ _ _ hik hk hsp h1 hn ho
      cases o with
      | found y => exact .inl ⟨y, rfl, h4⟩
      | fail => exact absurd rfl hf
      | over => exact absurd rfl ho
    | altMiss hn hr => exact .inr ⟨H x (by simp) i k sp a K _ _ _ hik hk hsp h1 hn (by intro h; cases h), alt_fst hik hk hsp xs b _ _ _ (fun z hz => H z (by simp [hz])) h2 hr ho⟩
end
end Go.Proofs.Ythnpbopnpdlmnaa
