/- Two stores of a law, and blocks of the law's own beside them. -/
import Derived.Test.YtnncbbfbnccnbaaPair
import Derived.Test.YtnncbbfbnccnbaaOneOps
namespace Go.Proofs.Ytnncbbfbnccnbaa
open Go.RowKit

/-- Blocks of the law's own, known whole. -/
def Aside (X : List (Nat × List Value × TypeId)) (O : List Nat) (w : World) : Prop := ∀ x, x ∈ X → Row w x.1 x.2.1 x.2.2 ∧ x.1 ∉ O
theorem Aside.more {X : List (Nat × List Value × TypeId)} {O : List Nat} {w w' : World} (h : Aside X O w) (hb : Below w.heap.size w w') : Aside X O w' := fun x hx => by
  obtain ⟨h1, h2⟩ := h x hx
  exact ⟨(hb.block _ h1.lt).trans h1, h2⟩
theorem Aside.but {X : List (Nat × List Value × TypeId)} {O O' S : List Nat} {w w' : World} (h : Aside X O w) (hb : But S w w') (hS : ∀ k, k ∈ S → k ∈ O) (ho : ∀ k, k ∈ O' → k ∈ O ∨ w.heap.size ≤ k) : Aside X O' w' := fun x hx => by
  obtain ⟨h1, h2⟩ := h x hx
  refine ⟨(hb.block _ h1.lt fun hs => h2 (hS _ hs)).trans h1, fun hm => ?_⟩
  rcases ho _ hm with h3 | h3
  · exact h2 h3
  · have := h1.lt; omega
theorem Aside.alloc {X : List (Nat × List Value × TypeId)} {O : List Nat} {w : World} (h : Aside X O w) (hO : ∀ k, k ∈ O → k < w.heap.size) (cs : List Value) (T : TypeId) : Aside ((w.heap.size, cs, T) :: X) O (w.alloc (.cells cs.toArray T)) := fun x hx => by
  rcases List.mem_cons.1 hx with rfl | hx
  · exact ⟨Row.new (by simp), fun hm => by have := hO _ hm; omega⟩
  · exact h.more ((Below.refl _ w).alloc (Nat.le_refl _) _) x hx
def Two (w0 : World) (A B : Nat) (X : List (Nat × List Value × TypeId)) (a b : Ab) (w : World) : Prop := ∃ s u : St, s.ab = a ∧ u.ab = b ∧ Pair stK stK w0 A B s u w ∧ Aside X (s.own A ++ u.own B) w
section
variable {w0 w w' : World} {A B : Nat} {X : List (Nat × List Value × TypeId)} {a b : Ab}
theorem Two.swap (h : Two w0 A B X a b w) : Two w0 B A X b a w := by
  obtain ⟨s, u, e1, e2, hp, hx⟩ := h
  exact ⟨u, s, e2, e1, hp.swap, fun x hm => ⟨(hx x hm).1, fun ho => (hx x hm).2 (by simp only [List.mem_append] at ho ⊢; exact ho.symm)⟩⟩
theorem Two.more (h : Two w0 A B X a b w) (k : Below w.heap.size w w') : Two w0 A B X a b w' := by
  obtain ⟨s, u, e1, e2, hp, hx⟩ := h
  exact ⟨s, u, e1, e2, hp.more k, hx.more k⟩
theorem Two.below (h : Two w0 A B X a b w) : Below w0.heap.size w0 w := by
  obtain ⟨s, u, e1, e2, hp, hx⟩ := h
  exact hp.below
theorem Two.forget (h : Two w0 A B X a b w) : Two w0 A B [] a b w := by
  obtain ⟨s, u, e1, e2, hp, hx⟩ := h
  exact ⟨s, u, e1, e2, hp, fun x hm => by cases hm⟩
theorem Two.row (h : Two w0 A B X a b w) {x : Nat × List Value × TypeId} (hx : x ∈ X) : Row w x.1 x.2.1 x.2.2 := by
  obtain ⟨s, u, e1, e2, hp, h⟩ := h
  exact (h x hx).1
theorem Two.alloc (h : Two w0 A B X a b w) (cs : List Value) (T : TypeId) : Two w0 A B ((w.heap.size, cs, T) :: X) a b (w.alloc (.cells cs.toArray T)) := by
  obtain ⟨s, u, e1, e2, hp, hx⟩ := h
  refine ⟨s, u, e1, e2, hp.more ((Below.refl _ w).alloc (Nat.le_refl _) _), hx.alloc (fun k hk => ?_) cs T⟩
  rcases List.mem_append.1 hk with hk | hk
  · exact (hp.fst.blocks k hk).2
  · exact (hp.snd.blocks k hk).2
theorem Two.step {s s' u : St} (hp : Pair stK stK w0 A B s u w) (hx : Aside X (s.own A ++ u.own B) w) (k : Step w0.heap.size A s s' w w') : Two w0 A B X s'.ab u.ab w' := by
  refine ⟨s', u, rfl, rfl, hp.step k.moved, hx.but k.but (fun i hi => List.mem_append.2 (.inl hi)) fun i hi => ?_⟩
  rcases List.mem_append.1 hi with hi | hi
  · rcases k.own i hi with h1 | h1
    · exact .inl (List.mem_append.2 (.inl h1))
    · exact .inr h1
  · exact .inl (List.mem_append.2 (.inr hi))
theorem Two.call (h : Two w0 A B X a b w) (g : a.good) (c : CallD) (hc : c.fit) :
    Calls Try.prog 16 #[.pointer (some ⟨A, 0, none⟩), .agg c.cells.toArray] w fun e w' => e = .returned (.agg #[.string ⟨(a.call c).1.1.toArray⟩, .int .i64 (a.call c).1.2]) ∧ Two w0 A B X (a.call c).2 b w' := by
  obtain ⟨s, u, rfl, rfl, hp, hx⟩ := h
  have hf := ents_len s
  refine (do_any w A w0.heap.size s c hp.fst g.ok (by have := g.few; omega) hc hp.below.size).mono ?_
  rintro e1 w' ⟨s', rfl, h3, h4⟩
  have := Two.step hp hx h4
  rw [h3] at this
  exact ⟨rfl, this⟩
theorem Two.call2 (h : Two w0 A B X a b w) (g : b.good) (c : CallD) (hc : c.fit) :
    Calls Try.prog 16 #[.pointer (some ⟨B, 0, none⟩), .agg c.cells.toArray] w fun e w' => e = .returned (.agg #[.string ⟨(b.call c).1.1.toArray⟩, .int .i64 (b.call c).1.2]) ∧ Two w0 A B X a (b.call c).2 w' :=
  (h.swap.call g c hc).mono fun _ _ h => ⟨h.1, h.2.swap⟩
theorem Two.up (h : Two w0 A B X a b w) (g : a.good) (c : CallD) (hc : c.n ≤ 9223372036854775807) : a.up (a.call c).2 := by
  obtain ⟨s, u, rfl, rfl, hp, hx⟩ := h
  exact g.call (St.At.apart' hp.fst) c hc
theorem Two.fail (h : Two w0 A B X a b w) (n : Int) : Calls Try.prog 23 #[.pointer (some ⟨A, 0, none⟩), .int .i64 n] w fun e w' => e = .returned (.tuple #[]) ∧ Two w0 A B X (a.fail n) b w' := by
  obtain ⟨s, u, rfl, rfl, hp, hx⟩ := h
  refine (FailAfter_any w A w0.heap.size s n hp.fst).mono ?_
  rintro e1 w' ⟨rfl, h4⟩
  have := Two.step hp hx h4
  refine ⟨rfl, ?_⟩
  have e : (if s.crash = true then s else { s with count := max n 0 }).ab = s.ab.fail n := by
    unfold Ab.fail
    show _ = if s.crash = true then _ else _
    split <;> rfl
  rwa [e] at this
theorem Two.peak (h : Two w0 A B X a b w) : Calls Try.prog 21 #[.pointer (some ⟨A, 0, none⟩)] w fun e w' => e = .returned (.int .i64 a.peak) ∧ w' = w := by
  obtain ⟨s, u, rfl, rfl, hp, hx⟩ := h
  exact Peak_any w A _ s hp.fst
theorem Two.peak2 (h : Two w0 A B X a b w) : Calls Try.prog 21 #[.pointer (some ⟨B, 0, none⟩)] w fun e w' => e = .returned (.int .i64 b.peak) ∧ w' = w := h.swap.peak
def Li2Post (w0 : World) (A B : Nat) (X : List (Nat × List Value × TypeId)) (a b : Ab) (L : List Fl) (w : World) (e : Ending) (w' : World) : Prop := ∃ p cap, e = .returned (.slice p L.length cap) ∧ FilesAt w' p L ∧ Two w0 A B X a b w' ∧ Below w.heap.size w w'
theorem Two.list (h : Two w0 A B X a b w) (g : a.good) : Calls Try.prog 19 #[.pointer (some ⟨A, 0, none⟩)] w (Li2Post w0 A B X a b a.files w) := by
  obtain ⟨s, u, rfl, rfl, hp, hx⟩ := h
  have hf := ents_len s
  refine (List_any w A w0.heap.size s hp.fst (by have := g.few; omega) (fun f hfm => by have := ok_text g.ok (f := f.fl) (List.mem_map_of_mem hfm); have e : f.fl.text.length = f.text.length := rfl; omega)).mono ?_
  rintro e w' ⟨p, c, rfl, hown, hb⟩
  rw [← hf] at hown ⊢
  exact ⟨p, c, rfl, hown.files, Two.more ⟨s, u, rfl, rfl, hp, hx⟩ hb, hb⟩
theorem Two.list2 (h : Two w0 A B X a b w) (g : b.good) : Calls Try.prog 19 #[.pointer (some ⟨B, 0, none⟩)] w (Li2Post w0 A B X a b b.files w) :=
  (h.swap.list g).mono fun _ _ ⟨p, c, h1, h2, h3, h4⟩ => ⟨p, c, h1, h2, h3.swap, h4⟩
end
theorem Two.new {w0 w1 : World} {n : Int} {A : Nat} {a : Ab} (h : One w0 A a w1) : Calls Try.prog 9 #[.int .i64 n] w1 fun e w' => e = .returned (.pointer (some ⟨w1.heap.size + 1, 0, none⟩)) ∧ Two w0 A (w1.heap.size + 1) [] a ⟨min (max n 0) 262144, 0, 0, [], false, 0⟩ w' := by
  obtain ⟨s, rfl, h1, h2⟩ := h
  refine (New_any n w1).mono ?_
  rintro e w' ⟨rfl, h3, h4⟩
  refine ⟨rfl, s, _, rfl, rfl, ⟨h1.below h4 (Nat.le_refl _), h3.lower h2.size, fun k hk hk2 => ?_, h2.trans (h4.mono h2.size)⟩, fun x hm => by cases hm⟩
  have g1 := (h1.blocks k hk).2
  have g2 := (h3.blocks k hk2).1
  omega
end Go.Proofs.Ytnncbbfbnccnbaa
